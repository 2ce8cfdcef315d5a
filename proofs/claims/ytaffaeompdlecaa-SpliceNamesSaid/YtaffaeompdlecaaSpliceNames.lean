/- SpliceNames: the chapter's example comes out as it tells. No condition. -/
import Derived.Test.YtaffaeompdlecaaV9
import Derived.Test.YtaffaeompdlecaaL
namespace Go.Proofs.Ytaffaeompdlecaa
open Go.ChangeShapes Go.WideShapes Go.ChangeAt Go.RowKit Go.Joins

set_option maxRecDepth 100000 in
theorem spliceNames_lifted (os : Os) (started : os.Started) (H : Type) (enc : TypeId × Value → H) :
    ReturnsInHanded {} Try.checked os 18 .any (Rows.spliceNamesSpec.pre6 enc Try.prog Try.f18 Rows.spliceNamesRow.domain false) (Rows.spliceNamesSpec.post enc Try.prog Try.f18 false true false false) := by
  refine law_lifted (fn := Try.f18) started (by kernel_rfl) Try.func18
    (ChangeSpec.witness6 (enc := enc) (C := Try.checked) false ⟨#[], #[], []⟩ 8 (by kernel_rfl) (by kernel_rfl) (by kernel_rfl) (by kernel_rfl))
    rfl (by kernel_rfl) Try.underlying4 (of_decide_eq_true (by kernel_rfl)) ?_ ?_
  · intro ds hl
    match ds, hl with
    | [], _ => rfl
  · intro W base args ds ps hval hA _
    have hp : Try.f18.params.toList = [] := by kernel_rfl
    rw [hp] at hA hval
    obtain ⟨hargs, rfl, rfl⟩ := trodAll_nil hA
    obtain rfl : args = #[] := by cases args; simp_all
    exact (spliceNames_any W).mono fun e w' ⟨he, hx⟩ => ⟨he, hx.below⟩

theorem spliceNames_holds : Rows.SpliceNamesSaid :=
  OpenClaim.holds_of_wide 18 Try.f18 rfl rfl rfl rfl rfl rfl rfl ⟨rfl, rfl, rfl, rfl, rfl⟩ rfl rfl rfl rfl rfl (by kernel_rfl) Try.func18 (by kernel_rfl)
    (of_decide_eq_true (by kernel_rfl)) (by unfold Func.isWrapper; first | (rw [if_pos (by decide +kernel)]; kernel_rfl) | (rw [if_neg (by decide +kernel)]; exact ⟨rfl, rfl⟩))
    (fun os started H enc _ => spliceNames_lifted os started H enc)
#print axioms spliceNames_holds
end Go.Proofs.Ytaffaeompdlecaa
