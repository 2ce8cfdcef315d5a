/- ReuseNames: the names that reuse writes are its own. No condition. -/
import Derived.Test.YtaffaeompdlecaaH9
import Derived.Test.YtaffaeompdlecaaL
namespace Go.Proofs.Ytaffaeompdlecaa
open Go.ChangeShapes Go.WideShapes Go.ChangeAt Go.RowKit Go.Joins

set_option maxRecDepth 100000 in
theorem reuseNames_lifted (os : Os) (started : os.Started) (H : Type) (enc : TypeId × Value → H) :
    ReturnsInHanded {} Try.checked os 13 .any (Rows.reuseNamesSpec.pre6 enc Try.prog Try.f13 Rows.reuseNamesRow.domain false) (Rows.reuseNamesSpec.post enc Try.prog Try.f13 false true false false) := by
  refine law_lifted (fn := Try.f13) started (by kernel_rfl) Try.func13
    (ChangeSpec.witness6 (enc := enc) (C := Try.checked) false ⟨#[], #[], []⟩ 8 (by kernel_rfl) (by kernel_rfl) (by kernel_rfl) (by kernel_rfl))
    rfl (by kernel_rfl) Try.underlying4 (of_decide_eq_true (by kernel_rfl)) ?_ ?_
  · intro ds hl
    match ds, hl with
    | [], _ => rfl
  · intro W base args ds ps hval hA _
    have hp : Try.f13.params.toList = [] := by kernel_rfl
    rw [hp] at hA hval
    obtain ⟨hargs, rfl, rfl⟩ := trodAll_nil hA
    obtain rfl : args = #[] := by cases args; simp_all
    exact (reuseNames_any W).mono fun e w' ⟨he, hx⟩ => ⟨he, hx.below⟩

theorem reuseNames_holds : Rows.ReuseNamesSaid :=
  OpenClaim.holds_of_wide 13 Try.f13 rfl rfl rfl rfl rfl rfl rfl ⟨rfl, rfl, rfl, rfl, rfl⟩ rfl rfl rfl rfl rfl (by kernel_rfl) Try.func13 (by kernel_rfl)
    (of_decide_eq_true (by kernel_rfl)) (by unfold Func.isWrapper; first | (rw [if_pos (by decide +kernel)]; kernel_rfl) | (rw [if_neg (by decide +kernel)]; exact ⟨rfl, rfl⟩))
    (fun os started H enc _ => reuseNames_lifted os started H enc)
#print axioms reuseNames_holds
end Go.Proofs.Ytaffaeompdlecaa
