/- JobsNames: the chapter's examples come out as it tells. No condition. -/
import Derived.Test.YtmgpofdmfmeljaaJt
import Derived.Test.YtmgpofdmfmeljaaL
import Derived.Test.YtmgpofdmfmeljaaLd
namespace Go.Proofs.Ytmgpofdmfmeljaa
open Go.ChangeShapes Go.WideShapes Go.ChangeAt Go.RowKit Go.Joins

set_option maxRecDepth 100000 in
theorem jobsNames_lifted (os : Os) (started : os.Started) (H : Type) (enc : TypeId × Value → H) :
    ReturnsInHanded {} Try.checked os 5 .any (Rows.jobsNamesSpec.pre6 enc Try.prog Try.f5 Rows.jobsNamesRow.domain false) (Rows.jobsNamesSpec.post enc Try.prog Try.f5 false true false false) := by
  refine law_lifted (fn := Try.f5) started (by kernel_rfl) Try.func5
    (ChangeSpec.witness6 (enc := enc) (C := Try.checked) false ⟨#[], #[], []⟩ 8 (by kernel_rfl) (by kernel_rfl) (by kernel_rfl) (by kernel_rfl))
    rfl (by kernel_rfl) Try.underlying4 (of_decide_eq_true (by kernel_rfl)) ?_ ?_
  · intro ds hl
    match ds, hl with
    | [], _ => rfl
  · intro W base args ds ps hval hA _
    have hp : Try.f5.params.toList = [] := by kernel_rfl
    rw [hp] at hA hval
    obtain ⟨hargs, rfl, rfl⟩ := trodAll_nil hA
    obtain rfl : args = #[] := by cases args; simp_all
    exact (jobsNames_any W).mono fun e w' ⟨he, hx⟩ => ⟨he, hx.below⟩

theorem jobsNames_holds : Rows.JobsNamesSaid :=
  OpenClaim.holds_of_wide 5 Try.f5 rfl rfl rfl rfl rfl rfl rfl ⟨rfl, rfl, rfl, rfl, rfl⟩ rfl rfl rfl rfl rfl (by kernel_rfl) Try.func5 (by kernel_rfl)
    (of_decide_eq_true (by kernel_rfl)) (by unfold Func.isWrapper; first | (rw [if_pos (by decide +kernel)]; kernel_rfl) | (rw [if_neg (by decide +kernel)]; exact ⟨rfl, rfl⟩))
    (fun os started H enc _ => jobsNames_lifted os started H enc)
#print axioms jobsNames_holds
end Go.Proofs.Ytmgpofdmfmeljaa
