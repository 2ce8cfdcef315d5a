/- ShiftNames: the chapter's example comes out as it tells. No condition. -/
import Derived.Test.YtfjkghbnlmhcnaaSn
import Derived.Test.YtfjkghbnlmhcnaaL
import Derived.ChangeMaps
namespace Go.Proofs.Ytfjkghbnlmhcnaa
open Go.ChangeShapes Go.WideShapes Go.ChangeAt Go.RowKit Go.Joins

set_option maxRecDepth 100000 in
theorem shiftNames_lifted (os : Os) (started : os.Started) (H : Type) (enc : TypeId × Value → H) :
    ReturnsInHanded {} Try.checked os 10 .any (Rows.shiftNamesSpec.pre6 enc Try.prog Try.f10 Rows.shiftNamesRow.domain false) (Rows.shiftNamesSpec.post enc Try.prog Try.f10 false true false false) := by
  refine law_lifted (fn := Try.f10) started (by kernel_rfl) Try.func10
    (ChangeSpec.witness6 (enc := enc) (C := Try.checked) false ⟨#[], #[], []⟩ 8 (by kernel_rfl) (by kernel_rfl) (by kernel_rfl) (by kernel_rfl))
    rfl (by kernel_rfl) Try.underlying4 (of_decide_eq_true (by kernel_rfl)) ?_ ?_
  · intro ds hl
    match ds, hl with
    | [], _ => rfl
  · intro W base args ds ps hval hA _
    have hp : Try.f10.params.toList = [] := by kernel_rfl
    rw [hp] at hA hval
    obtain ⟨hargs, rfl, rfl⟩ := trodAll_nil hA
    obtain rfl : args = #[] := by cases args; simp_all
    exact (shiftNames_any W).mono fun e w' ⟨he, hx⟩ => ⟨he, hx.below⟩

theorem shiftNames_holds : Rows.ShiftNamesSaid :=
  OpenClaim.holds_of_wide 10 Try.f10 rfl rfl rfl rfl rfl rfl rfl ⟨rfl, rfl, rfl, rfl, rfl⟩ rfl rfl rfl rfl rfl (by kernel_rfl) Try.func10 (by kernel_rfl)
    (of_decide_eq_true (by kernel_rfl)) (by unfold Func.isWrapper; first | (rw [if_pos (by decide +kernel)]; kernel_rfl) | (rw [if_neg (by decide +kernel)]; exact ⟨rfl, rfl⟩))
    (fun os started H enc _ => shiftNames_lifted os started H enc)
#print axioms shiftNames_holds
end Go.Proofs.Ytfjkghbnlmhcnaa
