/- Proved: HeapNames returns true; no condition. -/
import Derived.Test.YtjllikpocfppoaaX
import Derived.Test.YtjllikpocfppoaaTo
import Derived.Test.YtjllikpocfppoaaL
namespace Go.Proofs.Ytjllikpocfppoaa
open Go.ChangeShapes Go.WideShapes Go.ChangeAt Go.RowKit Go.Joins

set_option maxRecDepth 100000 in
theorem heapNames_lifted (os : Os) (started : os.Started) (H : Type) (enc : TypeId × Value → H) :
    ReturnsInHanded {} Try.checked os 4 .any (Rows.heapNamesSpec.pre6 enc Try.prog Try.f4 Rows.heapNamesRow.domain false) (Rows.heapNamesSpec.post enc Try.prog Try.f4 false true false false) := by
  refine law_lifted (fn := Try.f4) started (by kernel_rfl) Try.func4
    (ChangeSpec.witness6 (enc := enc) (C := Try.checked) false ⟨#[], #[], []⟩ 8 (by kernel_rfl) (by kernel_rfl) (by kernel_rfl) (by kernel_rfl))
    rfl (by kernel_rfl) Try.underlying4 (of_decide_eq_true (by kernel_rfl)) ?_ ?_
  · intro ds hl
    match ds, hl with
    | [], _ => rfl
  · intro W base args ds ps hval hA _
    have hp : Try.f4.params.toList = [] := by kernel_rfl
    rw [hp] at hA hval
    obtain ⟨hargs, rfl, rfl⟩ := trodAll_nil hA
    obtain rfl : args = #[] := by cases args; simp_all
    exact names_any W

theorem heapNames_holds : Rows.HeapNamesSaid :=
  OpenClaim.holds_of_wide 4 Try.f4 rfl rfl rfl rfl rfl rfl rfl ⟨rfl, rfl, rfl, rfl, rfl⟩ rfl rfl rfl rfl rfl (by kernel_rfl) Try.func4 (by kernel_rfl)
    (of_decide_eq_true (by kernel_rfl)) (by unfold Func.isWrapper; first | (rw [if_pos (by decide +kernel)]; kernel_rfl) | (rw [if_neg (by decide +kernel)]; exact ⟨rfl, rfl⟩))
    (fun os started H enc _ => heapNames_lifted os started H enc)
#print axioms heapNames_holds
end Go.Proofs.Ytjllikpocfppoaa
