/- Proved: HeapLeaves returns true for every input and leaves its arguments as they were; no condition. -/
import Derived.Test.YtjllikpocfppoaaY
import Derived.Test.YtjllikpocfppoaaTo
import Derived.Test.YtjllikpocfppoaaL
namespace Go.Proofs.Ytjllikpocfppoaa
open Go.ChangeShapes Go.WideShapes Go.ChangeAt Go.RowKit Go.Joins

set_option maxRecDepth 100000 in
theorem heapLeaves_lifted (os : Os) (started : os.Started) (H : Type) (enc : TypeId × Value → H) :
    ReturnsInHanded {} Try.checked os 6 .any (Rows.heapLeavesSpec.pre6 enc Try.prog Try.f6 Rows.heapLeavesRow.domain false) (Rows.heapLeavesSpec.post enc Try.prog Try.f6 false true false false) := by
  refine law_lifted (fn := Try.f6) started (by kernel_rfl) Try.func6
    (ChangeSpec.witness6 (enc := enc) (C := Try.checked) false ⟨#[], #[.slice none 0 0, .int .i64 0], []⟩ 8 (by kernel_rfl) (by kernel_rfl) (by kernel_rfl) (by kernel_rfl))
    rfl (by kernel_rfl) Try.underlying4 (of_decide_eq_true (by kernel_rfl)) ?_ ?_
  · intro ds hl
    match ds, hl with
    | [d1, d2], _ => rfl
  · intro W base args ds ps hval hA _
    have hp : Try.f6.params.toList = [22, 3] := by kernel_rfl
    rw [hp] at hA hval
    obtain ⟨v0, vs0, d0, ds0, p0, q0, hargs, rfl, rfl, h0, r0⟩ := trodAll_cons hA
    obtain ⟨v1, vs1, d1, ds1, p1, q1, rfl, rfl, rfl, h1, r1⟩ := trodAll_cons r0
    obtain ⟨rfl, rfl, rfl⟩ := trodAll_nil r1
    obtain rfl : args = #[v0, v1] := by cases args; simp_all
    obtain ⟨A, c, xs, rfl, hI, b1, b2, _, _⟩ := open_intsL (hval 0 22 v0 rfl rfl) h0
    obtain ⟨e, rfl, be⟩ := open_i64 (hval 1 3 v1 rfl rfl) h1
    exact leaves_any A xs c e W hI b1 b2 be

theorem heapLeaves_holds : Rows.HeapLeavesSaid :=
  OpenClaim.holds_of_wide 6 Try.f6 rfl rfl rfl rfl rfl rfl rfl ⟨rfl, rfl, rfl, rfl, rfl⟩ rfl rfl rfl rfl rfl (by kernel_rfl) Try.func6 (by kernel_rfl)
    (of_decide_eq_true (by kernel_rfl)) (by unfold Func.isWrapper; first | (rw [if_pos (by decide +kernel)]; kernel_rfl) | (rw [if_neg (by decide +kernel)]; exact ⟨rfl, rfl⟩))
    (fun os started H enc _ => heapLeaves_lifted os started H enc)
#print axioms heapLeaves_holds
end Go.Proofs.Ytjllikpocfppoaa
