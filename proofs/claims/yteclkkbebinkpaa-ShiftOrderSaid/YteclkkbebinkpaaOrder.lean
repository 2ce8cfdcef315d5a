/- Proved: ShiftOrder returns true for every input and leaves its arguments as they were; no condition. -/
import Derived.Test.YteclkkbebinkpaaO
import Derived.Test.YteclkkbebinkpaaJ
namespace Go.Proofs.Yteclkkbebinkpaa
open Go.ChangeShapes Go.WideShapes Go.ChangeAt Go.RowKit Go.Joins

set_option maxRecDepth 100000 in
theorem shiftOrder_lifted (os : Os) (started : os.Started) (H : Type) (enc : TypeId × Value → H) :
    ReturnsInHanded {} Try.checked os 5 .any (Rows.shiftOrderSpec.pre6 enc Try.prog Try.f5 Rows.shiftOrderRow.domain false) (Rows.shiftOrderSpec.post enc Try.prog Try.f5 false true false false) := by
  refine law_lifted (fn := Try.f5) started (by kernel_rfl) Try.func5
    (ChangeSpec.witness6 (enc := enc) (C := Try.checked) false ⟨#[], #[.agg #[.int .i64 0, .int .i64 0, .int .i64 0], .int .i64 0, .int .i64 0, .int .i64 0], []⟩ 8 (by kernel_rfl) (by kernel_rfl) (by kernel_rfl) (by kernel_rfl))
    rfl (by kernel_rfl) Try.underlying4 (of_decide_eq_true (by kernel_rfl)) ?_ ?_
  · intro ds hl
    match ds, hl with
    | [d1, d2, d3, d4], _ => rfl
  · intro W base args ds ps hval hA _
    have hp : Try.f5.params.toList = [23, 3, 3, 3] := by kernel_rfl
    rw [hp] at hA hval
    obtain ⟨v0, vs0, d0, ds0, p0, q0, hargs, rfl, rfl, h0, r0⟩ := trodAll_cons hA
    obtain ⟨v1, vs1, d1, ds1, p1, q1, rfl, rfl, rfl, h1, r1⟩ := trodAll_cons r0
    obtain ⟨v2, vs2, d2, ds2, p2, q2, rfl, rfl, rfl, h2, r2⟩ := trodAll_cons r1
    obtain ⟨v3, vs3, d3, ds3, p3, q3, rfl, rfl, rfl, h3, r3⟩ := trodAll_cons r2
    obtain ⟨rfl, rfl, rfl⟩ := trodAll_nil r3
    obtain rfl : args = #[v0, v1, v2, v3] := by cases args; simp_all
    obtain ⟨a, d, i, rfl⟩ := open_edit (hval 0 23 v0 rfl rfl) h0
    obtain ⟨n, rfl, bn⟩ := open_i64 (hval 1 3 v1 rfl rfl) h1
    obtain ⟨f, rfl, bf⟩ := open_i64 (hval 2 3 v2 rfl rfl) h2
    obtain ⟨t, rfl, bt⟩ := open_i64 (hval 3 3 v3 rfl rfl) h3
    by_cases hk : checkF a d i n = 0
    · exact order_walk_yes a d i n f t W hk bf bt
    · exact order_walk_no a d i n f t W hk

theorem shiftOrder_holds : Rows.ShiftOrderSaid :=
  OpenClaim.holds_of_wide 5 Try.f5 rfl rfl rfl rfl rfl rfl rfl ⟨rfl, rfl, rfl, rfl, rfl⟩ rfl rfl rfl rfl rfl (by kernel_rfl) Try.func5 (by kernel_rfl)
    (of_decide_eq_true (by kernel_rfl)) (by unfold Func.isWrapper; first | (rw [if_pos (by decide +kernel)]; kernel_rfl) | (rw [if_neg (by decide +kernel)]; exact ⟨rfl, rfl⟩))
    (fun os started H enc _ => shiftOrder_lifted os started H enc)
#print axioms shiftOrder_holds
end Go.Proofs.Yteclkkbebinkpaa
