/- Proved: ShiftMeets returns true for every input and leaves its arguments as they were; no condition. -/
import Derived.Test.YteclkkbebinkpaaO
import Derived.Test.YteclkkbebinkpaaH
namespace Go.Proofs.Yteclkkbebinkpaa
open Go.ChangeShapes Go.WideShapes Go.ChangeAt Go.RowKit Go.Joins

set_option maxRecDepth 100000 in
theorem shiftMeets_lifted (os : Os) (started : os.Started) (H : Type) (enc : TypeId × Value → H) :
    ReturnsInHanded {} Try.checked os 3 .any (Rows.shiftMeetsSpec.pre6 enc Try.prog Try.f3 Rows.shiftMeetsRow.domain false) (Rows.shiftMeetsSpec.post enc Try.prog Try.f3 false true false false) := by
  refine law_lifted (fn := Try.f3) started (by kernel_rfl) Try.func3
    (ChangeSpec.witness6 (enc := enc) (C := Try.checked) false ⟨#[], #[.agg #[.int .i64 0, .int .i64 0, .int .i64 0], .int .i64 0, .agg #[.int .i64 0, .int .i64 0], .int .i64 0, .int .i64 0], []⟩ 8 (by kernel_rfl) (by kernel_rfl) (by kernel_rfl) (by kernel_rfl))
    rfl (by kernel_rfl) Try.underlying4 (of_decide_eq_true (by kernel_rfl)) ?_ ?_
  · intro ds hl
    match ds, hl with
    | [d1, d2, d3, d4, d5], _ => rfl
  · intro W base args ds ps hval hA _
    have hp : Try.f3.params.toList = [23, 3, 25, 3, 3] := by kernel_rfl
    rw [hp] at hA hval
    obtain ⟨v0, vs0, d0, ds0, p0, q0, hargs, rfl, rfl, h0, r0⟩ := trodAll_cons hA
    obtain ⟨v1, vs1, d1, ds1, p1, q1, rfl, rfl, rfl, h1, r1⟩ := trodAll_cons r0
    obtain ⟨v2, vs2, d2, ds2, p2, q2, rfl, rfl, rfl, h2, r2⟩ := trodAll_cons r1
    obtain ⟨v3, vs3, d3, ds3, p3, q3, rfl, rfl, rfl, h3, r3⟩ := trodAll_cons r2
    obtain ⟨v4, vs4, d4, ds4, p4, q4, rfl, rfl, rfl, h4, r4⟩ := trodAll_cons r3
    obtain ⟨rfl, rfl, rfl⟩ := trodAll_nil r4
    obtain rfl : args = #[v0, v1, v2, v3, v4] := by cases args; simp_all
    obtain ⟨a, d, i, rfl⟩ := open_edit (hval 0 23 v0 rfl rfl) h0
    obtain ⟨n, rfl, bn⟩ := open_i64 (hval 1 3 v1 rfl rfl) h1
    obtain ⟨f, t, rfl, bf, bt⟩ := open_span (hval 2 25 v2 rfl rfl) h2
    obtain ⟨b, rfl, bb⟩ := open_i64 (hval 3 3 v3 rfl rfl) h3
    obtain ⟨c, rfl, bc⟩ := open_i64 (hval 4 3 v4 rfl rfl) h4
    by_cases hk : checkF a d i n = 0
    · exact meets_walk_yes a d i n f t b c W hk bf bt bb bc
    · exact meets_walk_no a d i n f t b c W hk

theorem shiftMeets_holds : Rows.ShiftMeetsSaid :=
  OpenClaim.holds_of_wide 3 Try.f3 rfl rfl rfl rfl rfl rfl rfl ⟨rfl, rfl, rfl, rfl, rfl⟩ rfl rfl rfl rfl rfl (by kernel_rfl) Try.func3 (by kernel_rfl)
    (of_decide_eq_true (by kernel_rfl)) (by unfold Func.isWrapper; first | (rw [if_pos (by decide +kernel)]; kernel_rfl) | (rw [if_neg (by decide +kernel)]; exact ⟨rfl, rfl⟩))
    (fun os started H enc _ => shiftMeets_lifted os started H enc)
#print axioms shiftMeets_holds
end Go.Proofs.Yteclkkbebinkpaa
