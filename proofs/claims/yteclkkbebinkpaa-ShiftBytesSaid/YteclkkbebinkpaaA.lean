/- The contracts of the small functions of package shift: what each returns. -/
import Derived.Test.YteclkkbebinkpaaRows
import Derived.Test.YteclkkbebinkpaaW
import Derived.WalkSpells
import Derived.WalkLawsBesides
namespace Go.Proofs.Yteclkkbebinkpaa
open Go.RowKit
attribute [local go_sem] more_size more_cell more_frozen more_setCell drew_more drewN_more lt_add_r lt_add_r2 lt_add_r3 lt_add_r4 lt_add_r5 lt_add_r6 lt_self_r lt_self_r2

def clamp (a : Int) : Int := min (max a (-1099511627776)) 1099511627776
theorem clamp_bd (a : Int) : -1099511627776 ≤ clamp a ∧ clamp a ≤ 1099511627776 := by unfold clamp; omega

set_option maxHeartbeats 400000 in
theorem within_any (n : Int) (w : World) :
    Calls Try.prog 34 #[.int .i64 n, .int .i64 (-1099511627776), .int .i64 1099511627776] w fun e w' => e = .returned (.int .i64 (clamp n)) ∧ w = w' := by
  go_enter Try.func34, Try.ntmps34
  go_wp2
  all_goals go_ret
  all_goals exact ⟨ret_int (by unfold clamp; omega), rfl⟩

/-- 'put' sets each number within bounds. -/
theorem put_any (a d i : Int) (w : World) :
    Calls Try.prog 25 #[.agg #[.int .i64 a, .int .i64 d, .int .i64 i]] w fun e w' => e = .returned (.agg #[.int .i64 (clamp a), .int .i64 (clamp d), .int .i64 (clamp i)]) ∧ Ext w w' := by
  go_enter Try.func25, Try.ntmps25
  go_wp2_with (first | (go_at_call 34; refine (within_any _ _).mono ?_; rintro e w' ⟨rfl, rfl⟩) | go_in)
  refine wp_loop_rounds 4 ?_
  iterate 4
    rw [rounds_succ]
    go_wp2_with (first | (go_at_call 34; refine (within_any _ _).mono ?_; rintro e w' ⟨rfl, rfl⟩) | go_in)
  go_returns
  exact ⟨rfl, (((Ext.refl _).alloc _).alloc _).alloc _⟩

theorem span_any (a d : Int) (w : World) :
    Calls Try.prog 27 #[.agg #[.int .i64 a, .int .i64 d]] w fun e w' => e = .returned (.agg #[.int .i64 (clamp a), .int .i64 (clamp d)]) ∧ Ext w w' := by
  go_enter Try.func27, Try.ntmps27
  go_wp2_with (first | (go_at_call 34; refine (within_any _ _).mono ?_; rintro e w' ⟨rfl, rfl⟩) | go_in)
  refine wp_loop_rounds 3 ?_
  iterate 3
    rw [rounds_succ]
    go_wp2_with (first | (go_at_call 34; refine (within_any _ _).mono ?_; rintro e w' ⟨rfl, rfl⟩) | go_in)
  go_returns
  exact ⟨rfl, (((Ext.refl _).alloc _).alloc _).alloc _⟩

/-- 'behind' within bounds. -/
def behindF (at_ a d i inn : Int) : Int := if a + d ≤ at_ then at_ - d + i else inn
theorem behind_any (at_ a d i inn : Int) (w : World) (h1 : -2199023255552 ≤ at_ ∧ at_ ≤ 2199023255552) (h2 : -2199023255552 ≤ a ∧ a ≤ 2199023255552) (h3 : -2199023255552 ≤ d ∧ d ≤ 2199023255552) (h4 : -2199023255552 ≤ i ∧ i ≤ 2199023255552) :
    Calls Try.prog 28 #[.int .i64 at_, .agg #[.int .i64 a, .int .i64 d, .int .i64 i], .int .i64 inn] w fun e w' => e = .returned (.int .i64 (behindF at_ a d i inn)) ∧ Ext w w' := by
  by_cases hc : a + d ≤ at_
  · have H : Hid (behindF at_ a d i inn = at_ - d + i) := if_pos hc
    go_enter Try.func28, Try.ntmps28
    go_wp2
    go_ret
    exact ⟨ret_int H.out.symm, (Ext.refl _).alloc _⟩
  · have H : Hid (behindF at_ a d i inn = inn) := if_neg hc
    go_enter Try.func28, Try.ntmps28
    go_wp2
    go_ret
    exact ⟨ret_int H.out.symm, (Ext.refl _).alloc _⟩

theorem new_any (a d i : Int) (w : World) :
    Calls Try.prog 24 #[.agg #[.int .i64 a, .int .i64 d, .int .i64 i]] w fun e w' => e = .returned (.agg #[.int .i64 (clamp a), .int .i64 (clamp a + clamp i)]) ∧ Ext w w' := by
  have ha := clamp_bd a
  have hi := clamp_bd i
  go_enter Try.func24, Try.ntmps24
  go_wp2_with (first | (go_at_call 25; refine (put_any _ _ _ _).mono ?_; rintro e w1 ⟨rfl, os, k, rfl⟩))
  go_returns
  exact ⟨rfl, ((((Ext.refl _).alloc _).alloc _).more _ _)⟩
end Go.Proofs.Yteclkkbebinkpaa
