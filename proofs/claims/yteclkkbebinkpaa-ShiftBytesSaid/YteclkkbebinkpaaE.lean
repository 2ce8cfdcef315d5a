/- The contracts of Start, End, Move. -/
import Derived.Test.YteclkkbebinkpaaA
import Derived.Deep.RegionWith
import Derived.Deep.QuietTactic
import Derived.Deep.DeepCutAuto
import Derived.BigQuiet
namespace Go.Proofs.Yteclkkbebinkpaa
open Go.RowKit
attribute [local go_sem] more_size more_cell more_frozen more_setCell drew_more drewN_more lt_add_r lt_add_r2 lt_add_r3 lt_add_r4 lt_add_r5 lt_add_r6 lt_self_r lt_self_r2

def startF (x a d i : Int) : Int := if clamp x < clamp a then clamp x else behindF (clamp x) (clamp a) (clamp d) (clamp i) (clamp a + clamp i)
def endF (x a d i : Int) : Int := if clamp x ≤ clamp a then clamp x else behindF (clamp x) (clamp a) (clamp d) (clamp i) (clamp a)

set_option maxHeartbeats 400000 in
theorem start_any (x a d i : Int) (w : World) :
    Calls Try.prog 17 #[.int .i64 x, .agg #[.int .i64 a, .int .i64 d, .int .i64 i]] w fun e w' => e = .returned (.int .i64 (startF x a d i)) ∧ Ext w w' := by
  have ha := clamp_bd a
  have hd := clamp_bd d
  have hi := clamp_bd i
  have hx := clamp_bd x
  go_enter Try.func17, Try.ntmps17
  go_wp2_with (first | (go_at_call 25; refine (put_any _ _ _ _).mono ?_; rintro e w1 ⟨rfl, os1, k1, rfl⟩) | (go_at_call 34; refine (within_any _ _).mono ?_; rintro e w' ⟨rfl, rfl⟩) | go_in)
  refine wp_loop_rounds 2 ?_
  iterate 2
    rw [rounds_succ]
    go_wp2_with (first | (go_at_call 28; refine (behind_any _ _ _ _ _ _ (by omega) (by omega) (by omega) (by omega)).mono ?_; rintro e w2 ⟨rfl, os2, k2, rfl⟩) | (go_at_call 34; refine (within_any _ _).mono ?_; rintro e w' ⟨rfl, rfl⟩) | go_in)
  all_goals go_ret
  · exact ⟨ret_int (by unfold startF; rw [if_pos (by assumption)]), by repeat (first | exact Ext.refl _ | refine Ext.alloc ?_ _ | refine Ext.more ?_ _ _ | refine Ext.drew ?_ | refine Ext.drewN ?_ _)⟩
  · exact ⟨ret_int (by unfold startF; rw [if_neg (by omega)]), by repeat (first | exact Ext.refl _ | refine Ext.alloc ?_ _ | refine Ext.more ?_ _ _ | refine Ext.drew ?_ | refine Ext.drewN ?_ _)⟩

set_option maxHeartbeats 400000 in
theorem end_any (x a d i : Int) (w : World) :
    Calls Try.prog 18 #[.int .i64 x, .agg #[.int .i64 a, .int .i64 d, .int .i64 i]] w fun e w' => e = .returned (.int .i64 (endF x a d i)) ∧ Ext w w' := by
  have ha := clamp_bd a
  have hd := clamp_bd d
  have hi := clamp_bd i
  have hx := clamp_bd x
  go_enter Try.func18, Try.ntmps18
  go_wp2_with (first | (go_at_call 25; refine (put_any _ _ _ _).mono ?_; rintro e w1 ⟨rfl, os1, k1, rfl⟩) | (go_at_call 34; refine (within_any _ _).mono ?_; rintro e w' ⟨rfl, rfl⟩) | go_in)
  refine wp_loop_rounds 2 ?_
  iterate 2
    rw [rounds_succ]
    go_wp2_with (first | (go_at_call 28; refine (behind_any _ _ _ _ _ _ (by omega) (by omega) (by omega) (by omega)).mono ?_; rintro e w2 ⟨rfl, os2, k2, rfl⟩) | (go_at_call 34; refine (within_any _ _).mono ?_; rintro e w' ⟨rfl, rfl⟩) | go_in)
  all_goals go_ret
  · exact ⟨ret_int (by unfold endF; rw [if_pos (by assumption)]), by repeat (first | exact Ext.refl _ | refine Ext.alloc ?_ _ | refine Ext.more ?_ _ _ | refine Ext.drew ?_ | refine Ext.drewN ?_ _)⟩
  · exact ⟨ret_int (by unfold endF; rw [if_neg (by omega)]), by repeat (first | exact Ext.refl _ | refine Ext.alloc ?_ _ | refine Ext.more ?_ _ _ | refine Ext.drew ?_ | refine Ext.drewN ?_ _)⟩

theorem ret_agg2 {a b c d : Int} (h : a = c) (h2 : b = d) : Ending.returned (.agg #[.int .i64 a, .int .i64 b]) = .returned (.agg #[.int .i64 c, .int .i64 d]) := by rw [h, h2]
set_option maxHeartbeats 400000 in
theorem move_any (f t a d i : Int) (w : World) :
    Calls Try.prog 15 #[.agg #[.int .i64 f, .int .i64 t], .agg #[.int .i64 a, .int .i64 d, .int .i64 i]] w fun e w' => e = .returned (.agg #[.int .i64 (startF f a d i), .int .i64 (max (startF f a d i) (endF t a d i))]) ∧ Ext w w' := by
  go_enter Try.func15, Try.ntmps15
  go_wp2_with (first | (go_at_call 17; refine (start_any _ _ _ _ _).mono ?_; rintro e w1 ⟨rfl, os1, k1, rfl⟩) | (go_at_call 18; refine (end_any _ _ _ _ _).mono ?_; rintro e w2 ⟨rfl, os2, k2, rfl⟩))
  all_goals go_returns
  all_goals exact ⟨ret_agg2 rfl (by omega), by repeat (first | exact Ext.refl _ | refine Ext.alloc ?_ _ | refine Ext.more ?_ _ _ | refine Ext.drew ?_ | refine Ext.drewN ?_ _)⟩
end Go.Proofs.Yteclkkbebinkpaa
