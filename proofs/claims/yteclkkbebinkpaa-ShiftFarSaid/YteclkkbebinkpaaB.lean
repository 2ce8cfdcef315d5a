/- The contracts of Touch, Join, Far. -/
import Derived.Test.YteclkkbebinkpaaA
import Derived.Deep.RegionWith
import Derived.Deep.QuietTactic
import Derived.Deep.DeepCutAuto
import Derived.BigQuiet
namespace Go.Proofs.Yteclkkbebinkpaa
open Go.RowKit
attribute [local go_sem] more_size more_cell more_frozen more_setCell drew_more drewN_more lt_add_r lt_add_r2 lt_add_r3 lt_add_r4 lt_add_r5 lt_add_r6 lt_self_r lt_self_r2

def touchF (a b c d : Int) : Bool := decide (clamp a ≤ clamp d) && decide (clamp c ≤ clamp b)
set_option maxHeartbeats 400000 in
theorem touch_any (a b c d : Int) (w : World) :
    Calls Try.prog 21 #[.agg #[.int .i64 a, .int .i64 b], .agg #[.int .i64 c, .int .i64 d]] w fun e w' => e = .returned (.bool (touchF a b c d)) ∧ Ext w w' := by
  go_enter Try.func21, Try.ntmps21
  go_wp2_with fail
  go_upto_region 1 with fail
  go_cut [] (fun wx => Ext ((w.alloc (.cells #[.int .i64 (clamp a), .int .i64 (clamp b)] 25)).alloc (.cells #[.int .i64 (clamp c), .int .i64 (clamp d)] 25)) wx)
  case first =>
    go_region_with (first | (go_at_call_of 27 (Value.agg #[Value.int IntKind.i64 a, Value.int IntKind.i64 b]); refine (span_any _ _ _).mono ?_; rintro e w1 ⟨rfl, os1, k1, rfl⟩) | (go_at_call_of 27 (Value.agg #[Value.int IntKind.i64 c, Value.int IntKind.i64 d]); refine (span_any _ _ _).mono ?_; rintro e w2 ⟨rfl, os2, k2, rfl⟩))
    all_goals (go_wp2_with fail; go_meet; exact (by repeat (first | exact Ext.refl _ | refine Ext.alloc ?_ _ | refine Ext.more ?_ _ _ | refine Ext.drew ?_ | refine Ext.drewN ?_ _)))
  case rest =>
    obtain ⟨os, k, rfl⟩ := hcut
    go_wp2
    all_goals go_ret
    all_goals exact ⟨ret_bool (by unfold touchF; simp; try omega), by repeat (first | exact Ext.refl _ | refine Ext.alloc ?_ _ | refine Ext.more ?_ _ _ | refine Ext.drew ?_ | refine Ext.drewN ?_ _)⟩

def farF (a b c d : Int) : Int := if clamp b < clamp c then clamp c - clamp b else if clamp d < clamp a then clamp a - clamp d else 0
set_option maxHeartbeats 400000 in
theorem far_any (a b c d : Int) (w : World) :
    Calls Try.prog 20 #[.agg #[.int .i64 a, .int .i64 b], .agg #[.int .i64 c, .int .i64 d]] w fun e w' => e = .returned (.int .i64 (farF a b c d)) ∧ Ext w w' := by
  have ha := clamp_bd a
  have hb := clamp_bd b
  have hc := clamp_bd c
  have hd := clamp_bd d
  go_enter Try.func20, Try.ntmps20
  go_wp2_with fail
  go_upto_region 1 with fail
  go_cut [] (fun wx => Ext ((w.alloc (.cells #[.int .i64 (clamp a), .int .i64 (clamp b)] 25)).alloc (.cells #[.int .i64 (clamp c), .int .i64 (clamp d)] 25)) wx)
  case first =>
    go_region_with (first | (go_at_call_of 27 (Value.agg #[Value.int IntKind.i64 a, Value.int IntKind.i64 b]); refine (span_any _ _ _).mono ?_; rintro e w1 ⟨rfl, os1, k1, rfl⟩) | (go_at_call_of 27 (Value.agg #[Value.int IntKind.i64 c, Value.int IntKind.i64 d]); refine (span_any _ _ _).mono ?_; rintro e w2 ⟨rfl, os2, k2, rfl⟩))
    all_goals (go_wp2_with fail; go_meet; exact (by repeat (first | exact Ext.refl _ | refine Ext.alloc ?_ _ | refine Ext.more ?_ _ _ | refine Ext.drew ?_ | refine Ext.drewN ?_ _)))
  case rest =>
    obtain ⟨os, k, rfl⟩ := hcut
    go_wp2
    all_goals go_ret
    all_goals exact ⟨ret_int (by unfold farF; repeat (first | omega | split)), by repeat (first | exact Ext.refl _ | refine Ext.alloc ?_ _ | refine Ext.more ?_ _ _ | refine Ext.drew ?_ | refine Ext.drewN ?_ _)⟩

theorem ret_agg2 {a b c d : Int} (h : a = c) (h2 : b = d) : Ending.returned (.agg #[.int .i64 a, .int .i64 b]) = .returned (.agg #[.int .i64 c, .int .i64 d]) := by rw [h, h2]
set_option maxHeartbeats 400000 in
theorem join_any (a b c d : Int) (w : World) :
    Calls Try.prog 19 #[.agg #[.int .i64 a, .int .i64 b], .agg #[.int .i64 c, .int .i64 d]] w fun e w' => e = .returned (.agg #[.int .i64 (min (clamp a) (clamp c)), .int .i64 (max (clamp b) (clamp d))]) ∧ Ext w w' := by
  go_enter Try.func19, Try.ntmps19
  go_wp2_with fail
  go_upto_region 1 with fail
  go_cut [] (fun wx => Ext (((w.alloc (.cells #[.int .i64 (clamp a), .int .i64 (clamp b)] 25)).alloc (.cells #[.int .i64 (clamp c), .int .i64 (clamp d)] 25)).alloc (.cells #[.int .i64 (0), .int .i64 (0)] 25)) wx)
  case first =>
    go_region_with (first | (go_at_call_of 27 (Value.agg #[Value.int IntKind.i64 a, Value.int IntKind.i64 b]); refine (span_any _ _ _).mono ?_; rintro e w1 ⟨rfl, os1, k1, rfl⟩) | (go_at_call_of 27 (Value.agg #[Value.int IntKind.i64 c, Value.int IntKind.i64 d]); refine (span_any _ _ _).mono ?_; rintro e w2 ⟨rfl, os2, k2, rfl⟩))
    all_goals (go_wp2_with fail; go_meet; exact (by repeat (first | exact Ext.refl _ | refine Ext.alloc ?_ _ | refine Ext.more ?_ _ _ | refine Ext.drew ?_ | refine Ext.drewN ?_ _)))
  case rest =>
    obtain ⟨os, k, rfl⟩ := hcut
    go_wp2
    all_goals go_returns
    all_goals exact ⟨ret_agg2 (by omega) (by omega), by repeat (first | exact Ext.refl _ | refine Ext.alloc ?_ _ | refine Ext.more ?_ _ _ | refine Ext.drew ?_ | refine Ext.drewN ?_ _)⟩
end Go.Proofs.Yteclkkbebinkpaa
