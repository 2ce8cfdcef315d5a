/- ShiftOrder: the walk. -/
import Derived.Test.YteclkkbebinkpaaF
import Derived.Test.YteclkkbebinkpaaI
import Derived.Test.YteclkkbebinkpaaA
import Derived.Deep.RegionWith
import Derived.Deep.QuietTactic
import Derived.Deep.DeepCutAuto
import Derived.Deep.RegionHeld3
import Derived.BigQuiet
namespace Go.Proofs.Yteclkkbebinkpaa
open Go.RowKit
attribute [local go_sem] more_size more_cell more_frozen more_setCell drew_more drewN_more lt_add_r lt_add_r2 lt_add_r3 lt_add_r4 lt_add_r5 lt_add_r6 lt_self_r lt_self_r2

set_option maxHeartbeats 400000 in
theorem order_walk_no (a d i n f t : Int) (w : World) (hk : checkF a d i n ≠ 0) :
    Calls Try.prog 5 #[.agg #[.int .i64 a, .int .i64 d, .int .i64 i], .int .i64 n, .int .i64 f, .int .i64 t] w fun e w' => e = .returned (.bool true) ∧ Below w.heap.size w w' := by
  have hk' : (checkF a d i n == 0) = false := by simpa using hk
  have hk2 : (checkF a d i n != 0) = true := by simpa using hk
  clear hk
  go_enter Try.func5, Try.ntmps5
  go_wp2_with (first | (go_at_call 10; refine (lives_any _).mono ?_; rintro e w1 ⟨rfl, os1, k1, rfl⟩) | (go_at_call 11; refine (check_any _ _ _ _ _).mono ?_; rintro e w2 ⟨rfl, os2, k2, rfl⟩))
  go_ret
  exact ⟨rfl, Ext.below (by repeat (first | exact Ext.refl _ | refine Ext.alloc ?_ _ | refine Ext.more ?_ _ _ | refine Ext.drew ?_ | refine Ext.drewN ?_ _))⟩

def Sorted2 (n : Int) (W : World) (a d i : Int) (v2 v3 : Value) (wx : World) : Prop := ∃ lo hi : Int, (0 ≤ lo ∧ lo ≤ hi ∧ hi ≤ n) ∧ v2 = .int .i64 lo ∧ v3 = .int .i64 hi ∧ Ext (W.alloc (.cells #[.int .i64 (a), .int .i64 (d), .int .i64 (i)] 23)) wx

set_option maxRecDepth 100000 in
set_option maxHeartbeats 1600000 in
theorem order_walk_yes (a d i n f t : Int) (w : World) (hk : checkF a d i n = 0)
  (wf : -9223372036854775808 ≤ f ∧ f ≤ 9223372036854775807) (wt : -9223372036854775808 ≤ t ∧ t ≤ 9223372036854775807) :
    Calls Try.prog 5 #[.agg #[.int .i64 a, .int .i64 d, .int .i64 i], .int .i64 n, .int .i64 f, .int .i64 t] w fun e w' => e = .returned (.bool true) ∧ Below w.heap.size w w' := by
  obtain ⟨hn, ha, hd, hi, hs, hm⟩ := check_bd hk
  have hk' : (checkF a d i n == 0) = true := by simpa using hk
  have hk2 : (checkF a d i n != 0) = false := by simpa using hk
  clear hk
  have bf := pickF_bd f (n + 1) (by omega)
  have bt := pickF_bd t (n + 1) (by omega)
  go_enter Try.func5, Try.ntmps5
  go_upto_if 30 with (first | (go_at_call 10; refine (lives_any _).mono ?_; rintro e w1 ⟨rfl, os1, k1, rfl⟩) | (go_at_call 11; refine (check_any _ _ _ _ _).mono ?_; rintro e w2 ⟨rfl, os2, k2, rfl⟩) | (go_at_call 12; refine (pick_any _ _ _ (by omega) (by omega)).mono ?_; rintro e w1 ⟨rfl, rfl⟩))
  go_cut [2, 3] (fun s2 s3 wx => Sorted2 n w a d i s2 s3 wx)
  case first =>
    go_wp2
    · go_meet
      exact ⟨pickF t (n + 1), pickF f (n + 1), by omega, rfl, rfl, by repeat (first | exact Ext.refl _ | refine Ext.alloc ?_ _ | refine Ext.more ?_ _ _ | refine Ext.drew ?_ | refine Ext.drewN ?_ _)⟩
    · go_meet
      exact ⟨pickF f (n + 1), pickF t (n + 1), by omega, rfl, rfl, by repeat (first | exact Ext.refl _ | refine Ext.alloc ?_ _ | refine Ext.more ?_ _ _ | refine Ext.drew ?_ | refine Ext.drewN ?_ _)⟩
  case rest =>
    obtain ⟨lo, hi', hlh, rfl, rfl, os3, k3, rfl⟩ := hcut
    obtain ⟨⟨o1, o2, o3, o4, o5, o6, o7⟩, q1, q2, q3, q4, q5⟩ := order_law (a := a) (d := d) (i := i) (n := n) (lo := lo) (hi := hi') ha hd hi hn hs (by omega) (by omega) (by omega)
    clear hk' hk2 bf bt
    have q3' : (startF n a d i == clamp n - clamp d + clamp i) = true := by simpa using q3
    clear q3
    go_upto_region 8 with fail
    go_cut [9, 10, 11, 12] (fun s9 s10 s11 s12 wx => s9 = .int .i64 (startF lo a d i) ∧ s10 = .int .i64 (startF hi' a d i) ∧ s11 = .int .i64 (endF lo a d i) ∧ s12 = .int .i64 (endF hi' a d i) ∧ Ext (w.alloc (.cells #[.int .i64 (a), .int .i64 (d), .int .i64 (i)] 23)) wx)
    case first =>
      clear o1 o2 o3 o4 o5 o6 o7 q1 q2 q3' q4 q5
      go_region_held3 (fun w' => w'.cell? ⟨w.heap.size, 0, none⟩ = some (.int .i64 a) ∧ w'.cell? ⟨w.heap.size, 1, none⟩ = some (.int .i64 d) ∧ w'.cell? ⟨w.heap.size, 2, none⟩ = some (.int .i64 i)) (simp [go_sem]) (first | (go_at_call 17; refine (start_any _ _ _ _ _).mono ?_; rintro e w1 ⟨rfl, os4, k4, rfl⟩) | (go_at_call 18; refine (end_any _ _ _ _ _).mono ?_; rintro e w1 ⟨rfl, os5, k5, rfl⟩))
      go_wp2
      go_meet
      exact ⟨rfl, rfl, rfl, rfl, by repeat (first | exact Ext.refl _ | refine Ext.alloc ?_ _ | refine Ext.more ?_ _ _ | refine Ext.drew ?_ | refine Ext.drewN ?_ _)⟩
    case rest =>
      obtain ⟨rfl, rfl, rfl, rfl, os5, k5, rfl⟩ := hcut
      generalize startF lo a d i = x at *
      generalize startF hi' a d i = y at *
      generalize endF lo a d i = p at *
      generalize endF hi' a d i = q at *
      by_cases c1 : lo < a
      · obtain ⟨rfl, rfl⟩ := q1 c1
        clear q1 q2
        go_wp2_with (first | (go_at_call 16; refine (len_any _ _ _ _ _).mono ?_; rintro e w1 ⟨rfl, os4, k4, rfl⟩) | (go_at_call 17; refine (start_any _ _ _ _ _).mono ?_; rintro e w1 ⟨rfl, os4, k4, rfl⟩))
        go_goals
        all_goals go_ret
        all_goals refine ⟨ret_bool ?_, Ext.below (by repeat (first | exact Ext.refl _ | refine Ext.alloc ?_ _ | refine Ext.more ?_ _ _ | refine Ext.drew ?_ | refine Ext.drewN ?_ _))⟩
        all_goals first | rfl | (simp; omega)
      · by_cases c2 : a + d < lo
        · obtain ⟨r1, r2⟩ := q2 c2
          have r1' : (clamp n - clamp d + clamp i - x != n - lo) = false := by simpa using r1
          have r2' : (clamp n - clamp d + clamp i - p != n - lo) = false := by simpa using r2
          clear q1 q2 r1 r2
          go_wp2_with (first | (go_at_call 16; refine (len_any _ _ _ _ _).mono ?_; rintro e w1 ⟨rfl, os4, k4, rfl⟩) | (go_at_call 17; refine (start_any _ _ _ _ _).mono ?_; rintro e w1 ⟨rfl, os4, k4, rfl⟩))
          go_goals
          all_goals go_ret
          all_goals refine ⟨ret_bool ?_, Ext.below (by repeat (first | exact Ext.refl _ | refine Ext.alloc ?_ _ | refine Ext.more ?_ _ _ | refine Ext.drew ?_ | refine Ext.drewN ?_ _))⟩
          all_goals first | rfl | (simp; omega)
        · clear q1 q2
          go_wp2_with (first | (go_at_call 16; refine (len_any _ _ _ _ _).mono ?_; rintro e w1 ⟨rfl, os4, k4, rfl⟩) | (go_at_call 17; refine (start_any _ _ _ _ _).mono ?_; rintro e w1 ⟨rfl, os4, k4, rfl⟩))
          go_goals
          all_goals go_ret
          all_goals refine ⟨ret_bool ?_, Ext.below (by repeat (first | exact Ext.refl _ | refine Ext.alloc ?_ _ | refine Ext.more ?_ _ _ | refine Ext.drew ?_ | refine Ext.drewN ?_ _))⟩
          all_goals first | rfl | (simp; omega)
end Go.Proofs.Yteclkkbebinkpaa
