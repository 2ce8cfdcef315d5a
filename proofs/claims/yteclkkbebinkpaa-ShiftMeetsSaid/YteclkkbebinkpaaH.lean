/- ShiftMeets: the walk. -/
import Derived.Test.YteclkkbebinkpaaF
import Derived.Test.YteclkkbebinkpaaG
import Derived.Test.YteclkkbebinkpaaA
import Derived.Deep.RegionWith
import Derived.Deep.QuietTactic
import Derived.Deep.DeepCutAuto
import Derived.Deep.RegionHeld3
import Derived.BigQuiet
namespace Go.Proofs.Yteclkkbebinkpaa
open Go.RowKit
attribute [local go_sem] more_size more_cell more_frozen more_setCell drew_more drewN_more lt_add_r lt_add_r2 lt_add_r3 lt_add_r4 lt_add_r5 lt_add_r6 lt_self_r lt_self_r2

set_option maxHeartbeats 400000 in
theorem meets_walk_no (a d i n f t b c : Int) (w : World) (hk : checkF a d i n ≠ 0) :
    Calls Try.prog 3 #[.agg #[.int .i64 a, .int .i64 d, .int .i64 i], .int .i64 n, .agg #[.int .i64 f, .int .i64 t], .int .i64 b, .int .i64 c] w fun e w' => e = .returned (.bool true) ∧ Below w.heap.size w w' := by
  have hk' : (checkF a d i n == 0) = false := by simpa using hk
  have hk2 : (checkF a d i n != 0) = true := by simpa using hk
  clear hk
  go_enter Try.func3, Try.ntmps3
  go_wp2_with (first | (go_at_call 10; refine (lives_any _).mono ?_; rintro e w1 ⟨rfl, os1, k1, rfl⟩) | (go_at_call 11; refine (check_any _ _ _ _ _).mono ?_; rintro e w2 ⟨rfl, os2, k2, rfl⟩))
  go_ret
  exact ⟨rfl, Ext.below (by repeat (first | exact Ext.refl _ | refine Ext.alloc ?_ _ | refine Ext.more ?_ _ _ | refine Ext.drew ?_ | refine Ext.drewN ?_ _))⟩

/-- what the law's world is like behind the swap: the span lies in order -/
def Swapped (n : Int) (W : World) (a d i : Int) (wx : World) : Prop := ∃ lo hi : Int, (0 ≤ lo ∧ lo ≤ hi ∧ hi ≤ n) ∧ Ext ((W.alloc (.cells #[.int .i64 (a), .int .i64 (d), .int .i64 (i)] 23)).alloc (.cells #[.int .i64 (lo), .int .i64 (hi)] 25)) wx

set_option maxRecDepth 100000 in
set_option maxHeartbeats 800000 in
theorem meets_walk_yes (a d i n f t b c : Int) (w : World) (hk : checkF a d i n = 0) 
  (wf : -9223372036854775808 ≤ f ∧ f ≤ 9223372036854775807) (wt : -9223372036854775808 ≤ t ∧ t ≤ 9223372036854775807) (wb : -9223372036854775808 ≤ b ∧ b ≤ 9223372036854775807) (wc : -9223372036854775808 ≤ c ∧ c ≤ 9223372036854775807) :
    Calls Try.prog 3 #[.agg #[.int .i64 a, .int .i64 d, .int .i64 i], .int .i64 n, .agg #[.int .i64 f, .int .i64 t], .int .i64 b, .int .i64 c] w fun e w' => e = .returned (.bool true) ∧ Below w.heap.size w w' := by
  obtain ⟨hn, ha, hd, hi, hs, hm⟩ := check_bd hk
  have hk' : (checkF a d i n == 0) = true := by simpa using hk
  have hk2 : (checkF a d i n != 0) = false := by simpa using hk
  clear hk
  have bf := pickF_bd f (n + 1) (by omega)
  have bt := pickF_bd t (n + 1) (by omega)
  go_enter Try.func3, Try.ntmps3
  go_upto_region 5 with (first | (go_at_call 10; refine (lives_any _).mono ?_; rintro e w1 ⟨rfl, os1, k1, rfl⟩) | (go_at_call 11; refine (check_any _ _ _ _ _).mono ?_; rintro e w2 ⟨rfl, os2, k2, rfl⟩))
  go_cut [] (fun wx => Ext ((w.alloc (.cells #[.int .i64 (a), .int .i64 (d), .int .i64 (i)] 23)).alloc (.cells #[.int .i64 (pickF f (n + 1)), .int .i64 (pickF t (n + 1))] 25)) wx)
  case first =>
    have hn1 : n + 1 ≤ 4611686018427387904 := by omega
    have hw : IntKind.i64.wrap (n + 1) = n + 1 := IntWalk.i64_in _ (by omega)
    go_region_with (first | (go_at_call_of 12 (Value.int IntKind.i64 f); refine (pick_any _ _ _ hn1 wf).mono ?_; rintro e w1 ⟨rfl, rfl⟩) | (go_at_call_of 12 (Value.int IntKind.i64 t); refine (pick_any _ _ _ hn1 wt).mono ?_; rintro e w1 ⟨rfl, rfl⟩))
    all_goals (go_wp2_with fail; go_meet; exact (by repeat (first | exact Ext.refl _ | refine Ext.alloc ?_ _ | refine Ext.more ?_ _ _ | refine Ext.drew ?_ | refine Ext.drewN ?_ _)))
  case rest =>
    obtain ⟨os, k, rfl⟩ := hcut
    go_upto_if 38 with fail
    go_cut [] (fun wx => Swapped n w a d i wx)
    case first =>
      go_wp2
      · go_meet
        exact ⟨pickF t (n + 1), pickF f (n + 1), by omega, by repeat (first | exact Ext.refl _ | refine Ext.alloc ?_ _ | refine Ext.more ?_ _ _ | refine Ext.drew ?_ | refine Ext.drewN ?_ _)⟩
      · go_meet
        exact ⟨pickF f (n + 1), pickF t (n + 1), by omega, by repeat (first | exact Ext.refl _ | refine Ext.alloc ?_ _ | refine Ext.more ?_ _ _ | refine Ext.drew ?_ | refine Ext.drewN ?_ _)⟩
    case rest =>
      obtain ⟨lo, hi', hlh, os2, k2, rfl⟩ := hcut
      have bb := pickF_bd b 1000 (by omega)
      have bc := pickF_bd c (hi' - lo + 1) (by omega)
      obtain ⟨L1, L2⟩ := meets_law (a := a) (d := d) (i := i) (lo := lo) (hi := hi') (k := lo + pickF c (hi' - lo + 1)) (b := pickF b 1000) ha hd hi (by omega) (by omega) (by omega) (by omega) bb
      clear hk' hk2 bf bt
      go_wp2_with (first | (go_at_call 12; refine (pick_any _ _ _ (by omega) (by omega)).mono ?_; rintro e w1 ⟨rfl, rfl⟩))
      have pk := (pick_any c (hi' - lo + 1) · (by omega) (by omega))
      have e1 : IntKind.i64.wrap (hi' - lo) = hi' - lo := IntWalk.i64_in _ (by omega)
      have e2 : IntKind.i64.wrap (hi' - lo + 1) = hi' - lo + 1 := IntWalk.i64_in _ (by omega)
      have e3 : IntKind.i64.wrap (lo + pickF c (hi' - lo + 1)) = lo + pickF c (hi' - lo + 1) := IntWalk.i64_in _ (by omega)
      go_quiet ((go_at_call 12; exact Calls.quiet_of_same ((pk _).mono fun _ _ h => ⟨h.1, h.2.symm⟩)))
      clear e1 e2 e3
      have hkk : lo ≤ lo + pickF c (hi' - lo + 1) ∧ lo + pickF c (hi' - lo + 1) ≤ hi' := by omega
      clear bc pk
      generalize lo + pickF c (hi' - lo + 1) = kk at *
      generalize pickF b 1000 = bb' at *
      go_upto_region 11 with (first | (go_at_call 13; refine (meets_any _ _ _ _ _ _).mono ?_; rintro e w1 ⟨rfl, os3, k3, rfl⟩))
      go_cut [12, 13, 14] (fun s12 s13 s14 wx => s12 = .bool (meetsF lo hi' a d i) ∧ s13 = .bool (meetsF lo kk a d i) ∧ s14 = .bool (meetsF kk hi' a d i) ∧ Ext ((w.alloc (.cells #[.int .i64 (a), .int .i64 (d), .int .i64 (i)] 23)).alloc (.cells #[.int .i64 (lo), .int .i64 (hi')] 25)) wx)
      case first =>
        go_region_held3 (fun w' => w'.cell? ⟨w.heap.size, 0, none⟩ = some (.int .i64 a) ∧ w'.cell? ⟨w.heap.size, 1, none⟩ = some (.int .i64 d) ∧ w'.cell? ⟨w.heap.size, 2, none⟩ = some (.int .i64 i) ∧ w'.cell? ⟨w.heap.size + 1, 0, none⟩ = some (.int .i64 lo) ∧ w'.cell? ⟨w.heap.size + 1, 1, none⟩ = some (.int .i64 hi')) (simp [go_sem]) (first | (go_at_call 13; refine (meets_any _ _ _ _ _ _).mono ?_; rintro e w1 ⟨rfl, os4, k4, rfl⟩))
        go_wp2
        go_meet
        exact ⟨rfl, rfl, rfl, by repeat (first | exact Ext.refl _ | refine Ext.alloc ?_ _ | refine Ext.more ?_ _ _ | refine Ext.drew ?_ | refine Ext.drewN ?_ _)⟩
      case rest =>
        obtain ⟨rfl, rfl, rfl, os5, k5, rfl⟩ := hcut
        cases hA : meetsF lo hi' a d i
        · rw [hA] at L2
          have hB : meetsF lo kk a d i = false := by
            cases hB : meetsF lo kk a d i
            · rfl
            · exact absurd (L2.2 (.inl hB)) (by simp)
          have hC : meetsF kk hi' a d i = false := by
            cases hC : meetsF kk hi' a d i
            · rfl
            · exact absurd (L2.2 (.inr (.inl hC))) (by simp)
          have hN : ¬ (0 < i ∧ a = kk ∧ lo < kk ∧ kk < hi') := fun h => absurd (L2.2 (.inr (.inr h))) (by simp)
          clear L1 L2
          have hN' : Hid _ := hN
          clear hN
          go_wp2
          all_goals go_ret
          all_goals refine ⟨ret_bool ?_, Ext.below (by repeat (first | exact Ext.refl _ | refine Ext.alloc ?_ _ | refine Ext.more ?_ _ _ | refine Ext.drew ?_ | refine Ext.drewN ?_ _))⟩
          all_goals first | rfl | (have hN : ¬ (0 < i ∧ a = kk ∧ lo < kk ∧ kk < hi') := hN'.out; simp; omega)
        · obtain ⟨q1, q2⟩ := L1 hA
          rw [hA] at L2
          cases hB : meetsF lo kk a d i
          · cases hC : meetsF kk hi' a d i
            · have hN : 0 < i ∧ a = kk ∧ lo < kk ∧ kk < hi' := by
                rcases L2.1 rfl with h | h | h
                · rw [hB] at h; cases h
                · rw [hC] at h; cases h
                · exact h
              clear L1 L2
              obtain ⟨n1, n2, n3, n4⟩ := hN
              have n2' : (a == kk) = true := by simpa using n2
              have n2'' : decide (a = kk) = true := by simpa using n2
              clear n2
              go_wp2_with (first | (go_at_call 13; refine (meets_any _ _ _ _ _ _).mono ?_; rintro e w1 ⟨rfl, os4, k4, rfl⟩))
              all_goals go_ret
              all_goals refine ⟨ret_bool ?_, Ext.below (by repeat (first | exact Ext.refl _ | refine Ext.alloc ?_ _ | refine Ext.more ?_ _ _ | refine Ext.drew ?_ | refine Ext.drewN ?_ _))⟩
              all_goals first | rfl | simp
            · clear L1 L2
              go_wp2_with (first | (go_at_call 13; refine (meets_any _ _ _ _ _ _).mono ?_; rintro e w1 ⟨rfl, os4, k4, rfl⟩))
              all_goals go_ret
              all_goals refine ⟨ret_bool ?_, Ext.below (by repeat (first | exact Ext.refl _ | refine Ext.alloc ?_ _ | refine Ext.more ?_ _ _ | refine Ext.drew ?_ | refine Ext.drewN ?_ _))⟩
              all_goals first | rfl | simp
          · clear L1 L2
            go_wp2_with (first | (go_at_call 13; refine (meets_any _ _ _ _ _ _).mono ?_; rintro e w1 ⟨rfl, os4, k4, rfl⟩))
            all_goals go_ret
            all_goals refine ⟨ret_bool ?_, Ext.below (by repeat (first | exact Ext.refl _ | refine Ext.alloc ?_ _ | refine Ext.more ?_ _ _ | refine Ext.drew ?_ | refine Ext.drewN ?_ _))⟩
            all_goals first | rfl | simp
end Go.Proofs.Yteclkkbebinkpaa
