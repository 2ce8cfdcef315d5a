/- ShiftBytes: the walk. -/
import Derived.Test.YteclkkbebinkpaaM
import Derived.Test.YteclkkbebinkpaaQ
import Derived.Deep.RegionWith
import Derived.Deep.QuietTactic
import Derived.Deep.DeepCutAuto
import Derived.Deep.RegionHeld3
import Derived.BigQuiet
import Derived.Lib.Hide
import Derived.Test.YteclkkbebinkpaaV
namespace Go.Proofs.Yteclkkbebinkpaa
open Go.RowKit
attribute [local go_sem] more_size more_cell more_frozen more_setCell drew_more drewN_more lt_add_r lt_add_r2 lt_add_r3 lt_add_r4 lt_add_r5 lt_add_r6 lt_self_r lt_self_r2

set_option maxHeartbeats 400000 in
theorem bytes_walk_no (s ins : ByteArray) (f t a d : Int) (w : World) (hz : s.size ≤ 9223372036854775807) (hy : ins.size ≤ 9223372036854775807) (hk : 300 < s.size ∨ 300 < ins.size ∨ checkF a d ins.size s.size ≠ 0) :
    Calls Try.prog 4 #[.string s, .agg #[.int .i64 f, .int .i64 t], .int .i64 a, .int .i64 d, .string ins] w fun e w' => e = .returned (.bool true) ∧ Below w.heap.size w w' := by
  by_cases h1 : 300 < s.size
  · clear hk
    go_enter Try.func4, Try.ntmps4
    go_wp2_with (first | (go_at_call 10; refine (lives_any _).mono ?_; rintro e w1 ⟨rfl, os1, k1, rfl⟩) | (go_at_call 11; refine (check_any _ _ _ _ _).mono ?_; rintro e w2 ⟨rfl, os2, k2, rfl⟩))
    go_ret
    exact ⟨rfl, Ext.below (by repeat (first | exact Ext.refl _ | refine Ext.alloc ?_ _ | refine Ext.more ?_ _ _ | refine Ext.drew ?_ | refine Ext.drewN ?_ _))⟩
  · by_cases h2 : 300 < ins.size
    · clear hk
      go_enter Try.func4, Try.ntmps4
      go_wp2_with (first | (go_at_call 10; refine (lives_any _).mono ?_; rintro e w1 ⟨rfl, os1, k1, rfl⟩) | (go_at_call 11; refine (check_any _ _ _ _ _).mono ?_; rintro e w2 ⟨rfl, os2, k2, rfl⟩))
      go_ret
      exact ⟨rfl, Ext.below (by repeat (first | exact Ext.refl _ | refine Ext.alloc ?_ _ | refine Ext.more ?_ _ _ | refine Ext.drew ?_ | refine Ext.drewN ?_ _))⟩
    · have hk3 : checkF a d ins.size s.size ≠ 0 := by omega
      have hk' : (checkF a d ins.size s.size == 0) = false := by simpa using hk3
      have hk2 : (checkF a d ins.size s.size != 0) = true := by simpa using hk3
      clear hk hk3
      go_enter Try.func4, Try.ntmps4
      go_wp2_with (first | (go_at_call 10; refine (lives_any _).mono ?_; rintro e w1 ⟨rfl, os1, k1, rfl⟩) | (go_at_call 11; refine (check_any _ _ _ _ _).mono ?_; rintro e w2 ⟨rfl, os2, k2, rfl⟩))
      go_ret
      exact ⟨rfl, Ext.below (by repeat (first | exact Ext.refl _ | refine Ext.alloc ?_ _ | refine Ext.more ?_ _ _ | refine Ext.drew ?_ | refine Ext.drewN ?_ _))⟩

def SwappedB (n : Nat) (W1 : World → World) (w : World) (wx : World) : Prop := ∃ lo hi : Int, (0 ≤ lo ∧ lo ≤ hi ∧ hi ≤ n) ∧ Ext (W1 (w.alloc (.cells #[.int .i64 lo, .int .i64 hi] 25))) wx

set_option maxRecDepth 100000 in
set_option maxHeartbeats 1600000 in
theorem bytes_walk_yes (s ins : ByteArray) (f t : Int) (a d : Nat) (w : World) (hs : s.size ≤ 300) (hi : ins.size ≤ 300) (hd : a + d ≤ s.size) (hk : checkF a d ins.size s.size = 0)
  (wf : -9223372036854775808 ≤ f ∧ f ≤ 9223372036854775807) (wt : -9223372036854775808 ≤ t ∧ t ≤ 9223372036854775807) :
    Calls Try.prog 4 #[.string s, .agg #[.int .i64 f, .int .i64 t], .int .i64 a, .int .i64 d, .string ins] w fun e w' => e = .returned (.bool true) ∧ Below w.heap.size w w' := by
  have hk' : (checkF a d ins.size s.size == 0) = true := by simpa using hk
  have hk2 : (checkF a d ins.size s.size != 0) = false := by simpa using hk
  clear hk
  have bf := pickF_bd f (s.size + 1) (by omega)
  have bt := pickF_bd t (s.size + 1) (by omega)
  go_enter Try.func4, Try.ntmps4
  go_upto_region 6 with (first | (go_at_call 10; refine (lives_any _).mono ?_; rintro e w1 ⟨rfl, os1, k1, rfl⟩) | (go_at_call 11; refine (check_any _ _ _ _ _).mono ?_; rintro e w2 ⟨rfl, os2, k2, rfl⟩))
  go_cut [] (fun wx => Ext ((more (w.alloc (.cells #[.int .i64 (pickF f (s.size + 1)), .int .i64 (pickF t (s.size + 1))] 25)) os1 k1).alloc (.cells #[.int .i64 a, .int .i64 d, .int .i64 ins.size] 23)) wx)
  case first =>
    have hn1 : (s.size : Int) + 1 ≤ 4611686018427387904 := by omega
    have hw : IntKind.i64.wrap ((s.size : Int) + 1) = (s.size : Int) + 1 := IntWalk.i64_in _ (by omega)
    go_region_with (first | (go_at_call_of 12 (Value.int IntKind.i64 f); refine (pick_any _ _ _ hn1 wf).mono ?_; rintro e w1 ⟨rfl, rfl⟩) | (go_at_call_of 12 (Value.int IntKind.i64 t); refine (pick_any _ _ _ hn1 wt).mono ?_; rintro e w1 ⟨rfl, rfl⟩))
    all_goals (go_wp2_with fail; go_meet; exact (by repeat (first | exact Ext.refl _ | refine Ext.alloc ?_ _ | refine Ext.more ?_ _ _ | refine Ext.drew ?_ | refine Ext.drewN ?_ _)))
  case rest =>
    obtain ⟨os, k, rfl⟩ := hcut
    go_upto_if 54 with fail
    go_cut [] (fun wx => SwappedB s.size (fun w1 => (more w1 os1 k1).alloc (.cells #[.int .i64 a, .int .i64 d, .int .i64 ins.size] 23)) w wx)
    case first =>
      go_wp2
      · go_meet
        exact ⟨pickF t (s.size + 1), pickF f (s.size + 1), by omega, by repeat (first | exact Ext.refl _ | refine Ext.alloc ?_ _ | refine Ext.more ?_ _ _ | refine Ext.drew ?_ | refine Ext.drewN ?_ _)⟩
      · go_meet
        exact ⟨pickF f (s.size + 1), pickF t (s.size + 1), by omega, by repeat (first | exact Ext.refl _ | refine Ext.alloc ?_ _ | refine Ext.more ?_ _ _ | refine Ext.drew ?_ | refine Ext.drewN ?_ _)⟩
    case rest =>
      obtain ⟨lo, hi', hlh, os3, k3, rfl⟩ := hcut
      obtain ⟨l1, x, y, l2, l3, l4, l5, l6⟩ := bytes_law s ins a d lo hi' hs hi hd (by omega) (by omega) (by omega)
      clear hk' hk2 bf bt
      have mv := fun w1 => move_any lo hi' a d ins.size w1
      rw [l3, l2] at mv
      have MV := Lib.hid mv
      have ED := Lib.hid (fun w1 => edited_any s ins a d ins.size w1 hs hi hd)
      have e1 : s.extract 0 a ++ ins ++ s.extract (a + d) s.size = editT s ins a d := rfl
      rw [e1] at ED
      clear mv l2 l3 e1
      generalize editT s ins a d = T at *
      have l1' : ((T.size : Int) != clamp (s.size : Int) - clamp (d : Int) + clamp (ins.size : Int)) = false := by simpa using l1
      have l1'' : ((T.size : Int) == clamp (s.size : Int) - clamp (d : Int) + clamp (ins.size : Int)) = true := by simpa using l1
      clear l1
      obtain ⟨lo, rfl⟩ := Int.eq_ofNat_of_zero_le hlh.1
      obtain ⟨hi', rfl⟩ := Int.eq_ofNat_of_zero_le (show 0 ≤ hi' by omega)
      simp only [Int.toNat_natCast] at l6
      have L6 := Lib.hid l6
      clear l6
      go_upto_region 13 with (first | (go_at_call 14; refine (ED.out _).mono ?_; rintro e w1 ⟨rfl, os4, k4, rfl⟩) | (go_at_call 15; refine (MV.out _).mono ?_; rintro e w1 ⟨rfl, os5, k5, rfl⟩) | (go_at_call 16; refine (len_any _ _ _ _ _).mono ?_; rintro e w1 ⟨rfl, os6, k6, rfl⟩))
      rcases (show lo = hi' ∨ lo < hi' by omega) with c1 | c1
      · subst c1
        go_quiet (fail)
        go_wp2
        go_ret
        exact ⟨rfl, Ext.below (by repeat (first | exact Ext.refl _ | refine Ext.alloc ?_ _ | refine Ext.more ?_ _ _ | refine Ext.drew ?_ | refine Ext.drewN ?_ _))⟩
      · have c1' : ((lo : Int) == (hi' : Int)) = false := by simp; omega
        have c2' : ¬ lo = hi' := by omega
        cases c3 : meetsF lo hi' a d ins.size
        · have L := L6.out (by omega) c3
          have i1 : (0 : Int) ≤ x := by omega
          have i2 : (x : Int) ≤ y := by omega
          have i3 : (y : Int) ≤ T.size := by omega
          have i4 : (0 : Int) ≤ lo := by omega
          have i5 : (lo : Int) ≤ hi' := by omega
          have i6 : (hi' : Int) ≤ s.size := by omega
          have i7 : hi' ≤ s.size := by omega
          have i8 : lo ≤ hi' := by omega
          refine wp_region_ext (by kernel_rfl) (by kernel_rfl) ?_
          repeat (go_big_quiet_step ((go_at_call 13; exact calls_ext (meets_any _ _ _ _ _ _))))
          refine wpQuiet_nil ?_
          intro _ hw'
          obtain ⟨x9, rfl⟩ := hw'
          go_wp2
          go_ret
          exact ⟨rfl, Ext.below (by repeat (first | exact Ext.refl _ | refine Ext.alloc ?_ _ | refine Ext.more ?_ _ _ | refine Ext.drew ?_ | refine Ext.drewN ?_ _))⟩
        · refine wp_region_ext (by kernel_rfl) (by kernel_rfl) ?_
          repeat (go_big_quiet_step ((go_at_call 13; exact calls_ext (meets_any _ _ _ _ _ _))))
          refine wpQuiet_nil ?_
          intro _ hw'
          obtain ⟨x9, rfl⟩ := hw'
          all_goals go_wp2
          all_goals go_ret
          all_goals exact ⟨rfl, Ext.below (by repeat (first | exact Ext.refl _ | refine Ext.alloc ?_ _ | refine Ext.more ?_ _ _ | refine Ext.drew ?_ | refine Ext.drewN ?_ _))⟩
end Go.Proofs.Yteclkkbebinkpaa
