/- ShiftBack: the walk. -/
import Derived.Test.YteclkkbebinkpaaF
import Derived.Test.YteclkkbebinkpaaI
import Derived.Deep.RegionWith
import Derived.Deep.QuietTactic
import Derived.Deep.DeepCutAuto
import Derived.Deep.RegionHeld3
import Derived.BigQuiet
import Derived.Lib.Hide
namespace Go.Proofs.Yteclkkbebinkpaa
open Go.RowKit
theorem lt_add_r7 {a b c d e f g i j : Nat} (h : a < b) : a < b + c + d + e + f + g + i + j := by omega
theorem lt_add_r8 {a b c d e f g i j k : Nat} (h : a < b) : a < b + c + d + e + f + g + i + j + k := by omega
theorem lt_add_r9 {a b c d e f g i j k l : Nat} (h : a < b) : a < b + c + d + e + f + g + i + j + k + l := by omega
theorem lt_add_r10 {a b c d e f g i j k l m : Nat} (h : a < b) : a < b + c + d + e + f + g + i + j + k + l + m := by omega
attribute [local go_sem] lt_add_r7 lt_add_r8 lt_add_r9 lt_add_r10
attribute [local go_sem] more_size more_cell more_frozen more_setCell drew_more drewN_more lt_add_r lt_add_r2 lt_add_r3 lt_add_r4 lt_add_r5 lt_add_r6 lt_self_r lt_self_r2

set_option maxHeartbeats 400000 in
theorem back_walk_no (a d i n f t : Int) (w : World) (hk : checkF a d i n ≠ 0) :
    Calls Try.prog 6 #[.agg #[.int .i64 a, .int .i64 d, .int .i64 i], .int .i64 n, .agg #[.int .i64 f, .int .i64 t]] w fun e w' => e = .returned (.bool true) ∧ Below w.heap.size w w' := by
  have hk' : (checkF a d i n == 0) = false := by simpa using hk
  have hk2 : (checkF a d i n != 0) = true := by simpa using hk
  clear hk
  go_enter Try.func6, Try.ntmps6
  go_wp2_with (first | (go_at_call 10; refine (lives_any _).mono ?_; rintro e w1 ⟨rfl, os1, k1, rfl⟩) | (go_at_call 11; refine (check_any _ _ _ _ _).mono ?_; rintro e w2 ⟨rfl, os2, k2, rfl⟩))
  go_ret
  exact ⟨rfl, Ext.below (by repeat (first | exact Ext.refl _ | refine Ext.alloc ?_ _ | refine Ext.more ?_ _ _ | refine Ext.drew ?_ | refine Ext.drewN ?_ _))⟩

set_option maxRecDepth 100000 in
set_option maxHeartbeats 1600000 in
theorem back_walk_yes (a d i n f t : Int) (w : World) (hk : checkF a d i n = 0)
  (wf : -9223372036854775808 ≤ f ∧ f ≤ 9223372036854775807) (wt : -9223372036854775808 ≤ t ∧ t ≤ 9223372036854775807) :
    Calls Try.prog 6 #[.agg #[.int .i64 a, .int .i64 d, .int .i64 i], .int .i64 n, .agg #[.int .i64 f, .int .i64 t]] w fun e w' => e = .returned (.bool true) ∧ Below w.heap.size w w' := by
  obtain ⟨hn, ha, hd, hi, hs, hm⟩ := check_bd hk
  have hk' : (checkF a d i n == 0) = true := by simpa using hk
  have hk2 : (checkF a d i n != 0) = false := by simpa using hk
  clear hk
  have bf := pickF_bd f (n + 1) (by omega)
  have bt := pickF_bd t (n + 1) (by omega)
  go_enter Try.func6, Try.ntmps6
  go_upto_region 5 with (first | (go_at_call 10; refine (lives_any _).mono ?_; rintro e w1 ⟨rfl, os1, k1, rfl⟩) | (go_at_call 11; refine (check_any _ _ _ _ _).mono ?_; rintro e w2 ⟨rfl, os2, k2, rfl⟩))
  go_cut [] (fun wx => Ext ((w.alloc (.cells #[.int .i64 (a), .int .i64 (d), .int .i64 (i)] 23)).alloc (.cells #[.int .i64 (pickF f (n + 1)), .int .i64 (pickF t (n + 1))] 25)) wx)
  case first =>
    have hn1 : n + 1 ≤ 4611686018427387904 := by omega
    have hw : IntKind.i64.wrap (n + 1) = n + 1 := IntWalk.i64_in _ (by omega)
    go_region_with (first | (go_at_call_of 12 (Value.int IntKind.i64 f); refine (pick_any _ _ _ hn1 wf).mono ?_; rintro e w1 ⟨rfl, rfl⟩) | (go_at_call_of 12 (Value.int IntKind.i64 t); refine (pick_any _ _ _ hn1 wt).mono ?_; rintro e w1 ⟨rfl, rfl⟩))
    all_goals (go_wp2_with fail; go_meet; exact (by repeat (first | exact Ext.refl _ | refine Ext.alloc ?_ _ | refine Ext.more ?_ _ _ | refine Ext.drew ?_ | refine Ext.drewN ?_ _)))
  case rest =>
    obtain ⟨os, k, rfl⟩ := hcut
    generalize pickF f (n + 1) = f0 at *
    generalize pickF t (n + 1) = t0 at *
    clear hk' hk2
    by_cases c1 : t0 ≤ f0
    · go_wp2
      go_ret
      exact ⟨rfl, Ext.below (by repeat (first | exact Ext.refl _ | refine Ext.alloc ?_ _ | refine Ext.more ?_ _ _ | refine Ext.drew ?_ | refine Ext.drewN ?_ _))⟩
    · cases c2 : meetsF f0 t0 a d i
      · obtain ⟨x, y, e1, e2, b1, b2, b3, b4, b5, b6, b7⟩ := back_law ha hd hi hn hs hm (by omega) (by omega) (by omega) c2
        have b4' : (y - x != t0 - f0) = false := by simpa using b4
        have b4'' : (y - x == t0 - f0) = true := by simpa using b4
        have b5' : (checkF a i d (clamp n - clamp d + clamp i) != 0) = false := by simpa using b5
        have b5'' : (checkF a i d (clamp n - clamp d + clamp i) == 0) = true := by simpa using b5
        clear b4 b5
        go_upto_region 9 with (first | (go_at_call 13; refine (meets_any _ _ _ _ _ _).mono ?_; rintro e w1 ⟨rfl, os3, k3, rfl⟩))
        have mv := fun w1 => move_any f0 t0 a d i w1
        rw [e2, e1] at mv
        have MV := Lib.hid mv
        clear mv e1 e2
        go_upto_region 10 with (first | (go_at_call 15; refine (MV.out _).mono ?_; rintro e w1 ⟨rfl, os4, k4, rfl⟩))
        go_cut [65] (fun s65 wx => s65 = .bool false ∧ Ext ((((more (more ((w.alloc (.cells #[.int .i64 a, .int .i64 d, .int .i64 i] 23)).alloc (.cells #[.int .i64 f0, .int .i64 t0] 25)) os k) os3 k3).alloc (.cells #[.int .i64 a, .int .i64 i, .int .i64 d] 23)) |> fun w1 => (more w1 os4 k4).alloc (.cells #[.int .i64 x, .int .i64 y] 25))) wx)
        case first =>
          have w1 : IntKind.i64.wrap (y - x) = y - x := IntWalk.i64_in _ (by omega)
          have w2 : IntKind.i64.wrap (t0 - f0) = t0 - f0 := IntWalk.i64_in _ (by omega)
          clear b6 b7
          go_region_held3 (fun w' => w'.cell? ⟨w.heap.size, 0, none⟩ = some (.int .i64 a) ∧ w'.cell? ⟨w.heap.size, 1, none⟩ = some (.int .i64 d) ∧ w'.cell? ⟨w.heap.size, 2, none⟩ = some (.int .i64 i) ∧ w'.cell? ⟨w.heap.size + 1, 0, none⟩ = some (.int .i64 f0) ∧ w'.cell? ⟨w.heap.size + 1, 1, none⟩ = some (.int .i64 t0) ∧ w'.cell? ⟨w.heap.size + 1 + 1 + os.length + os3.length, 0, none⟩ = some (.int .i64 a) ∧ w'.cell? ⟨w.heap.size + 1 + 1 + os.length + os3.length, 1, none⟩ = some (.int .i64 i) ∧ w'.cell? ⟨w.heap.size + 1 + 1 + os.length + os3.length, 2, none⟩ = some (.int .i64 d) ∧ w'.cell? ⟨w.heap.size + 1 + 1 + os.length + os3.length + 1 + os4.length, 0, none⟩ = some (.int .i64 x) ∧ w'.cell? ⟨w.heap.size + 1 + 1 + os.length + os3.length + 1 + os4.length, 1, none⟩ = some (.int .i64 y)) (simp [go_sem]) (first | (go_at_call 16; refine (len_any _ _ _ _ _).mono ?_; rintro e w1 ⟨rfl, os5, k5, rfl⟩) | (go_at_call 11; refine (check_any _ _ _ _ _).mono ?_; rintro e w1 ⟨rfl, os6, k6, rfl⟩))
          go_wp2
          go_meet
          exact ⟨rfl, by repeat (first | exact Ext.refl _ | refine Ext.alloc ?_ _ | refine Ext.more ?_ _ _ | refine Ext.drew ?_ | refine Ext.drewN ?_ _)⟩
        case rest =>
          obtain ⟨rfl, os5, k5, rfl⟩ := hcut
          rcases (show (f0 < a ∧ a < t0) ∨ (f0 < a ∧ t0 ≤ a) ∨ a ≤ f0 by omega) with ⟨c3, c4⟩ | ⟨c3, c4⟩ | c3
          · obtain ⟨rfl, rfl⟩ := b6 ⟨c3, c4⟩
            clear b7
            go_wp2
            go_ret
            exact ⟨rfl, Ext.below (by repeat (first | exact Ext.refl _ | refine Ext.alloc ?_ _ | refine Ext.more ?_ _ _ | refine Ext.drew ?_ | refine Ext.drewN ?_ _))⟩
          · skip
            obtain ⟨m1, m2, m3⟩ := b7 (by omega)
            have mv2 := fun w1 => move_any x y a i d w1
            rw [m3, m2] at mv2
            have MV2 := Lib.hid mv2
            clear mv2 m2 m3 b6
            go_upto_region 14 with fail
            go_region_held3 (fun w' => w'.cell? ⟨w.heap.size + 1, 0, none⟩ = some (.int .i64 f0) ∧ w'.cell? ⟨w.heap.size + 1, 1, none⟩ = some (.int .i64 t0) ∧ w'.cell? ⟨w.heap.size + 1 + 1 + os.length + os3.length, 0, none⟩ = some (.int .i64 a) ∧ w'.cell? ⟨w.heap.size + 1 + 1 + os.length + os3.length, 1, none⟩ = some (.int .i64 i) ∧ w'.cell? ⟨w.heap.size + 1 + 1 + os.length + os3.length, 2, none⟩ = some (.int .i64 d) ∧ w'.cell? ⟨w.heap.size + 1 + 1 + os.length + os3.length + 1 + os4.length, 0, none⟩ = some (.int .i64 x) ∧ w'.cell? ⟨w.heap.size + 1 + 1 + os.length + os3.length + 1 + os4.length, 1, none⟩ = some (.int .i64 y)) (simp [go_sem]) (first | (go_at_call 13; refine (meets_any _ _ _ _ _ _).mono ?_; rintro e w1 ⟨rfl, os6, k6, rfl⟩) | (go_at_call 15; refine (MV2.out _).mono ?_; rintro e w1 ⟨rfl, os7, k7, rfl⟩))
            go_wp2
            go_ret
            exact ⟨rfl, Ext.below (by repeat (first | exact Ext.refl _ | refine Ext.alloc ?_ _ | refine Ext.more ?_ _ _ | refine Ext.drew ?_ | refine Ext.drewN ?_ _))⟩
          · skip
            obtain ⟨m1, m2, m3⟩ := b7 (by omega)
            have mv2 := fun w1 => move_any x y a i d w1
            rw [m3, m2] at mv2
            have MV2 := Lib.hid mv2
            clear mv2 m2 m3 b6
            go_upto_region 14 with fail
            go_region_held3 (fun w' => w'.cell? ⟨w.heap.size + 1, 0, none⟩ = some (.int .i64 f0) ∧ w'.cell? ⟨w.heap.size + 1, 1, none⟩ = some (.int .i64 t0) ∧ w'.cell? ⟨w.heap.size + 1 + 1 + os.length + os3.length, 0, none⟩ = some (.int .i64 a) ∧ w'.cell? ⟨w.heap.size + 1 + 1 + os.length + os3.length, 1, none⟩ = some (.int .i64 i) ∧ w'.cell? ⟨w.heap.size + 1 + 1 + os.length + os3.length, 2, none⟩ = some (.int .i64 d) ∧ w'.cell? ⟨w.heap.size + 1 + 1 + os.length + os3.length + 1 + os4.length, 0, none⟩ = some (.int .i64 x) ∧ w'.cell? ⟨w.heap.size + 1 + 1 + os.length + os3.length + 1 + os4.length, 1, none⟩ = some (.int .i64 y)) (simp [go_sem]) (first | (go_at_call 13; refine (meets_any _ _ _ _ _ _).mono ?_; rintro e w1 ⟨rfl, os6, k6, rfl⟩) | (go_at_call 15; refine (MV2.out _).mono ?_; rintro e w1 ⟨rfl, os7, k7, rfl⟩))
            go_wp2
            go_ret
            exact ⟨rfl, Ext.below (by repeat (first | exact Ext.refl _ | refine Ext.alloc ?_ _ | refine Ext.more ?_ _ _ | refine Ext.drew ?_ | refine Ext.drewN ?_ _))⟩
      · go_wp2_with (first | (go_at_call 13; refine (meets_any _ _ _ _ _ _).mono ?_; rintro e w1 ⟨rfl, os3, k3, rfl⟩))
        go_ret
        exact ⟨rfl, Ext.below (by repeat (first | exact Ext.refl _ | refine Ext.alloc ?_ _ | refine Ext.more ?_ _ _ | refine Ext.drew ?_ | refine Ext.drewN ?_ _))⟩
end Go.Proofs.Yteclkkbebinkpaa
