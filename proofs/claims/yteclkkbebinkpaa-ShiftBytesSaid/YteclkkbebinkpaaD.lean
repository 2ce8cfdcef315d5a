/- The contracts of Meets and Pick. -/
import Derived.Test.YteclkkbebinkpaaC
import Derived.Test.YteclkkbebinkpaaA
import Derived.Deep.RegionWith
import Derived.Deep.QuietTactic
import Derived.Deep.DeepCutAuto
import Derived.BigQuiet
namespace Go.Proofs.Yteclkkbebinkpaa
open Go.RowKit
attribute [local go_sem] more_size more_cell more_frozen more_setCell drew_more drewN_more lt_add_r lt_add_r2 lt_add_r3 lt_add_r4 lt_add_r5 lt_add_r6 lt_self_r lt_self_r2

theorem tmod_neg (n m : Int) (hm : 1 ≤ m) (h : n.tmod m < 0) : n.tmod m + m = n % m := by
  rw [Int.tmod_eq_emod] at h ⊢
  split at h <;> rename_i hc
  · have := Int.emod_nonneg n (show m ≠ 0 by omega); omega
  · rw [if_neg hc]; omega
theorem tmod_pos (n m : Int) (hm : 1 ≤ m) (h : ¬ n.tmod m < 0) : n.tmod m = n % m := by
  rw [Int.tmod_eq_emod] at h ⊢
  split at h <;> rename_i hc
  · rw [if_pos hc]; omega
  · have := Int.emod_lt_of_pos n (show 0 < m by omega); omega
theorem tmod_bd (n m : Int) (hm : 1 ≤ m) : -m < n.tmod m ∧ n.tmod m < m := by
  have h1 := Int.emod_nonneg n (show m ≠ 0 by omega)
  have h2 := Int.emod_lt_of_pos n (show 0 < m by omega)
  rw [Int.tmod_eq_emod]
  split <;> omega

set_option maxHeartbeats 400000 in
theorem pick_any (n m : Int) (w : World) (hm : m ≤ 4611686018427387904) (hn : -9223372036854775808 ≤ n ∧ n ≤ 9223372036854775807) :
    Calls Try.prog 12 #[.int .i64 n, .int .i64 m] w fun e w' => e = .returned (.int .i64 (pickF n m)) ∧ w = w' := by
  by_cases h1 : m < 1
  · have H : Hid (pickF n m = 0) := if_pos h1
    go_enter Try.func12, Try.ntmps12
    go_wp2
    go_ret
    exact ⟨ret_int H.out.symm, rfl⟩
  · have H : Hid (pickF n m = n % m) := if_neg h1
    by_cases h0 : 0 ≤ n
    · have h2 : 0 ≤ n % m := Int.emod_nonneg _ (by omega)
      go_enter Try.func12, Try.ntmps12
      go_wp2
      go_ret
      exact ⟨ret_int H.out.symm, rfl⟩
    · have hb := tmod_bd n m (by omega)
      by_cases h3 : n.tmod m < 0
      · have H2 : Hid _ := tmod_neg n m (by omega) h3
        go_enter Try.func12, Try.ntmps12
        go_wp2
        go_ret
        exact ⟨ret_int (H2.out.trans H.out.symm), rfl⟩
      · have H2 : Hid _ := tmod_pos n m (by omega) h3
        go_enter Try.func12, Try.ntmps12
        go_wp2
        go_ret
        exact ⟨ret_int (H2.out.trans H.out.symm), rfl⟩

def meetsF (f t a d i : Int) : Bool :=
  (decide (0 < clamp d) && decide (clamp a < clamp t) && decide (clamp f < clamp a + clamp d)) || (decide (0 < clamp i) && decide (clamp f < clamp a) && decide (clamp a < clamp t))
set_option maxHeartbeats 400000 in
theorem meets_any (f t a d i : Int) (w : World) :
    Calls Try.prog 13 #[.agg #[.int .i64 f, .int .i64 t], .agg #[.int .i64 a, .int .i64 d, .int .i64 i]] w fun e w' => e = .returned (.bool (meetsF f t a d i)) ∧ Ext w w' := by
  have ha := clamp_bd a
  have hd := clamp_bd d
  have hi := clamp_bd i
  have hf := clamp_bd f
  have ht := clamp_bd t
  go_enter Try.func13, Try.ntmps13
  go_wp2_with fail
  go_upto_region 1 with fail
  go_cut [] (fun wx => Ext ((w.alloc (.cells #[.int .i64 (clamp f), .int .i64 (clamp t)] 25)).alloc (.cells #[.int .i64 (clamp a), .int .i64 (clamp d), .int .i64 (clamp i)] 23)) wx)
  case first =>
    go_region_with (first | (go_at_call 27; refine (span_any _ _ _).mono ?_; rintro e w1 ⟨rfl, os1, k1, rfl⟩) | (go_at_call 25; refine (put_any _ _ _ _).mono ?_; rintro e w2 ⟨rfl, os2, k2, rfl⟩))
    all_goals (go_wp2_with fail; go_meet; exact (by repeat (first | exact Ext.refl _ | refine Ext.alloc ?_ _ | refine Ext.more ?_ _ _ | refine Ext.drew ?_ | refine Ext.drewN ?_ _)))
  case rest =>
    obtain ⟨os, k, rfl⟩ := hcut
    go_wp2
    all_goals go_ret
    all_goals exact ⟨ret_bool (by unfold meetsF; simp [*]; try omega), by repeat (first | exact Ext.refl _ | refine Ext.alloc ?_ _ | refine Ext.more ?_ _ _ | refine Ext.drew ?_ | refine Ext.drewN ?_ _)⟩
end Go.Proofs.Yteclkkbebinkpaa
