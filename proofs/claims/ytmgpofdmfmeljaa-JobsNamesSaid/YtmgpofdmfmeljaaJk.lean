/- The document's Check of jobs; Drop. -/
import Derived.Test.YtmgpofdmfmeljaaJj
import Derived.WalkSpells
import Derived.WalkLawsBesides
import Derived.BigRegion
import Derived.Deep.RegionWith
import Derived.Deep.QuietTactic
import Derived.Deep.DeepCutAuto
import Derived.Deep.RegionHeld3
import Derived.Deep.RegionLaw
import Derived.BigQuiet
import Derived.Lib.Hide
namespace Go.Proofs.Ytmgpofdmfmeljaa
open Go.RowKit
attribute [local go_sem] more_drew more_drewN more_size more_cell more_frozen more_setCell drew_more drewN_more lt_add_r lt_add_r2 lt_add_r3 lt_add_r4 lt_add_r5 lt_add_r6 lt_add_r7 lt_add_r8 lt_add_r9 lt_add_r10 lt_self_r lt_self_r2

set_option maxRecDepth 100000 in
set_option maxHeartbeats 4000000 in
theorem rcheck_any (A : Option Addr) (c : Nat) (ds : List Dt) (w : World) (h : Jobs w A ds) (hc : ds.length ≤ 9223372036854775807) : Calls Try.prog 7 #[.slice A ds.length c] w fun e w' => ∃ n : Int, e = .returned (.int .i64 n) ∧ (n = 0 → CheckP ds) ∧ Ext w w' := by
  have H := Lib.hid h
  clear h
  by_cases h32 : 32 < ds.length
  · go_enter Try.func7, Try.ntmps7
    go_wp2_with fail
    go_ret
    exact ⟨2, rfl, nofun, (by repeat (first | exact Ext.refl _ | refine Ext.alloc ?_ _ | refine Ext.more ?_ _ _ | refine Ext.drew ?_ | refine Ext.drewN ?_ _ | refine Ext.setCell ?_ (by simp <;> omega) _))⟩
  · go_enter Try.func7, Try.ntmps7
    go_wp2_with fail
    go_loopw [3] (fun i wr => ∃ k : Nat, k ≤ ds.length ∧ i = .int .i64 k ∧ Hid (∀ j, j < k → OkD (lastS ds j) (ds.getD j d0)) ∧ Hid (Ext w wr)) (fun i _ => ds.length - (intOf i).toNat)
    case atStart => exact ⟨0, Nat.zero_le _, rfl, Lib.hid (fun j hj => by omega), Lib.hid (Ext.refl _)⟩
    case round =>
      obtain ⟨k, hk, rfl, hok, hx⟩ := hrel
      by_cases hlt : k < ds.length
      · obtain ⟨b, off, rfl, hb, hcl⟩ := (H.out.ext hx.out) (by omega)
        obtain ⟨x0, x1, x2, x3, x4⟩ := hcl k hlt
        obtain ⟨d, hd⟩ : ∃ d, ds.getD k d0 = d := ⟨_, rfl⟩
        rw [hd] at x0 x1 x2 x3 x4
        have HD := Lib.hid hd
        obtain ⟨W7, hW7⟩ : ∃ W7, wr.alloc (.cells #[.int .i64 d.slot, .int .i64 d.lo, .int .i64 d.hi, .int .i64 d.age, .int .i64 d.lev] 31) = W7 := ⟨_, rfl⟩
        have X7 : Hid (Ext wr W7) := Lib.hid (by rw [← hW7]; exact (by repeat (first | exact Ext.refl _ | refine Ext.alloc ?_ _ | refine Ext.more ?_ _ _ | refine Ext.drew ?_ | refine Ext.drewN ?_ _ | refine Ext.setCell ?_ (by simp <;> omega) _)))
        have B7 := ext_block (heap_alloc_new wr (.cells #[.int .i64 d.slot, .int .i64 d.lo, .int .i64 d.hi, .int .i64 d.age, .int .i64 d.lev] 31)) (Ext.refl _)
        rw [hW7] at B7
        obtain ⟨n7, hn7⟩ : ∃ n7, wr.heap.size = n7 := ⟨_, rfl⟩
        rw [hn7] at B7
        have y0 := cell_of_row _ _ 0 _ _ _ B7
        have y1 := cell_of_row _ _ 1 _ _ _ B7
        have y2 := cell_of_row _ _ 2 _ _ _ B7
        have y3 := cell_of_row _ _ 3 _ _ _ B7
        have y4 := cell_of_row _ _ 4 _ _ _ B7
        simp at y0 y1 y2 y3 y4
        have l7 := lt_of_heap B7
        have HCL := Lib.hid hcl
        have hb7 := Nat.lt_of_lt_of_le hb X7.out.size
        clear B7 hcl hd
        go_upto_region 7 with fail
        clear hW7 hn7 x0 x1 x2 x3 x4
        by_cases h0 : d.slot < 0
        · have q0 : decide (d.slot < 0) = true := decide_eq_true h0
          clear h0
          refine wp_region_bt (48) (softs_bt [0, 1, 2, 3, 4, 5, 6, 7, 8, 9, 10, 11, 12, 13, 14, 15, 16, 17, 18, 19, 20, 21, 22, 23, 24, 25, 26, 27, 28, 29, 30, 31, 32, 33, 34, 35, 36, 37, 38, 39, 40, 41, 42, 43, 44, 45, 46, 47] .fin) (by kernel_rfl) (by kernel_rfl) ?_
          (refine bt_softs _ fun K hK => ?_); (simp only [pick, nthC]); (repeat (go_big_quiet_step (fail))); (refine wpQuiet_nil (hK _ ?_)); (clear hK K)
          (refine bt_fin ?_)
          go_wp2_with fail
          go_ret
          exact ⟨2, rfl, nofun, hx.out.trans (X7.out.trans (by repeat (first | exact Ext.refl _ | refine Ext.alloc ?_ _ | refine Ext.more ?_ _ _ | refine Ext.drew ?_ | refine Ext.drewN ?_ _ | refine Ext.setCell ?_ (by simp <;> omega) _)))⟩
        · have q0 : decide (d.slot < 0) = false := decide_eq_false h0
          by_cases h1 : 64 ≤ d.slot
          · have q1 : decide (64 ≤ d.slot) = true := decide_eq_true h1
            clear h1
            refine wp_region_bt (48) (softs_bt [0, 1, 2, 3, 4, 5, 6, 7, 8, 9, 10, 11, 12, 13, 14, 15, 16, 17, 18, 19, 20, 21, 22, 23, 24, 25, 26, 27, 28, 29, 30, 31, 32, 33, 34, 35, 36, 37, 38, 39, 40, 41, 42, 43, 44, 45, 46, 47] .fin) (by kernel_rfl) (by kernel_rfl) ?_
            (refine bt_softs _ fun K hK => ?_); (simp only [pick, nthC]); (repeat (go_big_quiet_step (fail))); (refine wpQuiet_nil (hK _ ?_)); (clear hK K)
            (refine bt_fin ?_)
            go_wp2_with fail
            go_ret
            exact ⟨2, rfl, nofun, hx.out.trans (X7.out.trans (by repeat (first | exact Ext.refl _ | refine Ext.alloc ?_ _ | refine Ext.more ?_ _ _ | refine Ext.drew ?_ | refine Ext.drewN ?_ _ | refine Ext.setCell ?_ (by simp <;> omega) _)))⟩
          · have q1 : decide (64 ≤ d.slot) = false := decide_eq_false h1
            by_cases h2 : d.lo < 0
            · have q2 : decide (d.lo < 0) = true := decide_eq_true h2
              clear h2
              refine wp_region_bt (48) (softs_bt [0, 1, 2, 3, 4, 5, 6, 7, 8, 9, 10, 11, 12, 13, 14, 15, 16, 17, 18, 19, 20, 21, 22, 23, 24, 25, 26, 27, 28, 29, 30, 31, 32, 33, 34, 35, 36, 37, 38, 39, 40, 41, 42, 43, 44, 45, 46, 47] .fin) (by kernel_rfl) (by kernel_rfl) ?_
              (refine bt_softs _ fun K hK => ?_); (simp only [pick, nthC]); (repeat (go_big_quiet_step (fail))); (refine wpQuiet_nil (hK _ ?_)); (clear hK K)
              (refine bt_fin ?_)
              go_wp2_with fail
              go_ret
              exact ⟨2, rfl, nofun, hx.out.trans (X7.out.trans (by repeat (first | exact Ext.refl _ | refine Ext.alloc ?_ _ | refine Ext.more ?_ _ _ | refine Ext.drew ?_ | refine Ext.drewN ?_ _ | refine Ext.setCell ?_ (by simp <;> omega) _)))⟩
            · have q2 : decide (d.lo < 0) = false := decide_eq_false h2
              by_cases h3 : d.hi < d.lo
              · have q3 : decide (d.hi < d.lo) = true := decide_eq_true h3
                clear h3
                refine wp_region_bt (48) (softs_bt [0, 1, 2, 3, 4, 5, 6, 7, 8, 9, 10, 11, 12, 13, 14, 15, 16, 17, 18, 19, 20, 21, 22, 23, 24, 25, 26, 27, 28, 29, 30, 31, 32, 33, 34, 35, 36, 37, 38, 39, 40, 41, 42, 43, 44, 45, 46, 47] .fin) (by kernel_rfl) (by kernel_rfl) ?_
                (refine bt_softs _ fun K hK => ?_); (simp only [pick, nthC]); (repeat (go_big_quiet_step (fail))); (refine wpQuiet_nil (hK _ ?_)); (clear hK K)
                (refine bt_fin ?_)
                go_wp2_with fail
                go_ret
                exact ⟨2, rfl, nofun, hx.out.trans (X7.out.trans (by repeat (first | exact Ext.refl _ | refine Ext.alloc ?_ _ | refine Ext.more ?_ _ _ | refine Ext.drew ?_ | refine Ext.drewN ?_ _ | refine Ext.setCell ?_ (by simp <;> omega) _)))⟩
              · have q3 : decide (d.hi < d.lo) = false := decide_eq_false h3
                by_cases h4 : d.age < 0
                · have q4 : decide (d.age < 0) = true := decide_eq_true h4
                  clear h4
                  refine wp_region_bt (48) (softs_bt [0, 1, 2, 3, 4, 5, 6, 7, 8, 9, 10, 11, 12, 13, 14, 15, 16, 17, 18, 19, 20, 21, 22, 23, 24, 25, 26, 27, 28, 29, 30, 31, 32, 33, 34, 35, 36, 37, 38, 39, 40, 41, 42, 43, 44, 45, 46, 47] .fin) (by kernel_rfl) (by kernel_rfl) ?_
                  (refine bt_softs _ fun K hK => ?_); (simp only [pick, nthC]); (repeat (go_big_quiet_step (fail))); (refine wpQuiet_nil (hK _ ?_)); (clear hK K)
                  (refine bt_fin ?_)
                  go_wp2_with fail
                  go_ret
                  exact ⟨2, rfl, nofun, hx.out.trans (X7.out.trans (by repeat (first | exact Ext.refl _ | refine Ext.alloc ?_ _ | refine Ext.more ?_ _ _ | refine Ext.drew ?_ | refine Ext.drewN ?_ _ | refine Ext.setCell ?_ (by simp <;> omega) _)))⟩
                · have q4 : decide (d.age < 0) = false := decide_eq_false h4
                  by_cases h5 : d.lev < 0
                  · have q5 : decide (d.lev < 0) = true := decide_eq_true h5
                    clear h5
                    refine wp_region_bt (48) (softs_bt [0, 1, 2, 3, 4, 5, 6, 7, 8, 9, 10, 11, 12, 13, 14, 15, 16, 17, 18, 19, 20, 21, 22, 23, 24, 25, 26, 27, 28, 29, 30, 31, 32, 33, 34, 35, 36, 37, 38, 39, 40, 41, 42, 43, 44, 45, 46, 47] .fin) (by kernel_rfl) (by kernel_rfl) ?_
                    (refine bt_softs _ fun K hK => ?_); (simp only [pick, nthC]); (repeat (go_big_quiet_step (fail))); (refine wpQuiet_nil (hK _ ?_)); (clear hK K)
                    (refine bt_fin ?_)
                    go_wp2_with fail
                    go_ret
                    exact ⟨2, rfl, nofun, hx.out.trans (X7.out.trans (by repeat (first | exact Ext.refl _ | refine Ext.alloc ?_ _ | refine Ext.more ?_ _ _ | refine Ext.drew ?_ | refine Ext.drewN ?_ _ | refine Ext.setCell ?_ (by simp <;> omega) _)))⟩
                  · have q5 : decide (d.lev < 0) = false := decide_eq_false h5
                    have HF := Lib.hid (show ¬ d.slot < 0 ∧ ¬ 64 ≤ d.slot ∧ ¬ d.lo < 0 ∧ ¬ d.hi < d.lo ∧ ¬ d.age < 0 ∧ ¬ d.lev < 0 from ⟨h0, h1, h2, h3, h4, h5⟩)
                    clear h0 h1 h2 h3 h4 h5
                    cases k with
                    | zero =>
                      refine wp_region_bt (48) (softs_bt [0, 1, 2, 3, 4, 5, 6, 7, 8, 9, 10, 11, 12, 13, 14, 15, 16, 17, 18, 19, 20, 21, 22, 23, 24, 25, 26, 27, 28, 29, 30, 31, 32, 33, 34, 35, 36, 37, 38, 39, 40, 41, 42, 43, 44, 45, 46, 47] .fin) (by kernel_rfl) (by kernel_rfl) ?_
                      (refine bt_softs _ fun K hK => ?_); (simp only [pick, nthC]); (repeat (go_big_quiet_step (fail))); (refine wpQuiet_nil (hK _ ?_)); (clear hK K)
                      (refine bt_fin ?_)
                      go_wp2_with fail
                      go_roundw
                      case rel => exact ⟨1, by omega, by go_num, Lib.hid (fun j hj => by
                        obtain rfl : j = 0 := by omega
                        rw [HD.out]
                        have := HF.out
                        show OkD (-1) d
                        unfold OkD
                        omega), Lib.hid (hx.out.trans (X7.out.trans (by repeat (first | exact Ext.refl _ | refine Ext.alloc ?_ _ | refine Ext.more ?_ _ _ | refine Ext.drew ?_ | refine Ext.drewN ?_ _ | refine Ext.setCell ?_ (by simp <;> omega) _))))⟩
                      case measure => simp [intOf]; omega
                    | succ m =>
                      obtain ⟨z0, z1, z2, z3, z4⟩ := HCL.out m (by omega)
                      have p0 : W7.cell? ⟨b, off + m * 5, none⟩ = some (.int .i64 (ds.getD m d0).slot) := ext_cell z0 hb X7.out
                      obtain ⟨ps, hps⟩ : ∃ ps, (ds.getD m d0).slot = ps := ⟨_, rfl⟩
                      rw [hps] at p0
                      have HPS := Lib.hid hps
                      have g0 : decide ((0 : Int) < (m : Int) + 1) = true := decide_eq_true (by omega)
                      have g1 : (m : Int) < (ds.length : Int) := by omega
                      have g2 : (0 : Int) ≤ (m : Int) := by omega
                      have e1 : IntKind.i64.wrap ((m : Int) + 1 - 1) = (m : Int) := by rw [IntWalk.i64_in _ (by omega)]; omega
                      rw [show ((m + 1 : Nat) : Int) = (m : Int) + 1 by omega]
                      clear z0 z1 z2 z3 z4 hps
                      by_cases h7 : d.slot ≤ ps
                      · have q7 : decide (d.slot ≤ ps) = true := decide_eq_true h7
                        clear h7
                        refine wp_region_bt (48) (softs_bt [0, 1, 2, 3, 4, 5, 6, 7, 8, 9, 10, 11, 12, 13, 14, 15, 16, 17, 18, 19, 20, 21, 22, 23, 24, 25, 26, 27, 28, 29, 30, 31, 32, 33, 34, 35, 36, 37, 38, 39, 40, 41, 42, 43, 44, 45, 46, 47] .fin) (by kernel_rfl) (by kernel_rfl) ?_
                        (refine bt_softs _ fun K hK => ?_); (simp only [pick, nthC]); (repeat (go_big_quiet_step (fail))); (refine wpQuiet_nil (hK _ ?_)); (clear hK K)
                        (refine bt_fin ?_)
                        go_wp2_with fail
                        go_ret
                        exact ⟨2, rfl, nofun, hx.out.trans (X7.out.trans (by repeat (first | exact Ext.refl _ | refine Ext.alloc ?_ _ | refine Ext.more ?_ _ _ | refine Ext.drew ?_ | refine Ext.drewN ?_ _ | refine Ext.setCell ?_ (by simp <;> omega) _)))⟩
                      · have q7 : decide (d.slot ≤ ps) = false := decide_eq_false h7
                        have H7 := Lib.hid h7
                        clear h7
                        refine wp_region_bt (48) (softs_bt [0, 1, 2, 3, 4, 5, 6, 7, 8, 9, 10, 11, 12, 13, 14, 15, 16, 17, 18, 19, 20, 21, 22, 23, 24, 25, 26, 27, 28, 29, 30, 31, 32, 33, 34, 35, 36, 37, 38, 39, 40, 41, 42, 43, 44, 45, 46, 47] .fin) (by kernel_rfl) (by kernel_rfl) ?_
                        (refine bt_softs _ fun K hK => ?_); (simp only [pick, nthC]); (repeat (go_big_quiet_step (fail))); (refine wpQuiet_nil (hK _ ?_)); (clear hK K)
                        (refine bt_fin ?_)
                        go_wp2_with fail
                        go_roundw
                        case rel => exact ⟨m + 2, by omega, by go_num, Lib.hid (fun j hj => by
                          rcases (show j < m + 1 ∨ j = m + 1 by omega) with hj | rfl
                          · exact hok.out j hj
                          · rw [HD.out]
                            have h8 := HF.out
                            have h9 := H7.out
                            have h10 := HPS.out
                            unfold lastS
                            rw [if_neg (by omega), Nat.add_sub_cancel, h10]
                            unfold OkD
                            omega), Lib.hid (hx.out.trans (X7.out.trans (by repeat (first | exact Ext.refl _ | refine Ext.alloc ?_ _ | refine Ext.more ?_ _ _ | refine Ext.drew ?_ | refine Ext.drewN ?_ _ | refine Ext.setCell ?_ (by simp <;> omega) _))))⟩
                        case measure => simp [intOf]; omega
      · obtain rfl : k = ds.length := by omega
        have HK := Lib.hid hok.out
        go_wp2_with fail
        go_ret
        exact ⟨0, rfl, fun _ => ⟨by omega, HK.out⟩, hx.out⟩
end Go.Proofs.Ytmgpofdmfmeljaa
