/- Sn: texts that the proof rests on, part 10. -/
import Derived.Test.YthpmncdfaggkiaaGreatSn6
import Derived.Test.YthpmncdfaggkiaaGreatSn7
import Derived.Test.YthpmncdfaggkiaaGreatSn8
import Derived.Test.YthpmncdfaggkiaaGreatSn9
import Derived.WalkSpells
import Derived.WalkLawsBesides
import Derived.BigRegion
import Derived.Deep.RegionWith
import Derived.Deep.QuietTactic
import Derived.Deep.DeepCutAuto
import Derived.Deep.RegionHeld3
import Derived.Deep.RegionLaw
import Derived.BigQuiet
import Derived.Lib.Hide
/- viewportref17.grammar: a copy of the grammar of words. -/
namespace Go.Proofs.YthpmncdfaggkiaaGreat
open Go.RowKit
attribute [local go_sem] more_drew more_drewN more_size more_cell more_frozen more_setCell drew_more drewN_more lt_add_r lt_add_r2 lt_add_r3 lt_add_r4 lt_add_r5 lt_add_r6 lt_add_r7 lt_add_r8 lt_add_r9 lt_add_r10 lt_self_r lt_self_r2
theorem infoProd : (Tryz.prog.info? 92).map (fun i => (i.zero, i.size, i.bytes)) = some (some (.agg #[.int .i64 0, .slice none 0 0]), 2, 32) := by kernel_rfl
set_option maxRecDepth 100000 in
set_option maxHeartbeats 4000000 in
theorem grammar_copy (a b : Nat) (C : Option Addr) (c d e : Nat) (w : World) (h : GrRd w a b C d e) (hC : C = none → e = 0) : Calls Tryz.prog 62 #[gramV a c] w fun e w' => ∃ a' b' C' c' d' e', e = .returned (gramV a' c') ∧ GrRd w' a' b' C' d' e' ∧ Ext w w' := by
  obtain ⟨g0, W, hg0, hW, X1, hat⟩ := gr_enter w c h
  have hgs : W.heap.size = g0 + 1 := by rw [← hW, ← hg0]; simp
  obtain ⟨W1, hW1⟩ : ∃ V, W.alloc (.cells #[.int .i64 0, .int .i64 0, .int .i64 0, nil0] 46) = V := ⟨_, rfl⟩
  have X01 : Ext W W1 := by rw [← hW1]; exact (by repeat (first | exact Ext.refl _ | refine Ext.alloc ?_ _ | refine Ext.more ?_ _ _ | refine Ext.drew ?_ | refine Ext.drewN ?_ _ | refine Ext.setCell ?_ (by simp <;> omega) _))
  have hB1 : W1.heap[g0 + 1]? = some (.cells #[.int .i64 0, .int .i64 0, .int .i64 0, nil0] 46) := by rw [← hW1, ← hgs]; exact heap_alloc_new _ _
  have HG := Lib.hid (hat.ext X01)
  have HGB : Hid (W1.heap[g0]? = some (.cells #[.int .i64 1, .int .i64 1, .int .i64 1, .slice (some ⟨a, 0, none⟩) 2 c] 46)) := Lib.hid (ext_block (by rw [← hW, ← hg0]; exact heap_alloc_new _ _) X01)
  have HB := Lib.hid hB1
  have HX := Lib.hid (X1.trans X01)
  have HL : Hid (w.heap.size = g0) := Lib.hid hg0
  have HCN : Hid (C = none → e = 0) := Lib.hid hC
  clear h X1 hat X01 hB1 hC
  unfold gramV
  go_enter Tryz.func62, Tryz.ntmps62
  go_upto_region 1 with fail
  try simp only [hg0]
  try simp only [hW]
  try simp only [hgs]
  try simp only [hW1]
  clear hW hg0 hgs hW1
  obtain ⟨k0, k1, k2, k3, lg, p0, p1, p2, p3, lp, r0, r1, lr⟩ := HG.out
  go_wp2_with fail
  refine wp_loop_rounds 3 ?_
  obtain ⟨i6, hi6, hz0, hz1, hz2⟩ := info_parts infoProd
  have HI := Lib.hid hi6
  have HZ0 := Lib.hid hz0
  have HZ1 := Lib.hid hz1
  have HZ2 := Lib.hid hz2
  clear hi6 hz0 hz1 hz2
  rw [rounds_succ]
  have HS0 : Hid (Ext W1 W1) := Lib.hid (Ext.refl _)
  obtain ⟨k0, k1, k2, k3, lg, p0, p1, p2, p3, lp, r0, r1, lr⟩ := HG.out.ext HS0.out
  go_upto_region 5 with fail
  refine wp_region_bt (17) (pures_bt [0, 1, 3, 8, 10] (softs_bt [2, 4, 5, 6, 9, 11, 12, 13] (.step 7 (.step 14 (pures_bt [15] (.step 16 (.step 17 (pures_bt [18] .fin)))))))) (by kernel_rfl) (by kernel_rfl) ?_
  (refine bt_pures _ fun K hK => ?_); (simp only [pick, nthC]); (repeat (go_big_quiet_step (fail))); (refine wpQuiet_nil (hK _ ?_)); (clear hK K)
  (refine bt_softs _ fun K hK => ?_); (simp only [pick, nthC]); (repeat (go_big_quiet_step (fail))); (refine wpQuiet_nil (hK _ ?_)); (clear hK K)
  (refine bt_step fun next hn => ?_); (simp only [pick, nthC])
  go_wp2_with fail
  refine segQ_mk (fun _ => laid ((by repeat (first | exact Ext.refl _ | refine Ext.alloc ?_ _ | refine Ext.more ?_ _ _ | refine Ext.drew ?_ | refine Ext.drewN ?_ _ | refine Ext.setCell ?_ (by simp <;> omega) _)) : Ext W1 _)) (hn _ _ ?_)
  clear hn next k0 k1 k2 k3 lg p0 p1 p2 p3 lp r0 r1 lr
  have hr0 := ownI_empty W1 W1.heap.size HS0.out.size
  obtain ⟨nb, hnb⟩ : ∃ nb, W1.heap.size = nb := ⟨_, rfl⟩
  obtain ⟨V0, hV⟩ : ∃ V, (W1.alloc (.cells #[] 3)).drew = V := ⟨_, rfl⟩
  have hx0 : Ext W1 V0 := by rw [← hV]; exact (by repeat (first | exact Ext.refl _ | refine Ext.alloc ?_ _ | refine Ext.more ?_ _ _ | refine Ext.drew ?_ | refine Ext.drewN ?_ _ | refine Ext.setCell ?_ (by simp <;> omega) _))
  have hr1 : RowI V0 W1.heap.size (.slice (some ⟨nb, 0, none⟩) 0 0) [] := by rw [← hV, ← hnb]; exact hr0.ext ((by repeat (first | exact Ext.refl _ | refine Ext.alloc ?_ _ | refine Ext.more ?_ _ _ | refine Ext.drew ?_ | refine Ext.drewN ?_ _ | refine Ext.setCell ?_ (by simp <;> omega) _)) : Ext (W1.alloc (.cells #[] 3)) (W1.alloc (.cells #[] 3)).drew)
  have HV0 := Lib.hid hx0
  have HR0 := Lib.hid hr1
  have HI0 : Hid (Ints V0 (some ⟨b, 0, none⟩) [0, 1]) := Lib.hid (by
    have h := (HG.out.ext (HS0.out.trans hx0)).rd
    exact fun _ => ⟨b, 0, rfl, h.lr, fun k hk => by (match k with | 0 => exact h.r0 | 1 => exact h.r1 | k + 2 => exact absurd hk (by simp))⟩)
  have HNB0 : Hid (W1.heap.size ≤ nb) := Lib.hid (Nat.le_of_eq hnb)
  try simp only [hV, hnb]
  clear hr0 hr1 hx0 hV hnb
  (refine bt_step fun next hn => ?_); (simp only [pick, nthC])
  go_wp2_with (at_builtin; refine app_ints W1 (by rfl) (.tmp 19) (.tmp 25) rfl HR0.out [0, 1] (some ⟨b, 0, none⟩) d rfl rfl (fun h => by cases h) HI0.out (by simp) (HS0.out.trans HV0.out) ?_; intro v4 w4 hr4 hg4 hx4)
  obtain ⟨B0, bc0, rfl, hb4⟩ := hr4
  have HK0 : Hid (RowI w4 W1.heap.size (.slice B0 2 bc0) [0, 1]) := Lib.hid ⟨B0, bc0, rfl, hb4⟩
  have HN0 : Hid (Ext W1 w4) := Lib.hid (by
    refine HV0.out.grown hg4 (fun g hg => ?_)
    have : nb = g := by simpa [Value.ownBlock] using hg
    subst this
    exact HNB0.out)
  clear hb4 hg4 hx4 HV0 HR0 HI0
  refine segQ_mk (fun _ => laid HN0.out) (hn _ _ ?_)
  clear hn next
  (refine bt_pures _ fun K hK => ?_); (simp only [pick, nthC]); (repeat (go_big_quiet_step (fail))); (refine wpQuiet_nil (hK _ ?_)); (clear hK K)
  (refine bt_step fun next hn => ?_); (simp only [pick, nthC])
  go_wp2_with fail
  refine segQ_mk (fun _ => laid (HN0.out.trans ((by repeat (first | exact Ext.refl _ | refine Ext.alloc ?_ _ | refine Ext.more ?_ _ _ | refine Ext.drew ?_ | refine Ext.drewN ?_ _ | refine Ext.setCell ?_ (by simp <;> omega) _)) : Ext w4 _))) (hn _ _ ?_)
  clear hn next
  have HC0 := cells_lit w4 92 w4.heap.size #[.int .i64 0, .slice B0 2 bc0] [.int .i64 0, .slice B0 2 bc0] rfl rfl
  obtain ⟨nb, hnb⟩ : ∃ nb, w4.heap.size = nb := ⟨_, rfl⟩
  obtain ⟨U0, hU⟩ : ∃ V, w4.alloc (.cells #[.int .i64 0, .slice B0 2 bc0] 92) = V := ⟨_, rfl⟩
  rw [hU, hnb] at HC0
  have HC := Lib.hid HC0
  have HXU : Hid (Ext w4 U0) := Lib.hid (by rw [← hU]; exact (by repeat (first | exact Ext.refl _ | refine Ext.alloc ?_ _ | refine Ext.more ?_ _ _ | refine Ext.drew ?_ | refine Ext.drewN ?_ _ | refine Ext.setCell ?_ (by simp <;> omega) _)))
  try simp only [hU, hnb]
  clear hU hnb HC0
  have HSU : Hid (Ext W1 U0) := Lib.hid (HS0.out.trans (HN0.out.trans HXU.out))
  (refine bt_step fun next hn => ?_); (simp only [pick, nthC])
  go_wp2_with (at_builtin; refine wpList_append_cells _ (by rfl) (.tmp 12) (.tmp 28) 44 rfl W1.heap.size 92 i6 _ 2 32 Tryz.underlying44 HI.out HZ0.out HZ1.out HZ2.out rfl (by omega) nil0 0 [] rfl (World.ownsRow_nil _ _ _ _) (some ⟨nb, 0, none⟩) 1 1 [.int .i64 0, .slice B0 2 bc0] rfl (by intro h; cases h) rfl HC.out (by intro u hu; simp only [List.mem_cons, List.not_mem_nil, or_false] at hu; rcases hu with rfl | rfl <;> rfl) (by unfold maxLen; omega) (by omega) HSU.out.size ?_; intro v6 w6 ho6 hg6 hat6)
  obtain ⟨L0, lc0, rfl, _⟩ := own_cells ho6
  have T6 : Turn (fun g => (nil0 : Value).ownBlock = some g) U0 w6 := Turn.grown hg6 (fun g hg _ => hg)
  have HE1 : Hid (Ext W1 w6) := Lib.hid (T6.ext HSU.out (fun g hg => (by cases hg)))
  have HO1 : Hid (w6.ownsRow W1.heap.size 92 2 (.slice L0 1 lc0) 1 [.int .i64 0, .slice B0 2 bc0]) := Lib.hid ho6
  have HK0b0 : Hid (RowI w6 W1.heap.size (.slice B0 2 bc0) [0, 1]) := Lib.hid (((HK0.out).ext HXU.out).keepT T6 (fun g hg he => by
    cases he))
  clear ho6 hg6 hat6 T6 HN0 HXU HSU HC HS0 HNB0 
  refine segQ_mk (fun h => absurd rfl h) (hn _ _ ?_)
  clear hn next
  (refine bt_pures _ fun K hK => ?_); (simp only [pick, nthC]); (repeat (go_big_quiet_step (fail))); (refine wpQuiet_nil (hK _ ?_)); (clear hK K)
  (refine bt_fin ?_)
  obtain ⟨S1, hS⟩ : ∃ V, w6 = V := ⟨_, rfl⟩
  subst hS
  go_wp2_with fail
  rw [rounds_succ]
  have HS1 : Hid (Ext W1 w6) := Lib.hid HE1.out
  obtain ⟨k0, k1, k2, k3, lg, p0, p1, p2, p3, lp, r0, r1, lr⟩ := HG.out.ext HS1.out
  go_upto_region 5 with fail
  refine wp_region_bt (17) (pures_bt [0, 1, 3, 8, 10] (softs_bt [2, 4, 5, 6, 9, 11, 12, 13] (.step 7 (.step 14 (pures_bt [15] (.step 16 (.step 17 (pures_bt [18] .fin)))))))) (by kernel_rfl) (by kernel_rfl) ?_
  (refine bt_pures _ fun K hK => ?_); (simp only [pick, nthC]); (repeat (go_big_quiet_step (fail))); (refine wpQuiet_nil (hK _ ?_)); (clear hK K)
  (refine bt_softs _ fun K hK => ?_); (simp only [pick, nthC]); (repeat (go_big_quiet_step (fail))); (refine wpQuiet_nil (hK _ ?_)); (clear hK K)
  (refine bt_step fun next hn => ?_); (simp only [pick, nthC])
  go_wp2_with fail
  refine segQ_mk (fun _ => laid ((by repeat (first | exact Ext.refl _ | refine Ext.alloc ?_ _ | refine Ext.more ?_ _ _ | refine Ext.drew ?_ | refine Ext.drewN ?_ _ | refine Ext.setCell ?_ (by simp <;> omega) _)) : Ext w6 _)) (hn _ _ ?_)
  clear hn next k0 k1 k2 k3 lg p0 p1 p2 p3 lp r0 r1 lr
  have hr0 := ownI_empty w6 W1.heap.size HS1.out.size
  obtain ⟨nb, hnb⟩ : ∃ nb, w6.heap.size = nb := ⟨_, rfl⟩
  obtain ⟨V1, hV⟩ : ∃ V, (w6.alloc (.cells #[] 3)).drew = V := ⟨_, rfl⟩
  have hx0 : Ext w6 V1 := by rw [← hV]; exact (by repeat (first | exact Ext.refl _ | refine Ext.alloc ?_ _ | refine Ext.more ?_ _ _ | refine Ext.drew ?_ | refine Ext.drewN ?_ _ | refine Ext.setCell ?_ (by simp <;> omega) _))
  have hr1 : RowI V1 W1.heap.size (.slice (some ⟨nb, 0, none⟩) 0 0) [] := by rw [← hV, ← hnb]; exact hr0.ext ((by repeat (first | exact Ext.refl _ | refine Ext.alloc ?_ _ | refine Ext.more ?_ _ _ | refine Ext.drew ?_ | refine Ext.drewN ?_ _ | refine Ext.setCell ?_ (by simp <;> omega) _)) : Ext (w6.alloc (.cells #[] 3)) (w6.alloc (.cells #[] 3)).drew)
  have HV1 := Lib.hid hx0
  have HR1 := Lib.hid hr1
  have HI1 : Hid (Ints V1 C []) := Lib.hid (by
    have h := (HG.out.ext (HS1.out.trans hx0)).rd
    exact fun h0 => absurd h0 (by simp))
  have HNB1 : Hid (w6.heap.size ≤ nb) := Lib.hid (Nat.le_of_eq hnb)
  try simp only [hV, hnb]
  clear hr0 hr1 hx0 hV hnb
  (refine bt_step fun next hn => ?_); (simp only [pick, nthC])
  go_wp2_with (at_builtin; refine app_ints W1 (by rfl) (.tmp 19) (.tmp 25) rfl HR1.out [] C e rfl rfl HCN.out HI1.out (by simp) (HS1.out.trans HV1.out) ?_; intro v4 w4 hr4 hg4 hx4)
  obtain ⟨B1, bc1, rfl, hb4⟩ := hr4
  have HK1 : Hid (RowI w4 W1.heap.size (.slice B1 0 bc1) []) := Lib.hid ⟨B1, bc1, rfl, hb4⟩
  have HN1 : Hid (Ext w6 w4) := Lib.hid (by
    refine HV1.out.grown hg4 (fun g hg => ?_)
    have : nb = g := by simpa [Value.ownBlock] using hg
    subst this
    exact HNB1.out)
  clear hb4 hg4 hx4 HV1 HR1 HI1
  refine segQ_mk (fun _ => laid HN1.out) (hn _ _ ?_)
  clear hn next
  (refine bt_pures _ fun K hK => ?_); (simp only [pick, nthC]); (repeat (go_big_quiet_step (fail))); (refine wpQuiet_nil (hK _ ?_)); (clear hK K)
  (refine bt_step fun next hn => ?_); (simp only [pick, nthC])
  go_wp2_with fail
  refine segQ_mk (fun _ => laid (HN1.out.trans ((by repeat (first | exact Ext.refl _ | refine Ext.alloc ?_ _ | refine Ext.more ?_ _ _ | refine Ext.drew ?_ | refine Ext.drewN ?_ _ | refine Ext.setCell ?_ (by simp <;> omega) _)) : Ext w4 _))) (hn _ _ ?_)
  clear hn next
  have HC0 := cells_lit w4 92 w4.heap.size #[.int .i64 0, .slice B1 0 bc1] [.int .i64 0, .slice B1 0 bc1] rfl rfl
  obtain ⟨nb, hnb⟩ : ∃ nb, w4.heap.size = nb := ⟨_, rfl⟩
  obtain ⟨U1, hU⟩ : ∃ V, w4.alloc (.cells #[.int .i64 0, .slice B1 0 bc1] 92) = V := ⟨_, rfl⟩
  rw [hU, hnb] at HC0
  have HC := Lib.hid HC0
  have HXU : Hid (Ext w4 U1) := Lib.hid (by rw [← hU]; exact (by repeat (first | exact Ext.refl _ | refine Ext.alloc ?_ _ | refine Ext.more ?_ _ _ | refine Ext.drew ?_ | refine Ext.drewN ?_ _ | refine Ext.setCell ?_ (by simp <;> omega) _)))
  try simp only [hU, hnb]
  clear hU hnb HC0
  have HSU : Hid (Ext W1 U1) := Lib.hid (HS1.out.trans (HN1.out.trans HXU.out))
  (refine bt_step fun next hn => ?_); (simp only [pick, nthC])
  go_wp2_with (at_builtin; refine wpList_append_cells _ (by rfl) (.tmp 12) (.tmp 28) 44 rfl W1.heap.size 92 i6 _ 2 32 Tryz.underlying44 HI.out HZ0.out HZ1.out HZ2.out rfl (by omega) (.slice L0 1 lc0) 1 [.int .i64 0, .slice B0 2 bc0] rfl (own_ext HO1.out (HN1.out.trans HXU.out)) (some ⟨nb, 0, none⟩) 1 1 [.int .i64 0, .slice B1 0 bc1] rfl (by intro h; cases h) rfl HC.out (by intro u hu; simp only [List.mem_cons, List.not_mem_nil, or_false] at hu; rcases hu with rfl | rfl <;> rfl) (by unfold maxLen; omega) (by omega) HSU.out.size ?_; intro v6 w6 ho6 hg6 hat6)
  obtain ⟨L1, lc1, rfl, _⟩ := own_cells ho6
  have T6 : Turn (fun g => ((.slice L0 1 lc0) : Value).ownBlock = some g) U1 w6 := Turn.grown hg6 (fun g hg _ => hg)
  have HE2 : Hid (Ext W1 w6) := Lib.hid (T6.ext HSU.out (fun g hg => own_block HO1.out g hg))
  have HO2 : Hid (w6.ownsRow W1.heap.size 92 2 (.slice L1 2 lc1) 2 [.int .i64 0, .slice B0 2 bc0, .int .i64 0, .slice B1 0 bc1]) := Lib.hid ho6
  have HK0b1 : Hid (RowI w6 W1.heap.size (.slice B0 2 bc0) [0, 1]) := Lib.hid (((HK0b0.out.ext HN1.out).ext HXU.out).keepT T6 (fun g hg he => by
    obtain ⟨cur, hcur⟩ := ((HK0b0.out.ext HN1.out).ext HXU.out).obj g hg
    exact own_ne (own_ext HO1.out (HN1.out.trans HXU.out)) hcur (by decide) he))
  have HK1b1 : Hid (RowI w6 W1.heap.size (.slice B1 0 bc1) []) := Lib.hid (((HK1.out).ext HXU.out).keepT T6 (fun g hg he => by
    obtain ⟨cur, hcur⟩ := ((HK1.out).ext HXU.out).obj g hg
    exact own_ne (own_ext HO1.out (HN1.out.trans HXU.out)) hcur (by decide) he))
  clear ho6 hg6 hat6 T6 HN1 HXU HSU HC HS1 HNB1 HO1 HE1
  refine segQ_mk (fun h => absurd rfl h) (hn _ _ ?_)
  clear hn next
  (refine bt_pures _ fun K hK => ?_); (simp only [pick, nthC]); (repeat (go_big_quiet_step (fail))); (refine wpQuiet_nil (hK _ ?_)); (clear hK K)
  (refine bt_fin ?_)
  obtain ⟨S2, hS⟩ : ∃ V, w6 = V := ⟨_, rfl⟩
  subst hS
  go_wp2_with fail
  rw [rounds_succ]
  obtain ⟨ga, rfl, hga, _⟩ := row_block HO2.out (by omega)
  obtain ⟨B, bc, hB, hBo⟩ := HK0b1.out
  injection hB with hB1 hB2 hB3
  subst hB1 hB3
  obtain ⟨gb, rfl, hgb, _⟩ := row_block hBo (by simp)
  obtain ⟨k0, k1, k2, k3, lg, p0, p1, p2, p3, lp, r0, r1, lr⟩ := HG.out.ext HE2.out
  have hb6 := ext_block HGB.out HE2.out
  have hc6 := ext_block HB.out HE2.out
  have hb7 := setCell_row (k := 3) hb6 (.slice (some ⟨ga, 0, none⟩) 2 lc1)
  have hc7 := setCell_row_other (k := 3) (g := g0) hc6 (by omega) (.slice (some ⟨ga, 0, none⟩) 2 lc1)
  have T7 : Turn (fun k => k = g0 ∨ k = g0 + 1) w6 (w6.setCell ⟨g0, 3, none⟩ (.slice (some ⟨ga, 0, none⟩) 2 lc1)) := Turn.setCell _ (p := ⟨g0, 3, none⟩) (.inl rfl) _
  have bf := row_frozen hb6 3
  obtain ⟨W7, hW7⟩ : ∃ V, w6.setCell ⟨g0, 3, none⟩ (.slice (some ⟨ga, 0, none⟩) 2 lc1) = V := ⟨_, rfl⟩
  rw [hW7] at hb7 hc7 T7
  go_upto_region 7 with fail
  try simp only [hW7]
  clear hW7 bf k0 k1 k2 k3 lg p0 p1 p2 p3 lp r0 r1 lr
  have T8 : Turn (fun k => k = g0 ∨ k = g0 + 1) W7 (put4 W7 (g0 + 1) (.int .i64 1) (.int .i64 1) (.int .i64 1) (.slice (some ⟨ga, 0, none⟩) 2 lc1)) := put4_turn (S := fun k => k = g0 ∨ k = g0 + 1) (.inr rfl) _ _ _ _
  have P8 := put4_at hc7 (.int .i64 1) (.int .i64 1) (.int .i64 1) (.slice (some ⟨ga, 0, none⟩) 2 lc1)
  obtain ⟨W8, hW8⟩ : ∃ V, put4 W7 (g0 + 1) (.int .i64 1) (.int .i64 1) (.int .i64 1) (.slice (some ⟨ga, 0, none⟩) 2 lc1) = V := ⟨_, rfl⟩
  rw [hW8] at P8 T8
  have T := T7.trans T8
  have HX8 : Hid (Ext w W8) := Lib.hid (T.ext (HX.out.trans HE2.out) (fun k hk => by have := HL.out; omega))
  have HRD : Hid (GrRd W8 ga gb B1 bc0 bc1) := Lib.hid (by
    have ho := own_keepS HO2.out T (fun g hg he => by
      rcases he with he | he
      · exact own_ne HO2.out hb6 (by decide) (he ▸ hg)
      · exact own_ne HO2.out hc6 (by decide) (he ▸ hg))
    have hk := own_keepS hBo T (fun g hg he => by
      rcases he with he | he
      · exact own_ne hBo hb6 (by decide) (he ▸ hg)
      · exact own_ne hBo hc6 (by decide) (he ▸ hg))
    obtain ⟨A, c', hA, hc, _⟩ := own_cells ho
    injection hA with hA
    subst hA
    obtain ⟨g, off, hgo, hg, hcc⟩ := hc (by simp)
    injection hgo with hgo
    injection hgo with h1 h2
    subst h1 h2
    obtain ⟨g, off, hgo, hg2, hcc2⟩ := OwnI.ints hk |>.1 (by simp)
    injection hgo with hgo
    injection hgo with h1 h2
    subst h1 h2
    exact ⟨by simpa using hcc 0 _ rfl, by simpa using hcc 1 _ rfl, by simpa using hcc 2 _ rfl, by simpa using hcc 3 _ rfl, hg, by simpa using hcc2 0 (by simp), by simpa using hcc2 1 (by simp), hg2⟩)
  have k0 := cell_of_row _ _ 0 _ _ _ hb7
  have k1 := cell_of_row _ _ 1 _ _ _ hb7
  have k2 := cell_of_row _ _ 2 _ _ _ hb7
  have k3 := cell_of_row _ _ 3 _ _ _ hb7
  have kl := lt_of_heap hb7
  have c0 := cell_of_row _ _ 0 _ _ _ hc7
  have c1 := cell_of_row _ _ 1 _ _ _ hc7
  have c2 := cell_of_row _ _ 2 _ _ _ hc7
  have c3 := cell_of_row _ _ 3 _ _ _ hc7
  have cl := lt_of_heap hc7
  have cf := fun k => row_frozen hc7 k
  have e0 := cell_of_row _ _ 0 _ _ _ P8
  have e1 := cell_of_row _ _ 1 _ _ _ P8
  have e2 := cell_of_row _ _ 2 _ _ _ P8
  have e3 := cell_of_row _ _ 3 _ _ _ P8
  simp at k0 k1 k2 k3 c0 c1 c2 c3 e0 e1 e2 e3
  unfold put4 put3 put2 at hW8
  clear hb6 hc6 hb7 hc7 T7 T8 T P8 hBo HO2 HK0b1 HK1b1
  go_wp2_with fail
  exact bodyPost_ret (v := .agg #[.int .i64 1, .int .i64 1, .int .i64 1, .slice (some ⟨ga, 0, none⟩) 2 lc1]) (by simp [results, Tryz.results62, go_sem, *]) rfl ⟨ga, gb, _, lc1, _, _, rfl, HRD.out, HX8.out⟩
end Go.Proofs.YthpmncdfaggkiaaGreat
/- viewportref07.Next of a lexer in order. -/
namespace Go.Proofs.YthpmncdfaggkiaaGreat
open Go.RowKit
attribute [local go_sem] more_drew more_drewN more_size more_cell more_frozen more_setCell drew_more drewN_more lt_add_r lt_add_r2 lt_add_r3 lt_add_r4 lt_add_r5 lt_add_r6 lt_add_r7 lt_add_r8 lt_add_r9 lt_add_r10 lt_self_r lt_self_r2
set_option maxRecDepth 100000 in
set_option maxHeartbeats 4000000 in
theorem tok_Next (nv rv kv : Value) (nl rl kl : List Int) (kinds : Int) (s : ByteArray) (p : Nat) (w : World) (hN : LexRd w nv rv kv nl rl kl) (hO : LexOk nl rl kl kinds) (hp : p ≤ s.size) (hs : s.size ≤ 1000000) :
    Calls Tryz.prog 66 #[lexV nv rv kv kinds, .string s, .int .i64 p] w fun e w' => e = .returned (.tuple #[tokV p (nextF nl rl kl s p), .int .i64 0]) ∧ Ext w w' := by
  obtain ⟨g0, hg0⟩ : ∃ b, w.heap.size = b := ⟨_, rfl⟩
  obtain ⟨W, hW⟩ : ∃ W, (w.alloc (.cells #[nv, rv, kv, .int .i64 kinds] 96)).alloc (.cells #[.int .i64 0, .int .i64 0, .int .i64 0, .int .i64 0, .int .i64 0] 116) = W := ⟨_, rfl⟩
  have X1 : Ext w W := by rw [← hW]; exact (by repeat (first | exact Ext.refl _ | refine Ext.alloc ?_ _ | refine Ext.more ?_ _ _ | refine Ext.drew ?_ | refine Ext.drewN ?_ _ | refine Ext.setCell ?_ (by simp <;> omega) _))
  have B1 : W.heap[g0]? = some (.cells #[nv, rv, kv, .int .i64 kinds] 96) := by rw [← hW, ← hg0]; exact (by simp only [heap_alloc_get, World.size_alloc]; (repeat (split; (first | rfl | (exfalso; omega)))); (try (first | (exfalso; omega) | simp_all)))
  have R1 : W.heap[g0 + 1]? = some (.cells #[.int .i64 0, .int .i64 0, .int .i64 0, .int .i64 0, .int .i64 0] 116) := by rw [← hW, ← hg0]; exact (by simp only [heap_alloc_get, World.size_alloc]; (repeat (split; (first | rfl | (exfalso; omega)))); (try (first | (exfalso; omega) | simp_all)))
  have b0 := cell_of_row _ _ 0 _ _ _ B1
  have b1 := cell_of_row _ _ 1 _ _ _ B1
  have b2 := cell_of_row _ _ 2 _ _ _ B1
  have b3 := cell_of_row _ _ 3 _ _ _ B1
  have lb := lt_of_heap B1
  simp at b0 b1 b2 b3
  have HCK := Lib.hid (check_lex nv rv kv nl rl kl kinds W (hN.ext X1) hO)
  have HNX := Lib.hid (fun W' (e : Ext W W') => tok_next nv rv kv nl rl kl kinds s p W' ((hN.ext X1).ext e) hO hp hs)
  have HX := Lib.hid X1
  have HB1 := Lib.hid B1
  have HR1 := Lib.hid R1
  have HG0 := Lib.hid hg0
  have q0 : decide ((p : Int) < 0) = false := by simp
  have q1 : decide ((s.size : Int) < p) = false := by simp; omega
  have q2 : decide (s.size < p) = false := by simp; omega
  clear hN hO X1 B1 R1
  unfold lexV at HCK HNX ⊢
  go_enter Tryz.func66, Tryz.ntmps66
  go_wp2_with fail
  try simp only [hW]
  refine HCK.out.mono ?_
  rintro e W2 ⟨rfl, hx2⟩
  have hb2 := ext_block HB1.out hx2
  have b0 := cell_of_row _ _ 0 _ _ _ hb2
  have b1 := cell_of_row _ _ 1 _ _ _ hb2
  have b2 := cell_of_row _ _ 2 _ _ _ hb2
  have b3 := cell_of_row _ _ 3 _ _ _ hb2
  have lb := lt_of_heap hb2
  simp at b0 b1 b2 b3
  have HX2 := Lib.hid hx2
  clear hb2 hx2
  go_wp2_with fail
  refine (HNX.out _ HX2.out).mono ?_
  rintro e W3 ⟨rfl, hx3⟩
  obtain ⟨t, ht⟩ : ∃ t, nextF nl rl kl s p = t := ⟨_, rfl⟩
  rw [ht]
  obtain ⟨t0, t1, t2, t3⟩ := t
  have HTT := Lib.hid ht
  clear ht
  unfold tokV
  dsimp only
  have R3 := ext_block HR1.out (HX2.out.trans hx3)
  have P4 := put5_at R3 (.int .i64 t0) (.int .i64 p) (.int .i64 t1) (.int .i64 t2) (.int .i64 t3)
  obtain ⟨W4, hW4⟩ : ∃ W4, put5 W3 (g0 + 1) (.int .i64 t0) (.int .i64 p) (.int .i64 t1) (.int .i64 t2) (.int .i64 t3) = W4 := ⟨_, rfl⟩
  have HX4 : Hid (Ext w W4) := Lib.hid (by rw [← hW4]; exact (put5_turn (S := fun k => k = g0 + 1) rfl _ _ _ _ _).ext (HX.out.trans (HX2.out.trans hx3)) (fun k hk => by have := HG0.out; omega))
  rw [hW4] at P4
  have r0 := cell_of_row _ _ 0 _ _ _ R3
  have r1 := cell_of_row _ _ 1 _ _ _ R3
  have r2 := cell_of_row _ _ 2 _ _ _ R3
  have r3 := cell_of_row _ _ 3 _ _ _ R3
  have r4 := cell_of_row _ _ 4 _ _ _ R3
  have ff := fun k => row_frozen R3 k
  have e0 := cell_of_row _ _ 0 _ _ _ P4
  have e1 := cell_of_row _ _ 1 _ _ _ P4
  have e2 := cell_of_row _ _ 2 _ _ _ P4
  have e3 := cell_of_row _ _ 3 _ _ _ P4
  have e4 := cell_of_row _ _ 4 _ _ _ P4
  simp at r0 r1 r2 r3 r4 e0 e1 e2 e3 e4
  unfold put5 put4 put3 put2 at hW4
  clear R3 P4 hx3 b0 b1 b2 b3 lb hW hg0
  go_wp2_with fail
  exact bodyPost_ret (v := .tuple #[.agg #[.int .i64 t0, .int .i64 p, .int .i64 t1, .int .i64 t2, .int .i64 t3], .int .i64 0]) (by simp [results, Tryz.results66, go_sem, *]) rfl ⟨by rw [HTT.out]; rfl, HX4.out⟩
end Go.Proofs.YthpmncdfaggkiaaGreat
/- viewportref07.Window to one token. -/
namespace Go.Proofs.YthpmncdfaggkiaaGreat
open Go.RowKit
attribute [local go_sem] more_drew more_drewN more_size more_cell more_frozen more_setCell drew_more drewN_more lt_add_r lt_add_r2 lt_add_r3 lt_add_r4 lt_add_r5 lt_add_r6 lt_add_r7 lt_add_r8 lt_add_r9 lt_add_r10 lt_self_r lt_self_r2
/-- the row that a token's kind stands for -/
def rowF (k : Int) : ByteArray := if k = -2 then tx 255 else if k = -1 then tx 254 else tx 0
theorem strN255 : strOfNums [255] = tx 255 := rfl
theorem strN254 : strOfNums [254] = tx 254 := rfl
theorem strN0 : strOfNums [0] = tx 0 := rfl
set_option maxRecDepth 100000 in
set_option maxHeartbeats 2000000 in
theorem window_one (nv rv kv : Value) (nl rl kl : List Int) (kinds : Int) (s : ByteArray) (p : Nat) (q : Int × Int × Int × Int) (w : World) (hN : LexRd w nv rv kv nl rl kl) (hO : LexOk nl rl kl kinds) (hp : p ≤ s.size) (hs : s.size ≤ 1000000) (hq : nextF nl rl kl s p = q) (hk : q.1 = -2 ∨ q.1 = -1 ∨ q.1 = 0) :
    Calls Tryz.prog 108 #[lexV nv rv kv kinds, .string s, .int .i64 p, .int .i64 1] w fun e w' => e = .returned (.tuple #[.string (rowF q.1), .int .i64 (max (p : Int) q.2.2.2), .int .i64 0]) ∧ Ext w w' := by
  obtain ⟨t0, t1, t2, t3⟩ := q
  obtain ⟨g0, hg0⟩ : ∃ b, w.heap.size = b := ⟨_, rfl⟩
  obtain ⟨W, hW⟩ : ∃ W, w.alloc (.cells #[nv, rv, kv, .int .i64 kinds] 96) = W := ⟨_, rfl⟩
  have X1 : Ext w W := by rw [← hW]; exact (by repeat (first | exact Ext.refl _ | refine Ext.alloc ?_ _ | refine Ext.more ?_ _ _ | refine Ext.drew ?_ | refine Ext.drewN ?_ _ | refine Ext.setCell ?_ (by simp <;> omega) _))
  have B1 : W.heap[g0]? = some (.cells #[nv, rv, kv, .int .i64 kinds] 96) := by rw [← hW, ← hg0]; exact heap_alloc_new _ _
  have HB : Hid (∀ w1, Ext W w1 → w1.cell? ⟨g0, 0, none⟩ = some nv ∧ w1.cell? ⟨g0, 1, none⟩ = some rv ∧ w1.cell? ⟨g0, 2, none⟩ = some kv ∧ w1.cell? ⟨g0, 3, none⟩ = some (.int .i64 kinds) ∧ g0 < w1.heap.size) := Lib.hid (fun w1 e => by
    have B2 := ext_block B1 e
    have b0 := cell_of_row _ _ 0 _ _ _ B2
    have b1 := cell_of_row _ _ 1 _ _ _ B2
    have b2 := cell_of_row _ _ 2 _ _ _ B2
    have b3 := cell_of_row _ _ 3 _ _ _ B2
    simp at b0 b1 b2 b3
    exact ⟨b0, b1, b2, b3, lt_of_heap B2⟩)
  have HTN := Lib.hid (tok_Next nv rv kv nl rl kl kinds s p W (hN.ext X1) hO hp hs)
  have HTT := Lib.hid (fun w1 (e : Ext W w1) => tok_next nv rv kv nl rl kl kinds s p w1 ((hN.ext X1).ext e) hO hp hs)
  rw [hq] at HTN HTT
  have HX := Lib.hid X1
  have HK := Lib.hid hk
  obtain ⟨mx, hmx⟩ : ∃ m : Int, max (p : Int) t3 = m := ⟨_, rfl⟩
  have hm1 : (if (p : Int) < t3 then t3 else (p : Int)) = mx := by rw [← hmx]; omega
  simp only [hmx]
  have HM := Lib.hid hm1
  clear hN hO hq hk X1 B1 hmx hm1
  unfold TokRet at HTT
  unfold lexV tokV at HTN HTT
  unfold lexV
  dsimp only at HTN HTT
  go_enter Tryz.func108, Tryz.ntmps108
  go_upto_region 1 with fail
  try simp only [hg0]
  try simp only [hW]
  clear hW hg0
  obtain ⟨b0, b1, b2, b3, lb⟩ := HB.out W (Ext.refl _)
  go_wp2_with fail
  refine HTN.out.mono ?_
  rintro e' W2 ⟨rfl, hx2⟩
  have HX2 := Lib.hid hx2
  clear b0 b1 b2 b3 lb HTN
  obtain ⟨kb, hkb⟩ : ∃ b, W2.heap.size = b := ⟨_, rfl⟩
  obtain ⟨W3a, hW3a⟩ : ∃ W, W2.alloc (.cells #[.int .i64 0, .int .i64 0, .int .i64 0, .int .i64 0, .int .i64 0] 116) = W := ⟨_, rfl⟩
  have hR : W3a.heap[kb]? = some (.cells #[.int .i64 0, .int .i64 0, .int .i64 0, .int .i64 0, .int .i64 0] 116) := by rw [← hW3a, ← hkb]; exact heap_alloc_new _ _
  obtain ⟨W3, hW3⟩ : ∃ W, put5 W3a kb (.int .i64 t0) (.int .i64 p) (.int .i64 t1) (.int .i64 t2) (.int .i64 t3) = W := ⟨_, rfl⟩
  have X3 : Ext W2 W3 := by rw [← hW3]; exact (put5_turn (S := fun k => k = kb) rfl _ _ _ _ _).ext (show Ext W2 W3a from by rw [← hW3a]; exact (by repeat (first | exact Ext.refl _ | refine Ext.alloc ?_ _ | refine Ext.more ?_ _ _ | refine Ext.drew ?_ | refine Ext.drewN ?_ _ | refine Ext.setCell ?_ (by simp <;> omega) _))) (fun k hk => by omega)
  have HX3 := Lib.hid (hx2.trans X3)
  have z0 := cell_of_row _ _ 0 _ _ _ hR
  have z1 := cell_of_row _ _ 1 _ _ _ hR
  have z2 := cell_of_row _ _ 2 _ _ _ hR
  have z3 := cell_of_row _ _ 3 _ _ _ hR
  have z4 := cell_of_row _ _ 4 _ _ _ hR
  have zf := fun k => row_frozen hR k
  have zl := lt_of_heap hR
  simp at z0 z1 z2 z3 z4
  unfold put5 put4 put3 put2 at hW3
  clear hx2 hR X3
  go_upto_region 2 with fail
  try simp only [hkb]
  try simp only [hW3a]
  try simp only [hW3]
  clear hkb hW3a hW3 z0 z1 z2 z3 z4 zf zl
  go_wp2_with fail
  refine wp_loop_rounds 2 ?_
  rw [rounds_succ]
  obtain ⟨b0, b1, b2, b3, lb⟩ := HB.out W3 HX3.out
  go_wp2_with fail
  refine (HTT.out _ HX3.out).mono ?_
  rintro e' W4 ⟨rfl, hx4⟩
  clear b0 b1 b2 b3 lb HTT
  obtain ⟨kb, hkb⟩ : ∃ b, W4.heap.size = b := ⟨_, rfl⟩
  obtain ⟨W5a, hW5a⟩ : ∃ W, W4.alloc (.cells #[.int .i64 0, .int .i64 0, .int .i64 0, .int .i64 0, .int .i64 0] 116) = W := ⟨_, rfl⟩
  have hR : W5a.heap[kb]? = some (.cells #[.int .i64 0, .int .i64 0, .int .i64 0, .int .i64 0, .int .i64 0] 116) := by rw [← hW5a, ← hkb]; exact heap_alloc_new _ _
  obtain ⟨W5, hW5⟩ : ∃ W, put5 W5a kb (.int .i64 t0) (.int .i64 p) (.int .i64 t1) (.int .i64 t2) (.int .i64 t3) = W := ⟨_, rfl⟩
  have X5 : Ext W4 W5 := by rw [← hW5]; exact (put5_turn (S := fun k => k = kb) rfl _ _ _ _ _).ext (show Ext W4 W5a from by rw [← hW5a]; exact (by repeat (first | exact Ext.refl _ | refine Ext.alloc ?_ _ | refine Ext.more ?_ _ _ | refine Ext.drew ?_ | refine Ext.drewN ?_ _ | refine Ext.setCell ?_ (by simp <;> omega) _))) (fun k hk => by omega)
  have HX5 := Lib.hid (HX3.out.trans (hx4.trans X5))
  have z0 := cell_of_row _ _ 0 _ _ _ hR
  have z1 := cell_of_row _ _ 1 _ _ _ hR
  have z2 := cell_of_row _ _ 2 _ _ _ hR
  have z3 := cell_of_row _ _ 3 _ _ _ hR
  have z4 := cell_of_row _ _ 4 _ _ _ hR
  have zf := fun k => row_frozen hR k
  have zl := lt_of_heap hR
  simp at z0 z1 z2 z3 z4
  have hR5 : W5.heap[kb]? = some (.cells #[.int .i64 t0, .int .i64 p, .int .i64 t1, .int .i64 t2, .int .i64 t3] 116) := by rw [← hW5]; exact put5_at hR _ _ _ _ _
  have HR5 := Lib.hid hR5
  unfold put5 put4 put3 put2 at hW5
  clear hx4 hR X5 hR5
  go_upto_region 10 with fail
  try simp only [hkb]
  try simp only [hW5a]
  try simp only [hW5]
  clear hkb hW5a hW5 z0 z1 z2 z3 z4 zf zl
  have y0 := cell_of_row _ _ 0 _ _ _ HR5.out
  have y3 := cell_of_row _ _ 3 _ _ _ HR5.out
  have y4 := cell_of_row _ _ 4 _ _ _ HR5.out
  have yl := lt_of_heap HR5.out
  simp at y0 y3 y4
  have hm := HM.out
  refine wp_region_bt (8) (pures_bt [0, 1, 4] (softs_bt [2, 3, 5, 6, 7] .fin)) (by kernel_rfl) (by kernel_rfl) ?_
  (refine bt_pures _ fun K hK => ?_); (simp only [pick, nthC]); (repeat (go_big_quiet_step (fail))); (refine wpQuiet_nil (hK _ ?_)); (clear hK K)
  (refine bt_softs _ fun K hK => ?_); (simp only [pick, nthC]); (repeat (go_big_quiet_step (fail))); (refine wpQuiet_nil (hK _ ?_)); (clear hK K)
  (refine bt_fin ?_)
  clear hm y0 y3 y4 yl
  obtain ⟨W6, hW6⟩ : ∃ V, W5.drew = V := ⟨_, rfl⟩
  have X56 : Ext W5 W6 := by rw [← hW6]; exact (by repeat (first | exact Ext.refl _ | refine Ext.alloc ?_ _ | refine Ext.more ?_ _ _ | refine Ext.drew ?_ | refine Ext.drewN ?_ _ | refine Ext.setCell ?_ (by simp <;> omega) _))
  have HX6 := Lib.hid (HX5.out.trans X56)
  have hR6 := ext_block HR5.out X56
  have y0 := cell_of_row _ _ 0 _ _ _ hR6
  have yl := lt_of_heap hR6
  simp at y0
  try simp only [hW6]
  clear hW6 X56 hR6
  obtain ⟨i6, hi, hz0, hz1, hz2⟩ := info_parts infoByte
  rcases HK.out with h | h | h
  · have h : t0 = -2 := h
    subst h
    go_upto_region 14 with fail
    have HC : Hid (CellsAt (W6.alloc (.cells #[.int .u8 255] 5)) (some ⟨W6.heap.size, 0, none⟩) [.int .u8 255]) := Lib.hid (cells_lit W6 5 W6.heap.size #[.int .u8 255] [.int .u8 255] rfl rfl)
    go_wp2_with (at_builtin; refine wpList_append_cells _ (by rfl) (.tmp 53) (.tmp 54) 212 rfl W6.heap.size 5 i6 _ 1 1 Tryz.underlying212 hi hz0 hz1 hz2 rfl (by omega) nil0 0 [] rfl (World.ownsRow_nil _ _ _ _) (some ⟨W6.heap.size, 0, none⟩) 1 1 [.int .u8 255] rfl (by intro h; cases h) rfl HC.out (by intro u hu; obtain rfl := List.mem_singleton.1 hu; rfl) (by unfold maxLen; omega) (by omega) (by simp) ?_; intro v7 w7 ho7 hg7 hat7; have X7 : Ext W6 w7 := ((by repeat (first | exact Ext.refl _ | refine Ext.alloc ?_ _ | refine Ext.more ?_ _ _ | refine Ext.drew ?_ | refine Ext.drewN ?_ _ | refine Ext.setCell ?_ (by simp <;> omega) _)) : Ext W6 (W6.alloc (.cells #[.int .u8 255] 5))).grown hg7 (by intro g hg; cases hg); have HX7 := Lib.hid (HX6.out.trans X7); obtain ⟨A7, c7, rfl, hc7, _⟩ := own_cells ho7; obtain ⟨b7, o7, rfl, lb7, hcc⟩ := hc7 (by simp); have hcv := run_convert_bytes_arg (P := Tryz.prog) w7 212 5 Tryz.underlying212 Tryz.underlying5 b7 o7 1 c7 [255] rfl (fun i hi => by
      obtain rfl : i = 0 := by omega
      exact hcc 0 _ rfl) 9 Tryz.underlying9; rw [strN255] at hcv; clear X7 ho7 hg7 hat7 hcc hc7 lb7)
    exact bodyPost_ret (v := .tuple #[.string (tx 255), .int .i64 mx, .int .i64 0]) (by simp [results, Tryz.results108, go_sem, *]) rfl ⟨rfl, HX.out.trans HX7.out⟩
  · have h : t0 = -1 := h
    subst h
    go_upto_region 16 with fail
    have HC : Hid (CellsAt (W6.alloc (.cells #[.int .u8 254] 5)) (some ⟨W6.heap.size, 0, none⟩) [.int .u8 254]) := Lib.hid (cells_lit W6 5 W6.heap.size #[.int .u8 254] [.int .u8 254] rfl rfl)
    go_wp2_with (at_builtin; refine wpList_append_cells _ (by rfl) (.tmp 60) (.tmp 61) 212 rfl W6.heap.size 5 i6 _ 1 1 Tryz.underlying212 hi hz0 hz1 hz2 rfl (by omega) nil0 0 [] rfl (World.ownsRow_nil _ _ _ _) (some ⟨W6.heap.size, 0, none⟩) 1 1 [.int .u8 254] rfl (by intro h; cases h) rfl HC.out (by intro u hu; obtain rfl := List.mem_singleton.1 hu; rfl) (by unfold maxLen; omega) (by omega) (by simp) ?_; intro v7 w7 ho7 hg7 hat7; have X7 : Ext W6 w7 := ((by repeat (first | exact Ext.refl _ | refine Ext.alloc ?_ _ | refine Ext.more ?_ _ _ | refine Ext.drew ?_ | refine Ext.drewN ?_ _ | refine Ext.setCell ?_ (by simp <;> omega) _)) : Ext W6 (W6.alloc (.cells #[.int .u8 254] 5))).grown hg7 (by intro g hg; cases hg); have HX7 := Lib.hid (HX6.out.trans X7); obtain ⟨A7, c7, rfl, hc7, _⟩ := own_cells ho7; obtain ⟨b7, o7, rfl, lb7, hcc⟩ := hc7 (by simp); have hcv := run_convert_bytes_arg (P := Tryz.prog) w7 212 5 Tryz.underlying212 Tryz.underlying5 b7 o7 1 c7 [254] rfl (fun i hi => by
      obtain rfl : i = 0 := by omega
      exact hcc 0 _ rfl) 9 Tryz.underlying9; rw [strN254] at hcv; clear X7 ho7 hg7 hat7 hcc hc7 lb7)
    rw [rounds_succ]
    go_wp2_with fail
    exact bodyPost_ret (v := .tuple #[.string (tx 254), .int .i64 mx, .int .i64 0]) (by simp [results, Tryz.results108, go_sem, *]) rfl ⟨rfl, HX.out.trans HX7.out⟩
  · have h : t0 = 0 := h
    subst h
    go_upto_region 12 with fail
    have HC : Hid (CellsAt (W6.alloc (.cells #[.int .u8 0] 5)) (some ⟨W6.heap.size, 0, none⟩) [.int .u8 0]) := Lib.hid (cells_lit W6 5 W6.heap.size #[.int .u8 0] [.int .u8 0] rfl rfl)
    go_wp2_with (at_builtin; refine wpList_append_cells _ (by rfl) (.tmp 45) (.tmp 49) 212 rfl W6.heap.size 5 i6 _ 1 1 Tryz.underlying212 hi hz0 hz1 hz2 rfl (by omega) nil0 0 [] rfl (World.ownsRow_nil _ _ _ _) (some ⟨W6.heap.size, 0, none⟩) 1 1 [.int .u8 0] rfl (by intro h; cases h) rfl HC.out (by intro u hu; obtain rfl := List.mem_singleton.1 hu; rfl) (by unfold maxLen; omega) (by omega) (by simp) ?_; intro v7 w7 ho7 hg7 hat7; have X7 : Ext W6 w7 := ((by repeat (first | exact Ext.refl _ | refine Ext.alloc ?_ _ | refine Ext.more ?_ _ _ | refine Ext.drew ?_ | refine Ext.drewN ?_ _ | refine Ext.setCell ?_ (by simp <;> omega) _)) : Ext W6 (W6.alloc (.cells #[.int .u8 0] 5))).grown hg7 (by intro g hg; cases hg); have HX7 := Lib.hid (HX6.out.trans X7); obtain ⟨A7, c7, rfl, hc7, _⟩ := own_cells ho7; obtain ⟨b7, o7, rfl, lb7, hcc⟩ := hc7 (by simp); have hcv := run_convert_bytes_arg (P := Tryz.prog) w7 212 5 Tryz.underlying212 Tryz.underlying5 b7 o7 1 c7 [0] rfl (fun i hi => by
      obtain rfl : i = 0 := by omega
      exact hcc 0 _ rfl) 9 Tryz.underlying9; rw [strN0] at hcv; clear X7 ho7 hg7 hat7 hcc hc7 lb7)
    rw [rounds_succ]
    go_wp2_with fail
    exact bodyPost_ret (v := .tuple #[.string (tx 0), .int .i64 mx, .int .i64 0]) (by simp [results, Tryz.results108, go_sem, *]) rfl ⟨rfl, HX.out.trans HX7.out⟩
end Go.Proofs.YthpmncdfaggkiaaGreat
/- viewportref14.Predict of the grammar of words. -/
namespace Go.Proofs.YthpmncdfaggkiaaGreat
open Go.RowKit
attribute [local go_sem] more_drew more_drewN more_size more_cell more_frozen more_setCell drew_more drewN_more lt_add_r lt_add_r2 lt_add_r3 lt_add_r4 lt_add_r5 lt_add_r6 lt_add_r7 lt_add_r8 lt_add_r9 lt_add_r10 lt_self_r lt_self_r2
/-- what is predicted from a row -/
def predF (x : ByteArray) : Int := if x = tx 0 then 0 else if x = tx 255 then 1 else -1
set_option maxRecDepth 100000 in
set_option maxHeartbeats 2000000 in
theorem predict_gram (a b : Nat) (C : Option Addr) (c d e : Nat) (tv : Value) (x : ByteArray) (w : World) (h : GrRd w a b C d e) (ht : TabRd w tv) : Calls Tryz.prog 162 #[gramV a c, .agg #[tv], .int .i64 0, .string x] w fun e w' => e = .returned (.int .i64 (predF x)) ∧ Ext w w' := by
  obtain ⟨g0, W, hg0, hW, X1, hat⟩ := gr_enter w c h
  obtain ⟨g, og, tc, a0, o0, c0, a1, o1, c1, rfl, lt, x0, x1, _, _, _, _, hs0, hs1⟩ := tab_open (ht.ext X1)
  obtain ⟨tb, htb⟩ : ∃ ob, W.heap.size = ob := ⟨_, rfl⟩
  obtain ⟨W1, hW1⟩ : ∃ V, W.alloc (.cells #[.slice (some ⟨g, og, none⟩) 2 tc] 103) = V := ⟨_, rfl⟩
  have hB1 : W1.heap[tb]? = some (.cells #[.slice (some ⟨g, og, none⟩) 2 tc] 103) := by rw [← hW1, ← htb]; exact heap_alloc_new _ _
  have X01 : Ext W W1 := by rw [← hW1]; exact (by repeat (first | exact Ext.refl _ | refine Ext.alloc ?_ _ | refine Ext.more ?_ _ _ | refine Ext.drew ?_ | refine Ext.drewN ?_ _ | refine Ext.setCell ?_ (by simp <;> omega) _))
  have HG := Lib.hid (hat.ext X01)
  have HB := Lib.hid hB1
  have HX := Lib.hid (X1.trans X01)
  have HT : Hid (∀ w1, Ext W1 w1 → w1.cell? ⟨g, og, none⟩ = some (.slice (some ⟨a0, o0, none⟩) 1 c0) ∧ w1.cell? ⟨g, og + 1, none⟩ = some (.slice (some ⟨a1, o1, none⟩) 1 c1) ∧ g < w1.heap.size ∧ w1.cell? ⟨tb, 0, none⟩ = some (.slice (some ⟨g, og, none⟩) 2 tc) ∧ tb < w1.heap.size) := Lib.hid (fun w1 e1 => by
    have b0 := cell_of_row _ _ 0 _ _ _ (ext_block hB1 e1)
    simp at b0
    exact ⟨ext_cell x0 lt (X01.trans e1), ext_cell x1 lt (X01.trans e1), Nat.lt_of_lt_of_le lt (X01.trans e1).size, b0, lt_of_heap (ext_block hB1 e1)⟩)
  have HCK := Lib.hid (check_gram a b C c d e W1 (hat.ext X01).rd)
  have HH0 := Lib.hid (fun w1 (e1 : Ext W1 w1) => hasRow_any (some ⟨a0, o0, none⟩) c0 [tx 0] x w1 ((hs0.ext X01).ext e1) (by simp) (decide (x = tx 0)) (by simp))
  have HH1 := Lib.hid (fun w1 (e1 : Ext W1 w1) => hasRow_any (some ⟨a1, o1, none⟩) c1 [tx 255] x w1 ((hs1.ext X01).ext e1) (by simp) (decide (x = tx 255)) (by simp))
  clear h X1 hat ht X01 hB1 hs0 hs1 x0 x1 lt
  unfold gramV at HCK ⊢
  go_enter Tryz.func162, Tryz.ntmps162
  go_upto_region 1 with fail
  try simp only [hg0]
  try simp only [hW]
  try simp only [htb]
  try simp only [hW1]
  clear hW hg0 htb hW1
  obtain ⟨k0, k1, k2, k3, lg, p0, p1, p2, p3, lp, r0, r1, lr⟩ := HG.out
  obtain ⟨x0, x1, lt, b0, bl⟩ := HT.out W1 (Ext.refl _)
  go_wp2_with fail
  refine HCK.out.mono ?_
  rintro e' W2 ⟨rfl, hx2⟩
  have HX2 := Lib.hid hx2
  clear HCK k0 k1 k2 k3 lg p0 p1 p2 p3 lp r0 r1 lr hx2 x0 x1 lt b0 bl
  obtain ⟨k0, k1, k2, k3, lg, p0, p1, p2, p3, lp, r0, r1, lr⟩ := HG.out.ext HX2.out
  obtain ⟨x0, x1, lt, b0, bl⟩ := HT.out W2 HX2.out
  go_wp2_with fail
  refine wp_loop_rounds 3 ?_
  rw [rounds_succ]
  go_wp2_with fail
  refine (HH0.out _ HX2.out).mono ?_
  rintro e' W3 ⟨rfl, hx3⟩
  have HX3 := Lib.hid (HX2.out.trans hx3)
  clear k0 k1 k2 k3 lg p0 p1 p2 p3 lp r0 r1 lr hx3 x0 x1 lt b0 bl HH0
  by_cases h0 : x = tx 0
  · have HP : Hid (predF x = 0) := Lib.hid (by unfold predF; rw [if_pos h0])
    rw [decide_eq_true h0]
    clear h0
    go_wp2_with fail
    go_ret
    exact ⟨ret_int (by rw [HP.out]), HX.out.trans HX3.out⟩
  · rw [decide_eq_false h0]
    have HN0 := Lib.hid h0
    clear h0
    obtain ⟨k0, k1, k2, k3, lg, p0, p1, p2, p3, lp, r0, r1, lr⟩ := HG.out.ext HX3.out
    obtain ⟨x0, x1, lt, b0, bl⟩ := HT.out W3 HX3.out
    go_wp2_with fail
    rw [rounds_succ]
    go_wp2_with fail
    refine (HH1.out _ HX3.out).mono ?_
    rintro e' W4 ⟨rfl, hx4⟩
    have HX4 := Lib.hid (HX3.out.trans hx4)
    clear k0 k1 k2 k3 lg p0 p1 p2 p3 lp r0 r1 lr hx4 x0 x1 lt b0 bl HH1
    by_cases h1 : x = tx 255
    · have HP : Hid (predF x = 1) := Lib.hid (by unfold predF; rw [if_neg HN0.out, if_pos h1])
      rw [decide_eq_true h1]
      clear h1
      go_wp2_with fail
      go_ret
      exact ⟨ret_int (by rw [HP.out]), HX.out.trans HX4.out⟩
    · have HP : Hid (predF x = -1) := Lib.hid (by unfold predF; rw [if_neg HN0.out, if_neg h1])
      rw [decide_eq_false h1]
      clear h1
      obtain ⟨k0, k1, k2, k3, lg, p0, p1, p2, p3, lp, r0, r1, lr⟩ := HG.out.ext HX4.out
      go_wp2_with fail
      rw [rounds_succ]
      go_wp2_with fail
      go_ret
      exact ⟨ret_int (by rw [HP.out]), HX.out.trans HX4.out⟩
end Go.Proofs.YthpmncdfaggkiaaGreat
/- viewportkit.Words; viewportref17.Build of the words. -/
namespace Go.Proofs.YthpmncdfaggkiaaGreat
open Go.RowKit
attribute [local go_sem] more_drew more_drewN more_size more_cell more_frozen more_setCell drew_more drewN_more lt_add_r lt_add_r2 lt_add_r3 lt_add_r4 lt_add_r5 lt_add_r6 lt_add_r7 lt_add_r8 lt_add_r9 lt_add_r10 lt_self_r lt_self_r2
set_option maxRecDepth 100000 in
set_option maxHeartbeats 1000000 in
theorem words_run (w : World) : Calls Tryz.prog 20 #[] w fun e w' => ∃ rb a b, e = .returned (.tuple #[.slice (some ⟨rb, 0, none⟩) 2 2, gramV a 2]) ∧ RulesRd w' rb ∧ GrRd w' a b none 2 0 ∧ Ext w w' := by
  obtain ⟨gb, hgb⟩ : ∃ b, w.heap.size = b := ⟨_, rfl⟩
  obtain ⟨W1, hW1⟩ : ∃ V, w.alloc (.cells #[.int .i64 0, .int .i64 0, .int .i64 0, nil0] 46) = V := ⟨_, rfl⟩
  have h1 : W1.heap[gb]? = some (.cells #[.int .i64 0, .int .i64 0, .int .i64 0, nil0] 46) := by rw [← hW1, ← hgb]; exact heap_alloc_new _ _
  have s1 : W1.heap.size = gb + 1 := by rw [← hW1, ← hgb]; simp
  obtain ⟨W2, hW2⟩ : ∃ V, W1.alloc (.cells #[.string sW, .string rW, .bool false, .string sG, .string rG, .bool true] 90) = V := ⟨_, rfl⟩
  have h2 : W2.heap[gb + 1]? = some (.cells #[.string sW, .string rW, .bool false, .string sG, .string rG, .bool true] 90) := by rw [← hW2, ← s1]; exact heap_alloc_new _ _
  have s2 : W2.heap.size = gb + 2 := by rw [← hW2]; simp; omega
  obtain ⟨W3, hW3⟩ : ∃ V, W2.alloc (.cells #[.int .i64 0, .int .i64 1] 3) = V := ⟨_, rfl⟩
  have h3 : W3.heap[gb + 2]? = some (.cells #[.int .i64 0, .int .i64 1] 3) := by rw [← hW3, ← s2]; exact heap_alloc_new _ _
  have s3 : W3.heap.size = gb + 3 := by rw [← hW3]; simp; omega
  obtain ⟨W4, hW4⟩ : ∃ V, W3.alloc (.cells #[.int .i64 0, .slice (some ⟨gb + 2, 0, none⟩) 2 2, .int .i64 0, nil0] 92) = V := ⟨_, rfl⟩
  have h4 : W4.heap[gb + 3]? = some (.cells #[.int .i64 0, .slice (some ⟨gb + 2, 0, none⟩) 2 2, .int .i64 0, nil0] 92) := by rw [← hW4, ← s3]; exact heap_alloc_new _ _
  have x1 : Ext w W1 := by rw [← hW1]; exact (by repeat (first | exact Ext.refl _ | refine Ext.alloc ?_ _ | refine Ext.more ?_ _ _ | refine Ext.drew ?_ | refine Ext.drewN ?_ _ | refine Ext.setCell ?_ (by simp <;> omega) _))
  have x2 : Ext W1 W2 := by rw [← hW2]; exact (by repeat (first | exact Ext.refl _ | refine Ext.alloc ?_ _ | refine Ext.more ?_ _ _ | refine Ext.drew ?_ | refine Ext.drewN ?_ _ | refine Ext.setCell ?_ (by simp <;> omega) _))
  have x3 : Ext W2 W3 := by rw [← hW3]; exact (by repeat (first | exact Ext.refl _ | refine Ext.alloc ?_ _ | refine Ext.more ?_ _ _ | refine Ext.drew ?_ | refine Ext.drewN ?_ _ | refine Ext.setCell ?_ (by simp <;> omega) _))
  have x4 : Ext W3 W4 := by rw [← hW4]; exact (by repeat (first | exact Ext.refl _ | refine Ext.alloc ?_ _ | refine Ext.more ?_ _ _ | refine Ext.drew ?_ | refine Ext.drewN ?_ _ | refine Ext.setCell ?_ (by simp <;> omega) _))
  have h14 := ext_block h1 (x2.trans (x3.trans x4))
  obtain ⟨W5, hW5⟩ : ∃ V, put4 W4 gb (.int .i64 1) (.int .i64 1) (.int .i64 1) (.slice (some ⟨gb + 3, 0, none⟩) 2 2) = V := ⟨_, rfl⟩
  have T5 : Turn (fun k => k = gb) W4 W5 := by rw [← hW5]; exact put4_turn (S := fun k => k = gb) rfl _ _ _ _
  have P5 : W5.heap[gb]? = some (.cells #[.int .i64 1, .int .i64 1, .int .i64 1, .slice (some ⟨gb + 3, 0, none⟩) 2 2] 46) := by rw [← hW5]; exact put4_at h14 _ _ _ _
  have HX5 : Hid (Ext w W5) := Lib.hid (T5.ext (x1.trans (x2.trans (x3.trans x4))) (fun k hk => by omega))
  have h25 := T5.keep (ext_block h2 (x3.trans x4)) (by omega)
  have h35 := T5.keep (ext_block h3 x4) (by omega)
  have h45 := T5.keep h4 (by omega)
  have HR : Hid (RulesRd W5 (gb + 1)) := Lib.hid ⟨cell_of_row _ _ 0 _ _ _ h25, cell_of_row _ _ 1 _ _ _ h25, cell_of_row _ _ 2 _ _ _ h25, cell_of_row _ _ 3 _ _ _ h25, cell_of_row _ _ 4 _ _ _ h25, cell_of_row _ _ 5 _ _ _ h25, lt_of_heap h25⟩
  have HG : Hid (GrRd W5 (gb + 3) (gb + 2) none 2 0) := Lib.hid ⟨cell_of_row _ _ 0 _ _ _ h45, cell_of_row _ _ 1 _ _ _ h45, cell_of_row _ _ 2 _ _ _ h45, cell_of_row _ _ 3 _ _ _ h45, lt_of_heap h45, cell_of_row _ _ 0 _ _ _ h35, cell_of_row _ _ 1 _ _ _ h35, lt_of_heap h35⟩
  have z0 := cell_of_row _ _ 0 _ _ _ h14
  have z1 := cell_of_row _ _ 1 _ _ _ h14
  have z2 := cell_of_row _ _ 2 _ _ _ h14
  have z3 := cell_of_row _ _ 3 _ _ _ h14
  have zl := lt_of_heap h14
  have zf := fun k => row_frozen h14 k
  have e0 := cell_of_row _ _ 0 _ _ _ P5
  have e1 := cell_of_row _ _ 1 _ _ _ P5
  have e2 := cell_of_row _ _ 2 _ _ _ P5
  have e3 := cell_of_row _ _ 3 _ _ _ P5
  simp at z0 z1 z2 z3 e0 e1 e2 e3
  unfold put4 put3 put2 at hW5
  clear h1 h2 h3 h4 x1 x2 x3 x4 h14 T5 P5 h25 h35 h45
  go_enter Tryz.func20, Tryz.ntmps20
  go_wp2_with fail
  exact bodyPost_ret (v := .tuple #[.slice (some ⟨gb + 1, 0, none⟩) 2 2, .agg #[.int .i64 1, .int .i64 1, .int .i64 1, .slice (some ⟨gb + 3, 0, none⟩) 2 2]]) (by simp [results, Tryz.results20, go_sem, *]) rfl ⟨gb + 1, gb + 3, gb + 2, rfl, HR.out, HG.out, HX5.out⟩
end Go.Proofs.YthpmncdfaggkiaaGreat
/- viewportref17.Build of the words. -/
namespace Go.Proofs.YthpmncdfaggkiaaGreat
open Go.RowKit
attribute [local go_sem] more_drew more_drewN more_size more_cell more_frozen more_setCell drew_more drewN_more lt_add_r lt_add_r2 lt_add_r3 lt_add_r4 lt_add_r5 lt_add_r6 lt_add_r7 lt_add_r8 lt_add_r9 lt_add_r10 lt_self_r lt_self_r2
/-- the language of words stands at block lb -/
def LangRd (w : World) (lb : Nat) : Prop := ∃ nv rv kv a b C c d e tv xv g og nb nc cl, w.heap[lb]? = some (.cells #[nv, rv, kv, .int .i64 1, .int .i64 1, .int .i64 1, .int .i64 1, .slice (some ⟨a, 0, none⟩) 2 c, tv, xv, .int .i64 37448] 112) ∧ LexRd w nv rv kv wordN wordR [0, -1] ∧ GrRd w a b C d e ∧ TabRd w tv ∧ NextRd w xv g og nb nc cl
theorem NextRd.ext {w w' : World} {v : Value} {g og lb c cl : Nat} (h : NextRd w v g og lb c cl) (e : Ext w w') : NextRd w' v g og lb c cl := ⟨h.val, Nat.lt_of_lt_of_le h.lg e.size, ext_cell h.row h.lg e, Nat.lt_of_lt_of_le h.ll e.size, ext_cell h.b0 h.ll e, ext_cell h.b1 h.ll e⟩
theorem LangRd.ext {w w' : World} {lb : Nat} (h : LangRd w lb) (x : Ext w w') : LangRd w' lb := by
  obtain ⟨nv, rv, kv, a, b, C, c, d, e, tv, xv, g, og, nb, nc, cl, h1, h2, h3, h4, h5⟩ := h
  exact ⟨nv, rv, kv, a, b, C, c, d, e, tv, xv, g, og, nb, nc, cl, ext_block h1 x, h2.ext x, h3.ext x, h4.ext x, h5.ext x⟩
/-- a lexer's three slices -/
theorem lex_slices {w : World} {nv rv kv : Value} (h : LexRd w nv rv kv wordN wordR [0, -1]) : ∃ A0 c0 A1 c1 A2 c2, nv = .slice A0 768 c0 ∧ rv = .slice A1 3 c1 ∧ kv = .slice A2 2 c2 := by
  obtain ⟨⟨⟨A, c, h1, _⟩, B, d, h2, _⟩, K, kc, h3, _⟩ := h
  rw [wordN_length] at h1
  exact ⟨A, c, B, d, K, kc, h1, h2, h3⟩
set_option maxRecDepth 100000 in
set_option maxHeartbeats 2000000 in
theorem build17_words (rb rc a b c : Nat) (w : World) (hr : RulesRd w rb) (h : GrRd w a b none 2 0) : Calls Tryz.prog 21 #[.slice (some ⟨rb, 0, none⟩) 2 rc, gramV a c] w fun e w' => ∃ lb, e = .returned (.tuple #[.pointer (some ⟨lb, 0, none⟩), .int .i64 0]) ∧ LangRd w' lb ∧ Ext w w' := by
  obtain ⟨g0, W, hg0, hW, X1, hat⟩ := gr_enter w c h
  have HX := Lib.hid X1
  have HG := Lib.hid hat
  have HLB := Lib.hid (build07_words rb rc W (hr.ext X1))
  have HAC := Lib.hid (fun w1 (e1 : Ext W w1) => accept_gram a b none c 2 0 w1 (hat.rd.ext e1) rfl)
  have HCN := Lib.hid (fun w1 (e1 : Ext W w1) => const_gram a b none c 2 0 w1 (hat.rd.ext e1) rfl)
  have HCO := Lib.hid (fun w1 (e1 : Ext W w1) => cost_gram a b none c 2 0 w1 (hat.rd.ext e1) rfl)
  have HBU := Lib.hid (fun w1 (e1 : Ext W w1) => build14_gram a b none c 2 0 w1 (hat.rd.ext e1) rfl)
  have HGC := Lib.hid (fun w1 (e1 : Ext W w1) => grammar_copy a b none c 2 0 w1 (hat.rd.ext e1) (fun _ => rfl))
  have HNX := Lib.hid (fun w1 (e1 : Ext W w1) => next_gram a b none c 2 0 w1 (hat.rd.ext e1) rfl)
  clear h X1 hr
  obtain ⟨k0, k1, k2, k3, lg, p0, p1, p2, p3, lp, r0, r1, lr⟩ := hat
  unfold gramV at HAC HCN HCO HBU HGC HNX ⊢
  unfold confV at HBU
  unfold lexV at HLB
  go_enter Tryz.func21, Tryz.ntmps21
  go_upto_region 1 with fail
  try simp only [hg0]
  try simp only [hW]
  clear hg0 hW
  go_wp2_with fail
  refine HLB.out.mono ?_
  rintro e' W2 ⟨nv, rv, kv, rfl, hlx, hx2⟩
  clear HLB k0 k1 k2 k3 lg p0 p1 p2 p3 lp r0 r1 lr
  obtain ⟨N0, nc0, N1, nc1, N2, nc2, rfl, rfl, rfl⟩ := lex_slices hlx
  obtain ⟨xb, hxb⟩ : ∃ b, W2.heap.size = b := ⟨_, rfl⟩
  obtain ⟨W3a, hW3a⟩ : ∃ V, W2.alloc (.cells #[nil0, nil0, nil0, .int .i64 0] 96) = V := ⟨_, rfl⟩
  have hB3 : W3a.heap[xb]? = some (.cells #[nil0, nil0, nil0, .int .i64 0] 96) := by rw [← hW3a, ← hxb]; exact heap_alloc_new _ _
  obtain ⟨W3, hW3⟩ : ∃ V, put4 W3a xb (.slice N0 768 nc0) (.slice N1 3 nc1) (.slice N2 2 nc2) (.int .i64 1) = V := ⟨_, rfl⟩
  have P3 : W3.heap[xb]? = some (.cells #[.slice N0 768 nc0, .slice N1 3 nc1, .slice N2 2 nc2, .int .i64 1] 96) := by rw [← hW3]; exact put4_at hB3 _ _ _ _
  have X23 : Ext W2 W3 := by rw [← hW3]; exact (put4_turn (S := fun k => k = xb) rfl _ _ _ _).ext (show Ext W2 W3a from by rw [← hW3a]; exact (by repeat (first | exact Ext.refl _ | refine Ext.alloc ?_ _ | refine Ext.more ?_ _ _ | refine Ext.drew ?_ | refine Ext.drewN ?_ _ | refine Ext.setCell ?_ (by simp <;> omega) _))) (fun k hk => by omega)
  have HX3 := Lib.hid (hx2.trans X23)
  have HLX := Lib.hid (hlx.ext X23)
  have HP3 := Lib.hid P3
  have z0 := cell_of_row _ _ 0 _ _ _ hB3
  have z1 := cell_of_row _ _ 1 _ _ _ hB3
  have z2 := cell_of_row _ _ 2 _ _ _ hB3
  have z3 := cell_of_row _ _ 3 _ _ _ hB3
  have zl := lt_of_heap hB3
  have zf := fun k => row_frozen hB3 k
  simp at z0 z1 z2 z3
  unfold put4 put3 put2 at hW3
  clear hx2 hlx hB3 P3 X23
  go_upto_region 2 with fail
  try simp only [hxb]
  try simp only [hW3a]
  try simp only [hW3]
  clear hxb hW3a hW3 z0 z1 z2 z3 zl zf
  obtain ⟨k0, k1, k2, k3, lg, p0, p1, p2, p3, lp, r0, r1, lr⟩ := HG.out.ext HX3.out
  go_wp2_with fail
  refine (HAC.out _ HX3.out).mono ?_
  rintro e' W4 ⟨rfl, hx4⟩
  have HX4 := Lib.hid (HX3.out.trans hx4)
  have HP4 := Lib.hid (ext_block HP3.out hx4)
  have HLX4 := Lib.hid (HLX.out.ext hx4)
  clear k0 k1 k2 k3 lg p0 p1 p2 p3 lp r0 r1 lr hx4 HAC HP3 HLX HX3
  obtain ⟨k0, k1, k2, k3, lg, p0, p1, p2, p3, lp, r0, r1, lr⟩ := HG.out.ext HX4.out
  have y3 := cell_of_row _ _ 3 _ _ _ HP4.out
  have yl := lt_of_heap HP4.out
  simp at y3
  go_wp2_with fail
  refine (HCN.out _ HX4.out).mono ?_
  rintro e' W5 ⟨rfl, hx5⟩
  have HX5 := Lib.hid (HX4.out.trans hx5)
  have HP5 := Lib.hid (ext_block HP4.out hx5)
  have HLX5 := Lib.hid (HLX4.out.ext hx5)
  clear k0 k1 k2 k3 lg p0 p1 p2 p3 lp r0 r1 lr hx5 HCN HP4 HLX4 HX4 y3 yl
  obtain ⟨k0, k1, k2, k3, lg, p0, p1, p2, p3, lp, r0, r1, lr⟩ := HG.out.ext HX5.out
  go_wp2_with fail
  refine (HCO.out _ HX5.out).mono ?_
  rintro e' W6 ⟨rfl, hx6⟩
  have HX6 := Lib.hid (HX5.out.trans hx6)
  have HP6 := Lib.hid (ext_block HP5.out hx6)
  have HLX6 := Lib.hid (HLX5.out.ext hx6)
  clear k0 k1 k2 k3 lg p0 p1 p2 p3 lp r0 r1 lr hx6 HP5 HLX5 HX5
  obtain ⟨k0, k1, k2, k3, lg, p0, p1, p2, p3, lp, r0, r1, lr⟩ := HG.out.ext HX6.out
  go_wp2_with fail
  refine (HBU.out _ HX6.out).mono ?_
  rintro e' W7 ⟨tv, rfl, ht, hx7⟩
  obtain ⟨tg, tog, tc, tv0, tv1, tcs, rfl, _⟩ := id ht
  have HX7 := Lib.hid (HX6.out.trans hx7)
  have hp7 := ext_block HP6.out hx7
  have hl7 := HLX6.out.ext hx7
  clear k0 k1 k2 k3 lg p0 p1 p2 p3 lp r0 r1 lr hx7 HBU HP6 HLX6 HX6
  obtain ⟨tb, htb⟩ : ∃ b, W7.heap.size = b := ⟨_, rfl⟩
  obtain ⟨V1, hV1⟩ : ∃ V, W7.alloc (.cells #[nil0] 103) = V := ⟨_, rfl⟩
  have hT1 : V1.heap[tb]? = some (.cells #[nil0] 103) := by rw [← hV1, ← htb]; exact heap_alloc_new _ _
  have htb2 : V1.heap.size = tb + 1 := by rw [← hV1, ← htb]; simp
  obtain ⟨V2, hV2⟩ : ∃ V, V1.alloc (.cells #[.int .i64 0, .int .i64 0, .int .i64 0, .string ⟨#[]⟩] 105) = V := ⟨_, rfl⟩
  have hC2 : V2.heap[tb + 1]? = some (.cells #[.int .i64 0, .int .i64 0, .int .i64 0, .string ⟨#[]⟩] 105) := by rw [← hV2, ← htb2]; exact heap_alloc_new _ _
  have x12 : Ext V1 V2 := by rw [← hV2]; exact (by repeat (first | exact Ext.refl _ | refine Ext.alloc ?_ _ | refine Ext.more ?_ _ _ | refine Ext.drew ?_ | refine Ext.drewN ?_ _ | refine Ext.setCell ?_ (by simp <;> omega) _))
  have hT2 := ext_block hT1 x12
  obtain ⟨V3, hV3⟩ : ∃ V, V2.setCell ⟨tb, 0, none⟩ (.slice (some ⟨tg, tog, none⟩) 2 tc) = V := ⟨_, rfl⟩
  have hT3 : V3.heap[tb]? = some (.cells #[.slice (some ⟨tg, tog, none⟩) 2 tc] 103) := by rw [← hV3]; exact setCell_row hT2 _
  have hC3 := setCell_row_other (k := 0) (g := tb) hC2 (by omega) (.slice (some ⟨tg, tog, none⟩) 2 tc)
  rw [hV3] at hC3
  obtain ⟨V4, hV4⟩ : ∃ V, put4 V3 (tb + 1) (.int .i64 0) (.int .i64 0) (.int .i64 0) (.string ⟨#[]⟩) = V := ⟨_, rfl⟩
  have T4 : Turn (fun k => k = tb + 1) V3 V4 := by rw [← hV4]; exact put4_turn (S := fun k => k = tb + 1) rfl _ _ _ _
  have hT4 := T4.keep hT3 (by omega)
  have X74 : Ext W7 V4 := T4.ext (show Ext W7 V3 from by rw [← hV3]; exact (show Ext W7 V2 from by rw [← hV2, ← hV1]; exact (by repeat (first | exact Ext.refl _ | refine Ext.alloc ?_ _ | refine Ext.more ?_ _ _ | refine Ext.drew ?_ | refine Ext.drewN ?_ _ | refine Ext.setCell ?_ (by simp <;> omega) _))).setCell (by show _ ≤ tb; omega) _) (fun k hk => by omega)
  have HX8 := Lib.hid (HX7.out.trans X74)
  have HP8 := Lib.hid (ext_block hp7 X74)
  have HLX8 := Lib.hid (hl7.ext X74)
  have HT8 := Lib.hid (ht.ext X74)
  have HTB := Lib.hid hT4
  have t0 := cell_of_row _ _ 0 _ _ _ hT2
  have tl := lt_of_heap hT2
  have tf := row_frozen hT2 0
  have c0 := cell_of_row _ _ 0 _ _ _ hC3
  have c1 := cell_of_row _ _ 1 _ _ _ hC3
  have c2 := cell_of_row _ _ 2 _ _ _ hC3
  have c3 := cell_of_row _ _ 3 _ _ _ hC3
  have cl := lt_of_heap hC3
  have cf := fun k => row_frozen hC3 k
  simp at t0 c0 c1 c2 c3
  unfold put4 put3 put2 at hV4
  clear hp7 hl7 hT1 hC2 x12 hT2 hT3 hC3 T4 hT4 X74 ht HX7
  go_upto_region 12 with fail
  try simp only [htb]
  try simp only [hV1]
  try simp only [htb2]
  try simp only [hV2]
  try simp only [hV3]
  try simp only [hV4]
  clear htb hV1 htb2 hV2 hV3 hV4 t0 tl tf c0 c1 c2 c3 cl cf
  obtain ⟨k0, k1, k2, k3, lg, p0, p1, p2, p3, lp, r0, r1, lr⟩ := HG.out.ext HX8.out
  have t0 := cell_of_row _ _ 0 _ _ _ HTB.out
  have tl := lt_of_heap HTB.out
  have y0 := cell_of_row _ _ 0 _ _ _ HP8.out
  have y1 := cell_of_row _ _ 1 _ _ _ HP8.out
  have y2 := cell_of_row _ _ 2 _ _ _ HP8.out
  have y3 := cell_of_row _ _ 3 _ _ _ HP8.out
  have yl := lt_of_heap HP8.out
  simp at t0 y0 y1 y2 y3
  refine wp_region_bt (15) (softs_bt [0, 1, 3, 4, 6] (.step 2 (.step 5 (.step 7 (pures_bt [8, 9, 10, 11] (.step 12 (pures_bt [13, 14] .fin))))))) (by kernel_rfl) (by kernel_rfl) ?_
  (refine bt_softs _ fun K hK => ?_); (simp only [pick, nthC]); (repeat (go_big_quiet_step (fail))); (refine wpQuiet_nil (hK _ ?_)); (clear hK K)
  (refine bt_step fun next hn => ?_); (simp only [pick, nthC])
  go_wp2_with fail
  refine (HGC.out _ (HX8.out.trans (by repeat (first | exact Ext.refl _ | refine Ext.alloc ?_ _ | refine Ext.more ?_ _ _ | refine Ext.drew ?_ | refine Ext.drewN ?_ _ | refine Ext.setCell ?_ (by simp <;> omega) _)))).mono ?_
  rintro e' U1 ⟨a', b', C', c', d', e'', rfl, hg', hu1⟩
  have HU1 : Hid (Ext V4 U1) := Lib.hid (Ext.trans (by repeat (first | exact Ext.refl _ | refine Ext.alloc ?_ _ | refine Ext.more ?_ _ _ | refine Ext.drew ?_ | refine Ext.drewN ?_ _ | refine Ext.setCell ?_ (by simp <;> omega) _)) hu1)
  have HG1 := Lib.hid hg'
  clear hu1 hg' HGC
  go_wp2_with fail
  refine segQ_mk (fun _ => laid HU1.out) (hn _ _ ?_)
  clear hn next
  (refine bt_step fun next hn => ?_); (simp only [pick, nthC])
  go_wp2_with fail
  refine (HNX.out _ (HX8.out.trans HU1.out)).mono ?_
  rintro e' U2 ⟨xv, xg, xog, xlb, xc, xcl, rfl, hxv, hu2⟩
  have HU2 : Hid (Ext V4 U2) := Lib.hid (HU1.out.trans hu2)
  have HG2 := Lib.hid (HG1.out.ext hu2)
  have HN2 := Lib.hid hxv
  obtain rfl := hxv.val
  clear hu2 HNX HG1 HU1
  go_wp2_with fail
  refine segQ_mk (fun _ => laid HU2.out) (hn _ _ ?_)
  clear hn next
  (refine bt_step fun next hn => ?_); (simp only [pick, nthC])
  go_wp2_with fail
  refine (HCO.out _ (HX8.out.trans HU2.out)).mono ?_
  rintro e' U3 ⟨rfl, hu3⟩
  have HU3 : Hid (Ext V4 U3) := Lib.hid (HU2.out.trans hu3)
  have HG3 := Lib.hid (HG2.out.ext hu3)
  have HN3 := Lib.hid (HN2.out.ext hu3)
  clear hu3 HCO HG2 HN2 HU2 hxv
  go_wp2_with fail
  refine segQ_mk (fun _ => laid HU3.out) (hn _ _ ?_)
  clear hn next k0 k1 k2 k3 lg p0 p1 p2 p3 lp r0 r1 lr t0 tl y0 y1 y2 y3 yl
  (refine bt_pures _ fun K hK => ?_); (simp only [pick, nthC]); (repeat (go_big_quiet_step (fail))); (refine wpQuiet_nil (hK _ ?_)); (clear hK K)
  (refine bt_step fun next hn => ?_); (simp only [pick, nthC])
  go_wp2_with fail
  refine segQ_mk (fun _ => laid (HU3.out.trans ((by repeat (first | exact Ext.refl _ | refine Ext.alloc ?_ _ | refine Ext.more ?_ _ _ | refine Ext.drew ?_ | refine Ext.drewN ?_ _ | refine Ext.setCell ?_ (by simp <;> omega) _)) : Ext U3 _))) (hn _ _ ?_)
  clear hn next
  have X4 : Ext U3 (U3.alloc (.cells #[.slice N0 768 nc0, .slice N1 3 nc1, .slice N2 2 nc2, .int .i64 1, .int .i64 1, .int .i64 1, .int .i64 1, .slice (some ⟨a', 0, none⟩) 2 c', .slice (some ⟨tg, tog, none⟩) 2 tc, .slice (some ⟨xg, xog, none⟩) 1 xc, .int .i64 37448] 112)) := (by repeat (first | exact Ext.refl _ | refine Ext.alloc ?_ _ | refine Ext.more ?_ _ _ | refine Ext.drew ?_ | refine Ext.drewN ?_ _ | refine Ext.setCell ?_ (by simp <;> omega) _))
  have HLR : Hid (LangRd (U3.alloc (.cells #[.slice N0 768 nc0, .slice N1 3 nc1, .slice N2 2 nc2, .int .i64 1, .int .i64 1, .int .i64 1, .int .i64 1, .slice (some ⟨a', 0, none⟩) 2 c', .slice (some ⟨tg, tog, none⟩) 2 tc, .slice (some ⟨xg, xog, none⟩) 1 xc, .int .i64 37448] 112)) U3.heap.size) := Lib.hid ⟨_, _, _, _, _, _, _, _, _, _, _, _, _, _, _, _, heap_alloc_new _ _, HLX8.out.ext (HU3.out.trans X4), HG3.out.ext X4, HT8.out.ext (HU3.out.trans X4), HN3.out.ext X4⟩
  have HXF : Hid (Ext w (U3.alloc (.cells #[.slice N0 768 nc0, .slice N1 3 nc1, .slice N2 2 nc2, .int .i64 1, .int .i64 1, .int .i64 1, .int .i64 1, .slice (some ⟨a', 0, none⟩) 2 c', .slice (some ⟨tg, tog, none⟩) 2 tc, .slice (some ⟨xg, xog, none⟩) 1 xc, .int .i64 37448] 112))) := Lib.hid (HX.out.trans (HX8.out.trans (HU3.out.trans X4)))
  clear X4
  obtain ⟨lb, hlb⟩ : ∃ b, U3.heap.size = b := ⟨_, rfl⟩
  obtain ⟨U4, hU4⟩ : ∃ V, U3.alloc (.cells #[.slice N0 768 nc0, .slice N1 3 nc1, .slice N2 2 nc2, .int .i64 1, .int .i64 1, .int .i64 1, .int .i64 1, .slice (some ⟨a', 0, none⟩) 2 c', .slice (some ⟨tg, tog, none⟩) 2 tc, .slice (some ⟨xg, xog, none⟩) 1 xc, .int .i64 37448] 112) = V := ⟨_, rfl⟩
  rw [hU4, hlb] at HLR
  rw [hU4] at HXF
  try simp only [hU4, hlb]
  clear hU4 hlb
  (refine bt_pures _ fun K hK => ?_); (simp only [pick, nthC]); (repeat (go_big_quiet_step (fail))); (refine wpQuiet_nil (hK _ ?_)); (clear hK K)
  (refine bt_fin ?_)
  go_wp2_with fail
  exact bodyPost_ret (v := .tuple #[.pointer (some ⟨lb, 0, none⟩), .int .i64 0]) (by simp [results, Tryz.results21, go_sem, *]) rfl ⟨lb, rfl, HLR.out, HXF.out⟩
end Go.Proofs.YthpmncdfaggkiaaGreat
/- viewportref17.leafOf. -/
namespace Go.Proofs.YthpmncdfaggkiaaGreat
open Go.RowKit
attribute [local go_sem] more_drew more_drewN more_size more_cell more_frozen more_setCell drew_more drewN_more lt_add_r lt_add_r2 lt_add_r3 lt_add_r4 lt_add_r5 lt_add_r6 lt_add_r7 lt_add_r8 lt_add_r9 lt_add_r10 lt_self_r lt_self_r2
def put8 (w : World) (b : Nat) (v0 v1 v2 v3 v4 v5 v6 v7 : Value) : World := (((put5 w b v0 v1 v2 v3 v4).setCell ⟨b, 5, none⟩ v5).setCell ⟨b, 6, none⟩ v6).setCell ⟨b, 7, none⟩ v7
theorem put8_turn {S : Nat → Prop} {w : World} {b : Nat} (hb : S b) (v0 v1 v2 v3 v4 v5 v6 v7 : Value) : Turn S w (put8 w b v0 v1 v2 v3 v4 v5 v6 v7) := (((put5_turn hb v0 v1 v2 v3 v4).trans (Turn.setCell _ (p := ⟨b, 5, none⟩) hb v5)).trans (Turn.setCell _ (p := ⟨b, 6, none⟩) hb v6)).trans (Turn.setCell _ (p := ⟨b, 7, none⟩) hb v7)
theorem put8_at {w : World} {b : Nat} {T : TypeId} {a0 a1 a2 a3 a4 a5 a6 a7 : Value} (h : w.heap[b]? = some (.cells #[a0, a1, a2, a3, a4, a5, a6, a7] T)) (v0 v1 v2 v3 v4 v5 v6 v7 : Value) : (put8 w b v0 v1 v2 v3 v4 v5 v6 v7).heap[b]? = some (.cells #[v0, v1, v2, v3, v4, v5, v6, v7] T) := by
  have h0 := setCell_row (k := 0) h v0
  rw [show (#[a0, a1, a2, a3, a4, a5, a6, a7] : Array Value).setIfInBounds 0 v0 = #[v0, a1, a2, a3, a4, a5, a6, a7] from rfl] at h0
  have h1 := setCell_row (k := 1) h0 v1
  rw [show (#[v0, a1, a2, a3, a4, a5, a6, a7] : Array Value).setIfInBounds 1 v1 = #[v0, v1, a2, a3, a4, a5, a6, a7] from rfl] at h1
  have h2 := setCell_row (k := 2) h1 v2
  rw [show (#[v0, v1, a2, a3, a4, a5, a6, a7] : Array Value).setIfInBounds 2 v2 = #[v0, v1, v2, a3, a4, a5, a6, a7] from rfl] at h2
  have h3 := setCell_row (k := 3) h2 v3
  rw [show (#[v0, v1, v2, a3, a4, a5, a6, a7] : Array Value).setIfInBounds 3 v3 = #[v0, v1, v2, v3, a4, a5, a6, a7] from rfl] at h3
  have h4 := setCell_row (k := 4) h3 v4
  rw [show (#[v0, v1, v2, v3, a4, a5, a6, a7] : Array Value).setIfInBounds 4 v4 = #[v0, v1, v2, v3, v4, a5, a6, a7] from rfl] at h4
  have h5 := setCell_row (k := 5) h4 v5
  rw [show (#[v0, v1, v2, v3, v4, a5, a6, a7] : Array Value).setIfInBounds 5 v5 = #[v0, v1, v2, v3, v4, v5, a6, a7] from rfl] at h5
  have h6 := setCell_row (k := 6) h5 v6
  rw [show (#[v0, v1, v2, v3, v4, v5, a6, a7] : Array Value).setIfInBounds 6 v6 = #[v0, v1, v2, v3, v4, v5, v6, a7] from rfl] at h6
  have h7 := setCell_row (k := 7) h6 v7
  rw [show (#[v0, v1, v2, v3, v4, v5, v6, a7] : Array Value).setIfInBounds 7 v7 = #[v0, v1, v2, v3, v4, v5, v6, v7] from rfl] at h7
  unfold put8 put5 put4 put3 put2
  exact h7
/-- a part without kids -/
def leafV (kind : Int) (p : Int) (q : Int × Int × Int × Int) : Value := .agg #[.int .i64 q.1, .int .i64 kind, .int .i64 p, .int .i64 q.2.1, .int .i64 q.2.2.1, .int .i64 q.2.2.2, nil0, .int .u64 0]
set_option maxRecDepth 100000 in
set_option maxHeartbeats 4000000 in
theorem leaf_of (kind p : Int) (q : Int × Int × Int × Int) (w : World) : Calls Tryz.prog 67 #[.int .i64 kind, tokV p q] w fun e w' => e = .returned (leafV kind p q) ∧ Ext w w' := by
  obtain ⟨t0, t1, t2, t3⟩ := q
  obtain ⟨g0, hg0⟩ : ∃ b, w.heap.size = b := ⟨_, rfl⟩
  obtain ⟨W, hW⟩ : ∃ W, (w.alloc (.cells #[.int .i64 t0, .int .i64 p, .int .i64 t1, .int .i64 t2, .int .i64 t3] 116)).alloc (.cells #[.int .i64 0, .int .i64 0, .int .i64 0, .int .i64 0, .int .i64 0, .int .i64 0, nil0, .int .u64 0] 34) = W := ⟨_, rfl⟩
  have X1 : Ext w W := by rw [← hW]; exact (by repeat (first | exact Ext.refl _ | refine Ext.alloc ?_ _ | refine Ext.more ?_ _ _ | refine Ext.drew ?_ | refine Ext.drewN ?_ _ | refine Ext.setCell ?_ (by simp <;> omega) _))
  have B1 : W.heap[g0]? = some (.cells #[.int .i64 t0, .int .i64 p, .int .i64 t1, .int .i64 t2, .int .i64 t3] 116) := by rw [← hW, ← hg0]; exact (by simp only [heap_alloc_get, World.size_alloc]; (repeat (split; (first | rfl | (exfalso; omega)))); (try (first | (exfalso; omega) | simp_all)))
  have R1 : W.heap[g0 + 1]? = some (.cells #[.int .i64 0, .int .i64 0, .int .i64 0, .int .i64 0, .int .i64 0, .int .i64 0, nil0, .int .u64 0] 34) := by rw [← hW, ← hg0]; exact (by simp only [heap_alloc_get, World.size_alloc]; (repeat (split; (first | rfl | (exfalso; omega)))); (try (first | (exfalso; omega) | simp_all)))
  have P4 := put8_at R1 (.int .i64 t0) (.int .i64 kind) (.int .i64 p) (.int .i64 t1) (.int .i64 t2) (.int .i64 t3) nil0 (.int .u64 0)
  obtain ⟨W4, hW4⟩ : ∃ W4, put8 W (g0 + 1) (.int .i64 t0) (.int .i64 kind) (.int .i64 p) (.int .i64 t1) (.int .i64 t2) (.int .i64 t3) nil0 (.int .u64 0) = W4 := ⟨_, rfl⟩
  have HX4 : Hid (Ext w W4) := Lib.hid (by rw [← hW4]; exact (put8_turn (S := fun k => k = g0 + 1) rfl _ _ _ _ _ _ _ _).ext X1 (fun k hk => by omega))
  rw [hW4] at P4
  have b0 := cell_of_row _ _ 0 _ _ _ B1
  have b1 := cell_of_row _ _ 1 _ _ _ B1
  have b2 := cell_of_row _ _ 2 _ _ _ B1
  have b3 := cell_of_row _ _ 3 _ _ _ B1
  have b4 := cell_of_row _ _ 4 _ _ _ B1
  have lb := lt_of_heap B1
  have r0 := cell_of_row _ _ 0 _ _ _ R1
  have r1 := cell_of_row _ _ 1 _ _ _ R1
  have r2 := cell_of_row _ _ 2 _ _ _ R1
  have r3 := cell_of_row _ _ 3 _ _ _ R1
  have r4 := cell_of_row _ _ 4 _ _ _ R1
  have r5 := cell_of_row _ _ 5 _ _ _ R1
  have r6 := cell_of_row _ _ 6 _ _ _ R1
  have r7 := cell_of_row _ _ 7 _ _ _ R1
  have ff := fun k => row_frozen R1 k
  have e0 := cell_of_row _ _ 0 _ _ _ P4
  have e1 := cell_of_row _ _ 1 _ _ _ P4
  have e2 := cell_of_row _ _ 2 _ _ _ P4
  have e3 := cell_of_row _ _ 3 _ _ _ P4
  have e4 := cell_of_row _ _ 4 _ _ _ P4
  have e5 := cell_of_row _ _ 5 _ _ _ P4
  have e6 := cell_of_row _ _ 6 _ _ _ P4
  have e7 := cell_of_row _ _ 7 _ _ _ P4
  simp at b0 b1 b2 b3 b4 r0 r1 r2 r3 r4 r5 r6 r7 e0 e1 e2 e3 e4 e5 e6 e7
  unfold put8 put5 put4 put3 put2 at hW4
  clear B1 R1 P4 X1
  unfold tokV leafV
  dsimp only
  go_enter Tryz.func67, Tryz.ntmps67
  go_upto_region 1 with fail
  try simp only [hg0]
  try clear hW
  go_wp2_with fail
  exact bodyPost_ret (v := .agg #[.int .i64 t0, .int .i64 kind, .int .i64 p, .int .i64 t1, .int .i64 t2, .int .i64 t3, nil0, .int .u64 0]) (by simp [results, Tryz.results67, go_sem, *]) rfl ⟨rfl, HX4.out⟩
end Go.Proofs.YthpmncdfaggkiaaGreat
/- Rows of parts. -/
namespace Go.Proofs.YthpmncdfaggkiaaGreat
open Go.RowKit
attribute [local go_sem] more_drew more_drewN more_size more_cell more_frozen more_setCell drew_more drewN_more lt_add_r lt_add_r2 lt_add_r3 lt_add_r4 lt_add_r5 lt_add_r6 lt_add_r7 lt_add_r8 lt_add_r9 lt_add_r10 lt_self_r lt_self_r2
/-- a part without where its kids lie -/
structure Sh where
  sym : Int
  kind : Int
  lo : Int
  inn : Int
  hi : Int
  look : Int
  ks : List Int
/-- a part that lies in memory -/
structure Pt where
  nd : Sh
  kA : Option Addr
  kc : Nat
def ptC (p : Pt) : List Value := [.int .i64 p.nd.sym, .int .i64 p.nd.kind, .int .i64 p.nd.lo, .int .i64 p.nd.inn, .int .i64 p.nd.hi, .int .i64 p.nd.look, .slice p.kA p.nd.ks.length p.kc, .int .u64 0]
def pw (ps : List Pt) : List Value := ps.flatMap ptC
theorem pw_length (ps : List Pt) : (pw ps).length = ps.length * 8 := by
  induction ps with
  | nil => rfl
  | cons p ps ih => simp only [pw, List.flatMap_cons, List.length_append, List.length_cons] at *; rw [ih]; simp [ptC]; omega
theorem pw_append (ps qs : List Pt) : pw (ps ++ qs) = pw ps ++ pw qs := List.flatMap_append
theorem pw_get : ∀ {ps : List Pt} {k : Nat} {p : Pt} (r : Nat), ps[k]? = some p → r < 8 → (pw ps)[k * 8 + r]? = (ptC p)[r]?
  | [], k, p, r, h, _ => by simp at h
  | q :: ps, 0, p, r, h, hr => by
    simp at h
    subst h
    simp only [pw, List.flatMap_cons, Nat.zero_mul, Nat.zero_add]
    rw [List.getElem?_append_left (by simp [ptC]; omega)]
  | q :: ps, k + 1, p, r, h, hr => by
    simp only [pw, List.flatMap_cons]
    rw [List.getElem?_append_right (by simp [ptC]; omega)]
    have := pw_get (ps := ps) (k := k) r (by simpa using h) hr
    rw [← this]
    congr 1
    simp [ptC]
    omega
theorem pw_one (ps : List Pt) : ∀ u ∈ pw ps, u.oneCell' = true := by
  intro u hu
  obtain ⟨x, _, hx⟩ := List.mem_flatMap.1 hu
  simp only [ptC, List.mem_cons, List.not_mem_nil, or_false] at hx
  rcases hx with rfl | rfl | rfl | rfl | rfl | rfl | rfl | rfl <;> rfl
theorem pw_set : ∀ {qs : List Pt} {i : Nat} {q q' : Pt} {r : Nat} {u : Value}, qs[i]? = some q → r < 8 → ptC q' = (ptC q).set r u → pw (qs.set i q') = (pw qs).set (i * 8 + r) u
  | [], i, q, q', r, u, h, _, _ => by simp at h
  | p :: qs, 0, q, q', r, u, h, hr, hc => by
    simp at h
    subst h
    simp only [List.set_cons_zero, pw, List.flatMap_cons, Nat.zero_mul, Nat.zero_add]
    rw [hc, List.set_append_left _ _ (by simp [ptC]; omega)]
  | p :: qs, i + 1, q, q', r, u, h, hr, hc => by
    have ih := pw_set (qs := qs) (i := i) (q := q) (q' := q') (r := r) (u := u) (by simpa using h) hr hc
    simp only [List.set_cons_succ]
    have e : pw (p :: qs.set i q') = ptC p ++ pw (qs.set i q') := by simp [pw]
    have e2 : pw (p :: qs) = ptC p ++ pw qs := by simp [pw]
    rw [e, e2, ih, List.set_append_right _ _ (by simp [ptC]; omega)]
    congr 2
    simp [ptC]
    omega
theorem rowP_store {w : World} {base g c n : Nat} {qs : List Pt} (h : w.ownsRow base 34 8 (.slice (some ⟨g, 0, none⟩) n c) n (pw qs)) {i : Nat} {q q' : Pt} {r : Nat} {u : Value} (hi : qs[i]? = some q) (hr : r < 8) (hc : ptC q' = (ptC q).set r u) :
    (w.setCell ⟨g, i * 8 + r, none⟩ u).ownsRow base 34 8 (.slice (some ⟨g, 0, none⟩) n c) n (pw (qs.set i q')) := by
  obtain ⟨h1, h2⟩ := h
  rw [pw_set hi hr hc]
  rcases h2 with ⟨h2, _⟩ | ⟨g', cap, cur, h2, h3, h4, h5, h6, h7, h8⟩
  · cases h2
  · injection h2 with a1 a2 a3
    injection a1 with a1
    injection a1 with a1
    subst a1 a3
    refine ⟨by rw [List.length_set]; exact h1, .inr ⟨g, c, cur.setIfInBounds (i * 8 + r) u, rfl, h3, by simp [World.setCell, Array.getElem?_modify, h4], h5, h6, by rw [Array.size_setIfInBounds]; exact h7, ?_⟩⟩
    rw [Array.toList_setIfInBounds, List.take_set, h8]
/-- a part's kids are read -/
structure KidsAt (w : World) (p : Pt) : Prop where
  ints : Ints w p.kA p.nd.ks
  cap : p.nd.ks.length ≤ p.kc
  top : p.kc ≤ maxLen
  nil : p.kA = none → p.kc = 0
  typ : ∀ g off s, p.kA = some ⟨g, off, s⟩ → ∃ cs, w.heap[g]? = some (.cells cs 3)
theorem KidsAt.turn {w w' : World} {p : Pt} {S : Nat → Prop} (h : KidsAt w p) (t : Turn S w w') (hS : ∀ g cs, w.heap[g]? = some (.cells cs 3) → ¬ S g) : KidsAt w' p := by
  refine ⟨fun h0 => ?_, h.cap, h.top, h.nil, fun g off s hA => ?_⟩
  · obtain ⟨b, off, k1, k2, k3⟩ := h.ints h0
    obtain ⟨cs, hcs⟩ := h.typ b off _ k1
    exact ⟨b, off, k1, Nat.lt_of_lt_of_le k2 t.size, fun k hk => (World.cell?_of_block (w := w) (a := ⟨b, off + k, none⟩) (t.block b k2 (hS b cs hcs))).trans (k3 k hk)⟩
  · obtain ⟨cs, hcs⟩ := h.typ g off s hA
    exact ⟨cs, t.keep hcs (hS g cs hcs)⟩
theorem KidsAt.ext {w w' : World} {p : Pt} (h : KidsAt w p) (e : Ext w w') : KidsAt w' p := h.turn (Turn.of_ext (S := fun _ => False) e) (fun _ _ _ h => h)
/-- a row of the call's own is read as kids -/
theorem RowI.kids {w : World} {base : Nat} {A : Option Addr} {c : Nat} {p : Pt} (h : RowI w base (.slice A p.nd.ks.length c) p.nd.ks) (hA : p.kA = A) (hc : p.kc = c) : KidsAt w p := by
  have ho := h.own
  obtain ⟨A', c', hv, hi⟩ := h
  injection hv with h1 _ h3
  subst h1 h3 hA hc
  obtain ⟨k1, k2, k3, k4⟩ := hi.ints
  exact ⟨k1, k2, k3, k4, fun g off s hg => own_obj ho g (by rw [hg]; rfl)⟩
/-- a row of parts of the call's own -/
structure RowA (w : World) (base : Nat) (v : Value) (ps : List Pt) : Prop where
  own : w.ownsRow base 34 8 v ps.length (pw ps)
  kids : ∀ p ∈ ps, KidsAt w p
section
variable {w w' : World} {base : Nat} {v : Value} {ps : List Pt}
theorem RowA.turn {S : Nat → Prop} (h : RowA w base v ps) (t : Turn S w w') (h1 : ∀ g, v.ownBlock = some g → ¬ S g) (h2 : ∀ g cs, w.heap[g]? = some (.cells cs 3) → ¬ S g) : RowA w' base v ps :=
  ⟨own_keep h.own fun g hg => t.block g (own_old h.own g hg) (h1 g hg), fun p hp => (h.kids p hp).turn t h2⟩
theorem RowA.ext (h : RowA w base v ps) (e : Ext w w') : RowA w' base v ps := h.turn (Turn.of_ext (S := fun _ => False) e) (fun _ _ h => h) (fun _ _ _ h => h)
/-- a part's cells in a row -/
structure CellsA (w : World) (b k : Nat) (p : Pt) : Prop where
  sym : w.cell? ⟨b, k, none⟩ = some (.int .i64 p.nd.sym)
  kind : w.cell? ⟨b, k + 1, none⟩ = some (.int .i64 p.nd.kind)
  lo : w.cell? ⟨b, k + 2, none⟩ = some (.int .i64 p.nd.lo)
  inn : w.cell? ⟨b, k + 3, none⟩ = some (.int .i64 p.nd.inn)
  hi : w.cell? ⟨b, k + 4, none⟩ = some (.int .i64 p.nd.hi)
  look : w.cell? ⟨b, k + 5, none⟩ = some (.int .i64 p.nd.look)
  kids : w.cell? ⟨b, k + 6, none⟩ = some (.slice p.kA p.nd.ks.length p.kc)
  met : w.cell? ⟨b, k + 7, none⟩ = some (.int .u64 0)
  lt : b < w.heap.size
  frozen : ∀ j, w.frozen? ⟨b, j, none⟩ = false
theorem RowA.at_ {g c n i : Nat} {p : Pt} (h : RowA w base (.slice (some ⟨g, 0, none⟩) n c) ps) (hn : n = ps.length) (hi : ps[i]? = some p) : CellsA w g (i * 8) p := by
  subst hn
  obtain ⟨A, cap, hv, hc, _⟩ := own_cells h.own
  injection hv with hA _ _
  subst hA
  have hlt := (List.getElem?_eq_some_iff.1 hi).1
  obtain ⟨b, off, he, hb, hcc⟩ := hc (by rw [pw_length]; omega)
  injection he with he
  injection he with he1 he2
  subst he1 he2
  have key : ∀ r v, r < 8 → (ptC p)[r]? = some v → w.cell? ⟨g, i * 8 + r, none⟩ = some v := fun r v hr hv => by
    have := hcc (i * 8 + r) v ((pw_get r hi hr).trans hv)
    rwa [Nat.zero_add] at this
  exact ⟨by have := key 0 _ (by omega) rfl; simpa using this, key 1 _ (by omega) rfl, key 2 _ (by omega) rfl, key 3 _ (by omega) rfl, key 4 _ (by omega) rfl, key 5 _ (by omega) rfl, key 6 _ (by omega) rfl, key 7 _ (by omega) rfl, hb, fun j => World.ownsRow.frozenAt h.own j⟩
/-- a cell of a part is stored -/
theorem RowA.store {g c n i r : Nat} {q q' : Pt} {u : Value} (h : RowA w base (.slice (some ⟨g, 0, none⟩) n c) ps) (hn : n = ps.length) (hi : ps[i]? = some q) (hr : r < 8) (hc : ptC q' = (ptC q).set r u) (hk : KidsAt w q') : RowA (w.setCell ⟨g, i * 8 + r, none⟩ u) base (.slice (some ⟨g, 0, none⟩) n c) (ps.set i q') := by
  subst hn
  obtain ⟨cur, hcur⟩ := own_obj h.own g rfl
  have T : Turn (fun k => k = g) w (w.setCell ⟨g, i * 8 + r, none⟩ u) := Turn.set1 _ _ _
  refine ⟨by rw [List.length_set]; exact rowP_store h.own hi hr hc, fun p hp => ?_⟩
  have hne : ∀ g' cs, w.heap[g']? = some (.cells cs 3) → ¬ g' = g := fun g' cs hg he => ne_type hg hcur (by decide) he
  rcases List.mem_or_eq_of_mem_set hp with hp | rfl
  · exact (h.kids p hp).turn T hne
  · exact hk.turn T hne
theorem RowA.len (h : RowA w base v ps) : ∃ A c, v = .slice A ps.length c := by
  obtain ⟨A, c, hv, _⟩ := own_cells h.own
  exact ⟨A, c, hv⟩
theorem RowA.block {A : Option Addr} {n c : Nat} (h : RowA w base (.slice A n c) ps) (h0 : 0 < ps.length) : ∃ g, A = some ⟨g, 0, none⟩ ∧ base ≤ g ∧ g < w.heap.size ∧ ∃ cs, w.heap[g]? = some (.cells cs 34) := by
  have ho := h.own
  obtain ⟨A', c', hv, _⟩ := own_cells ho
  injection hv with h1 h2 h3
  subst h1 h2 h3
  obtain ⟨g, rfl, h4, h5⟩ := row_block ho h0
  exact ⟨g, rfl, h4, h5, own_obj ho g rfl⟩
end
theorem infoPart : (Tryz.prog.info? 34).map (fun i => (i.zero, i.size, i.bytes)) = some (some (.agg #[.int .i64 0, .int .i64 0, .int .i64 0, .int .i64 0, .int .i64 0, .int .i64 0, .slice none 0 0, .int .u64 0]), 8, 80) := by kernel_rfl
/-- parts are appended -/
theorem app_parts (w0 : World) {w : World} {ops : Array Oper} {rest : List Oper} {o : Oper} {a : Act} {Q : Exit → Act → World → Prop} (hw : Region.wanted o (yielded ops a.tmps) = true) (s x : Operand)
    (ho : o.op = .call { callee := .builtin .append, args := #[s, x], argTypes := #[22, 22] }) {ps qs : List Pt} {v : Value} (hr : RowA w w0.heap.size v ps) {A : Option Addr} {c : Nat}
    (hs : a.eval s = v) (hx : a.eval x = .slice A qs.length c) (hA : A = none → c = 0) (hc : CellsAt w A (pw qs)) (hk : ∀ q ∈ qs, KidsAt w q) (hlen : ps.length ≤ 1000000) (hlen2 : qs.length ≤ 1000000) (hext : Ext w0 w)
    (h : ∀ v' w', RowA w' w0.heap.size v' (ps ++ qs) → w.grownBy w' v.ownBlock → (v'.ownBlock = v.ownBlock ∨ v'.ownBlock = some w.heap.size) → Ext w0 w' → wpList Tryz.prog ops Q rest (a.put o.dst v') w') : wpList Tryz.prog ops Q (o :: rest) a w := by
  obtain ⟨i3, hi, hz0, hz1, hz2⟩ := info_parts infoPart
  refine wpList_append_cells w hw s x 22 ho w0.heap.size 34 i3 _ 8 80 Tryz.underlying22 hi hz0 hz1 hz2 rfl (by omega) v ps.length (pw ps) hs hr.own A qs.length c (pw qs) hx hA (pw_length _)
    hc (pw_one _) (by unfold maxLen; omega) (by omega) hext.size fun v' w' h2 h3 h4 => ?_
  have T : Turn (fun g => v.ownBlock = some g) w w' := Turn.grown h3 (fun g hg _ => hg)
  have hne : ∀ g cs, w.heap[g]? = some (.cells cs 3) → ¬ v.ownBlock = some g := fun g cs hg he => by
    obtain ⟨cur, hcur⟩ := own_obj hr.own g he
    exact ne_type hg hcur (by decide) rfl
  refine h v' w' ⟨by rw [pw_append, List.length_append]; exact h2, fun p hp => ?_⟩ h3 h4 (hext.grown h3 fun g hg => own_block hr.own g hg)
  rcases List.mem_append.1 hp with hp | hp
  · exact (hr.kids p hp).turn T hne
  · exact (hk p hp).turn T hne
end Go.Proofs.YthpmncdfaggkiaaGreat
/- viewportref17.behind: a tree, one part more, with all in it. -/
namespace Go.Proofs.YthpmncdfaggkiaaGreat
open Go.RowKit
attribute [local go_sem] more_drew more_drewN more_size more_cell more_frozen more_setCell drew_more drewN_more lt_add_r lt_add_r2 lt_add_r3 lt_add_r4 lt_add_r5 lt_add_r6 lt_add_r7 lt_add_r8 lt_add_r9 lt_add_r10 lt_self_r lt_self_r2
def shiftS (n : Nat) (q : Sh) : Sh := { q with ks := q.ks.map (· + (n : Int)) }
def headS (n : Nat) : List Sh → List Sh
  | [] => []
  | p :: r => { p with ks := p.ks ++ [(n : Int)] } :: r
def behindS (ps qs : List Sh) : List Sh := headS ps.length ps ++ qs.map (shiftS ps.length)
def shs (ps : List Pt) : List Sh := ps.map (·.nd)
/-- blocks that are new do not count -/
theorem Turn.old {S : Nat → Prop} {w w' : World} (t : Turn (fun g => S g ∨ w.heap.size ≤ g) w w') : Turn S w w' :=
  ⟨t.os, t.tape, t.output, t.size, fun k hk hS => t.block k hk (fun he => by
    rcases he with he | he
    · exact hS he
    · omega)⟩
theorem Turn.wide {S S' : Nat → Prop} {w w' : World} (t : Turn S w w') (h : ∀ g, S g → S' g) : Turn S' w w' := ⟨t.os, t.tape, t.output, t.size, fun k hk hS => t.block k hk (fun he => hS (h k he))⟩
theorem set_same {w : World} {g k : Nat} {v : Value} {cs : Array Value} {T : TypeId} (hb : w.heap[g]? = some (.cells cs T)) (hc : w.cell? ⟨g, k, none⟩ = some v) : w.setCell ⟨g, k, none⟩ v = w := by
  refine setCell_id w g k cs _ _ _ hb ?_
  rw [← hc]
  exact (cell_of_row _ _ k _ _ _ hb).symm
/-- of the parts behind, the first k are moved -/
def Moved (n k : Nat) (qs us : List Pt) : Prop := us.length = qs.length ∧ ∀ (j : Nat) (q : Pt), qs[j]? = some q → ∃ p, us[j]? = some p ∧ (j < k → p.nd = shiftS n q.nd) ∧ (k ≤ j → p = q)
theorem Moved.zero (n : Nat) (qs : List Pt) : Moved n 0 qs qs := ⟨rfl, fun j q h => ⟨q, h, fun h => by omega, fun _ => rfl⟩⟩
theorem Moved.step {n k : Nat} {qs us : List Pt} {q q' : Pt} (h : Moved n k qs us) (hq : qs[k]? = some q) (hs : q'.nd = shiftS n q.nd) : Moved n (k + 1) qs (us.set k q') := by
  have hk := (List.getElem?_eq_some_iff.1 hq).1
  refine ⟨by rw [List.length_set]; exact h.1, fun j p hj => ?_⟩
  obtain ⟨p', h1, h2, h3⟩ := h.2 j p hj
  by_cases hjk : j = k
  · subst hjk
    rw [hq] at hj
    injection hj with hj
    subst hj
    exact ⟨q', by rw [List.getElem?_set_self (by rw [h.1]; exact hk)], fun _ => hs, fun h => by omega⟩
  · exact ⟨p', by rw [List.getElem?_set_ne (fun h => hjk h.symm)]; exact h1, fun h => h2 (by omega), fun h => h3 (by omega)⟩
theorem Moved.all {n : Nat} {qs us : List Pt} (h : Moved n qs.length qs us) : shs us = (shs qs).map (shiftS n) := by
  unfold shs
  apply List.ext_getElem?
  intro j
  rw [List.getElem?_map, List.getElem?_map, List.getElem?_map]
  by_cases hj : j < qs.length
  · obtain ⟨q, hq⟩ : ∃ q, qs[j]? = some q := ⟨_, List.getElem?_eq_getElem hj⟩
    obtain ⟨p, h1, h2, _⟩ := h.2 j q hq
    rw [h1, hq]
    simp [h2 hj]
  · rw [List.getElem?_eq_none (by rw [h.1]; omega), List.getElem?_eq_none (by omega)]
    rfl
theorem head_set {ps : List Pt} {p p' : Pt} {n : Nat} (h0 : ps[0]? = some p) (hp : p'.nd = { p.nd with ks := p.nd.ks ++ [(n : Int)] }) : shs (ps.set 0 p') = headS n (shs ps) := by
  cases ps with
  | nil => simp at h0
  | cons a r =>
    simp at h0
    subst h0
    simp [shs, headS, hp]
set_option maxRecDepth 100000 in
set_option maxHeartbeats 2000000 in
theorem behind_any (v u : Value) (ps qs : List Pt) (w0 w : World) (hv : RowA w w0.heap.size v ps) (hu : RowA w w0.heap.size u qs) (ha : Apart v u) (h0 : 0 < ps.length) (hq0 : 0 < qs.length) (hp : ps.length ≤ 1000) (hq : qs.length ≤ 1000) (hk : ∀ p ∈ ps ++ qs, p.nd.ks.length ≤ 1000 ∧ ∀ k ∈ p.nd.ks, 0 ≤ k ∧ k ≤ 1000000) (e : Ext w0 w) :
    Calls Tryz.prog 65 #[v, u] w fun e w' => ∃ v' rs, e = .returned v' ∧ RowA w' w0.heap.size v' rs ∧ shs rs = behindS (shs ps) (shs qs) ∧ Turn (fun g => v.ownBlock = some g ∨ u.ownBlock = some g) w w' ∧ Ext w0 w' := by
  obtain ⟨VA, vc, rfl⟩ := hv.len
  obtain ⟨UA, uc, rfl⟩ := hu.len
  obtain ⟨vg, rfl, hvb, hvl, vcs, hvt⟩ := hv.block h0
  obtain ⟨ug, rfl, hub, hul, ucs, hut⟩ := hu.block hq0
  have hne : vg ≠ ug := fun he => ha vg rfl (by rw [he]; rfl)
  obtain ⟨p0, hp0⟩ : ∃ p, ps[0]? = some p := ⟨_, List.getElem?_eq_getElem h0⟩
  obtain ⟨pn, hpn⟩ : ∃ n, ps.length = n := ⟨_, rfl⟩
  obtain ⟨qn, hqn⟩ : ∃ n, qs.length = n := ⟨_, rfl⟩
  have hC0 := hv.at_ rfl hp0
  have hK0 := hv.kids p0 (List.mem_of_getElem? hp0)
  have hB0 := hk p0 (List.mem_append_left _ (List.mem_of_getElem? hp0))
  have HV := Lib.hid hv
  have HU := Lib.hid hu
  have HK := Lib.hid hk
  have HE := Lib.hid e
  have HP0 := Lib.hid hp0
  have HPN := Lib.hid hpn
  have HQN := Lib.hid hqn
  have HNE := Lib.hid hne
  have HK0 := Lib.hid hK0
  have HC0 := Lib.hid hC0
  have HB0 := Lib.hid hB0
  have HVL : Hid (vg < w.heap.size ∧ ug < w.heap.size ∧ w0.heap.size ≤ vg ∧ w0.heap.size ≤ ug) := Lib.hid ⟨hvl, hul, hvb, hub⟩
  obtain ⟨c0, c1, c2, c3, c4, c5, c6, c7, cl, cf⟩ := hC0
  rw [hpn] at hp h0
  rw [hqn] at hq hq0
  simp only [hpn, hqn]
  simp at c6
  clear hv hu hk e hp0 hpn hqn hvt hut hK0 hB0 ha hne c0 c1 c2 c3 c4 c5 c7 hvl hul hvb hub
  obtain ⟨ks, hks⟩ : ∃ n, p0.nd.ks.length = n := ⟨_, rfl⟩
  have HKS := Lib.hid hks
  rw [hks] at c6
  clear hks
  go_enter Tryz.func65, Tryz.ntmps65
  have cf6 := cf 6
  go_upto_region 2 with (first | (at_builtin; refine app_ints w (by rfl) (.tmp 9) (.tmp 13) rfl (ownI_empty w w.heap.size (Nat.le_refl _)) p0.nd.ks p0.kA p0.kc rfl (by rw [HKS.out]; rfl) HK0.out.nil (HK0.out.ints.ext (by repeat (first | exact Ext.refl _ | refine Ext.alloc ?_ _ | refine Ext.more ?_ _ _ | refine Ext.drew ?_ | refine Ext.drewN ?_ _ | refine Ext.setCell ?_ (by simp <;> omega) _))) (by have := HB0.out.1; simp <;> omega) (by repeat (first | exact Ext.refl _ | refine Ext.alloc ?_ _ | refine Ext.more ?_ _ _ | refine Ext.drew ?_ | refine Ext.drewN ?_ _ | refine Ext.setCell ?_ (by simp <;> omega) _)) ?_; intro v4 w4 hr4 hg4 hx4; have HX4 := Lib.hid hx4; have HR4 := Lib.hid hr4; obtain ⟨K4, k4, rfl, _⟩ := id hr4; clear hr4 hg4 hx4) | (at_builtin; refine app_intO w (by rfl) (.tmp 14) (.tmp 17) rfl (xs := [] ++ p0.nd.ks) (HR4.out.ext (by repeat (first | exact Ext.refl _ | refine Ext.alloc ?_ _ | refine Ext.more ?_ _ _ | refine Ext.drew ?_ | refine Ext.drewN ?_ _ | refine Ext.setCell ?_ (by simp <;> omega) _))) (pn : Int) w4.heap.size rfl rfl (by simp) (by rw [cell_of_row _ _ 0 _ _ _ (heap_alloc_new w4 (.cells #[.int .i64 ((pn : Int))] 3))]; rfl) (by have := HB0.out.1; simp <;> omega) (by have := HX4.out.size; simp <;> omega) ?_; intro v5 w5 hr5 hg5 hat5; have HX5 : Hid (Ext w w5) := Lib.hid ((HX4.out.trans ((by repeat (first | exact Ext.refl _ | refine Ext.alloc ?_ _ | refine Ext.more ?_ _ _ | refine Ext.drew ?_ | refine Ext.drewN ?_ _ | refine Ext.setCell ?_ (by simp <;> omega) _)) : Ext w4 (w4.alloc (.cells #[.int .i64 ((pn : Int))] 3)))).grown hg5 (fun g hg => own_block HR4.out.own g hg)); obtain ⟨K5, k5, rfl, _⟩ := id hr5; have d6 := ext_cell c6 cl HX5.out; have dl := Nat.lt_of_lt_of_le cl HX5.out.size; have df : w5.frozen? ⟨vg, 6, none⟩ = false := ((HV.out.ext HX5.out).at_ rfl HP0.out).frozen 6))
  obtain ⟨p1, hp1⟩ : ∃ p1 : Pt, p1 = ⟨{ p0.nd with ks := p0.nd.ks ++ [(pn : Int)] }, K5, k5⟩ := ⟨_, rfl⟩
  obtain ⟨W6, hW6⟩ : ∃ V, w5.setCell ⟨vg, 6, none⟩ (.slice K5 (p0.nd.ks.length + 1) k5) = V := ⟨_, rfl⟩
  have hs6 : RowA W6 w0.heap.size (.slice (some ⟨vg, 0, none⟩) pn vc) (ps.set 0 p1) := by
    have hkk : KidsAt w5 p1 := by
      rw [hp1]
      exact RowI.kids (p := ⟨{ p0.nd with ks := p0.nd.ks ++ [(pn : Int)] }, K5, k5⟩) hr5 rfl rfl
    have := (HV.out.ext HX5.out).store (g := vg) (i := 0) (r := 6) (q := p0) (q' := p1) (u := .slice K5 (p0.nd.ks.length + 1) k5) rfl HP0.out (by omega) (by rw [hp1]; simp [ptC]) hkk
    rw [← hW6, ← HPN.out]
    simpa using this
  have T6 : Turn (fun g => g = vg) w5 W6 := by rw [← hW6]; exact Turn.set1 _ _ _
  have hu6 : RowA W6 w0.heap.size (.slice (some ⟨ug, 0, none⟩) qs.length uc) qs := (HU.out.ext HX5.out).turn T6 (fun g hg he => by
    injection hg with hg
    exact HNE.out (he.symm.trans hg.symm)) (fun g cs hg he => by
    obtain ⟨cur, hcur⟩ := own_obj (HV.out.ext HX5.out).own vg rfl
    exact ne_type hg hcur (by decide) he)
  have HS6 := Lib.hid hs6
  have HU6 := Lib.hid hu6
  have HT6 : Hid (Turn (fun g => g = vg ∨ g = ug ∨ w.heap.size ≤ g) w W6) := Lib.hid ((Turn.of_ext HX5.out).trans (T6.wide (fun g h => .inl h)))
  have HN1 : Hid (shs (ps.set 0 p1) = headS pn (shs ps)) := Lib.hid (head_set HP0.out (by rw [hp1]))
  have HP1 : Hid ((ps.set 0 p1).length = pn) := Lib.hid (by rw [List.length_set]; exact HPN.out)
  try simp only [hW6]
  clear hW6 hs6 T6 hu6 hp1 d6 dl df hr5 hg5 hat5 c6 cl cf cf6
  obtain ⟨ps1, hps1⟩ : ∃ l, ps.set 0 p1 = l := ⟨_, rfl⟩
  rw [hps1] at HS6 HN1 HP1
  clear hps1
  go_wp2_with fail
  go_loopw [5] (fun i wr => ∃ k us, i = .int .i64 (k : Nat) ∧ k ≤ qn ∧ Hid (RowA wr w0.heap.size (.slice (some ⟨ug, 0, none⟩) qn uc) us) ∧ Hid (Moved pn k qs us) ∧ Hid (RowA wr w0.heap.size (.slice (some ⟨vg, 0, none⟩) pn vc) ps1) ∧ Hid (Turn (fun g => g = vg ∨ g = ug ∨ w.heap.size ≤ g) w wr)) (fun i _ => qn - (intOf i).toNat)
  case atStart => exact ⟨0, qs, rfl, Nat.zero_le _, Lib.hid (by rw [← HQN.out]; exact HU6.out), Lib.hid (Moved.zero _ _), HS6, HT6⟩
  case round =>
    clear HU6 HS6 HT6
    obtain ⟨k, us, rfl, hkq, hr, hm, hv, ht⟩ := hrel
    have hul := hm.out.1
    rw [HQN.out] at hul
    have HUL := Lib.hid hul
    clear hul
    by_cases hlt : k < qn
    · obtain ⟨q, hqk⟩ : ∃ q, qs[k]? = some q := ⟨_, List.getElem?_eq_getElem (by have := HQN.out; omega)⟩
      obtain ⟨p, huk, _, hpq⟩ := hm.out.2 k q hqk
      have hpq := hpq (Nat.le_refl _)
      subst hpq
      have HQK := Lib.hid hqk
      have HUK := Lib.hid huk
      have hBq := HK.out p (List.mem_append_right _ (List.mem_of_getElem? hqk))
      have HBQ := Lib.hid hBq
      obtain ⟨c0, c1, c2, c3, c4, c5, c6, c7, cl, cf⟩ := hr.out.at_ HUL.out.symm huk
      obtain ⟨n, hn⟩ : ∃ n, p.nd.ks.length = n := ⟨_, rfl⟩
      have HN := Lib.hid hn
      rw [hn] at c6
      have hn1 := hBq.1
      rw [hn] at hn1
      clear hqk huk hBq hn
      obtain ⟨pb, hpb⟩ : ∃ b, wr.heap.size = b := ⟨_, rfl⟩
      obtain ⟨Wb, hWb⟩ : ∃ V, wr.alloc (.cells #[.int .i64 0, .int .i64 0, .int .i64 0, .int .i64 0, .int .i64 0, .int .i64 0, nil0, .int .u64 0] 34) = V := ⟨_, rfl⟩
      have hz : Wb.heap[pb]? = some (.cells #[.int .i64 0, .int .i64 0, .int .i64 0, .int .i64 0, .int .i64 0, .int .i64 0, nil0, .int .u64 0] 34) := by rw [← hWb, ← hpb]; exact heap_alloc_new _ _
      obtain ⟨W3, hW3⟩ : ∃ V, put8 Wb pb (.int .i64 p.nd.sym) (.int .i64 p.nd.kind) (.int .i64 p.nd.lo) (.int .i64 p.nd.inn) (.int .i64 p.nd.hi) (.int .i64 p.nd.look) (.slice p.kA n p.kc) (.int .u64 0) = V := ⟨_, rfl⟩
      have h3 : W3.heap[pb]? = some (.cells #[.int .i64 p.nd.sym, .int .i64 p.nd.kind, .int .i64 p.nd.lo, .int .i64 p.nd.inn, .int .i64 p.nd.hi, .int .i64 p.nd.look, .slice p.kA n p.kc, .int .u64 0] 34) := by rw [← hW3]; exact put8_at hz _ _ _ _ _ _ _ _
      obtain ⟨W4, hW4⟩ : ∃ V, W3.setCell ⟨pb, 6, none⟩ nil0 = V := ⟨_, rfl⟩
      have h4 : W4.heap[pb]? = some (.cells #[.int .i64 p.nd.sym, .int .i64 p.nd.kind, .int .i64 p.nd.lo, .int .i64 p.nd.inn, .int .i64 p.nd.hi, .int .i64 p.nd.look, nil0, .int .u64 0] 34) := by rw [← hW4]; exact setCell_row h3 _
      have X4 : Ext wr W4 := by
        rw [← hW4]
        exact (Ext.setCell (show Ext wr W3 from by rw [← hW3]; exact (put8_turn (S := fun k => k = pb) rfl _ _ _ _ _ _ _ _).ext (show Ext wr Wb from by rw [← hWb]; exact (by repeat (first | exact Ext.refl _ | refine Ext.alloc ?_ _ | refine Ext.more ?_ _ _ | refine Ext.drew ?_ | refine Ext.drewN ?_ _ | refine Ext.setCell ?_ (by simp <;> omega) _))) (fun k hk => by omega)) (by show _ ≤ pb; omega) _)
      have HX4 := Lib.hid X4
      have HTP : Hid (∃ cs, W4.heap[pb]? = some (.cells cs 34)) := Lib.hid ⟨_, h4⟩
      have HPB : Hid (wr.heap.size ≤ pb ∧ pb < W4.heap.size) := Lib.hid ⟨by omega, lt_of_heap h4⟩
      have H4 := Lib.hid h4
      have H3 := Lib.hid h3
      have z0 := cell_of_row _ _ 0 _ _ _ hz
      have z1 := cell_of_row _ _ 1 _ _ _ hz
      have z2 := cell_of_row _ _ 2 _ _ _ hz
      have z3 := cell_of_row _ _ 3 _ _ _ hz
      have z4 := cell_of_row _ _ 4 _ _ _ hz
      have z5 := cell_of_row _ _ 5 _ _ _ hz
      have z6 := cell_of_row _ _ 6 _ _ _ hz
      have z7 := cell_of_row _ _ 7 _ _ _ hz
      have zl := lt_of_heap hz
      have zf := fun k => row_frozen hz k
      simp at z0 z1 z2 z3 z4 z5 z6 z7
      unfold put8 put5 put4 put3 put2 at hW3
      clear hz h3 h4 X4
      go_upto_region 6 with fail
      try simp only [hpb]
      try simp only [hWb]
      try simp only [hW3]
      clear hpb hWb hW3 z0 z1 z2 z3 z4 z5 z6 z7 zl zf c0 c1 c2 c3 c4 c5 c6 c7 cl cf
      have y6 := cell_of_row _ _ 6 _ _ _ H3.out
      have yl := lt_of_heap H3.out
      have yf := row_frozen H3.out 6
      simp at y6
      go_upto_region 7 with fail
      try simp only [hW4]
      clear hW4 y6 yl yf H3
      go_wp2_with fail
      go_loopw [7] (fun j' wr => ∃ j KA kc, j' = .int .i64 (j : Nat) ∧ j ≤ n ∧ Hid (wr.heap[pb]? = some (.cells #[.int .i64 p.nd.sym, .int .i64 p.nd.kind, .int .i64 p.nd.lo, .int .i64 p.nd.inn, .int .i64 p.nd.hi, .int .i64 p.nd.look, .slice KA j kc, .int .u64 0] 34)) ∧ Hid (RowI wr W4.heap.size (.slice KA j kc) ((p.nd.ks.take j).map (· + (pn : Int)))) ∧ Hid (Turn (fun g => g = pb) W4 wr)) (fun j _ => n - (intOf j).toNat)
      case atStart => exact ⟨0, none, 0, rfl, Nat.zero_le _, H4, Lib.hid ⟨none, 0, rfl, OwnI.nil _ _⟩, Lib.hid (Turn.of_ext (Ext.refl _))⟩
      case round =>
        clear H4
        obtain ⟨j, KA, kc, rfl, hj, hb2, hk2, ht2⟩ := hrel
        have hr2 : RowA wr w0.heap.size (.slice (some ⟨ug, 0, none⟩) qn uc) us := (hr.out.ext HX4.out).turn ht2.out (fun g hg he => by
          have hg' : ug = g := by injection hg
          have he' : g = pb := he
          have h1 := HVL.out.2.1
          have h2 := ht.out.size
          have h3 := HPB.out.1
          omega) (fun g cs hg he => by
          have h3 := HPB.out.2
          have : W4.heap[g]? = wr.heap[g]? ∨ True := .inr trivial
          subst he
          obtain ⟨cs4, hc4⟩ := HTP.out
          rw [hc4] at hg
          cases hg)
        have HR2 := Lib.hid hr2
        obtain ⟨c0, c1, c2, c3, c4, c5, c6, c7, cl, cf⟩ := hr2.at_ HUL.out.symm HUK.out
        rw [HN.out] at c6
        by_cases hjn : j < n
        · have hkk := hr2.kids p (List.mem_of_getElem? HUK.out)
          obtain ⟨kb, ko, hkA, hkl, hkc⟩ := hkk.ints (by rw [HN.out]; omega)
          obtain ⟨kcs, hkt⟩ := hkk.typ kb ko none hkA
          obtain ⟨ucs, hut⟩ := own_obj hr2.own ug rfl
          obtain ⟨x, hx⟩ : ∃ x, p.nd.ks.getD j 0 = x := ⟨_, rfl⟩
          have k0 := hkc j (by rw [HN.out]; omega)
          rw [hx] at k0
          have hxm : x ∈ p.nd.ks := by
            rw [← hx, List.getD_eq_getElem?_getD, List.getElem?_eq_getElem (by rw [HN.out]; exact hjn)]
            exact List.getElem_mem _
          have hxb := HBQ.out.2 x hxm
          have HXT : Hid ((p.nd.ks.take (j + 1)).map (· + (pn : Int)) = (p.nd.ks.take j).map (· + (pn : Int)) ++ [x + (pn : Int)]) := Lib.hid (by rw [take_next (by rw [HN.out]; exact hjn), hx, List.map_append]; rfl)
          rw [hkA] at c6
          have p6 := cell_of_row _ _ 6 _ _ _ hb2.out
          have pl := lt_of_heap hb2.out
          simp at p6
          have kx0 := fun x : EdL wr [pb, ug, kb] => x.cell (by simp) p6
          have kx1 := fun x : EdL wr [pb, ug, kb] => x.cell (by simp) c6
          have kx2 := fun x : EdL wr [pb, ug, kb] => x.cell (by simp) k0
          have kx3 := fun x : EdL wr [pb, ug, kb] => x.lt (by simp) pl
          have kx4 := fun x : EdL wr [pb, ug, kb] => x.lt (by simp) cl
          have kx5 := fun x : EdL wr [pb, ug, kb] => x.lt (by simp) hkl
          have HLT : Hid (∀ k ∈ [pb, ug, kb], k < wr.heap.size) := Lib.hid (by simp; exact ⟨pl, cl, hkl⟩)
          have HUT := Lib.hid hut
          have HKT := Lib.hid hkt
          have hw1 : IntKind.i64.wrap (x + (pn : Int)) = x + (pn : Int) := by simp [IntKind.wrap, IntKind.signed, IntKind.bits]; omega
          have hw2 : wrap64 (x + (pn : Int)) = x + (pn : Int) := by unfold wrap64; omega
          have HKW : Hid (kb < W4.heap.size) := Lib.hid (by
            obtain ⟨cs, hcs⟩ := (hr.out.kids p (List.mem_of_getElem? HUK.out)).typ kb ko none hkA
            exact Nat.lt_of_lt_of_le (lt_of_heap hcs) HX4.out.size)
          clear hkk hkc hkA hkt hut hx hxm hr2
          go_upto_region 10 with fail
          refine wp_region_btC (T := EdL wr [pb, ug, kb]) EdL.V (16) (pures_bt [0, 2, 3, 4, 5, 7, 10, 11] (softs_bt [1, 6, 8, 9, 12] (.step 13 (.step 14 (pures_bt [15] (.step 16 .fin)))))) (by kernel_rfl) (by kernel_rfl) ⟨⟨wr.drew, fun _ _ => rfl⟩, rfl⟩ ?_
          (refine bt_pures _ fun K hK => ?_); (simp only [pick, nthC]); (repeat (go_big_quiet_step (fail))); (refine wpQuiet_nil (hK _ ?_)); (clear hK K)
          (refine bt_softs _ fun K hK => ?_); (simp only [pick, nthC]); (repeat (go_big_quiet_step (fail))); (refine wpQuiet_nil (hK _ ?_)); (clear hK K)
          clear kx0 kx1 kx2 kx3 kx4 kx5 p6 c0 c1 c2 c3 c4 c5 c6 c7 k0 hw1 hw2
          (refine bt_step fun next hn => ?_); (simp only [pick, nthC])
          go_wp2_with fail
          refine segQ_mk (fun _ => edL_ext (fun _ _ => rfl) ((by repeat (first | exact Ext.refl _ | refine Ext.alloc ?_ _ | refine Ext.more ?_ _ _ | refine Ext.drew ?_ | refine Ext.drewN ?_ _ | refine Ext.setCell ?_ (by simp <;> omega) _)) : Ext wr _) HLT.out) (hn _ _ ?_)
          clear hn next
          obtain ⟨b3, hb3⟩ : ∃ b3, wr.heap.size = b3 := ⟨_, rfl⟩
          obtain ⟨V3, hV3⟩ : ∃ W3, (wr.alloc (.cells #[.int .i64 (x + (pn : Int))] 3)).drew = W3 := ⟨_, rfl⟩
          have X3 : Ext wr V3 := by rw [← hV3]; exact (by repeat (first | exact Ext.refl _ | refine Ext.alloc ?_ _ | refine Ext.more ?_ _ _ | refine Ext.drew ?_ | refine Ext.drewN ?_ _ | refine Ext.setCell ?_ (by simp <;> omega) _))
          have HX3 := Lib.hid X3
          have l3 : b3 < V3.heap.size := by rw [← hV3, ← hb3]; simp
          have a3 : V3.cell? ⟨b3, 0, none⟩ = some (.int .i64 (x + (pn : Int))) := by rw [← hV3, ← hb3]; exact (cell_of_row _ _ 0 _ _ _ (show (wr.alloc (.cells #[.int .i64 (x + (pn : Int))] 3)).drew.heap[wr.heap.size]? = _ from heap_alloc_new wr (.cells #[.int .i64 (x + (pn : Int))] 3))).trans (by simp)
          have HK3 := Lib.hid (hk2.out.ext X3)
          have HB3 := Lib.hid (ext_block hb2.out X3)
          have HUT3 := Lib.hid (ext_block HUT.out X3)
          have HKT3 := Lib.hid (ext_block HKT.out X3)
          have HSZ : Hid (W4.heap.size ≤ V3.heap.size) := Lib.hid (Nat.le_trans ht2.out.size X3.size)
          have HT3 := Lib.hid (ht2.out.trans (Turn.of_ext X3))
          try simp only [hV3, hb3]
          clear hV3 hb3 X3
          have hll : ((p.nd.ks.take j).map (· + (pn : Int))).length ≤ 1000000 := by rw [List.length_map, List.length_take]; omega
          (refine bt_step fun next hn => ?_); (simp only [pick, nthC])
          go_wp2_with (at_builtin; refine app_intO W4 (by rfl) (.tmp 43) (.tmp 55) rfl HK3.out (x + (pn : Int)) b3 rfl rfl l3 a3 hll HSZ.out ?_; intro v4 w4 hr4 hg4 hat4)
          have T4 : Turn (fun g => (Value.slice KA j kc).ownBlock = some g) V3 w4 := Turn.grown hg4 (fun g hg _ => hg)
          have hb4 := T4.keep HB3.out (fun hh => own_ne HK3.out.own HB3.out (by decide) hh)
          have hut4 := T4.keep HUT3.out (fun hh => own_ne HK3.out.own HUT3.out (by decide) hh)
          have hkt4 : w4.heap[kb]? = wr.heap[kb]? := by
            refine (T4.block kb (lt_of_heap HKT3.out) (fun hh => ?_)).trans (HKT3.out.trans HKT.out.symm)
            have h1 := own_block HK3.out.own kb hh
            have h2 := HKW.out
            omega
          have hsame : ∀ k ∈ [pb, ug, kb], w4.heap[k]? = wr.heap[k]? := by
            intro k hk
            simp at hk
            rcases hk with rfl | rfl | rfl
            · exact hb4.trans hb2.out.symm
            · exact hut4.trans HUT.out.symm
            · exact hkt4
          refine segQ_mk (fun _ => ⟨⟨w4, hsame⟩, rfl⟩) (hn _ _ ?_)
          clear hn next hsame
          obtain ⟨KB, kbc, rfl, _⟩ := id hr4
          have d6 := cell_of_row _ _ 6 _ _ _ hb4
          have dl := lt_of_heap hb4
          have df := row_frozen hb4 6
          simp at d6
          have hlen : ((p.nd.ks.take j).map (· + (pn : Int)) ++ [x + (pn : Int)]).length = j + 1 := by rw [List.length_append, List.length_map, List.length_take, HN.out, Nat.min_eq_left (by omega)]; rfl
          rw [hlen] at hr4 ⊢
          obtain ⟨W5, hW5⟩ : ∃ V, w4.setCell ⟨pb, 6, none⟩ (.slice KB (j + 1) kbc) = V := ⟨_, rfl⟩
          have T5 : Turn (fun g => g = pb) w4 W5 := by rw [← hW5]; exact Turn.set1 _ _ _
          have HB5 : Hid (W5.heap[pb]? = some (.cells #[.int .i64 p.nd.sym, .int .i64 p.nd.kind, .int .i64 p.nd.lo, .int .i64 p.nd.inn, .int .i64 p.nd.hi, .int .i64 p.nd.look, .slice KB (j + 1) kbc, .int .u64 0] 34)) := Lib.hid (by rw [← hW5]; exact setCell_row hb4 _)
          have HR5 : Hid (RowI W5 W4.heap.size (.slice KB (j + 1) kbc) ((p.nd.ks.take (j + 1)).map (· + (pn : Int)))) := Lib.hid (by
            rw [HXT.out]
            exact hr4.keepT T5 (fun g hg he => own_ne hr4.own hb4 (by decide) (he ▸ hg)))
          have HT5 : Hid (Turn (fun g => g = pb) W4 W5) := Lib.hid (Turn.old (((HT3.out.wide (fun g h => .inl h)).trans (T4.wide (fun g hg => .inr (own_block HK3.out.own g hg)))).trans (T5.wide (fun g h => .inl h))))
          clear hb4 hut4 hkt4 T4 T5 hr4 hg4 hat4 a3 l3
          (refine bt_pures _ fun K hK => ?_); (simp only [pick, nthC]); (repeat (go_big_quiet_step (fail))); (refine wpQuiet_nil (hK _ ?_)); (clear hK K)
          (refine bt_step fun next hn => ?_); (simp only [pick, nthC])
          go_wp2_with fail
          refine segQ_mk (fun h => absurd rfl h) (hn _ _ ?_)
          clear hn next
          (refine bt_fin ?_)
          try simp only [hW5]
          clear hW5 d6 dl df
          go_wp2_with fail
          go_roundw
          case rel => exact ⟨j + 1, KB, kbc, by go_num, by omega, HB5, HR5, HT5⟩
          case measure => simp [intOf]; omega
        · obtain rfl : j = n := by omega
          have HXT : Hid ((p.nd.ks.take j).map (· + (pn : Int)) = (shiftS pn p.nd).ks) := Lib.hid (by rw [List.take_of_length_le (by have := HN.out; omega)]; rfl)
          rw [HXT.out] at hk2
          obtain ⟨ucs, hut⟩ := own_obj hr2.own ug rfl
          have y0 := cell_of_row _ _ 0 _ _ _ hb2.out
          have y1 := cell_of_row _ _ 1 _ _ _ hb2.out
          have y2 := cell_of_row _ _ 2 _ _ _ hb2.out
          have y3 := cell_of_row _ _ 3 _ _ _ hb2.out
          have y4 := cell_of_row _ _ 4 _ _ _ hb2.out
          have y5 := cell_of_row _ _ 5 _ _ _ hb2.out
          have y6 := cell_of_row _ _ 6 _ _ _ hb2.out
          have y7 := cell_of_row _ _ 7 _ _ _ hb2.out
          have yl := lt_of_heap hb2.out
          simp at y0 y1 y2 y3 y4 y5 y6 y7
          have i0 := set_same (k := k * 8) hut c0
          have i1 := set_same (k := k * 8 + 1) hut c1
          have i2 := set_same (k := k * 8 + 2) hut c2
          have i3 := set_same (k := k * 8 + 3) hut c3
          have i4 := set_same (k := k * 8 + 4) hut c4
          have i5 := set_same (k := k * 8 + 5) hut c5
          obtain ⟨W7, hW7⟩ : ∃ V, wr.setCell ⟨ug, k * 8 + 6, none⟩ (.slice KA j kc) = V := ⟨_, rfl⟩
          have hks : (shiftS pn p.nd).ks.length = j := by rw [← HXT.out, List.length_map, List.length_take, HN.out, Nat.min_self]
          obtain ⟨p', hp'⟩ : ∃ p' : Pt, p' = ⟨shiftS pn p.nd, KA, kc⟩ := ⟨_, rfl⟩
          have hkk : KidsAt wr p' := by
            rw [hp']
            refine RowI.kids (base := W4.heap.size) (p := ⟨shiftS pn p.nd, KA, kc⟩) (A := KA) (c := kc) ?_ rfl rfl
            show RowI wr _ (.slice KA (shiftS pn p.nd).ks.length kc) _
            rw [hks]
            exact hk2.out
          have h7 : RowA W7 w0.heap.size (.slice (some ⟨ug, 0, none⟩) qn uc) (us.set k p') := by
            rw [← hW7]
            exact hr2.store (r := 6) (q := p) HUL.out.symm HUK.out (by omega) (by rw [hp']; simp [ptC, shiftS, hks]; rw [← hks]; simp [shiftS]) hkk
          have HR7 := Lib.hid h7
          have HM7 : Hid (Moved pn (k + 1) qs (us.set k p')) := Lib.hid (hm.out.step HQK.out (by rw [hp']))
          have T7 : Turn (fun g => g = ug) wr W7 := by rw [← hW7]; exact Turn.set1 _ _ _
          have hv2 : RowA wr w0.heap.size (.slice (some ⟨vg, 0, none⟩) pn vc) ps1 := (hv.out.ext HX4.out).turn ht2.out (fun g hg he => by
            have hg' : vg = g := by injection hg
            have he' : g = pb := he
            have h1 := HVL.out.1
            have h2 := ht.out.size
            have h3 := HPB.out.1
            omega) (fun g cs hg he => by
            subst he
            obtain ⟨cs4, hc4⟩ := HTP.out
            rw [hc4] at hg
            cases hg)
          have HV7 : Hid (RowA W7 w0.heap.size (.slice (some ⟨vg, 0, none⟩) pn vc) ps1) := Lib.hid (hv2.turn T7 (fun g hg he => by
            have hg' : vg = g := by injection hg
            have he' : g = ug := he
            exact HNE.out (hg'.trans he')) (fun g cs hg he => ne_type hg hut (by decide) he))
          have HT7 : Hid (Turn (fun g => g = vg ∨ g = ug ∨ w.heap.size ≤ g) w W7) := Lib.hid (((ht.out.trans (Turn.of_ext HX4.out)).trans (ht2.out.wide (fun g hg => .inr (.inr (by
            have h2 := ht.out.size
            have h3 := HPB.out.1
            have h4 : g = pb := hg
            omega))))).trans (T7.wide (fun g hg => .inr (.inl hg))))
          obtain ⟨us7, hus7⟩ : ∃ l, us.set k p' = l := ⟨_, rfl⟩
          rw [hus7] at HR7 HM7
          have hut7 : W7.heap[ug]? = some (.cells (ucs.setIfInBounds (k * 8 + 6) (.slice KA j kc)) 34) := by rw [← hW7]; exact setCell_row hut _
          have c7' : W7.cell? ⟨ug, k * 8 + 7, none⟩ = some (.int .u64 0) := (h7.at_ (by rw [List.length_set]; exact HUL.out.symm) (List.getElem?_set_self (by
            have := HUL.out
            have := (List.getElem?_eq_some_iff.1 HUK.out).1
            omega))).met
          have i7 := set_same (k := k * 8 + 7) hut7 c7'
          have cl7 := lt_of_heap hut7
          have f7 : ∀ r, W7.frozen? ⟨ug, r, none⟩ = false := fun r => row_frozen hut7 r
          clear h7 T7 hv2 hut hut7 hkk hp' hr2 HX4 hus7 HXT
          go_upto_region 4 with fail
          try simp only [hW7]
          clear hW7 i0 i1 i2 i3 i4 i5 i7 cl7 f7 c7' y0 y1 y2 y3 y4 y5 y6 y7 yl c0 c1 c2 c3 c4 c5 c6 c7 cl cf
          go_wp2_with fail
          go_roundw
          case rel => exact ⟨k + 1, us7, by go_num, by omega, HR7, HM7, HV7, HT7⟩
          case measure => simp [intOf]; omega
    · obtain rfl : k = qn := by omega
      have HC : Hid (CellsAt wr (some ⟨ug, 0, none⟩) (pw us)) := Lib.hid (by
        obtain ⟨A, c, hA, hc, _⟩ := own_cells hr.out.own
        injection hA with hA
        subst hA
        exact hc)
      have HS : Hid (shs us = (shs qs).map (shiftS pn)) := Lib.hid (by
        have h := hm.out
        rw [← HQN.out] at h
        exact h.all)
      have HEX : Hid (Ext w0 wr) := Lib.hid (ht.out.ext HE.out (fun g hg => by
        have h1 := HVL.out.2.2
        have h2 := HE.out.size
        rcases hg with rfl | rfl | hg <;> omega))
      have HP1' : Hid (ps1.length ≤ 1000000) := Lib.hid (by rw [HP1.out]; omega)
      have HU1' : Hid (us.length ≤ 1000000) := Lib.hid (by rw [HUL.out]; omega)
      go_wp2_with (at_builtin; refine app_parts w0 (by rfl) (.tmp 62) (.tmp 63) rfl (ps := ps1) (qs := us) hv.out (A := some ⟨ug, 0, none⟩) (c := uc) rfl (by rw [HUL.out]; rfl) (fun h => by cases h) HC.out hr.out.kids HP1'.out HU1'.out HEX.out ?_; intro v8 w8 hr8 hg8 hat8 hx8)
      have T8 : Turn (fun g => (Value.slice (some ⟨vg, 0, none⟩) pn vc).ownBlock = some g) wr w8 := Turn.grown hg8 (fun g hg _ => hg)
      have HT8 : Hid (Turn (fun g => (Value.slice (some ⟨vg, 0, none⟩) pn vc).ownBlock = some g ∨ (Value.slice (some ⟨ug, 0, none⟩) k uc).ownBlock = some g) w w8) := Lib.hid (Turn.old ((ht.out.wide (fun g hg => by
        rcases hg with rfl | rfl | hg
        · exact .inl (.inl rfl)
        · exact .inl (.inr rfl)
        · exact .inr hg)).trans (T8.wide (fun g hg => .inl (.inl hg)))))
      have HR8 := Lib.hid hr8
      have HX8 := Lib.hid hx8
      have HSS : Hid (shs (ps1 ++ us) = behindS (shs ps) (shs qs)) := Lib.hid (by
        unfold behindS
        rw [show (shs ps).length = pn from by rw [← HPN.out]; simp [shs], ← HN1.out, ← HS.out]
        simp [shs])
      clear hr8 hg8 hat8 hx8 T8
      go_ret
      exact ⟨v8, _, rfl, HR8.out, HSS.out, HT8.out, HX8.out⟩
end Go.Proofs.YthpmncdfaggkiaaGreat
/- Lang.Predict, Behind, symbol of the language of words. -/
namespace Go.Proofs.YthpmncdfaggkiaaGreat
open Go.RowKit
attribute [local go_sem] more_drew more_drewN more_size more_cell more_frozen more_setCell drew_more drewN_more lt_add_r lt_add_r2 lt_add_r3 lt_add_r4 lt_add_r5 lt_add_r6 lt_add_r7 lt_add_r8 lt_add_r9 lt_add_r10 lt_self_r lt_self_r2
theorem lexok_words : LexOk wordN wordR [0, -1] 1 := ⟨dfaok_words, by omega, by decide, by decide, by decide⟩
/-- the next token of the words -/
def tokF (s : ByteArray) (p : Nat) : Int × Int × Int × Int := nextF wordN wordR [0, -1] s p
/-- the language laid open -/
theorem lang_open {w : World} {lb : Nat} (h : LangRd w lb) : ∃ N0 c0 N1 c1 N2 c2 a b C c d e tg tog tc xg og nb nc cl, w.heap[lb]? = some (.cells #[.slice N0 768 c0, .slice N1 3 c1, .slice N2 2 c2, .int .i64 1, .int .i64 1, .int .i64 1, .int .i64 1, .slice (some ⟨a, 0, none⟩) 2 c, .slice (some ⟨tg, tog, none⟩) 2 tc, .slice (some ⟨xg, og, none⟩) 1 nc, .int .i64 37448] 112) ∧ LexRd w (.slice N0 768 c0) (.slice N1 3 c1) (.slice N2 2 c2) wordN wordR [0, -1] ∧ GrRd w a b C d e ∧ TabRd w (.slice (some ⟨tg, tog, none⟩) 2 tc) ∧ NextRd w (.slice (some ⟨xg, og, none⟩) 1 nc) xg og nb nc cl := by
  obtain ⟨nv, rv, kv, a, b, C, c, d, e, tv, xv, g, og, nb, nc, cl, h1, h2, h3, h4, h5⟩ := h
  obtain ⟨N0, c0, N1, c1, N2, c2, rfl, rfl, rfl⟩ := lex_slices h2
  obtain ⟨tg, tog, tc, tv0, tv1, tcs, rfl, h6⟩ := h4
  obtain rfl := h5.val
  exact ⟨N0, c0, N1, c1, N2, c2, a, b, C, c, d, e, tg, tog, tc, g, og, nb, nc, cl, h1, h2, h3, ⟨tg, tog, tc, tv0, tv1, tcs, rfl, h6⟩, h5⟩
set_option maxRecDepth 100000 in
set_option maxHeartbeats 1000000 in
theorem lang_predict (lb : Nat) (x : ByteArray) (w : World) (h : LangRd w lb) : Calls Tryz.prog 109 #[.pointer (some ⟨lb, 0, none⟩), .int .i64 0, .string x] w fun e w' => e = .returned (.int .i64 (predF x)) ∧ Ext w w' := by
  obtain ⟨N0, c0, N1, c1, N2, c2, a, b, C, c, d, e, tg, tog, tc, xg, og, nb, nc, cl, hb, hl, hg, ht, hn'⟩ := lang_open h
  have HP := Lib.hid (fun w1 (e1 : Ext w w1) => predict_gram a b C c d e _ x w1 (hg.ext e1) (ht.ext e1))
  have k4 := cell_of_row _ _ 4 _ _ _ hb
  have k5 := cell_of_row _ _ 5 _ _ _ hb
  have k6 := cell_of_row _ _ 6 _ _ _ hb
  have k7 := cell_of_row _ _ 7 _ _ _ hb
  have k8 := cell_of_row _ _ 8 _ _ _ hb
  have kl := lt_of_heap hb
  simp at k4 k5 k6 k7 k8
  unfold gramV at HP
  clear h hl hg ht hn' hb
  go_enter Tryz.func109, Tryz.ntmps109
  go_upto_region 1 with fail
  refine wp_region_bt (12) (pures_bt [0, 1, 2, 4, 5, 6, 8, 9] (softs_bt [3, 7] (.step 10 (pures_bt [11] .fin)))) (by kernel_rfl) (by kernel_rfl) ?_
  (refine bt_pures _ fun K hK => ?_); (simp only [pick, nthC]); (repeat (go_big_quiet_step (fail))); (refine wpQuiet_nil (hK _ ?_)); (clear hK K)
  (refine bt_softs _ fun K hK => ?_); (simp only [pick, nthC]); (repeat (go_big_quiet_step (fail))); (refine wpQuiet_nil (hK _ ?_)); (clear hK K)
  (refine bt_step fun next hn => ?_); (simp only [pick, nthC])
  go_wp2_with fail
  refine (HP.out _ (by repeat (first | exact Ext.refl _ | refine Ext.alloc ?_ _ | refine Ext.more ?_ _ _ | refine Ext.drew ?_ | refine Ext.drewN ?_ _ | refine Ext.setCell ?_ (by simp <;> omega) _))).mono ?_
  rintro e' W2 ⟨rfl, hx2⟩
  have HX2 : Hid (Ext w W2) := Lib.hid (Ext.trans (by repeat (first | exact Ext.refl _ | refine Ext.alloc ?_ _ | refine Ext.more ?_ _ _ | refine Ext.drew ?_ | refine Ext.drewN ?_ _ | refine Ext.setCell ?_ (by simp <;> omega) _)) hx2)
  clear hx2 HP
  go_wp2_with fail
  refine segQ_mk (fun _ => laid HX2.out) (hn _ _ ?_)
  clear hn next
  (refine bt_pures _ fun K hK => ?_); (simp only [pick, nthC]); (repeat (go_big_quiet_step (fail))); (refine wpQuiet_nil (hK _ ?_)); (clear hK K)
  (refine bt_fin ?_)
  go_wp2_with fail
  go_ret
  exact ⟨rfl, HX2.out⟩
set_option maxRecDepth 100000 in
set_option maxHeartbeats 1000000 in
theorem lang_behind_bad (lb : Nat) (w : World) (h : LangRd w lb) : Calls Tryz.prog 111 #[.pointer (some ⟨lb, 0, none⟩), .int .i64 0, .int .i64 (-1)] w fun e w' => e = .returned (.bool false) ∧ Ext w w' := by
  obtain ⟨N0, c0, N1, c1, N2, c2, a, b, C, c, d, e, tg, tog, tc, xg, og, nb, nc, cl, hb, hl, hg, ht, hn'⟩ := lang_open h
  have k4 := cell_of_row _ _ 4 _ _ _ hb
  have k5 := cell_of_row _ _ 5 _ _ _ hb
  have kl := lt_of_heap hb
  simp at k4 k5
  clear h hl hg ht hn' hb
  go_enter Tryz.func111, Tryz.ntmps111
  go_wp2_with fail
  go_ret
  exact ⟨rfl, Ext.refl _⟩
/-- a call answers a tree -/
def TreeRet (w : World) (ts : List Sh) (e : Ending) (w' : World) : Prop := ∃ v rs, e = .returned v ∧ RowA w' w.heap.size v rs ∧ shs rs = ts ∧ Ext w w'
/-- a leaf -/
def leafS (kind : Int) (p : Nat) (q : Int × Int × Int × Int) : Sh := ⟨q.1, kind, p, q.2.1, q.2.2.1, q.2.2.2, []⟩
/-- a row of one part that is laid in a block -/
theorem row_lit (w : World) (base : Nat) (hb : base ≤ w.heap.size) (q : Sh) (hk : q.ks = []) : RowA (w.alloc (.cells #[.int .i64 q.sym, .int .i64 q.kind, .int .i64 q.lo, .int .i64 q.inn, .int .i64 q.hi, .int .i64 q.look, nil0, .int .u64 0] 34)) base (.slice (some ⟨w.heap.size, 0, none⟩) 1 1) [⟨q, none, 0⟩] := by
  refine ⟨?_, fun p hp => ?_⟩
  · have := own_lit w base 34 8 w.heap.size 1 #[.int .i64 q.sym, .int .i64 q.kind, .int .i64 q.lo, .int .i64 q.inn, .int .i64 q.hi, .int .i64 q.look, nil0, .int .u64 0] rfl hb rfl (by unfold maxLen; omega)
    simpa [pw, ptC, hk] using this
  · obtain rfl := List.mem_singleton.1 hp
    exact ⟨fun h0 => by simp [hk] at h0, by simp [hk], by simp, fun _ => rfl, fun g off s h => by cases h⟩
set_option maxRecDepth 100000 in
set_option maxHeartbeats 1000000 in
theorem symbol_tok (lb : Nat) (s : ByteArray) (p : Nat) (q : Int × Int × Int × Int) (w : World) (h : LangRd w lb) (hp : p ≤ s.size) (hs : s.size ≤ 1000) (hq : tokF s p = q) (hk : q.1 = 0) : Calls Tryz.prog 110 #[.pointer (some ⟨lb, 0, none⟩), .string s, .int .i64 0, .int .i64 p] w (TreeRet w [leafS 3 p q]) := by
  obtain ⟨N0, c0, N1, c1, N2, c2, a, b, C, c, d, e, tg, tog, tc, xg, og, nb, nc, cl, hb, hl, hg, ht, hn'⟩ := lang_open h
  have HN := Lib.hid (tok_Next _ _ _ _ _ _ 1 s p w hl lexok_words hp (by omega))
  rw [show nextF wordN wordR [0, -1] s p = q from hq] at HN
  obtain ⟨t0, t1, t2, t3⟩ := q
  have hk : t0 = 0 := hk
  subst hk
  have k0 := cell_of_row _ _ 0 _ _ _ hb
  have k1 := cell_of_row _ _ 1 _ _ _ hb
  have k2 := cell_of_row _ _ 2 _ _ _ hb
  have k3 := cell_of_row _ _ 3 _ _ _ hb
  have k4 := cell_of_row _ _ 4 _ _ _ hb
  have kl := lt_of_heap hb
  simp at k0 k1 k2 k3 k4
  unfold lexV tokV at HN
  dsimp only at HN
  clear h hl hg ht hn' hb hq
  go_enter Tryz.func110, Tryz.ntmps110
  go_wp2_with fail
  refine HN.out.mono ?_
  rintro e' W2 ⟨rfl, hx2⟩
  clear HN k0 k1 k2 k3 k4 kl
  obtain ⟨kb, hkb⟩ : ∃ b, W2.heap.size = b := ⟨_, rfl⟩
  obtain ⟨W3a, hW3a⟩ : ∃ W, W2.alloc (.cells #[.int .i64 0, .int .i64 0, .int .i64 0, .int .i64 0, .int .i64 0] 116) = W := ⟨_, rfl⟩
  have hR : W3a.heap[kb]? = some (.cells #[.int .i64 0, .int .i64 0, .int .i64 0, .int .i64 0, .int .i64 0] 116) := by rw [← hW3a, ← hkb]; exact heap_alloc_new _ _
  obtain ⟨W3, hW3⟩ : ∃ W, put5 W3a kb (.int .i64 0) (.int .i64 p) (.int .i64 t1) (.int .i64 t2) (.int .i64 t3) = W := ⟨_, rfl⟩
  have h3 : W3.heap[kb]? = some (.cells #[.int .i64 0, .int .i64 p, .int .i64 t1, .int .i64 t2, .int .i64 t3] 116) := by rw [← hW3]; exact put5_at hR _ _ _ _ _
  have X3 : Ext W2 W3 := by rw [← hW3]; exact (put5_turn (S := fun k => k = kb) rfl _ _ _ _ _).ext (show Ext W2 W3a from by rw [← hW3a]; exact (by repeat (first | exact Ext.refl _ | refine Ext.alloc ?_ _ | refine Ext.more ?_ _ _ | refine Ext.drew ?_ | refine Ext.drewN ?_ _ | refine Ext.setCell ?_ (by simp <;> omega) _))) (fun k hk => by omega)
  have HX3 := Lib.hid (hx2.trans X3)
  have H3 := Lib.hid h3
  have HLF := Lib.hid (leaf_of 3 p (0, t1, t2, t3) W3)
  have z0 := cell_of_row _ _ 0 _ _ _ hR
  have z1 := cell_of_row _ _ 1 _ _ _ hR
  have z2 := cell_of_row _ _ 2 _ _ _ hR
  have z3 := cell_of_row _ _ 3 _ _ _ hR
  have z4 := cell_of_row _ _ 4 _ _ _ hR
  have zf := fun k => row_frozen hR k
  have zl := lt_of_heap hR
  simp at z0 z1 z2 z3 z4
  unfold tokV leafV at HLF
  dsimp only at HLF
  unfold put5 put4 put3 put2 at hW3
  clear hx2 hR X3 h3
  go_upto_region 4 with fail
  try simp only [hkb]
  try simp only [hW3a]
  try simp only [hW3]
  clear hkb hW3a hW3 z0 z1 z2 z3 z4 zf zl
  have y0 := cell_of_row _ _ 0 _ _ _ H3.out
  have y1 := cell_of_row _ _ 1 _ _ _ H3.out
  have y2 := cell_of_row _ _ 2 _ _ _ H3.out
  have y3 := cell_of_row _ _ 3 _ _ _ H3.out
  have y4 := cell_of_row _ _ 4 _ _ _ H3.out
  have yl := lt_of_heap H3.out
  simp at y0 y1 y2 y3 y4
  go_wp2_with fail
  refine HLF.out.mono ?_
  rintro e' W4 ⟨rfl, hx4⟩
  have HX4 := Lib.hid (HX3.out.trans hx4)
  have HRL := Lib.hid (row_lit W4 w.heap.size HX4.out.size (leafS 3 p (0, t1, t2, t3)) rfl)
  clear hx4 HLF y0 y1 y2 y3 y4 yl
  go_wp2_with fail
  go_ret
  exact ⟨_, _, rfl, HRL.out, rfl, HX4.out.trans (by repeat (first | exact Ext.refl _ | refine Ext.alloc ?_ _ | refine Ext.more ?_ _ _ | refine Ext.drew ?_ | refine Ext.drewN ?_ _ | refine Ext.setCell ?_ (by simp <;> omega) _))⟩
set_option maxRecDepth 100000 in
set_option maxHeartbeats 1000000 in
theorem symbol_tree (lb : Nat) (s : ByteArray) (p : Nat) (ts : List Sh) (w : World) (h : LangRd w lb) (HT : ∀ w1, LangRd w1 lb → Calls Tryz.prog 64 #[.pointer (some ⟨lb, 0, none⟩), .string s, .int .i64 0, .int .i64 p] w1 (TreeRet w1 ts)) : Calls Tryz.prog 110 #[.pointer (some ⟨lb, 0, none⟩), .string s, .int .i64 1, .int .i64 p] w (TreeRet w ts) := by
  obtain ⟨N0, c0, N1, c1, N2, c2, a, b, C, c, d, e, tg, tog, tc, xg, og, nb, nc, cl, hb, hl, hg, ht, hn'⟩ := lang_open h
  have HTT := Lib.hid (HT w h)
  have k4 := cell_of_row _ _ 4 _ _ _ hb
  have kl := lt_of_heap hb
  simp at k4
  clear h hl hg ht hn' hb HT
  go_enter Tryz.func110, Tryz.ntmps110
  go_wp2_with fail
  refine HTT.out.mono ?_
  rintro e' W2 ⟨v, rs, rfl, h1, h2, h3⟩
  have H1 := Lib.hid h1
  have H2 := Lib.hid h2
  have H3 := Lib.hid h3
  clear h1 h2 h3 HTT k4 kl
  go_wp2_with fail
  go_ret
  exact ⟨v, rs, rfl, H1.out, H2.out, H3.out⟩
end Go.Proofs.YthpmncdfaggkiaaGreat
