/- Sn: texts that the proof rests on, part 8. -/
import Derived.Test.YthpmncdfaggkiaaGreatSn6
import Derived.Test.YthpmncdfaggkiaaGreatSn7
import Derived.WalkSpells
import Derived.WalkLawsBesides
import Derived.BigRegion
import Derived.Deep.RegionWith
import Derived.Deep.QuietTactic
import Derived.Deep.DeepCutAuto
import Derived.Deep.RegionHeld3
import Derived.Deep.RegionLaw
import Derived.BigQuiet
import Derived.Lib.Hide
/- viewportref13.Sets of the grammar of words. -/
namespace Go.Proofs.YthpmncdfaggkiaaGreat
open Go.RowKit
attribute [local go_sem] more_drew more_drewN more_size more_cell more_frozen more_setCell drew_more drewN_more lt_add_r lt_add_r2 lt_add_r3 lt_add_r4 lt_add_r5 lt_add_r6 lt_add_r7 lt_add_r8 lt_add_r9 lt_add_r10 lt_self_r lt_self_r2
theorem strNum255 : strOfNums [255] = tx 255 := rfl
theorem un255 (va vb : Value) (w : World) (ha : StrV w va [tx 255]) (hb : StrV w vb [tx 255]) : Calls Tryz.prog 161 #[va, vb] w (StrRet w [tx 255]) :=
  union_texts va vb [tx 255] [tx 255] [tx 255] w ha hb (by decide) (by decide) (by decide) (by decide) (.inl (by decide))
set_option maxRecDepth 100000 in
set_option maxHeartbeats 4000000 in
theorem follow_sets (a b : Nat) (C : Option Addr) (c d e : Nat) (w : World) (h : GrRd w a b C d e) (hd : d = 2) : Calls Tryz.prog 107 #[gramV a c] w fun e w' => ∃ ob v, e = .returned (.slice (some ⟨ob, 0, none⟩) 1 1) ∧ SetOwn w w' ob v [tx 255] := by
  subst hd
  obtain ⟨g0, W, hg0, hW, X1, hat⟩ := gr_enter w c h
  have HX := Lib.hid X1
  have HCK := Lib.hid (check_gram a b C c 2 e W (h.ext X1))
  have HGW := Lib.hid hat
  clear h X1
  obtain ⟨k0, k1, k2, k3, lg, p0, p1, p2, p3, lp, r0, r1, lr⟩ := hat
  unfold gramV
  go_enter Tryz.func107, Tryz.ntmps107
  go_wp2_with fail
  try simp only [hg0]
  refine HCK.out.mono ?_
  rintro e' W2 ⟨rfl, hx2⟩
  have HG := Lib.hid (HGW.out.ext hx2)
  have HX2 := Lib.hid (HX.out.trans hx2)
  clear hW hg0 k0 k1 k2 k3 lg p0 p1 p2 p3 lp r0 r1 lr hx2 HCK HX HGW
  obtain ⟨k0, k1, k2, k3, lg, p0, p1, p2, p3, lp, r0, r1, lr⟩ := HG.out
  have HFS := Lib.hid (first_sets a b C c 2 e W2 HG.out.rd)
  unfold gramV at HFS
  go_wp2_with fail
  refine HFS.out.mono ?_
  rintro e' W3 ⟨fb, vF, rfl, hf⟩
  have HF3 := Lib.hid hf
  clear hf HFS k0 k1 k2 k3 lg p0 p1 p2 p3 lp r0 r1 lr
  obtain ⟨k0, k1, k2, k3, lg, p0, p1, p2, p3, lp, r0, r1, lr⟩ := HG.out.ext HF3.out.own.ext
  have hmk := mk_set1
  obtain ⟨ob, hob⟩ : ∃ ob, W3.heap.size = ob := ⟨_, rfl⟩
  obtain ⟨V0, hV0⟩ : ∃ V, W3.alloc (.cells #[nil0] 161) = V := ⟨_, rfl⟩
  have HS0 : Hid (SetOwn W3 V0 ob nil0 []) := Lib.hid (by rw [← hV0, ← hob]; exact ⟨Own1.new (Ext.refl _) _, strV_nil _⟩)
  go_upto_region 5 with fail
  try simp only [hob, hV0]
  clear hob hV0 hmk k0 k1 k2 k3 lg p0 p1 p2 p3 lp r0 r1 lr
  obtain ⟨bb, hbb⟩ : ∃ bb, V0.heap.size = bb := ⟨_, rfl⟩
  obtain ⟨V1, hV1⟩ : ∃ V, V0.alloc (.cells #[.int .u8 255] 5) = V := ⟨_, rfl⟩
  have hB1 : V1.heap[bb]? = some (.cells #[.int .u8 255] 5) := by rw [← hV1, ← hbb]; exact heap_alloc_new _ _
  have hcv := run_convert_bytes_arg (P := Tryz.prog) V1 212 5 Tryz.underlying212 Tryz.underlying5 bb 0 1 1 [255] rfl (fun i hi => by
    obtain rfl : i = 0 := by omega
    exact cell_of_row _ _ 0 _ _ _ hB1) 9 Tryz.underlying9
  rw [strNum255] at hcv
  obtain ⟨tb, htb⟩ : ∃ bb, V1.heap.size = bb := ⟨_, rfl⟩
  obtain ⟨V2, hV2⟩ : ∃ V, V1.alloc (.cells #[.string (tx 255)] 9) = V := ⟨_, rfl⟩
  have HT : Hid (StrV V2 (.slice (some ⟨tb, 0, none⟩) 1 1) [tx 255]) := Lib.hid (by rw [← hV2, ← htb]; exact lit_text V1 (tx 255))
  have X02 : Ext V0 V2 := by rw [← hV2, ← hV1]; exact (by repeat (first | exact Ext.refl _ | refine Ext.alloc ?_ _ | refine Ext.more ?_ _ _ | refine Ext.drew ?_ | refine Ext.drewN ?_ _ | refine Ext.setCell ?_ (by simp <;> omega) _))
  have HS2 := Lib.hid (HS0.out.to X02)
  obtain ⟨V3, hV3⟩ : ∃ V, V2.setCell ⟨ob, 0, none⟩ (.slice (some ⟨tb, 0, none⟩) 1 1) = V := ⟨_, rfl⟩
  have HS3 := Lib.hid (HS2.out.put HT.out hV3)
  have o0 := HS2.out.own.cell
  have ol := HS2.out.own.lt
  have of := HS2.out.own.froz
  clear hB1 X02 HS0
  go_upto_region 6 with fail
  clear hbb hV1 hcv htb hV2 hV3 o0 ol of HS2 HT
  go_wp2_with fail
  refine wp_loop_rounds 2 ?_
  rw [rounds_succ]
  go_wp2_with fail
  refine wp_loop_rounds 3 ?_
  rw [rounds_succ]
  obtain ⟨k0, k1, k2, k3, lg, p0, p1, p2, p3, lp, r0, r1, lr⟩ := HG.out.ext (HF3.out.own.ext.trans HS3.out.own.ext)
  obtain ⟨pb, Wb, V4, hpb, hWb, hW4, z0, z1, zf, zl, hq, X4⟩ := prod_copy2 V3 (.slice (some ⟨b, 0, none⟩) 2 2)
  have HS4 := Lib.hid (HS3.out.to X4)
  have HQ := Lib.hid hq
  clear X4 hq
  go_upto_region 13 with fail
  try simp only [hpb, hWb, hW4]
  clear hpb hWb hW4 z0 z1 zf zl k0 k1 k2 k3 lg p0 p1 p2 p3 lp r0 r1 lr
  obtain ⟨k0, k1, k2, k3, lg, p0, p1, p2, p3, lp, r0, r1, lr⟩ := HG.out.ext (HF3.out.own.ext.trans HS4.out.own.ext)
  obtain ⟨q0, q1, ql⟩ := HQ.out
  go_wp2_with fail
  refine wp_loop_rounds 3 ?_
  rw [rounds_succ]
  go_upto_region 16 with fail; refine wp_region_bt (9) (pures_bt [0, 2, 5] (softs_bt [1, 3, 4, 6, 7, 8] .fin)) (by kernel_rfl) (by kernel_rfl) ?_; (refine bt_pures _ fun K hK => ?_); (simp only [pick, nthC]); (repeat (go_big_quiet_step (fail))); (refine wpQuiet_nil (hK _ ?_)); (clear hK K); (refine bt_softs _ fun K hK => ?_); (simp only [pick, nthC]); (repeat (go_big_quiet_step (fail))); (refine wpQuiet_nil (hK _ ?_)); (clear hK K); (refine bt_fin ?_)
  go_wp2_with fail
  rw [rounds_succ]
  clear k0 k1 k2 k3 lg p0 p1 p2 p3 lp r0 r1 lr q0 q1 ql
  have HX5 : Hid (Ext V4 V4.drew) := Lib.hid (by repeat (first | exact Ext.refl _ | refine Ext.alloc ?_ _ | refine Ext.more ?_ _ _ | refine Ext.drew ?_ | refine Ext.drewN ?_ _ | refine Ext.setCell ?_ (by simp <;> omega) _))
  obtain ⟨V5, hV5⟩ : ∃ V, V4.drew = V := ⟨_, rfl⟩
  rw [hV5] at HX5
  try simp only [hV5]
  clear hV5
  have HS5 := Lib.hid (HS4.out.to HX5.out)
  obtain ⟨k0, k1, k2, k3, lg, p0, p1, p2, p3, lp, r0, r1, lr⟩ := HG.out.ext (HF3.out.own.ext.trans HS5.out.own.ext)
  obtain ⟨q0, q1, ql⟩ := HQ.out.ext HX5.out
  go_upto_region 16 with fail; refine wp_region_bt (9) (pures_bt [0, 2, 5] (softs_bt [1, 3, 4, 6, 7, 8] .fin)) (by kernel_rfl) (by kernel_rfl) ?_; (refine bt_pures _ fun K hK => ?_); (simp only [pick, nthC]); (repeat (go_big_quiet_step (fail))); (refine wpQuiet_nil (hK _ ?_)); (clear hK K); (refine bt_softs _ fun K hK => ?_); (simp only [pick, nthC]); (repeat (go_big_quiet_step (fail))); (refine wpQuiet_nil (hK _ ?_)); (clear hK K); (refine bt_fin ?_)
  clear k0 k1 k2 k3 lg p0 p1 p2 p3 lp r0 r1 lr q0 q1 ql
  have HX6 : Hid (Ext V5 V5.drew) := Lib.hid (by repeat (first | exact Ext.refl _ | refine Ext.alloc ?_ _ | refine Ext.more ?_ _ _ | refine Ext.drew ?_ | refine Ext.drewN ?_ _ | refine Ext.setCell ?_ (by simp <;> omega) _))
  obtain ⟨V6, hV6⟩ : ∃ V, V5.drew = V := ⟨_, rfl⟩
  rw [hV6] at HX6
  try simp only [hV6]
  clear hV6
  have HS6 := Lib.hid (HS5.out.to HX6.out)
  obtain ⟨k0, k1, k2, k3, lg, p0, p1, p2, p3, lp, r0, r1, lr⟩ := HG.out.ext (HF3.out.own.ext.trans HS6.out.own.ext)
  obtain ⟨q0, q1, ql⟩ := HQ.out.ext (HX5.out.trans HX6.out)
  have HOF := Lib.hid (fun R cr w1 (e1 : Ext V6 w1) => Of_nil a b C c 2 e (some ⟨fb, 0, none⟩) R 1 cr w1 ((HG.out.ext (HF3.out.own.ext.trans HS6.out.own.ext)).ext e1).rd)
  unfold gramV at HOF
  go_upto_region 18 with fail
  refine wp_region_bt (9) (pures_bt [1, 2, 4, 5] (softs_bt [0, 3, 6] (.step 7 (pures_bt [8] .fin)))) (by kernel_rfl) (by kernel_rfl) ?_
  (refine bt_pures _ fun K hK => ?_); (simp only [pick, nthC]); (repeat (go_big_quiet_step (fail))); (refine wpQuiet_nil (hK _ ?_)); (clear hK K)
  (refine bt_softs _ fun K hK => ?_); (simp only [pick, nthC]); (repeat (go_big_quiet_step (fail))); (refine wpQuiet_nil (hK _ ?_)); (clear hK K)
  (refine bt_step fun next hn => ?_); (simp only [pick, nthC])
  go_wp2_with fail
  refine (HOF.out _ _ _ (by repeat (first | exact Ext.refl _ | refine Ext.alloc ?_ _ | refine Ext.more ?_ _ _ | refine Ext.drew ?_ | refine Ext.drewN ?_ _ | refine Ext.setCell ?_ (by simp <;> omega) _))).mono ?_
  rintro e' V7 ⟨vo, rfl, hvo, hxo⟩
  have HX7 : Hid (Ext V6 V7) := Lib.hid (Ext.trans (by repeat (first | exact Ext.refl _ | refine Ext.alloc ?_ _ | refine Ext.more ?_ _ _ | refine Ext.drew ?_ | refine Ext.drewN ?_ _ | refine Ext.setCell ?_ (by simp <;> omega) _)) hxo)
  have HVO := Lib.hid hvo
  clear hxo hvo HOF
  go_wp2_with fail
  refine segQ_mk (fun _ => laid HX7.out) (hn _ _ ?_)
  clear hn next k0 k1 k2 k3 lg p0 p1 p2 p3 lp r0 r1 lr q0 q1 ql
  (refine bt_pures _ fun K hK => ?_); (simp only [pick, nthC]); (repeat (go_big_quiet_step (fail))); (refine wpQuiet_nil (hK _ ?_)); (clear hK K)
  (refine bt_fin ?_)
  have HS7 := Lib.hid (HS6.out.to HX7.out)
  obtain ⟨k0, k1, k2, k3, lg, p0, p1, p2, p3, lp, r0, r1, lr⟩ := HG.out.ext (HF3.out.own.ext.trans HS7.out.own.ext)
  obtain ⟨q0, q1, ql⟩ := HQ.out.ext (HX5.out.trans (HX6.out.trans HX7.out))
  have o0 := HS7.out.own.cell
  have ol := HS7.out.own.lt
  have HCT := Lib.hid (fun w1 (e1 : Ext V7 w1) => cat_eps vo _ 255 w1 (HVO.out.ext e1) (HS7.out.to e1).str)
  go_upto_region 19 with fail
  refine wp_region_bt (15) (pures_bt [0, 1, 2, 4, 6, 7, 8] (softs_bt [3, 5, 9, 10, 11] (.step 12 (.step 13 (pures_bt [14] .fin))))) (by kernel_rfl) (by kernel_rfl) ?_
  (refine bt_pures _ fun K hK => ?_); (simp only [pick, nthC]); (repeat (go_big_quiet_step (fail))); (refine wpQuiet_nil (hK _ ?_)); (clear hK K)
  (refine bt_softs _ fun K hK => ?_); (simp only [pick, nthC]); (repeat (go_big_quiet_step (fail))); (refine wpQuiet_nil (hK _ ?_)); (clear hK K)
  (refine bt_step fun next hn => ?_); (simp only [pick, nthC])
  go_wp2_with fail
  refine (HCT.out _ (by repeat (first | exact Ext.refl _ | refine Ext.alloc ?_ _ | refine Ext.more ?_ _ _ | refine Ext.drew ?_ | refine Ext.drewN ?_ _ | refine Ext.setCell ?_ (by simp <;> omega) _))).mono ?_
  rintro e' V8 ⟨vc, rfl, hvc, hxc⟩
  have HX8 : Hid (Ext V7 V8) := Lib.hid (Ext.trans (by repeat (first | exact Ext.refl _ | refine Ext.alloc ?_ _ | refine Ext.more ?_ _ _ | refine Ext.drew ?_ | refine Ext.drewN ?_ _ | refine Ext.setCell ?_ (by simp <;> omega) _)) hxc)
  have HUN := Lib.hid (un255 _ _ V8 (HS7.out.to HX8.out).str hvc)
  clear hxc hvc HCT
  go_wp2_with fail
  refine segQ_mk (fun _ => laid HX8.out) (hn _ _ ?_)
  clear hn next
  (refine bt_step fun next hn => ?_); (simp only [pick, nthC])
  go_wp2_with fail
  refine HUN.out.mono ?_
  rintro e' V9 ⟨vu, rfl, hvu, hxu⟩
  have HX9 : Hid (Ext V7 V9) := Lib.hid (HX8.out.trans hxu)
  obtain ⟨A9, c9, rfl⟩ := hvu.at (n := 1) (by rfl)
  have HVU := Lib.hid hvu
  clear hvu hxu HUN HX8
  go_wp2_with fail
  refine segQ_mk (fun _ => laid HX9.out) (hn _ _ ?_)
  clear hn next k0 k1 k2 k3 lg p0 p1 p2 p3 lp r0 r1 lr q0 q1 ql o0 ol
  (refine bt_pures _ fun K hK => ?_); (simp only [pick, nthC]); (repeat (go_big_quiet_step (fail))); (refine wpQuiet_nil (hK _ ?_)); (clear hK K)
  (refine bt_fin ?_)
  have HS9 := Lib.hid (HS7.out.to HX9.out)
  obtain ⟨k0, k1, k2, k3, lg, p0, p1, p2, p3, lp, r0, r1, lr⟩ := HG.out.ext (HF3.out.own.ext.trans HS9.out.own.ext)
  obtain ⟨q0, q1, ql⟩ := HQ.out.ext (HX5.out.trans (HX6.out.trans (HX7.out.trans HX9.out)))
  have o0 := HS9.out.own.cell
  have ol := HS9.out.own.lt
  have of := HS9.out.own.froz
  obtain ⟨Va, hVa⟩ : ∃ W, V9.setCell ⟨ob, 0, none⟩ (.slice A9 1 c9) = W := ⟨_, rfl⟩
  have HSa := Lib.hid (HS9.out.put HVU.out hVa)
  obtain ⟨q2, q3, qm⟩ : PrAt Va pb 0 (.slice (some ⟨b, 0, none⟩) 2 2) := by
    have hne : pb ≠ ob := by
      rintro rfl
      rw [q0] at o0
      injection o0 with o0
      cases o0
    have hbk : Va.heap[pb]? = V9.heap[pb]? := by rw [← hVa]; exact heap_setCell_other V9 ⟨ob, 0, none⟩ pb _ hne
    exact ⟨by rw [World.cell?_of_block (w := V9) (a := ⟨pb, 0, none⟩) hbk]; exact q0, by rw [World.cell?_of_block (w := V9) (a := ⟨pb, 1, none⟩) hbk]; exact q1, by rw [← hVa]; simpa [World.setCell] using ql⟩
  obtain ⟨j0, j1, j2, j3, jg, x0, x1, x2, x3, xp, y0, y1, yr⟩ := HG.out.ext (HF3.out.own.ext.trans HSa.out.own.ext)
  go_wp2_with fail
  rw [rounds_succ]
  go_wp2_with fail
  rw [rounds_succ]
  clear hVa o0 ol of q0 q1 ql q2 q3 qm k0 k1 k2 k3 lg p0 p1 p2 p3 lp r0 r1 lr j0 j1 j2 j3 jg x0 x1 x2 x3 xp y0 y1 yr HS9 HQ
  obtain ⟨k0, k1, k2, k3, lg, p0, p1, p2, p3, lp, r0, r1, lr⟩ := HG.out.ext (HF3.out.own.ext.trans HSa.out.own.ext)
  obtain ⟨pb, Wb, Vb, hpb, hWb, hW4, z0, z1, zf, zl, hq, X4⟩ := prod_copy2 Va (.slice C 0 e)
  have HSb := Lib.hid (HSa.out.to X4)
  have HQ := Lib.hid hq
  clear X4 hq
  go_upto_region 13 with fail
  try simp only [hpb, hWb, hW4]
  clear hpb hWb hW4 z0 z1 zf zl k0 k1 k2 k3 lg p0 p1 p2 p3 lp r0 r1 lr
  obtain ⟨k0, k1, k2, k3, lg, p0, p1, p2, p3, lp, r0, r1, lr⟩ := HG.out.ext (HF3.out.own.ext.trans HSb.out.own.ext)
  obtain ⟨q0, q1, ql⟩ := HQ.out
  go_wp2_with fail
  refine wp_loop_rounds 1 ?_
  rw [rounds_succ]
  go_wp2_with fail
  rw [rounds_succ]
  go_wp2_with fail
  rw [rounds_succ]
  go_wp2_with fail
  go_ret
  exact ⟨ob, _, rfl, ⟨HSb.out.own.blk, HX2.out.trans (HF3.out.own.ext.trans HSb.out.own.ext), Nat.le_trans HX2.out.size (Nat.le_trans HF3.out.own.ext.size HSb.out.own.low)⟩, HSb.out.str⟩
end Go.Proofs.YthpmncdfaggkiaaGreat
/- viewportref13.Next of the grammar of words. -/
namespace Go.Proofs.YthpmncdfaggkiaaGreat
open Go.RowKit
attribute [local go_sem] more_drew more_drewN more_size more_cell more_frozen more_setCell drew_more drewN_more lt_add_r lt_add_r2 lt_add_r3 lt_add_r4 lt_add_r5 lt_add_r6 lt_add_r7 lt_add_r8 lt_add_r9 lt_add_r10 lt_self_r lt_self_r2
/-- a matrix of one row: false, true -/
structure NextRd (w : World) (v : Value) (g og lb c cl : Nat) : Prop where
  val : v = .slice (some ⟨g, og, none⟩) 1 c
  lg : g < w.heap.size
  row : w.cell? ⟨g, og, none⟩ = some (.slice (some ⟨lb, 0, none⟩) 2 cl)
  ll : lb < w.heap.size
  b0 : w.cell? ⟨lb, 0, none⟩ = some (.bool false)
  b1 : w.cell? ⟨lb, 1, none⟩ = some (.bool true)
theorem mk_bool2 (w : World) : (Instr.makeSlice 128 (.int .i64 2) (.int .i64 2)).run Tryz.prog w = .ok (.slice (some ⟨w.heap.size, 0, none⟩) 2 2) (w.alloc (.cells #[.bool false, .bool false] 4)) := by
  have h := mk_bools w 2 2 rfl (by omega)
  rw [show madeCells #[.bool false] 2 = #[.bool false, .bool false] from by
    apply Array.toList_inj.1
    rw [toList_madeCells_one]
    rfl] at h
  exact h
set_option maxRecDepth 100000 in
set_option maxHeartbeats 4000000 in
theorem next_gram (a b : Nat) (C : Option Addr) (c d e : Nat) (w : World) (h : GrRd w a b C d e) (hd : d = 2) : Calls Tryz.prog 63 #[gramV a c] w fun e w' => ∃ v g og lb c cl, e = .returned v ∧ NextRd w' v g og lb c cl ∧ Ext w w' := by
  obtain ⟨g0, W, hg0, hW, X1, hat⟩ := gr_enter w c h
  have HX := Lib.hid X1
  have HFS := Lib.hid (follow_sets a b C c d e W (h.ext X1) hd)
  have HGW := Lib.hid hat
  clear h X1
  obtain ⟨k0, k1, k2, k3, lg, p0, p1, p2, p3, lp, r0, r1, lr⟩ := hat
  unfold gramV at HFS ⊢
  go_enter Tryz.func63, Tryz.ntmps63
  go_wp2_with fail
  try simp only [hg0]
  refine HFS.out.mono ?_
  rintro e' W2 ⟨ob, v, rfl, ho⟩
  have HO := Lib.hid ho
  have HG := Lib.hid (HGW.out.ext ho.own.ext)
  clear hW hg0 k0 k1 k2 k3 lg p0 p1 p2 p3 lp r0 r1 lr HFS HGW ho
  obtain ⟨k0, k1, k2, k3, lg, p0, p1, p2, p3, lp, r0, r1, lr⟩ := HG.out
  go_wp2_with fail
  refine wp_loop_rounds 2 ?_
  rw [rounds_succ]
  obtain ⟨sg, so, sc, rfl, x0, xl⟩ := strV_one HO.out.str
  have o0 := HO.out.own.cell
  have ol := HO.out.own.lt
  have hmk := mk_bool2
  obtain ⟨lb, hlb⟩ : ∃ ob, W2.heap.size = ob := ⟨_, rfl⟩
  obtain ⟨V0, hV0⟩ : ∃ V, W2.alloc (.cells #[.bool false, .bool false] 4) = V := ⟨_, rfl⟩
  have HL0 : Hid (V0.heap[lb]? = some (.cells #[.bool false, .bool false] 4)) := Lib.hid (by rw [← hV0, ← hlb]; exact heap_alloc_new _ _)
  have HX0 : Hid (Ext W2 V0) := Lib.hid (by rw [← hV0]; exact (by repeat (first | exact Ext.refl _ | refine Ext.alloc ?_ _ | refine Ext.more ?_ _ _ | refine Ext.drew ?_ | refine Ext.drewN ?_ _ | refine Ext.setCell ?_ (by simp <;> omega) _)))
  go_upto_region 7 with fail
  clear hmk k0 k1 k2 k3 lg p0 p1 p2 p3 lp r0 r1 lr o0 ol
  obtain ⟨k0, k1, k2, k3, lg, p0, p1, p2, p3, lp, r0, r1, lr⟩ := HG.out.ext HX0.out
  have o0 := (HO.out.to HX0.out).own.cell
  have ol := (HO.out.to HX0.out).own.lt
  have y0 := ext_cell x0 xl HX0.out
  have yl := Nat.lt_of_lt_of_le xl HX0.out.size
  have HLL : Hid (W2.heap.size ≤ lb ∧ ob ≠ lb) := Lib.hid ⟨by omega, by have := HO.out.own.lt; omega⟩
  clear hlb hV0 x0 xl
  go_wp2_with fail
  refine wp_loop_rounds 2 ?_
  rw [rounds_succ]
  obtain ⟨V1, hV1⟩ : ∃ V, V0.setCell ⟨lb, 1, none⟩ (.bool true) = V := ⟨_, rfl⟩
  have HL1 : Hid (V1.heap[lb]? = some (.cells #[.bool false, .bool true] 4)) := Lib.hid (by rw [← hV1]; exact setCell_row HL0.out _)
  have l1 := cell_of_row _ _ 1 _ _ _ HL0.out
  have ll := lt_of_heap HL0.out
  have lf := row_frozen HL0.out 1
  go_upto_region 9 with fail
  have HO1 := Lib.hid ((HO.out.to HX0.out).own.other (Nat.le_trans HO.out.own.ext.size HLL.out.1) (Ne.symm HLL.out.2) hV1)
  have HX1 : Hid (Ext W2 V1) := Lib.hid (by rw [← hV1]; exact HX0.out.setCell HLL.out.1 _)
  clear hV1 l1 ll lf o0 ol y0 yl k0 k1 k2 k3 lg p0 p1 p2 p3 lp r0 r1 lr
  have o0 := HO1.out.cell
  have ol := HO1.out.lt
  go_wp2_with fail
  rw [rounds_succ]
  go_upto_region 16 with fail
  obtain ⟨i6, hi, hz0, hz1, hz2⟩ := info_parts infoBools
  have HC : Hid (CellsAt (V1.alloc (.cells #[.slice (some ⟨lb, 0, none⟩) 2 2] 128)) (some ⟨V1.heap.size, 0, none⟩) [.slice (some ⟨lb, 0, none⟩) 2 2]) := Lib.hid (cells_lit V1 128 V1.heap.size #[.slice (some ⟨lb, 0, none⟩) 2 2] [.slice (some ⟨lb, 0, none⟩) 2 2] rfl rfl)
  clear o0 ol
  go_wp2_with (at_builtin; refine wpList_append_cells _ (by rfl) (.tmp 56) (.tmp 58) 109 rfl W2.heap.size 128 i6 _ 1 24 Tryz.underlying109 hi hz0 hz1 hz2 rfl (by omega) nil0 0 [] rfl (World.ownsRow_nil _ _ _ _) (some ⟨V1.heap.size, 0, none⟩) 1 1 [.slice (some ⟨lb, 0, none⟩) 2 2] rfl (by intro h; cases h) rfl HC.out (by intro u hu; obtain rfl := List.mem_singleton.1 hu; rfl) (by unfold maxLen; omega) (by omega) (by have := HX1.out.size; simp <;> omega) ?_; intro v5 w5 ho5 hg5 hat5)
  have X5 : Ext V1 w5 := ((by repeat (first | exact Ext.refl _ | refine Ext.alloc ?_ _ | refine Ext.more ?_ _ _ | refine Ext.drew ?_ | refine Ext.drewN ?_ _ | refine Ext.setCell ?_ (by simp <;> omega) _)) : Ext V1 (V1.alloc (.cells #[.slice (some ⟨lb, 0, none⟩) 2 2] 128))).grown hg5 (fun g hg => by cases hg)
  obtain ⟨A5, c5, rfl, hc5, _⟩ := own_cells ho5
  obtain ⟨g, og, rfl, hg, hcc⟩ := hc5 (by simp)
  have HXF := Lib.hid (HX1.out.trans X5)
  have hl5 := ext_block HL1.out X5
  have HN : Hid (NextRd w5 (.slice (some ⟨g, og, none⟩) 1 c5) g og lb c5 2) := Lib.hid ⟨rfl, hg, hcc 0 _ rfl, lt_of_heap hl5, cell_of_row _ _ 0 _ _ _ hl5, cell_of_row _ _ 1 _ _ _ hl5⟩
  have HO5 := Lib.hid (HO1.out.to X5)
  clear hi hz0 hz1 hz2 ho5 hg5 hat5 hcc hc5 X5 hl5
  have o0 := HO5.out.cell
  have ol := HO5.out.lt
  rw [rounds_succ]
  go_wp2_with fail
  go_ret
  exact ⟨_, g, og, lb, c5, 2, rfl, HN.out, HX.out.trans (HO.out.own.ext.trans HXF.out)⟩
end Go.Proofs.YthpmncdfaggkiaaGreat
/- viewportref14.table of the grammar of words. -/
namespace Go.Proofs.YthpmncdfaggkiaaGreat
open Go.RowKit
attribute [local go_sem] more_drew more_drewN more_size more_cell more_frozen more_setCell drew_more drewN_more lt_add_r lt_add_r2 lt_add_r3 lt_add_r4 lt_add_r5 lt_add_r6 lt_add_r7 lt_add_r8 lt_add_r9 lt_add_r10 lt_self_r lt_self_r2
/-- a table's rows -/
def TabRd (w : World) (tv : Value) : Prop := ∃ g og c v0 v1 cs, tv = .slice (some ⟨g, og, none⟩) 2 c ∧ w.heap[g]? = some (.cells cs 161) ∧ w.cell? ⟨g, og, none⟩ = some v0 ∧ w.cell? ⟨g, og + 1, none⟩ = some v1 ∧ StrV w v0 [tx 0] ∧ StrV w v1 [tx 255]
theorem TabRd.turn {w w' : World} {tv : Value} {S : Nat → Prop} (h : TabRd w tv) (t : Turn S w w') (hS : ∀ (g : Nat) (cs : Array Value) (T : TypeId), w.heap[g]? = some (.cells cs T) → T = 161 ∨ T = 9 → ¬ S g) : TabRd w' tv := by
  obtain ⟨g, og, c, v0, v1, cs, h1, h2, h3, h4, h5, h6⟩ := h
  have hk := t.block g (lt_of_heap h2) (hS g cs _ h2 (.inl rfl))
  exact ⟨g, og, c, v0, v1, cs, h1, t.keep h2 (hS g cs _ h2 (.inl rfl)), (World.cell?_of_block (w := w) (a := ⟨g, og, none⟩) hk).trans h3, (World.cell?_of_block (w := w) (a := ⟨g, og + 1, none⟩) hk).trans h4, h5.turn t (fun g cs hg => hS g cs _ hg (.inr rfl)), h6.turn t (fun g cs hg => hS g cs _ hg (.inr rfl))⟩
theorem TabRd.ext {w w' : World} {tv : Value} (h : TabRd w tv) (e : Ext w w') : TabRd w' tv := h.turn (Turn.of_ext (S := fun _ => False) e) (fun _ _ _ _ _ h => h)
/-- a table under way -/
structure TabI (w0 w : World) (tb : Nat) (row : Value) (vs : List Value) (ss : List (List ByteArray)) : Prop where
  blk : w.heap[tb]? = some (.cells #[row] 103)
  low : w0.heap.size ≤ tb
  own : w.ownsRow w0.heap.size 161 1 row vs.length vs
  ext : Ext w0 w
  len : ss.length = vs.length
  strs : ∀ (i : Nat) (v : Value) (s : List ByteArray), vs[i]? = some v → ss[i]? = some s → StrV w v s
section
variable {w0 w w2 : World} {tb : Nat} {row row' v : Value} {vs : List Value} {ss : List (List ByteArray)} {s : List ByteArray}
theorem TabI.to (h : TabI w0 w tb row vs ss) (e : Ext w w2) : TabI w0 w2 tb row vs ss := ⟨ext_block h.blk e, h.low, own_ext h.own e, h.ext.trans e, h.len, fun i v s h1 h2 => (h.strs i v s h1 h2).ext e⟩
theorem TabI.app (h : TabI w0 w tb row vs ss) (hu : StrV w v s) (ho : w2.ownsRow w0.heap.size 161 1 row' (vs.length + 1) (vs ++ [v])) (hg : w.grownBy w2 row.ownBlock) (hat : row'.ownBlock = row.ownBlock ∨ row'.ownBlock = some w.heap.size) : (∀ g : Nat, g < w0.heap.size → w2.heap[g]? = w.heap[g]?) ∧ (∀ (g : Nat) (cs : Array Value) (T : TypeId), w.heap[g]? = some (.cells cs T) → T ≠ 161 → w2.heap[g]? = some (.cells cs T)) ∧ TabI w0 (w2.setCell ⟨tb, 0, none⟩ row') tb row' (vs ++ [v]) (ss ++ [s]) := by
  have T : Turn (fun g => row.ownBlock = some g) w w2 := Turn.grown hg (fun g hg _ => hg)
  have k2 : ∀ (g : Nat) (cs : Array Value) (T : TypeId), w.heap[g]? = some (.cells cs T) → T ≠ 161 → w2.heap[g]? = some (.cells cs T) := fun g cs U hgc hne => T.keep hgc (fun hh => by
    obtain ⟨cur, hcur⟩ := own_obj h.own g hh
    rw [hgc] at hcur
    injection hcur with hcur
    injection hcur with _ hcur
    exact hne hcur)
  have hb2 := k2 tb _ _ h.blk (by decide)
  have T2 : Turn (fun k => k = tb) w2 (w2.setCell ⟨tb, 0, none⟩ row') := Turn.set1 _ _ _
  have S2 : ∀ {v s}, StrV w v s → StrV (w2.setCell ⟨tb, 0, none⟩ row') v s := fun hs => (hs.turn T (fun g cs hgc hh => by
    obtain ⟨cur, hcur⟩ := own_obj h.own g hh
    exact ne_type hgc hcur (by decide) rfl)).turn T2 (fun g cs hgc he => ne_type hgc hb2 (by decide) he)
  refine ⟨fun g hgl => T.block g (Nat.lt_of_lt_of_le hgl h.ext.size) (fun hh => by have := own_block h.own g hh; omega), k2, setCell_row hb2 row', h.low, ?_, ?_, by simp [h.len], fun i v' s' h1 h2 => ?_⟩
  · rw [List.length_append]
    exact row_keepD hb2 T2 ho (by decide)
  · exact T2.ext (T.ext h.ext (fun k hk => own_block h.own k hk)) (fun k hk => by have := h.low; omega)
  · by_cases hi : i < vs.length
    · rw [List.getElem?_append_left hi] at h1
      rw [List.getElem?_append_left (by rw [h.len]; exact hi)] at h2
      exact S2 (h.strs i v' s' h1 h2)
    · obtain rfl : i = vs.length := by
        have := (List.getElem?_eq_some_iff.1 h1).1
        simp at this
        omega
      rw [List.getElem?_append_right (Nat.le_refl _), Nat.sub_self] at h1
      rw [List.getElem?_append_right (by rw [h.len]; exact Nat.le_refl _), h.len, Nat.sub_self] at h2
      simp at h1 h2
      subst h1 h2
      exact S2 hu
end
set_option maxRecDepth 100000 in
set_option maxHeartbeats 4000000 in
theorem table_gram (a b : Nat) (C : Option Addr) (c d e : Nat) (w : World) (h : GrRd w a b C d e) (hd : d = 2) : Calls Tryz.prog 105 #[gramV a c] w fun e w' => ∃ tv, e = .returned (.agg #[tv]) ∧ TabRd w' tv ∧ Ext w w' := by
  obtain ⟨g0, W, hg0, hW, X1, hat⟩ := gr_enter w c h
  obtain ⟨W1, hW1⟩ : ∃ V, W.alloc (.cells #[nil0] 103) = V := ⟨_, rfl⟩
  have XW1 : Ext W W1 := by rw [← hW1]; exact (by repeat (first | exact Ext.refl _ | refine Ext.alloc ?_ _ | refine Ext.more ?_ _ _ | refine Ext.drew ?_ | refine Ext.drewN ?_ _ | refine Ext.setCell ?_ (by simp <;> omega) _))
  have HG := Lib.hid (hat.ext XW1)
  have hgs : W.heap.size = g0 + 1 := by rw [← hW, ← hg0]; simp
  have HRB : Hid (W1.heap[g0 + 1]? = some (.cells #[nil0] 103)) := Lib.hid (by rw [← hW1, ← hgs]; exact heap_alloc_new _ _)
  have HX := Lib.hid (X1.trans XW1)
  have HRL : Hid (w.heap.size ≤ g0 + 1) := Lib.hid (by omega)
  have HFS := Lib.hid (fun w1 (e1 : Ext W1 w1) => first_sets a b C c d e w1 ((h.ext (X1.trans XW1)).ext e1))
  have HFO := Lib.hid (fun w1 (e1 : Ext W1 w1) => follow_sets a b C c d e w1 ((h.ext (X1.trans XW1)).ext e1) hd)
  clear h X1 hat XW1
  subst hd
  unfold gramV at HFS HFO ⊢
  go_enter Tryz.func105, Tryz.ntmps105
  go_upto_region 1 with fail
  try simp only [hg0]
  try simp only [hgs]
  try simp only [hW1]
  clear hW hg0 hgs hW1
  obtain ⟨k0, k1, k2, k3, lg, p0, p1, p2, p3, lp, r0, r1, lr⟩ := HG.out
  refine wp_region_bt (6) (softs_bt [0, 2] (.step 1 (.step 3 (pures_bt [4, 5] .fin)))) (by kernel_rfl) (by kernel_rfl) ?_
  (refine bt_softs _ fun K hK => ?_); (simp only [pick, nthC]); (repeat (go_big_quiet_step (fail))); (refine wpQuiet_nil (hK _ ?_)); (clear hK K)
  (refine bt_step fun next hn => ?_); (simp only [pick, nthC])
  go_wp2_with fail
  refine (HFS.out _ (by repeat (first | exact Ext.refl _ | refine Ext.alloc ?_ _ | refine Ext.more ?_ _ _ | refine Ext.drew ?_ | refine Ext.drewN ?_ _ | refine Ext.setCell ?_ (by simp <;> omega) _))).mono ?_
  rintro e' W2 ⟨fb, vF, rfl, hf⟩
  have HF2 : Hid (SetOwn W1 W2 fb vF [tz, tx 0]) := Lib.hid ⟨⟨hf.own.blk, Ext.trans (by repeat (first | exact Ext.refl _ | refine Ext.alloc ?_ _ | refine Ext.more ?_ _ _ | refine Ext.drew ?_ | refine Ext.drewN ?_ _ | refine Ext.setCell ?_ (by simp <;> omega) _)) hf.own.ext, hf.own.low⟩, hf.str⟩
  clear hf HFS
  go_wp2_with fail
  refine segQ_mk (fun _ => laid HF2.out.own.ext) (hn _ _ ?_)
  clear hn next
  (refine bt_step fun next hn => ?_); (simp only [pick, nthC])
  go_wp2_with fail
  refine (HFO.out _ HF2.out.own.ext).mono ?_
  rintro e' V2 ⟨ob, vO, rfl, hf⟩
  have HO2 := Lib.hid hf
  have HF3 := Lib.hid (HF2.out.to hf.own.ext)
  clear hf HFO HF2
  go_wp2_with fail
  refine segQ_mk (fun _ => laid HF3.out.own.ext) (hn _ _ ?_)
  clear hn next k0 k1 k2 k3 lg p0 p1 p2 p3 lp r0 r1 lr
  (refine bt_pures _ fun K hK => ?_); (simp only [pick, nthC]); (repeat (go_big_quiet_step (fail))); (refine wpQuiet_nil (hK _ ?_)); (clear hK K)
  (refine bt_fin ?_)
  obtain ⟨og, oo, oc, rfl, ox, oxl⟩ := strV_one HO2.out.str
  clear ox oxl
  obtain ⟨tb, htb⟩ : ∃ ob, V2.heap.size = ob := ⟨_, rfl⟩
  obtain ⟨Vb, hVb⟩ : ∃ V, V2.alloc (.cells #[nil0] 103) = V := ⟨_, rfl⟩
  obtain ⟨S0, hS0⟩ : ∃ V, Vb.setCell ⟨tb, 0, none⟩ nil0 = V := ⟨_, rfl⟩
  have hB : Vb.heap[tb]? = some (.cells #[nil0] 103) := by rw [← hVb, ← htb]; exact heap_alloc_new _ _
  have HT0 : Hid (TabI V2 S0 tb nil0 [] []) := Lib.hid ⟨by rw [← hS0]; exact setCell_row hB _, by omega, World.ownsRow_nil _ _ _ _, by rw [← hS0, ← hVb]; exact ((by repeat (first | exact Ext.refl _ | refine Ext.alloc ?_ _ | refine Ext.more ?_ _ _ | refine Ext.drew ?_ | refine Ext.drewN ?_ _ | refine Ext.setCell ?_ (by simp <;> omega) _)) : Ext V2 (V2.alloc (.cells #[nil0] 103))).setCell (by show _ ≤ tb; omega) _, rfl, fun i v s h => by simp at h⟩
  have u0 := cell_of_row _ _ 0 _ _ _ hB
  have uf := row_frozen hB 0
  have ul := lt_of_heap hB
  go_wp2_with fail
  clear htb hVb hS0 hB u0 uf ul
  obtain ⟨i6, hi6, hz0, hz1, hz2⟩ := info_parts infoTexts
  have HI := Lib.hid hi6
  have HZ0 := Lib.hid hz0
  have HZ1 := Lib.hid hz1
  have HZ2 := Lib.hid hz2
  clear hi6 hz0 hz1 hz2
  refine wp_loop_rounds 3 ?_
  rw [rounds_succ]
  obtain ⟨k0, k1, k2, k3, lg, p0, p1, p2, p3, lp, r0, r1, lr⟩ := HG.out.ext (HF3.out.own.ext.trans HT0.out.ext)
  obtain ⟨pb, Wb, P0, hpb, hWb, hW4, z0, z1, zf, zl, hq, X4⟩ := prod_copy2 S0 (.slice (some ⟨b, 0, none⟩) 2 2)
  have hpB : P0.heap[pb]? = some (.cells #[.int .i64 0, .slice (some ⟨b, 0, none⟩) 2 2] 92) := by rw [← hW4, ← hWb, ← hpb]; exact put2_at (heap_alloc_new _ _) _ _
  have HPB := Lib.hid hpB
  have HTp := Lib.hid (HT0.out.to X4)
  clear X4 hpB
  go_upto_region 7 with fail
  try simp only [hpb, hWb, hW4]
  clear hpb hWb hW4 z0 z1 zf zl k0 k1 k2 k3 lg p0 p1 p2 p3 lp r0 r1 lr
  obtain ⟨k0, k1, k2, k3, lg, p0, p1, p2, p3, lp, r0, r1, lr⟩ := HG.out.ext (HF3.out.own.ext.trans HTp.out.ext)
  obtain ⟨q0, q1, ql⟩ := hq
  have t0 := cell_of_row _ _ 0 _ _ _ HTp.out.blk
  have tl := lt_of_heap HTp.out.blk
  have o0 := (HO2.out.to HTp.out.ext).own.cell
  have ol := (HO2.out.to HTp.out.ext).own.lt
  have HLT : Hid (∀ k ∈ [g0, pb, tb, ob], k < P0.heap.size) := Lib.hid (by simp; exact ⟨lg, ql, tl, ol⟩)
  have HLW : Hid (g0 < V2.heap.size ∧ ob < V2.heap.size) := Lib.hid ⟨(HG.out.ext HF3.out.own.ext).lg, HO2.out.own.lt⟩
  have kx0 := fun x : EdL P0 [g0, pb, tb, ob] => x.cell (by simp) k0
  have kx1 := fun x : EdL P0 [g0, pb, tb, ob] => x.cell (by simp) k1
  have kx2 := fun x : EdL P0 [g0, pb, tb, ob] => x.cell (by simp) k2
  have kx3 := fun x : EdL P0 [g0, pb, tb, ob] => x.cell (by simp) k3
  have kx4 := fun x : EdL P0 [g0, pb, tb, ob] => x.cell (by simp) q0
  have kx5 := fun x : EdL P0 [g0, pb, tb, ob] => x.cell (by simp) q1
  have kx6 := fun x : EdL P0 [g0, pb, tb, ob] => x.cell (by simp) t0
  have kx7 := fun x : EdL P0 [g0, pb, tb, ob] => x.cell (by simp) o0
  have kx8 := fun x : EdL P0 [g0, pb, tb, ob] => x.lt (by simp) lg
  have kx9 := fun x : EdL P0 [g0, pb, tb, ob] => x.lt (by simp) ql
  have kxa := fun x : EdL P0 [g0, pb, tb, ob] => x.lt (by simp) tl
  have kxb := fun x : EdL P0 [g0, pb, tb, ob] => x.lt (by simp) ol
  have HOF := Lib.hid (fun w1 (e1 : Ext P0 w1) => Of_two a b C c 2 e fb _ _ 1 2 w1 ((HG.out.ext (HF3.out.own.ext.trans HTp.out.ext)).ext e1).rd ((HF3.out.rd.ext HTp.out.ext).ext e1))
  have HCT := Lib.hid (fun vo w1 (hvo : StrV w1 vo (ofF [tz, tx 0])) (_ : Ext P0 w1) => cat_whole vo 0 (some ⟨og, oo, none⟩) 1 oc w1 hvo (by omega))
  unfold gramV at HOF
  clear k0 k1 k2 k3 lg p0 p1 p2 p3 lp r0 r1 lr q0 q1 ql t0 tl o0 ol
  refine wp_region_btC (T := EdL P0 [g0, pb, tb, ob]) EdL.V (18) (pures_bt [0, 2, 5, 6, 9, 10] (softs_bt [1, 3, 4, 7, 11, 12, 13] (.step 8 (.step 14 (.step 15 (.step 16 (pures_bt [17] (.step 18 .fin)))))))) (by kernel_rfl) (by kernel_rfl) ⟨⟨P0.drew, fun _ _ => rfl⟩, rfl⟩ ?_
  (refine bt_pures _ fun K hK => ?_); (simp only [pick, nthC]); (repeat (go_big_quiet_step (fail))); (refine wpQuiet_nil (hK _ ?_)); (clear hK K)
  (refine bt_softs _ fun K hK => ?_); (simp only [pick, nthC]); (repeat (go_big_quiet_step (fail))); (refine wpQuiet_nil (hK _ ?_)); (clear hK K)
  clear kx0 kx1 kx2 kx3 kx4 kx5 kx6 kx7 kx8 kx9 kxa kxb
  (refine bt_step fun next hn => ?_); (simp only [pick, nthC])
  go_wp2_with fail
  refine (HOF.out _ (by repeat (first | exact Ext.refl _ | refine Ext.alloc ?_ _ | refine Ext.more ?_ _ _ | refine Ext.drew ?_ | refine Ext.drewN ?_ _ | refine Ext.setCell ?_ (by simp <;> omega) _))).mono ?_
  rintro e' Q0 ⟨vo, rfl, hvo, hxo⟩
  have HXo : Hid (Ext P0 Q0) := Lib.hid (Ext.trans (by repeat (first | exact Ext.refl _ | refine Ext.alloc ?_ _ | refine Ext.more ?_ _ _ | refine Ext.drew ?_ | refine Ext.drewN ?_ _ | refine Ext.setCell ?_ (by simp <;> omega) _)) hxo)
  have HCC := Lib.hid (HCT.out vo Q0 hvo HXo.out)
  clear hxo hvo HOF HCT
  go_wp2_with fail
  refine segQ_mk (fun _ => edL_ext (fun _ _ => rfl) HXo.out HLT.out) (hn _ _ ?_)
  clear hn next
  (refine bt_step fun next hn => ?_); (simp only [pick, nthC])
  go_wp2_with fail
  refine HCC.out.mono ?_
  rintro e' R0 ⟨vcx, rfl, hvc, hxc⟩
  obtain ⟨Ac0, cc0, rfl⟩ := hvc.at (n := 1) (by rfl)
  have HXc : Hid (Ext P0 R0) := Lib.hid (HXo.out.trans hxc)
  have HVC := Lib.hid hvc
  clear hxc hvc HCC HXo
  go_wp2_with fail
  refine segQ_mk (fun _ => edL_ext (fun _ _ => rfl) HXc.out HLT.out) (hn _ _ ?_)
  clear hn next
  (refine bt_step fun next hn => ?_); (simp only [pick, nthC])
  go_wp2_with fail
  refine segQ_mk (fun _ => edL_ext (fun _ _ => rfl) (HXc.out.trans ((by repeat (first | exact Ext.refl _ | refine Ext.alloc ?_ _ | refine Ext.more ?_ _ _ | refine Ext.drew ?_ | refine Ext.drewN ?_ _ | refine Ext.setCell ?_ (by simp <;> omega) _)) : Ext R0 _)) HLT.out) (hn _ _ ?_)
  clear hn next
  obtain ⟨nb, hnb⟩ : ∃ nb, R0.heap.size = nb := ⟨_, rfl⟩
  have HC0 := cells_lit R0 161 R0.heap.size #[(.slice Ac0 1 cc0)] [(.slice Ac0 1 cc0)] rfl rfl
  obtain ⟨N0, hN⟩ : ∃ V, R0.alloc (.cells #[(.slice Ac0 1 cc0)] 161) = V := ⟨_, rfl⟩
  rw [hN, hnb] at HC0
  have HC := Lib.hid HC0
  have HXn : Hid (Ext P0 N0) := Lib.hid (by rw [← hN]; exact HXc.out.trans (by repeat (first | exact Ext.refl _ | refine Ext.alloc ?_ _ | refine Ext.more ?_ _ _ | refine Ext.drew ?_ | refine Ext.drewN ?_ _ | refine Ext.setCell ?_ (by simp <;> omega) _)))
  have HVN : Hid (StrV N0 (.slice Ac0 1 cc0) [tx 0]) := Lib.hid (HVC.out.ext (by rw [← hN]; exact (by repeat (first | exact Ext.refl _ | refine Ext.alloc ?_ _ | refine Ext.more ?_ _ _ | refine Ext.drew ?_ | refine Ext.drewN ?_ _ | refine Ext.setCell ?_ (by simp <;> omega) _))))
  have HONE : Hid ((Value.slice Ac0 1 cc0).oneCell' = true) := Lib.hid rfl
  have HTn := Lib.hid (HTp.out.to HXn.out)
  try simp only [hN, hnb]
  clear hN hnb HC0 HXc HVC
  (refine bt_step fun next hn => ?_); (simp only [pick, nthC])
  go_wp2_with (at_builtin; refine wpList_append_cells _ (by rfl) (.tmp 26) (.tmp 40) 101 rfl V2.heap.size 161 i6 _ 1 24 Tryz.underlying101 HI.out HZ0.out HZ1.out HZ2.out rfl (by omega) nil0 0 [] rfl HTn.out.own (some ⟨nb, 0, none⟩) 1 1 [(.slice Ac0 1 cc0)] rfl (by intro h; cases h) rfl HC.out (by intro u hu; obtain rfl := List.mem_singleton.1 hu; exact HONE.out) (by unfold maxLen; omega) (by omega) (HTn.out.ext.size) ?_; intro v5 w5 ho5 hg5 hat5)
  obtain ⟨A0, c0, rfl, _⟩ := own_cells ho5
  obtain ⟨hk1, hk2, ht5⟩ := HTn.out.app HVN.out ho5 hg5 hat5
  have hB5 := hk2 tb _ _ HTn.out.blk (by decide)
  have hsame : ∀ k ∈ [g0, pb, tb, ob], w5.heap[k]? = P0.heap[k]? := by
    intro k hk
    refine Eq.trans ?_ (HXn.out.below.block k (HLT.out k hk))
    simp at hk
    rcases hk with rfl | rfl | rfl | rfl
    · exact hk1 _ HLW.out.1
    · exact (hk2 _ _ _ (ext_block HPB.out HXn.out) (by decide)).trans (ext_block HPB.out HXn.out).symm
    · exact hB5.trans HTn.out.blk.symm
    · exact hk1 _ HLW.out.2
  refine segQ_mk (fun _ => ⟨⟨w5, hsame⟩, rfl⟩) (hn _ _ ?_)
  clear hn next hsame hk1 hk2
  have t0 := cell_of_row _ _ 0 _ _ _ hB5
  have tl := lt_of_heap hB5
  have tf := row_frozen hB5 0
  obtain ⟨S1, hM⟩ : ∃ V, w5.setCell ⟨tb, 0, none⟩ (.slice A0 1 c0) = V := ⟨_, rfl⟩
  have ht6 : TabI V2 S1 tb (.slice A0 1 c0) [.slice Ac0 1 cc0] [[tx 0]] := hM ▸ ht5
  have HT1 := Lib.hid ht6
  clear ht5 ht6 ho5 hg5 hat5 hB5
  (refine bt_pures _ fun K hK => ?_); (simp only [pick, nthC]); (repeat (go_big_quiet_step (fail))); (refine wpQuiet_nil (hK _ ?_)); (clear hK K)
  (refine bt_step fun next hn => ?_); (simp only [pick, nthC])
  go_wp2_with fail
  refine segQ_mk (fun h => absurd rfl h) (hn _ _ ?_)
  clear hn next
  (refine bt_fin ?_)
  try simp only [hM]
  clear hM t0 tl tf HTn HC HXn HVN HTp HPB HLT HLW
  go_wp2_with fail
  rw [rounds_succ]
  obtain ⟨k0, k1, k2, k3, lg, p0, p1, p2, p3, lp, r0, r1, lr⟩ := HG.out.ext (HF3.out.own.ext.trans HT1.out.ext)
  obtain ⟨pb, Wb, P1, hpb, hWb, hW4, z0, z1, zf, zl, hq, X4⟩ := prod_copy2 S1 (.slice C 0 e)
  have hpB : P1.heap[pb]? = some (.cells #[.int .i64 0, .slice C 0 e] 92) := by rw [← hW4, ← hWb, ← hpb]; exact put2_at (heap_alloc_new _ _) _ _
  have HPB := Lib.hid hpB
  have HTp := Lib.hid (HT1.out.to X4)
  clear X4 hpB
  go_upto_region 7 with fail
  try simp only [hpb, hWb, hW4]
  clear hpb hWb hW4 z0 z1 zf zl k0 k1 k2 k3 lg p0 p1 p2 p3 lp r0 r1 lr
  obtain ⟨k0, k1, k2, k3, lg, p0, p1, p2, p3, lp, r0, r1, lr⟩ := HG.out.ext (HF3.out.own.ext.trans HTp.out.ext)
  obtain ⟨q0, q1, ql⟩ := hq
  have t0 := cell_of_row _ _ 0 _ _ _ HTp.out.blk
  have tl := lt_of_heap HTp.out.blk
  have o0 := (HO2.out.to HTp.out.ext).own.cell
  have ol := (HO2.out.to HTp.out.ext).own.lt
  have HLT : Hid (∀ k ∈ [g0, pb, tb, ob], k < P1.heap.size) := Lib.hid (by simp; exact ⟨lg, ql, tl, ol⟩)
  have HLW : Hid (g0 < V2.heap.size ∧ ob < V2.heap.size) := Lib.hid ⟨(HG.out.ext HF3.out.own.ext).lg, HO2.out.own.lt⟩
  have kx0 := fun x : EdL P1 [g0, pb, tb, ob] => x.cell (by simp) k0
  have kx1 := fun x : EdL P1 [g0, pb, tb, ob] => x.cell (by simp) k1
  have kx2 := fun x : EdL P1 [g0, pb, tb, ob] => x.cell (by simp) k2
  have kx3 := fun x : EdL P1 [g0, pb, tb, ob] => x.cell (by simp) k3
  have kx4 := fun x : EdL P1 [g0, pb, tb, ob] => x.cell (by simp) q0
  have kx5 := fun x : EdL P1 [g0, pb, tb, ob] => x.cell (by simp) q1
  have kx6 := fun x : EdL P1 [g0, pb, tb, ob] => x.cell (by simp) t0
  have kx7 := fun x : EdL P1 [g0, pb, tb, ob] => x.cell (by simp) o0
  have kx8 := fun x : EdL P1 [g0, pb, tb, ob] => x.lt (by simp) lg
  have kx9 := fun x : EdL P1 [g0, pb, tb, ob] => x.lt (by simp) ql
  have kxa := fun x : EdL P1 [g0, pb, tb, ob] => x.lt (by simp) tl
  have kxb := fun x : EdL P1 [g0, pb, tb, ob] => x.lt (by simp) ol
  have HOF := Lib.hid (fun w1 (e1 : Ext P1 w1) => Of_nil a b C c 2 e (some ⟨fb, 0, none⟩) C 1 e w1 ((HG.out.ext (HF3.out.own.ext.trans HTp.out.ext)).ext e1).rd)
  have HCT := Lib.hid (fun vo w1 (hvo : StrV w1 vo [tz]) (e1 : Ext P1 w1) => cat_eps vo _ 255 w1 hvo ((HO2.out.to HTp.out.ext).to e1).str)
  unfold gramV at HOF
  clear k0 k1 k2 k3 lg p0 p1 p2 p3 lp r0 r1 lr q0 q1 ql t0 tl o0 ol
  refine wp_region_btC (T := EdL P1 [g0, pb, tb, ob]) EdL.V (18) (pures_bt [0, 2, 5, 6, 9, 10] (softs_bt [1, 3, 4, 7, 11, 12, 13] (.step 8 (.step 14 (.step 15 (.step 16 (pures_bt [17] (.step 18 .fin)))))))) (by kernel_rfl) (by kernel_rfl) ⟨⟨P1.drew, fun _ _ => rfl⟩, rfl⟩ ?_
  (refine bt_pures _ fun K hK => ?_); (simp only [pick, nthC]); (repeat (go_big_quiet_step (fail))); (refine wpQuiet_nil (hK _ ?_)); (clear hK K)
  (refine bt_softs _ fun K hK => ?_); (simp only [pick, nthC]); (repeat (go_big_quiet_step (fail))); (refine wpQuiet_nil (hK _ ?_)); (clear hK K)
  clear kx0 kx1 kx2 kx3 kx4 kx5 kx6 kx7 kx8 kx9 kxa kxb
  (refine bt_step fun next hn => ?_); (simp only [pick, nthC])
  go_wp2_with fail
  refine (HOF.out _ (by repeat (first | exact Ext.refl _ | refine Ext.alloc ?_ _ | refine Ext.more ?_ _ _ | refine Ext.drew ?_ | refine Ext.drewN ?_ _ | refine Ext.setCell ?_ (by simp <;> omega) _))).mono ?_
  rintro e' Q1 ⟨vo, rfl, hvo, hxo⟩
  have HXo : Hid (Ext P1 Q1) := Lib.hid (Ext.trans (by repeat (first | exact Ext.refl _ | refine Ext.alloc ?_ _ | refine Ext.more ?_ _ _ | refine Ext.drew ?_ | refine Ext.drewN ?_ _ | refine Ext.setCell ?_ (by simp <;> omega) _)) hxo)
  have HCC := Lib.hid (HCT.out vo Q1 hvo HXo.out)
  clear hxo hvo HOF HCT
  go_wp2_with fail
  refine segQ_mk (fun _ => edL_ext (fun _ _ => rfl) HXo.out HLT.out) (hn _ _ ?_)
  clear hn next
  (refine bt_step fun next hn => ?_); (simp only [pick, nthC])
  go_wp2_with fail
  refine HCC.out.mono ?_
  rintro e' R1 ⟨vcx, rfl, hvc, hxc⟩
  obtain ⟨Ac1, cc1, rfl⟩ := hvc.at (n := 1) (by rfl)
  have HXc : Hid (Ext P1 R1) := Lib.hid (HXo.out.trans hxc)
  have HVC := Lib.hid hvc
  clear hxc hvc HCC HXo
  go_wp2_with fail
  refine segQ_mk (fun _ => edL_ext (fun _ _ => rfl) HXc.out HLT.out) (hn _ _ ?_)
  clear hn next
  (refine bt_step fun next hn => ?_); (simp only [pick, nthC])
  go_wp2_with fail
  refine segQ_mk (fun _ => edL_ext (fun _ _ => rfl) (HXc.out.trans ((by repeat (first | exact Ext.refl _ | refine Ext.alloc ?_ _ | refine Ext.more ?_ _ _ | refine Ext.drew ?_ | refine Ext.drewN ?_ _ | refine Ext.setCell ?_ (by simp <;> omega) _)) : Ext R1 _)) HLT.out) (hn _ _ ?_)
  clear hn next
  obtain ⟨nb, hnb⟩ : ∃ nb, R1.heap.size = nb := ⟨_, rfl⟩
  have HC0 := cells_lit R1 161 R1.heap.size #[(.slice Ac1 1 cc1)] [(.slice Ac1 1 cc1)] rfl rfl
  obtain ⟨N1, hN⟩ : ∃ V, R1.alloc (.cells #[(.slice Ac1 1 cc1)] 161) = V := ⟨_, rfl⟩
  rw [hN, hnb] at HC0
  have HC := Lib.hid HC0
  have HXn : Hid (Ext P1 N1) := Lib.hid (by rw [← hN]; exact HXc.out.trans (by repeat (first | exact Ext.refl _ | refine Ext.alloc ?_ _ | refine Ext.more ?_ _ _ | refine Ext.drew ?_ | refine Ext.drewN ?_ _ | refine Ext.setCell ?_ (by simp <;> omega) _)))
  have HVN : Hid (StrV N1 (.slice Ac1 1 cc1) [tx 255]) := Lib.hid (HVC.out.ext (by rw [← hN]; exact (by repeat (first | exact Ext.refl _ | refine Ext.alloc ?_ _ | refine Ext.more ?_ _ _ | refine Ext.drew ?_ | refine Ext.drewN ?_ _ | refine Ext.setCell ?_ (by simp <;> omega) _))))
  have HONE : Hid ((Value.slice Ac1 1 cc1).oneCell' = true) := Lib.hid rfl
  have HTn := Lib.hid (HTp.out.to HXn.out)
  try simp only [hN, hnb]
  clear hN hnb HC0 HXc HVC
  (refine bt_step fun next hn => ?_); (simp only [pick, nthC])
  go_wp2_with (at_builtin; refine wpList_append_cells _ (by rfl) (.tmp 26) (.tmp 40) 101 rfl V2.heap.size 161 i6 _ 1 24 Tryz.underlying101 HI.out HZ0.out HZ1.out HZ2.out rfl (by omega) (.slice A0 1 c0) 1 [.slice Ac0 1 cc0] rfl HTn.out.own (some ⟨nb, 0, none⟩) 1 1 [(.slice Ac1 1 cc1)] rfl (by intro h; cases h) rfl HC.out (by intro u hu; obtain rfl := List.mem_singleton.1 hu; exact HONE.out) (by unfold maxLen; omega) (by omega) (HTn.out.ext.size) ?_; intro v5 w5 ho5 hg5 hat5)
  obtain ⟨A1, c1, rfl, _⟩ := own_cells ho5
  obtain ⟨hk1, hk2, ht5⟩ := HTn.out.app HVN.out ho5 hg5 hat5
  have hB5 := hk2 tb _ _ HTn.out.blk (by decide)
  have hsame : ∀ k ∈ [g0, pb, tb, ob], w5.heap[k]? = P1.heap[k]? := by
    intro k hk
    refine Eq.trans ?_ (HXn.out.below.block k (HLT.out k hk))
    simp at hk
    rcases hk with rfl | rfl | rfl | rfl
    · exact hk1 _ HLW.out.1
    · exact (hk2 _ _ _ (ext_block HPB.out HXn.out) (by decide)).trans (ext_block HPB.out HXn.out).symm
    · exact hB5.trans HTn.out.blk.symm
    · exact hk1 _ HLW.out.2
  refine segQ_mk (fun _ => ⟨⟨w5, hsame⟩, rfl⟩) (hn _ _ ?_)
  clear hn next hsame hk1 hk2
  have t0 := cell_of_row _ _ 0 _ _ _ hB5
  have tl := lt_of_heap hB5
  have tf := row_frozen hB5 0
  obtain ⟨S2, hM⟩ : ∃ V, w5.setCell ⟨tb, 0, none⟩ (.slice A1 2 c1) = V := ⟨_, rfl⟩
  have ht6 : TabI V2 S2 tb (.slice A1 2 c1) [.slice Ac0 1 cc0, .slice Ac1 1 cc1] [[tx 0], [tx 255]] := hM ▸ ht5
  have HT2 := Lib.hid ht6
  clear ht5 ht6 ho5 hg5 hat5 hB5
  (refine bt_pures _ fun K hK => ?_); (simp only [pick, nthC]); (repeat (go_big_quiet_step (fail))); (refine wpQuiet_nil (hK _ ?_)); (clear hK K)
  (refine bt_step fun next hn => ?_); (simp only [pick, nthC])
  go_wp2_with fail
  refine segQ_mk (fun h => absurd rfl h) (hn _ _ ?_)
  clear hn next
  (refine bt_fin ?_)
  try simp only [hM]
  clear hM t0 tl tf HTn HC HXn HVN HTp HPB HLT HLW
  go_wp2_with fail
  rw [rounds_succ]
  have hB2 := ext_block HRB.out (HF3.out.own.ext.trans HT2.out.ext)
  have T3 : Turn (fun k => k = g0 + 1) S2 (S2.setCell ⟨g0 + 1, 0, none⟩ (.slice A1 2 c1)) := Turn.set1 _ _ _
  have HX3 : Hid (Ext w (S2.setCell ⟨g0 + 1, 0, none⟩ (.slice A1 2 c1))) := Lib.hid (T3.ext (HX.out.trans (HF3.out.own.ext.trans HT2.out.ext)) (fun k hk => by have := HRL.out; omega))
  have ho3 := row_keepD hB2 T3 HT2.out.own (by decide)
  have hv0 := (HT2.out.strs 0 _ _ rfl rfl).turn T3 (fun g cs hg he => ne_type hg hB2 (by decide) he)
  have hv1 := (HT2.out.strs 1 _ _ rfl rfl).turn T3 (fun g cs hg he => ne_type hg hB2 (by decide) he)
  have HTR : Hid (TabRd (S2.setCell ⟨g0 + 1, 0, none⟩ (.slice A1 2 c1)) (.slice A1 2 c1)) := Lib.hid (by
    obtain ⟨A, c, hA, hc, _⟩ := own_cells ho3
    obtain ⟨g, og, rfl, hg, hcc⟩ := hc (by simp)
    injection hA with hA _ hcc2
    subst hA
    obtain ⟨cs, hcs⟩ := own_obj ho3 g rfl
    exact ⟨g, og, c1, _, _, cs, rfl, hcs, hcc 0 _ rfl, hcc 1 _ rfl, hv0, hv1⟩)
  have t0 := cell_of_row _ _ 0 _ _ _ HT2.out.blk
  have tl := lt_of_heap HT2.out.blk
  have r0 := cell_of_row _ _ 0 _ _ _ hB2
  have rl := lt_of_heap hB2
  have rf := row_frozen hB2 0
  have e0 := cell_of_row _ _ 0 _ _ _ (setCell_row (k := 0) hB2 (.slice A1 2 c1))
  obtain ⟨S3, hS3⟩ : ∃ V, S2.setCell ⟨g0 + 1, 0, none⟩ (.slice A1 2 c1) = V := ⟨_, rfl⟩
  rw [hS3] at HX3 HTR e0
  simp at e0
  obtain ⟨k0, k1, k2, k3, lg, p0, p1, p2, p3, lp, r0, r1, lr⟩ := HG.out.ext (HF3.out.own.ext.trans HT2.out.ext)
  clear hB2 T3 ho3 hv0 hv1
  go_wp2_with fail
  exact bodyPost_ret (v := .agg #[.slice A1 2 c1]) (by simp [results, Tryz.results105, go_sem, *]) rfl ⟨_, rfl, HTR.out, HX3.out⟩
end Go.Proofs.YthpmncdfaggkiaaGreat
/- viewportref14.conflict, Build, Accept, Predict of the grammar of words. -/
namespace Go.Proofs.YthpmncdfaggkiaaGreat
open Go.RowKit
attribute [local go_sem] more_drew more_drewN more_size more_cell more_frozen more_setCell drew_more drewN_more lt_add_r lt_add_r2 lt_add_r3 lt_add_r4 lt_add_r5 lt_add_r6 lt_add_r7 lt_add_r8 lt_add_r9 lt_add_r10 lt_self_r lt_self_r2
def confV : Value := .agg #[.int .i64 0, .int .i64 0, .int .i64 0, .string ⟨#[]⟩]
/-- a table laid open -/
theorem tab_open {w : World} {tv : Value} (h : TabRd w tv) : ∃ g og c a0 o0 c0 a1 o1 c1, tv = .slice (some ⟨g, og, none⟩) 2 c ∧ g < w.heap.size ∧ w.cell? ⟨g, og, none⟩ = some (.slice (some ⟨a0, o0, none⟩) 1 c0) ∧ w.cell? ⟨g, og + 1, none⟩ = some (.slice (some ⟨a1, o1, none⟩) 1 c1) ∧ a0 < w.heap.size ∧ w.cell? ⟨a0, o0, none⟩ = some (.string (tx 0)) ∧ a1 < w.heap.size ∧ w.cell? ⟨a1, o1, none⟩ = some (.string (tx 255)) ∧ Strs w (some ⟨a0, o0, none⟩) [tx 0] ∧ Strs w (some ⟨a1, o1, none⟩) [tx 255] := by
  obtain ⟨g, og, c, v0, v1, cs, h1, hcs, h3, h4, h5, h6⟩ := h
  have h2 := lt_of_heap hcs
  obtain ⟨a0, o0, c0, rfl, x0, l0⟩ := strV_one h5
  obtain ⟨a1, o1, c1, rfl, x1, l1⟩ := strV_one h6
  obtain ⟨A, c2, hA, hs, _⟩ := h5
  injection hA with hA
  subst hA
  obtain ⟨A, c3, hA, hs1, _⟩ := h6
  injection hA with hA
  subst hA
  exact ⟨g, og, c, a0, o0, c0, a1, o1, c1, h1, h2, h3, h4, l0, x0, l1, x1, hs, hs1⟩
set_option maxRecDepth 100000 in
set_option maxHeartbeats 2000000 in
theorem conflict_gram (a b : Nat) (C : Option Addr) (c d e : Nat) (tv : Value) (w : World) (h : GrRd w a b C d e) (ht : TabRd w tv) : Calls Tryz.prog 106 #[gramV a c, .agg #[tv]] w fun e w' => e = .returned (.tuple #[confV, .bool false]) ∧ Ext w w' := by
  obtain ⟨g0, W, hg0, hW, X1, hat⟩ := gr_enter w c h
  obtain ⟨g, og, tc, a0, o0, c0, a1, o1, c1, rfl, lt, x0, x1, l0, y0, l1, y1, hs0, hs1⟩ := tab_open (ht.ext X1)
  have HS := Lib.hid hs1
  obtain ⟨tb, htb⟩ : ∃ ob, W.heap.size = ob := ⟨_, rfl⟩
  obtain ⟨W1, hW1⟩ : ∃ V, W.alloc (.cells #[.slice (some ⟨g, og, none⟩) 2 tc] 103) = V := ⟨_, rfl⟩
  have hB1 : W1.heap[tb]? = some (.cells #[.slice (some ⟨g, og, none⟩) 2 tc] 103) := by rw [← hW1, ← htb]; exact heap_alloc_new _ _
  obtain ⟨cb, hcb⟩ : ∃ ob, W1.heap.size = ob := ⟨_, rfl⟩
  obtain ⟨W2, hW2⟩ : ∃ V, W1.alloc (.cells #[.int .i64 0, .int .i64 0, .int .i64 0, .string ⟨#[]⟩] 105) = V := ⟨_, rfl⟩
  have X01 : Ext W W1 := by rw [← hW1]; exact (by repeat (first | exact Ext.refl _ | refine Ext.alloc ?_ _ | refine Ext.more ?_ _ _ | refine Ext.drew ?_ | refine Ext.drewN ?_ _ | refine Ext.setCell ?_ (by simp <;> omega) _))
  have X12 : Ext W1 W2 := by rw [← hW2]; exact (by repeat (first | exact Ext.refl _ | refine Ext.alloc ?_ _ | refine Ext.more ?_ _ _ | refine Ext.drew ?_ | refine Ext.drewN ?_ _ | refine Ext.setCell ?_ (by simp <;> omega) _))
  have hC2 : W2.heap[cb]? = some (.cells #[.int .i64 0, .int .i64 0, .int .i64 0, .string ⟨#[]⟩] 105) := by rw [← hW2, ← hcb]; exact heap_alloc_new _ _
  have X02 := X01.trans X12
  have HG := Lib.hid (hat.ext X02)
  have HB := Lib.hid (ext_block hB1 X12)
  have HC := Lib.hid hC2
  have HCL : Hid (w.heap.size ≤ cb) := Lib.hid (by have := (X1.trans X01).size; omega)
  have HX := Lib.hid (X1.trans X02)
  have x0 := ext_cell x0 lt X02
  have x1 := ext_cell x1 lt X02
  have y0 := ext_cell y0 l0 X02
  have lt := Nat.lt_of_lt_of_le lt X02.size
  have l0 := Nat.lt_of_lt_of_le l0 X02.size
  have HHS := Lib.hid (fun w1 (e1 : Ext W2 w1) => hasRow_any (some ⟨a1, o1, none⟩) c1 [tx 255] (tx 0) w1 ((hs1.ext X02).ext e1) (by simp) false ⟨fun h => (by cases h), fun h => absurd (List.mem_singleton.1 h) (by decide)⟩)
  clear h X1 hat ht X01 X12 X02 hB1 hC2 hs0 hs1 y1 l1
  unfold gramV confV
  go_enter Tryz.func106, Tryz.ntmps106
  go_upto_region 1 with fail
  try simp only [hg0]
  try simp only [hW]
  try simp only [htb]
  try simp only [hW1]
  try simp only [hcb]
  try simp only [hW2]
  clear hW hg0 htb hW1 hcb hW2
  obtain ⟨k0, k1, k2, k3, lg, p0, p1, p2, p3, lp, r0, r1, lr⟩ := HG.out
  have b0 := cell_of_row _ _ 0 _ _ _ HB.out
  have bl := lt_of_heap HB.out
  go_wp2_with fail
  refine wp_loop_rounds 2 ?_
  rw [rounds_succ]
  go_wp2_with fail
  refine wp_loop_rounds 3 ?_
  rw [rounds_succ]
  go_wp2_with fail
  refine wp_loop_rounds 2 ?_
  rw [rounds_succ]
  go_wp2_with fail
  refine wp_loop_rounds 2 ?_
  rw [rounds_succ]
  go_upto_region 14 with fail
  refine wp_region_bt (14) (pures_bt [0, 2, 5, 7, 10] (softs_bt [1, 3, 4, 6, 8, 9, 11, 12] (.step 13 .fin))) (by kernel_rfl) (by kernel_rfl) ?_
  (refine bt_pures _ fun K hK => ?_); (simp only [pick, nthC]); (repeat (go_big_quiet_step (fail))); (refine wpQuiet_nil (hK _ ?_)); (clear hK K)
  (refine bt_softs _ fun K hK => ?_); (simp only [pick, nthC]); (repeat (go_big_quiet_step (fail))); (refine wpQuiet_nil (hK _ ?_)); (clear hK K)
  (refine bt_step fun next hn => ?_); (simp only [pick, nthC])
  go_wp2_with fail
  refine (HHS.out _ (by repeat (first | exact Ext.refl _ | refine Ext.alloc ?_ _ | refine Ext.more ?_ _ _ | refine Ext.drew ?_ | refine Ext.drewN ?_ _ | refine Ext.setCell ?_ (by simp <;> omega) _))).mono ?_
  rintro e' W3 ⟨rfl, hx3⟩
  have HX3 : Hid (Ext W2 W3) := Lib.hid (Ext.trans (by repeat (first | exact Ext.refl _ | refine Ext.alloc ?_ _ | refine Ext.more ?_ _ _ | refine Ext.drew ?_ | refine Ext.drewN ?_ _ | refine Ext.setCell ?_ (by simp <;> omega) _)) hx3)
  clear hx3 HHS
  go_wp2_with fail
  refine segQ_mk (fun _ => laid HX3.out) (hn _ _ ?_)
  clear hn next k0 k1 k2 k3 lg p0 p1 p2 p3 lp r0 r1 lr b0 bl
  (refine bt_fin ?_)
  obtain ⟨k0, k1, k2, k3, lg, p0, p1, p2, p3, lp, r0, r1, lr⟩ := HG.out.ext HX3.out
  have hB3 := ext_block HB.out HX3.out
  have b0 := cell_of_row _ _ 0 _ _ _ hB3
  have bl := lt_of_heap hB3
  have x0 := ext_cell x0 lt HX3.out
  have x1 := ext_cell x1 lt HX3.out
  have lt := Nat.lt_of_lt_of_le lt HX3.out.size
  clear hB3
  go_wp2_with fail
  rw [rounds_succ]
  go_wp2_with fail
  rw [rounds_succ]
  go_wp2_with fail
  rw [rounds_succ]
  go_wp2_with fail
  refine wp_loop_rounds 1 ?_
  rw [rounds_succ]
  go_wp2_with fail
  rw [rounds_succ]
  go_wp2_with fail
  rw [rounds_succ]
  have hC3 := ext_block HC.out HX3.out
  have P4 := put4_at hC3 (.int .i64 0) (.int .i64 0) (.int .i64 0) (.string ⟨#[]⟩)
  have HX4 : Hid (Ext w (put4 W3 cb (.int .i64 0) (.int .i64 0) (.int .i64 0) (.string ⟨#[]⟩))) := Lib.hid ((put4_turn (S := fun k => k = cb) rfl _ _ _ _).ext (HX.out.trans HX3.out) (fun k hk => by have := HCL.out; omega))
  obtain ⟨W4, hW4⟩ : ∃ W4, put4 W3 cb (.int .i64 0) (.int .i64 0) (.int .i64 0) (.string ⟨#[]⟩) = W4 := ⟨_, rfl⟩
  rw [hW4] at P4 HX4
  have z0 := cell_of_row _ _ 0 _ _ _ hC3
  have z1 := cell_of_row _ _ 1 _ _ _ hC3
  have z2 := cell_of_row _ _ 2 _ _ _ hC3
  have z3 := cell_of_row _ _ 3 _ _ _ hC3
  have zl := lt_of_heap hC3
  have zf := fun k => row_frozen hC3 k
  have e0 := cell_of_row _ _ 0 _ _ _ P4
  have e1 := cell_of_row _ _ 1 _ _ _ P4
  have e2 := cell_of_row _ _ 2 _ _ _ P4
  have e3 := cell_of_row _ _ 3 _ _ _ P4
  simp at z0 z1 z2 z3 e0 e1 e2 e3
  unfold put4 put3 put2 at hW4
  clear hC3 P4
  go_wp2_with fail
  exact bodyPost_ret (v := .tuple #[.agg #[.int .i64 0, .int .i64 0, .int .i64 0, .string ⟨#[]⟩], .bool false]) (by simp [results, Tryz.results106, go_sem, *]) rfl ⟨rfl, HX4.out⟩
set_option maxRecDepth 100000 in
set_option maxHeartbeats 2000000 in
theorem build14_gram (a b : Nat) (C : Option Addr) (c d e : Nat) (w : World) (h : GrRd w a b C d e) (hd : d = 2) : Calls Tryz.prog 61 #[gramV a c] w fun e w' => ∃ tv, e = .returned (.tuple #[.agg #[tv], confV, .int .i64 0]) ∧ TabRd w' tv ∧ Ext w w' := by
  obtain ⟨g0, W, hg0, hW, X1, hat⟩ := gr_enter w c h
  have hgs : W.heap.size = g0 + 1 := by rw [← hW, ← hg0]; simp
  obtain ⟨W1, hW1⟩ : ∃ V, W.alloc (.cells #[nil0] 103) = V := ⟨_, rfl⟩
  have hB1 : W1.heap[g0 + 1]? = some (.cells #[nil0] 103) := by rw [← hW1, ← hgs]; exact heap_alloc_new _ _
  have hgs2 : W1.heap.size = g0 + 2 := by rw [← hW1]; simp; omega
  obtain ⟨W2, hW2⟩ : ∃ V, W1.alloc (.cells #[.int .i64 0, .int .i64 0, .int .i64 0, .string ⟨#[]⟩] 105) = V := ⟨_, rfl⟩
  have X01 : Ext W W1 := by rw [← hW1]; exact (by repeat (first | exact Ext.refl _ | refine Ext.alloc ?_ _ | refine Ext.more ?_ _ _ | refine Ext.drew ?_ | refine Ext.drewN ?_ _ | refine Ext.setCell ?_ (by simp <;> omega) _))
  have X12 : Ext W1 W2 := by rw [← hW2]; exact (by repeat (first | exact Ext.refl _ | refine Ext.alloc ?_ _ | refine Ext.more ?_ _ _ | refine Ext.drew ?_ | refine Ext.drewN ?_ _ | refine Ext.setCell ?_ (by simp <;> omega) _))
  have hC2 : W2.heap[g0 + 2]? = some (.cells #[.int .i64 0, .int .i64 0, .int .i64 0, .string ⟨#[]⟩] 105) := by rw [← hW2, ← hgs2]; exact heap_alloc_new _ _
  have hg := hat.ext (X01.trans X12)
  have HG := Lib.hid hg
  have HB := Lib.hid (ext_block hB1 X12)
  have HC := Lib.hid hC2
  have HX := Lib.hid (X1.trans (X01.trans X12))
  have HL : Hid (w.heap.size = g0) := Lib.hid hg0
  have HCK := Lib.hid (check_gram a b C c d e W2 hg.rd)
  have HTA := Lib.hid (fun w1 (e1 : Ext W2 w1) => table_gram a b C c d e w1 (hg.rd.ext e1) hd)
  have HCO := Lib.hid (fun tv w1 (e1 : Ext W2 w1) ht => conflict_gram a b C c d e tv w1 (hg.rd.ext e1) ht)
  clear h X1 hat X01 X12 hB1 hC2
  unfold gramV at HCK HTA HCO ⊢
  unfold confV at HCO ⊢
  go_enter Tryz.func61, Tryz.ntmps61
  go_upto_region 1 with fail
  try simp only [hg0]
  try simp only [hW]
  try simp only [hgs]
  try simp only [hW1]
  try simp only [hgs2]
  try simp only [hW2]
  clear hW hg0 hgs hW1 hgs2 hW2
  obtain ⟨k0, k1, k2, k3, lg, p0, p1, p2, p3, lp, r0, r1, lr⟩ := hg
  go_wp2_with fail
  refine HCK.out.mono ?_
  rintro e' W3 ⟨rfl, hx3⟩
  have HX3 := Lib.hid hx3
  clear HCK k0 k1 k2 k3 lg p0 p1 p2 p3 lp r0 r1 lr hx3
  obtain ⟨k0, k1, k2, k3, lg, p0, p1, p2, p3, lp, r0, r1, lr⟩ := HG.out.ext HX3.out
  go_wp2_with fail
  refine (HTA.out _ HX3.out).mono ?_
  rintro e' W4 ⟨tv, rfl, ht, hx4⟩
  have HX4 := Lib.hid (HX3.out.trans hx4)
  have HT4 := Lib.hid ht
  obtain ⟨tg, tog, tc, tv0, tv1, tcs, rfl, _⟩ := id ht
  clear k0 k1 k2 k3 lg p0 p1 p2 p3 lp r0 r1 lr HTA hx4 ht
  obtain ⟨sb, hsb⟩ : ∃ ob, W4.heap.size = ob := ⟨_, rfl⟩
  obtain ⟨W5a, hW5a⟩ : ∃ V, W4.alloc (.cells #[nil0] 103) = V := ⟨_, rfl⟩
  obtain ⟨W5, hW5⟩ : ∃ V, W5a.setCell ⟨sb, 0, none⟩ (.slice (some ⟨tg, tog, none⟩) 2 tc) = V := ⟨_, rfl⟩
  have hS5a : W5a.heap[sb]? = some (.cells #[nil0] 103) := by rw [← hW5a, ← hsb]; exact heap_alloc_new _ _
  have hS5 : W5.heap[sb]? = some (.cells #[.slice (some ⟨tg, tog, none⟩) 2 tc] 103) := by rw [← hW5]; exact setCell_row hS5a _
  have X45 : Ext W4 W5 := by rw [← hW5]; exact (Ext.setCell (show Ext W4 W5a from by rw [← hW5a]; exact (by repeat (first | exact Ext.refl _ | refine Ext.alloc ?_ _ | refine Ext.more ?_ _ _ | refine Ext.drew ?_ | refine Ext.drewN ?_ _ | refine Ext.setCell ?_ (by simp <;> omega) _))) (by show _ ≤ sb; omega) _)
  have HX5 := Lib.hid (HX4.out.trans X45)
  have HT5 := Lib.hid (HT4.out.ext X45)
  have HS5 := Lib.hid hS5
  have s0 := cell_of_row _ _ 0 _ _ _ hS5a
  have sl := lt_of_heap hS5a
  have sf := row_frozen hS5a 0
  simp at s0
  go_upto_region 5 with fail
  try simp only [hsb]
  try simp only [hW5a]
  try simp only [hW5]
  clear hsb hW5a hW5 hS5a s0 sl sf X45
  obtain ⟨k0, k1, k2, k3, lg, p0, p1, p2, p3, lp, r0, r1, lr⟩ := HG.out.ext HX5.out
  have s0 := cell_of_row _ _ 0 _ _ _ hS5
  have sl := lt_of_heap hS5
  simp at s0
  have HCC := Lib.hid (HCO.out _ W5 HX5.out HT5.out)
  clear hS5 HCO
  go_wp2_with fail
  refine HCC.out.mono ?_
  rintro e' W6 ⟨rfl, hx6⟩
  have HX6 := Lib.hid (HX5.out.trans hx6)
  have hT6 := HT5.out.ext hx6
  have hS6 := ext_block HS5.out hx6
  have hB6 := ext_block HB.out HX6.out
  have hC6 := ext_block HC.out HX6.out
  clear k0 k1 k2 k3 lg p0 p1 p2 p3 lp r0 r1 lr hx6 HCC s0 sl
  obtain ⟨cb, hcb⟩ : ∃ ob, W6.heap.size = ob := ⟨_, rfl⟩
  obtain ⟨W7a, hW7a⟩ : ∃ V, W6.alloc (.cells #[.int .i64 0, .int .i64 0, .int .i64 0, .string ⟨#[]⟩] 105) = V := ⟨_, rfl⟩
  have hD7 : W7a.heap[cb]? = some (.cells #[.int .i64 0, .int .i64 0, .int .i64 0, .string ⟨#[]⟩] 105) := by rw [← hW7a, ← hcb]; exact heap_alloc_new _ _
  obtain ⟨W7, hW7⟩ : ∃ W4, put4 W7a cb (.int .i64 0) (.int .i64 0) (.int .i64 0) (.string ⟨#[]⟩) = W4 := ⟨_, rfl⟩
  have X67 : Ext W6 W7 := by rw [← hW7]; exact (put4_turn (S := fun k => k = cb) rfl _ _ _ _).ext (show Ext W6 W7a from by rw [← hW7a]; exact (by repeat (first | exact Ext.refl _ | refine Ext.alloc ?_ _ | refine Ext.more ?_ _ _ | refine Ext.drew ?_ | refine Ext.drewN ?_ _ | refine Ext.setCell ?_ (by simp <;> omega) _))) (fun k hk => by omega)
  have hS7 := ext_block hS6 X67
  have hB7 := ext_block hB6 X67
  have hC7 := ext_block hC6 X67
  have hT7 := hT6.ext X67
  have z0 := cell_of_row _ _ 0 _ _ _ hD7
  have z1 := cell_of_row _ _ 1 _ _ _ hD7
  have z2 := cell_of_row _ _ 2 _ _ _ hD7
  have z3 := cell_of_row _ _ 3 _ _ _ hD7
  have zl := lt_of_heap hD7
  have zf := fun k => row_frozen hD7 k
  simp at z0 z1 z2 z3
  unfold put4 put3 put2 at hW7
  go_upto_region 8 with fail
  try simp only [hcb]
  try simp only [hW7a]
  try simp only [hW7]
  clear hcb hW7a hW7 hD7 z0 z1 z2 z3 zl zf hS6 hB6 hC6 hT6
  have s0 := cell_of_row _ _ 0 _ _ _ hS7
  have sl := lt_of_heap hS7
  have r0 := cell_of_row _ _ 0 _ _ _ hB7
  have rl := lt_of_heap hB7
  have rf := row_frozen hB7 0
  have hB8 := setCell_row (k := 0) hB7 (.slice (some ⟨tg, tog, none⟩) 2 tc)
  obtain ⟨W8, hW8⟩ : ∃ V, W7.setCell ⟨g0 + 1, 0, none⟩ (.slice (some ⟨tg, tog, none⟩) 2 tc) = V := ⟨_, rfl⟩
  have hC8 := setCell_row_other (k := 0) (g := g0 + 1) hC7 (by omega) (.slice (some ⟨tg, tog, none⟩) 2 tc)
  rw [hW8] at hB8 hC8
  obtain ⟨W9, hW9⟩ : ∃ W4, put4 W8 (g0 + 2) (.int .i64 0) (.int .i64 0) (.int .i64 0) (.string ⟨#[]⟩) = W4 := ⟨_, rfl⟩
  have P9 := put4_at hC8 (.int .i64 0) (.int .i64 0) (.int .i64 0) (.string ⟨#[]⟩)
  have T78 : Turn (fun k => k = g0 + 1 ∨ k = g0 + 2) W7 W8 := by rw [← hW8]; exact Turn.setCell _ (p := ⟨g0 + 1, 0, none⟩) (.inl rfl) _
  have T89 : Turn (fun k => k = g0 + 1 ∨ k = g0 + 2) W8 W9 := by rw [← hW9]; exact put4_turn (S := fun k => k = g0 + 1 ∨ k = g0 + 2) (.inr rfl) _ _ _ _
  have T79 := T78.trans T89
  have hB9 : W9.heap[g0 + 1]? = some (.cells #[.slice (some ⟨tg, tog, none⟩) 2 tc] 103) := by
    rw [← hW9]
    have T89' : Turn (fun k => k = g0 + 2) W8 (put4 W8 (g0 + 2) (.int .i64 0) (.int .i64 0) (.int .i64 0) (.string ⟨#[]⟩)) := put4_turn (S := fun k => k = g0 + 2) rfl _ _ _ _
    exact T89'.keep (by simpa using hB8) (by omega)
  have HX9 : Hid (Ext w W9) := Lib.hid (T79.ext (HX.out.trans (HX6.out.trans X67)) (fun k hk => by have := HL.out; omega))
  have HT9 : Hid (TabRd W9 (.slice (some ⟨tg, tog, none⟩) 2 tc)) := Lib.hid (hT7.turn T79 (fun g cs T hg hT hh => by
    rcases hh with rfl | rfl
    · rw [hB7] at hg; injection hg with hg; injection hg with _ hg; subst hg; revert hT; decide
    · rw [hC7] at hg; injection hg with hg; injection hg with _ hg; subst hg; revert hT; decide))
  have c0 := cell_of_row _ _ 0 _ _ _ hC8
  have c1 := cell_of_row _ _ 1 _ _ _ hC8
  have c2 := cell_of_row _ _ 2 _ _ _ hC8
  have c3 := cell_of_row _ _ 3 _ _ _ hC8
  have cl := lt_of_heap hC8
  have cf := fun k => row_frozen hC8 k
  have e0 := cell_of_row _ _ 0 _ _ _ P9
  have e1 := cell_of_row _ _ 1 _ _ _ P9
  have e2 := cell_of_row _ _ 2 _ _ _ P9
  have e3 := cell_of_row _ _ 3 _ _ _ P9
  rw [hW9] at e0 e1 e2 e3
  have e4 := cell_of_row _ _ 0 _ _ _ hB9
  simp at c0 c1 c2 c3 e0 e1 e2 e3 e4 r0 s0
  unfold put4 put3 put2 at hW9
  clear hB7 hC7 hT7 hB8 hC8 P9 hB9 T78 T89 T79 hS7
  go_wp2_with fail
  exact bodyPost_ret (v := .tuple #[.agg #[.slice (some ⟨tg, tog, none⟩) 2 tc], .agg #[.int .i64 0, .int .i64 0, .int .i64 0, .string ⟨#[]⟩], .int .i64 0]) (by simp [results, Tryz.results61, go_sem, *]) rfl ⟨_, rfl, HT9.out, HX9.out⟩
set_option maxRecDepth 100000 in
set_option maxHeartbeats 2000000 in
theorem accept_gram (a b : Nat) (C : Option Addr) (c d e : Nat) (w : World) (h : GrRd w a b C d e) (hd : d = 2) : Calls Tryz.prog 58 #[gramV a c] w fun e w' => e = .returned (.int .i64 0) ∧ Ext w w' := by
  obtain ⟨g0, W, hg0, hW, X1, hat⟩ := gr_enter w c h
  have HX := Lib.hid X1
  have HG := Lib.hid hat
  have HCK := Lib.hid (check_gram a b C c d e W hat.rd)
  have HRE := Lib.hid (fun w1 (e1 : Ext W w1) => reduced_gram a b C c d e w1 (hat.rd.ext e1))
  have HLE := Lib.hid (fun w1 (e1 : Ext W w1) => left_gram a b C c d e w1 (hat.rd.ext e1))
  have HBU := Lib.hid (fun w1 (e1 : Ext W w1) => build14_gram a b C c d e w1 (hat.rd.ext e1) hd)
  clear h X1
  obtain ⟨k0, k1, k2, k3, lg, p0, p1, p2, p3, lp, r0, r1, lr⟩ := hat
  unfold gramV at HCK HRE HLE HBU ⊢
  unfold confV at HBU
  go_enter Tryz.func58, Tryz.ntmps58
  go_wp2_with fail
  try simp only [hg0]
  refine HCK.out.mono ?_
  rintro e' W2 ⟨rfl, hx2⟩
  have HX2 := Lib.hid hx2
  clear hW hg0 k0 k1 k2 k3 lg p0 p1 p2 p3 lp r0 r1 lr hx2 HCK
  obtain ⟨k0, k1, k2, k3, lg, p0, p1, p2, p3, lp, r0, r1, lr⟩ := HG.out.ext HX2.out
  go_wp2_with fail
  refine (HRE.out _ HX2.out).mono ?_
  rintro e' W3 ⟨rfl, hx3⟩
  have HX3 := Lib.hid (HX2.out.trans hx3)
  clear k0 k1 k2 k3 lg p0 p1 p2 p3 lp r0 r1 lr hx3 HRE
  obtain ⟨k0, k1, k2, k3, lg, p0, p1, p2, p3, lp, r0, r1, lr⟩ := HG.out.ext HX3.out
  go_wp2_with fail
  refine (HLE.out _ HX3.out).mono ?_
  rintro e' W4 ⟨rfl, hx4⟩
  have HX4 := Lib.hid (HX3.out.trans hx4)
  clear k0 k1 k2 k3 lg p0 p1 p2 p3 lp r0 r1 lr hx4 HLE
  obtain ⟨k0, k1, k2, k3, lg, p0, p1, p2, p3, lp, r0, r1, lr⟩ := HG.out.ext HX4.out
  go_wp2_with fail
  refine (HBU.out _ HX4.out).mono ?_
  rintro e' W5 ⟨tv, rfl, ht, hx5⟩
  have HX5 := Lib.hid (HX4.out.trans hx5)
  clear k0 k1 k2 k3 lg p0 p1 p2 p3 lp r0 r1 lr hx5 HBU ht
  go_wp2_with fail
  go_ret
  exact ⟨rfl, HX.out.trans HX5.out⟩
end Go.Proofs.YthpmncdfaggkiaaGreat
/- viewportref15.Null, deeper, Deep, Const, viewportref17.Cost of the grammar of words. -/
namespace Go.Proofs.YthpmncdfaggkiaaGreat
open Go.RowKit
attribute [local go_sem] more_drew more_drewN more_size more_cell more_frozen more_setCell drew_more drewN_more lt_add_r lt_add_r2 lt_add_r3 lt_add_r4 lt_add_r5 lt_add_r6 lt_add_r7 lt_add_r8 lt_add_r9 lt_add_r10 lt_self_r lt_self_r2
theorem mk_int1 (w : World) : (Instr.makeSlice 31 (.int .i64 1) (.int .i64 1)).run Tryz.prog w = .ok (.slice (some ⟨w.heap.size, 0, none⟩) 1 1) (w.alloc (.cells #[.int .i64 0] 3)) := by
  have h := mk_ints w 1 1 rfl (by omega)
  rw [show madeCells #[.int .i64 0] 1 = #[.int .i64 0] from by
    apply Array.toList_inj.1
    rw [toList_madeCells_one]
    rfl] at h
  exact h
set_option maxRecDepth 100000 in
set_option maxHeartbeats 1200000 in
theorem null_gram (a b : Nat) (C : Option Addr) (c d e : Nat) (w : World) (h : GrRd w a b C d e) (hd : d = 2) : Calls Tryz.prog 103 #[gramV a c] w fun e w' => ∃ ob, e = .returned (.slice (some ⟨ob, 0, none⟩) 1 1) ∧ Own1 w w' 3 ob (.int .i64 1) := by
  obtain ⟨g0, W, hg0, hW, X1, hat⟩ := gr_enter w c h
  have HX := Lib.hid X1
  have HCK := Lib.hid (accept_gram a b C c d e W hat.rd hd)
  have HGW := Lib.hid hat
  clear h X1 hd
  obtain ⟨k0, k1, k2, k3, lg, p0, p1, p2, p3, lp, r0, r1, lr⟩ := hat
  unfold gramV at HCK ⊢
  go_enter Tryz.func103, Tryz.ntmps103
  go_wp2_with fail
  try simp only [hg0]
  refine HCK.out.mono ?_
  rintro e' W2 ⟨rfl, hx2⟩
  have HG := Lib.hid (HGW.out.ext hx2)
  have HX2 := Lib.hid (HX.out.trans hx2)
  clear hW hg0 k0 k1 k2 k3 lg p0 p1 p2 p3 lp r0 r1 lr hx2 HCK HX HGW
  obtain ⟨k0, k1, k2, k3, lg, p0, p1, p2, p3, lp, r0, r1, lr⟩ := HG.out
  have hmk := mk_int1
  obtain ⟨ob, hob⟩ : ∃ ob, W2.heap.size = ob := ⟨_, rfl⟩
  obtain ⟨S0, hW3⟩ : ∃ W3, W2.alloc (.cells #[.int .i64 0] 3) = W3 := ⟨_, rfl⟩
  have HS0 : Hid (Own1 W2 S0 3 ob (.int .i64 0)) := Lib.hid (by rw [← hW3, ← hob]; exact Own1.new (Ext.refl _) _)
  go_wp2_with fail
  try simp only [hob, hW3]
  clear hob hW3 hmk k0 k1 k2 k3 lg p0 p1 p2 p3 lp r0 r1 lr
  obtain ⟨k0, k1, k2, k3, lg, p0, p1, p2, p3, lp, r0, r1, lr⟩ := HG.out.ext HS0.out.ext
  refine wp_loop_rounds 2 ?_
  rw [rounds_succ]
  have o0 := HS0.out.cell
  have ol := HS0.out.lt
  have of := HS0.out.froz
  obtain ⟨S1, hS1⟩ : ∃ V, S0.setCell ⟨ob, 0, none⟩ (.int .i64 (-1)) = V := ⟨_, rfl⟩
  have HS1 := Lib.hid (HS0.out.setX _ hS1)
  go_upto_region 6 with fail
  clear hS1 o0 ol of k0 k1 k2 k3 lg p0 p1 p2 p3 lp r0 r1 lr HS0
  obtain ⟨k0, k1, k2, k3, lg, p0, p1, p2, p3, lp, r0, r1, lr⟩ := HG.out.ext HS1.out.ext
  go_wp2_with fail
  rw [rounds_succ]
  go_wp2_with fail
  refine wp_loop_rounds 3 ?_
  rw [rounds_succ]
  go_wp2_with fail
  refine wp_loop_rounds 3 ?_
  rw [rounds_succ]
  try clear k0 k1 k2 k3 lg p0 p1 p2 p3 lp r0 r1 lr
  obtain ⟨k0, k1, k2, k3, lg, p0, p1, p2, p3, lp, r0, r1, lr⟩ := HG.out.ext HS1.out.ext
  obtain ⟨pb, Wb, S2, hpb, hWb, hW4, z0, z1, zf, zl, hq, X4⟩ := prod_copy2 S1 (.slice (some ⟨b, 0, none⟩) 2 d)
  have HS2 := Lib.hid (HS1.out.to X4)
  have HQ := Lib.hid hq
  clear X4 hq
  go_upto_region 15 with fail
  try simp only [hpb, hWb, hW4]
  clear hpb hWb hW4 z0 z1 zf zl k0 k1 k2 k3 lg p0 p1 p2 p3 lp r0 r1 lr HS1
  obtain ⟨k0, k1, k2, k3, lg, p0, p1, p2, p3, lp, r0, r1, lr⟩ := HG.out.ext HS2.out.ext
  obtain ⟨q0, q1, ql⟩ := HQ.out
  have o0 := HS2.out.cell
  have ol := HS2.out.lt
  have of := HS2.out.froz
  go_wp2_with fail
  refine wp_loop_rounds 2 ?_
  rw [rounds_succ]
  go_upto_region 19 with fail; refine wp_region_bt (9) (pures_bt [0, 2, 5] (softs_bt [1, 3, 4, 6, 7, 8] .fin)) (by kernel_rfl) (by kernel_rfl) ?_; (refine bt_pures _ fun K hK => ?_); (simp only [pick, nthC]); (repeat (go_big_quiet_step (fail))); (refine wpQuiet_nil (hK _ ?_)); (clear hK K); (refine bt_softs _ fun K hK => ?_); (simp only [pick, nthC]); (repeat (go_big_quiet_step (fail))); (refine wpQuiet_nil (hK _ ?_)); (clear hK K); (refine bt_fin ?_)
  clear k0 k1 k2 k3 lg p0 p1 p2 p3 lp r0 r1 lr q0 q1 ql o0 ol of
  obtain ⟨S2d, hd2⟩ : ∃ V, S2.drew = V := ⟨_, rfl⟩
  have X2 : Ext S2 S2d := by rw [← hd2]; exact (by repeat (first | exact Ext.refl _ | refine Ext.alloc ?_ _ | refine Ext.more ?_ _ _ | refine Ext.drew ?_ | refine Ext.drewN ?_ _ | refine Ext.setCell ?_ (by simp <;> omega) _))
  have HS2d := Lib.hid (HS2.out.to X2)
  have HQ' := Lib.hid (HQ.out.ext X2)
  try simp only [hd2]
  clear hd2 X2 HS2
  obtain ⟨k0, k1, k2, k3, lg, p0, p1, p2, p3, lp, r0, r1, lr⟩ := HG.out.ext HS2d.out.ext
  obtain ⟨q0, q1, ql⟩ := HQ'.out
  go_wp2_with fail
  rw [rounds_succ]
  go_wp2_with fail
  clear q0 q1 ql HQ HQ'
  rw [rounds_succ]
  try clear k0 k1 k2 k3 lg p0 p1 p2 p3 lp r0 r1 lr
  obtain ⟨k0, k1, k2, k3, lg, p0, p1, p2, p3, lp, r0, r1, lr⟩ := HG.out.ext HS2d.out.ext
  obtain ⟨pb, Wb, S3, hpb, hWb, hW4, z0, z1, zf, zl, hq, X4⟩ := prod_copy2 S2d (.slice C 0 e)
  have HS3 := Lib.hid (HS2d.out.to X4)
  have HQ := Lib.hid hq
  clear X4 hq
  go_upto_region 15 with fail
  try simp only [hpb, hWb, hW4]
  clear hpb hWb hW4 z0 z1 zf zl k0 k1 k2 k3 lg p0 p1 p2 p3 lp r0 r1 lr HS2d
  obtain ⟨k0, k1, k2, k3, lg, p0, p1, p2, p3, lp, r0, r1, lr⟩ := HG.out.ext HS3.out.ext
  obtain ⟨q0, q1, ql⟩ := HQ.out
  have o0 := HS3.out.cell
  have ol := HS3.out.lt
  have of := HS3.out.froz
  go_wp2_with fail
  refine wp_loop_rounds 1 ?_
  rw [rounds_succ]
  obtain ⟨S3s, hS⟩ : ∃ V, S3.setCell ⟨ob, 0, none⟩ (.int .i64 1) = V := ⟨_, rfl⟩
  have HS3s := Lib.hid (HS3.out.setX _ hS)
  go_upto_region 13 with fail
  clear hS q0 q1 ql HQ o0 ol of HS3 k0 k1 k2 k3 lg p0 p1 p2 p3 lp r0 r1 lr
  obtain ⟨k0, k1, k2, k3, lg, p0, p1, p2, p3, lp, r0, r1, lr⟩ := HG.out.ext HS3s.out.ext
  go_wp2_with fail
  rw [rounds_succ]
  go_wp2_with fail
  rw [rounds_succ]
  go_wp2_with fail
  refine wp_loop_rounds 3 ?_
  rw [rounds_succ]
  try clear k0 k1 k2 k3 lg p0 p1 p2 p3 lp r0 r1 lr
  obtain ⟨k0, k1, k2, k3, lg, p0, p1, p2, p3, lp, r0, r1, lr⟩ := HG.out.ext HS3s.out.ext
  obtain ⟨pb, Wb, S4, hpb, hWb, hW4, z0, z1, zf, zl, hq, X4⟩ := prod_copy2 S3s (.slice (some ⟨b, 0, none⟩) 2 d)
  have HS4 := Lib.hid (HS3s.out.to X4)
  have HQ := Lib.hid hq
  clear X4 hq
  go_upto_region 15 with fail
  try simp only [hpb, hWb, hW4]
  clear hpb hWb hW4 z0 z1 zf zl k0 k1 k2 k3 lg p0 p1 p2 p3 lp r0 r1 lr HS3s
  obtain ⟨k0, k1, k2, k3, lg, p0, p1, p2, p3, lp, r0, r1, lr⟩ := HG.out.ext HS4.out.ext
  obtain ⟨q0, q1, ql⟩ := HQ.out
  have o0 := HS4.out.cell
  have ol := HS4.out.lt
  have of := HS4.out.froz
  go_wp2_with fail
  refine wp_loop_rounds 2 ?_
  rw [rounds_succ]
  go_upto_region 19 with fail; refine wp_region_bt (9) (pures_bt [0, 2, 5] (softs_bt [1, 3, 4, 6, 7, 8] .fin)) (by kernel_rfl) (by kernel_rfl) ?_; (refine bt_pures _ fun K hK => ?_); (simp only [pick, nthC]); (repeat (go_big_quiet_step (fail))); (refine wpQuiet_nil (hK _ ?_)); (clear hK K); (refine bt_softs _ fun K hK => ?_); (simp only [pick, nthC]); (repeat (go_big_quiet_step (fail))); (refine wpQuiet_nil (hK _ ?_)); (clear hK K); (refine bt_fin ?_)
  clear k0 k1 k2 k3 lg p0 p1 p2 p3 lp r0 r1 lr q0 q1 ql o0 ol of
  obtain ⟨S4d, hd4⟩ : ∃ V, S4.drew = V := ⟨_, rfl⟩
  have X4 : Ext S4 S4d := by rw [← hd4]; exact (by repeat (first | exact Ext.refl _ | refine Ext.alloc ?_ _ | refine Ext.more ?_ _ _ | refine Ext.drew ?_ | refine Ext.drewN ?_ _ | refine Ext.setCell ?_ (by simp <;> omega) _))
  have HS4d := Lib.hid (HS4.out.to X4)
  have HQ' := Lib.hid (HQ.out.ext X4)
  try simp only [hd4]
  clear hd4 X4 HS4
  obtain ⟨k0, k1, k2, k3, lg, p0, p1, p2, p3, lp, r0, r1, lr⟩ := HG.out.ext HS4d.out.ext
  obtain ⟨q0, q1, ql⟩ := HQ'.out
  go_wp2_with fail
  rw [rounds_succ]
  go_wp2_with fail
  clear q0 q1 ql HQ HQ'
  rw [rounds_succ]
  try clear k0 k1 k2 k3 lg p0 p1 p2 p3 lp r0 r1 lr
  obtain ⟨k0, k1, k2, k3, lg, p0, p1, p2, p3, lp, r0, r1, lr⟩ := HG.out.ext HS4d.out.ext
  obtain ⟨pb, Wb, S5, hpb, hWb, hW4, z0, z1, zf, zl, hq, X4⟩ := prod_copy2 S4d (.slice C 0 e)
  have HS5 := Lib.hid (HS4d.out.to X4)
  have HQ := Lib.hid hq
  clear X4 hq
  go_upto_region 15 with fail
  try simp only [hpb, hWb, hW4]
  clear hpb hWb hW4 z0 z1 zf zl k0 k1 k2 k3 lg p0 p1 p2 p3 lp r0 r1 lr HS4d
  obtain ⟨k0, k1, k2, k3, lg, p0, p1, p2, p3, lp, r0, r1, lr⟩ := HG.out.ext HS5.out.ext
  obtain ⟨q0, q1, ql⟩ := HQ.out
  have o0 := HS5.out.cell
  have ol := HS5.out.lt
  have of := HS5.out.froz
  go_wp2_with fail
  refine wp_loop_rounds 1 ?_
  rw [rounds_succ]
  go_wp2_with fail
  rw [rounds_succ]
  go_wp2_with fail
  clear q0 q1 ql HQ o0 ol of k0 k1 k2 k3 lg p0 p1 p2 p3 lp r0 r1 lr
  rw [rounds_succ]
  go_wp2_with fail
  go_ret
  exact ⟨ob, rfl, HS5.out.blk, HX2.out.trans HS5.out.ext, Nat.le_trans HX2.out.size HS5.out.low⟩
set_option maxRecDepth 100000 in
set_option maxHeartbeats 1000000 in
theorem deeper_two (a b : Nat) (C : Option Addr) (c d e : Nat) (v1 v2 : Value) (R : Option Addr) (cr : Nat) (w : World) (h : GrRd w a b C d e) : Calls Tryz.prog 156 #[gramV a c, v1, v2, .slice (some ⟨b, 0, none⟩) 2 cr] w fun e w' => e = .returned (.int .i64 0) ∧ Ext w w' := by
  obtain ⟨g0, W, hg0, hW, X1, hat⟩ := gr_enter w c h
  have HX := Lib.hid X1
  clear h X1
  obtain ⟨k0, k1, k2, k3, lg, p0, p1, p2, p3, lp, r0, r1, lr⟩ := hat
  unfold gramV
  go_enter Tryz.func156, Tryz.ntmps156
  go_wp2_with fail
  try simp only [hg0]
  try simp only [hW]
  clear hW hg0
  refine wp_loop_rounds 1 ?_
  rw [rounds_succ]
  go_upto_region 3 with fail; refine wp_region_bt (13) (pures_bt [0, 1, 2, 3, 4, 5, 6, 7, 9] (softs_bt [8, 10, 11, 12] .fin)) (by kernel_rfl) (by kernel_rfl) ?_; (refine bt_pures _ fun K hK => ?_); (simp only [pick, nthC]); (repeat (go_big_quiet_step (fail))); (refine wpQuiet_nil (hK _ ?_)); (clear hK K); (refine bt_softs _ fun K hK => ?_); (simp only [pick, nthC]); (repeat (go_big_quiet_step (fail))); (refine wpQuiet_nil (hK _ ?_)); (clear hK K); (refine bt_fin ?_)
  go_wp2_with fail
  go_ret
  exact ⟨rfl, HX.out.trans (by repeat (first | exact Ext.refl _ | refine Ext.alloc ?_ _ | refine Ext.more ?_ _ _ | refine Ext.drew ?_ | refine Ext.drewN ?_ _ | refine Ext.setCell ?_ (by simp <;> omega) _))⟩
set_option maxRecDepth 100000 in
set_option maxHeartbeats 1000000 in
theorem deeper_nil (a b : Nat) (C : Option Addr) (c d e : Nat) (v1 v2 : Value) (R : Option Addr) (cr : Nat) (w : World) (h : GrRd w a b C d e) : Calls Tryz.prog 156 #[gramV a c, v1, v2, .slice R 0 cr] w fun e w' => e = .returned (.int .i64 0) ∧ Ext w w' := by
  obtain ⟨g0, W, hg0, hW, X1, hat⟩ := gr_enter w c h
  have HX := Lib.hid X1
  clear h X1
  obtain ⟨k0, k1, k2, k3, lg, p0, p1, p2, p3, lp, r0, r1, lr⟩ := hat
  unfold gramV
  go_enter Tryz.func156, Tryz.ntmps156
  go_wp2_with fail
  try simp only [hg0]
  try simp only [hW]
  clear hW hg0
  refine wp_loop_rounds 1 ?_
  rw [rounds_succ]
  go_upto_region 3 with fail; refine wp_region_bt (13) (pures_bt [0, 1, 2, 3, 4, 5, 6, 7, 9] (softs_bt [8, 10, 11, 12] .fin)) (by kernel_rfl) (by kernel_rfl) ?_; (refine bt_pures _ fun K hK => ?_); (simp only [pick, nthC]); (repeat (go_big_quiet_step (fail))); (refine wpQuiet_nil (hK _ ?_)); (clear hK K); (refine bt_softs _ fun K hK => ?_); (simp only [pick, nthC]); (repeat (go_big_quiet_step (fail))); (refine wpQuiet_nil (hK _ ?_)); (clear hK K); (refine bt_fin ?_)
  go_wp2_with fail
  go_ret
  exact ⟨rfl, HX.out.trans (by repeat (first | exact Ext.refl _ | refine Ext.alloc ?_ _ | refine Ext.more ?_ _ _ | refine Ext.drew ?_ | refine Ext.drewN ?_ _ | refine Ext.setCell ?_ (by simp <;> omega) _))⟩
set_option maxRecDepth 100000 in
set_option maxHeartbeats 1200000 in
theorem deep_gram (a b : Nat) (C : Option Addr) (c d e : Nat) (w : World) (h : GrRd w a b C d e) (hd : d = 2) : Calls Tryz.prog 104 #[gramV a c] w fun e w' => ∃ ob, e = .returned (.slice (some ⟨ob, 0, none⟩) 1 1) ∧ Own1 w w' 3 ob (.int .i64 1) := by
  obtain ⟨g0, W, hg0, hW, X1, hat⟩ := gr_enter w c h
  have HX := Lib.hid X1
  have HCK := Lib.hid (accept_gram a b C c d e W hat.rd hd)
  have HGW := Lib.hid hat
  clear h X1 hd
  obtain ⟨k0, k1, k2, k3, lg, p0, p1, p2, p3, lp, r0, r1, lr⟩ := hat
  unfold gramV at HCK ⊢
  go_enter Tryz.func104, Tryz.ntmps104
  go_wp2_with fail
  try simp only [hg0]
  refine HCK.out.mono ?_
  rintro e' W2 ⟨rfl, hx2⟩
  have HG := Lib.hid (HGW.out.ext hx2)
  have HX2 := Lib.hid (HX.out.trans hx2)
  clear hW hg0 k0 k1 k2 k3 lg p0 p1 p2 p3 lp r0 r1 lr hx2 HCK HX HGW
  obtain ⟨k0, k1, k2, k3, lg, p0, p1, p2, p3, lp, r0, r1, lr⟩ := HG.out
  have HN := Lib.hid (nullable_gram a b C c d e W2 HG.out.rd)
  unfold gramV at HN
  go_wp2_with fail
  refine HN.out.mono ?_
  rintro e' W3 ⟨na, rfl, hn⟩
  have HN3 := Lib.hid hn
  clear hn HN k0 k1 k2 k3 lg p0 p1 p2 p3 lp r0 r1 lr
  obtain ⟨k0, k1, k2, k3, lg, p0, p1, p2, p3, lp, r0, r1, lr⟩ := HG.out.ext HN3.out.ext
  have hmk := mk_int1
  obtain ⟨ob, hob⟩ : ∃ ob, W3.heap.size = ob := ⟨_, rfl⟩
  obtain ⟨S0, hW3⟩ : ∃ V, W3.alloc (.cells #[.int .i64 0] 3) = V := ⟨_, rfl⟩
  have HS0 : Hid (Own1 W3 S0 3 ob (.int .i64 0)) := Lib.hid (by rw [← hW3, ← hob]; exact Own1.new (Ext.refl _) _)
  go_wp2_with fail
  try simp only [hob, hW3]
  clear hob hW3 hmk k0 k1 k2 k3 lg p0 p1 p2 p3 lp r0 r1 lr
  refine wp_loop_rounds 3 ?_
  rw [rounds_succ]
  go_wp2_with fail
  refine wp_loop_rounds 3 ?_
  rw [rounds_succ]
  try clear k0 k1 k2 k3 lg p0 p1 p2 p3 lp r0 r1 lr
  obtain ⟨k0, k1, k2, k3, lg, p0, p1, p2, p3, lp, r0, r1, lr⟩ := HG.out.ext (HN3.out.ext.trans HS0.out.ext)
  have HDE := Lib.hid (fun w1 (e1 : Ext S0 w1) => deeper_two a b C c d e (.slice (some ⟨na, 0, none⟩) 1 1) (.slice (some ⟨ob, 0, none⟩) 1 1) none d w1 (HG.out.ext ((HN3.out.ext.trans HS0.out.ext).trans e1)).rd)
  unfold gramV at HDE
  go_upto_region 11 with fail
  refine wp_region_bt (12) (pures_bt [1, 2, 3, 5] (softs_bt [0, 4, 6, 7, 8] (.step 9 (pures_bt [10, 11] .fin)))) (by kernel_rfl) (by kernel_rfl) ?_
  (refine bt_pures _ fun K hK => ?_); (simp only [pick, nthC]); (repeat (go_big_quiet_step (fail))); (refine wpQuiet_nil (hK _ ?_)); (clear hK K)
  (refine bt_softs _ fun K hK => ?_); (simp only [pick, nthC]); (repeat (go_big_quiet_step (fail))); (refine wpQuiet_nil (hK _ ?_)); (clear hK K)
  (refine bt_step fun next hn => ?_); (simp only [pick, nthC])
  go_wp2_with fail
  refine (HDE.out _ (by repeat (first | exact Ext.refl _ | refine Ext.alloc ?_ _ | refine Ext.more ?_ _ _ | refine Ext.drew ?_ | refine Ext.drewN ?_ _ | refine Ext.setCell ?_ (by simp <;> omega) _))).mono ?_
  rintro e' S1 ⟨rfl, hx⟩
  have HXT : Hid (Ext S0 S1) := Lib.hid (Ext.trans (by repeat (first | exact Ext.refl _ | refine Ext.alloc ?_ _ | refine Ext.more ?_ _ _ | refine Ext.drew ?_ | refine Ext.drewN ?_ _ | refine Ext.setCell ?_ (by simp <;> omega) _)) hx)
  have HS1 := Lib.hid (HS0.out.to HXT.out)
  clear hx HDE
  go_wp2_with fail
  refine segQ_mk (fun _ => laid HXT.out) (hn _ _ ?_)
  clear hn next k0 k1 k2 k3 lg p0 p1 p2 p3 lp r0 r1 lr HXT HS0
  (refine bt_pures _ fun K hK => ?_); (simp only [pick, nthC]); (repeat (go_big_quiet_step (fail))); (refine wpQuiet_nil (hK _ ?_)); (clear hK K)
  (refine bt_fin ?_)
  obtain ⟨k0, k1, k2, k3, lg, p0, p1, p2, p3, lp, r0, r1, lr⟩ := HG.out.ext (HN3.out.ext.trans HS1.out.ext)
  have o0 := HS1.out.cell
  have ol := HS1.out.lt
  have of := HS1.out.froz
  obtain ⟨S1s, hS⟩ : ∃ V, S1.setCell ⟨ob, 0, none⟩ (.int .i64 1) = V := ⟨_, rfl⟩
  have HS1s := Lib.hid (HS1.out.setX _ hS)
  go_upto_region 10 with fail
  clear hS o0 ol of HS1 k0 k1 k2 k3 lg p0 p1 p2 p3 lp r0 r1 lr
  go_wp2_with fail
  rw [rounds_succ]
  try clear k0 k1 k2 k3 lg p0 p1 p2 p3 lp r0 r1 lr
  obtain ⟨k0, k1, k2, k3, lg, p0, p1, p2, p3, lp, r0, r1, lr⟩ := HG.out.ext (HN3.out.ext.trans HS1s.out.ext)
  have HDE := Lib.hid (fun w1 (e1 : Ext S1s w1) => deeper_nil a b C c d e (.slice (some ⟨na, 0, none⟩) 1 1) (.slice (some ⟨ob, 0, none⟩) 1 1) C e w1 (HG.out.ext ((HN3.out.ext.trans HS1s.out.ext).trans e1)).rd)
  unfold gramV at HDE
  go_upto_region 11 with fail
  refine wp_region_bt (12) (pures_bt [1, 2, 3, 5] (softs_bt [0, 4, 6, 7, 8] (.step 9 (pures_bt [10, 11] .fin)))) (by kernel_rfl) (by kernel_rfl) ?_
  (refine bt_pures _ fun K hK => ?_); (simp only [pick, nthC]); (repeat (go_big_quiet_step (fail))); (refine wpQuiet_nil (hK _ ?_)); (clear hK K)
  (refine bt_softs _ fun K hK => ?_); (simp only [pick, nthC]); (repeat (go_big_quiet_step (fail))); (refine wpQuiet_nil (hK _ ?_)); (clear hK K)
  (refine bt_step fun next hn => ?_); (simp only [pick, nthC])
  go_wp2_with fail
  refine (HDE.out _ (by repeat (first | exact Ext.refl _ | refine Ext.alloc ?_ _ | refine Ext.more ?_ _ _ | refine Ext.drew ?_ | refine Ext.drewN ?_ _ | refine Ext.setCell ?_ (by simp <;> omega) _))).mono ?_
  rintro e' S2 ⟨rfl, hx⟩
  have HXT : Hid (Ext S1s S2) := Lib.hid (Ext.trans (by repeat (first | exact Ext.refl _ | refine Ext.alloc ?_ _ | refine Ext.more ?_ _ _ | refine Ext.drew ?_ | refine Ext.drewN ?_ _ | refine Ext.setCell ?_ (by simp <;> omega) _)) hx)
  have HS2 := Lib.hid (HS1s.out.to HXT.out)
  clear hx HDE
  go_wp2_with fail
  refine segQ_mk (fun _ => laid HXT.out) (hn _ _ ?_)
  clear hn next k0 k1 k2 k3 lg p0 p1 p2 p3 lp r0 r1 lr HXT HS1s
  (refine bt_pures _ fun K hK => ?_); (simp only [pick, nthC]); (repeat (go_big_quiet_step (fail))); (refine wpQuiet_nil (hK _ ?_)); (clear hK K)
  (refine bt_fin ?_)
  obtain ⟨k0, k1, k2, k3, lg, p0, p1, p2, p3, lp, r0, r1, lr⟩ := HG.out.ext (HN3.out.ext.trans HS2.out.ext)
  have o0 := HS2.out.cell
  have ol := HS2.out.lt
  have of := HS2.out.froz
  go_wp2_with fail
  clear o0 ol of
  rw [rounds_succ]
  try clear k0 k1 k2 k3 lg p0 p1 p2 p3 lp r0 r1 lr
  obtain ⟨k0, k1, k2, k3, lg, p0, p1, p2, p3, lp, r0, r1, lr⟩ := HG.out.ext (HN3.out.ext.trans HS2.out.ext)
  go_wp2_with fail
  clear k0 k1 k2 k3 lg p0 p1 p2 p3 lp r0 r1 lr
  rw [rounds_succ]
  go_wp2_with fail
  refine wp_loop_rounds 3 ?_
  rw [rounds_succ]
  try clear k0 k1 k2 k3 lg p0 p1 p2 p3 lp r0 r1 lr
  obtain ⟨k0, k1, k2, k3, lg, p0, p1, p2, p3, lp, r0, r1, lr⟩ := HG.out.ext (HN3.out.ext.trans HS2.out.ext)
  have HDE := Lib.hid (fun w1 (e1 : Ext S2 w1) => deeper_two a b C c d e (.slice (some ⟨na, 0, none⟩) 1 1) (.slice (some ⟨ob, 0, none⟩) 1 1) none d w1 (HG.out.ext ((HN3.out.ext.trans HS2.out.ext).trans e1)).rd)
  unfold gramV at HDE
  go_upto_region 11 with fail
  refine wp_region_bt (12) (pures_bt [1, 2, 3, 5] (softs_bt [0, 4, 6, 7, 8] (.step 9 (pures_bt [10, 11] .fin)))) (by kernel_rfl) (by kernel_rfl) ?_
  (refine bt_pures _ fun K hK => ?_); (simp only [pick, nthC]); (repeat (go_big_quiet_step (fail))); (refine wpQuiet_nil (hK _ ?_)); (clear hK K)
  (refine bt_softs _ fun K hK => ?_); (simp only [pick, nthC]); (repeat (go_big_quiet_step (fail))); (refine wpQuiet_nil (hK _ ?_)); (clear hK K)
  (refine bt_step fun next hn => ?_); (simp only [pick, nthC])
  go_wp2_with fail
  refine (HDE.out _ (by repeat (first | exact Ext.refl _ | refine Ext.alloc ?_ _ | refine Ext.more ?_ _ _ | refine Ext.drew ?_ | refine Ext.drewN ?_ _ | refine Ext.setCell ?_ (by simp <;> omega) _))).mono ?_
  rintro e' S3 ⟨rfl, hx⟩
  have HXT : Hid (Ext S2 S3) := Lib.hid (Ext.trans (by repeat (first | exact Ext.refl _ | refine Ext.alloc ?_ _ | refine Ext.more ?_ _ _ | refine Ext.drew ?_ | refine Ext.drewN ?_ _ | refine Ext.setCell ?_ (by simp <;> omega) _)) hx)
  have HS3 := Lib.hid (HS2.out.to HXT.out)
  clear hx HDE
  go_wp2_with fail
  refine segQ_mk (fun _ => laid HXT.out) (hn _ _ ?_)
  clear hn next k0 k1 k2 k3 lg p0 p1 p2 p3 lp r0 r1 lr HXT HS2
  (refine bt_pures _ fun K hK => ?_); (simp only [pick, nthC]); (repeat (go_big_quiet_step (fail))); (refine wpQuiet_nil (hK _ ?_)); (clear hK K)
  (refine bt_fin ?_)
  obtain ⟨k0, k1, k2, k3, lg, p0, p1, p2, p3, lp, r0, r1, lr⟩ := HG.out.ext (HN3.out.ext.trans HS3.out.ext)
  have o0 := HS3.out.cell
  have ol := HS3.out.lt
  have of := HS3.out.froz
  go_wp2_with fail
  clear o0 ol of
  rw [rounds_succ]
  try clear k0 k1 k2 k3 lg p0 p1 p2 p3 lp r0 r1 lr
  obtain ⟨k0, k1, k2, k3, lg, p0, p1, p2, p3, lp, r0, r1, lr⟩ := HG.out.ext (HN3.out.ext.trans HS3.out.ext)
  have HDE := Lib.hid (fun w1 (e1 : Ext S3 w1) => deeper_nil a b C c d e (.slice (some ⟨na, 0, none⟩) 1 1) (.slice (some ⟨ob, 0, none⟩) 1 1) C e w1 (HG.out.ext ((HN3.out.ext.trans HS3.out.ext).trans e1)).rd)
  unfold gramV at HDE
  go_upto_region 11 with fail
  refine wp_region_bt (12) (pures_bt [1, 2, 3, 5] (softs_bt [0, 4, 6, 7, 8] (.step 9 (pures_bt [10, 11] .fin)))) (by kernel_rfl) (by kernel_rfl) ?_
  (refine bt_pures _ fun K hK => ?_); (simp only [pick, nthC]); (repeat (go_big_quiet_step (fail))); (refine wpQuiet_nil (hK _ ?_)); (clear hK K)
  (refine bt_softs _ fun K hK => ?_); (simp only [pick, nthC]); (repeat (go_big_quiet_step (fail))); (refine wpQuiet_nil (hK _ ?_)); (clear hK K)
  (refine bt_step fun next hn => ?_); (simp only [pick, nthC])
  go_wp2_with fail
  refine (HDE.out _ (by repeat (first | exact Ext.refl _ | refine Ext.alloc ?_ _ | refine Ext.more ?_ _ _ | refine Ext.drew ?_ | refine Ext.drewN ?_ _ | refine Ext.setCell ?_ (by simp <;> omega) _))).mono ?_
  rintro e' S4 ⟨rfl, hx⟩
  have HXT : Hid (Ext S3 S4) := Lib.hid (Ext.trans (by repeat (first | exact Ext.refl _ | refine Ext.alloc ?_ _ | refine Ext.more ?_ _ _ | refine Ext.drew ?_ | refine Ext.drewN ?_ _ | refine Ext.setCell ?_ (by simp <;> omega) _)) hx)
  have HS4 := Lib.hid (HS3.out.to HXT.out)
  clear hx HDE
  go_wp2_with fail
  refine segQ_mk (fun _ => laid HXT.out) (hn _ _ ?_)
  clear hn next k0 k1 k2 k3 lg p0 p1 p2 p3 lp r0 r1 lr HXT HS3
  (refine bt_pures _ fun K hK => ?_); (simp only [pick, nthC]); (repeat (go_big_quiet_step (fail))); (refine wpQuiet_nil (hK _ ?_)); (clear hK K)
  (refine bt_fin ?_)
  obtain ⟨k0, k1, k2, k3, lg, p0, p1, p2, p3, lp, r0, r1, lr⟩ := HG.out.ext (HN3.out.ext.trans HS4.out.ext)
  have o0 := HS4.out.cell
  have ol := HS4.out.lt
  have of := HS4.out.froz
  go_wp2_with fail
  clear o0 ol of
  rw [rounds_succ]
  try clear k0 k1 k2 k3 lg p0 p1 p2 p3 lp r0 r1 lr
  obtain ⟨k0, k1, k2, k3, lg, p0, p1, p2, p3, lp, r0, r1, lr⟩ := HG.out.ext (HN3.out.ext.trans HS4.out.ext)
  go_wp2_with fail
  clear k0 k1 k2 k3 lg p0 p1 p2 p3 lp r0 r1 lr
  rw [rounds_succ]
  go_wp2_with fail
  go_ret
  exact ⟨ob, rfl, HS4.out.blk, HX2.out.trans (HN3.out.ext.trans HS4.out.ext), Nat.le_trans HX2.out.size (Nat.le_trans HN3.out.ext.size HS4.out.low)⟩
set_option maxRecDepth 100000 in
set_option maxHeartbeats 1200000 in
theorem const_gram (a b : Nat) (C : Option Addr) (c d e : Nat) (w : World) (h : GrRd w a b C d e) (hd : d = 2) : Calls Tryz.prog 59 #[gramV a c] w fun e w' => e = .returned (.int .i64 4) ∧ Ext w w' := by
  obtain ⟨g0, W, hg0, hW, X1, hat⟩ := gr_enter w c h
  have HX := Lib.hid X1
  have HG := Lib.hid hat
  have HA := Lib.hid (fun w1 (e1 : Ext W w1) => null_gram a b C c d e w1 (hat.rd.ext e1) hd)
  have HB := Lib.hid (fun w1 (e1 : Ext W w1) => deep_gram a b C c d e w1 (hat.rd.ext e1) hd)
  clear h X1 hd
  obtain ⟨k0, k1, k2, k3, lg, p0, p1, p2, p3, lp, r0, r1, lr⟩ := hat
  unfold gramV at HA HB ⊢
  go_enter Tryz.func59, Tryz.ntmps59
  go_upto_region 1 with fail
  try simp only [hg0]
  try simp only [hW]
  clear hW hg0
  refine wp_region_bt (6) (softs_bt [0, 2] (.step 1 (.step 3 (pures_bt [4, 5] .fin)))) (by kernel_rfl) (by kernel_rfl) ?_
  (refine bt_softs _ fun K hK => ?_); (simp only [pick, nthC]); (repeat (go_big_quiet_step (fail))); (refine wpQuiet_nil (hK _ ?_)); (clear hK K)
  (refine bt_step fun next hn => ?_); (simp only [pick, nthC])
  go_wp2_with fail
  refine (HA.out _ (by repeat (first | exact Ext.refl _ | refine Ext.alloc ?_ _ | refine Ext.more ?_ _ _ | refine Ext.drew ?_ | refine Ext.drewN ?_ _ | refine Ext.setCell ?_ (by simp <;> omega) _))).mono ?_
  rintro e' W3 ⟨oa, rfl, ha⟩
  have HA3 : Hid (Own1 W W3 3 oa (.int .i64 1)) := Lib.hid ⟨ha.blk, Ext.trans (by repeat (first | exact Ext.refl _ | refine Ext.alloc ?_ _ | refine Ext.more ?_ _ _ | refine Ext.drew ?_ | refine Ext.drewN ?_ _ | refine Ext.setCell ?_ (by simp <;> omega) _)) ha.ext, ha.low⟩
  clear ha
  go_wp2_with fail
  refine segQ_mk (fun _ => laid HA3.out.ext) (hn _ _ ?_)
  clear hn next
  (refine bt_step fun next hn => ?_); (simp only [pick, nthC])
  go_wp2_with fail
  refine (HB.out _ HA3.out.ext).mono ?_
  rintro e' W4 ⟨ob, rfl, hb⟩
  have HA4 : Hid (Own1 W W4 3 oa (.int .i64 1)) := Lib.hid (HA3.out.to hb.ext)
  have HB4 : Hid (Own1 W3 W4 3 ob (.int .i64 1)) := Lib.hid hb
  clear hb
  go_wp2_with fail
  refine segQ_mk (fun _ => laid HA4.out.ext) (hn _ _ ?_)
  clear hn next k0 k1 k2 k3 lg p0 p1 p2 p3 lp r0 r1 lr
  (refine bt_pures _ fun K hK => ?_); (simp only [pick, nthC]); (repeat (go_big_quiet_step (fail))); (refine wpQuiet_nil (hK _ ?_)); (clear hK K)
  (refine bt_fin ?_)
  have a0 := HA4.out.cell
  have al := HA4.out.lt
  have b0 := HB4.out.cell
  have bl := HB4.out.lt
  go_wp2_with fail
  refine wp_loop_rounds 2 ?_
  rw [rounds_succ]
  go_upto_region 8 with fail; refine wp_region_bt (14) (pures_bt [0, 1, 2, 3, 6, 7, 8, 9] (softs_bt [4, 5, 10, 11, 12, 13] .fin)) (by kernel_rfl) (by kernel_rfl) ?_; (refine bt_pures _ fun K hK => ?_); (simp only [pick, nthC]); (repeat (go_big_quiet_step (fail))); (refine wpQuiet_nil (hK _ ?_)); (clear hK K); (refine bt_softs _ fun K hK => ?_); (simp only [pick, nthC]); (repeat (go_big_quiet_step (fail))); (refine wpQuiet_nil (hK _ ?_)); (clear hK K); (refine bt_fin ?_)
  go_wp2_with fail
  clear a0 al b0 bl
  obtain ⟨W5, hW5⟩ : ∃ V, W4.drew = V := ⟨_, rfl⟩
  have HX5 : Hid (Ext W4 W5) := Lib.hid (by rw [← hW5]; exact (by repeat (first | exact Ext.refl _ | refine Ext.alloc ?_ _ | refine Ext.more ?_ _ _ | refine Ext.drew ?_ | refine Ext.drewN ?_ _ | refine Ext.setCell ?_ (by simp <;> omega) _)))
  try simp only [hW5]
  clear hW5
  obtain ⟨k0, k1, k2, k3, lg, p0, p1, p2, p3, lp, r0, r1, lr⟩ := HG.out.ext (HA4.out.ext.trans HX5.out)
  rw [rounds_succ]
  go_wp2_with fail
  refine wp_loop_rounds 3 ?_
  rw [rounds_succ]
  go_wp2_with fail
  rw [rounds_succ]
  go_wp2_with fail
  rw [rounds_succ]
  go_wp2_with fail
  go_ret
  exact ⟨rfl, HX.out.trans (HA4.out.ext.trans HX5.out)⟩
set_option maxRecDepth 100000 in
set_option maxHeartbeats 1200000 in
theorem cost_gram (a b : Nat) (C : Option Addr) (c d e : Nat) (w : World) (h : GrRd w a b C d e) (hd : d = 2) : Calls Tryz.prog 60 #[gramV a c] w fun e w' => e = .returned (.int .i64 14) ∧ Ext w w' := by
  obtain ⟨g0, W, hg0, hW, X1, hat⟩ := gr_enter w c h
  have HX := Lib.hid X1
  have HK := Lib.hid (const_gram a b C c d e W hat.rd hd)
  clear h X1 hd
  obtain ⟨k0, k1, k2, k3, lg, p0, p1, p2, p3, lp, r0, r1, lr⟩ := hat
  unfold gramV at HK ⊢
  go_enter Tryz.func60, Tryz.ntmps60
  go_upto_region 2 with fail
  try simp only [hg0]
  try simp only [hW]
  clear hW hg0
  go_wp2_with fail
  refine wp_loop_rounds 3 ?_
  rw [rounds_succ]
  go_wp2_with fail
  rw [rounds_succ]
  go_wp2_with fail
  rw [rounds_succ]
  go_wp2_with fail
  refine HK.out.mono ?_
  rintro e' W2 ⟨rfl, hx2⟩
  have HX2 := Lib.hid hx2
  clear hx2 HK
  go_wp2_with fail
  go_ret
  exact ⟨rfl, HX.out.trans HX2.out⟩
end Go.Proofs.YthpmncdfaggkiaaGreat
/- The table of words and gaps. -/
namespace Go.Proofs.YthpmncdfaggkiaaGreat
open Go.RowKit
/-- the next state of words and gaps: from state n / 256 by byte n % 256 -/
def wordT (n : Nat) : Option Nat :=
  if n % 256 = 32 then (if n / 256 = 0 ∨ n / 256 = 1 then some 1 else none)
  else if 97 ≤ n % 256 ∧ n % 256 ≤ 122 then (if n / 256 = 0 ∨ n / 256 = 2 then some 2 else none)
  else none
theorem goF_three (z1 z2 : Cl) (ys : List Int) (b : Nat) (h0 : (0 : Int) ∉ ys) : goF [Cl.zero, z1, z2] ys b 3 = (if (1 : Int) ∈ ys ∧ hasF z1 b then [1] else []) ++ (if (2 : Int) ∈ ys ∧ hasF z2 b then [2] else []) := by
  have e : List.range 3 = [0, 1, 2] := rfl
  unfold goF
  rw [e]
  have k0 : hitF [Cl.zero, z1, z2] ys b 0 = false := by
    unfold hitF
    have : decide (((0 : Nat) : Int) ∈ ys) = false := decide_eq_false h0
    rw [this]
    rfl
  have k1 : hitF [Cl.zero, z1, z2] ys b 1 = decide ((1 : Int) ∈ ys ∧ hasF z1 b) := by
    unfold hitF
    show (decide ((1 : Int) ∈ ys) && hasF z1 b) = _
    rw [Bool.decide_and, Bool.decide_coe]
  have k2 : hitF [Cl.zero, z1, z2] ys b 2 = decide ((2 : Int) ∈ ys ∧ hasF z2 b) := by
    unfold hitF
    show (decide ((2 : Int) ∈ ys) && hasF z2 b) = _
    rw [Bool.decide_and, Bool.decide_coe]
  rw [List.filter_cons, List.filter_cons, List.filter_cons, k0, k1, k2]
  by_cases h1 : (1 : Int) ∈ ys ∧ hasF z1 b <;> by_cases h2 : (2 : Int) ∈ ys ∧ hasF z2 b <;> simp [h1, h2]
theorem found_words (z1 z2 : Cl) (h1 : ∀ b, b < 256 → hasF z1 b = decide (97 ≤ b ∧ b ≤ 122)) (h2 : ∀ b, b < 256 → hasF z2 b = decide (b = 32)) (o1 : z1.ok) (o2 : z2.ok) :
    Found [Cl.zero, z1, z2] [[1, 2], [1], [2]] [-1, 0, 1] [-1, 1, 0] [0, 2, 1] wordT := by
  have key : ∀ (i b : Nat), b < 256 → (256 * i + b) / 256 = i ∧ (256 * i + b) % 256 = b := fun i b hb => by omega
  refine ⟨rfl, by decide, fun i t ht => ?_, rfl, fun n k hn hk => ?_, fun n k p hn hk hp hs => ?_, fun i h1 h2 => ?_, fun i j s t hi hj he => ?_, fun j => ?_⟩
  · have hi : i = 0 ∨ i = 1 ∨ i = 2 := by
      have := (List.getElem?_eq_some_iff.1 ht).1
      simp at this
      omega
    rcases hi with rfl | rfl | rfl
    · obtain rfl : 0 = t := by simpa using ht
      refine ⟨by omega, -1, [1, 2], rfl, rfl, by omega, rfl, by simp, by simp, fun b hb => ?_⟩
      show goF _ _ _ 3 = _
      rw [goF_three _ _ _ _ (by simp), h1 b hb, h2 b hb]
      unfold wordT
      rw [(key 0 b hb).1, (key 0 b hb).2]
      by_cases k1 : b = 32
      · subst k1; simp
      · by_cases k2 : 97 ≤ b ∧ b ≤ 122
        · simp [k1, k2]
        · simp [k1, k2]
    · obtain rfl : 2 = t := by simpa using ht
      refine ⟨by omega, 1, [2], rfl, rfl, by omega, rfl, by simp, by simp, fun b hb => ?_⟩
      show goF _ _ _ 3 = _
      rw [goF_three _ _ _ _ (by simp), h1 b hb, h2 b hb]
      unfold wordT
      rw [(key 1 b hb).1, (key 1 b hb).2]
      by_cases k1 : b = 32
      · subst k1; simp
      · by_cases k2 : 97 ≤ b ∧ b ≤ 122
        · simp [k1, k2]
        · simp [k1, k2]
    · obtain rfl : 1 = t := by simpa using ht
      refine ⟨by omega, 0, [1], rfl, rfl, by omega, rfl, by simp, by simp, fun b hb => ?_⟩
      show goF _ _ _ 3 = _
      rw [goF_three _ _ _ _ (by simp), h1 b hb, h2 b hb]
      unfold wordT
      rw [(key 2 b hb).1, (key 2 b hb).2]
      by_cases k1 : b = 32
      · subst k1; simp
      · by_cases k2 : 97 ≤ b ∧ b ≤ 122
        · simp [k1, k2]
        · simp [k1, k2]
  · show k < 3
    unfold wordT at hk
    repeat' split at hk
    all_goals first | (injection hk with hk; omega) | cases hk
  · by_cases hk1 : k = 1
    · omega
    · have hk2 : k = 2 := by
        unfold wordT at hk
        repeat' split at hk
        all_goals first | (injection hk with hk; omega) | cases hk
      subst hk2
      have h32 : 32 < n := by
        unfold wordT at hk
        repeat' split at hk
        all_goals first | (injection hk with hk; omega) | cases hk
      have := hs 32 1 h32 rfl
      omega
  · have hi : i = 1 ∨ i = 2 := by simp at h2; omega
    rcases hi with rfl | rfl
    · exact ⟨32, by omega, rfl⟩
    · exact ⟨97, by omega, rfl⟩
  · have hi' : i = 0 ∨ i = 1 ∨ i = 2 := by
      have := (List.getElem?_eq_some_iff.1 hi).1
      simp at this
      omega
    have hj' : j = 0 ∨ j = 1 ∨ j = 2 := by
      have := (List.getElem?_eq_some_iff.1 hj).1
      simp at this
      omega
    rcases hi' with rfl | rfl | rfl <;> rcases hj' with rfl | rfl | rfl
    all_goals first
      | rfl
      | (exfalso
         simp at hi hj
         subst hi hj
         revert he
         decide)
  · match j with
    | 0 => exact Cl.zero_ok
    | 1 => exact o1
    | 2 => exact o2
    | j + 3 => exact Cl.zero_ok
theorem ok_words (z1 z2 : Cl) : NfaOk [Cl.zero, z1, z2] [[1, 2], [1], [2]] [-1, 0, 1] := by
  refine ⟨by simp, by simp, rfl, ?_, ?_, ?_, ?_⟩
  all_goals simp
end Go.Proofs.YthpmncdfaggkiaaGreat
/- Where a state leads; are two states alike? -/
namespace Go.Proofs.YthpmncdfaggkiaaGreat
open Go.RowKit
attribute [local go_sem] more_drew more_drewN more_size more_cell more_frozen more_setCell drew_more drewN_more lt_add_r lt_add_r2 lt_add_r3 lt_add_r4 lt_add_r5 lt_add_r6 lt_add_r7 lt_add_r8 lt_add_r9 lt_add_r10 lt_self_r lt_self_r2
/-- where a state leads by a byte; m: nowhere -/
def toF (nl : List Int) (m i b : Nat) : Nat := if i = m then m else if nl.getD (256 * i + b) 0 < 0 then m else (nl.getD (256 * i + b) 0).toNat
theorem toF_le {nl rl : List Int} (hO : DfaOk nl rl) {i b : Nat} (hi : i ≤ rl.length) (hb : b < 256) : toF nl rl.length i b ≤ rl.length := by
  unfold toF
  split
  · omega
  · split
    · omega
    · have hlt : 256 * i + b < nl.length := by rw [hO.len]; omega
      have := hO.next (nl.getD (256 * i + b) 0) (by rw [List.getD_eq_getElem?_getD, List.getElem?_eq_getElem hlt]; exact List.getElem_mem hlt)
      omega
set_option maxRecDepth 100000 in
set_option maxHeartbeats 4000000 in
theorem to_any (nv rv : Value) (nl rl : List Int) (i b : Nat) (w : World) (hN : DfaRd w nv rv nl rl) (hO : DfaOk nl rl) (hi : i ≤ rl.length) (hb : b < 256) :
    Calls Tryz.prog 152 #[.agg #[nv, rv], .int .i64 i, .int .i64 b] w fun e w' => e = .returned (.int .i64 (toF nl rl.length i b)) ∧ Ext w w' := by
  obtain ⟨W, hW⟩ : ∃ W, w.alloc (.cells #[nv, rv] 94) = W := ⟨_, rfl⟩
  obtain ⟨g0, hg0⟩ : ∃ b, w.heap.size = b := ⟨_, rfl⟩
  have X1 : Ext w W := by rw [← hW]; exact (by repeat (first | exact Ext.refl _ | refine Ext.alloc ?_ _ | refine Ext.more ?_ _ _ | refine Ext.drew ?_ | refine Ext.drewN ?_ _ | refine Ext.setCell ?_ (by simp <;> omega) _))
  have B1 : W.heap[g0]? = some (.cells #[nv, rv] 94) := by rw [← hW, ← hg0]; exact heap_alloc_new _ _
  obtain ⟨⟨A, c, hnv, hA, _⟩, B, d, hrv, hB, _⟩ := hN
  have h2 := hO.most
  obtain ⟨ga, oa, rfl, lga, hac⟩ := (hA.ext X1).get (by rw [hO.len]; have := hO.one; omega)
  obtain ⟨m, hmm⟩ : ∃ m, rl.length = m := ⟨_, rfl⟩
  have b0 := cell_of_row _ _ 0 _ _ _ B1
  have b1 := cell_of_row _ _ 1 _ _ _ B1
  have lb := lt_of_heap B1
  rw [hnv, hO.len, hmm] at b0
  rw [hrv, hmm] at b1
  simp at b0 b1
  have HX := Lib.hid X1
  have HNL : Hid (nl.length = 256 * m) := Lib.hid (by rw [hO.len, hmm])
  have HAC := Lib.hid hac
  have HNX := Lib.hid hO.next
  have HM := Lib.hid hmm
  rw [hmm] at hi h2
  simp only [hmm]
  clear hO hnv hrv hA hB hac hmm B1 X1
  by_cases him : i = m
  · subst him
    have HR : Hid (toF nl i i b = i) := Lib.hid (by unfold toF; rw [if_pos rfl])
    go_enter Tryz.func152, Tryz.ntmps152
    go_wp2_with fail
    go_ret
    exact ⟨ret_int (by rw [HR.out]), HX.out.trans (by repeat (first | exact Ext.refl _ | refine Ext.alloc ?_ _ | refine Ext.more ?_ _ _ | refine Ext.drew ?_ | refine Ext.drewN ?_ _ | refine Ext.setCell ?_ (by simp <;> omega) _))⟩
  · have hlt : 256 * i + b < nl.length := by rw [HNL.out]; omega
    obtain ⟨x, hx⟩ : ∃ x, nl[256 * i + b]? = some x := ⟨_, List.getElem?_eq_getElem hlt⟩
    have x0 := HAC.out _ x hx
    have hgd : nl.getD (256 * i + b) 0 = x := by rw [List.getD_eq_getElem?_getD, hx]; rfl
    have hxn := HNX.out x (List.mem_of_getElem? hx)
    have HR : Hid (toF nl m i b = if x < 0 then m else x.toNat) := Lib.hid (by unfold toF; rw [if_neg him, hgd])
    have q0 : ((i : Int) == m) = false := by simp; omega
    have q1 : decide ((i : Int) = m) = false := by simp; omega
    have q3 : decide (i = m) = false := by simp; omega
    clear hgd hx
    by_cases h0 : x < 0
    · go_enter Tryz.func152, Tryz.ntmps152
      go_wp2_with fail
      go_ret
      exact ⟨ret_int (by rw [HR.out, if_pos h0]), HX.out.trans (by repeat (first | exact Ext.refl _ | refine Ext.alloc ?_ _ | refine Ext.more ?_ _ _ | refine Ext.drew ?_ | refine Ext.drewN ?_ _ | refine Ext.setCell ?_ (by simp <;> omega) _))⟩
    · go_enter Tryz.func152, Tryz.ntmps152
      go_wp2_with fail
      go_ret
      exact ⟨ret_int (by rw [HR.out, if_neg (by omega)]; omega), HX.out.trans (by repeat (first | exact Ext.refl _ | refine Ext.alloc ?_ _ | refine Ext.more ?_ _ _ | refine Ext.drew ?_ | refine Ext.drewN ?_ _ | refine Ext.setCell ?_ (by simp <;> omega) _))⟩
/-- are two states in one part, and all that they lead to? -/
def alikeF (nl : List Int) (m : Nat) (ps : List Int) (i k : Nat) : Prop := ps.getD i 0 = ps.getD k 0 ∧ ∀ b, b < 256 → ps.getD (toF nl m i b) 0 = ps.getD (toF nl m k b) 0
theorem Ints.at {w : World} {A : Option Addr} {xs : List Int} (h : Ints w A xs) (h0 : 0 < xs.length) : ∃ b off, A = some ⟨b, off, none⟩ ∧ b < w.heap.size ∧ ∀ k, k < xs.length → w.cell? ⟨b, off + k, none⟩ = some (.int .i64 (xs.getD k 0)) := h h0
set_option maxRecDepth 100000 in
set_option maxHeartbeats 4000000 in
theorem alike_any (nv rv : Value) (nl rl ps : List Int) (P : Option Addr) (pc i k : Nat) (r : Bool) (w : World) (hN : DfaRd w nv rv nl rl) (hO : DfaOk nl rl) (hP : Ints w P ps) (hp : ps.length = rl.length + 1) (hi : i ≤ rl.length) (hk : k ≤ rl.length) (hr : r = true ↔ alikeF nl rl.length ps i k) :
    Calls Tryz.prog 183 #[.agg #[nv, rv], .slice P ps.length pc, .int .i64 i, .int .i64 k] w fun e w' => e = .returned (.bool r) ∧ Ext w w' := by
  obtain ⟨W, hW⟩ : ∃ W, w.alloc (.cells #[nv, rv] 94) = W := ⟨_, rfl⟩
  obtain ⟨g0, hg0⟩ : ∃ b, w.heap.size = b := ⟨_, rfl⟩
  have X1 : Ext w W := by rw [← hW]; exact (by repeat (first | exact Ext.refl _ | refine Ext.alloc ?_ _ | refine Ext.more ?_ _ _ | refine Ext.drew ?_ | refine Ext.drewN ?_ _ | refine Ext.setCell ?_ (by simp <;> omega) _))
  have B1 : W.heap[g0]? = some (.cells #[nv, rv] 94) := by rw [← hW, ← hg0]; exact heap_alloc_new _ _
  obtain ⟨gp, op, rfl, lgp, hpc⟩ := (hP.ext X1) (by omega)
  obtain ⟨m, hmm⟩ : ∃ m, rl.length = m := ⟨_, rfl⟩
  have h2 := hO.most
  rw [hmm] at hi hk hp h2 hr
  have p0 := hpc i (by omega)
  have p1 := hpc k (by omega)
  have HP : Hid (∀ wr, Ext W wr → ∀ j, j ≤ m → wr.cell? ⟨gp, op + j, none⟩ = some (.int .i64 (ps.getD j 0))) := Lib.hid (fun wr e j hj => ext_cell (hpc j (by omega)) lgp e)
  have HE : Hid (∀ wr, Ext W wr → wr.cell? ⟨g0, 0, none⟩ = some nv ∧ wr.cell? ⟨g0, 1, none⟩ = some rv ∧ g0 < wr.heap.size ∧ gp < wr.heap.size) := Lib.hid (fun wr e => by
    have := ext_block B1 e
    have b0 := cell_of_row _ _ 0 _ _ _ this
    have b1 := cell_of_row _ _ 1 _ _ _ this
    simp at b0 b1
    exact ⟨b0, b1, lt_of_heap this, Nat.lt_of_lt_of_le lgp e.size⟩)
  have HT : Hid (∀ wr, Ext W wr → ∀ j b, j ≤ m → b < 256 → toF nl m j b ≤ m ∧ Calls Tryz.prog 152 #[.agg #[nv, rv], .int .i64 j, .int .i64 b] wr fun e w' => e = .returned (.int .i64 (toF nl m j b)) ∧ Ext wr w') := Lib.hid (fun wr e j b hj hb => by
    have h1 := to_any nv rv nl rl j b wr (hN.ext (X1.trans e)) hO (by omega) hb
    have h3 := toF_le hO (i := j) (b := b) (by omega) hb
    rw [hmm] at h1 h3
    exact ⟨h3, h1⟩)
  have HX := Lib.hid X1
  have HRR := Lib.hid hr
  rw [hp]
  clear hN hO hP hp hmm B1 X1 hpc hr
  obtain ⟨x, hx⟩ : ∃ x, ps.getD i 0 = x := ⟨_, rfl⟩
  obtain ⟨y, hy⟩ : ∃ y, ps.getD k 0 = y := ⟨_, rfl⟩
  rw [hx] at p0
  rw [hy] at p1
  have HX0 := Lib.hid hx
  have HY0 := Lib.hid hy
  clear hx hy
  go_enter Tryz.func183, Tryz.ntmps183
  go_upto_region 1 with fail
  refine wp_region_bt (9) (pures_bt [0, 1, 2, 4, 5, 6] (softs_bt [3, 7, 8] .fin)) (by kernel_rfl) (by kernel_rfl) ?_
  (refine bt_pures _ fun K hK => ?_); (simp only [pick, nthC]); (repeat (go_big_quiet_step (fail))); (refine wpQuiet_nil (hK _ ?_)); (clear hK K)
  (refine bt_softs _ fun K hK => ?_); (simp only [pick, nthC]); (repeat (go_big_quiet_step (fail))); (refine wpQuiet_nil (hK _ ?_)); (clear hK K)
  (refine bt_fin ?_)
  try simp only [hg0]
  by_cases hxy : x = y
  · subst hxy
    simp only [bne_self_eq_false]
    go_wp2_with fail
    clear p0 p1 hW hg0 lgp
    go_loopw [9] (fun i' wr => ∃ b : Nat, b ≤ 256 ∧ i' = .int .i64 b ∧ Hid (Ext W wr) ∧ Hid (∀ c, c < b → ps.getD (toF nl m i c) 0 = ps.getD (toF nl m k c) 0)) (fun b _ => 256 - (intOf b).toNat)
    case atStart => exact ⟨0, Nat.zero_le _, rfl, Lib.hid (by repeat (first | exact Ext.refl _ | refine Ext.alloc ?_ _ | refine Ext.more ?_ _ _ | refine Ext.drew ?_ | refine Ext.drewN ?_ _ | refine Ext.setCell ?_ (by simp <;> omega) _)), Lib.hid (fun c hc => by omega)⟩
    case round =>
      obtain ⟨b, hb, rfl, hx1, hs⟩ := hrel
      by_cases hlt : b < 256
      · obtain ⟨e0, e1, l0, lp⟩ := HE.out _ hx1.out
        obtain ⟨t1, C1⟩ := HT.out _ (hx1.out.trans ((by repeat (first | exact Ext.refl _ | refine Ext.alloc ?_ _ | refine Ext.more ?_ _ _ | refine Ext.drew ?_ | refine Ext.drewN ?_ _ | refine Ext.setCell ?_ (by simp <;> omega) _)) : Ext wr wr.drew)) i b hi hlt
        have HC1 := Lib.hid C1
        clear C1
        go_upto_region 6 with fail
        refine wp_region_bt (15) (pures_bt [0, 2, 3, 7, 9, 10] (softs_bt [1, 8] (.step 4 (pures_bt [5] (softs_bt [6] (.step 11 (pures_bt [12] (softs_bt [13, 14] .fin)))))))) (by kernel_rfl) (by kernel_rfl) ?_
        (refine bt_pures _ fun K hK => ?_); (simp only [pick, nthC]); (repeat (go_big_quiet_step (fail))); (refine wpQuiet_nil (hK _ ?_)); (clear hK K)
        (refine bt_softs _ fun K hK => ?_); (simp only [pick, nthC]); (repeat (go_big_quiet_step (fail))); (refine wpQuiet_nil (hK _ ?_)); (clear hK K)
        (refine bt_step fun next hn => ?_); (simp only [pick, nthC])
        go_wp2_with fail
        refine HC1.out.mono ?_
        rintro e w2 ⟨rfl, hx2⟩
        have HY2 : Hid (Ext wr w2) := Lib.hid (Ext.trans (by repeat (first | exact Ext.refl _ | refine Ext.alloc ?_ _ | refine Ext.more ?_ _ _ | refine Ext.drew ?_ | refine Ext.drewN ?_ _ | refine Ext.setCell ?_ (by simp <;> omega) _)) hx2)
        have r1 := HP.out _ hx1.out _ t1
        obtain ⟨t2, C2⟩ := HT.out _ (hx1.out.trans HY2.out) k b hk hlt
        have HC2 := Lib.hid C2
        obtain ⟨ta, hta⟩ : ∃ ta, toF nl m i b = ta := ⟨_, rfl⟩
        obtain ⟨tb, htb⟩ : ∃ tb, toF nl m k b = tb := ⟨_, rfl⟩
        rw [hta] at r1 t1
        rw [htb] at t2 HC2
        simp only [hta]
        obtain ⟨x1, hx1v⟩ : ∃ x1, ps.getD ta 0 = x1 := ⟨_, rfl⟩
        rw [hx1v] at r1
        have HA := Lib.hid (And.intro hta hx1v)
        clear hx2 C2 HC1 hta hx1v e0 e1
        go_wp2_with fail
        refine segQ_mk (fun _ => laid HY2.out) (hn _ _ ?_)
        clear hn next
        (refine bt_pures _ fun K hK => ?_); (simp only [pick, nthC]); (repeat (go_big_quiet_step (fail))); (refine wpQuiet_nil (hK _ ?_)); (clear hK K)
        (refine bt_softs _ fun K hK => ?_); (simp only [pick, nthC]); (repeat (go_big_quiet_step (fail))); (refine wpQuiet_nil (hK _ ?_)); (clear hK K)
        (refine bt_step fun next hn => ?_); (simp only [pick, nthC])
        go_wp2_with fail
        refine HC2.out.mono ?_
        rintro e w3 ⟨rfl, hx3⟩
        have HY3 : Hid (Ext wr w3) := Lib.hid (HY2.out.trans hx3)
        have r2 := HP.out _ hx1.out _ t2
        obtain ⟨x2, hx2v⟩ : ∃ x2, ps.getD tb 0 = x2 := ⟨_, rfl⟩
        rw [hx2v] at r2
        have HB := Lib.hid (And.intro htb hx2v)
        clear hx3 HC2 htb hx2v r1
        go_wp2_with fail
        refine segQ_mk (fun _ => laid HY3.out) (hn _ _ ?_)
        clear hn next
        (refine bt_pures _ fun K hK => ?_); (simp only [pick, nthC]); (repeat (go_big_quiet_step (fail))); (refine wpQuiet_nil (hK _ ?_)); (clear hK K)
        (refine bt_softs _ fun K hK => ?_); (simp only [pick, nthC]); (repeat (go_big_quiet_step (fail))); (refine wpQuiet_nil (hK _ ?_)); (clear hK K)
        (refine bt_fin ?_)
        by_cases h12 : x1 = x2
        · have HS2 : Hid (∀ c, c < b + 1 → ps.getD (toF nl m i c) 0 = ps.getD (toF nl m k c) 0) := Lib.hid (fun c hc => by
            rcases Nat.lt_or_ge c b with h | h
            · exact hs.out c h
            · obtain rfl : c = b := by omega
              rw [HA.out.1, HB.out.1, HA.out.2, HB.out.2, h12])
          subst h12
          go_wp2_with fail
          go_roundw
          case rel => exact ⟨b + 1, by omega, by go_num, Lib.hid (hx1.out.trans HY3.out), HS2⟩
          case measure => simp [intOf]; omega
        · have hrf : Hid (r = false) := Lib.hid (by
            cases hr : r with
            | false => rfl
            | true => exact absurd ((HRR.out.1 hr).2 b hlt) (by rw [HA.out.1, HB.out.1, HA.out.2, HB.out.2]; exact h12))
          have q : (x1 != x2) = true := by simp [h12]
          go_wp2_with fail
          go_ret
          exact ⟨ret_bool hrf.out.symm, HX.out.trans (hx1.out.trans (HY3.out.trans (by repeat (first | exact Ext.refl _ | refine Ext.alloc ?_ _ | refine Ext.more ?_ _ _ | refine Ext.drew ?_ | refine Ext.drewN ?_ _ | refine Ext.setCell ?_ (by simp <;> omega) _))))⟩
      · obtain rfl : b = 256 := by omega
        have hrt : Hid (r = true) := Lib.hid (HRR.out.2 ⟨HX0.out.trans HY0.out.symm, hs.out⟩)
        go_wp2_with fail
        go_ret
        exact ⟨ret_bool hrt.out.symm, HX.out.trans hx1.out⟩
  · have hrf : Hid (r = false) := Lib.hid (by
      cases hr : r with
      | false => rfl
      | true => exact absurd (HRR.out.1 hr).1 (by rw [HX0.out, HY0.out]; exact hxy))
    have q : (x != y) = true := by simp [hxy]
    go_wp2_with fail
    go_ret
    exact ⟨ret_bool hrf.out.symm, HX.out.trans (by repeat (first | exact Ext.refl _ | refine Ext.alloc ?_ _ | refine Ext.more ?_ _ _ | refine Ext.drew ?_ | refine Ext.drewN ?_ _ | refine Ext.setCell ?_ (by simp <;> omega) _))⟩
end Go.Proofs.YthpmncdfaggkiaaGreat
