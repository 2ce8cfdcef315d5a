/- Cr: texts that the proof rests on, part 8. -/
import Derived.Test.YthpmncdfaggkiaaGreatCr1
import Derived.Test.YthpmncdfaggkiaaGreatCr2
import Derived.Test.YthpmncdfaggkiaaGreatCr3
import Derived.Test.YthpmncdfaggkiaaGreatCr5
import Derived.Test.YthpmncdfaggkiaaGreatCr6
import Derived.Test.YthpmncdfaggkiaaGreatCr7
namespace Go.Proofs.YthpmncdfaggkiaaGreat
open Go.RowKit
attribute [local go_sem] more_drew more_drewN more_size more_cell more_frozen more_setCell drew_more drewN_more lt_add_r lt_add_r2 lt_add_r3 lt_add_r4 lt_add_r5 lt_add_r6 lt_add_r7 lt_add_r8 lt_add_r9 lt_add_r10 lt_self_r lt_self_r2
theorem infoTexts : (Tryz.prog.info? 161).map (fun i => (i.zero, i.size, i.bytes)) = some (some (.slice none 0 0), 1, 24) := by kernel_rfl
theorem mk_set1 (w : World) : (Instr.makeSlice 101 (.int .i64 1) (.int .i64 1)).run Tryz.prog w = .ok (.slice (some ⟨w.heap.size, 0, none⟩) 1 1) (w.alloc (.cells #[nil0] 161)) := by
 obtain ⟨i3, hi, hz0, hz1, hz2⟩ := info_parts infoTexts
 have h := run_makeSlice (P := Tryz.prog) w 101 161 i3 nil0 Tryz.underlying101 hi hz0 .i64 .i64 (1 : Int) (1 : Int) (by omega) (by omega) (by rw [hz1]; omega) (by rw [hz2]; omega) (by omega)
 rw [hz1, show (1 : Int).toNat * 1 = 1 from rfl, show madeCells nil0.cells 1 = #[nil0] from by
  apply Array.toList_inj.1
  show (madeCells #[nil0] 1).toList = _
  rw [toList_madeCells_one]
  rfl] at h
 exact h
theorem un0 (va vb : Value) (w : World) (ha : StrV w va [tz]) (hb : StrV w vb (ofF [tz])) : Calls Tryz.prog 161 #[va, vb] w (StrRet w [tz, tx 0]) :=
 union_texts va vb [tz] (ofF [tz]) [tz, tx 0] w ha hb (by decide) (by decide) (by decide) (by decide) (.inr ⟨0, rfl⟩)
theorem un1 (va vb : Value) (w : World) (ha : StrV w va [tz, tx 0]) (hb : StrV w vb ([tz])) : Calls Tryz.prog 161 #[va, vb] w (StrRet w [tz, tx 0]) :=
 union_texts va vb [tz, tx 0] ([tz]) [tz, tx 0] w ha hb (by decide) (by decide) (by decide) (by decide) (.inr ⟨0, rfl⟩)
theorem un2 (va vb : Value) (w : World) (ha : StrV w va [tz, tx 0]) (hb : StrV w vb (ofF [tz, tx 0])) : Calls Tryz.prog 161 #[va, vb] w (StrRet w [tz, tx 0]) :=
 union_texts va vb [tz, tx 0] (ofF [tz, tx 0]) [tz, tx 0] w ha hb (by decide) (by decide) (by decide) (by decide) (.inr ⟨0, rfl⟩)
theorem un3 (va vb : Value) (w : World) (ha : StrV w va []) (hb : StrV w vb ([tz])) : Calls Tryz.prog 161 #[va, vb] w (StrRet w [tz]) :=
 union_texts va vb [] ([tz]) [tz] w ha hb (by decide) (by decide) (by decide) (by decide) (.inl (by decide))
theorem un4 (va vb : Value) (w : World) (ha : StrV w va []) (hb : StrV w vb (ofF [])) : Calls Tryz.prog 161 #[va, vb] w (StrRet w []) :=
 union_texts va vb [] (ofF []) [] w ha hb (by decide) (by decide) (by decide) (by decide) (.inl (by decide))
set_option maxRecDepth 100000 in
set_option maxHeartbeats 4000000 in
theorem first_sets (a b : Nat) (C : Option Addr) (c d e : Nat) (w : World) (h : GrRd w a b C d e) : Calls Tryz.prog 157 #[gramV a c] w fun e w' => ∃ ob v, e = .returned (.slice (some ⟨ob, 0, none⟩) 1 1) ∧ SetOwn w w' ob v [tz, tx 0] := by
 obtain ⟨g0, W, hg0, hW, X1, hat⟩ := gr_enter w c h
 have HX := zh X1
 have HCK := zh (check_gram a b C c d e W (h.ext X1))
 have HGW := zh hat
 clear h X1
 obtain ⟨k0, k1, k2, k3, lg, p0, p1, p2, p3, lp, r0, r1, lr⟩ := hat
 unfold gramV
 go_enter Tryz.func157, Tryz.ntmps157
 go_wp2_with fail
 try simp only [hg0]
 refine HCK.out.mono ?_
 rintro e' W2 ⟨rfl, hx2⟩
 have HG := zh (HGW.out.ext hx2)
 have HX2 := zh (HX.out.trans hx2)
 clear hW hg0 k0 k1 k2 k3 lg p0 p1 p2 p3 lp r0 r1 lr hx2 HCK HX HGW
 obtain ⟨k0, k1, k2, k3, lg, p0, p1, p2, p3, lp, r0, r1, lr⟩ := HG.out
 have hmk := mk_set1
 obtain ⟨ob, hob⟩ : ∃ ob, W2.heap.size = ob := ⟨_, rfl⟩
 obtain ⟨S0, hW3⟩ : ∃ W3, W2.alloc (.cells #[nil0] 161) = W3 := ⟨_, rfl⟩
 have HS0 : Hid (SetOwn W2 S0 ob nil0 []) := zh (by rw [← hW3, ← hob]; exact ⟨Own1.new (Ext.refl _) _, strV_nil _⟩)
 go_wp2_with fail
 try simp only [hob, hW3]
 clear hob hW3 hmk k0 k1 k2 k3 lg p0 p1 p2 p3 lp r0 r1 lr
 refine wp_loop_rounds 4 ?_
 rw [rounds_succ]
 go_wp2_with fail
 refine wp_loop_rounds 3 ?_
 rw [rounds_succ]
 obtain ⟨k0, k1, k2, k3, lg, p0, p1, p2, p3, lp, r0, r1, lr⟩ := HG.out.ext HS0.out.own.ext
 obtain ⟨pb, Wb, P0, hpb, hWb, hW4, z0, z1, zf, zl, hq, X4⟩ := prod_copy2 S0 (.slice (some ⟨b, 0, none⟩) 2 d)
 have HP0 := zh (HS0.out.to X4)
 have HQ := zh hq
 clear X4 hq
 go_upto_region 11 with fail
 try simp only [hpb, hWb, hW4]
 clear hpb hWb hW4 z0 z1 zf zl k0 k1 k2 k3 lg p0 p1 p2 p3 lp r0 r1 lr
 obtain ⟨k0, k1, k2, k3, lg, p0, p1, p2, p3, lp, r0, r1, lr⟩ := HG.out.ext HP0.out.own.ext
 obtain ⟨q0, q1, ql⟩ := HQ.out
 have o0 := HP0.out.own.cell
 have ol := HP0.out.own.lt
 have HOF := zh (fun w1 (e1 : Ext P0 w1) => of_two a b C c d e ob _ _ 1 d w1 ((HG.out.ext HP0.out.own.ext).ext e1).rd (HP0.out.rd.ext e1))
 unfold gramV at HOF
 refine wp_region_bt (12) (pures_bt [0, 1, 6, 7] (softs_bt [2, 3, 4, 5, 8] (.step 9 (.step 10 (pures_bt [11] .fin))))) (by kernel_rfl) (by kernel_rfl) ?_
 refine bt_pures _ fun K hK => ?_; simp only [pick, nthC]; (repeat go_big_quiet_step (fail)); refine wpQuiet_nil (hK _ ?_); clear hK K
 refine bt_softs _ fun K hK => ?_; simp only [pick, nthC]; (repeat go_big_quiet_step (fail)); refine wpQuiet_nil (hK _ ?_); clear hK K
 refine bt_step fun next hn => ?_; simp only [pick, nthC]
 go_wp2_with fail
 refine (HOF.out _ (by repeat first | exact xr _ | refine xa ?_ _ | refine xm ?_ _ _ | refine xd ?_ | refine xn ?_ _ | refine xs ?_ (by simp <;> omega) _)).mono ?_
 rintro e' Q0 ⟨vo, rfl, hvo, hxo⟩
 have HXo : Hid (Ext P0 Q0) := zh (Ext.trans (by repeat first | exact xr _ | refine xa ?_ _ | refine xm ?_ _ _ | refine xd ?_ | refine xn ?_ _ | refine xs ?_ (by simp <;> omega) _) hxo)
 have HUN := zh (un4 _ _ Q0 (HP0.out.to HXo.out).str hvo)
 clear hxo hvo HOF
 go_wp2_with fail
 refine segQ_mk (fun _ => laid HXo.out) (hn _ _ ?_)
 clear hn next
 refine bt_step fun next hn => ?_; simp only [pick, nthC]
 go_wp2_with fail
 refine HUN.out.mono ?_
 rintro e' R0 ⟨vu, rfl, hvu, hxu⟩
 have HXu : Hid (Ext P0 R0) := zh (HXo.out.trans hxu)
 obtain ⟨A0, c0, rfl⟩ := hvu.at (n := 0) (by rfl)
 have HVU := zh hvu
 clear hvu hxu HUN HXo
 go_wp2_with fail
 refine segQ_mk (fun _ => laid HXu.out) (hn _ _ ?_)
 clear hn next k0 k1 k2 k3 lg p0 p1 p2 p3 lp r0 r1 lr q0 q1 ql o0 ol
 refine bt_pures _ fun K hK => ?_; simp only [pick, nthC]; (repeat go_big_quiet_step (fail)); refine wpQuiet_nil (hK _ ?_); clear hK K
 (refine bt_fin ?_)
 obtain ⟨k0, k1, k2, k3, lg, p0, p1, p2, p3, lp, r0, r1, lr⟩ := HG.out.ext (HP0.out.own.ext.trans HXu.out)
 obtain ⟨q0, q1, ql⟩ := HQ.out.ext HXu.out
 have HR0 := zh (HP0.out.to HXu.out)
 have o0 := HR0.out.own.cell
 have ol := HR0.out.own.lt
 have of := HR0.out.own.froz
 obtain ⟨S1, hT⟩ : ∃ W, R0.setCell ⟨ob, 0, none⟩ (.slice A0 0 c0) = W := ⟨_, rfl⟩
 have HS1 := zh (HR0.out.put HVU.out hT)
 clear HS0
 go_wp2_with fail
 clear hT o0 ol of k0 k1 k2 k3 lg p0 p1 p2 p3 lp r0 r1 lr q0 q1 ql HR0 HP0 HXu HQ HVU
 rw [rounds_succ]
 obtain ⟨k0, k1, k2, k3, lg, p0, p1, p2, p3, lp, r0, r1, lr⟩ := HG.out.ext HS1.out.own.ext
 obtain ⟨pb, Wb, P1, hpb, hWb, hW4, z0, z1, zf, zl, hq, X4⟩ := prod_copy2 S1 (.slice C 0 e)
 have HP1 := zh (HS1.out.to X4)
 have HQ := zh hq
 clear X4 hq
 go_upto_region 11 with fail
 try simp only [hpb, hWb, hW4]
 clear hpb hWb hW4 z0 z1 zf zl k0 k1 k2 k3 lg p0 p1 p2 p3 lp r0 r1 lr
 obtain ⟨k0, k1, k2, k3, lg, p0, p1, p2, p3, lp, r0, r1, lr⟩ := HG.out.ext HP1.out.own.ext
 obtain ⟨q0, q1, ql⟩ := HQ.out
 have o0 := HP1.out.own.cell
 have ol := HP1.out.own.lt
 have HOF := zh (fun w1 (e1 : Ext P1 w1) => of_nil a b C c d e (.slice (some ⟨ob, 0, none⟩) 1 1) C e w1 ((HG.out.ext HP1.out.own.ext).ext e1).rd)
 unfold gramV at HOF
 refine wp_region_bt (12) (pures_bt [0, 1, 6, 7] (softs_bt [2, 3, 4, 5, 8] (.step 9 (.step 10 (pures_bt [11] .fin))))) (by kernel_rfl) (by kernel_rfl) ?_
 refine bt_pures _ fun K hK => ?_; simp only [pick, nthC]; (repeat go_big_quiet_step (fail)); refine wpQuiet_nil (hK _ ?_); clear hK K
 refine bt_softs _ fun K hK => ?_; simp only [pick, nthC]; (repeat go_big_quiet_step (fail)); refine wpQuiet_nil (hK _ ?_); clear hK K
 refine bt_step fun next hn => ?_; simp only [pick, nthC]
 go_wp2_with fail
 refine (HOF.out _ (by repeat first | exact xr _ | refine xa ?_ _ | refine xm ?_ _ _ | refine xd ?_ | refine xn ?_ _ | refine xs ?_ (by simp <;> omega) _)).mono ?_
 rintro e' Q1 ⟨vo, rfl, hvo, hxo⟩
 have HXo : Hid (Ext P1 Q1) := zh (Ext.trans (by repeat first | exact xr _ | refine xa ?_ _ | refine xm ?_ _ _ | refine xd ?_ | refine xn ?_ _ | refine xs ?_ (by simp <;> omega) _) hxo)
 have HUN := zh (un3 _ _ Q1 (HP1.out.to HXo.out).str hvo)
 clear hxo hvo HOF
 go_wp2_with fail
 refine segQ_mk (fun _ => laid HXo.out) (hn _ _ ?_)
 clear hn next
 refine bt_step fun next hn => ?_; simp only [pick, nthC]
 go_wp2_with fail
 refine HUN.out.mono ?_
 rintro e' R1 ⟨vu, rfl, hvu, hxu⟩
 have HXu : Hid (Ext P1 R1) := zh (HXo.out.trans hxu)
 obtain ⟨A1, c1, rfl⟩ := hvu.at (n := 1) (by rfl)
 have HVU := zh hvu
 clear hvu hxu HUN HXo
 go_wp2_with fail
 refine segQ_mk (fun _ => laid HXu.out) (hn _ _ ?_)
 clear hn next k0 k1 k2 k3 lg p0 p1 p2 p3 lp r0 r1 lr q0 q1 ql o0 ol
 refine bt_pures _ fun K hK => ?_; simp only [pick, nthC]; (repeat go_big_quiet_step (fail)); refine wpQuiet_nil (hK _ ?_); clear hK K
 (refine bt_fin ?_)
 obtain ⟨k0, k1, k2, k3, lg, p0, p1, p2, p3, lp, r0, r1, lr⟩ := HG.out.ext (HP1.out.own.ext.trans HXu.out)
 obtain ⟨q0, q1, ql⟩ := HQ.out.ext HXu.out
 have HR1 := zh (HP1.out.to HXu.out)
 have o0 := HR1.out.own.cell
 have ol := HR1.out.own.lt
 have of := HR1.out.own.froz
 obtain ⟨S2, hT⟩ : ∃ W, R1.setCell ⟨ob, 0, none⟩ (.slice A1 1 c1) = W := ⟨_, rfl⟩
 have HS2 := zh (HR1.out.put HVU.out hT)
 clear HS1
 go_wp2_with fail
 clear hT o0 ol of k0 k1 k2 k3 lg p0 p1 p2 p3 lp r0 r1 lr q0 q1 ql HR1 HP1 HXu HQ HVU
 rw [rounds_succ]
 obtain ⟨k0, k1, k2, k3, lg, p0, p1, p2, p3, lp, r0, r1, lr⟩ := HG.out.ext HS2.out.own.ext
 go_wp2_with fail
 clear k0 k1 k2 k3 lg p0 p1 p2 p3 lp r0 r1 lr
 rw [rounds_succ]
 go_wp2_with fail
 refine wp_loop_rounds 3 ?_
 rw [rounds_succ]
 obtain ⟨k0, k1, k2, k3, lg, p0, p1, p2, p3, lp, r0, r1, lr⟩ := HG.out.ext HS2.out.own.ext
 obtain ⟨pb, Wb, P2, hpb, hWb, hW4, z0, z1, zf, zl, hq, X4⟩ := prod_copy2 S2 (.slice (some ⟨b, 0, none⟩) 2 d)
 have HP2 := zh (HS2.out.to X4)
 have HQ := zh hq
 clear X4 hq
 go_upto_region 11 with fail
 try simp only [hpb, hWb, hW4]
 clear hpb hWb hW4 z0 z1 zf zl k0 k1 k2 k3 lg p0 p1 p2 p3 lp r0 r1 lr
 obtain ⟨k0, k1, k2, k3, lg, p0, p1, p2, p3, lp, r0, r1, lr⟩ := HG.out.ext HP2.out.own.ext
 obtain ⟨q0, q1, ql⟩ := HQ.out
 have o0 := HP2.out.own.cell
 have ol := HP2.out.own.lt
 have HOF := zh (fun w1 (e1 : Ext P2 w1) => of_two a b C c d e ob _ _ 1 d w1 ((HG.out.ext HP2.out.own.ext).ext e1).rd (HP2.out.rd.ext e1))
 unfold gramV at HOF
 refine wp_region_bt (12) (pures_bt [0, 1, 6, 7] (softs_bt [2, 3, 4, 5, 8] (.step 9 (.step 10 (pures_bt [11] .fin))))) (by kernel_rfl) (by kernel_rfl) ?_
 refine bt_pures _ fun K hK => ?_; simp only [pick, nthC]; (repeat go_big_quiet_step (fail)); refine wpQuiet_nil (hK _ ?_); clear hK K
 refine bt_softs _ fun K hK => ?_; simp only [pick, nthC]; (repeat go_big_quiet_step (fail)); refine wpQuiet_nil (hK _ ?_); clear hK K
 refine bt_step fun next hn => ?_; simp only [pick, nthC]
 go_wp2_with fail
 refine (HOF.out _ (by repeat first | exact xr _ | refine xa ?_ _ | refine xm ?_ _ _ | refine xd ?_ | refine xn ?_ _ | refine xs ?_ (by simp <;> omega) _)).mono ?_
 rintro e' Q2 ⟨vo, rfl, hvo, hxo⟩
 have HXo : Hid (Ext P2 Q2) := zh (Ext.trans (by repeat first | exact xr _ | refine xa ?_ _ | refine xm ?_ _ _ | refine xd ?_ | refine xn ?_ _ | refine xs ?_ (by simp <;> omega) _) hxo)
 have HUN := zh (un0 _ _ Q2 (HP2.out.to HXo.out).str hvo)
 clear hxo hvo HOF
 go_wp2_with fail
 refine segQ_mk (fun _ => laid HXo.out) (hn _ _ ?_)
 clear hn next
 refine bt_step fun next hn => ?_; simp only [pick, nthC]
 go_wp2_with fail
 refine HUN.out.mono ?_
 rintro e' R2 ⟨vu, rfl, hvu, hxu⟩
 have HXu : Hid (Ext P2 R2) := zh (HXo.out.trans hxu)
 obtain ⟨A2, c2, rfl⟩ := hvu.at (n := 2) (by rfl)
 have HVU := zh hvu
 clear hvu hxu HUN HXo
 go_wp2_with fail
 refine segQ_mk (fun _ => laid HXu.out) (hn _ _ ?_)
 clear hn next k0 k1 k2 k3 lg p0 p1 p2 p3 lp r0 r1 lr q0 q1 ql o0 ol
 refine bt_pures _ fun K hK => ?_; simp only [pick, nthC]; (repeat go_big_quiet_step (fail)); refine wpQuiet_nil (hK _ ?_); clear hK K
 (refine bt_fin ?_)
 obtain ⟨k0, k1, k2, k3, lg, p0, p1, p2, p3, lp, r0, r1, lr⟩ := HG.out.ext (HP2.out.own.ext.trans HXu.out)
 obtain ⟨q0, q1, ql⟩ := HQ.out.ext HXu.out
 have HR2 := zh (HP2.out.to HXu.out)
 have o0 := HR2.out.own.cell
 have ol := HR2.out.own.lt
 have of := HR2.out.own.froz
 obtain ⟨S3, hT⟩ : ∃ W, R2.setCell ⟨ob, 0, none⟩ (.slice A2 2 c2) = W := ⟨_, rfl⟩
 have HS3 := zh (HR2.out.put HVU.out hT)
 clear HS2
 go_wp2_with fail
 clear hT o0 ol of k0 k1 k2 k3 lg p0 p1 p2 p3 lp r0 r1 lr q0 q1 ql HR2 HP2 HXu HQ HVU
 rw [rounds_succ]
 obtain ⟨k0, k1, k2, k3, lg, p0, p1, p2, p3, lp, r0, r1, lr⟩ := HG.out.ext HS3.out.own.ext
 obtain ⟨pb, Wb, P3, hpb, hWb, hW4, z0, z1, zf, zl, hq, X4⟩ := prod_copy2 S3 (.slice C 0 e)
 have HP3 := zh (HS3.out.to X4)
 have HQ := zh hq
 clear X4 hq
 go_upto_region 11 with fail
 try simp only [hpb, hWb, hW4]
 clear hpb hWb hW4 z0 z1 zf zl k0 k1 k2 k3 lg p0 p1 p2 p3 lp r0 r1 lr
 obtain ⟨k0, k1, k2, k3, lg, p0, p1, p2, p3, lp, r0, r1, lr⟩ := HG.out.ext HP3.out.own.ext
 obtain ⟨q0, q1, ql⟩ := HQ.out
 have o0 := HP3.out.own.cell
 have ol := HP3.out.own.lt
 have HOF := zh (fun w1 (e1 : Ext P3 w1) => of_nil a b C c d e (.slice (some ⟨ob, 0, none⟩) 1 1) C e w1 ((HG.out.ext HP3.out.own.ext).ext e1).rd)
 unfold gramV at HOF
 refine wp_region_bt (12) (pures_bt [0, 1, 6, 7] (softs_bt [2, 3, 4, 5, 8] (.step 9 (.step 10 (pures_bt [11] .fin))))) (by kernel_rfl) (by kernel_rfl) ?_
 refine bt_pures _ fun K hK => ?_; simp only [pick, nthC]; (repeat go_big_quiet_step (fail)); refine wpQuiet_nil (hK _ ?_); clear hK K
 refine bt_softs _ fun K hK => ?_; simp only [pick, nthC]; (repeat go_big_quiet_step (fail)); refine wpQuiet_nil (hK _ ?_); clear hK K
 refine bt_step fun next hn => ?_; simp only [pick, nthC]
 go_wp2_with fail
 refine (HOF.out _ (by repeat first | exact xr _ | refine xa ?_ _ | refine xm ?_ _ _ | refine xd ?_ | refine xn ?_ _ | refine xs ?_ (by simp <;> omega) _)).mono ?_
 rintro e' Q3 ⟨vo, rfl, hvo, hxo⟩
 have HXo : Hid (Ext P3 Q3) := zh (Ext.trans (by repeat first | exact xr _ | refine xa ?_ _ | refine xm ?_ _ _ | refine xd ?_ | refine xn ?_ _ | refine xs ?_ (by simp <;> omega) _) hxo)
 have HUN := zh (un1 _ _ Q3 (HP3.out.to HXo.out).str hvo)
 clear hxo hvo HOF
 go_wp2_with fail
 refine segQ_mk (fun _ => laid HXo.out) (hn _ _ ?_)
 clear hn next
 refine bt_step fun next hn => ?_; simp only [pick, nthC]
 go_wp2_with fail
 refine HUN.out.mono ?_
 rintro e' R3 ⟨vu, rfl, hvu, hxu⟩
 have HXu : Hid (Ext P3 R3) := zh (HXo.out.trans hxu)
 obtain ⟨A3, c3, rfl⟩ := hvu.at (n := 2) (by rfl)
 have HVU := zh hvu
 clear hvu hxu HUN HXo
 go_wp2_with fail
 refine segQ_mk (fun _ => laid HXu.out) (hn _ _ ?_)
 clear hn next k0 k1 k2 k3 lg p0 p1 p2 p3 lp r0 r1 lr q0 q1 ql o0 ol
 refine bt_pures _ fun K hK => ?_; simp only [pick, nthC]; (repeat go_big_quiet_step (fail)); refine wpQuiet_nil (hK _ ?_); clear hK K
 (refine bt_fin ?_)
 obtain ⟨k0, k1, k2, k3, lg, p0, p1, p2, p3, lp, r0, r1, lr⟩ := HG.out.ext (HP3.out.own.ext.trans HXu.out)
 obtain ⟨q0, q1, ql⟩ := HQ.out.ext HXu.out
 have HR3 := zh (HP3.out.to HXu.out)
 have o0 := HR3.out.own.cell
 have ol := HR3.out.own.lt
 have of := HR3.out.own.froz
 obtain ⟨S4, hT⟩ : ∃ W, R3.setCell ⟨ob, 0, none⟩ (.slice A3 2 c3) = W := ⟨_, rfl⟩
 have HS4 := zh (HR3.out.put HVU.out hT)
 clear HS3
 go_wp2_with fail
 clear hT o0 ol of k0 k1 k2 k3 lg p0 p1 p2 p3 lp r0 r1 lr q0 q1 ql HR3 HP3 HXu HQ HVU
 rw [rounds_succ]
 obtain ⟨k0, k1, k2, k3, lg, p0, p1, p2, p3, lp, r0, r1, lr⟩ := HG.out.ext HS4.out.own.ext
 go_wp2_with fail
 clear k0 k1 k2 k3 lg p0 p1 p2 p3 lp r0 r1 lr
 rw [rounds_succ]
 go_wp2_with fail
 refine wp_loop_rounds 3 ?_
 rw [rounds_succ]
 obtain ⟨k0, k1, k2, k3, lg, p0, p1, p2, p3, lp, r0, r1, lr⟩ := HG.out.ext HS4.out.own.ext
 obtain ⟨pb, Wb, P4, hpb, hWb, hW4, z0, z1, zf, zl, hq, X4⟩ := prod_copy2 S4 (.slice (some ⟨b, 0, none⟩) 2 d)
 have HP4 := zh (HS4.out.to X4)
 have HQ := zh hq
 clear X4 hq
 go_upto_region 11 with fail
 try simp only [hpb, hWb, hW4]
 clear hpb hWb hW4 z0 z1 zf zl k0 k1 k2 k3 lg p0 p1 p2 p3 lp r0 r1 lr
 obtain ⟨k0, k1, k2, k3, lg, p0, p1, p2, p3, lp, r0, r1, lr⟩ := HG.out.ext HP4.out.own.ext
 obtain ⟨q0, q1, ql⟩ := HQ.out
 have o0 := HP4.out.own.cell
 have ol := HP4.out.own.lt
 have HOF := zh (fun w1 (e1 : Ext P4 w1) => of_two a b C c d e ob _ _ 1 d w1 ((HG.out.ext HP4.out.own.ext).ext e1).rd (HP4.out.rd.ext e1))
 unfold gramV at HOF
 refine wp_region_bt (12) (pures_bt [0, 1, 6, 7] (softs_bt [2, 3, 4, 5, 8] (.step 9 (.step 10 (pures_bt [11] .fin))))) (by kernel_rfl) (by kernel_rfl) ?_
 refine bt_pures _ fun K hK => ?_; simp only [pick, nthC]; (repeat go_big_quiet_step (fail)); refine wpQuiet_nil (hK _ ?_); clear hK K
 refine bt_softs _ fun K hK => ?_; simp only [pick, nthC]; (repeat go_big_quiet_step (fail)); refine wpQuiet_nil (hK _ ?_); clear hK K
 refine bt_step fun next hn => ?_; simp only [pick, nthC]
 go_wp2_with fail
 refine (HOF.out _ (by repeat first | exact xr _ | refine xa ?_ _ | refine xm ?_ _ _ | refine xd ?_ | refine xn ?_ _ | refine xs ?_ (by simp <;> omega) _)).mono ?_
 rintro e' Q4 ⟨vo, rfl, hvo, hxo⟩
 have HXo : Hid (Ext P4 Q4) := zh (Ext.trans (by repeat first | exact xr _ | refine xa ?_ _ | refine xm ?_ _ _ | refine xd ?_ | refine xn ?_ _ | refine xs ?_ (by simp <;> omega) _) hxo)
 have HUN := zh (un2 _ _ Q4 (HP4.out.to HXo.out).str hvo)
 clear hxo hvo HOF
 go_wp2_with fail
 refine segQ_mk (fun _ => laid HXo.out) (hn _ _ ?_)
 clear hn next
 refine bt_step fun next hn => ?_; simp only [pick, nthC]
 go_wp2_with fail
 refine HUN.out.mono ?_
 rintro e' R4 ⟨vu, rfl, hvu, hxu⟩
 have HXu : Hid (Ext P4 R4) := zh (HXo.out.trans hxu)
 obtain ⟨A4, c4, rfl⟩ := hvu.at (n := 2) (by rfl)
 have HVU := zh hvu
 clear hvu hxu HUN HXo
 go_wp2_with fail
 refine segQ_mk (fun _ => laid HXu.out) (hn _ _ ?_)
 clear hn next k0 k1 k2 k3 lg p0 p1 p2 p3 lp r0 r1 lr q0 q1 ql o0 ol
 refine bt_pures _ fun K hK => ?_; simp only [pick, nthC]; (repeat go_big_quiet_step (fail)); refine wpQuiet_nil (hK _ ?_); clear hK K
 (refine bt_fin ?_)
 obtain ⟨k0, k1, k2, k3, lg, p0, p1, p2, p3, lp, r0, r1, lr⟩ := HG.out.ext (HP4.out.own.ext.trans HXu.out)
 obtain ⟨q0, q1, ql⟩ := HQ.out.ext HXu.out
 have HR4 := zh (HP4.out.to HXu.out)
 have o0 := HR4.out.own.cell
 have ol := HR4.out.own.lt
 have of := HR4.out.own.froz
 obtain ⟨S5, hT⟩ : ∃ W, R4.setCell ⟨ob, 0, none⟩ (.slice A4 2 c4) = W := ⟨_, rfl⟩
 have HS5 := zh (HR4.out.put HVU.out hT)
 clear HS4
 go_wp2_with fail
 clear hT o0 ol of k0 k1 k2 k3 lg p0 p1 p2 p3 lp r0 r1 lr q0 q1 ql HR4 HP4 HXu HQ HVU
 rw [rounds_succ]
 obtain ⟨k0, k1, k2, k3, lg, p0, p1, p2, p3, lp, r0, r1, lr⟩ := HG.out.ext HS5.out.own.ext
 obtain ⟨pb, Wb, P5, hpb, hWb, hW4, z0, z1, zf, zl, hq, X4⟩ := prod_copy2 S5 (.slice C 0 e)
 have HP5 := zh (HS5.out.to X4)
 have HQ := zh hq
 clear X4 hq
 go_upto_region 11 with fail
 try simp only [hpb, hWb, hW4]
 clear hpb hWb hW4 z0 z1 zf zl k0 k1 k2 k3 lg p0 p1 p2 p3 lp r0 r1 lr
 obtain ⟨k0, k1, k2, k3, lg, p0, p1, p2, p3, lp, r0, r1, lr⟩ := HG.out.ext HP5.out.own.ext
 obtain ⟨q0, q1, ql⟩ := HQ.out
 have o0 := HP5.out.own.cell
 have ol := HP5.out.own.lt
 have HOF := zh (fun w1 (e1 : Ext P5 w1) => of_nil a b C c d e (.slice (some ⟨ob, 0, none⟩) 1 1) C e w1 ((HG.out.ext HP5.out.own.ext).ext e1).rd)
 unfold gramV at HOF
 refine wp_region_bt (12) (pures_bt [0, 1, 6, 7] (softs_bt [2, 3, 4, 5, 8] (.step 9 (.step 10 (pures_bt [11] .fin))))) (by kernel_rfl) (by kernel_rfl) ?_
 refine bt_pures _ fun K hK => ?_; simp only [pick, nthC]; (repeat go_big_quiet_step (fail)); refine wpQuiet_nil (hK _ ?_); clear hK K
 refine bt_softs _ fun K hK => ?_; simp only [pick, nthC]; (repeat go_big_quiet_step (fail)); refine wpQuiet_nil (hK _ ?_); clear hK K
 refine bt_step fun next hn => ?_; simp only [pick, nthC]
 go_wp2_with fail
 refine (HOF.out _ (by repeat first | exact xr _ | refine xa ?_ _ | refine xm ?_ _ _ | refine xd ?_ | refine xn ?_ _ | refine xs ?_ (by simp <;> omega) _)).mono ?_
 rintro e' Q5 ⟨vo, rfl, hvo, hxo⟩
 have HXo : Hid (Ext P5 Q5) := zh (Ext.trans (by repeat first | exact xr _ | refine xa ?_ _ | refine xm ?_ _ _ | refine xd ?_ | refine xn ?_ _ | refine xs ?_ (by simp <;> omega) _) hxo)
 have HUN := zh (un1 _ _ Q5 (HP5.out.to HXo.out).str hvo)
 clear hxo hvo HOF
 go_wp2_with fail
 refine segQ_mk (fun _ => laid HXo.out) (hn _ _ ?_)
 clear hn next
 refine bt_step fun next hn => ?_; simp only [pick, nthC]
 go_wp2_with fail
 refine HUN.out.mono ?_
 rintro e' R5 ⟨vu, rfl, hvu, hxu⟩
 have HXu : Hid (Ext P5 R5) := zh (HXo.out.trans hxu)
 obtain ⟨A5, c5, rfl⟩ := hvu.at (n := 2) (by rfl)
 have HVU := zh hvu
 clear hvu hxu HUN HXo
 go_wp2_with fail
 refine segQ_mk (fun _ => laid HXu.out) (hn _ _ ?_)
 clear hn next k0 k1 k2 k3 lg p0 p1 p2 p3 lp r0 r1 lr q0 q1 ql o0 ol
 refine bt_pures _ fun K hK => ?_; simp only [pick, nthC]; (repeat go_big_quiet_step (fail)); refine wpQuiet_nil (hK _ ?_); clear hK K
 (refine bt_fin ?_)
 obtain ⟨k0, k1, k2, k3, lg, p0, p1, p2, p3, lp, r0, r1, lr⟩ := HG.out.ext (HP5.out.own.ext.trans HXu.out)
 obtain ⟨q0, q1, ql⟩ := HQ.out.ext HXu.out
 have HR5 := zh (HP5.out.to HXu.out)
 have o0 := HR5.out.own.cell
 have ol := HR5.out.own.lt
 have of := HR5.out.own.froz
 obtain ⟨S6, hT⟩ : ∃ W, R5.setCell ⟨ob, 0, none⟩ (.slice A5 2 c5) = W := ⟨_, rfl⟩
 have HS6 := zh (HR5.out.put HVU.out hT)
 clear HS5
 go_wp2_with fail
 clear hT o0 ol of k0 k1 k2 k3 lg p0 p1 p2 p3 lp r0 r1 lr q0 q1 ql HR5 HP5 HXu HQ HVU
 rw [rounds_succ]
 obtain ⟨k0, k1, k2, k3, lg, p0, p1, p2, p3, lp, r0, r1, lr⟩ := HG.out.ext HS6.out.own.ext
 go_wp2_with fail
 clear k0 k1 k2 k3 lg p0 p1 p2 p3 lp r0 r1 lr
 rw [rounds_succ]
 go_wp2_with fail
 go_ret
 exact ⟨ob, _, rfl, ⟨HS6.out.own.blk, HX2.out.trans HS6.out.own.ext, Nat.le_trans HX2.out.size HS6.out.own.low⟩, HS6.out.str⟩
theorem strNum255 : strOfNums [255] = tx 255 := rfl
theorem un255 (va vb : Value) (w : World) (ha : StrV w va [tx 255]) (hb : StrV w vb [tx 255]) : Calls Tryz.prog 161 #[va, vb] w (StrRet w [tx 255]) :=
 union_texts va vb [tx 255] [tx 255] [tx 255] w ha hb (by decide) (by decide) (by decide) (by decide) (.inl (by decide))
set_option maxRecDepth 100000 in
set_option maxHeartbeats 4000000 in
theorem follow_sets (a b : Nat) (C : Option Addr) (c d e : Nat) (w : World) (h : GrRd w a b C d e) (hd : d = 2) : Calls Tryz.prog 107 #[gramV a c] w fun e w' => ∃ ob v, e = .returned (.slice (some ⟨ob, 0, none⟩) 1 1) ∧ SetOwn w w' ob v [tx 255] := by
 subst hd
 obtain ⟨g0, W, hg0, hW, X1, hat⟩ := gr_enter w c h
 have HX := zh X1
 have HCK := zh (check_gram a b C c 2 e W (h.ext X1))
 have HGW := zh hat
 clear h X1
 obtain ⟨k0, k1, k2, k3, lg, p0, p1, p2, p3, lp, r0, r1, lr⟩ := hat
 unfold gramV
 go_enter Tryz.func107, Tryz.ntmps107
 go_wp2_with fail
 try simp only [hg0]
 refine HCK.out.mono ?_
 rintro e' W2 ⟨rfl, hx2⟩
 have HG := zh (HGW.out.ext hx2)
 have HX2 := zh (HX.out.trans hx2)
 clear hW hg0 k0 k1 k2 k3 lg p0 p1 p2 p3 lp r0 r1 lr hx2 HCK HX HGW
 obtain ⟨k0, k1, k2, k3, lg, p0, p1, p2, p3, lp, r0, r1, lr⟩ := HG.out
 have HFS := zh (first_sets a b C c 2 e W2 HG.out.rd)
 unfold gramV at HFS
 go_wp2_with fail
 refine HFS.out.mono ?_
 rintro e' W3 ⟨fb, vF, rfl, hf⟩
 have HF3 := zh hf
 clear hf HFS k0 k1 k2 k3 lg p0 p1 p2 p3 lp r0 r1 lr
 obtain ⟨k0, k1, k2, k3, lg, p0, p1, p2, p3, lp, r0, r1, lr⟩ := HG.out.ext HF3.out.own.ext
 have hmk := mk_set1
 obtain ⟨ob, hob⟩ : ∃ ob, W3.heap.size = ob := ⟨_, rfl⟩
 obtain ⟨V0, hV0⟩ : ∃ V, W3.alloc (.cells #[nil0] 161) = V := ⟨_, rfl⟩
 have HS0 : Hid (SetOwn W3 V0 ob nil0 []) := zh (by rw [← hV0, ← hob]; exact ⟨Own1.new (Ext.refl _) _, strV_nil _⟩)
 go_upto_region 5 with fail
 try simp only [hob, hV0]
 clear hob hV0 hmk k0 k1 k2 k3 lg p0 p1 p2 p3 lp r0 r1 lr
 obtain ⟨bb, hbb⟩ : ∃ bb, V0.heap.size = bb := ⟨_, rfl⟩
 obtain ⟨V1, hV1⟩ : ∃ V, V0.alloc (.cells #[.int .u8 255] 5) = V := ⟨_, rfl⟩
 have hB1 : V1.heap[bb]? = some (.cells #[.int .u8 255] 5) := by rw [← hV1, ← hbb]; exact heap_alloc_new _ _
 have hcv := run_convert_bytes_arg (P := Tryz.prog) V1 212 5 Tryz.underlying212 Tryz.underlying5 bb 0 1 1 [255] rfl (fun i hi => by
  obtain rfl : i = 0 := by omega
  exact cell_of_row _ _ 0 _ _ _ hB1) 9 Tryz.underlying9
 rw [strNum255] at hcv
 obtain ⟨tb, htb⟩ : ∃ bb, V1.heap.size = bb := ⟨_, rfl⟩
 obtain ⟨V2, hV2⟩ : ∃ V, V1.alloc (.cells #[.string (tx 255)] 9) = V := ⟨_, rfl⟩
 have HT : Hid (StrV V2 (.slice (some ⟨tb, 0, none⟩) 1 1) [tx 255]) := zh (by rw [← hV2, ← htb]; exact lit_text V1 (tx 255))
 have X02 : Ext V0 V2 := by rw [← hV2, ← hV1]; exact (by repeat first | exact xr _ | refine xa ?_ _ | refine xm ?_ _ _ | refine xd ?_ | refine xn ?_ _ | refine xs ?_ (by simp <;> omega) _)
 have HS2 := zh (HS0.out.to X02)
 obtain ⟨V3, hV3⟩ : ∃ V, V2.setCell ⟨ob, 0, none⟩ (.slice (some ⟨tb, 0, none⟩) 1 1) = V := ⟨_, rfl⟩
 have HS3 := zh (HS2.out.put HT.out hV3)
 have o0 := HS2.out.own.cell
 have ol := HS2.out.own.lt
 have of := HS2.out.own.froz
 clear hB1 X02 HS0
 go_upto_region 6 with fail
 clear hbb hV1 hcv htb hV2 hV3 o0 ol of HS2 HT
 go_wp2_with fail
 refine wp_loop_rounds 2 ?_
 rw [rounds_succ]
 go_wp2_with fail
 refine wp_loop_rounds 3 ?_
 rw [rounds_succ]
 obtain ⟨k0, k1, k2, k3, lg, p0, p1, p2, p3, lp, r0, r1, lr⟩ := HG.out.ext (HF3.out.own.ext.trans HS3.out.own.ext)
 obtain ⟨pb, Wb, V4, hpb, hWb, hW4, z0, z1, zf, zl, hq, X4⟩ := prod_copy2 V3 (.slice (some ⟨b, 0, none⟩) 2 2)
 have HS4 := zh (HS3.out.to X4)
 have HQ := zh hq
 clear X4 hq
 go_upto_region 13 with fail
 try simp only [hpb, hWb, hW4]
 clear hpb hWb hW4 z0 z1 zf zl k0 k1 k2 k3 lg p0 p1 p2 p3 lp r0 r1 lr
 obtain ⟨k0, k1, k2, k3, lg, p0, p1, p2, p3, lp, r0, r1, lr⟩ := HG.out.ext (HF3.out.own.ext.trans HS4.out.own.ext)
 obtain ⟨q0, q1, ql⟩ := HQ.out
 go_wp2_with fail
 refine wp_loop_rounds 3 ?_
 rw [rounds_succ]
 go_upto_region 16 with fail; refine wp_region_bt (9) (pures_bt [0, 2, 5] (softs_bt [1, 3, 4, 6, 7, 8] .fin)) (by kernel_rfl) (by kernel_rfl) ?_; refine bt_pures _ fun K hK => ?_; simp only [pick, nthC]; (repeat go_big_quiet_step (fail)); refine wpQuiet_nil (hK _ ?_); clear hK K; refine bt_softs _ fun K hK => ?_; simp only [pick, nthC]; (repeat go_big_quiet_step (fail)); refine wpQuiet_nil (hK _ ?_); clear hK K; (refine bt_fin ?_)
 go_wp2_with fail
 rw [rounds_succ]
 clear k0 k1 k2 k3 lg p0 p1 p2 p3 lp r0 r1 lr q0 q1 ql
 have HX5 : Hid (Ext V4 V4.drew) := zh (by repeat first | exact xr _ | refine xa ?_ _ | refine xm ?_ _ _ | refine xd ?_ | refine xn ?_ _ | refine xs ?_ (by simp <;> omega) _)
 obtain ⟨V5, hV5⟩ : ∃ V, V4.drew = V := ⟨_, rfl⟩
 rw [hV5] at HX5
 try simp only [hV5]
 clear hV5
 have HS5 := zh (HS4.out.to HX5.out)
 obtain ⟨k0, k1, k2, k3, lg, p0, p1, p2, p3, lp, r0, r1, lr⟩ := HG.out.ext (HF3.out.own.ext.trans HS5.out.own.ext)
 obtain ⟨q0, q1, ql⟩ := HQ.out.ext HX5.out
 go_upto_region 16 with fail; refine wp_region_bt (9) (pures_bt [0, 2, 5] (softs_bt [1, 3, 4, 6, 7, 8] .fin)) (by kernel_rfl) (by kernel_rfl) ?_; refine bt_pures _ fun K hK => ?_; simp only [pick, nthC]; (repeat go_big_quiet_step (fail)); refine wpQuiet_nil (hK _ ?_); clear hK K; refine bt_softs _ fun K hK => ?_; simp only [pick, nthC]; (repeat go_big_quiet_step (fail)); refine wpQuiet_nil (hK _ ?_); clear hK K; (refine bt_fin ?_)
 clear k0 k1 k2 k3 lg p0 p1 p2 p3 lp r0 r1 lr q0 q1 ql
 have HX6 : Hid (Ext V5 V5.drew) := zh (by repeat first | exact xr _ | refine xa ?_ _ | refine xm ?_ _ _ | refine xd ?_ | refine xn ?_ _ | refine xs ?_ (by simp <;> omega) _)
 obtain ⟨V6, hV6⟩ : ∃ V, V5.drew = V := ⟨_, rfl⟩
 rw [hV6] at HX6
 try simp only [hV6]
 clear hV6
 have HS6 := zh (HS5.out.to HX6.out)
 obtain ⟨k0, k1, k2, k3, lg, p0, p1, p2, p3, lp, r0, r1, lr⟩ := HG.out.ext (HF3.out.own.ext.trans HS6.out.own.ext)
 obtain ⟨q0, q1, ql⟩ := HQ.out.ext (HX5.out.trans HX6.out)
 have HOF := zh (fun R cr w1 (e1 : Ext V6 w1) => Of_nil a b C c 2 e (some ⟨fb, 0, none⟩) R 1 cr w1 ((HG.out.ext (HF3.out.own.ext.trans HS6.out.own.ext)).ext e1).rd)
 unfold gramV at HOF
 go_upto_region 18 with fail
 refine wp_region_bt (9) (pures_bt [1, 2, 4, 5] (softs_bt [0, 3, 6] (.step 7 (pures_bt [8] .fin)))) (by kernel_rfl) (by kernel_rfl) ?_
 refine bt_pures _ fun K hK => ?_; simp only [pick, nthC]; (repeat go_big_quiet_step (fail)); refine wpQuiet_nil (hK _ ?_); clear hK K
 refine bt_softs _ fun K hK => ?_; simp only [pick, nthC]; (repeat go_big_quiet_step (fail)); refine wpQuiet_nil (hK _ ?_); clear hK K
 refine bt_step fun next hn => ?_; simp only [pick, nthC]
 go_wp2_with fail
 refine (HOF.out _ _ _ (by repeat first | exact xr _ | refine xa ?_ _ | refine xm ?_ _ _ | refine xd ?_ | refine xn ?_ _ | refine xs ?_ (by simp <;> omega) _)).mono ?_
 rintro e' V7 ⟨vo, rfl, hvo, hxo⟩
 have HX7 : Hid (Ext V6 V7) := zh (Ext.trans (by repeat first | exact xr _ | refine xa ?_ _ | refine xm ?_ _ _ | refine xd ?_ | refine xn ?_ _ | refine xs ?_ (by simp <;> omega) _) hxo)
 have HVO := zh hvo
 clear hxo hvo HOF
 go_wp2_with fail
 refine segQ_mk (fun _ => laid HX7.out) (hn _ _ ?_)
 clear hn next k0 k1 k2 k3 lg p0 p1 p2 p3 lp r0 r1 lr q0 q1 ql
 refine bt_pures _ fun K hK => ?_; simp only [pick, nthC]; (repeat go_big_quiet_step (fail)); refine wpQuiet_nil (hK _ ?_); clear hK K
 (refine bt_fin ?_)
 have HS7 := zh (HS6.out.to HX7.out)
 obtain ⟨k0, k1, k2, k3, lg, p0, p1, p2, p3, lp, r0, r1, lr⟩ := HG.out.ext (HF3.out.own.ext.trans HS7.out.own.ext)
 obtain ⟨q0, q1, ql⟩ := HQ.out.ext (HX5.out.trans (HX6.out.trans HX7.out))
 have o0 := HS7.out.own.cell
 have ol := HS7.out.own.lt
 have HCT := zh (fun w1 (e1 : Ext V7 w1) => cat_eps vo _ 255 w1 (HVO.out.ext e1) (HS7.out.to e1).str)
 go_upto_region 19 with fail
 refine wp_region_bt (15) (pures_bt [0, 1, 2, 4, 6, 7, 8] (softs_bt [3, 5, 9, 10, 11] (.step 12 (.step 13 (pures_bt [14] .fin))))) (by kernel_rfl) (by kernel_rfl) ?_
 refine bt_pures _ fun K hK => ?_; simp only [pick, nthC]; (repeat go_big_quiet_step (fail)); refine wpQuiet_nil (hK _ ?_); clear hK K
 refine bt_softs _ fun K hK => ?_; simp only [pick, nthC]; (repeat go_big_quiet_step (fail)); refine wpQuiet_nil (hK _ ?_); clear hK K
 refine bt_step fun next hn => ?_; simp only [pick, nthC]
 go_wp2_with fail
 refine (HCT.out _ (by repeat first | exact xr _ | refine xa ?_ _ | refine xm ?_ _ _ | refine xd ?_ | refine xn ?_ _ | refine xs ?_ (by simp <;> omega) _)).mono ?_
 rintro e' V8 ⟨vc, rfl, hvc, hxc⟩
 have HX8 : Hid (Ext V7 V8) := zh (Ext.trans (by repeat first | exact xr _ | refine xa ?_ _ | refine xm ?_ _ _ | refine xd ?_ | refine xn ?_ _ | refine xs ?_ (by simp <;> omega) _) hxc)
 have HUN := zh (un255 _ _ V8 (HS7.out.to HX8.out).str hvc)
 clear hxc hvc HCT
 go_wp2_with fail
 refine segQ_mk (fun _ => laid HX8.out) (hn _ _ ?_)
 clear hn next
 refine bt_step fun next hn => ?_; simp only [pick, nthC]
 go_wp2_with fail
 refine HUN.out.mono ?_
 rintro e' V9 ⟨vu, rfl, hvu, hxu⟩
 have HX9 : Hid (Ext V7 V9) := zh (HX8.out.trans hxu)
 obtain ⟨A9, c9, rfl⟩ := hvu.at (n := 1) (by rfl)
 have HVU := zh hvu
 clear hvu hxu HUN HX8
 go_wp2_with fail
 refine segQ_mk (fun _ => laid HX9.out) (hn _ _ ?_)
 clear hn next k0 k1 k2 k3 lg p0 p1 p2 p3 lp r0 r1 lr q0 q1 ql o0 ol
 refine bt_pures _ fun K hK => ?_; simp only [pick, nthC]; (repeat go_big_quiet_step (fail)); refine wpQuiet_nil (hK _ ?_); clear hK K
 (refine bt_fin ?_)
 have HS9 := zh (HS7.out.to HX9.out)
 obtain ⟨k0, k1, k2, k3, lg, p0, p1, p2, p3, lp, r0, r1, lr⟩ := HG.out.ext (HF3.out.own.ext.trans HS9.out.own.ext)
 obtain ⟨q0, q1, ql⟩ := HQ.out.ext (HX5.out.trans (HX6.out.trans (HX7.out.trans HX9.out)))
 have o0 := HS9.out.own.cell
 have ol := HS9.out.own.lt
 have of := HS9.out.own.froz
 obtain ⟨Va, hVa⟩ : ∃ W, V9.setCell ⟨ob, 0, none⟩ (.slice A9 1 c9) = W := ⟨_, rfl⟩
 have HSa := zh (HS9.out.put HVU.out hVa)
 obtain ⟨q2, q3, qm⟩ : PrAt Va pb 0 (.slice (some ⟨b, 0, none⟩) 2 2) := by
  have hne : pb ≠ ob := by
   rintro rfl
   rw [q0] at o0
   injection o0 with o0
   cases o0
  have hbk : Va.heap[pb]? = V9.heap[pb]? := by rw [← hVa]; exact heap_setCell_other V9 ⟨ob, 0, none⟩ pb _ hne
  exact ⟨by rw [World.cell?_of_block (w := V9) (a := ⟨pb, 0, none⟩) hbk]; exact q0, by rw [World.cell?_of_block (w := V9) (a := ⟨pb, 1, none⟩) hbk]; exact q1, by rw [← hVa]; simpa [World.setCell] using ql⟩
 obtain ⟨j0, j1, j2, j3, jg, x0, x1, x2, x3, xp, y0, y1, yr⟩ := HG.out.ext (HF3.out.own.ext.trans HSa.out.own.ext)
 go_wp2_with fail
 rw [rounds_succ]
 go_wp2_with fail
 rw [rounds_succ]
 clear hVa o0 ol of q0 q1 ql q2 q3 qm k0 k1 k2 k3 lg p0 p1 p2 p3 lp r0 r1 lr j0 j1 j2 j3 jg x0 x1 x2 x3 xp y0 y1 yr HS9 HQ
 obtain ⟨k0, k1, k2, k3, lg, p0, p1, p2, p3, lp, r0, r1, lr⟩ := HG.out.ext (HF3.out.own.ext.trans HSa.out.own.ext)
 obtain ⟨pb, Wb, Vb, hpb, hWb, hW4, z0, z1, zf, zl, hq, X4⟩ := prod_copy2 Va (.slice C 0 e)
 have HSb := zh (HSa.out.to X4)
 have HQ := zh hq
 clear X4 hq
 go_upto_region 13 with fail
 try simp only [hpb, hWb, hW4]
 clear hpb hWb hW4 z0 z1 zf zl k0 k1 k2 k3 lg p0 p1 p2 p3 lp r0 r1 lr
 obtain ⟨k0, k1, k2, k3, lg, p0, p1, p2, p3, lp, r0, r1, lr⟩ := HG.out.ext (HF3.out.own.ext.trans HSb.out.own.ext)
 obtain ⟨q0, q1, ql⟩ := HQ.out
 go_wp2_with fail
 refine wp_loop_rounds 1 ?_
 rw [rounds_succ]
 go_wp2_with fail
 rw [rounds_succ]
 go_wp2_with fail
 rw [rounds_succ]
 go_wp2_with fail
 go_ret
 exact ⟨ob, _, rfl, ⟨HSb.out.own.blk, HX2.out.trans (HF3.out.own.ext.trans HSb.out.own.ext), Nat.le_trans HX2.out.size (Nat.le_trans HF3.out.own.ext.size HSb.out.own.low)⟩, HSb.out.str⟩
structure NextRd (w : World) (v : Value) (g og lb c cl : Nat) : Prop where
 val : v = .slice (some ⟨g, og, none⟩) 1 c
 lg : g < w.heap.size
 row : w.cell? ⟨g, og, none⟩ = some (.slice (some ⟨lb, 0, none⟩) 2 cl)
 ll : lb < w.heap.size
 b0 : w.cell? ⟨lb, 0, none⟩ = some (.bool false)
 b1 : w.cell? ⟨lb, 1, none⟩ = some (.bool true)
theorem mk_bool2 (w : World) : (Instr.makeSlice 128 (.int .i64 2) (.int .i64 2)).run Tryz.prog w = .ok (.slice (some ⟨w.heap.size, 0, none⟩) 2 2) (w.alloc (.cells #[.bool false, .bool false] 4)) := by
 have h := mk_bools w 2 2 rfl (by omega)
 rw [show madeCells #[.bool false] 2 = #[.bool false, .bool false] from by
  apply Array.toList_inj.1
  rw [toList_madeCells_one]
  rfl] at h
 exact h
set_option maxRecDepth 100000 in
set_option maxHeartbeats 4000000 in
theorem next_gram (a b : Nat) (C : Option Addr) (c d e : Nat) (w : World) (h : GrRd w a b C d e) (hd : d = 2) : Calls Tryz.prog 63 #[gramV a c] w fun e w' => ∃ v g og lb c cl, e = .returned v ∧ NextRd w' v g og lb c cl ∧ Ext w w' := by
 obtain ⟨g0, W, hg0, hW, X1, hat⟩ := gr_enter w c h
 have HX := zh X1
 have HFS := zh (follow_sets a b C c d e W (h.ext X1) hd)
 have HGW := zh hat
 clear h X1
 obtain ⟨k0, k1, k2, k3, lg, p0, p1, p2, p3, lp, r0, r1, lr⟩ := hat
 unfold gramV at HFS ⊢
 go_enter Tryz.func63, Tryz.ntmps63
 go_wp2_with fail
 try simp only [hg0]
 refine HFS.out.mono ?_
 rintro e' W2 ⟨ob, v, rfl, ho⟩
 have HO := zh ho
 have HG := zh (HGW.out.ext ho.own.ext)
 clear hW hg0 k0 k1 k2 k3 lg p0 p1 p2 p3 lp r0 r1 lr HFS HGW ho
 obtain ⟨k0, k1, k2, k3, lg, p0, p1, p2, p3, lp, r0, r1, lr⟩ := HG.out
 go_wp2_with fail
 refine wp_loop_rounds 2 ?_
 rw [rounds_succ]
 obtain ⟨sg, so, sc, rfl, x0, xl⟩ := strV_one HO.out.str
 have o0 := HO.out.own.cell
 have ol := HO.out.own.lt
 have hmk := mk_bool2
 obtain ⟨lb, hlb⟩ : ∃ ob, W2.heap.size = ob := ⟨_, rfl⟩
 obtain ⟨V0, hV0⟩ : ∃ V, W2.alloc (.cells #[.bool false, .bool false] 4) = V := ⟨_, rfl⟩
 have HL0 : Hid (V0.heap[lb]? = some (.cells #[.bool false, .bool false] 4)) := zh (by rw [← hV0, ← hlb]; exact heap_alloc_new _ _)
 have HX0 : Hid (Ext W2 V0) := zh (by rw [← hV0]; exact (by repeat first | exact xr _ | refine xa ?_ _ | refine xm ?_ _ _ | refine xd ?_ | refine xn ?_ _ | refine xs ?_ (by simp <;> omega) _))
 go_upto_region 7 with fail
 clear hmk k0 k1 k2 k3 lg p0 p1 p2 p3 lp r0 r1 lr o0 ol
 obtain ⟨k0, k1, k2, k3, lg, p0, p1, p2, p3, lp, r0, r1, lr⟩ := HG.out.ext HX0.out
 have o0 := (HO.out.to HX0.out).own.cell
 have ol := (HO.out.to HX0.out).own.lt
 have y0 := ext_cell x0 xl HX0.out
 have yl := Nat.lt_of_lt_of_le xl HX0.out.size
 have HLL : Hid (W2.heap.size ≤ lb ∧ ob ≠ lb) := zh ⟨by omega, by have := HO.out.own.lt; omega⟩
 clear hlb hV0 x0 xl
 go_wp2_with fail
 refine wp_loop_rounds 2 ?_
 rw [rounds_succ]
 obtain ⟨V1, hV1⟩ : ∃ V, V0.setCell ⟨lb, 1, none⟩ (.bool true) = V := ⟨_, rfl⟩
 have HL1 : Hid (V1.heap[lb]? = some (.cells #[.bool false, .bool true] 4)) := zh (by rw [← hV1]; exact setCell_row HL0.out _)
 have l1 := cell_of_row _ _ 1 _ _ _ HL0.out
 have ll := lt_of_heap HL0.out
 have lf := row_frozen HL0.out 1
 go_upto_region 9 with fail
 have HO1 := zh ((HO.out.to HX0.out).own.other (Nat.le_trans HO.out.own.ext.size HLL.out.1) (Ne.symm HLL.out.2) hV1)
 have HX1 : Hid (Ext W2 V1) := zh (by rw [← hV1]; exact HX0.out.setCell HLL.out.1 _)
 clear hV1 l1 ll lf o0 ol y0 yl k0 k1 k2 k3 lg p0 p1 p2 p3 lp r0 r1 lr
 have o0 := HO1.out.cell
 have ol := HO1.out.lt
 go_wp2_with fail
 rw [rounds_succ]
 go_upto_region 16 with fail
 obtain ⟨i6, hi, hz0, hz1, hz2⟩ := info_parts infoBools
 have HC : Hid (CellsAt (V1.alloc (.cells #[.slice (some ⟨lb, 0, none⟩) 2 2] 128)) (some ⟨V1.heap.size, 0, none⟩) [.slice (some ⟨lb, 0, none⟩) 2 2]) := zh (cells_lit V1 128 V1.heap.size #[.slice (some ⟨lb, 0, none⟩) 2 2] [.slice (some ⟨lb, 0, none⟩) 2 2] rfl rfl)
 clear o0 ol
 go_wp2_with (at_builtin; refine wpList_append_cells _ (by rfl) (.tmp 56) (.tmp 58) 109 rfl W2.heap.size 128 i6 _ 1 24 Tryz.underlying109 hi hz0 hz1 hz2 rfl (by omega) nil0 0 [] rfl (World.ownsRow_nil _ _ _ _) (some ⟨V1.heap.size, 0, none⟩) 1 1 [.slice (some ⟨lb, 0, none⟩) 2 2] rfl (by intro h; cases h) rfl HC.out (by intro u hu; obtain rfl := List.mem_singleton.1 hu; rfl) (by unfold maxLen; omega) (by omega) (by have := HX1.out.size; simp <;> omega) ?_; intro v5 w5 ho5 hg5 hat5)
 have X5 : Ext V1 w5 := ((by repeat first | exact xr _ | refine xa ?_ _ | refine xm ?_ _ _ | refine xd ?_ | refine xn ?_ _ | refine xs ?_ (by simp <;> omega) _) : Ext V1 (V1.alloc (.cells #[.slice (some ⟨lb, 0, none⟩) 2 2] 128))).grown hg5 (fun g hg => by cases hg)
 obtain ⟨A5, c5, rfl, hc5, _⟩ := own_cells ho5
 obtain ⟨g, og, rfl, hg, hcc⟩ := hc5 (by simp)
 have HXF := zh (HX1.out.trans X5)
 have hl5 := ext_block HL1.out X5
 have HN : Hid (NextRd w5 (.slice (some ⟨g, og, none⟩) 1 c5) g og lb c5 2) := zh ⟨rfl, hg, hcc 0 _ rfl, lt_of_heap hl5, cell_of_row _ _ 0 _ _ _ hl5, cell_of_row _ _ 1 _ _ _ hl5⟩
 have HO5 := zh (HO1.out.to X5)
 clear hi hz0 hz1 hz2 ho5 hg5 hat5 hcc hc5 X5 hl5
 have o0 := HO5.out.cell
 have ol := HO5.out.lt
 rw [rounds_succ]
 go_wp2_with fail
 go_ret
 exact ⟨_, g, og, lb, c5, 2, rfl, HN.out, HX.out.trans (HO.out.own.ext.trans HXF.out)⟩
def TabRd (w : World) (tv : Value) : Prop := ∃ g og c v0 v1 cs, tv = .slice (some ⟨g, og, none⟩) 2 c ∧ w.heap[g]? = some (.cells cs 161) ∧ w.cell? ⟨g, og, none⟩ = some v0 ∧ w.cell? ⟨g, og + 1, none⟩ = some v1 ∧ StrV w v0 [tx 0] ∧ StrV w v1 [tx 255]
theorem TabRd.turn {w w' : World} {tv : Value} {S : Nat → Prop} (h : TabRd w tv) (t : Turn S w w') (hS : ∀ (g : Nat) (cs : Array Value) (T : TypeId), w.heap[g]? = some (.cells cs T) → T = 161 ∨ T = 9 → ¬ S g) : TabRd w' tv := by
 obtain ⟨g, og, c, v0, v1, cs, h1, h2, h3, h4, h5, h6⟩ := h
 have hk := t.block g (lt_of_heap h2) (hS g cs _ h2 (.inl rfl))
 exact ⟨g, og, c, v0, v1, cs, h1, t.keep h2 (hS g cs _ h2 (.inl rfl)), (World.cell?_of_block (w := w) (a := ⟨g, og, none⟩) hk).trans h3, (World.cell?_of_block (w := w) (a := ⟨g, og + 1, none⟩) hk).trans h4, h5.turn t (fun g cs hg => hS g cs _ hg (.inr rfl)), h6.turn t (fun g cs hg => hS g cs _ hg (.inr rfl))⟩
theorem TabRd.ext {w w' : World} {tv : Value} (h : TabRd w tv) (e : Ext w w') : TabRd w' tv := h.turn (Turn.of_ext (S := fun _ => False) e) (fun _ _ _ _ _ h => h)
structure TabI (w0 w : World) (tb : Nat) (row : Value) (vs : List Value) (ss : List (List ByteArray)) : Prop where
 blk : w.heap[tb]? = some (.cells #[row] 103)
 low : w0.heap.size ≤ tb
 own : w.ownsRow w0.heap.size 161 1 row vs.length vs
 ext : Ext w0 w
 len : ss.length = vs.length
 strs : ∀ (i : Nat) (v : Value) (s : List ByteArray), vs[i]? = some v → ss[i]? = some s → StrV w v s
section
variable {w0 w w2 : World} {tb : Nat} {row row' v : Value} {vs : List Value} {ss : List (List ByteArray)} {s : List ByteArray}
theorem TabI.to (h : TabI w0 w tb row vs ss) (e : Ext w w2) : TabI w0 w2 tb row vs ss := ⟨ext_block h.blk e, h.low, own_ext h.own e, h.ext.trans e, h.len, fun i v s h1 h2 => (h.strs i v s h1 h2).ext e⟩
theorem TabI.app (h : TabI w0 w tb row vs ss) (hu : StrV w v s) (ho : w2.ownsRow w0.heap.size 161 1 row' (vs.length + 1) (vs ++ [v])) (hg : w.grownBy w2 row.ownBlock) (_ : row'.ownBlock = row.ownBlock ∨ row'.ownBlock = some w.heap.size) : (∀ g : Nat, g < w0.heap.size → w2.heap[g]? = w.heap[g]?) ∧ (∀ (g : Nat) (cs : Array Value) (T : TypeId), w.heap[g]? = some (.cells cs T) → T ≠ 161 → w2.heap[g]? = some (.cells cs T)) ∧ TabI w0 (w2.setCell ⟨tb, 0, none⟩ row') tb row' (vs ++ [v]) (ss ++ [s]) := by
 have T : Turn (fun g => row.ownBlock = some g) w w2 := Turn.grown hg (fun g hg _ => hg)
 have k2 : ∀ (g : Nat) (cs : Array Value) (T : TypeId), w.heap[g]? = some (.cells cs T) → T ≠ 161 → w2.heap[g]? = some (.cells cs T) := fun g cs U hgc hne => T.keep hgc (fun hh => by
  obtain ⟨cur, hcur⟩ := own_obj h.own g hh
  rw [hgc] at hcur
  injection hcur with hcur
  injection hcur with _ hcur
  exact hne hcur)
 have hb2 := k2 tb _ _ h.blk (by decide)
 have T2 : Turn (fun k => k = tb) w2 (w2.setCell ⟨tb, 0, none⟩ row') := Turn.set1 _ _ _
 have S2 : ∀ {v s}, StrV w v s → StrV (w2.setCell ⟨tb, 0, none⟩ row') v s := fun hs => (hs.turn T (fun g cs hgc hh => by
  obtain ⟨cur, hcur⟩ := own_obj h.own g hh
  exact ne_type hgc hcur (by decide) rfl)).turn T2 (fun g cs hgc he => ne_type hgc hb2 (by decide) he)
 refine ⟨fun g hgl => T.block g (Nat.lt_of_lt_of_le hgl h.ext.size) (fun hh => by have := own_block h.own g hh; omega), k2, setCell_row hb2 row', h.low, ?_, ?_, by simp [h.len], fun i v' s' h1 h2 => ?_⟩
 ·rw [List.length_append]
  exact row_keepD hb2 T2 ho (by decide)
 ·exact T2.ext (T.ext h.ext (fun k hk => own_block h.own k hk)) (fun k hk => by have := h.low; omega)
 ·by_cases hi : i < vs.length
  ·rw [List.getElem?_append_left hi] at h1
   rw [List.getElem?_append_left (by rw [h.len]; exact hi)] at h2
   exact S2 (h.strs i v' s' h1 h2)
  ·obtain rfl : i = vs.length := by
    have := (List.getElem?_eq_some_iff.1 h1).1
    simp at this
    omega
   rw [List.getElem?_append_right (Nat.le_refl _), Nat.sub_self] at h1
   rw [List.getElem?_append_right (by rw [h.len]; exact Nat.le_refl _), h.len, Nat.sub_self] at h2
   simp at h1 h2
   subst h1 h2
   exact S2 hu
end
set_option maxRecDepth 100000 in
set_option maxHeartbeats 4000000 in
theorem table_gram (a b : Nat) (C : Option Addr) (c d e : Nat) (w : World) (h : GrRd w a b C d e) (hd : d = 2) : Calls Tryz.prog 105 #[gramV a c] w fun e w' => ∃ tv, e = .returned (.agg #[tv]) ∧ TabRd w' tv ∧ Ext w w' := by
 obtain ⟨g0, W, hg0, hW, X1, hat⟩ := gr_enter w c h
 obtain ⟨W1, hW1⟩ : ∃ V, W.alloc (.cells #[nil0] 103) = V := ⟨_, rfl⟩
 have XW1 : Ext W W1 := by rw [← hW1]; exact (by repeat first | exact xr _ | refine xa ?_ _ | refine xm ?_ _ _ | refine xd ?_ | refine xn ?_ _ | refine xs ?_ (by simp <;> omega) _)
 have HG := zh (hat.ext XW1)
 have hgs : W.heap.size = g0 + 1 := by rw [← hW, ← hg0]; simp
 have HRB : Hid (W1.heap[g0 + 1]? = some (.cells #[nil0] 103)) := zh (by rw [← hW1, ← hgs]; exact heap_alloc_new _ _)
 have HX := zh (X1.trans XW1)
 have HRL : Hid (w.heap.size ≤ g0 + 1) := zh (by omega)
 have HFS := zh (fun w1 (e1 : Ext W1 w1) => first_sets a b C c d e w1 ((h.ext (X1.trans XW1)).ext e1))
 have HFO := zh (fun w1 (e1 : Ext W1 w1) => follow_sets a b C c d e w1 ((h.ext (X1.trans XW1)).ext e1) hd)
 clear h X1 hat XW1
 subst hd
 unfold gramV at HFS HFO ⊢
 go_enter Tryz.func105, Tryz.ntmps105
 go_upto_region 1 with fail
 try simp only [hg0]
 try simp only [hgs]
 try simp only [hW1]
 clear hW hg0 hgs hW1
 obtain ⟨k0, k1, k2, k3, lg, p0, p1, p2, p3, lp, r0, r1, lr⟩ := HG.out
 refine wp_region_bt (6) (softs_bt [0, 2] (.step 1 (.step 3 (pures_bt [4, 5] .fin)))) (by kernel_rfl) (by kernel_rfl) ?_
 refine bt_softs _ fun K hK => ?_; simp only [pick, nthC]; (repeat go_big_quiet_step (fail)); refine wpQuiet_nil (hK _ ?_); clear hK K
 refine bt_step fun next hn => ?_; simp only [pick, nthC]
 go_wp2_with fail
 refine (HFS.out _ (by repeat first | exact xr _ | refine xa ?_ _ | refine xm ?_ _ _ | refine xd ?_ | refine xn ?_ _ | refine xs ?_ (by simp <;> omega) _)).mono ?_
 rintro e' W2 ⟨fb, vF, rfl, hf⟩
 have HF2 : Hid (SetOwn W1 W2 fb vF [tz, tx 0]) := zh ⟨⟨hf.own.blk, Ext.trans (by repeat first | exact xr _ | refine xa ?_ _ | refine xm ?_ _ _ | refine xd ?_ | refine xn ?_ _ | refine xs ?_ (by simp <;> omega) _) hf.own.ext, hf.own.low⟩, hf.str⟩
 clear hf HFS
 go_wp2_with fail
 refine segQ_mk (fun _ => laid HF2.out.own.ext) (hn _ _ ?_)
 clear hn next
 refine bt_step fun next hn => ?_; simp only [pick, nthC]
 go_wp2_with fail
 refine (HFO.out _ HF2.out.own.ext).mono ?_
 rintro e' V2 ⟨ob, vO, rfl, hf⟩
 have HO2 := zh hf
 have HF3 := zh (HF2.out.to hf.own.ext)
 clear hf HFO HF2
 go_wp2_with fail
 refine segQ_mk (fun _ => laid HF3.out.own.ext) (hn _ _ ?_)
 clear hn next k0 k1 k2 k3 lg p0 p1 p2 p3 lp r0 r1 lr
 refine bt_pures _ fun K hK => ?_; simp only [pick, nthC]; (repeat go_big_quiet_step (fail)); refine wpQuiet_nil (hK _ ?_); clear hK K
 (refine bt_fin ?_)
 obtain ⟨og, oo, oc, rfl, ox, oxl⟩ := strV_one HO2.out.str
 clear ox oxl
 obtain ⟨tb, htb⟩ : ∃ ob, V2.heap.size = ob := ⟨_, rfl⟩
 obtain ⟨Vb, hVb⟩ : ∃ V, V2.alloc (.cells #[nil0] 103) = V := ⟨_, rfl⟩
 obtain ⟨S0, hS0⟩ : ∃ V, Vb.setCell ⟨tb, 0, none⟩ nil0 = V := ⟨_, rfl⟩
 have hB : Vb.heap[tb]? = some (.cells #[nil0] 103) := by rw [← hVb, ← htb]; exact heap_alloc_new _ _
 have HT0 : Hid (TabI V2 S0 tb nil0 [] []) := zh ⟨by rw [← hS0]; exact setCell_row hB _, by omega, World.ownsRow_nil _ _ _ _, by rw [← hS0, ← hVb]; exact ((by repeat first | exact xr _ | refine xa ?_ _ | refine xm ?_ _ _ | refine xd ?_ | refine xn ?_ _ | refine xs ?_ (by simp <;> omega) _) : Ext V2 (V2.alloc (.cells #[nil0] 103))).setCell (by show _ ≤ tb; omega) _, rfl, fun i v s h => by simp at h⟩
 have u0 := cell_of_row _ _ 0 _ _ _ hB
 have uf := row_frozen hB 0
 have ul := lt_of_heap hB
 go_wp2_with fail
 clear htb hVb hS0 hB u0 uf ul
 obtain ⟨i6, hi6, hz0, hz1, hz2⟩ := info_parts infoTexts
 have HI := zh hi6
 have HZ0 := zh hz0
 have HZ1 := zh hz1
 have HZ2 := zh hz2
 clear hi6 hz0 hz1 hz2
 refine wp_loop_rounds 3 ?_
 rw [rounds_succ]
 obtain ⟨k0, k1, k2, k3, lg, p0, p1, p2, p3, lp, r0, r1, lr⟩ := HG.out.ext (HF3.out.own.ext.trans HT0.out.ext)
 obtain ⟨pb, Wb, P0, hpb, hWb, hW4, z0, z1, zf, zl, hq, X4⟩ := prod_copy2 S0 (.slice (some ⟨b, 0, none⟩) 2 2)
 have hpB : P0.heap[pb]? = some (.cells #[.int .i64 0, .slice (some ⟨b, 0, none⟩) 2 2] 92) := by rw [← hW4, ← hWb, ← hpb]; exact put2_at (heap_alloc_new _ _) _ _
 have HPB := zh hpB
 have HTp := zh (HT0.out.to X4)
 clear X4 hpB
 go_upto_region 7 with fail
 try simp only [hpb, hWb, hW4]
 clear hpb hWb hW4 z0 z1 zf zl k0 k1 k2 k3 lg p0 p1 p2 p3 lp r0 r1 lr
 obtain ⟨k0, k1, k2, k3, lg, p0, p1, p2, p3, lp, r0, r1, lr⟩ := HG.out.ext (HF3.out.own.ext.trans HTp.out.ext)
 obtain ⟨q0, q1, ql⟩ := hq
 have t0 := cell_of_row _ _ 0 _ _ _ HTp.out.blk
 have tl := lt_of_heap HTp.out.blk
 have o0 := (HO2.out.to HTp.out.ext).own.cell
 have ol := (HO2.out.to HTp.out.ext).own.lt
 have HLT : Hid (∀ k ∈ [g0, pb, tb, ob], k < P0.heap.size) := zh (by simp; exact ⟨lg, ql, tl, ol⟩)
 have HLW : Hid (g0 < V2.heap.size ∧ ob < V2.heap.size) := zh ⟨(HG.out.ext HF3.out.own.ext).lg, HO2.out.own.lt⟩
 have kx0 := fun x : EdL P0 [g0, pb, tb, ob] => x.cell (by simp) k0
 have kx1 := fun x : EdL P0 [g0, pb, tb, ob] => x.cell (by simp) k1
 have kx2 := fun x : EdL P0 [g0, pb, tb, ob] => x.cell (by simp) k2
 have kx3 := fun x : EdL P0 [g0, pb, tb, ob] => x.cell (by simp) k3
 have kx4 := fun x : EdL P0 [g0, pb, tb, ob] => x.cell (by simp) q0
 have kx5 := fun x : EdL P0 [g0, pb, tb, ob] => x.cell (by simp) q1
 have kx6 := fun x : EdL P0 [g0, pb, tb, ob] => x.cell (by simp) t0
 have kx7 := fun x : EdL P0 [g0, pb, tb, ob] => x.cell (by simp) o0
 have kx8 := fun x : EdL P0 [g0, pb, tb, ob] => x.lt (by simp) lg
 have kx9 := fun x : EdL P0 [g0, pb, tb, ob] => x.lt (by simp) ql
 have kxa := fun x : EdL P0 [g0, pb, tb, ob] => x.lt (by simp) tl
 have kxb := fun x : EdL P0 [g0, pb, tb, ob] => x.lt (by simp) ol
 have HOF := zh (fun w1 (e1 : Ext P0 w1) => Of_two a b C c 2 e fb _ _ 1 2 w1 ((HG.out.ext (HF3.out.own.ext.trans HTp.out.ext)).ext e1).rd ((HF3.out.rd.ext HTp.out.ext).ext e1))
 have HCT := zh (fun vo w1 (hvo : StrV w1 vo (ofF [tz, tx 0])) (_ : Ext P0 w1) => cat_whole vo 0 (some ⟨og, oo, none⟩) 1 oc w1 hvo (by omega))
 unfold gramV at HOF
 clear k0 k1 k2 k3 lg p0 p1 p2 p3 lp r0 r1 lr q0 q1 ql t0 tl o0 ol
 refine wp_region_btC (T := EdL P0 [g0, pb, tb, ob]) EdL.V (18) (pures_bt [0, 2, 5, 6, 9, 10] (softs_bt [1, 3, 4, 7, 11, 12, 13] (.step 8 (.step 14 (.step 15 (.step 16 (pures_bt [17] (.step 18 .fin)))))))) (by kernel_rfl) (by kernel_rfl) ⟨⟨P0.drew, fun _ _ => rfl⟩, rfl⟩ ?_
 refine bt_pures _ fun K hK => ?_; simp only [pick, nthC]; (repeat go_big_quiet_step (fail)); refine wpQuiet_nil (hK _ ?_); clear hK K
 refine bt_softs _ fun K hK => ?_; simp only [pick, nthC]; (repeat go_big_quiet_step (fail)); refine wpQuiet_nil (hK _ ?_); clear hK K
 clear kx0 kx1 kx2 kx3 kx4 kx5 kx6 kx7 kx8 kx9 kxa kxb
 refine bt_step fun next hn => ?_; simp only [pick, nthC]
 go_wp2_with fail
 refine (HOF.out _ (by repeat first | exact xr _ | refine xa ?_ _ | refine xm ?_ _ _ | refine xd ?_ | refine xn ?_ _ | refine xs ?_ (by simp <;> omega) _)).mono ?_
 rintro e' Q0 ⟨vo, rfl, hvo, hxo⟩
 have HXo : Hid (Ext P0 Q0) := zh (Ext.trans (by repeat first | exact xr _ | refine xa ?_ _ | refine xm ?_ _ _ | refine xd ?_ | refine xn ?_ _ | refine xs ?_ (by simp <;> omega) _) hxo)
 have HCC := zh (HCT.out vo Q0 hvo HXo.out)
 clear hxo hvo HOF HCT
 go_wp2_with fail
 refine segQ_mk (fun _ => edL_ext (fun _ _ => rfl) HXo.out HLT.out) (hn _ _ ?_)
 clear hn next
 refine bt_step fun next hn => ?_; simp only [pick, nthC]
 go_wp2_with fail
 refine HCC.out.mono ?_
 rintro e' R0 ⟨vcx, rfl, hvc, hxc⟩
 obtain ⟨Ac0, cc0, rfl⟩ := hvc.at (n := 1) (by rfl)
 have HXc : Hid (Ext P0 R0) := zh (HXo.out.trans hxc)
 have HVC := zh hvc
 clear hxc hvc HCC HXo
 go_wp2_with fail
 refine segQ_mk (fun _ => edL_ext (fun _ _ => rfl) HXc.out HLT.out) (hn _ _ ?_)
 clear hn next
 refine bt_step fun next hn => ?_; simp only [pick, nthC]
 go_wp2_with fail
 refine segQ_mk (fun _ => edL_ext (fun _ _ => rfl) (HXc.out.trans ((by repeat first | exact xr _ | refine xa ?_ _ | refine xm ?_ _ _ | refine xd ?_ | refine xn ?_ _ | refine xs ?_ (by simp <;> omega) _) : Ext R0 _)) HLT.out) (hn _ _ ?_)
 clear hn next
 obtain ⟨nb, hnb⟩ : ∃ nb, R0.heap.size = nb := ⟨_, rfl⟩
 have HC0 := cells_lit R0 161 R0.heap.size #[(.slice Ac0 1 cc0)] [(.slice Ac0 1 cc0)] rfl rfl
 obtain ⟨N0, hN⟩ : ∃ V, R0.alloc (.cells #[(.slice Ac0 1 cc0)] 161) = V := ⟨_, rfl⟩
 rw [hN, hnb] at HC0
 have HC := zh HC0
 have HXn : Hid (Ext P0 N0) := zh (by rw [← hN]; exact HXc.out.trans (by repeat first | exact xr _ | refine xa ?_ _ | refine xm ?_ _ _ | refine xd ?_ | refine xn ?_ _ | refine xs ?_ (by simp <;> omega) _))
 have HVN : Hid (StrV N0 (.slice Ac0 1 cc0) [tx 0]) := zh (HVC.out.ext (by rw [← hN]; exact (by repeat first | exact xr _ | refine xa ?_ _ | refine xm ?_ _ _ | refine xd ?_ | refine xn ?_ _ | refine xs ?_ (by simp <;> omega) _)))
 have HONE : Hid ((Value.slice Ac0 1 cc0).oneCell' = true) := zh rfl
 have HTn := zh (HTp.out.to HXn.out)
 try simp only [hN, hnb]
 clear hN hnb HC0 HXc HVC
 refine bt_step fun next hn => ?_; simp only [pick, nthC]
 go_wp2_with (at_builtin; refine wpList_append_cells _ (by rfl) (.tmp 26) (.tmp 40) 101 rfl V2.heap.size 161 i6 _ 1 24 Tryz.underlying101 HI.out HZ0.out HZ1.out HZ2.out rfl (by omega) nil0 0 [] rfl HTn.out.own (some ⟨nb, 0, none⟩) 1 1 [(.slice Ac0 1 cc0)] rfl (by intro h; cases h) rfl HC.out (by intro u hu; obtain rfl := List.mem_singleton.1 hu; exact HONE.out) (by unfold maxLen; omega) (by omega) (HTn.out.ext.size) ?_; intro v5 w5 ho5 hg5 hat5)
 obtain ⟨A0, c0, rfl, _⟩ := own_cells ho5
 obtain ⟨hk1, hk2, ht5⟩ := HTn.out.app HVN.out ho5 hg5 hat5
 have hB5 := hk2 tb _ _ HTn.out.blk (by decide)
 have hsame : ∀ k ∈ [g0, pb, tb, ob], w5.heap[k]? = P0.heap[k]? := by
  intro k hk
  refine Eq.trans ?_ (HXn.out.below.block k (HLT.out k hk))
  simp at hk
  rcases hk with rfl | rfl | rfl | rfl
  ·exact hk1 _ HLW.out.1
  ·exact (hk2 _ _ _ (ext_block HPB.out HXn.out) (by decide)).trans (ext_block HPB.out HXn.out).symm
  ·exact hB5.trans HTn.out.blk.symm
  ·exact hk1 _ HLW.out.2
 refine segQ_mk (fun _ => ⟨⟨w5, hsame⟩, rfl⟩) (hn _ _ ?_)
 clear hn next hsame hk1 hk2
 have t0 := cell_of_row _ _ 0 _ _ _ hB5
 have tl := lt_of_heap hB5
 have tf := row_frozen hB5 0
 obtain ⟨S1, hM⟩ : ∃ V, w5.setCell ⟨tb, 0, none⟩ (.slice A0 1 c0) = V := ⟨_, rfl⟩
 have ht6 : TabI V2 S1 tb (.slice A0 1 c0) [.slice Ac0 1 cc0] [[tx 0]] := hM ▸ ht5
 have HT1 := zh ht6
 clear ht5 ht6 ho5 hg5 hat5 hB5
 refine bt_pures _ fun K hK => ?_; simp only [pick, nthC]; (repeat go_big_quiet_step (fail)); refine wpQuiet_nil (hK _ ?_); clear hK K
 refine bt_step fun next hn => ?_; simp only [pick, nthC]
 go_wp2_with fail
 refine segQ_mk (fun h => absurd rfl h) (hn _ _ ?_)
 clear hn next
 (refine bt_fin ?_)
 try simp only [hM]
 clear hM t0 tl tf HTn HC HXn HVN HTp HPB HLT HLW
 go_wp2_with fail
 rw [rounds_succ]
 obtain ⟨k0, k1, k2, k3, lg, p0, p1, p2, p3, lp, r0, r1, lr⟩ := HG.out.ext (HF3.out.own.ext.trans HT1.out.ext)
 obtain ⟨pb, Wb, P1, hpb, hWb, hW4, z0, z1, zf, zl, hq, X4⟩ := prod_copy2 S1 (.slice C 0 e)
 have hpB : P1.heap[pb]? = some (.cells #[.int .i64 0, .slice C 0 e] 92) := by rw [← hW4, ← hWb, ← hpb]; exact put2_at (heap_alloc_new _ _) _ _
 have HPB := zh hpB
 have HTp := zh (HT1.out.to X4)
 clear X4 hpB
 go_upto_region 7 with fail
 try simp only [hpb, hWb, hW4]
 clear hpb hWb hW4 z0 z1 zf zl k0 k1 k2 k3 lg p0 p1 p2 p3 lp r0 r1 lr
 obtain ⟨k0, k1, k2, k3, lg, p0, p1, p2, p3, lp, r0, r1, lr⟩ := HG.out.ext (HF3.out.own.ext.trans HTp.out.ext)
 obtain ⟨q0, q1, ql⟩ := hq
 have t0 := cell_of_row _ _ 0 _ _ _ HTp.out.blk
 have tl := lt_of_heap HTp.out.blk
 have o0 := (HO2.out.to HTp.out.ext).own.cell
 have ol := (HO2.out.to HTp.out.ext).own.lt
 have HLT : Hid (∀ k ∈ [g0, pb, tb, ob], k < P1.heap.size) := zh (by simp; exact ⟨lg, ql, tl, ol⟩)
 have HLW : Hid (g0 < V2.heap.size ∧ ob < V2.heap.size) := zh ⟨(HG.out.ext HF3.out.own.ext).lg, HO2.out.own.lt⟩
 have kx0 := fun x : EdL P1 [g0, pb, tb, ob] => x.cell (by simp) k0
 have kx1 := fun x : EdL P1 [g0, pb, tb, ob] => x.cell (by simp) k1
 have kx2 := fun x : EdL P1 [g0, pb, tb, ob] => x.cell (by simp) k2
 have kx3 := fun x : EdL P1 [g0, pb, tb, ob] => x.cell (by simp) k3
 have kx4 := fun x : EdL P1 [g0, pb, tb, ob] => x.cell (by simp) q0
 have kx5 := fun x : EdL P1 [g0, pb, tb, ob] => x.cell (by simp) q1
 have kx6 := fun x : EdL P1 [g0, pb, tb, ob] => x.cell (by simp) t0
 have kx7 := fun x : EdL P1 [g0, pb, tb, ob] => x.cell (by simp) o0
 have kx8 := fun x : EdL P1 [g0, pb, tb, ob] => x.lt (by simp) lg
 have kx9 := fun x : EdL P1 [g0, pb, tb, ob] => x.lt (by simp) ql
 have kxa := fun x : EdL P1 [g0, pb, tb, ob] => x.lt (by simp) tl
 have kxb := fun x : EdL P1 [g0, pb, tb, ob] => x.lt (by simp) ol
 have HOF := zh (fun w1 (e1 : Ext P1 w1) => Of_nil a b C c 2 e (some ⟨fb, 0, none⟩) C 1 e w1 ((HG.out.ext (HF3.out.own.ext.trans HTp.out.ext)).ext e1).rd)
 have HCT := zh (fun vo w1 (hvo : StrV w1 vo [tz]) (e1 : Ext P1 w1) => cat_eps vo _ 255 w1 hvo ((HO2.out.to HTp.out.ext).to e1).str)
 unfold gramV at HOF
 clear k0 k1 k2 k3 lg p0 p1 p2 p3 lp r0 r1 lr q0 q1 ql t0 tl o0 ol
 refine wp_region_btC (T := EdL P1 [g0, pb, tb, ob]) EdL.V (18) (pures_bt [0, 2, 5, 6, 9, 10] (softs_bt [1, 3, 4, 7, 11, 12, 13] (.step 8 (.step 14 (.step 15 (.step 16 (pures_bt [17] (.step 18 .fin)))))))) (by kernel_rfl) (by kernel_rfl) ⟨⟨P1.drew, fun _ _ => rfl⟩, rfl⟩ ?_
 refine bt_pures _ fun K hK => ?_; simp only [pick, nthC]; (repeat go_big_quiet_step (fail)); refine wpQuiet_nil (hK _ ?_); clear hK K
 refine bt_softs _ fun K hK => ?_; simp only [pick, nthC]; (repeat go_big_quiet_step (fail)); refine wpQuiet_nil (hK _ ?_); clear hK K
 clear kx0 kx1 kx2 kx3 kx4 kx5 kx6 kx7 kx8 kx9 kxa kxb
 refine bt_step fun next hn => ?_; simp only [pick, nthC]
 go_wp2_with fail
 refine (HOF.out _ (by repeat first | exact xr _ | refine xa ?_ _ | refine xm ?_ _ _ | refine xd ?_ | refine xn ?_ _ | refine xs ?_ (by simp <;> omega) _)).mono ?_
 rintro e' Q1 ⟨vo, rfl, hvo, hxo⟩
 have HXo : Hid (Ext P1 Q1) := zh (Ext.trans (by repeat first | exact xr _ | refine xa ?_ _ | refine xm ?_ _ _ | refine xd ?_ | refine xn ?_ _ | refine xs ?_ (by simp <;> omega) _) hxo)
 have HCC := zh (HCT.out vo Q1 hvo HXo.out)
 clear hxo hvo HOF HCT
 go_wp2_with fail
 refine segQ_mk (fun _ => edL_ext (fun _ _ => rfl) HXo.out HLT.out) (hn _ _ ?_)
 clear hn next
 refine bt_step fun next hn => ?_; simp only [pick, nthC]
 go_wp2_with fail
 refine HCC.out.mono ?_
 rintro e' R1 ⟨vcx, rfl, hvc, hxc⟩
 obtain ⟨Ac1, cc1, rfl⟩ := hvc.at (n := 1) (by rfl)
 have HXc : Hid (Ext P1 R1) := zh (HXo.out.trans hxc)
 have HVC := zh hvc
 clear hxc hvc HCC HXo
 go_wp2_with fail
 refine segQ_mk (fun _ => edL_ext (fun _ _ => rfl) HXc.out HLT.out) (hn _ _ ?_)
 clear hn next
 refine bt_step fun next hn => ?_; simp only [pick, nthC]
 go_wp2_with fail
 refine segQ_mk (fun _ => edL_ext (fun _ _ => rfl) (HXc.out.trans ((by repeat first | exact xr _ | refine xa ?_ _ | refine xm ?_ _ _ | refine xd ?_ | refine xn ?_ _ | refine xs ?_ (by simp <;> omega) _) : Ext R1 _)) HLT.out) (hn _ _ ?_)
 clear hn next
 obtain ⟨nb, hnb⟩ : ∃ nb, R1.heap.size = nb := ⟨_, rfl⟩
 have HC0 := cells_lit R1 161 R1.heap.size #[(.slice Ac1 1 cc1)] [(.slice Ac1 1 cc1)] rfl rfl
 obtain ⟨N1, hN⟩ : ∃ V, R1.alloc (.cells #[(.slice Ac1 1 cc1)] 161) = V := ⟨_, rfl⟩
 rw [hN, hnb] at HC0
 have HC := zh HC0
 have HXn : Hid (Ext P1 N1) := zh (by rw [← hN]; exact HXc.out.trans (by repeat first | exact xr _ | refine xa ?_ _ | refine xm ?_ _ _ | refine xd ?_ | refine xn ?_ _ | refine xs ?_ (by simp <;> omega) _))
 have HVN : Hid (StrV N1 (.slice Ac1 1 cc1) [tx 255]) := zh (HVC.out.ext (by rw [← hN]; exact (by repeat first | exact xr _ | refine xa ?_ _ | refine xm ?_ _ _ | refine xd ?_ | refine xn ?_ _ | refine xs ?_ (by simp <;> omega) _)))
 have HONE : Hid ((Value.slice Ac1 1 cc1).oneCell' = true) := zh rfl
 have HTn := zh (HTp.out.to HXn.out)
 try simp only [hN, hnb]
 clear hN hnb HC0 HXc HVC
 refine bt_step fun next hn => ?_; simp only [pick, nthC]
 go_wp2_with (at_builtin; refine wpList_append_cells _ (by rfl) (.tmp 26) (.tmp 40) 101 rfl V2.heap.size 161 i6 _ 1 24 Tryz.underlying101 HI.out HZ0.out HZ1.out HZ2.out rfl (by omega) (.slice A0 1 c0) 1 [.slice Ac0 1 cc0] rfl HTn.out.own (some ⟨nb, 0, none⟩) 1 1 [(.slice Ac1 1 cc1)] rfl (by intro h; cases h) rfl HC.out (by intro u hu; obtain rfl := List.mem_singleton.1 hu; exact HONE.out) (by unfold maxLen; omega) (by omega) (HTn.out.ext.size) ?_; intro v5 w5 ho5 hg5 hat5)
 obtain ⟨A1, c1, rfl, _⟩ := own_cells ho5
 obtain ⟨hk1, hk2, ht5⟩ := HTn.out.app HVN.out ho5 hg5 hat5
 have hB5 := hk2 tb _ _ HTn.out.blk (by decide)
 have hsame : ∀ k ∈ [g0, pb, tb, ob], w5.heap[k]? = P1.heap[k]? := by
  intro k hk
  refine Eq.trans ?_ (HXn.out.below.block k (HLT.out k hk))
  simp at hk
  rcases hk with rfl | rfl | rfl | rfl
  ·exact hk1 _ HLW.out.1
  ·exact (hk2 _ _ _ (ext_block HPB.out HXn.out) (by decide)).trans (ext_block HPB.out HXn.out).symm
  ·exact hB5.trans HTn.out.blk.symm
  ·exact hk1 _ HLW.out.2
 refine segQ_mk (fun _ => ⟨⟨w5, hsame⟩, rfl⟩) (hn _ _ ?_)
 clear hn next hsame hk1 hk2
 have t0 := cell_of_row _ _ 0 _ _ _ hB5
 have tl := lt_of_heap hB5
 have tf := row_frozen hB5 0
 obtain ⟨S2, hM⟩ : ∃ V, w5.setCell ⟨tb, 0, none⟩ (.slice A1 2 c1) = V := ⟨_, rfl⟩
 have ht6 : TabI V2 S2 tb (.slice A1 2 c1) [.slice Ac0 1 cc0, .slice Ac1 1 cc1] [[tx 0], [tx 255]] := hM ▸ ht5
 have HT2 := zh ht6
 clear ht5 ht6 ho5 hg5 hat5 hB5
 refine bt_pures _ fun K hK => ?_; simp only [pick, nthC]; (repeat go_big_quiet_step (fail)); refine wpQuiet_nil (hK _ ?_); clear hK K
 refine bt_step fun next hn => ?_; simp only [pick, nthC]
 go_wp2_with fail
 refine segQ_mk (fun h => absurd rfl h) (hn _ _ ?_)
 clear hn next
 (refine bt_fin ?_)
 try simp only [hM]
 clear hM t0 tl tf HTn HC HXn HVN HTp HPB HLT HLW
 go_wp2_with fail
 rw [rounds_succ]
 have hB2 := ext_block HRB.out (HF3.out.own.ext.trans HT2.out.ext)
 have T3 : Turn (fun k => k = g0 + 1) S2 (S2.setCell ⟨g0 + 1, 0, none⟩ (.slice A1 2 c1)) := Turn.set1 _ _ _
 have HX3 : Hid (Ext w (S2.setCell ⟨g0 + 1, 0, none⟩ (.slice A1 2 c1))) := zh (T3.ext (HX.out.trans (HF3.out.own.ext.trans HT2.out.ext)) (fun k hk => by have := HRL.out; omega))
 have ho3 := row_keepD hB2 T3 HT2.out.own (by decide)
 have hv0 := (HT2.out.strs 0 _ _ rfl rfl).turn T3 (fun g cs hg he => ne_type hg hB2 (by decide) he)
 have hv1 := (HT2.out.strs 1 _ _ rfl rfl).turn T3 (fun g cs hg he => ne_type hg hB2 (by decide) he)
 have HTR : Hid (TabRd (S2.setCell ⟨g0 + 1, 0, none⟩ (.slice A1 2 c1)) (.slice A1 2 c1)) := zh (by
  obtain ⟨A, c, hA, hc, _⟩ := own_cells ho3
  obtain ⟨g, og, rfl, hg, hcc⟩ := hc (by simp)
  injection hA with hA _ hcc2
  subst hA
  obtain ⟨cs, hcs⟩ := own_obj ho3 g rfl
  exact ⟨g, og, c1, _, _, cs, rfl, hcs, hcc 0 _ rfl, hcc 1 _ rfl, hv0, hv1⟩)
 have t0 := cell_of_row _ _ 0 _ _ _ HT2.out.blk
 have tl := lt_of_heap HT2.out.blk
 have r0 := cell_of_row _ _ 0 _ _ _ hB2
 have rl := lt_of_heap hB2
 have rf := row_frozen hB2 0
 have e0 := cell_of_row _ _ 0 _ _ _ (setCell_row (k := 0) hB2 (.slice A1 2 c1))
 obtain ⟨S3, hS3⟩ : ∃ V, S2.setCell ⟨g0 + 1, 0, none⟩ (.slice A1 2 c1) = V := ⟨_, rfl⟩
 rw [hS3] at HX3 HTR e0
 simp at e0
 obtain ⟨k0, k1, k2, k3, lg, p0, p1, p2, p3, lp, r0, r1, lr⟩ := HG.out.ext (HF3.out.own.ext.trans HT2.out.ext)
 clear hB2 T3 ho3 hv0 hv1
 go_wp2_with fail
 exact bodyPost_ret (v := .agg #[.slice A1 2 c1]) (by simp [results, Tryz.results105, go_sem, *]) rfl ⟨_, rfl, HTR.out, HX3.out⟩
def confV : Value := .agg #[.int .i64 0, .int .i64 0, .int .i64 0, .string ⟨#[]⟩]
theorem tab_open {w : World} {tv : Value} (h : TabRd w tv) : ∃ g og c a0 o0 c0 a1 o1 c1, tv = .slice (some ⟨g, og, none⟩) 2 c ∧ g < w.heap.size ∧ w.cell? ⟨g, og, none⟩ = some (.slice (some ⟨a0, o0, none⟩) 1 c0) ∧ w.cell? ⟨g, og + 1, none⟩ = some (.slice (some ⟨a1, o1, none⟩) 1 c1) ∧ a0 < w.heap.size ∧ w.cell? ⟨a0, o0, none⟩ = some (.string (tx 0)) ∧ a1 < w.heap.size ∧ w.cell? ⟨a1, o1, none⟩ = some (.string (tx 255)) ∧ Strs w (some ⟨a0, o0, none⟩) [tx 0] ∧ Strs w (some ⟨a1, o1, none⟩) [tx 255] := by
 obtain ⟨g, og, c, v0, v1, cs, h1, hcs, h3, h4, h5, h6⟩ := h
 have h2 := lt_of_heap hcs
 obtain ⟨a0, o0, c0, rfl, x0, l0⟩ := strV_one h5
 obtain ⟨a1, o1, c1, rfl, x1, l1⟩ := strV_one h6
 obtain ⟨A, c2, hA, hs, _⟩ := h5
 injection hA with hA
 subst hA
 obtain ⟨A, c3, hA, hs1, _⟩ := h6
 injection hA with hA
 subst hA
 exact ⟨g, og, c, a0, o0, c0, a1, o1, c1, h1, h2, h3, h4, l0, x0, l1, x1, hs, hs1⟩
set_option maxRecDepth 100000 in
set_option maxHeartbeats 2000000 in
theorem conflict_gram (a b : Nat) (C : Option Addr) (c d e : Nat) (tv : Value) (w : World) (h : GrRd w a b C d e) (ht : TabRd w tv) : Calls Tryz.prog 106 #[gramV a c, .agg #[tv]] w fun e w' => e = .returned (.tuple #[confV, .bool false]) ∧ Ext w w' := by
 obtain ⟨g0, W, hg0, hW, X1, hat⟩ := gr_enter w c h
 obtain ⟨g, og, tc, a0, o0, c0, a1, o1, c1, rfl, lt, x0, x1, l0, y0, l1, y1, hs0, hs1⟩ := tab_open (ht.ext X1)
 have HS := zh hs1
 obtain ⟨tb, htb⟩ : ∃ ob, W.heap.size = ob := ⟨_, rfl⟩
 obtain ⟨W1, hW1⟩ : ∃ V, W.alloc (.cells #[.slice (some ⟨g, og, none⟩) 2 tc] 103) = V := ⟨_, rfl⟩
 have hB1 : W1.heap[tb]? = some (.cells #[.slice (some ⟨g, og, none⟩) 2 tc] 103) := by rw [← hW1, ← htb]; exact heap_alloc_new _ _
 obtain ⟨cb, hcb⟩ : ∃ ob, W1.heap.size = ob := ⟨_, rfl⟩
 obtain ⟨W2, hW2⟩ : ∃ V, W1.alloc (.cells #[.int .i64 0, .int .i64 0, .int .i64 0, .string ⟨#[]⟩] 105) = V := ⟨_, rfl⟩
 have X01 : Ext W W1 := by rw [← hW1]; exact (by repeat first | exact xr _ | refine xa ?_ _ | refine xm ?_ _ _ | refine xd ?_ | refine xn ?_ _ | refine xs ?_ (by simp <;> omega) _)
 have X12 : Ext W1 W2 := by rw [← hW2]; exact (by repeat first | exact xr _ | refine xa ?_ _ | refine xm ?_ _ _ | refine xd ?_ | refine xn ?_ _ | refine xs ?_ (by simp <;> omega) _)
 have hC2 : W2.heap[cb]? = some (.cells #[.int .i64 0, .int .i64 0, .int .i64 0, .string ⟨#[]⟩] 105) := by rw [← hW2, ← hcb]; exact heap_alloc_new _ _
 have X02 := X01.trans X12
 have HG := zh (hat.ext X02)
 have HB := zh (ext_block hB1 X12)
 have HC := zh hC2
 have HCL : Hid (w.heap.size ≤ cb) := zh (by have := (X1.trans X01).size; omega)
 have HX := zh (X1.trans X02)
 have x0 := ext_cell x0 lt X02
 have x1 := ext_cell x1 lt X02
 have y0 := ext_cell y0 l0 X02
 have lt := Nat.lt_of_lt_of_le lt X02.size
 have l0 := Nat.lt_of_lt_of_le l0 X02.size
 have HHS := zh (fun w1 (e1 : Ext W2 w1) => hasRow_any (some ⟨a1, o1, none⟩) c1 [tx 255] (tx 0) w1 ((hs1.ext X02).ext e1) (by simp) false ⟨fun h => (by cases h), fun h => absurd (List.mem_singleton.1 h) (by decide)⟩)
 clear h X1 hat ht X01 X12 X02 hB1 hC2 hs0 hs1 y1 l1
 unfold gramV confV
 go_enter Tryz.func106, Tryz.ntmps106
 go_upto_region 1 with fail
 try simp only [hg0]
 try simp only [hW]
 try simp only [htb]
 try simp only [hW1]
 try simp only [hcb]
 try simp only [hW2]
 clear hW hg0 htb hW1 hcb hW2
 obtain ⟨k0, k1, k2, k3, lg, p0, p1, p2, p3, lp, r0, r1, lr⟩ := HG.out
 have b0 := cell_of_row _ _ 0 _ _ _ HB.out
 have bl := lt_of_heap HB.out
 go_wp2_with fail
 refine wp_loop_rounds 2 ?_
 rw [rounds_succ]
 go_wp2_with fail
 refine wp_loop_rounds 3 ?_
 rw [rounds_succ]
 go_wp2_with fail
 refine wp_loop_rounds 2 ?_
 rw [rounds_succ]
 go_wp2_with fail
 refine wp_loop_rounds 2 ?_
 rw [rounds_succ]
 go_upto_region 14 with fail
 refine wp_region_bt (14) (pures_bt [0, 2, 5, 7, 10] (softs_bt [1, 3, 4, 6, 8, 9, 11, 12] (.step 13 .fin))) (by kernel_rfl) (by kernel_rfl) ?_
 refine bt_pures _ fun K hK => ?_; simp only [pick, nthC]; (repeat go_big_quiet_step (fail)); refine wpQuiet_nil (hK _ ?_); clear hK K
 refine bt_softs _ fun K hK => ?_; simp only [pick, nthC]; (repeat go_big_quiet_step (fail)); refine wpQuiet_nil (hK _ ?_); clear hK K
 refine bt_step fun next hn => ?_; simp only [pick, nthC]
 go_wp2_with fail
 refine (HHS.out _ (by repeat first | exact xr _ | refine xa ?_ _ | refine xm ?_ _ _ | refine xd ?_ | refine xn ?_ _ | refine xs ?_ (by simp <;> omega) _)).mono ?_
 rintro e' W3 ⟨rfl, hx3⟩
 have HX3 : Hid (Ext W2 W3) := zh (Ext.trans (by repeat first | exact xr _ | refine xa ?_ _ | refine xm ?_ _ _ | refine xd ?_ | refine xn ?_ _ | refine xs ?_ (by simp <;> omega) _) hx3)
 clear hx3 HHS
 go_wp2_with fail
 refine segQ_mk (fun _ => laid HX3.out) (hn _ _ ?_)
 clear hn next k0 k1 k2 k3 lg p0 p1 p2 p3 lp r0 r1 lr b0 bl
 (refine bt_fin ?_)
 obtain ⟨k0, k1, k2, k3, lg, p0, p1, p2, p3, lp, r0, r1, lr⟩ := HG.out.ext HX3.out
 have hB3 := ext_block HB.out HX3.out
 have b0 := cell_of_row _ _ 0 _ _ _ hB3
 have bl := lt_of_heap hB3
 have x0 := ext_cell x0 lt HX3.out
 have x1 := ext_cell x1 lt HX3.out
 have lt := Nat.lt_of_lt_of_le lt HX3.out.size
 clear hB3
 go_wp2_with fail
 rw [rounds_succ]
 go_wp2_with fail
 rw [rounds_succ]
 go_wp2_with fail
 rw [rounds_succ]
 go_wp2_with fail
 refine wp_loop_rounds 1 ?_
 rw [rounds_succ]
 go_wp2_with fail
 rw [rounds_succ]
 go_wp2_with fail
 rw [rounds_succ]
 have hC3 := ext_block HC.out HX3.out
 have P4 := put4_at hC3 (.int .i64 0) (.int .i64 0) (.int .i64 0) (.string ⟨#[]⟩)
 have HX4 : Hid (Ext w (put4 W3 cb (.int .i64 0) (.int .i64 0) (.int .i64 0) (.string ⟨#[]⟩))) := zh ((put4_turn (S := fun k => k = cb) rfl _ _ _ _).ext (HX.out.trans HX3.out) (fun k hk => by have := HCL.out; omega))
 obtain ⟨W4, hW4⟩ : ∃ W4, put4 W3 cb (.int .i64 0) (.int .i64 0) (.int .i64 0) (.string ⟨#[]⟩) = W4 := ⟨_, rfl⟩
 rw [hW4] at P4 HX4
 have z0 := cell_of_row _ _ 0 _ _ _ hC3
 have z1 := cell_of_row _ _ 1 _ _ _ hC3
 have z2 := cell_of_row _ _ 2 _ _ _ hC3
 have z3 := cell_of_row _ _ 3 _ _ _ hC3
 have zl := lt_of_heap hC3
 have zf := fun k => row_frozen hC3 k
 have e0 := cell_of_row _ _ 0 _ _ _ P4
 have e1 := cell_of_row _ _ 1 _ _ _ P4
 have e2 := cell_of_row _ _ 2 _ _ _ P4
 have e3 := cell_of_row _ _ 3 _ _ _ P4
 simp at z0 z1 z2 z3 e0 e1 e2 e3
 unfold put4 put3 put2 at hW4
 clear hC3 P4
 go_wp2_with fail
 exact bodyPost_ret (v := .tuple #[.agg #[.int .i64 0, .int .i64 0, .int .i64 0, .string ⟨#[]⟩], .bool false]) (by simp [results, Tryz.results106, go_sem, *]) rfl ⟨rfl, HX4.out⟩
set_option maxRecDepth 100000 in
set_option maxHeartbeats 2000000 in
theorem build14_gram (a b : Nat) (C : Option Addr) (c d e : Nat) (w : World) (h : GrRd w a b C d e) (hd : d = 2) : Calls Tryz.prog 61 #[gramV a c] w fun e w' => ∃ tv, e = .returned (.tuple #[.agg #[tv], confV, .int .i64 0]) ∧ TabRd w' tv ∧ Ext w w' := by
 obtain ⟨g0, W, hg0, hW, X1, hat⟩ := gr_enter w c h
 have hgs : W.heap.size = g0 + 1 := by rw [← hW, ← hg0]; simp
 obtain ⟨W1, hW1⟩ : ∃ V, W.alloc (.cells #[nil0] 103) = V := ⟨_, rfl⟩
 have hB1 : W1.heap[g0 + 1]? = some (.cells #[nil0] 103) := by rw [← hW1, ← hgs]; exact heap_alloc_new _ _
 have hgs2 : W1.heap.size = g0 + 2 := by rw [← hW1]; simp; omega
 obtain ⟨W2, hW2⟩ : ∃ V, W1.alloc (.cells #[.int .i64 0, .int .i64 0, .int .i64 0, .string ⟨#[]⟩] 105) = V := ⟨_, rfl⟩
 have X01 : Ext W W1 := by rw [← hW1]; exact (by repeat first | exact xr _ | refine xa ?_ _ | refine xm ?_ _ _ | refine xd ?_ | refine xn ?_ _ | refine xs ?_ (by simp <;> omega) _)
 have X12 : Ext W1 W2 := by rw [← hW2]; exact (by repeat first | exact xr _ | refine xa ?_ _ | refine xm ?_ _ _ | refine xd ?_ | refine xn ?_ _ | refine xs ?_ (by simp <;> omega) _)
 have hC2 : W2.heap[g0 + 2]? = some (.cells #[.int .i64 0, .int .i64 0, .int .i64 0, .string ⟨#[]⟩] 105) := by rw [← hW2, ← hgs2]; exact heap_alloc_new _ _
 have hg := hat.ext (X01.trans X12)
 have HG := zh hg
 have HB := zh (ext_block hB1 X12)
 have HC := zh hC2
 have HX := zh (X1.trans (X01.trans X12))
 have HL : Hid (w.heap.size = g0) := zh hg0
 have HCK := zh (check_gram a b C c d e W2 hg.rd)
 have HTA := zh (fun w1 (e1 : Ext W2 w1) => table_gram a b C c d e w1 (hg.rd.ext e1) hd)
 have HCO := zh (fun tv w1 (e1 : Ext W2 w1) ht => conflict_gram a b C c d e tv w1 (hg.rd.ext e1) ht)
 clear h X1 hat X01 X12 hB1 hC2
 unfold gramV at HCK HTA HCO ⊢
 unfold confV at HCO ⊢
 go_enter Tryz.func61, Tryz.ntmps61
 go_upto_region 1 with fail
 try simp only [hg0]
 try simp only [hW]
 try simp only [hgs]
 try simp only [hW1]
 try simp only [hgs2]
 try simp only [hW2]
 clear hW hg0 hgs hW1 hgs2 hW2
 obtain ⟨k0, k1, k2, k3, lg, p0, p1, p2, p3, lp, r0, r1, lr⟩ := hg
 go_wp2_with fail
 refine HCK.out.mono ?_
 rintro e' W3 ⟨rfl, hx3⟩
 have HX3 := zh hx3
 clear HCK k0 k1 k2 k3 lg p0 p1 p2 p3 lp r0 r1 lr hx3
 obtain ⟨k0, k1, k2, k3, lg, p0, p1, p2, p3, lp, r0, r1, lr⟩ := HG.out.ext HX3.out
 go_wp2_with fail
 refine (HTA.out _ HX3.out).mono ?_
 rintro e' W4 ⟨tv, rfl, ht, hx4⟩
 have HX4 := zh (HX3.out.trans hx4)
 have HT4 := zh ht
 obtain ⟨tg, tog, tc, tv0, tv1, tcs, rfl, _⟩ := id ht
 clear k0 k1 k2 k3 lg p0 p1 p2 p3 lp r0 r1 lr HTA hx4 ht
 obtain ⟨sb, hsb⟩ : ∃ ob, W4.heap.size = ob := ⟨_, rfl⟩
 obtain ⟨W5a, hW5a⟩ : ∃ V, W4.alloc (.cells #[nil0] 103) = V := ⟨_, rfl⟩
 obtain ⟨W5, hW5⟩ : ∃ V, W5a.setCell ⟨sb, 0, none⟩ (.slice (some ⟨tg, tog, none⟩) 2 tc) = V := ⟨_, rfl⟩
 have hS5a : W5a.heap[sb]? = some (.cells #[nil0] 103) := by rw [← hW5a, ← hsb]; exact heap_alloc_new _ _
 have hS5 : W5.heap[sb]? = some (.cells #[.slice (some ⟨tg, tog, none⟩) 2 tc] 103) := by rw [← hW5]; exact setCell_row hS5a _
 have X45 : Ext W4 W5 := by rw [← hW5]; exact (Ext.setCell (show Ext W4 W5a from by rw [← hW5a]; exact (by repeat first | exact xr _ | refine xa ?_ _ | refine xm ?_ _ _ | refine xd ?_ | refine xn ?_ _ | refine xs ?_ (by simp <;> omega) _)) (by show _ ≤ sb; omega) _)
 have HX5 := zh (HX4.out.trans X45)
 have HT5 := zh (HT4.out.ext X45)
 have HS5 := zh hS5
 have s0 := cell_of_row _ _ 0 _ _ _ hS5a
 have sl := lt_of_heap hS5a
 have sf := row_frozen hS5a 0
 simp at s0
 go_upto_region 5 with fail
 try simp only [hsb]
 try simp only [hW5a]
 try simp only [hW5]
 clear hsb hW5a hW5 hS5a s0 sl sf X45
 obtain ⟨k0, k1, k2, k3, lg, p0, p1, p2, p3, lp, r0, r1, lr⟩ := HG.out.ext HX5.out
 have s0 := cell_of_row _ _ 0 _ _ _ hS5
 have sl := lt_of_heap hS5
 simp at s0
 have HCC := zh (HCO.out _ W5 HX5.out HT5.out)
 clear hS5 HCO
 go_wp2_with fail
 refine HCC.out.mono ?_
 rintro e' W6 ⟨rfl, hx6⟩
 have HX6 := zh (HX5.out.trans hx6)
 have hT6 := HT5.out.ext hx6
 have hS6 := ext_block HS5.out hx6
 have hB6 := ext_block HB.out HX6.out
 have hC6 := ext_block HC.out HX6.out
 clear k0 k1 k2 k3 lg p0 p1 p2 p3 lp r0 r1 lr hx6 HCC s0 sl
 obtain ⟨cb, hcb⟩ : ∃ ob, W6.heap.size = ob := ⟨_, rfl⟩
 obtain ⟨W7a, hW7a⟩ : ∃ V, W6.alloc (.cells #[.int .i64 0, .int .i64 0, .int .i64 0, .string ⟨#[]⟩] 105) = V := ⟨_, rfl⟩
 have hD7 : W7a.heap[cb]? = some (.cells #[.int .i64 0, .int .i64 0, .int .i64 0, .string ⟨#[]⟩] 105) := by rw [← hW7a, ← hcb]; exact heap_alloc_new _ _
 obtain ⟨W7, hW7⟩ : ∃ W4, put4 W7a cb (.int .i64 0) (.int .i64 0) (.int .i64 0) (.string ⟨#[]⟩) = W4 := ⟨_, rfl⟩
 have X67 : Ext W6 W7 := by rw [← hW7]; exact (put4_turn (S := fun k => k = cb) rfl _ _ _ _).ext (show Ext W6 W7a from by rw [← hW7a]; exact (by repeat first | exact xr _ | refine xa ?_ _ | refine xm ?_ _ _ | refine xd ?_ | refine xn ?_ _ | refine xs ?_ (by simp <;> omega) _)) (fun k hk => by omega)
 have hS7 := ext_block hS6 X67
 have hB7 := ext_block hB6 X67
 have hC7 := ext_block hC6 X67
 have hT7 := hT6.ext X67
 have z0 := cell_of_row _ _ 0 _ _ _ hD7
 have z1 := cell_of_row _ _ 1 _ _ _ hD7
 have z2 := cell_of_row _ _ 2 _ _ _ hD7
 have z3 := cell_of_row _ _ 3 _ _ _ hD7
 have zl := lt_of_heap hD7
 have zf := fun k => row_frozen hD7 k
 simp at z0 z1 z2 z3
 unfold put4 put3 put2 at hW7
 go_upto_region 8 with fail
 try simp only [hcb]
 try simp only [hW7a]
 try simp only [hW7]
 clear hcb hW7a hW7 hD7 z0 z1 z2 z3 zl zf hS6 hB6 hC6 hT6
 have s0 := cell_of_row _ _ 0 _ _ _ hS7
 have sl := lt_of_heap hS7
 have r0 := cell_of_row _ _ 0 _ _ _ hB7
 have rl := lt_of_heap hB7
 have rf := row_frozen hB7 0
 have hB8 := setCell_row (k := 0) hB7 (.slice (some ⟨tg, tog, none⟩) 2 tc)
 obtain ⟨W8, hW8⟩ : ∃ V, W7.setCell ⟨g0 + 1, 0, none⟩ (.slice (some ⟨tg, tog, none⟩) 2 tc) = V := ⟨_, rfl⟩
 have hC8 := setCell_row_other (k := 0) (g := g0 + 1) hC7 (by omega) (.slice (some ⟨tg, tog, none⟩) 2 tc)
 rw [hW8] at hB8 hC8
 obtain ⟨W9, hW9⟩ : ∃ W4, put4 W8 (g0 + 2) (.int .i64 0) (.int .i64 0) (.int .i64 0) (.string ⟨#[]⟩) = W4 := ⟨_, rfl⟩
 have P9 := put4_at hC8 (.int .i64 0) (.int .i64 0) (.int .i64 0) (.string ⟨#[]⟩)
 have T78 : Turn (fun k => k = g0 + 1 ∨ k = g0 + 2) W7 W8 := by rw [← hW8]; exact Turn.setCell _ (p := ⟨g0 + 1, 0, none⟩) (.inl rfl) _
 have T89 : Turn (fun k => k = g0 + 1 ∨ k = g0 + 2) W8 W9 := by rw [← hW9]; exact put4_turn (S := fun k => k = g0 + 1 ∨ k = g0 + 2) (.inr rfl) _ _ _ _
 have T79 := T78.trans T89
 have hB9 : W9.heap[g0 + 1]? = some (.cells #[.slice (some ⟨tg, tog, none⟩) 2 tc] 103) := by
  rw [← hW9]
  have T89' : Turn (fun k => k = g0 + 2) W8 (put4 W8 (g0 + 2) (.int .i64 0) (.int .i64 0) (.int .i64 0) (.string ⟨#[]⟩)) := put4_turn (S := fun k => k = g0 + 2) rfl _ _ _ _
  exact T89'.keep (by simpa using hB8) (by omega)
 have HX9 : Hid (Ext w W9) := zh (T79.ext (HX.out.trans (HX6.out.trans X67)) (fun k hk => by have := HL.out; omega))
 have HT9 : Hid (TabRd W9 (.slice (some ⟨tg, tog, none⟩) 2 tc)) := zh (hT7.turn T79 (fun g cs T hg hT hh => by
  rcases hh with rfl | rfl
  ·rw [hB7] at hg; injection hg with hg; injection hg with _ hg; subst hg; revert hT; decide
  ·rw [hC7] at hg; injection hg with hg; injection hg with _ hg; subst hg; revert hT; decide))
 have c0 := cell_of_row _ _ 0 _ _ _ hC8
 have c1 := cell_of_row _ _ 1 _ _ _ hC8
 have c2 := cell_of_row _ _ 2 _ _ _ hC8
 have c3 := cell_of_row _ _ 3 _ _ _ hC8
 have cl := lt_of_heap hC8
 have cf := fun k => row_frozen hC8 k
 have e0 := cell_of_row _ _ 0 _ _ _ P9
 have e1 := cell_of_row _ _ 1 _ _ _ P9
 have e2 := cell_of_row _ _ 2 _ _ _ P9
 have e3 := cell_of_row _ _ 3 _ _ _ P9
 rw [hW9] at e0 e1 e2 e3
 have e4 := cell_of_row _ _ 0 _ _ _ hB9
 simp at c0 c1 c2 c3 e0 e1 e2 e3 e4 r0 s0
 unfold put4 put3 put2 at hW9
 clear hB7 hC7 hT7 hB8 hC8 P9 hB9 T78 T89 T79 hS7
 go_wp2_with fail
 exact bodyPost_ret (v := .tuple #[.agg #[.slice (some ⟨tg, tog, none⟩) 2 tc], .agg #[.int .i64 0, .int .i64 0, .int .i64 0, .string ⟨#[]⟩], .int .i64 0]) (by simp [results, Tryz.results61, go_sem, *]) rfl ⟨_, rfl, HT9.out, HX9.out⟩
set_option maxRecDepth 100000 in
set_option maxHeartbeats 2000000 in
theorem accept_gram (a b : Nat) (C : Option Addr) (c d e : Nat) (w : World) (h : GrRd w a b C d e) (hd : d = 2) : Calls Tryz.prog 58 #[gramV a c] w fun e w' => e = .returned (.int .i64 0) ∧ Ext w w' := by
 obtain ⟨g0, W, hg0, hW, X1, hat⟩ := gr_enter w c h
 have HX := zh X1
 have HG := zh hat
 have HCK := zh (check_gram a b C c d e W hat.rd)
 have HRE := zh (fun w1 (e1 : Ext W w1) => reduced_gram a b C c d e w1 (hat.rd.ext e1))
 have HLE := zh (fun w1 (e1 : Ext W w1) => left_gram a b C c d e w1 (hat.rd.ext e1))
 have HBU := zh (fun w1 (e1 : Ext W w1) => build14_gram a b C c d e w1 (hat.rd.ext e1) hd)
 clear h X1
 obtain ⟨k0, k1, k2, k3, lg, p0, p1, p2, p3, lp, r0, r1, lr⟩ := hat
 unfold gramV at HCK HRE HLE HBU ⊢
 unfold confV at HBU
 go_enter Tryz.func58, Tryz.ntmps58
 go_wp2_with fail
 try simp only [hg0]
 refine HCK.out.mono ?_
 rintro e' W2 ⟨rfl, hx2⟩
 have HX2 := zh hx2
 clear hW hg0 k0 k1 k2 k3 lg p0 p1 p2 p3 lp r0 r1 lr hx2 HCK
 obtain ⟨k0, k1, k2, k3, lg, p0, p1, p2, p3, lp, r0, r1, lr⟩ := HG.out.ext HX2.out
 go_wp2_with fail
 refine (HRE.out _ HX2.out).mono ?_
 rintro e' W3 ⟨rfl, hx3⟩
 have HX3 := zh (HX2.out.trans hx3)
 clear k0 k1 k2 k3 lg p0 p1 p2 p3 lp r0 r1 lr hx3 HRE
 obtain ⟨k0, k1, k2, k3, lg, p0, p1, p2, p3, lp, r0, r1, lr⟩ := HG.out.ext HX3.out
 go_wp2_with fail
 refine (HLE.out _ HX3.out).mono ?_
 rintro e' W4 ⟨rfl, hx4⟩
 have HX4 := zh (HX3.out.trans hx4)
 clear k0 k1 k2 k3 lg p0 p1 p2 p3 lp r0 r1 lr hx4 HLE
 obtain ⟨k0, k1, k2, k3, lg, p0, p1, p2, p3, lp, r0, r1, lr⟩ := HG.out.ext HX4.out
 go_wp2_with fail
 refine (HBU.out _ HX4.out).mono ?_
 rintro e' W5 ⟨tv, rfl, ht, hx5⟩
 have HX5 := zh (HX4.out.trans hx5)
 clear k0 k1 k2 k3 lg p0 p1 p2 p3 lp r0 r1 lr hx5 HBU ht
 go_wp2_with fail
 go_ret
 exact ⟨rfl, HX.out.trans HX5.out⟩
theorem mk_int1 (w : World) : (Instr.makeSlice 31 (.int .i64 1) (.int .i64 1)).run Tryz.prog w = .ok (.slice (some ⟨w.heap.size, 0, none⟩) 1 1) (w.alloc (.cells #[.int .i64 0] 3)) := by
 have h := mk_ints w 1 1 rfl (by omega)
 rw [show madeCells #[.int .i64 0] 1 = #[.int .i64 0] from by
  apply Array.toList_inj.1
  rw [toList_madeCells_one]
  rfl] at h
 exact h
set_option maxRecDepth 100000 in
set_option maxHeartbeats 1200000 in
theorem null_gram (a b : Nat) (C : Option Addr) (c d e : Nat) (w : World) (h : GrRd w a b C d e) (hd : d = 2) : Calls Tryz.prog 103 #[gramV a c] w fun e w' => ∃ ob, e = .returned (.slice (some ⟨ob, 0, none⟩) 1 1) ∧ Own1 w w' 3 ob (.int .i64 1) := by
 obtain ⟨g0, W, hg0, hW, X1, hat⟩ := gr_enter w c h
 have HX := zh X1
 have HCK := zh (accept_gram a b C c d e W hat.rd hd)
 have HGW := zh hat
 clear h X1 hd
 obtain ⟨k0, k1, k2, k3, lg, p0, p1, p2, p3, lp, r0, r1, lr⟩ := hat
 unfold gramV at HCK ⊢
 go_enter Tryz.func103, Tryz.ntmps103
 go_wp2_with fail
 try simp only [hg0]
 refine HCK.out.mono ?_
 rintro e' W2 ⟨rfl, hx2⟩
 have HG := zh (HGW.out.ext hx2)
 have HX2 := zh (HX.out.trans hx2)
 clear hW hg0 k0 k1 k2 k3 lg p0 p1 p2 p3 lp r0 r1 lr hx2 HCK HX HGW
 obtain ⟨k0, k1, k2, k3, lg, p0, p1, p2, p3, lp, r0, r1, lr⟩ := HG.out
 have hmk := mk_int1
 obtain ⟨ob, hob⟩ : ∃ ob, W2.heap.size = ob := ⟨_, rfl⟩
 obtain ⟨S0, hW3⟩ : ∃ W3, W2.alloc (.cells #[.int .i64 0] 3) = W3 := ⟨_, rfl⟩
 have HS0 : Hid (Own1 W2 S0 3 ob (.int .i64 0)) := zh (by rw [← hW3, ← hob]; exact Own1.new (Ext.refl _) _)
 go_wp2_with fail
 try simp only [hob, hW3]
 clear hob hW3 hmk k0 k1 k2 k3 lg p0 p1 p2 p3 lp r0 r1 lr
 obtain ⟨k0, k1, k2, k3, lg, p0, p1, p2, p3, lp, r0, r1, lr⟩ := HG.out.ext HS0.out.ext
 refine wp_loop_rounds 2 ?_
 rw [rounds_succ]
 have o0 := HS0.out.cell
 have ol := HS0.out.lt
 have of := HS0.out.froz
 obtain ⟨S1, hS1⟩ : ∃ V, S0.setCell ⟨ob, 0, none⟩ (.int .i64 (-1)) = V := ⟨_, rfl⟩
 have HS1 := zh (HS0.out.setX _ hS1)
 go_upto_region 6 with fail
 clear hS1 o0 ol of k0 k1 k2 k3 lg p0 p1 p2 p3 lp r0 r1 lr HS0
 obtain ⟨k0, k1, k2, k3, lg, p0, p1, p2, p3, lp, r0, r1, lr⟩ := HG.out.ext HS1.out.ext
 go_wp2_with fail
 rw [rounds_succ]
 go_wp2_with fail
 refine wp_loop_rounds 3 ?_
 rw [rounds_succ]
 go_wp2_with fail
 refine wp_loop_rounds 3 ?_
 rw [rounds_succ]
 try clear k0 k1 k2 k3 lg p0 p1 p2 p3 lp r0 r1 lr
 obtain ⟨k0, k1, k2, k3, lg, p0, p1, p2, p3, lp, r0, r1, lr⟩ := HG.out.ext HS1.out.ext
 obtain ⟨pb, Wb, S2, hpb, hWb, hW4, z0, z1, zf, zl, hq, X4⟩ := prod_copy2 S1 (.slice (some ⟨b, 0, none⟩) 2 d)
 have HS2 := zh (HS1.out.to X4)
 have HQ := zh hq
 clear X4 hq
 go_upto_region 15 with fail
 try simp only [hpb, hWb, hW4]
 clear hpb hWb hW4 z0 z1 zf zl k0 k1 k2 k3 lg p0 p1 p2 p3 lp r0 r1 lr HS1
 obtain ⟨k0, k1, k2, k3, lg, p0, p1, p2, p3, lp, r0, r1, lr⟩ := HG.out.ext HS2.out.ext
 obtain ⟨q0, q1, ql⟩ := HQ.out
 have o0 := HS2.out.cell
 have ol := HS2.out.lt
 have of := HS2.out.froz
 go_wp2_with fail
 refine wp_loop_rounds 2 ?_
 rw [rounds_succ]
 go_upto_region 19 with fail; refine wp_region_bt (9) (pures_bt [0, 2, 5] (softs_bt [1, 3, 4, 6, 7, 8] .fin)) (by kernel_rfl) (by kernel_rfl) ?_; refine bt_pures _ fun K hK => ?_; simp only [pick, nthC]; (repeat go_big_quiet_step (fail)); refine wpQuiet_nil (hK _ ?_); clear hK K; refine bt_softs _ fun K hK => ?_; simp only [pick, nthC]; (repeat go_big_quiet_step (fail)); refine wpQuiet_nil (hK _ ?_); clear hK K; (refine bt_fin ?_)
 clear k0 k1 k2 k3 lg p0 p1 p2 p3 lp r0 r1 lr q0 q1 ql o0 ol of
 obtain ⟨S2d, hd2⟩ : ∃ V, S2.drew = V := ⟨_, rfl⟩
 have X2 : Ext S2 S2d := by rw [← hd2]; exact (by repeat first | exact xr _ | refine xa ?_ _ | refine xm ?_ _ _ | refine xd ?_ | refine xn ?_ _ | refine xs ?_ (by simp <;> omega) _)
 have HS2d := zh (HS2.out.to X2)
 have HQ' := zh (HQ.out.ext X2)
 try simp only [hd2]
 clear hd2 X2 HS2
 obtain ⟨k0, k1, k2, k3, lg, p0, p1, p2, p3, lp, r0, r1, lr⟩ := HG.out.ext HS2d.out.ext
 obtain ⟨q0, q1, ql⟩ := HQ'.out
 go_wp2_with fail
 rw [rounds_succ]
 go_wp2_with fail
 clear q0 q1 ql HQ HQ'
 rw [rounds_succ]
 try clear k0 k1 k2 k3 lg p0 p1 p2 p3 lp r0 r1 lr
 obtain ⟨k0, k1, k2, k3, lg, p0, p1, p2, p3, lp, r0, r1, lr⟩ := HG.out.ext HS2d.out.ext
 obtain ⟨pb, Wb, S3, hpb, hWb, hW4, z0, z1, zf, zl, hq, X4⟩ := prod_copy2 S2d (.slice C 0 e)
 have HS3 := zh (HS2d.out.to X4)
 have HQ := zh hq
 clear X4 hq
 go_upto_region 15 with fail
 try simp only [hpb, hWb, hW4]
 clear hpb hWb hW4 z0 z1 zf zl k0 k1 k2 k3 lg p0 p1 p2 p3 lp r0 r1 lr HS2d
 obtain ⟨k0, k1, k2, k3, lg, p0, p1, p2, p3, lp, r0, r1, lr⟩ := HG.out.ext HS3.out.ext
 obtain ⟨q0, q1, ql⟩ := HQ.out
 have o0 := HS3.out.cell
 have ol := HS3.out.lt
 have of := HS3.out.froz
 go_wp2_with fail
 refine wp_loop_rounds 1 ?_
 rw [rounds_succ]
 obtain ⟨S3s, hS⟩ : ∃ V, S3.setCell ⟨ob, 0, none⟩ (.int .i64 1) = V := ⟨_, rfl⟩
 have HS3s := zh (HS3.out.setX _ hS)
 go_upto_region 13 with fail
 clear hS q0 q1 ql HQ o0 ol of HS3 k0 k1 k2 k3 lg p0 p1 p2 p3 lp r0 r1 lr
 obtain ⟨k0, k1, k2, k3, lg, p0, p1, p2, p3, lp, r0, r1, lr⟩ := HG.out.ext HS3s.out.ext
 go_wp2_with fail
 rw [rounds_succ]
 go_wp2_with fail
 rw [rounds_succ]
 go_wp2_with fail
 refine wp_loop_rounds 3 ?_
 rw [rounds_succ]
 try clear k0 k1 k2 k3 lg p0 p1 p2 p3 lp r0 r1 lr
 obtain ⟨k0, k1, k2, k3, lg, p0, p1, p2, p3, lp, r0, r1, lr⟩ := HG.out.ext HS3s.out.ext
 obtain ⟨pb, Wb, S4, hpb, hWb, hW4, z0, z1, zf, zl, hq, X4⟩ := prod_copy2 S3s (.slice (some ⟨b, 0, none⟩) 2 d)
 have HS4 := zh (HS3s.out.to X4)
 have HQ := zh hq
 clear X4 hq
 go_upto_region 15 with fail
 try simp only [hpb, hWb, hW4]
 clear hpb hWb hW4 z0 z1 zf zl k0 k1 k2 k3 lg p0 p1 p2 p3 lp r0 r1 lr HS3s
 obtain ⟨k0, k1, k2, k3, lg, p0, p1, p2, p3, lp, r0, r1, lr⟩ := HG.out.ext HS4.out.ext
 obtain ⟨q0, q1, ql⟩ := HQ.out
 have o0 := HS4.out.cell
 have ol := HS4.out.lt
 have of := HS4.out.froz
 go_wp2_with fail
 refine wp_loop_rounds 2 ?_
 rw [rounds_succ]
 go_upto_region 19 with fail; refine wp_region_bt (9) (pures_bt [0, 2, 5] (softs_bt [1, 3, 4, 6, 7, 8] .fin)) (by kernel_rfl) (by kernel_rfl) ?_; refine bt_pures _ fun K hK => ?_; simp only [pick, nthC]; (repeat go_big_quiet_step (fail)); refine wpQuiet_nil (hK _ ?_); clear hK K; refine bt_softs _ fun K hK => ?_; simp only [pick, nthC]; (repeat go_big_quiet_step (fail)); refine wpQuiet_nil (hK _ ?_); clear hK K; (refine bt_fin ?_)
 clear k0 k1 k2 k3 lg p0 p1 p2 p3 lp r0 r1 lr q0 q1 ql o0 ol of
 obtain ⟨S4d, hd4⟩ : ∃ V, S4.drew = V := ⟨_, rfl⟩
 have X4 : Ext S4 S4d := by rw [← hd4]; exact (by repeat first | exact xr _ | refine xa ?_ _ | refine xm ?_ _ _ | refine xd ?_ | refine xn ?_ _ | refine xs ?_ (by simp <;> omega) _)
 have HS4d := zh (HS4.out.to X4)
 have HQ' := zh (HQ.out.ext X4)
 try simp only [hd4]
 clear hd4 X4 HS4
 obtain ⟨k0, k1, k2, k3, lg, p0, p1, p2, p3, lp, r0, r1, lr⟩ := HG.out.ext HS4d.out.ext
 obtain ⟨q0, q1, ql⟩ := HQ'.out
 go_wp2_with fail
 rw [rounds_succ]
 go_wp2_with fail
 clear q0 q1 ql HQ HQ'
 rw [rounds_succ]
 try clear k0 k1 k2 k3 lg p0 p1 p2 p3 lp r0 r1 lr
 obtain ⟨k0, k1, k2, k3, lg, p0, p1, p2, p3, lp, r0, r1, lr⟩ := HG.out.ext HS4d.out.ext
 obtain ⟨pb, Wb, S5, hpb, hWb, hW4, z0, z1, zf, zl, hq, X4⟩ := prod_copy2 S4d (.slice C 0 e)
 have HS5 := zh (HS4d.out.to X4)
 have HQ := zh hq
 clear X4 hq
 go_upto_region 15 with fail
 try simp only [hpb, hWb, hW4]
 clear hpb hWb hW4 z0 z1 zf zl k0 k1 k2 k3 lg p0 p1 p2 p3 lp r0 r1 lr HS4d
 obtain ⟨k0, k1, k2, k3, lg, p0, p1, p2, p3, lp, r0, r1, lr⟩ := HG.out.ext HS5.out.ext
 obtain ⟨q0, q1, ql⟩ := HQ.out
 have o0 := HS5.out.cell
 have ol := HS5.out.lt
 have of := HS5.out.froz
 go_wp2_with fail
 refine wp_loop_rounds 1 ?_
 rw [rounds_succ]
 go_wp2_with fail
 rw [rounds_succ]
 go_wp2_with fail
 clear q0 q1 ql HQ o0 ol of k0 k1 k2 k3 lg p0 p1 p2 p3 lp r0 r1 lr
 rw [rounds_succ]
 go_wp2_with fail
 go_ret
 exact ⟨ob, rfl, HS5.out.blk, HX2.out.trans HS5.out.ext, Nat.le_trans HX2.out.size HS5.out.low⟩
set_option maxRecDepth 100000 in
set_option maxHeartbeats 1000000 in
theorem deeper_two (a b : Nat) (C : Option Addr) (c d e : Nat) (v1 v2 : Value) (_ : Option Addr) (cr : Nat) (w : World) (h : GrRd w a b C d e) : Calls Tryz.prog 156 #[gramV a c, v1, v2, .slice (some ⟨b, 0, none⟩) 2 cr] w fun e w' => e = .returned (.int .i64 0) ∧ Ext w w' := by
 obtain ⟨g0, W, hg0, hW, X1, hat⟩ := gr_enter w c h
 have HX := zh X1
 clear h X1
 obtain ⟨k0, k1, k2, k3, lg, p0, p1, p2, p3, lp, r0, r1, lr⟩ := hat
 unfold gramV
 go_enter Tryz.func156, Tryz.ntmps156
 go_wp2_with fail
 try simp only [hg0]
 try simp only [hW]
 clear hW hg0
 refine wp_loop_rounds 1 ?_
 rw [rounds_succ]
 go_upto_region 3 with fail; refine wp_region_bt (13) (pures_bt [0, 1, 2, 3, 4, 5, 6, 7, 9] (softs_bt [8, 10, 11, 12] .fin)) (by kernel_rfl) (by kernel_rfl) ?_; refine bt_pures _ fun K hK => ?_; simp only [pick, nthC]; (repeat go_big_quiet_step (fail)); refine wpQuiet_nil (hK _ ?_); clear hK K; refine bt_softs _ fun K hK => ?_; simp only [pick, nthC]; (repeat go_big_quiet_step (fail)); refine wpQuiet_nil (hK _ ?_); clear hK K; (refine bt_fin ?_)
 go_wp2_with fail
 go_ret
 exact ⟨rfl, HX.out.trans (by repeat first | exact xr _ | refine xa ?_ _ | refine xm ?_ _ _ | refine xd ?_ | refine xn ?_ _ | refine xs ?_ (by simp <;> omega) _)⟩
set_option maxRecDepth 100000 in
set_option maxHeartbeats 1000000 in
theorem deeper_nil (a b : Nat) (C : Option Addr) (c d e : Nat) (v1 v2 : Value) (R : Option Addr) (cr : Nat) (w : World) (h : GrRd w a b C d e) : Calls Tryz.prog 156 #[gramV a c, v1, v2, .slice R 0 cr] w fun e w' => e = .returned (.int .i64 0) ∧ Ext w w' := by
 obtain ⟨g0, W, hg0, hW, X1, hat⟩ := gr_enter w c h
 have HX := zh X1
 clear h X1
 obtain ⟨k0, k1, k2, k3, lg, p0, p1, p2, p3, lp, r0, r1, lr⟩ := hat
 unfold gramV
 go_enter Tryz.func156, Tryz.ntmps156
 go_wp2_with fail
 try simp only [hg0]
 try simp only [hW]
 clear hW hg0
 refine wp_loop_rounds 1 ?_
 rw [rounds_succ]
 go_upto_region 3 with fail; refine wp_region_bt (13) (pures_bt [0, 1, 2, 3, 4, 5, 6, 7, 9] (softs_bt [8, 10, 11, 12] .fin)) (by kernel_rfl) (by kernel_rfl) ?_; refine bt_pures _ fun K hK => ?_; simp only [pick, nthC]; (repeat go_big_quiet_step (fail)); refine wpQuiet_nil (hK _ ?_); clear hK K; refine bt_softs _ fun K hK => ?_; simp only [pick, nthC]; (repeat go_big_quiet_step (fail)); refine wpQuiet_nil (hK _ ?_); clear hK K; (refine bt_fin ?_)
 go_wp2_with fail
 go_ret
 exact ⟨rfl, HX.out.trans (by repeat first | exact xr _ | refine xa ?_ _ | refine xm ?_ _ _ | refine xd ?_ | refine xn ?_ _ | refine xs ?_ (by simp <;> omega) _)⟩
set_option maxRecDepth 100000 in
set_option maxHeartbeats 1200000 in
theorem deep_gram (a b : Nat) (C : Option Addr) (c d e : Nat) (w : World) (h : GrRd w a b C d e) (hd : d = 2) : Calls Tryz.prog 104 #[gramV a c] w fun e w' => ∃ ob, e = .returned (.slice (some ⟨ob, 0, none⟩) 1 1) ∧ Own1 w w' 3 ob (.int .i64 1) := by
 obtain ⟨g0, W, hg0, hW, X1, hat⟩ := gr_enter w c h
 have HX := zh X1
 have HCK := zh (accept_gram a b C c d e W hat.rd hd)
 have HGW := zh hat
 clear h X1 hd
 obtain ⟨k0, k1, k2, k3, lg, p0, p1, p2, p3, lp, r0, r1, lr⟩ := hat
 unfold gramV at HCK ⊢
 go_enter Tryz.func104, Tryz.ntmps104
 go_wp2_with fail
 try simp only [hg0]
 refine HCK.out.mono ?_
 rintro e' W2 ⟨rfl, hx2⟩
 have HG := zh (HGW.out.ext hx2)
 have HX2 := zh (HX.out.trans hx2)
 clear hW hg0 k0 k1 k2 k3 lg p0 p1 p2 p3 lp r0 r1 lr hx2 HCK HX HGW
 obtain ⟨k0, k1, k2, k3, lg, p0, p1, p2, p3, lp, r0, r1, lr⟩ := HG.out
 have HN := zh (nullable_gram a b C c d e W2 HG.out.rd)
 unfold gramV at HN
 go_wp2_with fail
 refine HN.out.mono ?_
 rintro e' W3 ⟨na, rfl, hn⟩
 have HN3 := zh hn
 clear hn HN k0 k1 k2 k3 lg p0 p1 p2 p3 lp r0 r1 lr
 obtain ⟨k0, k1, k2, k3, lg, p0, p1, p2, p3, lp, r0, r1, lr⟩ := HG.out.ext HN3.out.ext
 have hmk := mk_int1
 obtain ⟨ob, hob⟩ : ∃ ob, W3.heap.size = ob := ⟨_, rfl⟩
 obtain ⟨S0, hW3⟩ : ∃ V, W3.alloc (.cells #[.int .i64 0] 3) = V := ⟨_, rfl⟩
 have HS0 : Hid (Own1 W3 S0 3 ob (.int .i64 0)) := zh (by rw [← hW3, ← hob]; exact Own1.new (Ext.refl _) _)
 go_wp2_with fail
 try simp only [hob, hW3]
 clear hob hW3 hmk k0 k1 k2 k3 lg p0 p1 p2 p3 lp r0 r1 lr
 refine wp_loop_rounds 3 ?_
 rw [rounds_succ]
 go_wp2_with fail
 refine wp_loop_rounds 3 ?_
 rw [rounds_succ]
 try clear k0 k1 k2 k3 lg p0 p1 p2 p3 lp r0 r1 lr
 obtain ⟨k0, k1, k2, k3, lg, p0, p1, p2, p3, lp, r0, r1, lr⟩ := HG.out.ext (HN3.out.ext.trans HS0.out.ext)
 have HDE := zh (fun w1 (e1 : Ext S0 w1) => deeper_two a b C c d e (.slice (some ⟨na, 0, none⟩) 1 1) (.slice (some ⟨ob, 0, none⟩) 1 1) none d w1 (HG.out.ext ((HN3.out.ext.trans HS0.out.ext).trans e1)).rd)
 unfold gramV at HDE
 go_upto_region 11 with fail
 refine wp_region_bt (12) (pures_bt [1, 2, 3, 5] (softs_bt [0, 4, 6, 7, 8] (.step 9 (pures_bt [10, 11] .fin)))) (by kernel_rfl) (by kernel_rfl) ?_
 refine bt_pures _ fun K hK => ?_; simp only [pick, nthC]; (repeat go_big_quiet_step (fail)); refine wpQuiet_nil (hK _ ?_); clear hK K
 refine bt_softs _ fun K hK => ?_; simp only [pick, nthC]; (repeat go_big_quiet_step (fail)); refine wpQuiet_nil (hK _ ?_); clear hK K
 refine bt_step fun next hn => ?_; simp only [pick, nthC]
 go_wp2_with fail
 refine (HDE.out _ (by repeat first | exact xr _ | refine xa ?_ _ | refine xm ?_ _ _ | refine xd ?_ | refine xn ?_ _ | refine xs ?_ (by simp <;> omega) _)).mono ?_
 rintro e' S1 ⟨rfl, hx⟩
 have HXT : Hid (Ext S0 S1) := zh (Ext.trans (by repeat first | exact xr _ | refine xa ?_ _ | refine xm ?_ _ _ | refine xd ?_ | refine xn ?_ _ | refine xs ?_ (by simp <;> omega) _) hx)
 have HS1 := zh (HS0.out.to HXT.out)
 clear hx HDE
 go_wp2_with fail
 refine segQ_mk (fun _ => laid HXT.out) (hn _ _ ?_)
 clear hn next k0 k1 k2 k3 lg p0 p1 p2 p3 lp r0 r1 lr HXT HS0
 refine bt_pures _ fun K hK => ?_; simp only [pick, nthC]; (repeat go_big_quiet_step (fail)); refine wpQuiet_nil (hK _ ?_); clear hK K
 (refine bt_fin ?_)
 obtain ⟨k0, k1, k2, k3, lg, p0, p1, p2, p3, lp, r0, r1, lr⟩ := HG.out.ext (HN3.out.ext.trans HS1.out.ext)
 have o0 := HS1.out.cell
 have ol := HS1.out.lt
 have of := HS1.out.froz
 obtain ⟨S1s, hS⟩ : ∃ V, S1.setCell ⟨ob, 0, none⟩ (.int .i64 1) = V := ⟨_, rfl⟩
 have HS1s := zh (HS1.out.setX _ hS)
 go_upto_region 10 with fail
 clear hS o0 ol of HS1 k0 k1 k2 k3 lg p0 p1 p2 p3 lp r0 r1 lr
 go_wp2_with fail
 rw [rounds_succ]
 try clear k0 k1 k2 k3 lg p0 p1 p2 p3 lp r0 r1 lr
 obtain ⟨k0, k1, k2, k3, lg, p0, p1, p2, p3, lp, r0, r1, lr⟩ := HG.out.ext (HN3.out.ext.trans HS1s.out.ext)
 have HDE := zh (fun w1 (e1 : Ext S1s w1) => deeper_nil a b C c d e (.slice (some ⟨na, 0, none⟩) 1 1) (.slice (some ⟨ob, 0, none⟩) 1 1) C e w1 (HG.out.ext ((HN3.out.ext.trans HS1s.out.ext).trans e1)).rd)
 unfold gramV at HDE
 go_upto_region 11 with fail
 refine wp_region_bt (12) (pures_bt [1, 2, 3, 5] (softs_bt [0, 4, 6, 7, 8] (.step 9 (pures_bt [10, 11] .fin)))) (by kernel_rfl) (by kernel_rfl) ?_
 refine bt_pures _ fun K hK => ?_; simp only [pick, nthC]; (repeat go_big_quiet_step (fail)); refine wpQuiet_nil (hK _ ?_); clear hK K
 refine bt_softs _ fun K hK => ?_; simp only [pick, nthC]; (repeat go_big_quiet_step (fail)); refine wpQuiet_nil (hK _ ?_); clear hK K
 refine bt_step fun next hn => ?_; simp only [pick, nthC]
 go_wp2_with fail
 refine (HDE.out _ (by repeat first | exact xr _ | refine xa ?_ _ | refine xm ?_ _ _ | refine xd ?_ | refine xn ?_ _ | refine xs ?_ (by simp <;> omega) _)).mono ?_
 rintro e' S2 ⟨rfl, hx⟩
 have HXT : Hid (Ext S1s S2) := zh (Ext.trans (by repeat first | exact xr _ | refine xa ?_ _ | refine xm ?_ _ _ | refine xd ?_ | refine xn ?_ _ | refine xs ?_ (by simp <;> omega) _) hx)
 have HS2 := zh (HS1s.out.to HXT.out)
 clear hx HDE
 go_wp2_with fail
 refine segQ_mk (fun _ => laid HXT.out) (hn _ _ ?_)
 clear hn next k0 k1 k2 k3 lg p0 p1 p2 p3 lp r0 r1 lr HXT HS1s
 refine bt_pures _ fun K hK => ?_; simp only [pick, nthC]; (repeat go_big_quiet_step (fail)); refine wpQuiet_nil (hK _ ?_); clear hK K
 (refine bt_fin ?_)
 obtain ⟨k0, k1, k2, k3, lg, p0, p1, p2, p3, lp, r0, r1, lr⟩ := HG.out.ext (HN3.out.ext.trans HS2.out.ext)
 have o0 := HS2.out.cell
 have ol := HS2.out.lt
 have of := HS2.out.froz
 go_wp2_with fail
 clear o0 ol of
 rw [rounds_succ]
 try clear k0 k1 k2 k3 lg p0 p1 p2 p3 lp r0 r1 lr
 obtain ⟨k0, k1, k2, k3, lg, p0, p1, p2, p3, lp, r0, r1, lr⟩ := HG.out.ext (HN3.out.ext.trans HS2.out.ext)
 go_wp2_with fail
 clear k0 k1 k2 k3 lg p0 p1 p2 p3 lp r0 r1 lr
 rw [rounds_succ]
 go_wp2_with fail
 refine wp_loop_rounds 3 ?_
 rw [rounds_succ]
 try clear k0 k1 k2 k3 lg p0 p1 p2 p3 lp r0 r1 lr
 obtain ⟨k0, k1, k2, k3, lg, p0, p1, p2, p3, lp, r0, r1, lr⟩ := HG.out.ext (HN3.out.ext.trans HS2.out.ext)
 have HDE := zh (fun w1 (e1 : Ext S2 w1) => deeper_two a b C c d e (.slice (some ⟨na, 0, none⟩) 1 1) (.slice (some ⟨ob, 0, none⟩) 1 1) none d w1 (HG.out.ext ((HN3.out.ext.trans HS2.out.ext).trans e1)).rd)
 unfold gramV at HDE
 go_upto_region 11 with fail
 refine wp_region_bt (12) (pures_bt [1, 2, 3, 5] (softs_bt [0, 4, 6, 7, 8] (.step 9 (pures_bt [10, 11] .fin)))) (by kernel_rfl) (by kernel_rfl) ?_
 refine bt_pures _ fun K hK => ?_; simp only [pick, nthC]; (repeat go_big_quiet_step (fail)); refine wpQuiet_nil (hK _ ?_); clear hK K
 refine bt_softs _ fun K hK => ?_; simp only [pick, nthC]; (repeat go_big_quiet_step (fail)); refine wpQuiet_nil (hK _ ?_); clear hK K
 refine bt_step fun next hn => ?_; simp only [pick, nthC]
 go_wp2_with fail
 refine (HDE.out _ (by repeat first | exact xr _ | refine xa ?_ _ | refine xm ?_ _ _ | refine xd ?_ | refine xn ?_ _ | refine xs ?_ (by simp <;> omega) _)).mono ?_
 rintro e' S3 ⟨rfl, hx⟩
 have HXT : Hid (Ext S2 S3) := zh (Ext.trans (by repeat first | exact xr _ | refine xa ?_ _ | refine xm ?_ _ _ | refine xd ?_ | refine xn ?_ _ | refine xs ?_ (by simp <;> omega) _) hx)
 have HS3 := zh (HS2.out.to HXT.out)
 clear hx HDE
 go_wp2_with fail
 refine segQ_mk (fun _ => laid HXT.out) (hn _ _ ?_)
 clear hn next k0 k1 k2 k3 lg p0 p1 p2 p3 lp r0 r1 lr HXT HS2
 refine bt_pures _ fun K hK => ?_; simp only [pick, nthC]; (repeat go_big_quiet_step (fail)); refine wpQuiet_nil (hK _ ?_); clear hK K
 (refine bt_fin ?_)
 obtain ⟨k0, k1, k2, k3, lg, p0, p1, p2, p3, lp, r0, r1, lr⟩ := HG.out.ext (HN3.out.ext.trans HS3.out.ext)
 have o0 := HS3.out.cell
 have ol := HS3.out.lt
 have of := HS3.out.froz
 go_wp2_with fail
 clear o0 ol of
 rw [rounds_succ]
 try clear k0 k1 k2 k3 lg p0 p1 p2 p3 lp r0 r1 lr
 obtain ⟨k0, k1, k2, k3, lg, p0, p1, p2, p3, lp, r0, r1, lr⟩ := HG.out.ext (HN3.out.ext.trans HS3.out.ext)
 have HDE := zh (fun w1 (e1 : Ext S3 w1) => deeper_nil a b C c d e (.slice (some ⟨na, 0, none⟩) 1 1) (.slice (some ⟨ob, 0, none⟩) 1 1) C e w1 (HG.out.ext ((HN3.out.ext.trans HS3.out.ext).trans e1)).rd)
 unfold gramV at HDE
 go_upto_region 11 with fail
 refine wp_region_bt (12) (pures_bt [1, 2, 3, 5] (softs_bt [0, 4, 6, 7, 8] (.step 9 (pures_bt [10, 11] .fin)))) (by kernel_rfl) (by kernel_rfl) ?_
 refine bt_pures _ fun K hK => ?_; simp only [pick, nthC]; (repeat go_big_quiet_step (fail)); refine wpQuiet_nil (hK _ ?_); clear hK K
 refine bt_softs _ fun K hK => ?_; simp only [pick, nthC]; (repeat go_big_quiet_step (fail)); refine wpQuiet_nil (hK _ ?_); clear hK K
 refine bt_step fun next hn => ?_; simp only [pick, nthC]
 go_wp2_with fail
 refine (HDE.out _ (by repeat first | exact xr _ | refine xa ?_ _ | refine xm ?_ _ _ | refine xd ?_ | refine xn ?_ _ | refine xs ?_ (by simp <;> omega) _)).mono ?_
 rintro e' S4 ⟨rfl, hx⟩
 have HXT : Hid (Ext S3 S4) := zh (Ext.trans (by repeat first | exact xr _ | refine xa ?_ _ | refine xm ?_ _ _ | refine xd ?_ | refine xn ?_ _ | refine xs ?_ (by simp <;> omega) _) hx)
 have HS4 := zh (HS3.out.to HXT.out)
 clear hx HDE
 go_wp2_with fail
 refine segQ_mk (fun _ => laid HXT.out) (hn _ _ ?_)
 clear hn next k0 k1 k2 k3 lg p0 p1 p2 p3 lp r0 r1 lr HXT HS3
 refine bt_pures _ fun K hK => ?_; simp only [pick, nthC]; (repeat go_big_quiet_step (fail)); refine wpQuiet_nil (hK _ ?_); clear hK K
 (refine bt_fin ?_)
 obtain ⟨k0, k1, k2, k3, lg, p0, p1, p2, p3, lp, r0, r1, lr⟩ := HG.out.ext (HN3.out.ext.trans HS4.out.ext)
 have o0 := HS4.out.cell
 have ol := HS4.out.lt
 have of := HS4.out.froz
 go_wp2_with fail
 clear o0 ol of
 rw [rounds_succ]
 try clear k0 k1 k2 k3 lg p0 p1 p2 p3 lp r0 r1 lr
 obtain ⟨k0, k1, k2, k3, lg, p0, p1, p2, p3, lp, r0, r1, lr⟩ := HG.out.ext (HN3.out.ext.trans HS4.out.ext)
 go_wp2_with fail
 clear k0 k1 k2 k3 lg p0 p1 p2 p3 lp r0 r1 lr
 rw [rounds_succ]
 go_wp2_with fail
 go_ret
 exact ⟨ob, rfl, HS4.out.blk, HX2.out.trans (HN3.out.ext.trans HS4.out.ext), Nat.le_trans HX2.out.size (Nat.le_trans HN3.out.ext.size HS4.out.low)⟩
set_option maxRecDepth 100000 in
set_option maxHeartbeats 1200000 in
theorem const_gram (a b : Nat) (C : Option Addr) (c d e : Nat) (w : World) (h : GrRd w a b C d e) (hd : d = 2) : Calls Tryz.prog 59 #[gramV a c] w fun e w' => e = .returned (.int .i64 4) ∧ Ext w w' := by
 obtain ⟨g0, W, hg0, hW, X1, hat⟩ := gr_enter w c h
 have HX := zh X1
 have HG := zh hat
 have HA := zh (fun w1 (e1 : Ext W w1) => null_gram a b C c d e w1 (hat.rd.ext e1) hd)
 have HB := zh (fun w1 (e1 : Ext W w1) => deep_gram a b C c d e w1 (hat.rd.ext e1) hd)
 clear h X1 hd
 obtain ⟨k0, k1, k2, k3, lg, p0, p1, p2, p3, lp, r0, r1, lr⟩ := hat
 unfold gramV at HA HB ⊢
 go_enter Tryz.func59, Tryz.ntmps59
 go_upto_region 1 with fail
 try simp only [hg0]
 try simp only [hW]
 clear hW hg0
 refine wp_region_bt (6) (softs_bt [0, 2] (.step 1 (.step 3 (pures_bt [4, 5] .fin)))) (by kernel_rfl) (by kernel_rfl) ?_
 refine bt_softs _ fun K hK => ?_; simp only [pick, nthC]; (repeat go_big_quiet_step (fail)); refine wpQuiet_nil (hK _ ?_); clear hK K
 refine bt_step fun next hn => ?_; simp only [pick, nthC]
 go_wp2_with fail
 refine (HA.out _ (by repeat first | exact xr _ | refine xa ?_ _ | refine xm ?_ _ _ | refine xd ?_ | refine xn ?_ _ | refine xs ?_ (by simp <;> omega) _)).mono ?_
 rintro e' W3 ⟨oa, rfl, ha⟩
 have HA3 : Hid (Own1 W W3 3 oa (.int .i64 1)) := zh ⟨ha.blk, Ext.trans (by repeat first | exact xr _ | refine xa ?_ _ | refine xm ?_ _ _ | refine xd ?_ | refine xn ?_ _ | refine xs ?_ (by simp <;> omega) _) ha.ext, ha.low⟩
 clear ha
 go_wp2_with fail
 refine segQ_mk (fun _ => laid HA3.out.ext) (hn _ _ ?_)
 clear hn next
 refine bt_step fun next hn => ?_; simp only [pick, nthC]
 go_wp2_with fail
 refine (HB.out _ HA3.out.ext).mono ?_
 rintro e' W4 ⟨ob, rfl, hb⟩
 have HA4 : Hid (Own1 W W4 3 oa (.int .i64 1)) := zh (HA3.out.to hb.ext)
 have HB4 : Hid (Own1 W3 W4 3 ob (.int .i64 1)) := zh hb
 clear hb
 go_wp2_with fail
 refine segQ_mk (fun _ => laid HA4.out.ext) (hn _ _ ?_)
 clear hn next k0 k1 k2 k3 lg p0 p1 p2 p3 lp r0 r1 lr
 refine bt_pures _ fun K hK => ?_; simp only [pick, nthC]; (repeat go_big_quiet_step (fail)); refine wpQuiet_nil (hK _ ?_); clear hK K
 (refine bt_fin ?_)
 have a0 := HA4.out.cell
 have al := HA4.out.lt
 have b0 := HB4.out.cell
 have bl := HB4.out.lt
 go_wp2_with fail
 refine wp_loop_rounds 2 ?_
 rw [rounds_succ]
 go_upto_region 8 with fail; refine wp_region_bt (14) (pures_bt [0, 1, 2, 3, 6, 7, 8, 9] (softs_bt [4, 5, 10, 11, 12, 13] .fin)) (by kernel_rfl) (by kernel_rfl) ?_; refine bt_pures _ fun K hK => ?_; simp only [pick, nthC]; (repeat go_big_quiet_step (fail)); refine wpQuiet_nil (hK _ ?_); clear hK K; refine bt_softs _ fun K hK => ?_; simp only [pick, nthC]; (repeat go_big_quiet_step (fail)); refine wpQuiet_nil (hK _ ?_); clear hK K; (refine bt_fin ?_)
 go_wp2_with fail
 clear a0 al b0 bl
 obtain ⟨W5, hW5⟩ : ∃ V, W4.drew = V := ⟨_, rfl⟩
 have HX5 : Hid (Ext W4 W5) := zh (by rw [← hW5]; exact (by repeat first | exact xr _ | refine xa ?_ _ | refine xm ?_ _ _ | refine xd ?_ | refine xn ?_ _ | refine xs ?_ (by simp <;> omega) _))
 try simp only [hW5]
 clear hW5
 obtain ⟨k0, k1, k2, k3, lg, p0, p1, p2, p3, lp, r0, r1, lr⟩ := HG.out.ext (HA4.out.ext.trans HX5.out)
 rw [rounds_succ]
 go_wp2_with fail
 refine wp_loop_rounds 3 ?_
 rw [rounds_succ]
 go_wp2_with fail
 rw [rounds_succ]
 go_wp2_with fail
 rw [rounds_succ]
 go_wp2_with fail
 go_ret
 exact ⟨rfl, HX.out.trans (HA4.out.ext.trans HX5.out)⟩
set_option maxRecDepth 100000 in
set_option maxHeartbeats 1200000 in
theorem cost_gram (a b : Nat) (C : Option Addr) (c d e : Nat) (w : World) (h : GrRd w a b C d e) (hd : d = 2) : Calls Tryz.prog 60 #[gramV a c] w fun e w' => e = .returned (.int .i64 14) ∧ Ext w w' := by
 obtain ⟨g0, W, hg0, hW, X1, hat⟩ := gr_enter w c h
 have HX := zh X1
 have HK := zh (const_gram a b C c d e W hat.rd hd)
 clear h X1 hd
 obtain ⟨k0, k1, k2, k3, lg, p0, p1, p2, p3, lp, r0, r1, lr⟩ := hat
 unfold gramV at HK ⊢
 go_enter Tryz.func60, Tryz.ntmps60
 go_upto_region 2 with fail
 try simp only [hg0]
 try simp only [hW]
 clear hW hg0
 go_wp2_with fail
 refine wp_loop_rounds 3 ?_
 rw [rounds_succ]
 go_wp2_with fail
 rw [rounds_succ]
 go_wp2_with fail
 rw [rounds_succ]
 go_wp2_with fail
 refine HK.out.mono ?_
 rintro e' W2 ⟨rfl, hx2⟩
 have HX2 := zh hx2
 clear hx2 HK
 go_wp2_with fail
 go_ret
 exact ⟨rfl, HX.out.trans HX2.out⟩
end Go.Proofs.YthpmncdfaggkiaaGreat
