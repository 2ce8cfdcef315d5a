/- Cr: texts that the proof rests on, part 2. -/
import Derived.Test.YthpmncdfaggkiaaGreatCr1
import Derived.Laws.MakeOwn
namespace Go.Proofs.YthpmncdfaggkiaaGreat
open Go.RowKit
attribute [local go_sem] more_drew more_drewN more_size more_cell more_frozen more_setCell drew_more drewN_more lt_add_r lt_add_r2 lt_add_r3 lt_add_r4 lt_add_r5 lt_add_r6 lt_add_r7 lt_add_r8 lt_add_r9 lt_add_r10 lt_self_r lt_self_r2
theorem more_yes (b : Nat) (s : ByteArray) (at_ : Nat) (v : Value) (w : World) (h : RD w b s at_ v) (hl : at_ < s.size) : Calls Tryz.prog 140 #[ptr b] w fun e w' => e = .returned (.bool true) ∧ RD w' b s at_ v ∧ Ext w w' := by
 refine (more_any b s at_ v w h).mono ?_
 rintro e w' ⟨rfl, hx⟩
 exact ⟨by rw [decide_eq_true hl], h.ext hx, hx⟩
theorem more_no (b : Nat) (s : ByteArray) (at_ : Nat) (v : Value) (w : World) (h : RD w b s at_ v) (hl : ¬ at_ < s.size) : Calls Tryz.prog 140 #[ptr b] w fun e w' => e = .returned (.bool false) ∧ RD w' b s at_ v ∧ Ext w w' := by
 refine (more_any b s at_ v w h).mono ?_
 rintro e w' ⟨rfl, hx⟩
 exact ⟨by rw [decide_eq_false hl], h.ext hx, hx⟩
structure TxR (s : ByteArray) (lo hi : UInt8) : Prop where
 sz : s.size = 6
 i0 : s[0]? = some 91
 i1 : s[1]? = some lo
 i2 : s[2]? = some 45
 i3 : s[3]? = some hi
 i4 : s[4]? = some 93
 i5 : s[5]? = some 43
 lo1 : lo ≠ 92
 lo2 : lo ≠ 93
 lo3 : lo ≠ 94
 hi1 : hi ≠ 92
 hi2 : hi ≠ 93
 le : lo.toNat ≤ hi.toNat
theorem u8_ne {x y : UInt8} (h : x ≠ y) (m : Int) (hm : m = y.toNat) : ((x.toNat : Int) == m) = false := by
 subst hm
 simp
 intro hh
 exact h (UInt8.toNat_inj.1 (by omega))
set_option maxRecDepth 100000 in
set_option maxHeartbeats 4000000 in
theorem class_range (b : Nat) (s : ByteArray) (lo hi : UInt8) (v : Value) (w : World) (T : TxR s lo hi) (h : RD w b s 1 v) :
 Calls Tryz.prog 195 #[ptr b] w fun e w' => e = .returned (unionF Cl.zero (rangeL lo.toNat (hi.toNat + 1 - lo.toNat))).V ∧ RD w' b s 5 v ∧ Turn (fun i => i = b) w w' := by
 have HT := zh T
 have H := zh h
 have hsz := T.sz
 have I1 := idx_eq T.i1 1 rfl
 have q1 := u8_ne T.lo3 94 rfl
 clear T h
 obtain ⟨W, hW⟩ : ∃ W, ((w.alloc (.cells #[.int .u64 0, .int .u64 0, .int .u64 0, .int .u64 0] 191)).alloc (.cells #[.int .u64 0, .int .u64 0, .int .u64 0, .int .u64 0] 191)) = W := ⟨_, rfl⟩
 have B0 : Hid (W.heap[w.heap.size]? = some (.cells (clArr Cl.zero) 191)) := zh (by rw [← hW]; exact (by simp only [heap_alloc_get, World.size_alloc]; (repeat (split; (first | rfl | (exfalso; omega)))); (try (first | (exfalso; omega) | simp_all))))
 have B1 : Hid (W.heap[w.heap.size + 1]? = some (.cells (clArr Cl.zero) 191)) := zh (by rw [← hW]; exact (by simp only [heap_alloc_get, World.size_alloc]; (repeat (split; (first | rfl | (exfalso; omega)))); (try (first | (exfalso; omega) | simp_all))))
 have X1 : Hid (Ext w W) := zh (by rw [← hW]; exact (by repeat first | exact xr _ | refine xa ?_ _ | refine xm ?_ _ _ | refine xd ?_ | refine xn ?_ _ | refine xs ?_ (by simp <;> omega) _))
 obtain ⟨g, hg⟩ : ∃ g, w.heap.size = g := ⟨_, rfl⟩
 rw [hg] at B0 B1
 have HG := zh hg
 have HW := zh hW
 have HBG : Hid (b < g) := zh (by rw [← hg]; exact H.out.lt)
 have H1 := zh (H.out.ext X1.out)
 clear hW hg
 go_enter Tryz.func195, Tryz.ntmps195
 go_upto_region 2 with fail
 simp only [HW.out, HG.out]
 obtain ⟨c0, c1, _, _⟩ := H1.out.cells
 have lb := H1.out.lt
 refine wp_region_bt (15) (softs_bt [0] (.step 1 (softs_bt [2, 3, 4, 5, 6, 7, 8, 9, 10, 11, 12, 13, 14] .fin))) (by kernel_rfl) (by kernel_rfl) ?_
 refine bt_softs _ fun K hK => ?_; simp only [pick, nthC]; (repeat go_big_quiet_step (fail)); refine wpQuiet_nil (hK _ ?_); clear hK K
 refine bt_step fun next hn => ?_; simp only [pick, nthC]
 go_wp2_with fail
 refine (more_yes b s 1 v _ (H1.out.ext (by repeat first | exact xr _ | refine xa ?_ _ | refine xm ?_ _ _ | refine xd ?_ | refine xn ?_ _ | refine xs ?_ (by simp <;> omega) _)) (by omega)).mono ?_
 rintro e w2 ⟨rfl, h2, x2⟩
 have Y2 : Hid (Ext W w2) := zh (Ext.trans (by repeat first | exact xr _ | refine xa ?_ _ | refine xm ?_ _ _ | refine xd ?_ | refine xn ?_ _ | refine xs ?_ (by simp <;> omega) _) x2)
 have H2 := zh h2
 clear x2 h2
 go_wp2_with fail
 refine segQ_mk (fun _ => laid Y2.out) (hn _ _ ?_)
 clear hn next
 refine bt_softs _ fun K hK => ?_; simp only [pick, nthC]; (repeat go_big_quiet_step (fail)); refine wpQuiet_nil (hK _ ?_); clear hK K
 (refine bt_fin ?_)
 clear c0 c1 lb
 go_wp2_with fail
 have B1' := zh (ext_block B1.out Y2.out)
 have B0' := zh (ext_block B0.out Y2.out)
 have hg2 := lt_of_heap B0'.out
 have HX2 := zh (X1.out.trans Y2.out)
 clear B0 B1 X1 Y2 H1 H
 refine wp_loop_rounds 2 ?_
 rw [rounds_succ]
 obtain ⟨c0, c1, _, _⟩ := H2.out.cells
 have lb := H2.out.lt
 have q2 : ((lo.toNat : Int) != 93) = true := by rw [bne, u8_ne HT.out.lo2 93 rfl]; rfl
 go_upto_region 5 with fail
 refine wp_region_bt (14) (softs_bt [0] (.step 1 (softs_bt [2, 3, 4, 5, 6, 7, 8, 9, 10, 11, 12, 13] .fin))) (by kernel_rfl) (by kernel_rfl) ?_
 refine bt_softs _ fun K hK => ?_; simp only [pick, nthC]; (repeat go_big_quiet_step (fail)); refine wpQuiet_nil (hK _ ?_); clear hK K
 refine bt_step fun next hn => ?_; simp only [pick, nthC]
 go_wp2_with fail
 refine (more_yes b s 1 v _ (H2.out.ext (by repeat first | exact xr _ | refine xa ?_ _ | refine xm ?_ _ _ | refine xd ?_ | refine xn ?_ _ | refine xs ?_ (by simp <;> omega) _)) (by omega)).mono ?_
 rintro e w3 ⟨rfl, h3, x3⟩
 have Y3 : Hid (Ext w2 w3) := zh (Ext.trans (by repeat first | exact xr _ | refine xa ?_ _ | refine xm ?_ _ _ | refine xd ?_ | refine xn ?_ _ | refine xs ?_ (by simp <;> omega) _) x3)
 have H3 := zh h3
 clear x3 h3
 go_wp2_with fail
 refine segQ_mk (fun _ => laid Y3.out) (hn _ _ ?_)
 clear hn next
 refine bt_softs _ fun K hK => ?_; simp only [pick, nthC]; (repeat go_big_quiet_step (fail)); refine wpQuiet_nil (hK _ ?_); clear hK K
 (refine bt_fin ?_)
 clear c0 c1 lb I1 q1 q2
 go_wp2_with fail
 refine (one_any b s 1 v w3 H3.out lo HT.out.i1 HT.out.lo1 (by omega)).mono ?_
 rintro e w4 ⟨rfl, h4, t4⟩
 have H4 : Hid (RD w4 b s 2 v) := zh h4
 have HT4 : Hid (Turn (fun i => i = b) w w4) := zh ((Turn.of_ext (HX2.out.trans Y3.out)).trans t4)
 have B14 := zh (t4.keep (ext_block B1'.out Y3.out) (by have := HBG.out; omega))
 have B04 := zh (t4.keep (ext_block B0'.out Y3.out) (by have := HBG.out; omega))
 clear h4 t4 Y3 B1' B0' H3 HX2 hg2 H2
 go_wp2_with fail
 obtain ⟨c0, c1, _, c3⟩ := H4.out.cells
 have lb := H4.out.lt
 have I2 := idx_eq HT.out.i2 2 rfl
 have I3 := idx_eq HT.out.i3 3 rfl
 have q0 : ((0 : Int) == 0) = true := rfl
 have q3 : ((hi.toNat : Int) != 93) = true := by rw [bne, u8_ne HT.out.hi2 93 rfl]; rfl
 have q4 : (((45 : UInt8).toNat : Int) == 45) = true := rfl
 refine wp_region_bt (43) (softs_bt [0, 1, 2, 3, 4, 5, 6, 7, 8, 9, 10, 11, 12, 13, 14, 15, 16, 17, 18, 19, 20, 21, 22, 23, 24, 25, 26, 27, 28, 29, 30, 31, 32, 33, 34, 35, 36, 37, 38, 39, 40, 41, 42] .fin) (by kernel_rfl) (by kernel_rfl) ?_
 refine bt_softs _ fun K hK => ?_; simp only [pick, nthC]; (repeat go_big_quiet_step (fail)); refine wpQuiet_nil (hK _ ?_); clear hK K
 (refine bt_fin ?_)
 clear c0 c1 c3 lb I2 I3 q3
 obtain ⟨c0, c1, _, c3⟩ := H4.out.cells
 have f1 := row_frozen H4.out 1
 have M5 := H4.out.move 3
 obtain ⟨W5, hW5⟩ : ∃ W5, w4.drew.setCell ⟨b, 1, none⟩ (.int .i64 3) = W5 := ⟨_, rfl⟩
 have H5 : Hid (RD W5 b s 3 v) := zh (by rw [← hW5]; exact M5)
 have T5 : Turn (fun i => i = b) w4 W5 := by rw [← hW5]; exact (Turn.of_ext (by repeat first | exact xr _ | refine xa ?_ _ | refine xm ?_ _ _ | refine xd ?_ | refine xn ?_ _ | refine xs ?_ (by simp <;> omega) _)).trans (Turn.set1 b 1 _)
 have HT5 := zh (HT4.out.trans T5)
 have B15 := zh (T5.keep B14.out (by have := HBG.out; omega))
 have B05 := zh (T5.keep B04.out (by have := HBG.out; omega))
 obtain ⟨d0, d1, _, d3⟩ := H5.out.cells
 clear T5 HT4 B14 B04 M5
 go_wp2_with fail
 clear hW5 d0 d1 d3 c0 c1 c3 f1
 refine (one_any b s 3 v W5 H5.out hi HT.out.i3 HT.out.hi1 (by omega)).mono ?_
 rintro e w6 ⟨rfl, h6, t6⟩
 have H6 : Hid (RD w6 b s 4 v) := zh h6
 have HT6 := zh (HT5.out.trans t6)
 have B16 := zh (t6.keep B15.out (by have := HBG.out; omega))
 have B06 := zh (t6.keep B05.out (by have := HBG.out; omega))
 clear h6 t6 H5 HT5 B15 B05 H4
 obtain ⟨c0, c1, _, c3⟩ := H6.out.cells
 have q5 : decide (hi.toNat < lo.toNat) = false := decide_eq_false (by have := HT.out.le; omega)
 have q6 := HT.out.le
 go_wp2_with fail
 clear c0 c1 c3
 have BB := B16.out
 unfold clArr Cl.zero at BB
 have b0 := cell_of_row _ _ 0 _ _ _ BB
 have b1 := cell_of_row _ _ 1 _ _ _ BB
 have b2 := cell_of_row _ _ 2 _ _ _ BB
 have b3 := cell_of_row _ _ 3 _ _ _ BB
 have lb := lt_of_heap BB
 simp at b0 b1 b2 b3
 refine wp_region_bt (5) (softs_bt [0, 1, 2] (.step 3 (.step 4 (.step 5 .fin)))) (by kernel_rfl) (by kernel_rfl) ?_
 refine bt_softs _ fun K hK => ?_; simp only [pick, nthC]; (repeat go_big_quiet_step (fail)); refine wpQuiet_nil (hK _ ?_); clear hK K
 refine bt_step fun next hn => ?_; simp only [pick, nthC]
 go_wp2_with fail
 refine (range_any lo.toNat hi.toNat _ lo.toNat_lt hi.toNat_lt).mono ?_
 rintro e w7 ⟨rfl, x7⟩
 have Y7 : Hid (Ext w6 w7) := zh (Ext.trans (by repeat first | exact xr _ | refine xa ?_ _ | refine xm ?_ _ _ | refine xd ?_ | refine xn ?_ _ | refine xs ?_ (by simp <;> omega) _) x7)
 clear x7
 go_wp2_with fail
 refine segQ_mk (fun _ => laid Y7.out) (hn _ _ ?_)
 clear hn next
 refine bt_step fun next hn => ?_; simp only [pick, nthC]
 go_wp2_with fail
 refine (union_any Cl.zero (rangeL lo.toNat (hi.toNat + 1 - lo.toNat)) w7).mono ?_
 rintro e w8 ⟨rfl, x8⟩
 have Y8 : Hid (Ext w6 w8) := zh (Y7.out.trans x8)
 clear x8
 go_wp2_with fail
 refine segQ_mk (fun _ => laid Y8.out) (hn _ _ ?_)
 clear hn next b0 b1 b2 b3 lb BB
 obtain ⟨z, hz⟩ : ∃ z, unionF Cl.zero (rangeL lo.toNat (hi.toNat + 1 - lo.toNat)) = z := ⟨_, rfl⟩
 have HZ := zh hz
 have BB := ext_block B16.out Y8.out
 unfold clArr Cl.zero at BB
 have b0 := cell_of_row _ _ 0 _ _ _ BB
 have b1 := cell_of_row _ _ 1 _ _ _ BB
 have b2 := cell_of_row _ _ 2 _ _ _ BB
 have b3 := cell_of_row _ _ 3 _ _ _ BB
 have f1 := fun k => row_frozen BB k
 simp at b0 b1 b2 b3
 have D8 := put4_at BB (.int .u64 z.a) (.int .u64 z.b) (.int .u64 z.c) (.int .u64 z.d)
 obtain ⟨W9, hW9⟩ : ∃ W9, put4 w8 (g + 1) (.int .u64 z.a) (.int .u64 z.b) (.int .u64 z.c) (.int .u64 z.d) = W9 := ⟨_, rfl⟩
 have T9 : Turn (fun i => i = g + 1) w6 W9 := by rw [← hW9]; exact (Turn.of_ext Y8.out).trans (put4_turn (S := fun i => i = g + 1) rfl _ _ _ _)
 rw [hW9] at D8
 have B19 := zh D8
 have B09 := zh (T9.keep B06.out (by omega))
 have H9 : Hid (RD W9 b s 4 v) := zh (T9.keep H6.out (by have := HBG.out; omega))
 have HT9 : Hid (Turn (fun i => i = b) w W9) := zh ((HT6.out.andThen T9 (fun k _ hk => hk) (fun k hk hk2 => by have := HG.out; omega)))
 unfold put4 put3 put2 at hW9
 unfold Cl.V
 rw [hz]
 clear hz T9 D8 BB HT6 H6 B16 B06
 refine bt_step fun next hn => ?_; simp only [pick, nthC]
 go_wp2_with fail
 refine segQ_mk (fun h => absurd rfl h) (hn _ _ ?_)
 clear hn next
 (refine bt_fin ?_)
 clear hW9 b0 b1 b2 b3 f1 Y7 Y8
 go_wp2_with fail
 rw [rounds_succ]
 obtain ⟨c0, c1, _, c3⟩ := H9.out.cells
 have lb := H9.out.lt
 have I4 := idx_eq HT.out.i4 4 rfl
 have q7 : (((93 : UInt8).toNat : Int) != 93) = false := rfl
 go_upto_region 5 with fail
 refine wp_region_bt (14) (softs_bt [0] (.step 1 (softs_bt [2, 3, 4, 5, 6, 7, 8, 9, 10, 11, 12, 13] .fin))) (by kernel_rfl) (by kernel_rfl) ?_
 refine bt_softs _ fun K hK => ?_; simp only [pick, nthC]; (repeat go_big_quiet_step (fail)); refine wpQuiet_nil (hK _ ?_); clear hK K
 refine bt_step fun next hn => ?_; simp only [pick, nthC]
 go_wp2_with fail
 refine (more_yes b s 4 v _ (H9.out.ext (by repeat first | exact xr _ | refine xa ?_ _ | refine xm ?_ _ _ | refine xd ?_ | refine xn ?_ _ | refine xs ?_ (by simp <;> omega) _)) (by omega)).mono ?_
 rintro e w10 ⟨rfl, h10, x10⟩
 have Y10 : Hid (Ext W9 w10) := zh (Ext.trans (by repeat first | exact xr _ | refine xa ?_ _ | refine xm ?_ _ _ | refine xd ?_ | refine xn ?_ _ | refine xs ?_ (by simp <;> omega) _) x10)
 have H10 := zh h10
 clear x10 h10
 go_wp2_with fail
 refine segQ_mk (fun _ => laid Y10.out) (hn _ _ ?_)
 clear hn next
 refine bt_softs _ fun K hK => ?_; simp only [pick, nthC]; (repeat go_big_quiet_step (fail)); refine wpQuiet_nil (hK _ ?_); clear hK K
 (refine bt_fin ?_)
 clear c0 c1 c3 lb I4
 go_wp2_with fail
 refine (more_yes b s 4 v _ H10.out (by omega)).mono ?_
 rintro e w11 ⟨rfl, h11, x11⟩
 have H11 := zh h11
 have B111 := ext_block B19.out (Y10.out.trans x11)
 have B011 := ext_block B09.out (Y10.out.trans x11)
 have HT11 := zh (HT9.out.trans (Turn.of_ext (Y10.out.trans x11)))
 clear x11 h11 B19 B09 H9 HT9 Y10 H10
 obtain ⟨c0, c1, _, c3⟩ := H11.out.cells
 have f1 := row_frozen H11.out 1
 have M12 := H11.out.move 5
 obtain ⟨W12, hW12⟩ : ∃ W12, w11.setCell ⟨b, 1, none⟩ (.int .i64 5) = W12 := ⟨_, rfl⟩
 have H12 : Hid (RD W12 b s 5 v) := zh (by rw [← hW12]; exact M12)
 have T12 : Turn (fun i => i = b) w11 W12 := by rw [← hW12]; exact Turn.set1 b 1 _
 have BB := T12.keep B111 (by have := HBG.out; omega)
 have BC := T12.keep B011 (by have := HBG.out; omega)
 unfold clArr Cl.zero at BC
 have f2 := fun k => row_frozen BC k
 have b0 := cell_of_row _ _ 0 _ _ _ BB
 have b1 := cell_of_row _ _ 1 _ _ _ BB
 have b2 := cell_of_row _ _ 2 _ _ _ BB
 have b3 := cell_of_row _ _ 3 _ _ _ BB
 have d0 := cell_of_row _ _ 0 _ _ _ BC
 have d1 := cell_of_row _ _ 1 _ _ _ BC
 have d2 := cell_of_row _ _ 2 _ _ _ BC
 have d3 := cell_of_row _ _ 3 _ _ _ BC
 have D13 := put4_at BC (.int .u64 z.a) (.int .u64 z.b) (.int .u64 z.c) (.int .u64 z.d)
 obtain ⟨W13, hW13⟩ : ∃ W13, put4 W12 g (.int .u64 z.a) (.int .u64 z.b) (.int .u64 z.c) (.int .u64 z.d) = W13 := ⟨_, rfl⟩
 have T13 : Turn (fun i => i = g) W12 W13 := by rw [← hW13]; exact put4_turn (S := fun i => i = g) rfl _ _ _ _
 rw [hW13] at D13
 have H13 : Hid (RD W13 b s 5 v) := zh (T13.keep H12.out (by have := HBG.out; omega))
 have HT13 : Hid (Turn (fun i => i = b) w W13) := zh (((HT11.out.trans T12).andThen T13 (fun k _ hk => hk) (fun k hk hk2 => by have := HG.out; omega)))
 have g0 := cell_of_row _ _ 0 _ _ _ D13
 have g1 := cell_of_row _ _ 1 _ _ _ D13
 have g2 := cell_of_row _ _ 2 _ _ _ D13
 have g3 := cell_of_row _ _ 3 _ _ _ D13
 simp at b0 b1 b2 b3 d0 d1 d2 d3 g0 g1 g2 g3
 unfold put4 put3 put2 at hW13
 clear T12 T13 D13 BB BC B111 B011 M12 HT11
 go_wp2_with fail
 exact bodyPost_ret (v := .agg #[.int .u64 z.a, .int .u64 z.b, .int .u64 z.c, .int .u64 z.d]) (by simp [results, Tryz.results195, go_sem, *]) rfl ⟨by rw [HZ.out]; rfl, H13.out, HT13.out⟩
structure TxC (s : ByteArray) (c : UInt8) : Prop where
 sz : s.size = 4
 i0 : s[0]? = some 91
 i1 : s[1]? = some c
 i2 : s[2]? = some 93
 i3 : s[3]? = some 43
 lo1 : c ≠ 92
 lo2 : c ≠ 93
 lo3 : c ≠ 94
set_option maxRecDepth 100000 in
set_option maxHeartbeats 4000000 in
theorem class_one (b : Nat) (s : ByteArray) (lo : UInt8) (v : Value) (w : World) (T : TxC s lo) (h : RD w b s 1 v) :
 Calls Tryz.prog 195 #[ptr b] w fun e w' => e = .returned (unionF Cl.zero (rangeL lo.toNat 1)).V ∧ RD w' b s 3 v ∧ Turn (fun i => i = b) w w' := by
 have HT := zh T
 have H := zh h
 have hsz := T.sz
 have I1 := idx_eq T.i1 1 rfl
 have q1 := u8_ne T.lo3 94 rfl
 clear T h
 obtain ⟨W, hW⟩ : ∃ W, ((w.alloc (.cells #[.int .u64 0, .int .u64 0, .int .u64 0, .int .u64 0] 191)).alloc (.cells #[.int .u64 0, .int .u64 0, .int .u64 0, .int .u64 0] 191)) = W := ⟨_, rfl⟩
 have B0 : Hid (W.heap[w.heap.size]? = some (.cells (clArr Cl.zero) 191)) := zh (by rw [← hW]; exact (by simp only [heap_alloc_get, World.size_alloc]; (repeat (split; (first | rfl | (exfalso; omega)))); (try (first | (exfalso; omega) | simp_all))))
 have B1 : Hid (W.heap[w.heap.size + 1]? = some (.cells (clArr Cl.zero) 191)) := zh (by rw [← hW]; exact (by simp only [heap_alloc_get, World.size_alloc]; (repeat (split; (first | rfl | (exfalso; omega)))); (try (first | (exfalso; omega) | simp_all))))
 have X1 : Hid (Ext w W) := zh (by rw [← hW]; exact (by repeat first | exact xr _ | refine xa ?_ _ | refine xm ?_ _ _ | refine xd ?_ | refine xn ?_ _ | refine xs ?_ (by simp <;> omega) _))
 obtain ⟨g, hg⟩ : ∃ g, w.heap.size = g := ⟨_, rfl⟩
 rw [hg] at B0 B1
 have HG := zh hg
 have HW := zh hW
 have HBG : Hid (b < g) := zh (by rw [← hg]; exact H.out.lt)
 have H1 := zh (H.out.ext X1.out)
 clear hW hg
 go_enter Tryz.func195, Tryz.ntmps195
 go_upto_region 2 with fail
 simp only [HW.out, HG.out]
 obtain ⟨c0, c1, _, _⟩ := H1.out.cells
 have lb := H1.out.lt
 refine wp_region_bt (15) (softs_bt [0] (.step 1 (softs_bt [2, 3, 4, 5, 6, 7, 8, 9, 10, 11, 12, 13, 14] .fin))) (by kernel_rfl) (by kernel_rfl) ?_
 refine bt_softs _ fun K hK => ?_; simp only [pick, nthC]; (repeat go_big_quiet_step (fail)); refine wpQuiet_nil (hK _ ?_); clear hK K
 refine bt_step fun next hn => ?_; simp only [pick, nthC]
 go_wp2_with fail
 refine (more_yes b s 1 v _ (H1.out.ext (by repeat first | exact xr _ | refine xa ?_ _ | refine xm ?_ _ _ | refine xd ?_ | refine xn ?_ _ | refine xs ?_ (by simp <;> omega) _)) (by omega)).mono ?_
 rintro e w2 ⟨rfl, h2, x2⟩
 have Y2 : Hid (Ext W w2) := zh (Ext.trans (by repeat first | exact xr _ | refine xa ?_ _ | refine xm ?_ _ _ | refine xd ?_ | refine xn ?_ _ | refine xs ?_ (by simp <;> omega) _) x2)
 have H2 := zh h2
 clear x2 h2
 go_wp2_with fail
 refine segQ_mk (fun _ => laid Y2.out) (hn _ _ ?_)
 clear hn next
 refine bt_softs _ fun K hK => ?_; simp only [pick, nthC]; (repeat go_big_quiet_step (fail)); refine wpQuiet_nil (hK _ ?_); clear hK K
 (refine bt_fin ?_)
 clear c0 c1 lb
 go_wp2_with fail
 have B1' := zh (ext_block B1.out Y2.out)
 have B0' := zh (ext_block B0.out Y2.out)
 have hg2 := lt_of_heap B0'.out
 have HX2 := zh (X1.out.trans Y2.out)
 clear B0 B1 X1 Y2 H1 H
 refine wp_loop_rounds 2 ?_
 rw [rounds_succ]
 obtain ⟨c0, c1, _, _⟩ := H2.out.cells
 have lb := H2.out.lt
 have q2 : ((lo.toNat : Int) != 93) = true := by rw [bne, u8_ne HT.out.lo2 93 rfl]; rfl
 go_upto_region 5 with fail
 refine wp_region_bt (14) (softs_bt [0] (.step 1 (softs_bt [2, 3, 4, 5, 6, 7, 8, 9, 10, 11, 12, 13] .fin))) (by kernel_rfl) (by kernel_rfl) ?_
 refine bt_softs _ fun K hK => ?_; simp only [pick, nthC]; (repeat go_big_quiet_step (fail)); refine wpQuiet_nil (hK _ ?_); clear hK K
 refine bt_step fun next hn => ?_; simp only [pick, nthC]
 go_wp2_with fail
 refine (more_yes b s 1 v _ (H2.out.ext (by repeat first | exact xr _ | refine xa ?_ _ | refine xm ?_ _ _ | refine xd ?_ | refine xn ?_ _ | refine xs ?_ (by simp <;> omega) _)) (by omega)).mono ?_
 rintro e w3 ⟨rfl, h3, x3⟩
 have Y3 : Hid (Ext w2 w3) := zh (Ext.trans (by repeat first | exact xr _ | refine xa ?_ _ | refine xm ?_ _ _ | refine xd ?_ | refine xn ?_ _ | refine xs ?_ (by simp <;> omega) _) x3)
 have H3 := zh h3
 clear x3 h3
 go_wp2_with fail
 refine segQ_mk (fun _ => laid Y3.out) (hn _ _ ?_)
 clear hn next
 refine bt_softs _ fun K hK => ?_; simp only [pick, nthC]; (repeat go_big_quiet_step (fail)); refine wpQuiet_nil (hK _ ?_); clear hK K
 (refine bt_fin ?_)
 clear c0 c1 lb I1 q1 q2
 go_wp2_with fail
 refine (one_any b s 1 v w3 H3.out lo HT.out.i1 HT.out.lo1 (by omega)).mono ?_
 rintro e w4 ⟨rfl, h4, t4⟩
 have H4 : Hid (RD w4 b s 2 v) := zh h4
 have HT4 : Hid (Turn (fun i => i = b) w w4) := zh ((Turn.of_ext (HX2.out.trans Y3.out)).trans t4)
 have B14 := zh (t4.keep (ext_block B1'.out Y3.out) (by have := HBG.out; omega))
 have B04 := zh (t4.keep (ext_block B0'.out Y3.out) (by have := HBG.out; omega))
 clear h4 t4 Y3 B1' B0' H3 HX2 hg2 H2
 go_wp2_with fail
 obtain ⟨c0, c1, _, c3⟩ := H4.out.cells
 have lb := H4.out.lt
 have I2 := idx_eq HT.out.i2 2 rfl
 have q0 : ((0 : Int) == 0) = true := rfl
 have q4 : (((93 : UInt8).toNat : Int) == 45) = false := rfl
 refine wp_region_bt (43) (softs_bt [0, 1, 2, 3, 4, 5, 6, 7, 8, 9, 10, 11, 12, 13, 14, 15, 16, 17, 18, 19, 20, 21, 22, 23, 24, 25, 26, 27, 28, 29, 30, 31, 32, 33, 34, 35, 36, 37, 38, 39, 40, 41, 42] .fin) (by kernel_rfl) (by kernel_rfl) ?_
 refine bt_softs _ fun K hK => ?_; simp only [pick, nthC]; (repeat go_big_quiet_step (fail)); refine wpQuiet_nil (hK _ ?_); clear hK K
 (refine bt_fin ?_)
 clear c0 c1 c3 lb I2
 obtain ⟨w6, hw6⟩ : ∃ w6, w4.drew = w6 := ⟨_, rfl⟩
 have X6 : Ext w4 w6 := by rw [← hw6]; exact (by repeat first | exact xr _ | refine xa ?_ _ | refine xm ?_ _ _ | refine xd ?_ | refine xn ?_ _ | refine xs ?_ (by simp <;> omega) _)
 have H6 : Hid (RD w6 b s 2 v) := zh (H4.out.ext X6)
 have HT6 := zh (HT4.out.trans (Turn.of_ext X6))
 have B16 := zh (ext_block B14.out X6)
 have B06 := zh (ext_block B04.out X6)
 simp only [hw6]
 clear X6 hw6 B14 B04 HT4 H4
 go_wp2_with fail
 have BB := B16.out
 unfold clArr Cl.zero at BB
 have b0 := cell_of_row _ _ 0 _ _ _ BB
 have b1 := cell_of_row _ _ 1 _ _ _ BB
 have b2 := cell_of_row _ _ 2 _ _ _ BB
 have b3 := cell_of_row _ _ 3 _ _ _ BB
 have lb := lt_of_heap BB
 simp at b0 b1 b2 b3
 refine wp_region_bt (5) (softs_bt [0, 1, 2] (.step 3 (.step 4 (.step 5 .fin)))) (by kernel_rfl) (by kernel_rfl) ?_
 refine bt_softs _ fun K hK => ?_; simp only [pick, nthC]; (repeat go_big_quiet_step (fail)); refine wpQuiet_nil (hK _ ?_); clear hK K
 refine bt_step fun next hn => ?_; simp only [pick, nthC]
 go_wp2_with fail
 have CR := fun w => range_any lo.toNat lo.toNat w lo.toNat_lt lo.toNat_lt
 rw [show lo.toNat + 1 - lo.toNat = 1 by omega] at CR
 refine (CR _).mono ?_
 rintro e w7 ⟨rfl, x7⟩
 have Y7 : Hid (Ext w6 w7) := zh (Ext.trans (by repeat first | exact xr _ | refine xa ?_ _ | refine xm ?_ _ _ | refine xd ?_ | refine xn ?_ _ | refine xs ?_ (by simp <;> omega) _) x7)
 clear x7
 go_wp2_with fail
 refine segQ_mk (fun _ => laid Y7.out) (hn _ _ ?_)
 clear hn next
 refine bt_step fun next hn => ?_; simp only [pick, nthC]
 go_wp2_with fail
 refine (union_any Cl.zero (rangeL lo.toNat 1) w7).mono ?_
 rintro e w8 ⟨rfl, x8⟩
 have Y8 : Hid (Ext w6 w8) := zh (Y7.out.trans x8)
 clear x8
 go_wp2_with fail
 refine segQ_mk (fun _ => laid Y8.out) (hn _ _ ?_)
 clear hn next b0 b1 b2 b3 lb BB
 obtain ⟨z, hz⟩ : ∃ z, unionF Cl.zero (rangeL lo.toNat 1) = z := ⟨_, rfl⟩
 have HZ := zh hz
 have BB := ext_block B16.out Y8.out
 unfold clArr Cl.zero at BB
 have b0 := cell_of_row _ _ 0 _ _ _ BB
 have b1 := cell_of_row _ _ 1 _ _ _ BB
 have b2 := cell_of_row _ _ 2 _ _ _ BB
 have b3 := cell_of_row _ _ 3 _ _ _ BB
 have f1 := fun k => row_frozen BB k
 simp at b0 b1 b2 b3
 have D8 := put4_at BB (.int .u64 z.a) (.int .u64 z.b) (.int .u64 z.c) (.int .u64 z.d)
 obtain ⟨W9, hW9⟩ : ∃ W9, put4 w8 (g + 1) (.int .u64 z.a) (.int .u64 z.b) (.int .u64 z.c) (.int .u64 z.d) = W9 := ⟨_, rfl⟩
 have T9 : Turn (fun i => i = g + 1) w6 W9 := by rw [← hW9]; exact (Turn.of_ext Y8.out).trans (put4_turn (S := fun i => i = g + 1) rfl _ _ _ _)
 rw [hW9] at D8
 have B19 := zh D8
 have B09 := zh (T9.keep B06.out (by omega))
 have H9 : Hid (RD W9 b s 2 v) := zh (T9.keep H6.out (by have := HBG.out; omega))
 have HT9 : Hid (Turn (fun i => i = b) w W9) := zh ((HT6.out.andThen T9 (fun k _ hk => hk) (fun k hk hk2 => by have := HG.out; omega)))
 unfold put4 put3 put2 at hW9
 unfold Cl.V
 rw [hz]
 clear hz T9 D8 BB HT6 H6 B16 B06
 refine bt_step fun next hn => ?_; simp only [pick, nthC]
 go_wp2_with fail
 refine segQ_mk (fun h => absurd rfl h) (hn _ _ ?_)
 clear hn next
 (refine bt_fin ?_)
 clear hW9 b0 b1 b2 b3 f1 Y7 Y8
 go_wp2_with fail
 rw [rounds_succ]
 obtain ⟨c0, c1, _, c3⟩ := H9.out.cells
 have lb := H9.out.lt
 have I4 := idx_eq HT.out.i2 2 rfl
 have q7 : (((93 : UInt8).toNat : Int) != 93) = false := rfl
 go_upto_region 5 with fail
 refine wp_region_bt (14) (softs_bt [0] (.step 1 (softs_bt [2, 3, 4, 5, 6, 7, 8, 9, 10, 11, 12, 13] .fin))) (by kernel_rfl) (by kernel_rfl) ?_
 refine bt_softs _ fun K hK => ?_; simp only [pick, nthC]; (repeat go_big_quiet_step (fail)); refine wpQuiet_nil (hK _ ?_); clear hK K
 refine bt_step fun next hn => ?_; simp only [pick, nthC]
 go_wp2_with fail
 refine (more_yes b s 2 v _ (H9.out.ext (by repeat first | exact xr _ | refine xa ?_ _ | refine xm ?_ _ _ | refine xd ?_ | refine xn ?_ _ | refine xs ?_ (by simp <;> omega) _)) (by omega)).mono ?_
 rintro e w10 ⟨rfl, h10, x10⟩
 have Y10 : Hid (Ext W9 w10) := zh (Ext.trans (by repeat first | exact xr _ | refine xa ?_ _ | refine xm ?_ _ _ | refine xd ?_ | refine xn ?_ _ | refine xs ?_ (by simp <;> omega) _) x10)
 have H10 := zh h10
 clear x10 h10
 go_wp2_with fail
 refine segQ_mk (fun _ => laid Y10.out) (hn _ _ ?_)
 clear hn next
 refine bt_softs _ fun K hK => ?_; simp only [pick, nthC]; (repeat go_big_quiet_step (fail)); refine wpQuiet_nil (hK _ ?_); clear hK K
 (refine bt_fin ?_)
 clear c0 c1 c3 lb I4
 go_wp2_with fail
 refine (more_yes b s 2 v _ H10.out (by omega)).mono ?_
 rintro e w11 ⟨rfl, h11, x11⟩
 have H11 := zh h11
 have B111 := ext_block B19.out (Y10.out.trans x11)
 have B011 := ext_block B09.out (Y10.out.trans x11)
 have HT11 := zh (HT9.out.trans (Turn.of_ext (Y10.out.trans x11)))
 clear x11 h11 B19 B09 H9 HT9 Y10 H10
 obtain ⟨c0, c1, _, c3⟩ := H11.out.cells
 have f1 := row_frozen H11.out 1
 have M12 := H11.out.move 3
 obtain ⟨W12, hW12⟩ : ∃ W12, w11.setCell ⟨b, 1, none⟩ (.int .i64 3) = W12 := ⟨_, rfl⟩
 have H12 : Hid (RD W12 b s 3 v) := zh (by rw [← hW12]; exact M12)
 have T12 : Turn (fun i => i = b) w11 W12 := by rw [← hW12]; exact Turn.set1 b 1 _
 have BB := T12.keep B111 (by have := HBG.out; omega)
 have BC := T12.keep B011 (by have := HBG.out; omega)
 unfold clArr Cl.zero at BC
 have f2 := fun k => row_frozen BC k
 have b0 := cell_of_row _ _ 0 _ _ _ BB
 have b1 := cell_of_row _ _ 1 _ _ _ BB
 have b2 := cell_of_row _ _ 2 _ _ _ BB
 have b3 := cell_of_row _ _ 3 _ _ _ BB
 have d0 := cell_of_row _ _ 0 _ _ _ BC
 have d1 := cell_of_row _ _ 1 _ _ _ BC
 have d2 := cell_of_row _ _ 2 _ _ _ BC
 have d3 := cell_of_row _ _ 3 _ _ _ BC
 have D13 := put4_at BC (.int .u64 z.a) (.int .u64 z.b) (.int .u64 z.c) (.int .u64 z.d)
 obtain ⟨W13, hW13⟩ : ∃ W13, put4 W12 g (.int .u64 z.a) (.int .u64 z.b) (.int .u64 z.c) (.int .u64 z.d) = W13 := ⟨_, rfl⟩
 have T13 : Turn (fun i => i = g) W12 W13 := by rw [← hW13]; exact put4_turn (S := fun i => i = g) rfl _ _ _ _
 rw [hW13] at D13
 have H13 : Hid (RD W13 b s 3 v) := zh (T13.keep H12.out (by have := HBG.out; omega))
 have HT13 : Hid (Turn (fun i => i = b) w W13) := zh (((HT11.out.trans T12).andThen T13 (fun k _ hk => hk) (fun k hk hk2 => by have := HG.out; omega)))
 have g0 := cell_of_row _ _ 0 _ _ _ D13
 have g1 := cell_of_row _ _ 1 _ _ _ D13
 have g2 := cell_of_row _ _ 2 _ _ _ D13
 have g3 := cell_of_row _ _ 3 _ _ _ D13
 simp at b0 b1 b2 b3 d0 d1 d2 d3 g0 g1 g2 g3
 unfold put4 put3 put2 at hW13
 clear T12 T13 D13 BB BC B111 B011 M12 HT11
 go_wp2_with fail
 exact bodyPost_ret (v := .agg #[.int .u64 z.a, .int .u64 z.b, .int .u64 z.c, .int .u64 z.d]) (by simp [results, Tryz.results195, go_sem, *]) rfl ⟨by rw [HZ.out]; rfl, H13.out, HT13.out⟩
structure TxG (s : ByteArray) (n : Nat) (z : Cl) : Prop where
 sz : s.size = n + 1
 i0 : s[0]? = some 91
 ip : s[n]? = some 43
 n1 : 1 ≤ n
 n2 : n ≤ 100
 cls : ∀ (w : World) (b : Nat) (v : Value), RD w b s 1 v → Calls Tryz.prog 195 #[ptr b] w fun e w' => e = .returned z.V ∧ RD w' b s n v ∧ Turn (fun i => i = b) w w'
theorem TxR.g {s : ByteArray} {lo hi : UInt8} (T : TxR s lo hi) : TxG s 5 (unionF Cl.zero (rangeL lo.toNat (hi.toNat + 1 - lo.toNat))) := ⟨T.sz, T.i0, T.i5, by omega, by omega, fun w b v h => class_range b s lo hi v w T h⟩
theorem TxC.g {s : ByteArray} {c : UInt8} (T : TxC s c) : TxG s 3 (unionF Cl.zero (rangeL c.toNat 1)) := ⟨T.sz, T.i0, T.i3, by omega, by omega, fun w b v h => class_one b s c v w T h⟩
abbrev nil0 : Value := .slice none 0 0
set_option maxRecDepth 100000 in
set_option maxHeartbeats 2000000 in
theorem thing_g (b base : Nat) (s : ByteArray) (n : Nat) (z : Cl) (w : World) (T : TxG s n z) (h : RD w b s 0 nil0) (hb : base ≤ w.heap.size) :
 Calls Tryz.prog 194 #[ptr b] w fun e w' => ∃ v', e = .returned (.int .i64 0) ∧ RD w' b s n v' ∧ w'.ownsRow base 232 6 v' 1 (nodC 2 z nil0) ∧ Turn (fun i => i = b) w w' ∧ (∃ g, v'.ownBlock = some g ∧ w.heap.size ≤ g) := by
 have HT := zh T
 have H := zh h
 have I0 := idx_eq T.i0 0 rfl
 have q1 : (((91 : UInt8).toNat : Int) == 41) = false := rfl
 obtain ⟨c0, c1, _, c3⟩ := h.cells
 have lb := h.lt
 clear T h
 go_enter Tryz.func194, Tryz.ntmps194
 go_upto_region 1 with fail
 refine wp_region_bt (10) (softs_bt [0, 1, 2, 3, 4, 5, 6, 7, 8, 9] .fin) (by kernel_rfl) (by kernel_rfl) ?_
 refine bt_softs _ fun K hK => ?_; simp only [pick, nthC]; (repeat go_big_quiet_step (fail)); refine wpQuiet_nil (hK _ ?_); clear hK K
 (refine bt_fin ?_)
 obtain ⟨w1, hw1⟩ : ∃ w1, w.drew = w1 := ⟨_, rfl⟩
 have X1 : Ext w w1 := by rw [← hw1]; exact (by repeat first | exact xr _ | refine xa ?_ _ | refine xm ?_ _ _ | refine xd ?_ | refine xn ?_ _ | refine xs ?_ (by simp <;> omega) _)
 have H1 : Hid (RD w1 b s 0 nil0) := zh (H.out.ext X1)
 have HX1 := zh X1
 simp only [hw1]
 clear X1 hw1 c0 c1 c3 lb I0 q1
 obtain ⟨c0, c1, _, c3⟩ := H1.out.cells
 have f1 := row_frozen H1.out 1
 obtain ⟨W2, hW2⟩ : ∃ W2, w1.setCell ⟨b, 1, none⟩ (.int .i64 1) = W2 := ⟨_, rfl⟩
 have H2 : Hid (RD W2 b s 1 nil0) := zh (by rw [← hW2]; exact H1.out.move 1)
 have T2 : Turn (fun i => i = b) w1 W2 := by rw [← hW2]; exact Turn.set1 b 1 _
 have HT2 := zh ((Turn.of_ext HX1.out).trans T2)
 clear T2
 go_wp2_with fail
 clear hW2 c0 c1 c3 f1
 refine (HT.out.cls W2 b nil0 H2.out).mono ?_
 rintro e w3 ⟨rfl, h3, t3⟩
 have H3 := zh h3
 have HT3 := zh (HT2.out.trans t3)
 clear h3 t3 HT2 H2 H1 HX1
 unfold Cl.V
 go_wp2_with fail
 have X4 : Ext w3 (w3.alloc (.cells #[.int .u64 z.a, .int .u64 z.b, .int .u64 z.c, .int .u64 z.d] 191)) := (by repeat first | exact xr _ | refine xa ?_ _ | refine xm ?_ _ _ | refine xd ?_ | refine xn ?_ _ | refine xs ?_ (by simp <;> omega) _)
 refine (put_any b base s n nil0 0 [] 2 z none 0 0 _ (H3.out.ext X4) (World.ownsRow_nil _ _ _ _) (Nat.le_trans hb (Nat.le_trans HT3.out.size X4.size)) (by omega)).mono ?_
 rintro e w5 ⟨v5, rfl, h5, ho5, t5, hv5⟩
 have HV5 : Hid (∃ g, v5.ownBlock = some g ∧ w.heap.size ≤ g) := zh (by
  rcases hv5 with h | ⟨g, h1, h2⟩
  ·obtain ⟨A, c, rfl, hc, _⟩ := own_cells ho5
   obtain ⟨g', off, rfl, _⟩ := hc (by simp [nodC])
   cases h
  ·exact ⟨g, h1, Nat.le_trans (Nat.le_trans HT3.out.size X4.size) h2⟩)
 have H5 := zh h5
 have HO5 := zh ho5
 have HT5 : Hid (Turn (fun i => i = b) w w5) := zh ((HT3.out.trans (Turn.of_ext X4)).trans (t5.mono fun k _ hk => by
  rcases hk with hk | hk
  ·exact hk
  ·cases hk))
 clear h5 ho5 t5 hv5 X4 HT3 H3
 go_wp2_with fail
 go_ret
 exact ⟨v5, rfl, H5.out, HO5.out, HT5.out, HV5.out⟩
def r2C (z : Cl) (gk : Nat) : List Value := nodC 2 z nil0 ++ nodC 6 Cl.zero (.slice (some ⟨gk, 0, none⟩) 1 1)
set_option maxRecDepth 100000 in
set_option maxHeartbeats 2000000 in
theorem item_g (b base : Nat) (s : ByteArray) (n : Nat) (z : Cl) (w : World) (T : TxG s n z) (h : RD w b s 0 nil0) (hb : base ≤ w.heap.size) :
 Calls Tryz.prog 189 #[ptr b] w fun e w' => ∃ v' gk, e = .returned (.int .i64 1) ∧ RD w' b s (n + 1) v' ∧ w'.ownsRow base 232 6 v' 2 (r2C z gk) ∧ w'.cell? ⟨gk, 0, none⟩ = some (.int .i64 0) ∧ gk < w'.heap.size ∧ base ≤ gk ∧ Turn (fun i => i = b) w w' := by
 have HT := zh T
 have hsz := T.sz
 have CT := zh (thing_g b base s n z w T h hb)
 have In := idx_eq T.ip n rfl
 have q1 : (((43 : UInt8).toNat : Int) == 42) = false := rfl
 have q2 : (((43 : UInt8).toNat : Int) == 43) = true := rfl
 have lb := h.lt
 have hn2 := T.n2
 clear T h
 go_enter Tryz.func189, Tryz.ntmps189
 go_wp2_with fail
 refine CT.out.mono ?_
 rintro e w1 ⟨v1, rfl, h1, ho1, t1, hv1⟩
 have H1 := zh h1
 have HO1 := zh ho1
 have HT1 := zh t1
 have HV1 := zh hv1
 clear h1 ho1 t1 hv1 CT
 go_wp2_with fail
 refine wp_loop_rounds 2 ?_
 rw [rounds_succ]
 go_wp2_with fail
 refine (more_yes b s n v1 w1 H1.out (by omega)).mono ?_
 rintro e w2 ⟨rfl, h2, x2⟩
 have H2 := zh h2
 have HO2 := zh (own_ext HO1.out x2)
 have HT2 := zh (HT1.out.trans (Turn.of_ext x2))
 clear h2 x2 H1 HO1 HT1
 obtain ⟨c0, c1, _, c3⟩ := H2.out.cells
 have lb2 := H2.out.lt
 go_upto_region 4 with fail
 refine wp_region_bt (9) (softs_bt [0, 1, 2, 3, 4, 5, 6, 7, 8] .fin) (by kernel_rfl) (by kernel_rfl) ?_
 refine bt_softs _ fun K hK => ?_; simp only [pick, nthC]; (repeat go_big_quiet_step (fail)); refine wpQuiet_nil (hK _ ?_); clear hK K
 (refine bt_fin ?_)
 obtain ⟨w3, hw3⟩ : ∃ w3, w2.drew = w3 := ⟨_, rfl⟩
 have X3 : Ext w2 w3 := by rw [← hw3]; exact (by repeat first | exact xr _ | refine xa ?_ _ | refine xm ?_ _ _ | refine xd ?_ | refine xn ?_ _ | refine xs ?_ (by simp <;> omega) _)
 have H3 := zh (H2.out.ext X3)
 have HO3 := zh (own_ext HO2.out X3)
 have HT3 := zh (HT2.out.trans (Turn.of_ext X3))
 simp only [hw3]
 clear X3 hw3 c0 c1 c3 lb2 H2 HO2 HT2
 obtain ⟨c0, c1, _, c3⟩ := H3.out.cells
 have f1 := row_frozen H3.out 1
 obtain ⟨W4, hW4⟩ : ∃ W4, w3.setCell ⟨b, 1, none⟩ (.int .i64 ((n : Int) + 1)) = W4 := ⟨_, rfl⟩
 have H4 : Hid (RD W4 b s (n + 1) v1) := zh (by rw [← hW4]; exact H3.out.move (n + 1))
 have T4 : Turn (fun i => i = b) w3 W4 := by rw [← hW4]; exact Turn.set1 b 1 _
 have HNB : Hid (∀ i, v1.ownBlock = some i → i ≠ b) := zh (fun i hi => by
  obtain ⟨g, hg, hge⟩ := HV1.out
  rw [hg] at hi
  injection hi with hi
  omega)
 have HO4 : Hid (W4.ownsRow base 232 6 v1 1 (nodC 2 z nil0)) := zh (own_keep HO3.out fun i hi => T4.block i (own_old HO3.out i hi) (HNB.out i hi))
 have HT4 := zh (HT3.out.trans T4)
 clear T4 HT3 HO3 H3
 go_wp2_with fail
 clear hW4 c0 c1 c3 f1
 have X5 : Ext W4 (W4.alloc (.cells #[.int .i64 0] 3)) := (by repeat first | exact xr _ | refine xa ?_ _ | refine xm ?_ _ _ | refine xd ?_ | refine xn ?_ _ | refine xs ?_ (by simp <;> omega) _)
 have K5 := heap_alloc_new W4 (.cells #[.int .i64 0] 3)
 obtain ⟨gk, hgk⟩ : ∃ gk, W4.heap.size = gk := ⟨_, rfl⟩
 rw [hgk] at K5 ⊢
 have CP := put_any b base s (n + 1) v1 1 (nodC 2 z nil0) 6 Cl.zero (some ⟨gk, 0, none⟩) 1 1 _ (H4.out.ext X5) (own_ext HO4.out X5) (Nat.le_trans hb (Nat.le_trans HT4.out.size X5.size)) (by omega)
 refine CP.mono ?_
 rintro e w6 ⟨v6, rfl, h6, ho6, t6, hv6⟩
 have K6 : w6.heap[gk]? = some (.cells #[.int .i64 0] 3) := t6.keep K5 (fun hk => by
  rcases hk with hk | hk
  ·have := H4.out.lt; omega
  ·have := own_old HO4.out gk hk; omega)
 have k6 := cell_of_row _ _ 0 _ _ _ K6
 simp at k6
 have HK6 := zh (And.intro k6 (lt_of_heap K6))
 have HGK : Hid (base ≤ gk) := zh (by have := HT4.out.size; omega)
 have H6 := zh h6
 have HO6 := zh ho6
 have HT6 : Hid (Turn (fun i => i = b) w w6) := zh ((HT4.out.trans (Turn.of_ext X5)).andThen t6 (fun k _ hk => hk) (fun k hk hk2 => by
  rcases hk2 with hk2 | hk2
  ·exact hk2
  ·obtain ⟨g, hg, hge⟩ := HV1.out
   rw [hg] at hk2
   injection hk2 with hk2
   omega))
 clear h6 ho6 t6 hv6 X5 K5 K6 k6 CP H4 HO4 HT4 hgk In
 go_wp2_with fail
 rw [rounds_succ]
 go_wp2_with fail
 refine (more_no b s (n + 1) v6 w6 H6.out (by omega)).mono ?_
 rintro e w7 ⟨rfl, h7, x7⟩
 have H7 := zh h7
 have HO7 := zh (own_ext HO6.out x7)
 have HT7 := zh (HT6.out.trans (Turn.of_ext x7))
 have HK7 : Hid (w7.cell? ⟨gk, 0, none⟩ = some (.int .i64 0) ∧ gk < w7.heap.size) := zh ⟨ext_cell HK6.out.1 HK6.out.2 x7, Nat.lt_of_lt_of_le HK6.out.2 x7.size⟩
 clear h7 x7
 go_wp2_with fail
 go_ret
 exact ⟨v6, gk, rfl, H7.out, HO7.out, HK7.out.1, HK7.out.2, HGK.out, HT7.out⟩
def CatRet (w : World) (b base : Nat) (s : ByteArray) (n : Nat) (z : Cl) (e : Ending) (w' : World) : Prop :=
 ∃ v' gk, e = .returned (.int .i64 1) ∧ RD w' b s (n + 1) v' ∧ w'.ownsRow base 232 6 v' 2 (r2C z gk) ∧ w'.cell? ⟨gk, 0, none⟩ = some (.int .i64 0) ∧ gk < w'.heap.size ∧ base ≤ gk ∧ Turn (fun i => i = b) w w'
theorem CatRet.ext {w w1 w2 : World} {b base : Nat} {s : ByteArray} {n : Nat} {z : Cl} {e : Ending} (h : CatRet w b base s n z e w1) (x : Ext w1 w2) : CatRet w b base s n z e w2 := by
 obtain ⟨v', gk, h1, h2, h3, h4, h5, h6, h7⟩ := h
 exact ⟨v', gk, h1, h2.ext x, own_ext h3 x, ext_cell h4 h5 x, Nat.lt_of_lt_of_le h5 x.size, h6, h7.trans (Turn.of_ext x)⟩
set_option maxRecDepth 100000 in
set_option maxHeartbeats 2000000 in
theorem cat_g (b base : Nat) (s : ByteArray) (n : Nat) (z : Cl) (w : World) (T : TxG s n z) (h : RD w b s 0 nil0) (hb : base ≤ w.heap.size) :
 Calls Tryz.prog 176 #[ptr b] w (CatRet w b base s n z) := by
 have HT := zh T
 have hsz := T.sz
 have H := zh h
 have I0 := idx_eq T.i0 0 rfl
 have q1 : (((91 : UInt8).toNat : Int) != 124) = true := rfl
 have q2 : (((91 : UInt8).toNat : Int) != 41) = true := rfl
 obtain ⟨c0, c1, _, c3⟩ := h.cells
 have lb := h.lt
 clear T h
 go_enter Tryz.func176, Tryz.ntmps176
 go_wp2_with fail
 refine wp_loop_rounds 2 ?_
 rw [rounds_succ]
 go_upto_region 2 with fail
 refine wp_region_bt (26) (softs_bt [0] (.step 1 (softs_bt [2, 3, 4, 5, 6, 7, 8, 9, 10, 11, 12, 13, 14, 15, 16, 17, 18, 19, 20, 21, 22, 23, 24, 25] .fin))) (by kernel_rfl) (by kernel_rfl) ?_
 refine bt_softs _ fun K hK => ?_; simp only [pick, nthC]; (repeat go_big_quiet_step (fail)); refine wpQuiet_nil (hK _ ?_); clear hK K
 refine bt_step fun next hn => ?_; simp only [pick, nthC]
 go_wp2_with fail
 refine (more_yes b s 0 nil0 _ (H.out.ext (by repeat first | exact xr _ | refine xa ?_ _ | refine xm ?_ _ _ | refine xd ?_ | refine xn ?_ _ | refine xs ?_ (by simp <;> omega) _)) (by omega)).mono ?_
 rintro e w2 ⟨rfl, h2, x2⟩
 have Y2 : Hid (Ext w w2) := zh (Ext.trans (by repeat first | exact xr _ | refine xa ?_ _ | refine xm ?_ _ _ | refine xd ?_ | refine xn ?_ _ | refine xs ?_ (by simp <;> omega) _) x2)
 have H2 := zh h2
 clear x2 h2
 go_wp2_with fail
 refine segQ_mk (fun _ => laid Y2.out) (hn _ _ ?_)
 clear hn next
 refine bt_softs _ fun K hK => ?_; simp only [pick, nthC]; (repeat go_big_quiet_step (fail)); refine wpQuiet_nil (hK _ ?_); clear hK K
 (refine bt_fin ?_)
 clear c0 c1 c3 lb I0 q1 q2
 go_wp2_with fail
 refine (item_g b base s n z w2 HT.out H2.out (Nat.le_trans hb Y2.out.size)).mono ?_
 rintro e w3 ⟨v3, gk, rfl, h3, ho3, hk3, hl3, hg3, t3⟩
 have C3 : Hid (CatRet w b base s n z (.returned (.int .i64 1)) w3) := zh ⟨v3, gk, rfl, h3, ho3, hk3, hl3, hg3, (Turn.of_ext Y2.out).trans t3⟩
 have H3 := zh h3
 clear h3 ho3 hk3 hl3 hg3 t3 H2 Y2 H
 go_wp2_with (at_builtin; refine app_int w3 (by rfl) (.tmp 30) (.tmp 33) rfl (xs := []) (v := nil0) ⟨none, 0, rfl, OwnI.nil _ _⟩ 1 w3.heap.size rfl rfl (by simp) (by rw [cell_of_row _ _ 0 _ _ _ (heap_alloc_new w3 (.cells #[.int .i64 1] 3))]; rfl) (by simp) (by repeat first | exact xr _ | refine xa ?_ _ | refine xm ?_ _ _ | refine xd ?_ | refine xn ?_ _ | refine xs ?_ (by simp <;> omega) _) ?_; intro v4 w4 hr4 _ hx4)
 obtain ⟨A4, c4, rfl, ho4⟩ := hr4
 have hi4 := ho4.ints.1
 simp only [List.nil_append] at hi4
 have HI4 := zh hi4
 have C4 := zh (C3.out.ext hx4)
 have H4 := zh (H3.out.ext hx4)
 clear hx4 C3 H3 ho4 hi4
 simp only [List.nil_append, List.length_singleton]
 rw [rounds_succ]
 obtain ⟨c0, c1, _, c3⟩ := H4.out.cells
 have lb := H4.out.lt
 go_upto_region 2 with fail
 refine wp_region_bt (26) (softs_bt [0] (.step 1 (softs_bt [2, 3, 4, 5, 6, 7, 8, 9, 10, 11, 12, 13, 14, 15, 16, 17, 18, 19, 20, 21, 22, 23, 24, 25] .fin))) (by kernel_rfl) (by kernel_rfl) ?_
 refine bt_softs _ fun K hK => ?_; simp only [pick, nthC]; (repeat go_big_quiet_step (fail)); refine wpQuiet_nil (hK _ ?_); clear hK K
 refine bt_step fun next hn => ?_; simp only [pick, nthC]
 go_wp2_with fail
 refine (more_no b s (n + 1) v3 _ (H4.out.ext (by repeat first | exact xr _ | refine xa ?_ _ | refine xm ?_ _ _ | refine xd ?_ | refine xn ?_ _ | refine xs ?_ (by simp <;> omega) _)) (by omega)).mono ?_
 rintro e w5 ⟨rfl, _, x5⟩
 have Y5 : Hid (Ext w4 w5) := zh (Ext.trans (by repeat first | exact xr _ | refine xa ?_ _ | refine xm ?_ _ _ | refine xd ?_ | refine xn ?_ _ | refine xs ?_ (by simp <;> omega) _) x5)
 clear x5
 go_wp2_with fail
 refine segQ_mk (fun _ => laid Y5.out) (hn _ _ ?_)
 clear hn next
 refine bt_softs _ fun K hK => ?_; simp only [pick, nthC]; (repeat go_big_quiet_step (fail)); refine wpQuiet_nil (hK _ ?_); clear hK K
 (refine bt_fin ?_)
 clear c0 c1 c3 lb
 have C5 := zh (C4.out.ext Y5.out)
 obtain ⟨g5, off5, rfl, hg5, hc5⟩ := (HI4.out.ext Y5.out) (by decide)
 have x0 : w5.cell? ⟨g5, off5, none⟩ = some (.int .i64 1) := hc5 0 (by decide)
 clear hc5 HI4 Y5 C4 H4
 go_wp2_with fail
 go_ret
 exact C5.out
set_option maxRecDepth 100000 in
set_option maxHeartbeats 2000000 in
theorem alt_g (b base : Nat) (s : ByteArray) (n : Nat) (z : Cl) (w : World) (T : TxG s n z) (h : RD w b s 0 nil0) (hb : base ≤ w.heap.size) :
 Calls Tryz.prog 139 #[ptr b] w (CatRet w b base s n z) := by
 have hsz := T.sz
 have CC := zh (cat_g b base s n z w T h hb)
 clear T h
 go_enter Tryz.func139, Tryz.ntmps139
 go_wp2_with fail
 refine CC.out.mono ?_
 rintro e w3 ⟨v3, gk, rfl, h3, ho3, hk3, hl3, hg3, t3⟩
 have C3 : Hid (CatRet w b base s n z (.returned (.int .i64 1)) w3) := zh ⟨v3, gk, rfl, h3, ho3, hk3, hl3, hg3, t3⟩
 have H3 := zh h3
 clear h3 ho3 hk3 hl3 hg3 t3 CC
 go_wp2_with fail
 obtain ⟨w4, hw4⟩ : ∃ w4, w3.alloc (.cells #[.int .i64 1] 3) = w4 := ⟨_, rfl⟩
 obtain ⟨g4, hg4⟩ : ∃ g4, w3.heap.size = g4 := ⟨_, rfl⟩
 have X4 : Ext w3 w4 := by rw [← hw4]; exact (by repeat first | exact xr _ | refine xa ?_ _ | refine xm ?_ _ _ | refine xd ?_ | refine xn ?_ _ | refine xs ?_ (by simp <;> omega) _)
 have K4 := heap_alloc_new w3 (.cells #[.int .i64 1] 3)
 rw [hw4, hg4] at K4
 have HK4 := zh K4
 have C4 := zh (C3.out.ext X4)
 have H4 := zh (H3.out.ext X4)
 simp only [hw4, hg4]
 clear hw4 hg4 X4 C3 H3 K4
 refine wp_loop_rounds 1 ?_
 rw [rounds_succ]
 obtain ⟨c0, c1, _, c3⟩ := H4.out.cells
 have lb := H4.out.lt
 go_upto_region 2 with fail
 refine wp_region_bt (14) (softs_bt [0] (.step 1 (softs_bt [2, 3, 4, 5, 6, 7, 8, 9, 10, 11, 12, 13] .fin))) (by kernel_rfl) (by kernel_rfl) ?_
 refine bt_softs _ fun K hK => ?_; simp only [pick, nthC]; (repeat go_big_quiet_step (fail)); refine wpQuiet_nil (hK _ ?_); clear hK K
 refine bt_step fun next hn => ?_; simp only [pick, nthC]
 go_wp2_with fail
 refine (more_no b s (n + 1) v3 _ (H4.out.ext (by repeat first | exact xr _ | refine xa ?_ _ | refine xm ?_ _ _ | refine xd ?_ | refine xn ?_ _ | refine xs ?_ (by simp <;> omega) _)) (by omega)).mono ?_
 rintro e w5 ⟨rfl, _, x5⟩
 have Y5 : Hid (Ext w4 w5) := zh (Ext.trans (by repeat first | exact xr _ | refine xa ?_ _ | refine xm ?_ _ _ | refine xd ?_ | refine xn ?_ _ | refine xs ?_ (by simp <;> omega) _) x5)
 clear x5
 go_wp2_with fail
 refine segQ_mk (fun _ => laid Y5.out) (hn _ _ ?_)
 clear hn next
 refine bt_softs _ fun K hK => ?_; simp only [pick, nthC]; (repeat go_big_quiet_step (fail)); refine wpQuiet_nil (hK _ ?_); clear hK K
 (refine bt_fin ?_)
 clear c0 c1 c3 lb
 have C5 := zh (C4.out.ext Y5.out)
 have x0 := cell_of_row _ _ 0 _ _ _ (ext_block HK4.out Y5.out)
 have lx := lt_of_heap (ext_block HK4.out Y5.out)
 simp at x0
 clear Y5 C4 H4
 go_wp2_with fail
 go_ret
 exact C5.out
def R2 (w : World) (A : Option Addr) (z : Cl) : Prop := ∃ g gk, A = some ⟨g, 0, none⟩ ∧ g < w.heap.size ∧ gk < w.heap.size ∧ CellsAt w A (r2C z gk) ∧ w.cell? ⟨gk, 0, none⟩ = some (.int .i64 0)
theorem R2.ext {w w' : World} {A : Option Addr} {z : Cl} (h : R2 w A z) (e : Ext w w') : R2 w' A z := by
 obtain ⟨g, gk, h1, h2, h3, h4, h5⟩ := h
 exact ⟨g, gk, h1, Nat.lt_of_lt_of_le h2 e.size, Nat.lt_of_lt_of_le h3 e.size, h4.ext e, ext_cell h5 h3 e⟩
theorem infoBool : (Tryz.prog.info? 4).map (fun i => (i.zero, i.size, i.bytes)) = some (some (.bool false), 1, 1) := by kernel_rfl
theorem infoBools : (Tryz.prog.info? 128).map (fun i => (i.zero, i.size, i.bytes)) = some (some (.slice none 0 0), 1, 24) := by kernel_rfl
theorem infoBoolss : (Tryz.prog.info? 109).map (fun i => (i.zero, i.size, i.bytes)) = some (some (.slice none 0 0), 1, 24) := by kernel_rfl
theorem mk_bools (w : World) (n : Nat) (m : Int) (hm : m = n) (hn : n ≤ 1000000) :
 (Instr.makeSlice 128 (.int .i64 m) (.int .i64 m)).run Tryz.prog w = .ok (.slice (some ⟨w.heap.size, 0, none⟩) n n) (w.alloc (.cells (madeCells #[.bool false] n) 4)) := by
 subst hm
 obtain ⟨i3, hi, hz0, hz1, hz2⟩ := info_parts infoBool
 have h := run_makeSlice (P := Tryz.prog) w 128 4 i3 (.bool false) Tryz.underlying128 hi hz0 .i64 .i64 (n : Int) (n : Int) (by omega) (by omega) (by rw [hz1]; omega) (by rw [hz2]; omega) (by omega)
 rw [hz1, Int.toNat_natCast, Nat.mul_one] at h
 exact h
theorem made_at (v : Value) (n i : Nat) (h : i < n) : (madeCells #[v] n)[i]? = some v := by
 simp [madeCells, h, Nat.mod_one]
def fls : Array Value := madeCells #[.bool false] 1
theorem fls_at : fls[0]? = some (.bool false) := made_at _ 1 0 (by omega)
theorem mk_bool1 (w : World) : (Instr.makeSlice 128 (.int .i64 1) (.int .i64 1)).run Tryz.prog w = .ok (.slice (some ⟨w.heap.size, 0, none⟩) 1 1) (w.alloc (.cells fls 4)) := mk_bools w 1 1 rfl (by omega)
def F1 (w : World) (base : Nat) (A : Option Addr) : Prop := ∃ g og h oh c' cs, A = some ⟨g, og, none⟩ ∧ g < w.heap.size ∧ w.cell? ⟨g, og, none⟩ = some (.slice (some ⟨h, oh, none⟩) 1 c') ∧ w.heap[h]? = some (.cells cs 4) ∧ cs[oh]? = some (.bool false) ∧ base ≤ g ∧ base ≤ h
theorem F1.ext {w w' : World} {base : Nat} {A : Option Addr} (h : F1 w base A) (e : Ext w w') : F1 w' base A := by
 obtain ⟨g, og, h, oh, c', cs, h1, h2, h3, h4, h5, h6⟩ := h
 exact ⟨g, og, h, oh, c', cs, h1, Nat.lt_of_lt_of_le h2 e.size, ext_cell h3 h2 e, ext_block h4 e, h5, h6⟩
theorem F1.low {w : World} {base b' : Nat} {A : Option Addr} (h : F1 w base A) (hb : b' ≤ base) : F1 w b' A := by
 obtain ⟨g, og, h, oh, c', cs, h1, h2, h3, h4, h5, h6⟩ := h
 exact ⟨g, og, h, oh, c', cs, h1, h2, h3, h4, h5, by omega, by omega⟩
theorem F1.keep {w w' : World} {base : Nat} {A : Option Addr} {S : Nat → Prop} (h : F1 w base A) (t : Turn S w w') (hS : ∀ k, S k → k < base) : F1 w' base A := by
 obtain ⟨g, og, h, oh, c', cs, h1, h2, h3, h4, h5, h6, h7⟩ := h
 refine ⟨g, og, h, oh, c', cs, h1, Nat.lt_of_lt_of_le h2 t.size, ?_, t.keep h4 (fun hk => by have := hS _ hk; omega), h5, h6, h7⟩
 rw [World.cell?_of_block (w := w) (a := ⟨g, og, none⟩) (t.block g h2 (fun hk => by have := hS _ hk; omega))]
 exact h3
theorem F1.open_ {w : World} {base : Nat} {A : Option Addr} (h : F1 w base A) : ∃ g og h oh c', A = some ⟨g, og, none⟩ ∧ g < w.heap.size ∧ h < w.heap.size ∧ w.cell? ⟨g, og, none⟩ = some (.slice (some ⟨h, oh, none⟩) 1 c') ∧ w.cell? ⟨h, oh, none⟩ = some (.bool false) ∧ w.frozen? ⟨h, oh, none⟩ = false ∧ w.setCell ⟨h, oh, none⟩ (.bool false) = w := by
 obtain ⟨g, og, h, oh, c', cs, h1, h2, h3, h4, h5, _⟩ := h
 exact ⟨g, og, h, oh, c', h1, h2, lt_of_heap h4, h3, (cell_of_row _ _ oh _ _ _ h4).trans h5, row_frozen h4 oh, setCell_id w h oh cs _ _ _ h4 h5⟩
def F1Ret (w : World) (e : Ending) (w' : World) : Prop := ∃ A c, e = .returned (.slice A 1 c) ∧ F1 w' w.heap.size A ∧ 1 ≤ c ∧ Ext w w'
set_option maxRecDepth 100000 in
set_option maxHeartbeats 2000000 in
theorem places_f (w : World) : Calls Tryz.prog 190 #[.int .i64 1, .bool false] w (F1Ret w) := by
 have hmk := mk_bool1
 obtain ⟨i6, hi, hz0, hz1, hz2⟩ := info_parts infoBools
 go_enter Tryz.func190, Tryz.ntmps190
 go_wp2_with fail
 refine wp_loop_rounds 2 ?_
 rw [rounds_succ]
 go_upto_region 5 with fail
 have C1 := cells_lit (w.alloc (.cells fls 4)) 128 (w.heap.size + 1) #[.slice (some ⟨w.heap.size, 0, none⟩) 1 1] [.slice (some ⟨w.heap.size, 0, none⟩) 1 1] (by simp) rfl
 have HC1 := zh C1
 clear C1
 go_upto_region 6 with (at_builtin; refine wpList_append_cells _ (by rfl) (.tmp 12) (.tmp 15) 109 rfl w.heap.size 128 i6 _ 1 24 Tryz.underlying109 hi hz0 hz1 hz2 rfl (by omega) nil0 0 [] rfl (World.ownsRow_nil _ _ _ _) (some ⟨w.heap.size + 1, 0, none⟩) 1 1 [.slice (some ⟨w.heap.size, 0, none⟩) 1 1] rfl (by intro h; cases h) rfl HC1.out (by intro u hu; obtain rfl := List.mem_singleton.1 hu; rfl) (by unfold maxLen; omega) (by omega) (by simp <;> omega) ?_; intro v3 w3 hown3 hg3 hat3)
 have K0 : (w.alloc (.cells fls 4)).heap[w.heap.size]? = some (.cells fls 4) := heap_alloc_new w _
 have K1 := ext_block K0 ((by repeat first | exact xr _ | refine xa ?_ _ | refine xm ?_ _ _ | refine xd ?_ | refine xn ?_ _ | refine xs ?_ (by simp <;> omega) _) : Ext _ ((w.alloc (.cells fls 4)).alloc (.cells #[.slice (some ⟨w.heap.size, 0, none⟩) 1 1] 128)))
 obtain ⟨h, hh⟩ : ∃ h, w.heap.size = h := ⟨_, rfl⟩
 have K3 : w3.heap[h]? = some (.cells fls 4) := by rw [← hh]; exact (hg3.block _ (by simp <;> omega) (by simp [Value.ownBlock])).trans K1
 have X3 : Hid (Ext w w3) := zh (((by repeat first | exact xr _ | refine xa ?_ _ | refine xm ?_ _ _ | refine xd ?_ | refine xn ?_ _ | refine xs ?_ (by simp <;> omega) _) : Ext w ((w.alloc (.cells fls 4)).alloc (.cells #[.slice (some ⟨w.heap.size, 0, none⟩) 1 1] 128))).grown hg3 (by intro g hg; cases hg))
 obtain ⟨A3, c3, rfl, hc3, hl3, _⟩ := own_cells hown3
 simp only [List.nil_append] at hc3
 obtain ⟨g, og, rfl, hg, hcc⟩ := hc3 (by simp)
 have x0 : w3.cell? ⟨g, og, none⟩ = some (.slice (some ⟨h, 0, none⟩) 1 1) := by rw [← hh]; exact hcc 0 _ rfl
 have y0 := (cell_of_row _ _ 0 _ _ _ K3).trans fls_at
 have f0 := row_frozen K3 0
 have e0 : w3.setCell ⟨h, 0, none⟩ (.bool false) = w3 := setCell_id w3 h 0 _ _ _ _ K3 fls_at
 have lh := lt_of_heap K3
 have HF : Hid (F1 w3 w.heap.size (some ⟨g, og, none⟩)) := zh ⟨g, og, h, 0, 1, fls, rfl, hg, x0, K3, fls_at, own_block hown3 g rfl, by omega⟩
 have HL : Hid (1 ≤ c3) := zh hl3
 clear K0 K1 K3 hown3 hg3 hat3 hcc hc3 HC1 hi hz0 hz1 hz2
 simp only [hh]
 go_wp2_with fail
 rw [rounds_succ]
 go_wp2_with fail
 go_ret
 exact ⟨_, c3, rfl, HF.out, HL.out, X3.out⟩
set_option maxRecDepth 100000 in
set_option maxHeartbeats 2000000 in
theorem either_f (A B : Option Addr) (c d : Nat) (w : World) (hA : F1 w 0 A) (hB : F1 w 0 B) : Calls Tryz.prog 192 #[.slice A 1 c, .slice B 1 d] w (F1Ret w) := by
 have HA := zh hA
 have HB := zh hB
 clear hA hB
 go_enter Tryz.func192, Tryz.ntmps192
 go_wp2_with fail
 refine (places_f w).mono ?_
 rintro e w1 ⟨C, c1, rfl, hF, hc1, hx1⟩
 have HF := zh hF
 have HX := zh hx1
 have HC1 := zh hc1
 have HA1 := zh (HA.out.ext hx1)
 have HB1 := zh (HB.out.ext hx1)
 clear hF hx1 hc1 HA HB
 go_wp2_with fail
 refine wp_loop_rounds 2 ?_
 rw [rounds_succ]
 go_wp2_with fail
 refine wp_loop_rounds 2 ?_
 rw [rounds_succ]
 obtain ⟨g0, o0, h0, p0, d0, rfl, lg0, lh0, x0, y0, _, _⟩ := HA1.out.open_
 obtain ⟨g1, o1, h1, p1, d1, rfl, lg1, lh1, x1, y1, _, _⟩ := HB1.out.open_
 obtain ⟨g2, o2, h2, p2, d2, rfl, lg2, lh2, x2, y2, f2, e2⟩ := HF.out.open_
 go_upto_region 8 with fail
 refine wp_region_bt (22) (softs_bt [0, 1, 2, 3, 4, 5, 6, 7, 8, 9, 10, 11, 12, 13, 14, 15, 16, 17, 18, 19, 20, 21] (.step 22 .fin)) (by kernel_rfl) (by kernel_rfl) ?_
 refine bt_softs _ fun K hK => ?_; simp only [pick, nthC]; (repeat go_big_quiet_step (fail)); refine wpQuiet_nil (hK _ ?_); clear hK K
 have f2' : w1.drew.frozen? ⟨h2, p2, none⟩ = false := f2
 have e2' : w1.drew.setCell ⟨h2, p2, none⟩ (.bool false) = w1.drew := congrArg World.drew e2
 refine bt_step fun next hn => ?_; simp only [pick, nthC]
 go_wp2_with fail
 refine segQ_mk (fun h => absurd rfl h) (hn _ _ ?_)
 clear hn next
 (refine bt_fin ?_)
 have HF' := zh (HF.out.ext ((by repeat first | exact xr _ | refine xa ?_ _ | refine xm ?_ _ _ | refine xd ?_ | refine xn ?_ _ | refine xs ?_ (by simp <;> omega) _) : Ext w1 w1.drew))
 have HX' := zh (HX.out.trans ((by repeat first | exact xr _ | refine xa ?_ _ | refine xm ?_ _ _ | refine xd ?_ | refine xn ?_ _ | refine xs ?_ (by simp <;> omega) _) : Ext w1 w1.drew))
 clear x0 y0 x1 y1 x2 y2 f2 e2 HF HX
 go_wp2_with fail
 rw [rounds_succ]
 go_wp2_with fail
 rw [rounds_succ]
 go_wp2_with fail
 go_ret
 exact ⟨_, c1, rfl, HF'.out, HC1.out, HX'.out⟩
set_option maxRecDepth 100000 in
set_option maxHeartbeats 2000000 in
theorem again_f (A : Option Addr) (c : Nat) (w : World) (hA : F1 w 0 A) : Calls Tryz.prog 193 #[.slice A 1 c] w (F1Ret w) := by
 have CE := zh (either_f A A c c w hA hA)
 clear hA
 go_enter Tryz.func193, Tryz.ntmps193
 go_wp2_with fail
 refine CE.out.mono ?_
 rintro e w1 ⟨C, c1, rfl, hF, hc1, hx1⟩
 have HF := zh hF
 have HX := zh hx1
 have HC1 := zh hc1
 obtain ⟨g2, o2, h2, p2, d2, rfl, lg2, lh2, x2, y2, f2, e2⟩ := hF.open_
 clear hF hx1 hc1 CE
 go_wp2_with fail
 refine wp_loop_rounds 2 ?_
 rw [rounds_succ]
 go_wp2_with fail
 refine wp_loop_rounds 2 ?_
 rw [rounds_succ]
 go_wp2_with fail
 refine wp_loop_rounds 1 ?_
 rw [rounds_succ]
 go_wp2_with fail
 rw [rounds_succ]
 go_wp2_with fail
 rw [rounds_succ]
 go_wp2_with fail
 go_ret
 exact ⟨_, c1, rfl, HF.out, HC1.out, HX.out⟩
theorem R2.open_ {w : World} {A : Option Addr} {z : Cl} (h : R2 w A z) : ∃ g gk, A = some ⟨g, 0, none⟩ ∧ g < w.heap.size ∧ gk < w.heap.size ∧ w.cell? ⟨g, 0, none⟩ = some (.int .i64 2) ∧
 (w.cell? ⟨g, 1, none⟩ = some (.int .u64 z.a) ∧ w.cell? ⟨g, 2, none⟩ = some (.int .u64 z.b) ∧ w.cell? ⟨g, 3, none⟩ = some (.int .u64 z.c) ∧ w.cell? ⟨g, 4, none⟩ = some (.int .u64 z.d)) ∧ w.cell? ⟨g, 5, none⟩ = some nil0 ∧
 w.cell? ⟨g, 6, none⟩ = some (.int .i64 6) ∧ (w.cell? ⟨g, 7, none⟩ = some (.int .u64 0) ∧ w.cell? ⟨g, 8, none⟩ = some (.int .u64 0) ∧ w.cell? ⟨g, 9, none⟩ = some (.int .u64 0) ∧ w.cell? ⟨g, 10, none⟩ = some (.int .u64 0)) ∧
 w.cell? ⟨g, 11, none⟩ = some (.slice (some ⟨gk, 0, none⟩) 1 1) ∧ w.cell? ⟨gk, 0, none⟩ = some (.int .i64 0) := by
 obtain ⟨g, gk, rfl, h2, h3, h4, h5⟩ := h
 obtain ⟨b, off, hb, _, hc⟩ := h4 (by simp [r2C, nodC])
 injection hb with hb
 injection hb with hb1 hb2
 subst hb1 hb2
 have hh := fun k u hk => hc k u hk
 simp only [Nat.zero_add] at hh
 exact ⟨g, gk, rfl, h2, h3, hh 0 _ rfl, ⟨hh 1 _ rfl, hh 2 _ rfl, hh 3 _ rfl, hh 4 _ rfl⟩, hh 5 _ rfl, hh 6 _ rfl, ⟨hh 7 _ rfl, hh 8 _ rfl, hh 9 _ rfl, hh 10 _ rfl⟩, hh 11 _ rfl, h5⟩
set_option maxRecDepth 100000 in
set_option maxHeartbeats 4000000 in
theorem ways_r2 (A : Option Addr) (c : Nat) (z : Cl) (w : World) (h : R2 w A z) : Calls Tryz.prog 178 #[.slice A 2 c, .string ⟨#[]⟩] w fun e w' => ∃ B d g1 d1, e = .returned (.slice B 2 d) ∧ (∃ b, B = some ⟨b, 0, none⟩ ∧ b < w'.heap.size ∧ w'.cell? ⟨b, 1, none⟩ = some (.slice g1 1 d1)) ∧ F1 w' 0 g1 ∧ Ext w w' := by
 have H := zh h
 obtain ⟨g, gk, rfl, lg, lk, x0, ⟨x1, x2, x3, x4⟩, x5, x6, ⟨x7, x8, x9, x10⟩, x11, y0⟩ := h.open_
 clear h
 go_enter Tryz.func178, Tryz.ntmps178
 go_wp2_with fail
 refine wp_loop_rounds 3 ?_
 rw [rounds_succ]
 go_wp2_with fail
 have X1 : Ext w (w.alloc (.cells #[.int .i64 2, .int .u64 z.a, .int .u64 z.b, .int .u64 z.c, .int .u64 z.d, .slice none 0 0] 232)) := (by repeat first | exact xr _ | refine xa ?_ _ | refine xm ?_ _ _ | refine xd ?_ | refine xn ?_ _ | refine xs ?_ (by simp <;> omega) _)
 have K1 := heap_alloc_new w (.cells #[.int .i64 2, .int .u64 z.a, .int .u64 z.b, .int .u64 z.c, .int .u64 z.d, .slice none 0 0] 232)
 refine (places_f _).mono ?_
 rintro e w2 ⟨P0, pc0, rfl, hF0, hp0, hx2⟩
 have K2 := ext_block K1 hx2
 have k0 := cell_of_row _ _ 0 _ _ _ K2
 have k5 := cell_of_row _ _ 5 _ _ _ K2
 have lk2 := lt_of_heap K2
 simp at k0 k5
 have HX2 := zh (X1.trans hx2)
 have HF2 := zh hF0
 have HP2 := zh hp0
 clear X1 K1 K2 hx2 hF0 hp0 x0 x1 x2 x3 x4 x5
 go_wp2_with fail
 refine wp_loop_rounds 1 ?_
 rw [rounds_succ]
 go_wp2_with fail
 refine wp_loop_rounds 1 ?_
 rw [rounds_succ]
 go_upto_region 21 with fail
 have C3 := cells_lit w2 109 w2.heap.size #[.slice P0 1 pc0] [.slice P0 1 pc0] rfl rfl
 have HC3 := zh C3
 clear C3
 obtain ⟨i6, hi, hz0, hz1, hz2⟩ := info_parts infoBoolss
 go_wp2_with (at_builtin; refine wpList_append_cells _ (by rfl) (.tmp 111) (.tmp 113) 227 rfl w.heap.size 109 i6 _ 1 24 Tryz.underlying227 hi hz0 hz1 hz2 rfl (by omega) nil0 0 [] rfl (World.ownsRow_nil _ _ _ _) (some ⟨w2.heap.size, 0, none⟩) 1 1 [.slice P0 1 pc0] rfl (by intro h; cases h) rfl HC3.out (by intro u hu; obtain rfl := List.mem_singleton.1 hu; rfl) (by unfold maxLen; omega) (by omega) (by have := HX2.out.size; simp <;> omega) ?_; intro v3 w3 hown3 hg3 hat3)
 obtain ⟨A3, c3, rfl, _, _, _⟩ := own_cells hown3
 have X3 : Ext w2 w3 := ((by repeat first | exact xr _ | refine xa ?_ _ | refine xm ?_ _ _ | refine xd ?_ | refine xn ?_ _ | refine xs ?_ (by simp <;> omega) _) : Ext w2 (w2.alloc (.cells #[.slice P0 1 pc0] 109))).grown hg3 (by intro g hg; cases hg)
 have HX3 := zh (HX2.out.trans X3)
 have HF3 := zh (HF2.out.ext X3)
 have HO3 : Hid (w3.ownsRow w.heap.size 109 1 (.slice A3 1 c3) 1 [.slice P0 1 pc0]) := zh hown3
 have H3 := zh (H.out.ext HX3.out)
 clear hown3 hg3 hat3 HC3 X3 k0 k5 lk2 x6 x7 x8 x9 x10 x11 y0 lg lk HX2 HF2 H
 simp only [Nat.zero_add]
 obtain ⟨g', gk', hgg, lg, lk, x0, _, x5, x6, ⟨x7, x8, x9, x10⟩, x11, y0⟩ := H3.out.open_
 injection hgg with hgg
 injection hgg with hgg
 subst hgg
 rw [rounds_succ]
 go_wp2_with fail
 have X1 : Ext w3 (w3.alloc (.cells #[.int .i64 6, .int .u64 0, .int .u64 0, .int .u64 0, .int .u64 0, .slice (some ⟨gk', 0, none⟩) 1 1] 232)) := (by repeat first | exact xr _ | refine xa ?_ _ | refine xm ?_ _ _ | refine xd ?_ | refine xn ?_ _ | refine xs ?_ (by simp <;> omega) _)
 have K1 := heap_alloc_new w3 (.cells #[.int .i64 6, .int .u64 0, .int .u64 0, .int .u64 0, .int .u64 0, .slice (some ⟨gk', 0, none⟩) 1 1] 232)
 refine (places_f _).mono ?_
 rintro e w4 ⟨P1, pc1, rfl, hF1, hp1, hx4⟩
 have K2 := ext_block K1 hx4
 have HK4 := zh K2
 have k0 := cell_of_row _ _ 0 _ _ _ K2
 have k5 := cell_of_row _ _ 5 _ _ _ K2
 have lk2 := lt_of_heap K2
 simp at k0 k5
 have HX4 := zh (HX3.out.trans (X1.trans hx4))
 have HF4 := zh hF1
 have HFP := zh (HF3.out.ext (X1.trans hx4))
 have HO4 := zh (own_ext HO3.out (X1.trans hx4))
 have y1 := ext_cell y0 lk (X1.trans hx4)
 have lk4 := Nat.lt_of_lt_of_le lk (X1.trans hx4).size
 clear X1 K1 K2 hx4 hF1 hp1 x0 x5 x6 x7 x8 x9 x10 x11 y0 lg lk HX3 HF3 HO3
 obtain ⟨A, c', hAA, hc4, _, _, _⟩ := own_cells HO4.out
 injection hAA with hA1 hA2 hA3
 subst hA1 hA3
 obtain ⟨b, off, rfl, lb, hcc⟩ := hc4 (by simp)
 have r0 := hcc 0 _ rfl
 simp only [Nat.add_zero] at r0
 clear hcc hc4 hA2
 go_wp2_with fail
 refine wp_loop_rounds 1 ?_
 rw [rounds_succ]
 go_wp2_with fail
 refine wp_loop_rounds 2 ?_
 rw [rounds_succ]
 go_wp2_with fail
 refine (either_f P1 P0 pc1 pc0 w4 (HF4.out.low (Nat.zero_le _)) (HFP.out.low (Nat.zero_le _))).mono ?_
 rintro e w5 ⟨P2, pc2, rfl, hF2, hp2, hx5⟩
 have K5 := ext_block HK4.out hx5
 have l0 := cell_of_row _ _ 0 _ _ _ K5
 have l5 := cell_of_row _ _ 5 _ _ _ K5
 have ll := lt_of_heap K5
 simp at l0 l5
 have HK5 := zh K5
 have HX5 := zh (HX4.out.trans hx5)
 have HF5 := zh hF2
 have HO5 := zh (own_ext HO4.out hx5)
 clear K5 hx5 hF2 hp2 k0 k5 lk2 y1 lk4 r0 lb HK4 HX4 HF4 HFP HO4
 go_wp2_with fail
 rw [rounds_succ]
 go_wp2_with fail
 refine (again_f P2 pc2 w5 (HF5.out.low (Nat.zero_le _))).mono ?_
 rintro e w6 ⟨P3, pc3, rfl, hF3, hp3, hx6⟩
 have K6 := ext_block HK5.out hx6
 have m0 := cell_of_row _ _ 0 _ _ _ K6
 have mm := lt_of_heap K6
 simp at m0
 have HX6 := zh (HX5.out.trans hx6)
 have HF6 := zh hF3
 have HO6 := zh (own_ext HO5.out hx6)
 have HB5 : Hid (b < w5.heap.size) := zh (own_old HO5.out b rfl)
 clear K6 hx6 hF3 hp3 l0 l5 ll HK5 HX5 HF5 HO5
 have C3 := cells_lit w6 109 w6.heap.size #[.slice P3 1 pc3] [.slice P3 1 pc3] rfl rfl
 have HC3 := zh C3
 clear C3
 go_wp2_with (at_builtin; refine wpList_append_cells _ (by rfl) (.tmp 111) (.tmp 113) 227 rfl w.heap.size 109 i6 _ 1 24 Tryz.underlying227 hi hz0 hz1 hz2 rfl (by omega) (.slice (some ⟨b, off, none⟩) 1 c3) 1 [.slice P0 1 pc0] rfl (own_ext HO6.out (by repeat first | exact xr _ | refine xa ?_ _ | refine xm ?_ _ _ | refine xd ?_ | refine xn ?_ _ | refine xs ?_ (by simp <;> omega) _)) (some ⟨w6.heap.size, 0, none⟩) 1 1 [.slice P3 1 pc3] rfl (by intro h; cases h) rfl HC3.out (by intro u hu; obtain rfl := List.mem_singleton.1 hu; rfl) (by unfold maxLen; omega) (by omega) (by have := HX6.out.size; simp <;> omega) ?_; intro v7 w7 hown7 hg7 hat7)
 have T7 : Turn (fun k => k = b) w6 w7 := (Turn.of_ext ((by repeat first | exact xr _ | refine xa ?_ _ | refine xm ?_ _ _ | refine xd ?_ | refine xn ?_ _ | refine xs ?_ (by simp <;> omega) _) : Ext w6 (w6.alloc (.cells #[.slice P3 1 pc3] 109)))).trans (Turn.grown hg7 fun g hg _ => by injection hg with hg; exact hg.symm)
 have HF7 : Hid (F1 w7 0 P3) := zh ((HF6.out.keep T7 (fun k hk => by have := HB5.out; omega)).low (Nat.zero_le _))
 have HX7 : Hid (Ext w w7) := zh (T7.ext HX6.out (fun k hk => by subst hk; exact own_block HO6.out k rfl))
 have HO7 : Hid (w7.ownsRow w.heap.size 109 1 v7 2 [.slice P0 1 pc0, .slice P3 1 pc3]) := zh hown7
 clear T7 hown7 hg7 hat7
 obtain ⟨A7, c7, rfl, hc7, _, _⟩ := own_cells HO7.out
 obtain ⟨g7, off7, rfl, lg7, hcc7⟩ := hc7 (by simp)
 have z1 := hcc7 1 _ rfl
 have HOF : off7 = 0 := by
  rcases HO7.out.2 with ⟨_, h⟩ | ⟨g'', cap, cur, h, _⟩
  ·cases h
  ·injection h with h
   injection h with h
   injection h with h h'
 subst HOF
 have HZ : Hid (g7 < w7.heap.size ∧ w7.cell? ⟨g7, 1, none⟩ = some (.slice P3 1 pc3)) := zh ⟨lg7, by simpa using z1⟩
 clear hc7 hcc7 z1 lg7 HC3 m0 mm
 rw [rounds_succ]
 go_wp2_with fail
 go_ret
 exact ⟨_, c7, P3, pc3, rfl, ⟨g7, rfl, HZ.out.1, HZ.out.2⟩, HF7.out, HX7.out⟩
theorem mk_ints (w : World) (n : Nat) (m : Int) (hm : m = n) (hn : n ≤ 1000000) :
 (Instr.makeSlice 31 (.int .i64 m) (.int .i64 m)).run Tryz.prog w = .ok (.slice (some ⟨w.heap.size, 0, none⟩) n n) (w.alloc (.cells (madeCells #[.int .i64 0] n) 3)) := by
 subst hm
 obtain ⟨i3, hi, hz0, hz1, hz2⟩ := info_parts infoInt
 have h := run_makeSlice (P := Tryz.prog) w 31 3 i3 (.int .i64 0) Tryz.underlying31 hi hz0 .i64 .i64 (n : Int) (n : Int) (by omega) (by omega) (by rw [hz1]; omega) (by rw [hz2]; omega) (by omega)
 rw [hz1, Int.toNat_natCast, Nat.mul_one] at h
 exact h
theorem eq_zero (w : World) : (Op.equalIn 10000 191 (.agg #[.int .u64 0, .int .u64 0, .int .u64 0, .int .u64 0]) (.agg #[.int .u64 0, .int .u64 0, .int .u64 0, .int .u64 0])).run Tryz.prog w = .ok true w := by kernel_rfl
theorem parts_2 (w : World) : Calls Tryz.prog 179 #[.int .i64 2] w fun e w' => e = .returned (.tuple #[.int .i64 0, .int .i64 0]) ∧ Ext w w' := by
 go_enter Tryz.func179, Tryz.ntmps179
 go_wp2_with fail
 go_ret2
 exact ⟨rfl, (by repeat first | exact xr _ | refine xa ?_ _ | refine xm ?_ _ _ | refine xd ?_ | refine xn ?_ _ | refine xs ?_ (by simp <;> omega) _)⟩
theorem parts_6 (w : World) : Calls Tryz.prog 179 #[.int .i64 6] w fun e w' => e = .returned (.tuple #[.int .i64 1, .int .i64 1]) ∧ Ext w w' := by
 go_enter Tryz.func179, Tryz.ntmps179
 go_wp2_with fail
 go_ret2
 exact ⟨rfl, (by repeat first | exact xr _ | refine xa ?_ _ | refine xm ?_ _ _ | refine xd ?_ | refine xn ?_ _ | refine xs ?_ (by simp <;> omega) _)⟩
set_option maxRecDepth 100000 in
set_option maxHeartbeats 4000000 in
theorem check_r2 (A : Option Addr) (c : Nat) (z : Cl) (w : World) (h : R2 w A z) : Calls Tryz.prog 143 #[.slice A 2 c] w fun e w' => e = .returned (.int .i64 0) ∧ Ext w w' := by
 have H := zh h
 have hmk := fun w => mk_ints w 2 2 rfl (by omega)
 clear h
 go_enter Tryz.func143, Tryz.ntmps143
 go_wp2_with fail
 obtain ⟨w1, hw1⟩ : ∃ w1, w.alloc (.cells (madeCells #[.int .i64 0] 2) 3) = w1 := ⟨_, rfl⟩
 obtain ⟨u, hu⟩ : ∃ u, w.heap.size = u := ⟨_, rfl⟩
 have X1 : Ext w w1 := by rw [← hw1]; exact (by repeat first | exact xr _ | refine xa ?_ _ | refine xm ?_ _ _ | refine xd ?_ | refine xn ?_ _ | refine xs ?_ (by simp <;> omega) _)
 have U1 : Hid (w1.heap[u]? = some (.cells (madeCells #[.int .i64 0] 2) 3)) := zh (by rw [← hw1, ← hu]; exact heap_alloc_new _ _)
 have H1 := zh (H.out.ext X1)
 have HX1 := zh X1
 have HU := zh hu
 simp only [hw1, hu]
 clear hw1 hu X1 hmk
 refine wp_loop_rounds 3 ?_
 rw [rounds_succ]
 obtain ⟨g, gk, rfl, lg, lk, x0, _, x5, x6, ⟨x7, x8, x9, x10⟩, x11, y0⟩ := H1.out.open_
 go_wp2_with fail
 refine (parts_2 w1).mono ?_
 rintro e w2 ⟨rfl, hx2⟩
 have H2 := zh (H1.out.ext hx2)
 have U2 := zh (ext_block U1.out hx2)
 have HX2 := zh (HX1.out.trans hx2)
 clear x0 x5 x6 x7 x8 x9 x10 x11 y0 lg lk hx2 U1 HX1 H1
 obtain ⟨g', gk', hgg, lg, lk, x0, _, x5, x6, ⟨x7, x8, x9, x10⟩, x11, y0⟩ := H2.out.open_
 injection hgg with hgg
 injection hgg with hgg
 subst hgg
 go_wp2_with fail
 refine wp_loop_rounds 1 ?_
 rw [rounds_succ]
 go_wp2_with fail
 rw [rounds_succ]
 go_wp2_with fail
 refine (parts_6 w2).mono ?_
 rintro e w3 ⟨rfl, hx3⟩
 have H3 := zh (H2.out.ext hx3)
 have U3 := zh (ext_block U2.out hx3)
 have HX3 := zh (HX2.out.trans hx3)
 clear x0 x5 x6 x7 x8 x9 x10 x11 y0 lg lk hx3 U2 HX2 H2
 obtain ⟨g', gk2, hgg, lg, lk, x0, _, x5, x6, ⟨x7, x8, x9, x10⟩, x11, y0⟩ := H3.out.open_
 injection hgg with hgg
 injection hgg with hgg
 subst hgg
 have u0 := cell_of_row _ _ 0 _ _ _ U3.out
 have u1 := cell_of_row _ _ 1 _ _ _ U3.out
 have uf := fun k => row_frozen U3.out k
 rw [made_at _ 2 0 (by omega)] at u0
 rw [made_at _ 2 1 (by omega)] at u1
 have heq := eq_zero
 go_wp2_with fail
 refine wp_loop_rounds 2 ?_
 rw [rounds_succ]
 obtain ⟨w4, hw4⟩ : ∃ w4, w3.setCell ⟨u, 0, none⟩ (.int .i64 1) = w4 := ⟨_, rfl⟩
 have HX4 : Hid (Ext w w4) := zh (by rw [← hw4]; exact HX3.out.setCell (by show _ ≤ u; have := HU.out; omega) _)
 have U4 : w4.heap[u]? = some (.cells ((madeCells #[.int .i64 0] 2).setIfInBounds 0 (.int .i64 1)) 3) := by rw [← hw4]; exact setCell_row U3.out _
 have v0 := cell_of_row _ _ 0 _ _ _ U4
 have hs : (madeCells #[Value.int .i64 0] 2).size = 2 := by simp [madeCells]
 simp [hs] at v0
 have lv := lt_of_heap U4
 clear U4 hs
 go_wp2_with fail
 clear hw4 u0 u1 uf x0 x5 x6 x7 x8 x9 x10 x11 y0 lg lk U3 H3 HX3
 obtain ⟨g', gk4, hgg, lg, lk, x0, _, x5, x6, ⟨x7, x8, x9, x10⟩, x11, y0⟩ := (H.out.ext HX4.out).open_
 injection hgg with hgg
 injection hgg with hgg
 subst hgg
 rw [rounds_succ]
 go_wp2_with fail
 rw [rounds_succ]
 go_wp2_with fail
 refine wp_loop_rounds 3 ?_
 rw [rounds_succ]
 go_wp2_with fail
 rw [rounds_succ]
 go_wp2_with fail
 rw [rounds_succ]
 go_wp2_with fail
 go_ret
 exact ⟨rfl, HX4.out⟩
theorem matches_r2 (A : Option Addr) (c : Nat) (z : Cl) (w : World) (h : R2 w A z) : Calls Tryz.prog 142 #[.slice A 2 c, .string ⟨#[]⟩] w fun e w' => e = .returned (.bool false) ∧ Ext w w' := by
 have H := zh h
 clear h
 go_enter Tryz.func142, Tryz.ntmps142
 go_wp2_with fail
 refine (check_r2 A c z w H.out).mono ?_
 rintro e w1 ⟨rfl, hx1⟩
 have H1 := zh (H.out.ext hx1)
 have HX1 := zh hx1
 clear hx1
 go_wp2_with fail
 refine (ways_r2 A c z w1 H1.out).mono ?_
 rintro e w2 ⟨B, d, g1, d1, rfl, ⟨b, rfl, lb, hb⟩, hF, hx2⟩
 obtain ⟨g, og, h, oh, c', rfl, lg, lh, x0, y0, _, _⟩ := hF.open_
 have HX2 := zh (HX1.out.trans hx2)
 clear hF hx2 H1 HX1 H
 go_wp2_with fail
 go_ret
 exact ⟨rfl, HX2.out⟩
theorem nullable_r2 (A : Option Addr) (c : Nat) (z : Cl) (w : World) (h : R2 w A z) : Calls Tryz.prog 96 #[.slice A 2 c] w fun e w' => e = .returned (.bool false) ∧ Ext w w' := by
 have CM := zh (matches_r2 A c z w h)
 clear h
 go_enter Tryz.func96, Tryz.ntmps96
 go_wp2_with fail
 refine CM.out.mono ?_
 rintro e w1 ⟨rfl, hx1⟩
 go_wp2_with fail
 go_ret
 exact ⟨rfl, hx1⟩
theorem grown_other {w0 w w' : World} {base : Nat} {e T : TypeId} {size : Nat} {v : Value} {n : Nat} {xs : List Value} {cs : Array Value} {g : Nat} (hown : w0.ownsRow base e size v n xs) (hg : w.grownBy w' v.ownBlock) (he : Ext w0 w) (h : w.heap[g]? = some (.cells cs T)) (hT : T ≠ e) : w'.heap[g]? = some (.cells cs T) := by
 refine (hg.block g (lt_of_heap h) fun hh => hT ?_).trans h
 obtain ⟨cur, hcur⟩ := own_obj hown g hh.symm
 have := ext_block hcur he
 rw [h] at this
 injection this with this
 injection this
theorem own_other {w0 w w' : World} {base b' : Nat} {e e' : TypeId} {size s' : Nat} {v v' : Value} {n n' : Nat} {xs ys : List Value} (hown : w0.ownsRow base e size v n xs) (hg : w.grownBy w' v.ownBlock) (he : Ext w0 w) (h : w.ownsRow b' e' s' v' n' ys) (hT : e' ≠ e) : w'.ownsRow b' e' s' v' n' ys := by
 refine own_keep h fun g hgv => ?_
 obtain ⟨cur, hcur⟩ := own_obj h g hgv
 exact (grown_other hown hg he hcur hT).trans hcur.symm
def IntSl (w : World) (x : Value) (v : Value) (xs : List Int) : Prop := ∃ A c, v = .slice A xs.length c ∧ Ints w A xs ∧ xs.length ≤ c ∧ c ≤ 9223372036854775807 ∧ (A = none → c = 0) ∧ ∀ g off s, A = some ⟨g, off, s⟩ → (∃ cs, w.heap[g]? = some (.cells cs 3)) ∧ x.ownBlock ≠ some g
theorem IntSl.nil (w : World) (x : Value) : IntSl w x nil0 [] := ⟨none, 0, rfl, Ints.nil, by simp, by omega, fun _ => rfl, fun g off s h => by cases h⟩
theorem IntSl.keep {w w' : World} {x v : Value} {xs : List Int} {S : Nat → Prop} (h : IntSl w x v xs) (t : Turn S w w') (hS : ∀ g cs, w.heap[g]? = some (.cells cs 3) → x.ownBlock ≠ some g → ¬ S g) (x' : Value) (hx : ∀ g, x'.ownBlock = some g → x.ownBlock = some g ∨ w.heap.size ≤ g) : IntSl w' x' v xs := by
 obtain ⟨A, c, hv, hi, h1, h2, h3, h4⟩ := h
 refine ⟨A, c, hv, fun h0 => ?_, h1, h2, h3, fun g off s hA => ?_⟩
 ·obtain ⟨b, off, hA, hb, hc⟩ := hi h0
  obtain ⟨⟨cs, hcs⟩, hne⟩ := h4 b off none hA
  have hk := t.block b hb (hS b cs hcs hne)
  exact ⟨b, off, hA, Nat.lt_of_lt_of_le hb t.size, fun k hk2 => (World.cell?_of_block (w := w) (a := ⟨b, off + k, none⟩) hk).trans (hc k hk2)⟩
 ·obtain ⟨⟨cs, hcs⟩, hne⟩ := h4 g off s hA
  refine ⟨⟨cs, t.keep hcs (hS g cs hcs hne)⟩, fun hh => ?_⟩
  rcases hx g hh with h | h
  ·exact hne h
  ·have := lt_of_heap hcs; omega
structure NfaAt (w : World) (nb base m : Nat) (cc rc : List Value) (nx : List (List Int)) (cv nv rv : Value) : Prop where
 blk : w.heap[nb]? = some (.cells #[cv, nv, rv] 148)
 low : base ≤ nb
 cls : w.ownsRow base 191 4 cv m cc
 nxt : ∃ vs, w.ownsRow base 31 1 nv m vs ∧ vs.length = nx.length ∧ ∀ (k : Nat) (v : Value) (xs : List Int), vs[k]? = some v → nx[k]? = some xs → IntSl w rv v xs
 rul : w.ownsRow base 3 1 rv m rc
def nfaS (nb : Nat) (cv nv rv : Value) (k : Nat) : Prop := k = nb ∨ cv.ownBlock = some k ∨ nv.ownBlock = some k ∨ rv.ownBlock = some k
theorem NfaAt.ext {w w' : World} {nb base m : Nat} {cc rc : List Value} {nx : List (List Int)} {cv nv rv : Value} (h : NfaAt w nb base m cc rc nx cv nv rv) (e : Ext w w') : NfaAt w' nb base m cc rc nx cv nv rv := by
 obtain ⟨vs, h1, h2, h3⟩ := h.nxt
 exact ⟨ext_block h.blk e, h.low, own_ext h.cls e, ⟨vs, own_ext h1 e, h2, fun k v xs hv hx => (h3 k v xs hv hx).keep (Turn.of_ext (S := fun _ => False) e) (fun _ _ _ _ h => h) rv (fun g hg => .inl hg)⟩, own_ext h.rul e⟩
structure St (W : World) (base nb xb : Nat) (xcs : Array Value) (cv nv rv : Value) (ns0 : List Value) (nx : List (List Int)) (V : World) (c' : Value) (mc : Nat) (cc' : List Value) (n' : Value) (mn : Nat) (ns' : List Value) (r' : Value) (mr : Nat) (rc' : List Value) : Prop where
 kb : V.heap[nb]? = some (.cells #[cv, nv, rv] 148)
 kx : V.heap[xb]? = some (.cells xcs 232)
 rc : V.ownsRow base 191 4 c' mc cc'
 rn : V.ownsRow base 31 1 n' mn ns'
 rr : V.ownsRow base 3 1 r' mr rc'
 kt : Turn (fun k => cv.ownBlock = some k ∨ nv.ownBlock = some k ∨ rv.ownBlock = some k) W V
 inn : ∀ (k : Nat) (v : Value) (xs : List Int), ns0[k]? = some v → nx[k]? = some xs → IntSl V r' v xs
section
variable {W V V' : World} {base nb xb mc mn mr : Nat} {xcs : Array Value} {cv nv rv c' n' r' v' : Value} {ns0 cc' ns' rc' zs : List Value} {nx : List (List Int)}
theorem St.ext (h : St W base nb xb xcs cv nv rv ns0 nx V c' mc cc' n' mn ns' r' mr rc') (e : Ext V V') : St W base nb xb xcs cv nv rv ns0 nx V' c' mc cc' n' mn ns' r' mr rc' :=
 ⟨ext_block h.kb e, ext_block h.kx e, own_ext h.rc e, own_ext h.rn e, own_ext h.rr e, h.kt.trans (Turn.of_ext e), fun k v xs hv hx => (h.inn k v xs hv hx).keep (Turn.of_ext (S := fun _ => False) e) (fun _ _ _ _ h => h) r' (fun _ hg => .inl hg)⟩
theorem not_int {T : TypeId} {n size : Nat} {v : Value} {xs : List Value} (hr : V.ownsRow base T size v n xs) (hT : 3 ≠ T) : ∀ g cs, V.heap[g]? = some (.cells cs 3) → r'.ownBlock ≠ some g → ¬ v.ownBlock = some g := fun g cs hcs _ hk => hT (by
 obtain ⟨cur, hcur⟩ := own_obj hr g hk
 rw [hcur] at hcs
 injection hcs with hcs
 injection hcs with _ hcs
 exact hcs.symm)
theorem St.appC (h : St W base nb xb xcs cv nv rv ns0 nx V cv mc cc' n' mn ns' r' mr rc') (ho : V'.ownsRow base 191 4 v' (mc + 1) (cc' ++ zs)) (hg : V.grownBy V' cv.ownBlock) : St W base nb xb xcs cv nv rv ns0 nx V' v' (mc + 1) (cc' ++ zs) n' mn ns' r' mr rc' :=
 ⟨grown_other h.rc hg (Ext.refl _) h.kb (by decide), grown_other h.rc hg (Ext.refl _) h.kx (by decide), ho, own_other h.rc hg (Ext.refl _) h.rn (by decide), own_other h.rc hg (Ext.refl _) h.rr (by decide),
   h.kt.trans (Turn.grown hg fun g hg _ => .inl hg), fun k v xs hv hx => (h.inn k v xs hv hx).keep (Turn.grown (S := fun g => cv.ownBlock = some g) hg fun g hg _ => hg) (not_int h.rc (by decide)) r' (fun g hg => .inl hg)⟩
theorem St.appN (h : St W base nb xb xcs cv nv rv ns0 nx V c' mc cc' nv mn ns' r' mr rc') (ho : V'.ownsRow base 31 1 v' (mn + 1) (ns' ++ zs)) (hg : V.grownBy V' nv.ownBlock) : St W base nb xb xcs cv nv rv ns0 nx V' c' mc cc' v' (mn + 1) (ns' ++ zs) r' mr rc' :=
 ⟨grown_other h.rn hg (Ext.refl _) h.kb (by decide), grown_other h.rn hg (Ext.refl _) h.kx (by decide), own_other h.rn hg (Ext.refl _) h.rc (by decide), ho, own_other h.rn hg (Ext.refl _) h.rr (by decide),
   h.kt.trans (Turn.grown hg fun g hg _ => .inr (.inl hg)), fun k v xs hv hx => (h.inn k v xs hv hx).keep (Turn.grown (S := fun g => nv.ownBlock = some g) hg fun g hg _ => hg) (not_int h.rn (by decide)) r' (fun g hg => .inl hg)⟩
theorem St.appR (h : St W base nb xb xcs cv nv rv ns0 nx V c' mc cc' n' mn ns' rv mr rc') (ho : V'.ownsRow base 3 1 v' (mr + 1) (rc' ++ zs)) (hg : V.grownBy V' rv.ownBlock) (hat : v'.ownBlock = rv.ownBlock ∨ v'.ownBlock = some V.heap.size) : St W base nb xb xcs cv nv rv ns0 nx V' c' mc cc' n' mn ns' v' (mr + 1) (rc' ++ zs) :=
 ⟨grown_other h.rr hg (Ext.refl _) h.kb (by decide), grown_other h.rr hg (Ext.refl _) h.kx (by decide), own_other h.rr hg (Ext.refl _) h.rc (by decide), own_other h.rr hg (Ext.refl _) h.rn (by decide), ho,
   h.kt.trans (Turn.grown hg fun g hg _ => .inr (.inr hg)), fun k v xs hv hx => (h.inn k v xs hv hx).keep (Turn.grown (S := fun g => rv.ownBlock = some g) hg fun g hg _ => hg) (fun g cs _ hne => hne) v' (fun g hg => by
    rcases hat with h | h
    ·exact .inl (h ▸ hg)
    ·rw [h] at hg; injection hg with hg; exact .inr (by omega))⟩
theorem St.eds (h : St W base nb xb xcs cv nv rv ns0 nx V c' mc cc' n' mn ns' r' mr rc') (hb : W.heap[nb]? = some (.cells #[cv, nv, rv] 148)) (hx : W.heap[xb]? = some (.cells xcs 232)) : ∃ x : EdS W nb xb, V = x.V := ⟨⟨V, h.kb.trans hb.symm, h.kx.trans hx.symm⟩, rfl⟩
theorem stores7 {m : Nat} {cc rc : List Value} (h : St W base nb xb xcs cv nv rv ns0 nx V c' (m + 1) cc n' (m + 1) (ns0 ++ [nil0]) r' (m + 1) rc) (hb : W.heap[nb]? = some (.cells #[cv, nv, rv] 148)) (hne : ∀ k, (cv.ownBlock = some k ∨ nv.ownBlock = some k ∨ rv.ownBlock = some k) → k ≠ nb) (hlow : base ≤ nb) (hnl : ns0.length = nx.length)
 (gc : c'.ownBlock = cv.ownBlock ∨ ∃ g, c'.ownBlock = some g ∧ W.heap.size ≤ g ∧ g < V'.heap.size) {V2 V3 : World} (gn : n'.ownBlock = nv.ownBlock ∨ ∃ g, n'.ownBlock = some g ∧ W.heap.size ≤ g ∧ g < V2.heap.size) (gr : r'.ownBlock = rv.ownBlock ∨ ∃ g, r'.ownBlock = some g ∧ W.heap.size ≤ g ∧ g < V3.heap.size) :
 Hid (NfaAt (put3 V nb c' n' r') nb base (m + 1) cc rc (nx ++ [[]]) c' n' r') ∧ Hid (Turn (nfaS nb cv nv rv) W (put3 V nb c' n' r')) ∧ Hid (∀ g, nfaS nb c' n' r' g → nfaS nb cv nv rv g ∨ W.heap.size ≤ g) ∧ Hid (∀ g, r'.ownBlock = some g → g < (put3 V nb c' n' r').heap.size) := by
 have hlt := lt_of_heap hb
 have T3 : Turn (fun k => k = nb) V (put3 V nb c' n' r') := put3_turn (S := fun k => k = nb) rfl _ _ _
 have fc : ∀ g, c'.ownBlock = some g → g ≠ nb := fun g hg => by
  rcases gc with h | ⟨k, h, h2, _⟩
  ·exact hne g (.inl (h ▸ hg))
  ·rw [h] at hg; injection hg with hg; omega
 have fn : ∀ g, n'.ownBlock = some g → g ≠ nb := fun g hg => by
  rcases gn with h | ⟨k, h, h2, _⟩
  ·exact hne g (.inr (.inl (h ▸ hg)))
  ·rw [h] at hg; injection hg with hg; omega
 have fr : ∀ g, r'.ownBlock = some g → g ≠ nb := fun g hg => by
  rcases gr with h | ⟨k, h, h2, _⟩
  ·exact hne g (.inr (.inr (h ▸ hg)))
  ·rw [h] at hg; injection hg with hg; omega
 refine ⟨zh ⟨put3_at h.kb _ _ _, hlow, own_keep h.rc fun g hg => T3.block g (own_old h.rc g hg) (fc g hg), ⟨_, own_keep h.rn fun g hg => T3.block g (own_old h.rn g hg) (fn g hg), by rw [List.length_append, List.length_append, hnl]; rfl, fun k v xs hv hx => ?_⟩, own_keep h.rr fun g hg => T3.block g (own_old h.rr g hg) (fr g hg)⟩,
  zh ((h.kt.mono fun k _ hk => .inr hk).trans (T3.mono fun k _ hk => .inl hk)), zh (fun g hg => ?_), zh (fun g hg => ?_)⟩
 ·have keep : ∀ {v : Value} {xs : List Int}, IntSl V r' v xs → IntSl (put3 V nb c' n' r') r' v xs := fun hi => hi.keep T3 (fun g cs hcs _ he => by
   subst he
   rw [h.kb] at hcs
   injection hcs with hcs
   injection hcs with _ hcs
   exact absurd hcs (by decide)) r' (fun g hg => .inl hg)
  by_cases hk : k < ns0.length
  ·rw [List.getElem?_append_left hk] at hv
   rw [List.getElem?_append_left (by omega)] at hx
   exact keep (h.inn k v xs hv hx)
  ·obtain rfl : k = ns0.length := by
    have := (List.getElem?_eq_some_iff.1 hv).1
    simp at this
    omega
   simp at hv
   rw [hnl] at hx
   simp at hx
   subst hv hx
   exact IntSl.nil _ _
 ·rcases hg with hg | hg | hg | hg
  ·exact .inl (.inl hg)
  ·rcases gc with h | ⟨k, h, h2, _⟩
   ·exact .inl (.inr (.inl (h ▸ hg)))
   ·rw [h] at hg; injection hg with hg; exact .inr (by omega)
  ·rcases gn with h | ⟨k, h, h2, _⟩
   ·exact .inl (.inr (.inr (.inl (h ▸ hg))))
   ·rw [h] at hg; injection hg with hg; exact .inr (by omega)
  ·rcases gr with h | ⟨k, h, h2, _⟩
   ·exact .inl (.inr (.inr (.inr (h ▸ hg))))
   ·rw [h] at hg; injection hg with hg; exact .inr (by omega)
 ·have := own_old h.rr g hg
  exact Nat.lt_of_lt_of_le this T3.size
end
theorem infoClass : (Tryz.prog.info? 191).map (fun i => (i.zero, i.size, i.bytes)) = some (some (.agg #[.int .u64 0, .int .u64 0, .int .u64 0, .int .u64 0]), 4, 32) := by kernel_rfl
theorem infoInts : (Tryz.prog.info? 31).map (fun i => (i.zero, i.size, i.bytes)) = some (some (.slice none 0 0), 1, 24) := by kernel_rfl
structure GrRd (w : World) (a b : Nat) (C : Option Addr) (d e : Nat) : Prop where
 p0 : w.cell? ⟨a, 0, none⟩ = some (.int .i64 0)
 p1 : w.cell? ⟨a, 1, none⟩ = some (.slice (some ⟨b, 0, none⟩) 2 d)
 p2 : w.cell? ⟨a, 2, none⟩ = some (.int .i64 0)
 p3 : w.cell? ⟨a, 3, none⟩ = some (.slice C 0 e)
 lp : a < w.heap.size
 r0 : w.cell? ⟨b, 0, none⟩ = some (.int .i64 0)
 r1 : w.cell? ⟨b, 1, none⟩ = some (.int .i64 1)
 lr : b < w.heap.size
theorem GrRd.ext {w w' : World} {a b : Nat} {C : Option Addr} {d e : Nat} (h : GrRd w a b C d e) (x : Ext w w') : GrRd w' a b C d e :=
 ⟨ext_cell h.p0 h.lp x, ext_cell h.p1 h.lp x, ext_cell h.p2 h.lp x, ext_cell h.p3 h.lp x, Nat.lt_of_lt_of_le h.lp x.size, ext_cell h.r0 h.lr x, ext_cell h.r1 h.lr x, Nat.lt_of_lt_of_le h.lr x.size⟩
def gramV (a c : Nat) : Value := .agg #[.int .i64 1, .int .i64 1, .int .i64 1, .slice (some ⟨a, 0, none⟩) 2 c]
structure GrAt (w : World) (g0 a b : Nat) (C : Option Addr) (c d e : Nat) : Prop where
 k0 : w.cell? ⟨g0, 0, none⟩ = some (.int .i64 1)
 k1 : w.cell? ⟨g0, 1, none⟩ = some (.int .i64 1)
 k2 : w.cell? ⟨g0, 2, none⟩ = some (.int .i64 1)
 k3 : w.cell? ⟨g0, 3, none⟩ = some (.slice (some ⟨a, 0, none⟩) 2 c)
 lg : g0 < w.heap.size
 rd : GrRd w a b C d e
theorem GrAt.ext {w w' : World} {g0 a b : Nat} {C : Option Addr} {c d e : Nat} (h : GrAt w g0 a b C c d e) (x : Ext w w') : GrAt w' g0 a b C c d e :=
 ⟨ext_cell h.k0 h.lg x, ext_cell h.k1 h.lg x, ext_cell h.k2 h.lg x, ext_cell h.k3 h.lg x, Nat.lt_of_lt_of_le h.lg x.size, h.rd.ext x⟩
theorem gr_enter (w : World) {a b : Nat} {C : Option Addr} {d e : Nat} (c : Nat) (h : GrRd w a b C d e) : ∃ g0 W, w.heap.size = g0 ∧ w.alloc (.cells #[.int .i64 1, .int .i64 1, .int .i64 1, .slice (some ⟨a, 0, none⟩) 2 c] 46) = W ∧ Ext w W ∧ GrAt W g0 a b C c d e := by
 refine ⟨_, _, rfl, rfl, (by repeat first | exact xr _ | refine xa ?_ _ | refine xm ?_ _ _ | refine xd ?_ | refine xn ?_ _ | refine xs ?_ (by simp <;> omega) _), ?_⟩
 have B := heap_alloc_new w (.cells #[.int .i64 1, .int .i64 1, .int .i64 1, .slice (some ⟨a, 0, none⟩) 2 c] 46)
 have b0 := cell_of_row _ _ 0 _ _ _ B
 have b1 := cell_of_row _ _ 1 _ _ _ B
 have b2 := cell_of_row _ _ 2 _ _ _ B
 have b3 := cell_of_row _ _ 3 _ _ _ B
 exact ⟨b0, b1, b2, b3, lt_of_heap B, h.ext (by repeat first | exact xr _ | refine xa ?_ _ | refine xm ?_ _ _ | refine xd ?_ | refine xn ?_ _ | refine xs ?_ (by simp <;> omega) _)⟩
theorem prod_copy (w : World) (v0 v1 : Value) : ∃ pb Wb W4, w.heap.size = pb ∧ w.alloc (.cells #[.int .i64 0, nil0] 92) = Wb ∧ (Wb.setCell ⟨pb, 0, none⟩ v0).setCell ⟨pb, 1, none⟩ v1 = W4 ∧ Wb.cell? ⟨pb, 0, none⟩ = some (.int .i64 0) ∧ Wb.cell? ⟨pb, 1, none⟩ = some nil0 ∧ (∀ k, Wb.frozen? ⟨pb, k, none⟩ = false) ∧ pb < Wb.heap.size ∧ W4.cell? ⟨pb, 0, none⟩ = some v0 ∧ W4.cell? ⟨pb, 1, none⟩ = some v1 ∧ pb < W4.heap.size ∧ Ext w W4 := by
 have B := heap_alloc_new w (.cells #[.int .i64 0, nil0] 92)
 have P := put2_at B v0 v1
 have b0 := cell_of_row _ _ 0 _ _ _ B
 have b1 := cell_of_row _ _ 1 _ _ _ B
 have c0 := cell_of_row _ _ 0 _ _ _ P
 have c1 := cell_of_row _ _ 1 _ _ _ P
 refine ⟨_, _, _, rfl, rfl, rfl, b0, b1, fun k => row_frozen B k, lt_of_heap B, c0, c1, lt_of_heap P, ?_⟩
 exact (put2_turn (S := fun k => k = w.heap.size) rfl v0 v1).ext ((by repeat first | exact xr _ | refine xa ?_ _ | refine xm ?_ _ _ | refine xd ?_ | refine xn ?_ _ | refine xs ?_ (by simp <;> omega) _) : Ext w (w.alloc (.cells #[.int .i64 0, nil0] 92))) (fun k hk => by omega)
set_option maxRecDepth 100000 in
set_option maxHeartbeats 4000000 in
theorem check_gram (a b : Nat) (C : Option Addr) (c d e : Nat) (w : World) (h : GrRd w a b C d e) : Calls Tryz.prog 100 #[gramV a c] w fun e w' => e = .returned (.int .i64 0) ∧ Ext w w' := by
 obtain ⟨g0, W, hg0, hW, X1, hat⟩ := gr_enter w c h
 have HX := zh X1
 have HG := zh hat
 clear h X1
 obtain ⟨k0, k1, k2, k3, lg, p0, p1, p2, p3, lp, r0, r1, lr⟩ := hat
 unfold gramV
 go_enter Tryz.func100, Tryz.ntmps100
 go_wp2_with fail
 try simp only [hg0]
 clear hW hg0 k0 k1 k2 k3 lg p0 p1 p2 p3 lp r0 r1 lr
 go_loopw [3] (fun i wr => (i = .int .i64 0 ∨ i = .int .i64 1 ∨ i = .int .i64 2) ∧ Hid (Ext W wr)) (fun i _ => 2 - (intOf i).toNat)
 case atStart => exact ⟨.inl rfl, zh (by repeat first | exact xr _ | refine xa ?_ _ | refine xm ?_ _ _ | refine xd ?_ | refine xn ?_ _ | refine xs ?_ (by simp <;> omega) _)⟩
 case round =>
  obtain ⟨hi, hx⟩ := hrel
  obtain ⟨k0, k1, k2, k3, lg, p0, p1, p2, p3, lp, r0, r1, lr⟩ := HG.out.ext hx.out
  rcases hi with rfl | rfl | rfl
  ·go_wp2_with fail
   go_roundw
   case rel => exact ⟨.inr (.inl rfl), hx⟩
   case measure => simp [intOf]
  ·go_wp2_with fail
   go_roundw
   case rel => exact ⟨.inr (.inr rfl), hx⟩
   case measure => simp [intOf]
  ·go_wp2_with fail
   clear k0 k1 k2 k3 lg p0 p1 p2 p3 lp r0 r1 lr
   go_loopw [4] (fun i wr => (i = .int .i64 0 ∨ i = .int .i64 1 ∨ i = .int .i64 2) ∧ Hid (Ext W wr)) (fun i _ => 2 - (intOf i).toNat)
   case atStart => exact ⟨.inl rfl, hx⟩
   case round =>
    clear hx
    obtain ⟨hi, hx⟩ := hrel
    obtain ⟨k0, k1, k2, k3, lg, p0, p1, p2, p3, lp, r0, r1, lr⟩ := HG.out.ext hx.out
    rcases hi with rfl | rfl | rfl
    ·obtain ⟨pb, Wb, W4, hpb, hWb, hW4, z0, z1, zf, zl, q0, q1, ql, X4⟩ := prod_copy wr (.int .i64 0) (.slice (some ⟨b, 0, none⟩) 2 d)
     have HX4 := zh X4
     have HQ : Hid (∀ w, Ext W4 w → w.cell? ⟨pb, 0, none⟩ = some (.int .i64 0) ∧ w.cell? ⟨pb, 1, none⟩ = some (.slice (some ⟨b, 0, none⟩) 2 d) ∧ pb < w.heap.size) := zh (fun w e => ⟨ext_cell q0 ql e, ext_cell q1 ql e, Nat.lt_of_lt_of_le ql e.size⟩)
     have HG4 := zh (HG.out.ext (hx.out.trans X4))
     clear X4
     go_upto_region 14 with fail
     try simp only [hpb, hWb, hW4]
     clear hpb hWb hW4 z0 z1 zf zl k0 k1 k2 k3 lg p0 p1 p2 p3 lp r0 r1 lr
     obtain ⟨k0, k1, k2, k3, lg, p0, p1, p2, p3, lp, r0, r1, lr⟩ := HG4.out
     go_wp2_with fail
     clear q0 q1 ql k0 k1 k2 k3 lg p0 p1 p2 p3 lp r0 r1 lr
     go_loopw [6] (fun i wr => (i = .int .i64 0 ∨ i = .int .i64 1 ∨ i = .int .i64 2) ∧ Hid (Ext W4 wr)) (fun i _ => 2 - (intOf i).toNat)
     case atStart => exact ⟨.inl rfl, zh (Ext.refl _)⟩
     case round =>
      obtain ⟨hi, hx2⟩ := hrel
      obtain ⟨q0, q1, ql⟩ := HQ.out _ hx2.out
      obtain ⟨k0, k1, k2, k3, lg, p0, p1, p2, p3, lp, r0, r1, lr⟩ := HG4.out.ext hx2.out
      rcases hi with rfl | rfl | rfl
      ·go_upto_region 19 with fail
       refine wp_region_bt (19) (pures_bt [0, 2] (softs_bt [1, 3, 4, 5, 6, 7, 8, 9, 10, 11, 12, 13, 14, 15, 16, 17, 18] .fin)) (by kernel_rfl) (by kernel_rfl) ?_
       refine bt_pures _ fun K hK => ?_; simp only [pick, nthC]; (repeat go_big_quiet_step (fail)); refine wpQuiet_nil (hK _ ?_); clear hK K
       refine bt_softs _ fun K hK => ?_; simp only [pick, nthC]; (repeat go_big_quiet_step (fail)); refine wpQuiet_nil (hK _ ?_); clear hK K
       (refine bt_fin ?_)
       go_wp2_with fail
       go_roundw
       case rel => exact ⟨.inr (.inl rfl), zh (hx2.out.trans (by repeat first | exact xr _ | refine xa ?_ _ | refine xm ?_ _ _ | refine xd ?_ | refine xn ?_ _ | refine xs ?_ (by simp <;> omega) _))⟩
       case measure => simp [intOf]
      ·go_upto_region 19 with fail
       refine wp_region_bt (19) (pures_bt [0, 2] (softs_bt [1, 3, 4, 5, 6, 7, 8, 9, 10, 11, 12, 13, 14, 15, 16, 17, 18] .fin)) (by kernel_rfl) (by kernel_rfl) ?_
       refine bt_pures _ fun K hK => ?_; simp only [pick, nthC]; (repeat go_big_quiet_step (fail)); refine wpQuiet_nil (hK _ ?_); clear hK K
       refine bt_softs _ fun K hK => ?_; simp only [pick, nthC]; (repeat go_big_quiet_step (fail)); refine wpQuiet_nil (hK _ ?_); clear hK K
       (refine bt_fin ?_)
       go_wp2_with fail
       go_roundw
       case rel => exact ⟨.inr (.inr rfl), zh (hx2.out.trans (by repeat first | exact xr _ | refine xa ?_ _ | refine xm ?_ _ _ | refine xd ?_ | refine xn ?_ _ | refine xs ?_ (by simp <;> omega) _))⟩
       case measure => simp [intOf]
      ·go_wp2_with fail
       go_roundw
       case rel => exact ⟨.inr (.inl rfl), zh (hx.out.trans (HX4.out.trans hx2.out))⟩
       case measure => simp [intOf]
    ·obtain ⟨pb, Wb, W4, hpb, hWb, hW4, z0, z1, zf, zl, q0, q1, ql, X4⟩ := prod_copy wr (.int .i64 0) (.slice C 0 e)
     have HX4 := zh X4
     have HG4 := zh (HG.out.ext (hx.out.trans X4))
     have HQ : Hid (∀ w, Ext W4 w → w.cell? ⟨pb, 0, none⟩ = some (.int .i64 0) ∧ w.cell? ⟨pb, 1, none⟩ = some (.slice C 0 e) ∧ pb < w.heap.size) := zh (fun w e => ⟨ext_cell q0 ql e, ext_cell q1 ql e, Nat.lt_of_lt_of_le ql e.size⟩)
     clear X4
     go_upto_region 14 with fail
     try simp only [hpb, hWb, hW4]
     clear hpb hWb hW4 z0 z1 zf zl k0 k1 k2 k3 lg p0 p1 p2 p3 lp r0 r1 lr
     obtain ⟨k0, k1, k2, k3, lg, p0, p1, p2, p3, lp, r0, r1, lr⟩ := HG4.out
     go_wp2_with fail
     clear q0 q1 ql k0 k1 k2 k3 lg p0 p1 p2 p3 lp r0 r1 lr
     go_loopw [6] (fun i wr => i = .int .i64 0 ∧ Hid (Ext W4 wr)) (fun i _ => 0)
     case atStart => exact ⟨rfl, zh (Ext.refl _)⟩
     case round =>
      obtain ⟨rfl, hx2⟩ := hrel
      obtain ⟨q0, q1, ql⟩ := HQ.out _ hx2.out
      obtain ⟨k0, k1, k2, k3, lg, p0, p1, p2, p3, lp, r0, r1, lr⟩ := HG4.out.ext hx2.out
      go_wp2_with fail
      go_roundw
      case rel => exact ⟨.inr (.inr rfl), zh (hx.out.trans (HX4.out.trans hx2.out))⟩
      case measure => simp [intOf]
    ·go_wp2_with fail
     go_ret
     exact ⟨rfl, HX.out.trans hx.out⟩
end Go.Proofs.YthpmncdfaggkiaaGreat
