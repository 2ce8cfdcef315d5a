/- TreeNames: the walk. -/
import Derived.Test.YtggmljookcmnkaaN3
import Derived.Test.YtggmljookcmnkaaG3
import Derived.Test.YtggmljookcmnkaaD5
import Derived.Test.YtggmljookcmnkaaB3
import Derived.Test.YtggmljookcmnkaaB6
import Derived.Test.YtggmljookcmnkaaE3
import Derived.WalkSpells
import Derived.WalkLawsBesides
import Derived.BigRegion
import Derived.Deep.RegionWith
import Derived.Deep.QuietTactic
import Derived.Deep.DeepCutAuto
import Derived.Deep.RegionHeld3
import Derived.Deep.RegionLaw
import Derived.BigQuiet
import Derived.Lib.Hide
namespace Go.Proofs.Ytggmljookcmnkaa
open Go.RowKit
attribute [local go_sem] more_drew more_drewN more_size more_cell more_frozen more_setCell drew_more drewN_more lt_add_r lt_add_r2 lt_add_r3 lt_add_r4 lt_add_r5 lt_add_r6 lt_add_r7 lt_add_r8 lt_add_r9 lt_add_r10 lt_self_r lt_self_r2

theorem not_tree_nil : ¬ Tree (nds []) := fun T => absurd T.pos (by decide)
theorem ps_nil (w : World) : PS w none 0 [] := ⟨Prts.nil, fun p hp => (by cases hp), ⟨by decide, fun j => by unfold kc; simp [nds]⟩, Nat.le_refl _, by omega, fun _ => rfl⟩
/-- a row of four parts of the call's own -/
theorem four {qs : List Prt} {l : List Nd} (h : nds qs = l) (hl : l.length = 4) : qs.length = 4 := by rw [← nds_length, h, hl]
theorem at_nds {w : World} {base c g : Nat} {qs : List Prt} {l : List Nd} (h : OwnP w base (some ⟨g, 0, none⟩) c qs) (hn : nds qs = l) {j : Nat} {n : Nd} (hj : l[j]? = some n) :
    w.cell? ⟨g, j * 8 + 2, none⟩ = some (.int .i64 n.lo) ∧ w.cell? ⟨g, j * 8 + 4, none⟩ = some (.int .i64 n.hi) ∧ w.cell? ⟨g, j * 8 + 7, none⟩ = some (.int .u64 n.met) := by
  obtain ⟨p, hp, rfl⟩ := nds_get' (show (nds qs)[j]? = some n by rw [hn]; exact hj)
  have := h.at hp
  exact ⟨this.lo, this.hi, this.met⟩
set_option maxRecDepth 100000 in
set_option maxHeartbeats 8000000 in
theorem treeNames_any (W : World) : Calls Try.prog 6 #[] W fun e w' => e = .returned (.bool true) ∧ Ext W w' := by
  go_enter Try.func6, Try.ntmps6
  go_wp2_with fail
  refine (example16_any W).mono ?_
  rintro e w1 ⟨rfl, _, hp1, hx1⟩
  obtain ⟨b, hb⟩ : ∃ b, W.heap.size = b := ⟨_, rfl⟩
  rw [hb] at hp1 ⊢
  have P1 : Hid (PS w1 (some ⟨b + 1 + 1, 0, none⟩) 4 (exP b)) := Lib.hid hp1
  have X1 : Hid (Ext W w1) := Lib.hid hx1
  have TN : Hid (Tree (nds (exP b))) := Lib.hid (by rw [exP_nds]; exact exN_tree)
  have FD1 := Lib.hid (exN_find b)
  have FD0 := Lib.hid (exN_nofind b)
  clear hp1 hx1 hb
  -- Find, twice
  have C1 := Lib.hid (Find_yes 1 0 P1.out TN.out)
  rw [FD1.out, show max (0 : Int) 1 = 1 from by decide] at C1
  go_wp2_with fail
  refine C1.out.mono ?_
  rintro e w2 ⟨rfl, hx⟩
  have Y2 := Lib.hid hx
  clear hx C1
  have C2 := Lib.hid (Find_yes 0 0 (P1.out.ext Y2.out) TN.out)
  rw [FD0.out, show max (0 : Int) (-1) = 0 from by decide] at C2
  go_wp2_with fail
  refine C2.out.mono ?_
  rintro e w3 ⟨rfl, hx⟩
  have Y3 := Lib.hid (Y2.out.trans hx)
  clear hx C2 Y2
  -- Copy
  have C3 := Lib.hid (copy_any _ 4 (exP b) w3 (P1.out.ext Y3.out).parts (P1.out.ext Y3.out).oks P1.out.few)
  go_wp2_with fail
  refine C3.out.mono ?_
  rintro e w4 ⟨A4, c4, q4, rfl, hn4, ho4, hx⟩
  have hl4 : q4.length = 4 := four hn4 rfl
  obtain ⟨g4, rfl, hg4, hg4'⟩ := row_block ho4.row (by omega)
  have O4 := Lib.hid ho4
  have N4 : Hid (nds q4 = exN) := Lib.hid hn4
  have G4 := Lib.hid (Nat.le_trans (X1.out.trans Y3.out).size hg4)
  have L4 := Lib.hid hl4
  have G41 := Lib.hid (Nat.le_trans Y3.out.size hg4)
  have hc4 := ho4.cells.2.1
  rw [hl4] at hc4 ⊢
  have Y4 := Lib.hid (Y3.out.trans hx)
  clear hx C3 Y3 hn4 ho4 hg4 hg4' hl4
  go_wp2_with fail
  refine (lives16_any w4).mono ?_
  rintro e w5 ⟨rfl, hx⟩
  have Y5 := Lib.hid (Y4.out.trans hx)
  have O5 := Lib.hid (O4.out.ext hx)
  clear hx Y4 O4
  -- bad[2].To = 3
  obtain ⟨p2, hp2, hp2n⟩ := nds_get' (show (nds q4)[2]? = some ⟨0, 3, 0, 0, 2, 3, [], 0⟩ by rw [N4.out]; rfl)
  have hat := O5.out.at hp2
  have d4 := hat.hi
  have f4 := hat.frozen (2 * 8 + 4)
  have l4 := hat.lt
  have f2 := O5.out.fine p2 (List.mem_of_getElem? hp2)
  have O6 := Lib.hid (O5.out.put (q' := ⟨{ p2.nd with hi := 3 }, p2.kA, p2.kc⟩) (u := .int .i64 3) hp2 (r := 4) (by omega) rfl ⟨rfl, rfl, rfl⟩ ⟨f2.sym, f2.kind, f2.lo, f2.inn, by show I64 (3 : Int); unfold I64; omega, f2.look, f2.met, f2.ks⟩)
  have N6 : Hid (nds (q4.set 2 ⟨{ p2.nd with hi := 3 }, p2.kA, p2.kc⟩) = exB3) := Lib.hid (by
    unfold nds
    rw [List.map_set]
    show (nds q4).set 2 _ = _
    rw [N4.out, hp2n]
    rfl)
  obtain ⟨q6, hq6⟩ : ∃ q6, q4.set 2 ⟨{ p2.nd with hi := 3 }, p2.kA, p2.kc⟩ = q6 := ⟨_, rfl⟩
  rw [hq6] at O6 N6
  have L6 : Hid (q6.length = 4) := Lib.hid (four N6.out rfl)
  obtain ⟨w6, hw6⟩ : ∃ w6, w5.setCell ⟨g4, 2 * 8 + 4, none⟩ (.int .i64 3) = w6 := ⟨_, rfl⟩
  rw [hw6] at O6
  have Z6 : Hid (Ext W w6) := Lib.hid (by rw [← hw6]; exact (X1.out.trans Y5.out).setCell G4.out _)
  have Y6 : Hid (Ext w1 w6) := Lib.hid (by rw [← hw6]; exact Y5.out.setCell G41.out _)
  clear hat hp2 hp2n f2 hq6 O5
  go_upto_region 8 with fail
  clear hw6 d4 f4 l4
  -- Sub
  have C7 := Lib.hid (Sub_yes 1 3 (P1.out.ext Y6.out) TN.out (by rw [exP_nds]; exact exN_part))
  go_wp2_with fail
  refine C7.out.mono ?_
  rintro e w7 ⟨A7, c7, q7, rfl, hn7, ho7, hx⟩
  rw [exP_nds, exN_sub] at hn7
  have N7 := Lib.hid hn7
  have O7 := Lib.hid ho7
  have l7 : q7.length = 2 := by rw [← nds_length, hn7]; rfl
  have L7 := Lib.hid l7
  have F7 : Hid (Few q7) := Lib.hid (Few.of_tree' hn7 exNs_tree (by decide))
  have Y7 := Lib.hid (Y6.out.trans hx)
  have O6a := Lib.hid (O6.out.ext hx)
  rw [l7]
  clear C7 hn7 ho7 hx l7 O6
  -- Put
  have C8 := Lib.hid (Put_ok 1 3 (P1.out.ext Y7.out) TN.out (O7.out.ps F7.out) (by rw [N7.out]; exact exNs_tree) (by rw [N7.out, exP_nds]; exact exN_fits) (by rw [exP_nds]; exact exN_part))
  rw [N7.out, exP_nds, exN_put, L7.out] at C8
  go_wp2_with fail
  refine C8.out.mono ?_
  rintro e w8 ⟨A8, c8, q8, rfl, hn8, ho8, hx⟩
  have N8 := Lib.hid hn8
  have O8 := Lib.hid ho8
  have l8 : q8.length = 4 := four hn8 rfl
  have L8 := Lib.hid l8
  have Y8 := Lib.hid (Y7.out.trans hx)
  have O6b := Lib.hid (O6a.out.ext hx)
  have O7b := Lib.hid (O7.out.ext hx)
  rw [l8]
  clear C8 hn8 ho8 hx l8 O6a O7
  have C9 := Lib.hid (Put_bad 3 (P1.out.ext Y8.out) TN.out (O7b.out.ps F7.out) (by rw [N7.out]; exact exNs_tree) (by rw [N7.out, exP_nds]; exact exN_misfit))
  rw [L7.out] at C9
  go_wp2_with fail
  refine C9.out.mono ?_
  rintro e w9 ⟨rfl, hx⟩
  have Y9 := Lib.hid (Y8.out.trans hx)
  have O6c := Lib.hid (O6b.out.ext hx)
  have O8c := Lib.hid (O8.out.ext hx)
  clear C9 hx O6b O8 O7b
  -- Edit, twice
  have NR : Hid (∀ p ∈ exP b, Near p.nd) := Lib.hid (fun p hp => exN_near p.nd (by rw [← exP_nds b]; exact List.mem_map.2 ⟨p, hp, rfl⟩))
  have CA := Lib.hid (edit_any _ 4 (exP b) 1 0 2 4 w9 (P1.out.ext Y9.out) TN.out (by unfold Lt30; omega) (by unfold Lt30; omega) (by unfold Lt30; omega) (by omega) (by omega) (by omega) (by omega) NR.out)
  go_wp2_with fail
  refine CA.out.mono ?_
  rintro e wa ⟨xo, hxo, Aa, ca, qa, rfl, hna, hoa, hx⟩
  rw [exP_nds] at hxo
  obtain rfl := EditedR.one exN_tree hxo (exX_edit 4 (by decide))
  have Na := Lib.hid hna
  have la : qa.length = 4 := four hna rfl
  obtain ⟨ga, rfl, _, _⟩ := row_block hoa.row (by omega)
  have hca := hoa.cells.2.1
  have Oa := Lib.hid hoa
  have La := Lib.hid la
  have Ya := Lib.hid (Y9.out.trans hx)
  have O6d := Lib.hid (O6c.out.ext hx)
  have O8d := Lib.hid (O8c.out.ext hx)
  rw [la] at hca ⊢
  clear CA hxo hna hoa hx la O6c O8c
  have CB := Lib.hid (edit_any _ 4 (exP b) 0 0 2 1 wa (P1.out.ext Ya.out) TN.out (by unfold Lt30; omega) (by unfold Lt30; omega) (by unfold Lt30; omega) (by omega) (by omega) (by omega) (by omega) NR.out)
  go_wp2_with fail
  refine CB.out.mono ?_
  rintro e wb ⟨yo, hyo, Ab, cb, qb, rfl, hnb, hob, hx⟩
  rw [exP_nds] at hyo
  obtain rfl := EditedR.one exN_tree hyo exY_edit
  have Nb := Lib.hid hnb
  have lb : qb.length = 4 := four hnb rfl
  obtain ⟨gb, rfl, _, _⟩ := row_block hob.row (by omega)
  have hcb := hob.cells.2.1
  have Ob := Lib.hid hob
  have Yb := Lib.hid (Ya.out.trans hx)
  have O6e := Lib.hid (O6d.out.ext hx)
  have O8e := Lib.hid (O8d.out.ext hx)
  have Oab := Lib.hid (Oa.out.ext hx)
  rw [lb] at hcb ⊢
  clear CB hyo hnb hob hx lb O6d O8d Oa
  -- Move
  have CC := Lib.hid (move_any _ 4 (exP b) (-1) wb (P1.out.ext Yb.out) (by rw [exP_nds]; exact exN_nearN) (by unfold I64; omega))
  go_wp2_with fail
  refine CC.out.mono ?_
  rintro e wc hmv
  obtain ⟨rfl, hx⟩ := hmv.2 (by rw [exP_nds]; exact exN_move)
  have Yc := Lib.hid (Yb.out.trans hx)
  have O6f := Lib.hid (O6e.out.ext hx)
  have O8f := Lib.hid (O8e.out.ext hx)
  have Oac := Lib.hid (Oab.out.ext hx)
  have Obc := Lib.hid (Ob.out.ext hx)
  clear CC hmv hx O6e O8e Oab Ob
  -- Check
  have CD := Lib.hid (check_no (O6f.out.ps (P1.out.few.of_lens (by rw [N6.out]; rfl))) (by rw [N6.out]; exact exB3_no))
  rw [L6.out] at CD
  go_wp2_with fail
  refine CD.out.mono ?_
  rintro e wd ⟨rfl, hx⟩
  have Yd := Lib.hid (Yc.out.trans hx)
  have O8g := Lib.hid (O8f.out.ext hx)
  have Oad := Lib.hid (Oac.out.ext hx)
  have Obd := Lib.hid (Obc.out.ext hx)
  clear CD hx O6f O8f Oac Obc
  have CE := Lib.hid (check_no (ps_nil wd) not_tree_nil)
  go_wp2_with fail
  refine CE.out.mono ?_
  rintro e we ⟨rfl, hx⟩
  have Ye := Lib.hid (Yd.out.trans hx)
  have O8h := Lib.hid (O8g.out.ext hx)
  have Oae := Lib.hid (Oad.out.ext hx)
  have Obe := Lib.hid (Obd.out.ext hx)
  clear CE hx O8g Oad Obd
  have CF := Lib.hid (sameT_any _ _ q8 (exP b) c8 4 we O8h.out.cells.1 O8h.out.oks (P1.out.ext Ye.out).parts (P1.out.ext Ye.out).oks (by rw [L8.out]; omega) (by show 4 ≤ 1000000; omega))
  rw [show decide (nds q8 = nds (exP b)) = true from decide_eq_true (by rw [N8.out, exP_nds]), L8.out] at CF
  go_wp2_with fail
  refine CF.out.mono ?_
  rintro e wf ⟨rfl, hx⟩
  have Yf := Lib.hid (Ye.out.trans hx)
  have Oaf := Lib.hid (Oae.out.ext hx)
  have Obf := Lib.hid (Obe.out.ext hx)
  clear CF hx O8h Oae Obe
  obtain ⟨x02, x04, x07⟩ := at_nds Oaf.out Na.out (j := 0) rfl
  obtain ⟨x12, x14, x17⟩ := at_nds Oaf.out Na.out (j := 1) rfl
  obtain ⟨x22, x24, x27⟩ := at_nds Oaf.out Na.out (j := 2) rfl
  obtain ⟨x32, x34, x37⟩ := at_nds Oaf.out Na.out (j := 3) rfl
  obtain ⟨y02, y04, y07⟩ := at_nds Obf.out Nb.out (j := 0) rfl
  obtain ⟨y12, y14, y17⟩ := at_nds Obf.out Nb.out (j := 1) rfl
  dsimp only at x02 x04 x07 x12 x14 x17 x22 x24 x27 x32 x34 x37 y02 y04 y07 y12 y14 y17
  have lga : ga < wf.heap.size := by obtain ⟨g', hg', _, h⟩ := row_block Oaf.out.row (by rw [La.out]; omega); injection hg' with hg'; injection hg' with hg'; omega
  have lgb : gb < wf.heap.size := by obtain ⟨g', hg', _, h⟩ := row_block Obf.out.row (by rw [four Nb.out rfl]; omega); injection hg' with hg'; injection hg' with hg'; omega
  -- Path
  have CG := Lib.hid (Path_yes 2 _ (P1.out.ext Yf.out) TN.out (by rw [exP_nds]; exact exN_way) (by show 2 < 4; omega))
  go_wp2_with fail
  refine CG.out.mono ?_
  rintro e wg ⟨Ag, cg, rfl, hog, hx⟩
  have Yg := Lib.hid (Yf.out.trans hx)
  have Og := Lib.hid hog
  have Xg := Lib.hid hx
  clear CG hx hog x02 x04 x07 x12 x14 x17 x22 x24 x27 x32 x34 x37 y02 y04 y07 y12 y14 y17 lga lgb
  go_wp2_with fail
  refine (same_any Ag _ [-3, 1, 0] [-3, 1, 0] cg 3 _ (Og.out.ints.1.ext (by repeat (first | exact Ext.refl _ | refine Ext.alloc ?_ _ | refine Ext.more ?_ _ _ | refine Ext.drew ?_ | refine Ext.drewN ?_ _ | refine Ext.setCell ?_ (by simp <;> omega) _))) (Ints.of_block (heap_alloc_new wg _) rfl) (by decide) (by decide)).mono ?_
  rintro e wh ⟨rfl, hx⟩
  have Yh := Lib.hid ((Yg.out.alloc _).trans hx)
  have Xh := Lib.hid ((Xg.out.alloc _).trans hx)
  clear hx Og
  -- Parents
  have CI := Lib.hid (Parents_yes (P1.out.ext Yh.out) TN.out)
  go_wp2_with fail
  refine CI.out.mono ?_
  rintro e wi ⟨us, hus, Ai, ci, rfl, hoi, hx⟩
  rw [exP_nds] at hus
  obtain rfl := ParOk.one exN_tree hus exN_pars
  have Yi := Lib.hid (Yh.out.trans hx)
  have Xi := Lib.hid (Xh.out.trans hx)
  have Oi := Lib.hid hoi
  clear CI hx hoi hus
  go_wp2_with fail
  refine (same_any Ai _ [-1, 0, 1, 0] [-1, 0, 1, 0] ci 4 _ (Oi.out.ints.1.ext (by repeat (first | exact Ext.refl _ | refine Ext.alloc ?_ _ | refine Ext.more ?_ _ _ | refine Ext.drew ?_ | refine Ext.drewN ?_ _ | refine Ext.setCell ?_ (by simp <;> omega) _))) (Ints.of_block (heap_alloc_new wi _) rfl) (by decide) (by decide)).mono ?_
  rintro e wj ⟨rfl, hx⟩
  have Yj := Lib.hid ((Yi.out.alloc _).trans hx)
  have Xj := Lib.hid ((Xi.out.alloc _).trans hx)
  clear hx Oi
  -- End
  have CK := Lib.hid (End_yes 1 3 (P1.out.ext Yj.out) TN.out (by rw [exP_nds]; exact exN_part))
  go_wp2_with fail
  refine CK.out.mono ?_
  rintro e wk ⟨rfl, hx⟩
  have Yk := Lib.hid (Yj.out.trans hx)
  have Xk := Lib.hid (Xj.out.trans hx)
  clear CK hx
  -- Stale
  have PSX : Hid (PS wk (some ⟨ga, 0, none⟩) ca qa) := Lib.hid ((Oaf.out.ext Xk.out).ps (P1.out.few.of_lens (by rw [Na.out]; rfl)))
  have TX : Hid (Tree (nds qa)) := Lib.hid (by rw [Na.out]; exact exX_tree)
  have CL := Lib.hid (stale_any _ ca qa wk PSX.out TX.out)
  rw [La.out] at CL
  go_wp2_with fail
  refine CL.out.mono ?_
  rintro e wl ⟨st, hst, gl, rfl, hml, _, hx⟩
  rw [Na.out] at hst
  obtain rfl := StaleOk.one exX_tree hst exX_stale
  have Yl := Lib.hid (Yk.out.trans hx)
  have Xl := Lib.hid hx
  have Ml := Lib.hid hml
  clear CL hx hml hst
  go_wp2_with fail
  refine (same_bools _ _ [true, true, true, false] 4 4 _ ((Bls.of_block Ml.out).ext (by repeat (first | exact Ext.refl _ | refine Ext.alloc ?_ _ | refine Ext.more ?_ _ _ | refine Ext.drew ?_ | refine Ext.drewN ?_ _ | refine Ext.setCell ?_ (by simp <;> omega) _))) (Bls.of_block (heap_alloc_new wl _)) (by decide)).mono ?_
  rintro e wm ⟨rfl, hx⟩
  have Ym := Lib.hid ((Yl.out.alloc _).trans hx)
  have Xm := Lib.hid ((Xl.out.alloc _).trans hx)
  clear hx Ml
  -- Bare, Edit without a bit
  have CN := Lib.hid (bare_yes _ ca qa wm (PSX.out.ext Xm.out) TX.out)
  rw [La.out, Na.out, exX_bare] at CN
  go_wp2_with fail
  refine CN.out.mono ?_
  rintro e wn ⟨An, cn, qn, rfl, hnn, hon, hx⟩
  have Yn := Lib.hid (Ym.out.trans hx)
  have Nn := Lib.hid hnn
  have On := Lib.hid hon
  have ln : qn.length = 4 := four hnn rfl
  have Ln := Lib.hid ln
  rw [ln]
  clear CN hx hnn hon ln
  have CO := Lib.hid (edit_any _ 4 (exP b) 1 0 2 0 wn (P1.out.ext Yn.out) TN.out (by unfold Lt30; omega) (by unfold Lt30; omega) (by unfold Lt30; omega) (by omega) (by omega) (by omega) (by omega) NR.out)
  go_wp2_with fail
  refine CO.out.mono ?_
  rintro e wo ⟨zo, hzo, Ao, co, qo, rfl, hno, hoo, hx⟩
  rw [exP_nds] at hzo
  obtain rfl := EditedR.one exN_tree hzo (exX_edit 0 (by decide))
  have Yo := Lib.hid (Yn.out.trans hx)
  have On2 := Lib.hid (On.out.ext hx)
  have No := Lib.hid hno
  have Oo := Lib.hid hoo
  have lo : qo.length = 4 := four hno rfl
  have Lo := Lib.hid lo
  rw [lo]
  clear CO hx hno hoo hzo lo On
  have CP := Lib.hid (sameT_any _ _ qn qo cn co wo On2.out.cells.1 On2.out.oks Oo.out.cells.1 Oo.out.oks (by rw [Ln.out]; omega) (by rw [Lo.out]; omega))
  rw [show decide (nds qn = nds qo) = true from decide_eq_true (by rw [Nn.out, No.out]), Ln.out, Lo.out] at CP
  go_wp2_with fail
  refine CP.out.mono ?_
  rintro e wp ⟨rfl, hx⟩
  have Yp := Lib.hid (Yo.out.trans hx)
  clear CP hx
  go_wp2_with fail
  go_ret
  exact ⟨rfl, X1.out.trans Yp.out⟩
end Go.Proofs.Ytggmljookcmnkaa
