/- The contract of viewportref16.Edit: the walk. -/
import Derived.Test.YtggmljookcmnkaaN8
import Derived.WalkSpells
import Derived.WalkLawsBesides
import Derived.BigRegion
import Derived.Deep.RegionWith
import Derived.Deep.QuietTactic
import Derived.Deep.DeepCutAuto
import Derived.Deep.RegionHeld3
import Derived.Deep.RegionLaw
import Derived.BigQuiet
import Derived.Lib.Hide
namespace Go.Proofs.Ytggmljookcmnkaa
open Go.RowKit
attribute [local go_sem] more_drew more_drewN more_size more_cell more_frozen more_setCell drew_more drewN_more lt_add_r lt_add_r2 lt_add_r3 lt_add_r4 lt_add_r5 lt_add_r6 lt_add_r7 lt_add_r8 lt_add_r9 lt_add_r10 lt_self_r lt_self_r2

theorem lt30 {x : Int} (h : Lt30' x) : Lt30 x := h
set_option maxRecDepth 100000 in
set_option maxHeartbeats 16000000 in
theorem rEdit_yes (A : Option Addr) (c : Nat) (ps : List Prt) (a d i bit : Int) (w : World) (h : PS w A c ps) (T : Tree (nds ps)) (ha : Lt30 a) (hd : Lt30 d) (hi : Lt30 i) (ha0 : 0 ≤ a) (hd0 : 0 ≤ d) (hi0 : 0 ≤ i) (hb : 0 ≤ bit ∧ bit ≤ 18446744073709551615) (hn : ∀ p ∈ ps, Near p.nd) :
    Calls Try.prog 61 #[.slice A ps.length c, .agg #[.int .i64 a, .int .i64 d, .int .i64 i], .int .u64 bit] w fun e w' => ∃ out, EditedR ⟨a, d, i, bitOr bit⟩ (nds ps) out ∧ PartsRet w out e w' := by
  have hl := h.few.len
  have hp := T.pos
  rw [nds_length] at hp
  have S := Lib.hid h
  have HT := Lib.hid T
  have HN := Lib.hid hn
  have HHA := Lib.hid ha
  have HHD := Lib.hid hd
  have HHI := Lib.hid hi
  have HBT := Lib.hid hb
  have z1 : decide (a < 0) = false := decide_eq_false (by omega)
  have z2 : decide (d < 0) = false := decide_eq_false (by omega)
  have z3 : decide (i < 0) = false := decide_eq_false (by omega)
  have HA0 := Lib.hid ha0
  have HD0 := Lib.hid hd0
  have HI0 := Lib.hid hi0
  clear h T hn ha hd hi hb ha0 hd0 hi0
  obtain ⟨be, hbe⟩ : ∃ be, w.heap.size = be := ⟨_, rfl⟩
  obtain ⟨W1, hW1⟩ : ∃ W1, w.alloc (.cells #[.int .i64 a, .int .i64 d, .int .i64 i] 63) = W1 := ⟨_, rfl⟩
  have X1 : Hid (Ext w W1) := Lib.hid (by rw [← hW1]; exact (by repeat (first | exact Ext.refl _ | refine Ext.alloc ?_ _ | refine Ext.more ?_ _ _ | refine Ext.drew ?_ | refine Ext.drewN ?_ _ | refine Ext.setCell ?_ (by simp <;> omega) _)))
  have BE : Hid (W1.heap[be]? = some (.cells #[.int .i64 a, .int .i64 d, .int .i64 i] 63)) := Lib.hid (by rw [← hW1, ← hbe]; exact heap_alloc_new _ _)
  have HBEW : Hid (be < W1.heap.size) := Lib.hid (lt_of_heap BE.out)
  go_enter Try.func61, Try.ntmps61
  go_upto_region 1 with fail
  clear hW1 hbe
  go_wp2_with fail
  refine (rcheck_ok (S.out.ext X1.out) HT.out).mono ?_
  rintro e w1 ⟨rfl, hx1⟩
  have HX1 := Lib.hid hx1
  obtain ⟨e0, e1, e2, el⟩ := ed_cells (ext_block BE.out hx1)
  clear hx1
  go_wp2_with fail
  refine (rcopy_any (S.out.ext (X1.out.trans HX1.out))).mono ?_
  rintro e w2 ⟨A2, c2, qs, rfl, hnq, ho, hx⟩
  have hql : qs.length = ps.length := by rw [← nds_length, hnq, nds_length]
  obtain ⟨g, rfl, hg1, hg2⟩ := row_block ho.row (by omega)
  have HBG : Hid (w.heap.size ≤ g) := Lib.hid (Nat.le_trans (X1.out.trans HX1.out).size hg1)
  have HEG : Hid (be ≠ g) := Lib.hid (by have := HBEW.out; have := HX1.out.size; omega)
  have HO2 := Lib.hid (ho.base (X1.out.trans HX1.out).size)
  have HX2 := Lib.hid (HX1.out.trans hx)
  have HQL := Lib.hid hql
  have HNQ := Lib.hid hnq
  have hcp := ho.cells.2.1
  have BE2 := Lib.hid (ext_block (ext_block BE.out HX1.out) hx)
  rw [hql] at hcp ⊢
  clear hql hnq ho hx hg1 hg2 e0 e1 e2 el
  have hmn : wrap64 ((ps.length : Int) - 1) = (ps.length : Int) - 1 := IntWalk.wrap64_in _ (by omega)
  go_wp2_with fail
  clear hmn
  go_loopw [8] (fun v wi => ∃ (k : Nat) (os : List Prt), k ≤ ps.length ∧ os.length = ps.length ∧ v = .int .i64 ((k : Int) - 1) ∧ Hid (OwnP wi w.heap.size (some ⟨g, 0, none⟩) c2 os) ∧ Hid (EditTo ⟨a, d, i, bitOr bit⟩ (nds ps) k (nds os)) ∧ Hid (∀ q ∈ os, -8589934592 ≤ q.nd.hi ∧ q.nd.hi ≤ 8589934592) ∧
    Hid (wi.heap[be]? = some (.cells #[.int .i64 a, .int .i64 d, .int .i64 i] 63)) ∧ Hid (Ext w wi)) (fun v _ => (intOf v + 1).toNat)
  case atStart =>
    refine ⟨ps.length, qs, Nat.le_refl _, HQL.out, rfl, HO2, Lib.hid (by rw [HNQ.out, ← nds_length ps]; exact EditTo.first _ _), Lib.hid (fun q hq => ?_), BE2, Lib.hid (X1.out.trans HX2.out)⟩
    have hm : q.nd ∈ nds ps := by rw [← HNQ.out]; exact List.mem_map_of_mem hq
    obtain ⟨p, hp, he⟩ := List.mem_map.1 hm
    have := (HN.out p hp).hi
    rw [he] at this
    unfold Lt30' at this
    omega
  case round =>
    obtain ⟨k, os, hk, hol, rfl, ho, hE, hHi, hBE, hx⟩ := hrel
    clear HO2 HX2 BE2 HX1 HNQ HQL
    rcases (show k = 0 ∨ 0 < k by omega) with rfl | k0
    · have q0 : decide ((0 : Int) ≤ ((0 : Nat) : Int) - 1) = false := by decide
      have q1 : decide ((0 : Int) ≤ -1) = false := by decide
      have OLN := Lib.hid hol
      go_wp2_with fail
      go_ret
      exact ⟨_, hE.out.last, some ⟨g, 0, none⟩, c2, os, by rw [OLN.out]; rfl, rfl, ho.out, hx.out⟩
    · obtain ⟨j, rfl⟩ : ∃ j, k = j + 1 := ⟨k - 1, by omega⟩
      rw [show ((j + 1 : Nat) : Int) - 1 = (j : Int) by omega]
      have hjp : j < ps.length := by omega
      obtain ⟨p, hp⟩ : ∃ p, ps[j]? = some p := ⟨_, List.getElem?_eq_getElem hjp⟩
      obtain ⟨q, hq, hqn⟩ := nds_get' (hE.out.ahead j p.nd (nds_get hp) (by omega))
      have hnr := HN.out p (List.mem_of_getElem? hp)
      have hsy := S.out.oks p (List.mem_of_getElem? hp)
      have hT0 : 0 ≤ maxTo (nds os) p.nd.kids ∧ maxTo (nds os) p.nd.kids ≤ 8589934592 := ⟨maxTo_nonneg _ _, maxTo_le _ (by omega) fun x hx => by
        unfold hiAt
        cases hc : (nds os)[x.toNat]? with
        | none => show (0 : Int) ≤ _; omega
        | some u =>
          obtain ⟨u', hu, rfl⟩ := nds_get' hc
          exact (hHi.out u' (List.mem_of_getElem? hu)).2⟩
      have hbd := edited_bd (om := bitOr bit) HHA.out HHD.out HHI.out hnr hT0
      have hsx := start_in (om := bitOr bit) (lt30 hnr.lo) HHA.out HHD.out HHI.out
      have hsn := start_in (om := bitOr bit) (lt30 hnr.inn) HHA.out HHD.out HHI.out
      have heh := end_in (om := bitOr bit) (lt30 hnr.hi) HHA.out HHD.out HHI.out
      have hel := end_in (om := bitOr bit) (lt30 hnr.look) HHA.out HHD.out HHI.out
      have hOL : Lt30 (ownLo p.nd) := by
        unfold ownLo
        split
        · unfold Lt30; omega
        · exact lt30 hnr.lo
      have hmt := meets_in (om := bitOr bit) (f := ownLo p.nd) hOL (lt30 hnr.look) HHA.out HHD.out HHI.out
      have CO := Lib.hid (fun V => rown_any p V)
      have CM := Lib.hid (fun V => rmeets_any (ownLo p.nd) p.nd.look a d i V)
      have CS := Lib.hid (fun V => rstart10 p.nd.lo a d i V)
      have CN := Lib.hid (fun V => rstart10 p.nd.inn a d i V)
      have CH := Lib.hid (fun V => rend10 p.nd.hi a d i V)
      have CK := Lib.hid (fun V => rend10 p.nd.look a d i V)
      rw [hmt] at CM
      rw [hsx] at CS
      rw [hsn] at CN
      rw [heh] at CH
      rw [hel] at CK
      have HKB := Lib.hid (HT.out.kid_behind (nds_get hp))
      obtain ⟨TM, hTM⟩ : ∃ TM, maxTo (nds os) p.nd.kids = TM := ⟨_, rfl⟩
      obtain ⟨sl, hsl⟩ : ∃ sl, stF p.nd.lo ⟨a, d, i, bitOr bit⟩ = sl := ⟨_, rfl⟩
      obtain ⟨sn, hsn'⟩ : ∃ sn, stF p.nd.inn ⟨a, d, i, bitOr bit⟩ = sn := ⟨_, rfl⟩
      obtain ⟨eh, heh'⟩ : ∃ eh, enF p.nd.hi ⟨a, d, i, bitOr bit⟩ = eh := ⟨_, rfl⟩
      obtain ⟨ek, hek'⟩ : ∃ ek, enF p.nd.look ⟨a, d, i, bitOr bit⟩ = ek := ⟨_, rfl⟩
      have hSB : (-4294967296 ≤ sl ∧ sl ≤ 4294967296) ∧ (-4294967296 ≤ sn ∧ sn ≤ 4294967296) ∧ (-4294967296 ≤ eh ∧ eh ≤ 4294967296) ∧ (-4294967296 ≤ ek ∧ ek ≤ 4294967296) := by
        have h1 := hnr.lo
        have h2 := hnr.inn
        have h3 := hnr.hi
        have h4 := hnr.look
        have g1 := HHA.out
        have g2 := HHD.out
        have g3 := HHI.out
        unfold Lt30' at h1 h2 h3 h4
        unfold Lt30 at g1 g2 g3
        rw [← hsl, ← hsn', ← heh', ← hek']
        unfold stF enF
        dsimp only
        refine ⟨?_, ?_, ?_, ?_⟩ <;> (split <;> (try split) <;> omega)
      have hN4 := hnr
      have hsl0 : 0 ≤ sl := by
        have h0 := (HT.out.bare j p.nd (nds_get hp)).1.2.2.1
        have g1 := HA0.out
        have g2 := HD0.out
        have g3 := HI0.out
        rw [← hsl]
        unfold stF
        dsimp only
        split
        · omega
        · split <;> omega
      have hed := edit_nums (a := a) (d := d) (i := i) (bit := bit) (sym := p.nd.sym) (kind := p.nd.kind) (lo := p.nd.lo) (inn := p.nd.inn) (hi := p.nd.hi) (look := p.nd.look) (met := p.nd.met) (kids := p.nd.kids) hT0.1 hsl hsn' heh' hek'
      rw [hsl] at CS
      rw [hsn'] at CN
      rw [heh'] at CH
      rw [hek'] at CK
      rw [hTM] at hT0 hbd hed
      have HED0 := Lib.hid (hE.out.step HT.out (nds_get hp))
      rw [hTM] at HED0
      obtain ⟨⟨sym, kind, lo, inn, hi, look, kids, met⟩, pA, pc⟩ := p
      obtain ⟨qn, qA, qc⟩ := q
      dsimp only at hqn
      subst hqn
      dsimp only at hed CO CM CS CN CH CK HED0 HKB hTM hT0 hN4
      rw [hed] at HED0
      have HTM := Lib.hid hTM
      have HQ := Lib.hid hq
      have O0 : Hid (OwnP wr w.heap.size (some ⟨g, 0, none⟩) c2 (os.set j ⟨⟨sym, kind, lo, inn, hi, look, kids, met⟩, qA, qc⟩)) := Lib.hid (by rw [set_self hq]; exact ho.out)
      have FQ := Lib.hid (ho.out.fine _ (List.mem_of_getElem? hq))
      have HHI2 := Lib.hid hHi.out
      have HJO : Hid (j < os.length) := Lib.hid (by omega)
      have BW := Lib.hid hBE.out
      have HX := Lib.hid hx.out
      obtain ⟨b, off, rfl, hb, hcell⟩ := (S.out.ext hx.out).parts (by omega)
      obtain ⟨d0, d1, d2, d3, d4, d5, d6, d7⟩ := hcell j _ hp
      dsimp only at d0 d1 d2 d3 d4 d5 d6 d7
      have HKI := Lib.hid hsy.kids
      have PKC := Lib.hid (Nat.le_trans hsy.cap hsy.top)
      have HSL0 := Lib.hid hsl0
      clear hsl0 hcell hp hq hnr hsy hbd hed hOL hsx hsn heh hel hmt hsl hsn' heh' hek' ho hE hHi hBE hx hTM
      obtain ⟨n1, n2, n3, n4⟩ := hN4
      unfold Lt30' at n1 n2 n3 n4
      have g1 := HHA.out
      have g2 := HHD.out
      have g3 := HHI.out
      unfold Lt30 at g1 g2 g3
      have HNB := Lib.hid (show ((-1073741824 ≤ lo ∧ lo ≤ 1073741824) ∧ (-1073741824 ≤ inn ∧ inn ≤ 1073741824) ∧ (-1073741824 ≤ hi ∧ hi ≤ 1073741824) ∧ (-1073741824 ≤ look ∧ look ≤ 1073741824)) ∧ ((-1073741824 ≤ a ∧ a ≤ 1073741824) ∧ (-1073741824 ≤ d ∧ d ≤ 1073741824) ∧ (-1073741824 ≤ i ∧ i ≤ 1073741824)) from ⟨⟨n1, n2, n3, n4⟩, g1, g2, g3⟩)
      have HSB := Lib.hid hSB
      have HT0' := Lib.hid hT0
      clear n1 n2 n3 n4 g1 g2 g3 hSB hT0
      obtain ⟨mt, hmt⟩ : ∃ mt, decide (Meet (ownLo ⟨sym, kind, lo, inn, hi, look, kids, met⟩) look ⟨a, d, i, bitOr bit⟩) = mt := ⟨_, rfl⟩
      rw [hmt] at CM
      have HMT := Lib.hid hmt
      clear hmt
      have q0 : decide ((0 : Int) ≤ (j : Int)) = true := decide_eq_true (by omega)
      have hgj : (j : Int) < (ps.length : Int) := by omega
      have HGW : Hid (g < wr.heap.size) := Lib.hid (O0.out.atSet HJO.out).lt
      obtain ⟨bp, hbp⟩ : ∃ bp, wr.heap.size = bp := ⟨_, rfl⟩
      obtain ⟨W5, hW5⟩ : ∃ W5, wr.alloc (.cells #[.int .i64 sym, .int .i64 kind, .int .i64 lo, .int .i64 inn, .int .i64 hi, .int .i64 look, .slice pA kids.length pc, .int .u64 met] 33) = W5 := ⟨_, rfl⟩
      have X5 : Ext wr W5 := by rw [← hW5]; exact (by repeat (first | exact Ext.refl _ | refine Ext.alloc ?_ _ | refine Ext.more ?_ _ _ | refine Ext.drew ?_ | refine Ext.drewN ?_ _ | refine Ext.setCell ?_ (by simp <;> omega) _))
      have B5 : Hid (W5.heap[bp]? = some (.cells #[.int .i64 sym, .int .i64 kind, .int .i64 lo, .int .i64 inn, .int .i64 hi, .int .i64 look, .slice pA kids.length pc, .int .u64 met] 33)) := Lib.hid (by rw [← hW5, ← hbp]; exact heap_alloc_new _ _)
      have HPG : Hid (bp ≠ g) := Lib.hid (by have := HGW.out; omega)
      have O5 := Lib.hid (O0.out.ext X5)
      have E5 := Lib.hid (ext_block BW.out X5)
      have Z5 := Lib.hid (HX.out.trans X5)
      go_upto_region 8 with fail
      clear hW5 hbp X5 d0 d1 d2 d3 d4 d5 d6 d7 hb O0 BW HX
      obtain ⟨p0, p1, p2, p3, p4, p5, p6, p7, pl⟩ := pt_cells B5.out
      obtain ⟨e0, e1, e2, el⟩ := ed_cells E5.out
      refine wp_region_bt (4) (softs_bt [0, 2] (.step 1 (.step 3 .fin))) (by kernel_rfl) (by kernel_rfl) ?_
      (refine bt_softs _ fun K hK => ?_); (simp only [pick, nthC]); (repeat (go_big_quiet_step (fail))); (refine wpQuiet_nil (hK _ ?_)); (clear hK K)
      (refine bt_step fun next hn => ?_); (simp only [pick, nthC])
      go_wp2_with fail
      refine (CO.out _).mono ?_
      rintro e V1 ⟨rfl, hv1⟩
      have Y1 : Hid (Ext W5 V1) := Lib.hid (((Ext.refl W5).drew).trans hv1)
      clear hv1
      go_wp2_with fail
      refine segQ_mk (fun _ => laid Y1.out) (hn _ _ ?_)
      clear hn next
      (refine bt_step fun next hn => ?_); (simp only [pick, nthC])
      go_wp2_with fail
      refine (CM.out _).mono ?_
      rintro e W8 ⟨rfl, hv2⟩
      have YX : Ext W5 W8 := Y1.out.trans hv2
      clear hv2
      go_wp2_with fail
      refine segQ_mk (fun _ => laid YX) (hn _ _ ?_)
      clear hn next Y1
      (refine bt_fin ?_)
      clear p0 p1 p2 p3 p4 p5 p6 p7 pl e0 e1 e2 el
      have B8 := Lib.hid (ext_block B5.out YX)
      have E8 := Lib.hid (ext_block E5.out YX)
      have O8 := Lib.hid (O5.out.ext YX)
      have Z8 := Lib.hid (Z5.out.trans YX)
      clear B5 E5 O5 Z5 YX
      by_cases hk1 : kind = 1
      · subst hk1
        cases mt with
        | true =>
          have hat := O8.out.atSet HJO.out
          have cc7 := hat.met
          have ff7 := hat.frozen (j * 8 + 7)
          have lg := hat.lt
          dsimp only at cc7
          obtain ⟨W9, hW9⟩ : ∃ W9, W8.setCell ⟨g, j * 8 + 7, none⟩ (.int .u64 (bits .or .u64 met bit)) = W9 := ⟨_, rfl⟩
          have O9 : Hid (OwnP W9 w.heap.size (some ⟨g, 0, none⟩) c2 (os.set j ⟨⟨sym, 1, lo, inn, hi, look, kids, (bits .or .u64 met bit)⟩, qA, qc⟩)) := Lib.hid (by rw [← hW9]; exact O8.out.putAt HJO.out (by omega) rfl ⟨rfl, rfl, rfl⟩ (by have f := FQ.out; exact ⟨f.sym, f.kind, f.lo, f.inn, f.hi, f.look, (bitOr_bd _ _), f.ks⟩))
          have B9 : Hid (W9.heap[bp]? = some (.cells #[.int .i64 sym, .int .i64 1, .int .i64 lo, .int .i64 inn, .int .i64 hi, .int .i64 look, .slice pA kids.length pc, .int .u64 met] 33)) := Lib.hid (by rw [← hW9, blk_set HPG.out]; exact B8.out)
          have E9 : Hid (W9.heap[be]? = some (.cells #[.int .i64 a, .int .i64 d, .int .i64 i] 63)) := Lib.hid (by rw [← hW9, blk_set HEG.out]; exact E8.out)
          have Z9 : Hid (Ext w W9) := Lib.hid (by rw [← hW9]; exact Z8.out.setCell HBG.out _)
          go_upto_region 10 with fail
          clear hW9 hat cc7 ff7 lg O8 B8 E8 Z8
          obtain ⟨p0, p1, p2, p3, p4, p5, p6, p7, pl⟩ := pt_cells B9.out
          obtain ⟨e0, e1, e2, el⟩ := ed_cells E9.out
          go_wp2_with fail
          refine (CS.out _).mono ?_
          rintro e W10 ⟨rfl, YX⟩
          clear p0 p1 p2 p3 p4 p5 p6 p7 pl e0 e1 e2 el
          have B10 := Lib.hid (ext_block B9.out YX)
          have E10 := Lib.hid (ext_block E9.out YX)
          have O10 := Lib.hid (O9.out.ext YX)
          have Z10 := Lib.hid (Z9.out.trans YX)
          clear B9 E9 O9 Z9 YX
          obtain ⟨p0, p1, p2, p3, p4, p5, p6, p7, pl⟩ := pt_cells B10.out
          obtain ⟨e0, e1, e2, el⟩ := ed_cells E10.out
          have hat := O10.out.atSet HJO.out
          have cc2 := hat.lo
          have ff2 := hat.frozen (j * 8 + 2)
          have lg := hat.lt
          dsimp only at cc2
          obtain ⟨W13, hW13⟩ : ∃ W13, W10.setCell ⟨g, j * 8 + 2, none⟩ (.int .i64 0) = W13 := ⟨_, rfl⟩
          have O13 : Hid (OwnP W13 w.heap.size (some ⟨g, 0, none⟩) c2 (os.set j ⟨⟨sym, 1, 0, inn, hi, look, kids, (bits .or .u64 met bit)⟩, qA, qc⟩)) := Lib.hid (by rw [← hW13]; exact O10.out.putAt HJO.out (by omega) rfl ⟨rfl, rfl, rfl⟩ (by have f := FQ.out; exact ⟨f.sym, f.kind, (by show I64 (0); unfold I64; have h1 := HNB.out; have h2 := HSB.out; have h3 := HT0'.out; omega), f.inn, f.hi, f.look, (bitOr_bd _ _), f.ks⟩))
          have B13 : Hid (W13.heap[bp]? = some (.cells #[.int .i64 sym, .int .i64 1, .int .i64 lo, .int .i64 inn, .int .i64 hi, .int .i64 look, .slice pA kids.length pc, .int .u64 met] 33)) := Lib.hid (by rw [← hW13, blk_set HPG.out]; exact B10.out)
          have E13 : Hid (W13.heap[be]? = some (.cells #[.int .i64 a, .int .i64 d, .int .i64 i] 63)) := Lib.hid (by rw [← hW13, blk_set HEG.out]; exact E10.out)
          have Z13 : Hid (Ext w W13) := Lib.hid (by rw [← hW13]; exact Z10.out.setCell HBG.out _)
          go_upto_region 14 with fail
          clear hW13 hat cc2 ff2 lg O10 B10 E10 Z10
          clear p0 p1 p2 p3 p4 p5 p6 p7 pl e0 e1 e2 el
          obtain ⟨p0, p1, p2, p3, p4, p5, p6, p7, pl⟩ := pt_cells B13.out
          obtain ⟨e0, e1, e2, el⟩ := ed_cells E13.out
          go_wp2_with fail
          clear p0 p1 p2 p3 p4 p5 p6 p7 pl e0 e1 e2 el
          go_loopw [10, 11] (fun v u wi => ∃ m : Nat, m ≤ kids.length ∧ u = .int .i64 m ∧ v = .int .i64 (max 0 (maxTo (nds os) (kids.take m))) ∧ Hid (Ext W13 wi)) (fun _ u _ => kids.length - (intOf u).toNat)
          case atStart =>
            refine ⟨0, by omega, rfl, ?_, Lib.hid (by repeat (first | exact Ext.refl _ | refine Ext.alloc ?_ _ | refine Ext.more ?_ _ _ | refine Ext.drew ?_ | refine Ext.drewN ?_ _ | refine Ext.setCell ?_ (by simp <;> omega) _))⟩
            rfl
          case round =>
            obtain ⟨m, hm, rfl, rfl, hx⟩ := hrel
            have YX := hx.out
            have O14 := O13.out.ext YX
            obtain ⟨p0, p1, p2, p3, p4, p5, p6, p7, pl⟩ := pt_cells (ext_block B13.out YX)
            by_cases hlt : m < kids.length
            · obtain ⟨x, hxm⟩ : ∃ x, kids[m]? = some x := ⟨_, List.getElem?_eq_getElem hlt⟩
              obtain ⟨ci, rfl, hc1, hc2⟩ := HKB.out x (List.mem_of_getElem? hxm)
              rw [nds_length] at hc2
              obtain ⟨r, hr⟩ : ∃ r, os[ci]? = some r := ⟨_, List.getElem?_eq_getElem (by omega)⟩
              have hat := O14.at (i := ci) (q := r) (by rw [List.getElem?_set_ne (by omega)]; exact hr)
              have ch := hat.hi
              have lg := hat.lt
              obtain ⟨bk, ok, hpA, hbk, hck⟩ := (HKI.out.ext (Z13.out.trans YX)) (by show 0 < kids.length; omega)
              have dk := hck m hlt
              rw [List.getD_eq_getElem?_getD, hxm] at dk
              change wr.cell? ⟨bk, ok + m, none⟩ = some (.int .i64 (ci : Int)) at dk
              change pA = _ at hpA
              rw [hpA] at p6
              have hms := maxTo_succ (l := nds os) hxm
              have hha : hiAt (nds os) (ci : Int) = r.nd.hi := by unfold hiAt; rw [Int.toNat_natCast, nds_get hr]; rfl
              obtain ⟨L, hL⟩ : ∃ L, max 0 (maxTo (nds os) (kids.take m)) = L := ⟨_, rfl⟩
              obtain ⟨L2, hL2⟩ : ∃ L2, max 0 (maxTo (nds os) (kids.take (m + 1))) = L2 := ⟨_, rfl⟩
              have hmx : (if L < r.nd.hi then r.nd.hi else L) = L2 := by rw [max_name, ← hL2, hms, hha, ← hL]; omega
              rw [hL]
              have HL2 := Lib.hid hL2
              have HX := Lib.hid hx.out
              have pkc := PKC.out
              have i0 : (ci : Int) < (ps.length : Int) := by omega
              have i1 : (0 : Int) ≤ (ci : Int) := by omega
              clear hat O14 hck hxm hr hms hha hL hL2 hx YX hc1 p0 p1 p2 p3 p4 p5 p7
              go_wp2_with fail
              go_roundw
              case rel => exact ⟨m + 1, by omega, by go_num, by rw [HL2.out], Lib.hid (HX.out.trans (by repeat (first | exact Ext.refl _ | refine Ext.alloc ?_ _ | refine Ext.more ?_ _ _ | refine Ext.drew ?_ | refine Ext.drewN ?_ _ | refine Ext.setCell ?_ (by simp <;> omega) _)))⟩
              case measure => simp [intOf]; omega
            · obtain rfl : m = kids.length := by omega
              rw [List.take_length, HTM.out]
              clear O14 hlt hm
              have YX := hx.out
              clear hx
              have B17 := Lib.hid (ext_block B13.out YX)
              have E17 := Lib.hid (ext_block E13.out YX)
              have O17 := Lib.hid (O13.out.ext YX)
              have Z17 := Lib.hid (Z13.out.trans YX)
              clear B13 E13 O13 Z13 YX
              obtain ⟨LE, hLE⟩ : ∃ LE, max 0 TM = LE := ⟨_, rfl⟩
              obtain ⟨H1, hH1⟩ : ∃ H1, max LE eh = H1 := ⟨_, rfl⟩
              obtain ⟨K1, hK1⟩ : ∃ K1, max (1) ek = K1 := ⟨_, rfl⟩
              rw [hLE]
              have m1 : (if LE < eh then eh else LE) = H1 := by rw [max_name]; exact hH1
              have m2 : (if 1 < ek then ek else 1) = K1 := by rw [max_name]; exact hK1
              have hb1 := HSB.out
              have hb2 := HT0'.out
              have HLB := Lib.hid (show (-4294967296 ≤ LE ∧ LE ≤ 8589934592) ∧ (-4294967296 ≤ H1 ∧ H1 ≤ 8589934592) ∧ (-4294967297 ≤ K1 ∧ K1 ≤ 8589934592) from by omega)
              have w1 : IntKind.i64.wrap (0 + 1) = 1 := IntWalk.i64_in _ (by omega)
              have HLE := Lib.hid hLE
              have HH1 := Lib.hid hH1
              have HK1 := Lib.hid hK1
              clear hLE hH1 hK1 hb1 hb2
              have hat := O17.out.atSet HJO.out
              have HCL := Lib.hid hat.lo
              have HGS := Lib.hid hat.lt
              clear hat
              have KX : Hid (∀ x : EdC wr g (j * 8 + 2) bp be, x.V.cell? ⟨g, j * 8 + 2, none⟩ = some (.int .i64 0) ∧ x.V.cell? ⟨bp, 4, none⟩ = some (.int .i64 hi) ∧ x.V.cell? ⟨bp, 5, none⟩ = some (.int .i64 look) ∧ x.V.cell? ⟨be, 0, none⟩ = some (.int .i64 a) ∧ x.V.cell? ⟨be, 1, none⟩ = some (.int .i64 d) ∧ x.V.cell? ⟨be, 2, none⟩ = some (.int .i64 i) ∧ bp < x.V.heap.size ∧ be < x.V.heap.size ∧ g < x.V.heap.size) := Lib.hid (fun x => by
                obtain ⟨_, _, _, _, p4, p5, _, _, pl⟩ := pt_cells (x.par.trans B17.out)
                obtain ⟨e0, e1, e2, el⟩ := ed_cells (x.box.trans E17.out)
                exact ⟨x.cel.trans HCL.out, p4, p5, e0, e1, e2, pl, el, Nat.lt_of_lt_of_le HGS.out x.sz⟩)
              have kx0 := fun x => (KX.out x).1
              have kx1 := fun x => (KX.out x).2.1
              have kx2 := fun x => (KX.out x).2.2.1
              have kx3 := fun x => (KX.out x).2.2.2.1
              have kx4 := fun x => (KX.out x).2.2.2.2.1
              have kx5 := fun x => (KX.out x).2.2.2.2.2.1
              have kx6 := fun x => (KX.out x).2.2.2.2.2.2.1
              have kx7 := fun x => (KX.out x).2.2.2.2.2.2.2.1
              have kx8 := fun x => (KX.out x).2.2.2.2.2.2.2.2
              have hbl := lt_of_heap B17.out
              have hel := lt_of_heap E17.out
              go_upto_region 18 with fail
              clear p0 p1 p2 p3 p4 p5 p6 p7 pl
              refine wp_region_btC (T := EdC wr g (j * 8 + 2) bp be) EdC.V (26) (softs_bt [0, 1, 2, 3, 4, 5, 6, 7, 10, 11, 12, 13, 14, 15, 16, 17, 18] (.step 8 (softs_bt [9] (.step 19 (softs_bt [20, 21, 22] (.step 23 (softs_bt [24, 25] (.step 26 .fin)))))))) (by kernel_rfl) (by kernel_rfl) ⟨⟨wr.drew, rfl, rfl, rfl, Nat.le_refl _⟩, rfl⟩ ?_
              (refine bt_softs _ fun K hK => ?_); (simp only [pick, nthC]); (repeat (go_big_quiet_step (fail))); (refine wpQuiet_nil (hK _ ?_)); (clear hK K)
              clear kx0 kx1 kx2 kx3 kx4 kx5 kx6 kx7 kx8
              (refine bt_step fun next hn => ?_); (simp only [pick, nthC])
              go_wp2_with fail
              refine (CH.out _).mono ?_
              rintro e V1 ⟨rfl, hv1⟩
              have Y1 : Hid (Ext wr V1) := Lib.hid (((Ext.refl wr).drew).trans hv1)
              clear hv1
              go_wp2_with fail
              refine segQ_mk (fun _ => edc_ext HGS.out hbl hel Y1.out) (hn _ _ ?_)
              clear hn next
              (refine bt_softs _ fun K hK => ?_); (simp only [pick, nthC]); (repeat (go_big_quiet_step (fail))); (refine wpQuiet_nil (hK _ ?_)); (clear hK K)
              (refine bt_step fun next hn => ?_); (simp only [pick, nthC])
              go_wp2_with fail
              refine (CK.out _).mono ?_
              rintro e V2 ⟨rfl, hv2⟩
              have Y2 : Hid (Ext wr V2) := Lib.hid (Y1.out.trans hv2)
              clear hv2 Y1
              go_wp2_with fail
              refine segQ_mk (fun _ => edc_ext HGS.out hbl hel Y2.out) (hn _ _ ?_)
              clear hn next
              (refine bt_softs _ fun K hK => ?_); (simp only [pick, nthC]); (repeat (go_big_quiet_step (fail))); (refine wpQuiet_nil (hK _ ?_)); (clear hK K)
              have YX := Y2.out
              have BV := Lib.hid (ext_block B17.out YX)
              have EV := Lib.hid (ext_block E17.out YX)
              have OV := Lib.hid (O17.out.ext YX)
              have ZV := Lib.hid (Z17.out.trans YX)
              clear B17 E17 O17 Z17
              have hat := OV.out.atSet HJO.out
              have cc4 := hat.hi
              have ff4 := hat.frozen (j * 8 + 4)
              have lg := hat.lt
              dsimp only at cc4
              obtain ⟨W18, hW18⟩ : ∃ W18, V2.setCell ⟨g, j * 8 + 4, none⟩ (.int .i64 H1) = W18 := ⟨_, rfl⟩
              have O18 : Hid (OwnP W18 w.heap.size (some ⟨g, 0, none⟩) c2 (os.set j ⟨⟨sym, 1, 0, inn, H1, look, kids, (bits .or .u64 met bit)⟩, qA, qc⟩)) := Lib.hid (by rw [← hW18]; exact OV.out.putAt HJO.out (by omega) rfl ⟨rfl, rfl, rfl⟩ (by have f := FQ.out; exact ⟨f.sym, f.kind, (by show I64 (0); unfold I64; have h1 := HNB.out; have h2 := HSB.out; have h3 := HT0'.out; omega), f.inn, (by show I64 (H1); unfold I64; have h1 := HLB.out; have h2 := HNB.out; omega), f.look, (bitOr_bd _ _), f.ks⟩))
              have B18 : Hid (W18.heap[bp]? = some (.cells #[.int .i64 sym, .int .i64 1, .int .i64 lo, .int .i64 inn, .int .i64 hi, .int .i64 look, .slice pA kids.length pc, .int .u64 met] 33)) := Lib.hid (by rw [← hW18, blk_set HPG.out]; exact BV.out)
              have E18 : Hid (W18.heap[be]? = some (.cells #[.int .i64 a, .int .i64 d, .int .i64 i] 63)) := Lib.hid (by rw [← hW18, blk_set HEG.out]; exact EV.out)
              have Z18 : Hid (Ext w W18) := Lib.hid (by rw [← hW18]; exact ZV.out.setCell HBG.out _)
              (refine bt_step fun next hn => ?_); (simp only [pick, nthC])
              go_wp2_with fail
              refine segQ_mk (fun _ => by rw [← hW18]; exact edc_set HGS.out hbl hel YX (by omega) HPG.out HEG.out) (hn _ _ ?_)
              clear hn next hat cc4 ff4 lg hW18 OV BV EV ZV YX Y2 m1
              (refine bt_softs _ fun K hK => ?_); (simp only [pick, nthC]); (repeat (go_big_quiet_step (fail))); (refine wpQuiet_nil (hK _ ?_)); (clear hK K)
              have hat := O18.out.atSet HJO.out
              have cc5 := hat.look
              have ff5 := hat.frozen (j * 8 + 5)
              have lg := hat.lt
              dsimp only at cc5
              obtain ⟨W19, hW19⟩ : ∃ W19, W18.setCell ⟨g, j * 8 + 5, none⟩ (.int .i64 K1) = W19 := ⟨_, rfl⟩
              have O19 : Hid (OwnP W19 w.heap.size (some ⟨g, 0, none⟩) c2 (os.set j ⟨⟨sym, 1, 0, inn, H1, K1, kids, (bits .or .u64 met bit)⟩, qA, qc⟩)) := Lib.hid (by rw [← hW19]; exact O18.out.putAt HJO.out (by omega) rfl ⟨rfl, rfl, rfl⟩ (by have f := FQ.out; exact ⟨f.sym, f.kind, (by show I64 (0); unfold I64; have h1 := HNB.out; have h2 := HSB.out; have h3 := HT0'.out; omega), f.inn, (by show I64 (H1); unfold I64; have h1 := HLB.out; have h2 := HNB.out; omega), (by show I64 (K1); unfold I64; have h1 := HLB.out; have h2 := HNB.out; omega), (bitOr_bd _ _), f.ks⟩))
              have B19 : Hid (W19.heap[bp]? = some (.cells #[.int .i64 sym, .int .i64 1, .int .i64 lo, .int .i64 inn, .int .i64 hi, .int .i64 look, .slice pA kids.length pc, .int .u64 met] 33)) := Lib.hid (by rw [← hW19, blk_set HPG.out]; exact B18.out)
              have E19 : Hid (W19.heap[be]? = some (.cells #[.int .i64 a, .int .i64 d, .int .i64 i] 63)) := Lib.hid (by rw [← hW19, blk_set HEG.out]; exact E18.out)
              have Z19 : Hid (Ext w W19) := Lib.hid (by rw [← hW19]; exact Z18.out.setCell HBG.out _)
              (refine bt_step fun next hn => ?_); (simp only [pick, nthC])
              go_wp2_with fail
              refine segQ_mk (fun h => absurd rfl h) (hn _ _ ?_)
              clear hn next hat cc5 ff5 lg hW19 O18 B18 E18 Z18 m2 w1 hbl hel HGS HCL
              (refine bt_fin ?_)
              obtain ⟨p0, p1, p2, p3, p4, p5, p6, p7, pl⟩ := pt_cells B19.out
              obtain ⟨e0, e1, e2, el⟩ := ed_cells E19.out
              go_upto_region 19 with fail
              refine wp_region_bt (4) (softs_bt [0, 2] (.step 1 (.step 3 .fin))) (by kernel_rfl) (by kernel_rfl) ?_
              (refine bt_softs _ fun K hK => ?_); (simp only [pick, nthC]); (repeat (go_big_quiet_step (fail))); (refine wpQuiet_nil (hK _ ?_)); (clear hK K)
              (refine bt_step fun next hn => ?_); (simp only [pick, nthC])
              go_wp2_with fail
              refine (CO.out _).mono ?_
              rintro e V3 ⟨rfl, hv1⟩
              have Y1 : Hid (Ext W19 V3) := Lib.hid (((Ext.refl W19).drew).trans hv1)
              clear hv1
              go_wp2_with fail
              refine segQ_mk (fun _ => laid Y1.out) (hn _ _ ?_)
              clear hn next
              (refine bt_step fun next hn => ?_); (simp only [pick, nthC])
              go_wp2_with fail
              refine (CM.out _).mono ?_
              rintro e W20 ⟨rfl, hv2⟩
              have YX : Ext W19 W20 := Y1.out.trans hv2
              clear hv2
              go_wp2_with fail
              refine segQ_mk (fun _ => laid YX) (hn _ _ ?_)
              clear hn next Y1
              (refine bt_fin ?_)
              clear p0 p1 p2 p3 p4 p5 p6 p7 pl e0 e1 e2 el
              have B20 := Lib.hid (ext_block B19.out YX)
              have E20 := Lib.hid (ext_block E19.out YX)
              have O20 := Lib.hid (O19.out.ext YX)
              have Z20 := Lib.hid (Z19.out.trans YX)
              clear B19 E19 O19 Z19 YX
              obtain ⟨p0, p1, p2, p3, p4, p5, p6, p7, pl⟩ := pt_cells B20.out
              obtain ⟨e0, e1, e2, el⟩ := ed_cells E20.out
              obtain ⟨K2, hK2⟩ : ∃ K2, max K1 (a + 1) = K2 := ⟨_, rfl⟩
              have m3 : (if K1 < a + 1 then a + 1 else K1) = K2 := by rw [max_name]; exact hK2
              have h1 := HNB.out
              have h2 := HLB.out
              have w2 : IntKind.i64.wrap (a + 1) = a + 1 := IntWalk.i64_in _ (by omega)
              have HKB2 := Lib.hid (show -4294967297 ≤ K2 ∧ K2 ≤ 8589934592 from by omega)
              have HK2 := Lib.hid hK2
              clear hK2 h1 h2
              have hat := O20.out.atSet HJO.out
              have cc5 := hat.look
              have ff5 := hat.frozen (j * 8 + 5)
              have lg := hat.lt
              dsimp only at cc5
              obtain ⟨W22, hW22⟩ : ∃ W22, W20.setCell ⟨g, j * 8 + 5, none⟩ (.int .i64 K2) = W22 := ⟨_, rfl⟩
              have O22 : Hid (OwnP W22 w.heap.size (some ⟨g, 0, none⟩) c2 (os.set j ⟨⟨sym, 1, 0, inn, H1, K2, kids, (bits .or .u64 met bit)⟩, qA, qc⟩)) := Lib.hid (by rw [← hW22]; exact O20.out.putAt HJO.out (by omega) rfl ⟨rfl, rfl, rfl⟩ (by have f := FQ.out; exact ⟨f.sym, f.kind, (by show I64 (0); unfold I64; have h1 := HNB.out; have h2 := HSB.out; have h3 := HT0'.out; omega), f.inn, (by show I64 (H1); unfold I64; have h1 := HLB.out; have h2 := HNB.out; omega), (by show I64 K2; unfold I64; have h1 := HKB2.out; omega), (bitOr_bd _ _), f.ks⟩))
              have B22 : Hid (W22.heap[bp]? = some (.cells #[.int .i64 sym, .int .i64 1, .int .i64 lo, .int .i64 inn, .int .i64 hi, .int .i64 look, .slice pA kids.length pc, .int .u64 met] 33)) := Lib.hid (by rw [← hW22, blk_set HPG.out]; exact B20.out)
              have E22 : Hid (W22.heap[be]? = some (.cells #[.int .i64 a, .int .i64 d, .int .i64 i] 63)) := Lib.hid (by rw [← hW22, blk_set HEG.out]; exact E20.out)
              have Z22 : Hid (Ext w W22) := Lib.hid (by rw [← hW22]; exact Z20.out.setCell HBG.out _)
              go_upto_region 20 with fail
              refine wp_region_bt (13) (softs_bt [0, 1, 2, 3, 4, 5, 6, 7, 8, 9, 10, 11, 12] (.step 13 .fin)) (by kernel_rfl) (by kernel_rfl) ?_
              (refine bt_softs _ fun K hK => ?_); (simp only [pick, nthC]); (repeat (go_big_quiet_step (fail))); (refine wpQuiet_nil (hK _ ?_)); (clear hK K)
              (refine bt_step fun next hn => ?_); (simp only [pick, nthC])
              go_wp2_with fail
              refine segQ_mk (fun h => absurd rfl h) (hn _ _ ?_)
              clear hn next hat cc5 ff5 lg hW22 O20 B20 E20 Z20 m3 w2
              (refine bt_fin ?_)
              clear p0 p1 p2 p3 p4 p5 p6 p7 pl e0 e1 e2 el
              obtain ⟨H2, hH2⟩ : ∃ H2, max LE (hi - d + i) = H2 := ⟨_, rfl⟩
              have m4 : (if LE < hi - d + i then hi - d + i else LE) = H2 := by rw [max_name]; exact hH2
              have h1 := HNB.out
              have h2 := HLB.out
              have w3 : wrap64 (hi - d) = hi - d := IntWalk.wrap64_in _ (by omega)
              have w4 : wrap64 (hi - d + i) = hi - d + i := IntWalk.wrap64_in _ (by omega)
              have HHB := Lib.hid (show -4294967296 ≤ H2 ∧ H2 ≤ 8589934592 from by omega)
              have HH2 := Lib.hid hH2
              clear hH2 h1 h2
              obtain ⟨p0, p1, p2, p3, p4, p5, p6, p7, pl⟩ := pt_cells B22.out
              obtain ⟨e0, e1, e2, el⟩ := ed_cells E22.out
              have hat := O22.out.atSet HJO.out
              have cc4 := hat.hi
              have ff4 := hat.frozen (j * 8 + 4)
              have lg := hat.lt
              dsimp only at cc4
              obtain ⟨W23, hW23⟩ : ∃ W23, W22.setCell ⟨g, j * 8 + 4, none⟩ (.int .i64 H2) = W23 := ⟨_, rfl⟩
              have O23 : Hid (OwnP W23 w.heap.size (some ⟨g, 0, none⟩) c2 (os.set j ⟨⟨sym, 1, 0, inn, H2, K2, kids, (bits .or .u64 met bit)⟩, qA, qc⟩)) := Lib.hid (by rw [← hW23]; exact O22.out.putAt HJO.out (by omega) rfl ⟨rfl, rfl, rfl⟩ (by have f := FQ.out; exact ⟨f.sym, f.kind, (by show I64 (0); unfold I64; have h1 := HNB.out; have h2 := HSB.out; have h3 := HT0'.out; omega), f.inn, (by show I64 H2; unfold I64; have h1 := HHB.out; omega), (by show I64 K2; unfold I64; have h1 := HKB2.out; omega), (bitOr_bd _ _), f.ks⟩))
              have B23 : Hid (W23.heap[bp]? = some (.cells #[.int .i64 sym, .int .i64 1, .int .i64 lo, .int .i64 inn, .int .i64 hi, .int .i64 look, .slice pA kids.length pc, .int .u64 met] 33)) := Lib.hid (by rw [← hW23, blk_set HPG.out]; exact B22.out)
              have E23 : Hid (W23.heap[be]? = some (.cells #[.int .i64 a, .int .i64 d, .int .i64 i] 63)) := Lib.hid (by rw [← hW23, blk_set HEG.out]; exact E22.out)
              have Z23 : Hid (Ext w W23) := Lib.hid (by rw [← hW23]; exact Z22.out.setCell HBG.out _)
              clear hat lg
              have hat := O23.out.atSet HJO.out
              have cc5 := hat.look
              have ff5 := hat.frozen (j * 8 + 5)
              have lg := hat.lt
              dsimp only at cc5
              obtain ⟨W24, hW24⟩ : ∃ W24, W23.setCell ⟨g, j * 8 + 5, none⟩ (.int .i64 1) = W24 := ⟨_, rfl⟩
              have O24 : Hid (OwnP W24 w.heap.size (some ⟨g, 0, none⟩) c2 (os.set j ⟨⟨sym, 1, 0, inn, H2, 1, kids, (bits .or .u64 met bit)⟩, qA, qc⟩)) := Lib.hid (by rw [← hW24]; exact O23.out.putAt HJO.out (by omega) rfl ⟨rfl, rfl, rfl⟩ (by have f := FQ.out; exact ⟨f.sym, f.kind, (by show I64 (0); unfold I64; have h1 := HNB.out; have h2 := HSB.out; have h3 := HT0'.out; omega), f.inn, (by show I64 H2; unfold I64; have h1 := HHB.out; omega), (by show I64 (1 : Int); unfold I64; omega), (bitOr_bd _ _), f.ks⟩))
              have B24 : Hid (W24.heap[bp]? = some (.cells #[.int .i64 sym, .int .i64 1, .int .i64 lo, .int .i64 inn, .int .i64 hi, .int .i64 look, .slice pA kids.length pc, .int .u64 met] 33)) := Lib.hid (by rw [← hW24, blk_set HPG.out]; exact B23.out)
              have E24 : Hid (W24.heap[be]? = some (.cells #[.int .i64 a, .int .i64 d, .int .i64 i] 63)) := Lib.hid (by rw [← hW24, blk_set HEG.out]; exact E23.out)
              have Z24 : Hid (Ext w W24) := Lib.hid (by rw [← hW24]; exact Z23.out.setCell HBG.out _)
              go_upto_region 23 with fail
              clear hat cc4 ff4 cc5 ff5 lg hW23 hW24 m4 w3 w4 O22 B22 E22 Z22 O23 B23 E23 Z23
              clear p0 p1 p2 p3 p4 p5 p6 p7 pl e0 e1 e2 el
              obtain ⟨p0, p1, p2, p3, p4, p5, p6, p7, pl⟩ := pt_cells B24.out
              obtain ⟨e0, e1, e2, el⟩ := ed_cells E24.out
              obtain ⟨M1, hM1⟩ : ∃ M1, max 0 sn = M1 := ⟨_, rfl⟩
              obtain ⟨I1, hI1⟩ : ∃ I1, min M1 H2 = I1 := ⟨_, rfl⟩
              have m5 : (if 0 < sn then sn else 0) = M1 := by rw [max_name]; exact hM1
              have m6 : (if H2 < M1 then H2 else M1) = I1 := by rw [min_name]; exact hI1
              have h1 := HSB.out
              have h2 := HLB.out
              have h3 := HHB.out
              have HIB := Lib.hid (show -4294967296 ≤ I1 ∧ I1 ≤ 8589934592 from by omega)
              have HM1 := Lib.hid hM1
              have HI1 := Lib.hid hI1
              have hat := O24.out.atSet HJO.out
              have oc2 := hat.lo
              have oc4 := hat.hi
              have lg := hat.lt
              dsimp only at oc2 oc4
              clear hat hM1 hI1 h1 h2 h3
              refine wp_region_bt (20) (softs_bt [0, 1, 2, 3, 4, 5, 6, 7, 8, 9, 12, 13, 14, 15, 16] (.step 10 (softs_bt [11, 17, 18, 19] (.step 20 .fin)))) (by kernel_rfl) (by kernel_rfl) ?_
              (refine bt_softs _ fun K hK => ?_); (simp only [pick, nthC]); (repeat (go_big_quiet_step (fail))); (refine wpQuiet_nil (hK _ ?_)); (clear hK K)
              (refine bt_step fun next hn => ?_); (simp only [pick, nthC])
              go_wp2_with fail
              refine (CN.out _).mono ?_
              rintro e V4 ⟨rfl, hv4⟩
              have YX : Ext W24 V4 := ((Ext.refl W24).drew).trans hv4
              clear hv4
              go_wp2_with fail
              refine segQ_mk (fun _ => laid YX) (hn _ _ ?_)
              clear hn next oc2 oc4 lg
              (refine bt_softs _ fun K hK => ?_); (simp only [pick, nthC]); (repeat (go_big_quiet_step (fail))); (refine wpQuiet_nil (hK _ ?_)); (clear hK K)
              have BU := Lib.hid (ext_block B24.out YX)
              have EU := Lib.hid (ext_block E24.out YX)
              have OU := Lib.hid (O24.out.ext YX)
              have ZU := Lib.hid (Z24.out.trans YX)
              clear B24 E24 O24 Z24 YX
              have hat := OU.out.atSet HJO.out
              have cc3 := hat.inn
              have ff3 := hat.frozen (j * 8 + 3)
              have lg := hat.lt
              dsimp only at cc3
              obtain ⟨W25, hW25⟩ : ∃ W25, V4.setCell ⟨g, j * 8 + 3, none⟩ (.int .i64 I1) = W25 := ⟨_, rfl⟩
              have O25 : Hid (OwnP W25 w.heap.size (some ⟨g, 0, none⟩) c2 (os.set j ⟨⟨sym, 1, 0, I1, H2, 1, kids, (bits .or .u64 met bit)⟩, qA, qc⟩)) := Lib.hid (by rw [← hW25]; exact OU.out.putAt HJO.out (by omega) rfl ⟨rfl, rfl, rfl⟩ (by have f := FQ.out; exact ⟨f.sym, f.kind, (by show I64 (0); unfold I64; have h1 := HNB.out; have h2 := HSB.out; have h3 := HT0'.out; omega), (by show I64 I1; unfold I64; have h1 := HIB.out; omega), (by show I64 H2; unfold I64; have h1 := HHB.out; omega), (by show I64 (1 : Int); unfold I64; omega), (bitOr_bd _ _), f.ks⟩))
              have B25 : Hid (W25.heap[bp]? = some (.cells #[.int .i64 sym, .int .i64 1, .int .i64 lo, .int .i64 inn, .int .i64 hi, .int .i64 look, .slice pA kids.length pc, .int .u64 met] 33)) := Lib.hid (by rw [← hW25, blk_set HPG.out]; exact BU.out)
              have E25 : Hid (W25.heap[be]? = some (.cells #[.int .i64 a, .int .i64 d, .int .i64 i] 63)) := Lib.hid (by rw [← hW25, blk_set HEG.out]; exact EU.out)
              have Z25 : Hid (Ext w W25) := Lib.hid (by rw [← hW25]; exact ZU.out.setCell HBG.out _)
              (refine bt_step fun next hn => ?_); (simp only [pick, nthC])
              go_wp2_with fail
              refine segQ_mk (fun h => absurd rfl h) (hn _ _ ?_)
              clear hn next hat cc3 ff3 lg hW25 OU BU EU ZU m5 m6
              (refine bt_fin ?_)
              clear p0 p1 p2 p3 p4 p5 p6 p7 pl e0 e1 e2 el
              by_cases hz : inn = lo
              · obtain ⟨p0, p1, p2, p3, p4, p5, p6, p7, pl⟩ := pt_cells B25.out
                obtain ⟨e0, e1, e2, el⟩ := ed_cells E25.out
                have qz : (inn == lo) = true := by simp [hz]
                have oc2 := (O25.out.atSet HJO.out).lo
                dsimp only at oc2
                have hat := O25.out.atSet HJO.out
                have cc3 := hat.inn
                have ff3 := hat.frozen (j * 8 + 3)
                have lg := hat.lt
                dsimp only at cc3
                obtain ⟨W26, hW26⟩ : ∃ W26, W25.setCell ⟨g, j * 8 + 3, none⟩ (.int .i64 0) = W26 := ⟨_, rfl⟩
                have O26 : Hid (OwnP W26 w.heap.size (some ⟨g, 0, none⟩) c2 (os.set j ⟨⟨sym, 1, 0, 0, H2, 1, kids, (bits .or .u64 met bit)⟩, qA, qc⟩)) := Lib.hid (by rw [← hW26]; exact O25.out.putAt HJO.out (by omega) rfl ⟨rfl, rfl, rfl⟩ (by have f := FQ.out; exact ⟨f.sym, f.kind, (by show I64 (0); unfold I64; have h1 := HNB.out; have h2 := HSB.out; have h3 := HT0'.out; omega), (by show I64 (0); unfold I64; have h1 := HNB.out; have h2 := HSB.out; have h3 := HT0'.out; omega), (by show I64 H2; unfold I64; have h1 := HHB.out; omega), (by show I64 (1 : Int); unfold I64; omega), (bitOr_bd _ _), f.ks⟩))
                have B26 : Hid (W26.heap[bp]? = some (.cells #[.int .i64 sym, .int .i64 1, .int .i64 lo, .int .i64 inn, .int .i64 hi, .int .i64 look, .slice pA kids.length pc, .int .u64 met] 33)) := Lib.hid (by rw [← hW26, blk_set HPG.out]; exact B25.out)
                have E26 : Hid (W26.heap[be]? = some (.cells #[.int .i64 a, .int .i64 d, .int .i64 i] 63)) := Lib.hid (by rw [← hW26, blk_set HEG.out]; exact E25.out)
                have Z26 : Hid (Ext w W26) := Lib.hid (by rw [← hW26]; exact Z25.out.setCell HBG.out _)
                have HEF : Hid (EditTo ⟨a, d, i, bitOr bit⟩ (nds ps) j (nds (os.set j ⟨⟨sym, 1, 0, 0, H2, 1, kids, (bits .or .u64 met bit)⟩, qA, qc⟩))) := Lib.hid (by
                  have hed := HED0
                  have hm := of_decide_eq_true HMT.out
                  simp only [eq_self_iff_true, if_true, Int.zero_add, if_pos hm, if_pos hz, HLE.out, HH1.out, HK1.out, HM1.out, HI1.out, HK2.out, HH2.out] at hed
                  unfold nds
                  rw [List.map_set]
                  exact hed)
                have HBF : Hid (∀ q ∈ os.set j ⟨⟨sym, 1, 0, 0, H2, 1, kids, (bits .or .u64 met bit)⟩, qA, qc⟩, -8589934592 ≤ q.nd.hi ∧ q.nd.hi ≤ 8589934592) := Lib.hid (fun q hq => by
                  rcases List.mem_or_eq_of_mem_set hq with hq | rfl
                  · exact HHI2.out q hq
                  · have h1 := HLB.out
                    have h2 := HHB.out
                    show -8589934592 ≤ H2 ∧ H2 ≤ 8589934592
                    omega)
                clear HED0 hz
                go_wp2_with fail
                go_roundw
                case rel => exact ⟨j, os.set j ⟨⟨sym, 1, 0, 0, H2, 1, kids, (bits .or .u64 met bit)⟩, qA, qc⟩, by omega, by rw [List.length_set]; omega, by go_num, Lib.hid (O26.out.ext (by repeat (first | exact Ext.refl _ | refine Ext.alloc ?_ _ | refine Ext.more ?_ _ _ | refine Ext.drew ?_ | refine Ext.drewN ?_ _ | refine Ext.setCell ?_ (by simp <;> omega) _))), HEF, HBF, Lib.hid (ext_block E26.out (by repeat (first | exact Ext.refl _ | refine Ext.alloc ?_ _ | refine Ext.more ?_ _ _ | refine Ext.drew ?_ | refine Ext.drewN ?_ _ | refine Ext.setCell ?_ (by simp <;> omega) _))), Lib.hid (Z26.out.trans (by repeat (first | exact Ext.refl _ | refine Ext.alloc ?_ _ | refine Ext.more ?_ _ _ | refine Ext.drew ?_ | refine Ext.drewN ?_ _ | refine Ext.setCell ?_ (by simp <;> omega) _)))⟩
                case measure => simp [intOf] <;> omega
              · obtain ⟨p0, p1, p2, p3, p4, p5, p6, p7, pl⟩ := pt_cells B25.out
                obtain ⟨e0, e1, e2, el⟩ := ed_cells E25.out
                have qz : (inn == lo) = false := by simp [hz]
                have HEF : Hid (EditTo ⟨a, d, i, bitOr bit⟩ (nds ps) j (nds (os.set j ⟨⟨sym, 1, 0, I1, H2, 1, kids, (bits .or .u64 met bit)⟩, qA, qc⟩))) := Lib.hid (by
                  have hed := HED0
                  have hm := of_decide_eq_true HMT.out
                  simp only [eq_self_iff_true, if_true, Int.zero_add, if_pos hm, if_neg hz, HLE.out, HH1.out, HK1.out, HM1.out, HI1.out, HK2.out, HH2.out] at hed
                  unfold nds
                  rw [List.map_set]
                  exact hed)
                have HBF : Hid (∀ q ∈ os.set j ⟨⟨sym, 1, 0, I1, H2, 1, kids, (bits .or .u64 met bit)⟩, qA, qc⟩, -8589934592 ≤ q.nd.hi ∧ q.nd.hi ≤ 8589934592) := Lib.hid (fun q hq => by
                  rcases List.mem_or_eq_of_mem_set hq with hq | rfl
                  · exact HHI2.out q hq
                  · have h1 := HLB.out
                    have h2 := HHB.out
                    show -8589934592 ≤ H2 ∧ H2 ≤ 8589934592
                    omega)
                clear HED0 hz
                go_wp2_with fail
                go_roundw
                case rel => exact ⟨j, os.set j ⟨⟨sym, 1, 0, I1, H2, 1, kids, (bits .or .u64 met bit)⟩, qA, qc⟩, by omega, by rw [List.length_set]; omega, by go_num, Lib.hid (O25.out.ext (by repeat (first | exact Ext.refl _ | refine Ext.alloc ?_ _ | refine Ext.more ?_ _ _ | refine Ext.drew ?_ | refine Ext.drewN ?_ _ | refine Ext.setCell ?_ (by simp <;> omega) _))), HEF, HBF, Lib.hid (ext_block E25.out (by repeat (first | exact Ext.refl _ | refine Ext.alloc ?_ _ | refine Ext.more ?_ _ _ | refine Ext.drew ?_ | refine Ext.drewN ?_ _ | refine Ext.setCell ?_ (by simp <;> omega) _))), Lib.hid (Z25.out.trans (by repeat (first | exact Ext.refl _ | refine Ext.alloc ?_ _ | refine Ext.more ?_ _ _ | refine Ext.drew ?_ | refine Ext.drewN ?_ _ | refine Ext.setCell ?_ (by simp <;> omega) _)))⟩
                case measure => simp [intOf] <;> omega
        | false =>
          obtain ⟨p0, p1, p2, p3, p4, p5, p6, p7, pl⟩ := pt_cells B8.out
          obtain ⟨e0, e1, e2, el⟩ := ed_cells E8.out
          go_wp2_with fail
          refine (CS.out _).mono ?_
          rintro e W10 ⟨rfl, YX⟩
          clear p0 p1 p2 p3 p4 p5 p6 p7 pl e0 e1 e2 el
          have B10 := Lib.hid (ext_block B8.out YX)
          have E10 := Lib.hid (ext_block E8.out YX)
          have O10 := Lib.hid (O8.out.ext YX)
          have Z10 := Lib.hid (Z8.out.trans YX)
          clear B8 E8 O8 Z8 YX
          obtain ⟨p0, p1, p2, p3, p4, p5, p6, p7, pl⟩ := pt_cells B10.out
          obtain ⟨e0, e1, e2, el⟩ := ed_cells E10.out
          have hat := O10.out.atSet HJO.out
          have cc2 := hat.lo
          have ff2 := hat.frozen (j * 8 + 2)
          have lg := hat.lt
          dsimp only at cc2
          obtain ⟨W13, hW13⟩ : ∃ W13, W10.setCell ⟨g, j * 8 + 2, none⟩ (.int .i64 0) = W13 := ⟨_, rfl⟩
          have O13 : Hid (OwnP W13 w.heap.size (some ⟨g, 0, none⟩) c2 (os.set j ⟨⟨sym, 1, 0, inn, hi, look, kids, met⟩, qA, qc⟩)) := Lib.hid (by rw [← hW13]; exact O10.out.putAt HJO.out (by omega) rfl ⟨rfl, rfl, rfl⟩ (by have f := FQ.out; exact ⟨f.sym, f.kind, (by show I64 (0); unfold I64; have h1 := HNB.out; have h2 := HSB.out; have h3 := HT0'.out; omega), f.inn, f.hi, f.look, f.met, f.ks⟩))
          have B13 : Hid (W13.heap[bp]? = some (.cells #[.int .i64 sym, .int .i64 1, .int .i64 lo, .int .i64 inn, .int .i64 hi, .int .i64 look, .slice pA kids.length pc, .int .u64 met] 33)) := Lib.hid (by rw [← hW13, blk_set HPG.out]; exact B10.out)
          have E13 : Hid (W13.heap[be]? = some (.cells #[.int .i64 a, .int .i64 d, .int .i64 i] 63)) := Lib.hid (by rw [← hW13, blk_set HEG.out]; exact E10.out)
          have Z13 : Hid (Ext w W13) := Lib.hid (by rw [← hW13]; exact Z10.out.setCell HBG.out _)
          go_upto_region 14 with fail
          clear hW13 hat cc2 ff2 lg O10 B10 E10 Z10
          clear p0 p1 p2 p3 p4 p5 p6 p7 pl e0 e1 e2 el
          obtain ⟨p0, p1, p2, p3, p4, p5, p6, p7, pl⟩ := pt_cells B13.out
          obtain ⟨e0, e1, e2, el⟩ := ed_cells E13.out
          go_wp2_with fail
          clear p0 p1 p2 p3 p4 p5 p6 p7 pl e0 e1 e2 el
          go_loopw [10, 11] (fun v u wi => ∃ m : Nat, m ≤ kids.length ∧ u = .int .i64 m ∧ v = .int .i64 (max 0 (maxTo (nds os) (kids.take m))) ∧ Hid (Ext W13 wi)) (fun _ u _ => kids.length - (intOf u).toNat)
          case atStart =>
            refine ⟨0, by omega, rfl, ?_, Lib.hid (by repeat (first | exact Ext.refl _ | refine Ext.alloc ?_ _ | refine Ext.more ?_ _ _ | refine Ext.drew ?_ | refine Ext.drewN ?_ _ | refine Ext.setCell ?_ (by simp <;> omega) _))⟩
            rfl
          case round =>
            obtain ⟨m, hm, rfl, rfl, hx⟩ := hrel
            have YX := hx.out
            have O14 := O13.out.ext YX
            obtain ⟨p0, p1, p2, p3, p4, p5, p6, p7, pl⟩ := pt_cells (ext_block B13.out YX)
            by_cases hlt : m < kids.length
            · obtain ⟨x, hxm⟩ : ∃ x, kids[m]? = some x := ⟨_, List.getElem?_eq_getElem hlt⟩
              obtain ⟨ci, rfl, hc1, hc2⟩ := HKB.out x (List.mem_of_getElem? hxm)
              rw [nds_length] at hc2
              obtain ⟨r, hr⟩ : ∃ r, os[ci]? = some r := ⟨_, List.getElem?_eq_getElem (by omega)⟩
              have hat := O14.at (i := ci) (q := r) (by rw [List.getElem?_set_ne (by omega)]; exact hr)
              have ch := hat.hi
              have lg := hat.lt
              obtain ⟨bk, ok, hpA, hbk, hck⟩ := (HKI.out.ext (Z13.out.trans YX)) (by show 0 < kids.length; omega)
              have dk := hck m hlt
              rw [List.getD_eq_getElem?_getD, hxm] at dk
              change wr.cell? ⟨bk, ok + m, none⟩ = some (.int .i64 (ci : Int)) at dk
              change pA = _ at hpA
              rw [hpA] at p6
              have hms := maxTo_succ (l := nds os) hxm
              have hha : hiAt (nds os) (ci : Int) = r.nd.hi := by unfold hiAt; rw [Int.toNat_natCast, nds_get hr]; rfl
              obtain ⟨L, hL⟩ : ∃ L, max 0 (maxTo (nds os) (kids.take m)) = L := ⟨_, rfl⟩
              obtain ⟨L2, hL2⟩ : ∃ L2, max 0 (maxTo (nds os) (kids.take (m + 1))) = L2 := ⟨_, rfl⟩
              have hmx : (if L < r.nd.hi then r.nd.hi else L) = L2 := by rw [max_name, ← hL2, hms, hha, ← hL]; omega
              rw [hL]
              have HL2 := Lib.hid hL2
              have HX := Lib.hid hx.out
              have pkc := PKC.out
              have i0 : (ci : Int) < (ps.length : Int) := by omega
              have i1 : (0 : Int) ≤ (ci : Int) := by omega
              clear hat O14 hck hxm hr hms hha hL hL2 hx YX hc1 p0 p1 p2 p3 p4 p5 p7
              go_wp2_with fail
              go_roundw
              case rel => exact ⟨m + 1, by omega, by go_num, by rw [HL2.out], Lib.hid (HX.out.trans (by repeat (first | exact Ext.refl _ | refine Ext.alloc ?_ _ | refine Ext.more ?_ _ _ | refine Ext.drew ?_ | refine Ext.drewN ?_ _ | refine Ext.setCell ?_ (by simp <;> omega) _)))⟩
              case measure => simp [intOf]; omega
            · obtain rfl : m = kids.length := by omega
              rw [List.take_length, HTM.out]
              clear O14 hlt hm
              have YX := hx.out
              clear hx
              have B17 := Lib.hid (ext_block B13.out YX)
              have E17 := Lib.hid (ext_block E13.out YX)
              have O17 := Lib.hid (O13.out.ext YX)
              have Z17 := Lib.hid (Z13.out.trans YX)
              clear B13 E13 O13 Z13 YX
              obtain ⟨LE, hLE⟩ : ∃ LE, max 0 TM = LE := ⟨_, rfl⟩
              obtain ⟨H1, hH1⟩ : ∃ H1, max LE eh = H1 := ⟨_, rfl⟩
              obtain ⟨K1, hK1⟩ : ∃ K1, max (1) ek = K1 := ⟨_, rfl⟩
              rw [hLE]
              have m1 : (if LE < eh then eh else LE) = H1 := by rw [max_name]; exact hH1
              have m2 : (if 1 < ek then ek else 1) = K1 := by rw [max_name]; exact hK1
              have hb1 := HSB.out
              have hb2 := HT0'.out
              have HLB := Lib.hid (show (-4294967296 ≤ LE ∧ LE ≤ 8589934592) ∧ (-4294967296 ≤ H1 ∧ H1 ≤ 8589934592) ∧ (-4294967297 ≤ K1 ∧ K1 ≤ 8589934592) from by omega)
              have w1 : IntKind.i64.wrap (0 + 1) = 1 := IntWalk.i64_in _ (by omega)
              have HLE := Lib.hid hLE
              have HH1 := Lib.hid hH1
              have HK1 := Lib.hid hK1
              clear hLE hH1 hK1 hb1 hb2
              have hat := O17.out.atSet HJO.out
              have HCL := Lib.hid hat.lo
              have HGS := Lib.hid hat.lt
              clear hat
              have KX : Hid (∀ x : EdC wr g (j * 8 + 2) bp be, x.V.cell? ⟨g, j * 8 + 2, none⟩ = some (.int .i64 0) ∧ x.V.cell? ⟨bp, 4, none⟩ = some (.int .i64 hi) ∧ x.V.cell? ⟨bp, 5, none⟩ = some (.int .i64 look) ∧ x.V.cell? ⟨be, 0, none⟩ = some (.int .i64 a) ∧ x.V.cell? ⟨be, 1, none⟩ = some (.int .i64 d) ∧ x.V.cell? ⟨be, 2, none⟩ = some (.int .i64 i) ∧ bp < x.V.heap.size ∧ be < x.V.heap.size ∧ g < x.V.heap.size) := Lib.hid (fun x => by
                obtain ⟨_, _, _, _, p4, p5, _, _, pl⟩ := pt_cells (x.par.trans B17.out)
                obtain ⟨e0, e1, e2, el⟩ := ed_cells (x.box.trans E17.out)
                exact ⟨x.cel.trans HCL.out, p4, p5, e0, e1, e2, pl, el, Nat.lt_of_lt_of_le HGS.out x.sz⟩)
              have kx0 := fun x => (KX.out x).1
              have kx1 := fun x => (KX.out x).2.1
              have kx2 := fun x => (KX.out x).2.2.1
              have kx3 := fun x => (KX.out x).2.2.2.1
              have kx4 := fun x => (KX.out x).2.2.2.2.1
              have kx5 := fun x => (KX.out x).2.2.2.2.2.1
              have kx6 := fun x => (KX.out x).2.2.2.2.2.2.1
              have kx7 := fun x => (KX.out x).2.2.2.2.2.2.2.1
              have kx8 := fun x => (KX.out x).2.2.2.2.2.2.2.2
              have hbl := lt_of_heap B17.out
              have hel := lt_of_heap E17.out
              go_upto_region 18 with fail
              clear p0 p1 p2 p3 p4 p5 p6 p7 pl
              refine wp_region_btC (T := EdC wr g (j * 8 + 2) bp be) EdC.V (26) (softs_bt [0, 1, 2, 3, 4, 5, 6, 7, 10, 11, 12, 13, 14, 15, 16, 17, 18] (.step 8 (softs_bt [9] (.step 19 (softs_bt [20, 21, 22] (.step 23 (softs_bt [24, 25] (.step 26 .fin)))))))) (by kernel_rfl) (by kernel_rfl) ⟨⟨wr.drew, rfl, rfl, rfl, Nat.le_refl _⟩, rfl⟩ ?_
              (refine bt_softs _ fun K hK => ?_); (simp only [pick, nthC]); (repeat (go_big_quiet_step (fail))); (refine wpQuiet_nil (hK _ ?_)); (clear hK K)
              clear kx0 kx1 kx2 kx3 kx4 kx5 kx6 kx7 kx8
              (refine bt_step fun next hn => ?_); (simp only [pick, nthC])
              go_wp2_with fail
              refine (CH.out _).mono ?_
              rintro e V1 ⟨rfl, hv1⟩
              have Y1 : Hid (Ext wr V1) := Lib.hid (((Ext.refl wr).drew).trans hv1)
              clear hv1
              go_wp2_with fail
              refine segQ_mk (fun _ => edc_ext HGS.out hbl hel Y1.out) (hn _ _ ?_)
              clear hn next
              (refine bt_softs _ fun K hK => ?_); (simp only [pick, nthC]); (repeat (go_big_quiet_step (fail))); (refine wpQuiet_nil (hK _ ?_)); (clear hK K)
              (refine bt_step fun next hn => ?_); (simp only [pick, nthC])
              go_wp2_with fail
              refine (CK.out _).mono ?_
              rintro e V2 ⟨rfl, hv2⟩
              have Y2 : Hid (Ext wr V2) := Lib.hid (Y1.out.trans hv2)
              clear hv2 Y1
              go_wp2_with fail
              refine segQ_mk (fun _ => edc_ext HGS.out hbl hel Y2.out) (hn _ _ ?_)
              clear hn next
              (refine bt_softs _ fun K hK => ?_); (simp only [pick, nthC]); (repeat (go_big_quiet_step (fail))); (refine wpQuiet_nil (hK _ ?_)); (clear hK K)
              have YX := Y2.out
              have BV := Lib.hid (ext_block B17.out YX)
              have EV := Lib.hid (ext_block E17.out YX)
              have OV := Lib.hid (O17.out.ext YX)
              have ZV := Lib.hid (Z17.out.trans YX)
              clear B17 E17 O17 Z17
              have hat := OV.out.atSet HJO.out
              have cc4 := hat.hi
              have ff4 := hat.frozen (j * 8 + 4)
              have lg := hat.lt
              dsimp only at cc4
              obtain ⟨W18, hW18⟩ : ∃ W18, V2.setCell ⟨g, j * 8 + 4, none⟩ (.int .i64 H1) = W18 := ⟨_, rfl⟩
              have O18 : Hid (OwnP W18 w.heap.size (some ⟨g, 0, none⟩) c2 (os.set j ⟨⟨sym, 1, 0, inn, H1, look, kids, met⟩, qA, qc⟩)) := Lib.hid (by rw [← hW18]; exact OV.out.putAt HJO.out (by omega) rfl ⟨rfl, rfl, rfl⟩ (by have f := FQ.out; exact ⟨f.sym, f.kind, (by show I64 (0); unfold I64; have h1 := HNB.out; have h2 := HSB.out; have h3 := HT0'.out; omega), f.inn, (by show I64 (H1); unfold I64; have h1 := HLB.out; have h2 := HNB.out; omega), f.look, f.met, f.ks⟩))
              have B18 : Hid (W18.heap[bp]? = some (.cells #[.int .i64 sym, .int .i64 1, .int .i64 lo, .int .i64 inn, .int .i64 hi, .int .i64 look, .slice pA kids.length pc, .int .u64 met] 33)) := Lib.hid (by rw [← hW18, blk_set HPG.out]; exact BV.out)
              have E18 : Hid (W18.heap[be]? = some (.cells #[.int .i64 a, .int .i64 d, .int .i64 i] 63)) := Lib.hid (by rw [← hW18, blk_set HEG.out]; exact EV.out)
              have Z18 : Hid (Ext w W18) := Lib.hid (by rw [← hW18]; exact ZV.out.setCell HBG.out _)
              (refine bt_step fun next hn => ?_); (simp only [pick, nthC])
              go_wp2_with fail
              refine segQ_mk (fun _ => by rw [← hW18]; exact edc_set HGS.out hbl hel YX (by omega) HPG.out HEG.out) (hn _ _ ?_)
              clear hn next hat cc4 ff4 lg hW18 OV BV EV ZV YX Y2 m1
              (refine bt_softs _ fun K hK => ?_); (simp only [pick, nthC]); (repeat (go_big_quiet_step (fail))); (refine wpQuiet_nil (hK _ ?_)); (clear hK K)
              have hat := O18.out.atSet HJO.out
              have cc5 := hat.look
              have ff5 := hat.frozen (j * 8 + 5)
              have lg := hat.lt
              dsimp only at cc5
              obtain ⟨W19, hW19⟩ : ∃ W19, W18.setCell ⟨g, j * 8 + 5, none⟩ (.int .i64 K1) = W19 := ⟨_, rfl⟩
              have O19 : Hid (OwnP W19 w.heap.size (some ⟨g, 0, none⟩) c2 (os.set j ⟨⟨sym, 1, 0, inn, H1, K1, kids, met⟩, qA, qc⟩)) := Lib.hid (by rw [← hW19]; exact O18.out.putAt HJO.out (by omega) rfl ⟨rfl, rfl, rfl⟩ (by have f := FQ.out; exact ⟨f.sym, f.kind, (by show I64 (0); unfold I64; have h1 := HNB.out; have h2 := HSB.out; have h3 := HT0'.out; omega), f.inn, (by show I64 (H1); unfold I64; have h1 := HLB.out; have h2 := HNB.out; omega), (by show I64 (K1); unfold I64; have h1 := HLB.out; have h2 := HNB.out; omega), f.met, f.ks⟩))
              have B19 : Hid (W19.heap[bp]? = some (.cells #[.int .i64 sym, .int .i64 1, .int .i64 lo, .int .i64 inn, .int .i64 hi, .int .i64 look, .slice pA kids.length pc, .int .u64 met] 33)) := Lib.hid (by rw [← hW19, blk_set HPG.out]; exact B18.out)
              have E19 : Hid (W19.heap[be]? = some (.cells #[.int .i64 a, .int .i64 d, .int .i64 i] 63)) := Lib.hid (by rw [← hW19, blk_set HEG.out]; exact E18.out)
              have Z19 : Hid (Ext w W19) := Lib.hid (by rw [← hW19]; exact Z18.out.setCell HBG.out _)
              (refine bt_step fun next hn => ?_); (simp only [pick, nthC])
              go_wp2_with fail
              refine segQ_mk (fun h => absurd rfl h) (hn _ _ ?_)
              clear hn next hat cc5 ff5 lg hW19 O18 B18 E18 Z18 m2 w1 hbl hel HGS HCL
              (refine bt_fin ?_)
              obtain ⟨p0, p1, p2, p3, p4, p5, p6, p7, pl⟩ := pt_cells B19.out
              obtain ⟨e0, e1, e2, el⟩ := ed_cells E19.out
              go_upto_region 19 with fail
              refine wp_region_bt (4) (softs_bt [0, 2] (.step 1 (.step 3 .fin))) (by kernel_rfl) (by kernel_rfl) ?_
              (refine bt_softs _ fun K hK => ?_); (simp only [pick, nthC]); (repeat (go_big_quiet_step (fail))); (refine wpQuiet_nil (hK _ ?_)); (clear hK K)
              (refine bt_step fun next hn => ?_); (simp only [pick, nthC])
              go_wp2_with fail
              refine (CO.out _).mono ?_
              rintro e V3 ⟨rfl, hv1⟩
              have Y1 : Hid (Ext W19 V3) := Lib.hid (((Ext.refl W19).drew).trans hv1)
              clear hv1
              go_wp2_with fail
              refine segQ_mk (fun _ => laid Y1.out) (hn _ _ ?_)
              clear hn next
              (refine bt_step fun next hn => ?_); (simp only [pick, nthC])
              go_wp2_with fail
              refine (CM.out _).mono ?_
              rintro e W20 ⟨rfl, hv2⟩
              have YX : Ext W19 W20 := Y1.out.trans hv2
              clear hv2
              go_wp2_with fail
              refine segQ_mk (fun _ => laid YX) (hn _ _ ?_)
              clear hn next Y1
              (refine bt_fin ?_)
              clear p0 p1 p2 p3 p4 p5 p6 p7 pl e0 e1 e2 el
              have B20 := Lib.hid (ext_block B19.out YX)
              have E20 := Lib.hid (ext_block E19.out YX)
              have O20 := Lib.hid (O19.out.ext YX)
              have Z20 := Lib.hid (Z19.out.trans YX)
              clear B19 E19 O19 Z19 YX
              obtain ⟨H2, hH2⟩ : ∃ H2, max LE (hi - d + i) = H2 := ⟨_, rfl⟩
              have m4 : (if LE < hi - d + i then hi - d + i else LE) = H2 := by rw [max_name]; exact hH2
              have h1 := HNB.out
              have h2 := HLB.out
              have w3 : wrap64 (hi - d) = hi - d := IntWalk.wrap64_in _ (by omega)
              have w4 : wrap64 (hi - d + i) = hi - d + i := IntWalk.wrap64_in _ (by omega)
              have HHB := Lib.hid (show -4294967296 ≤ H2 ∧ H2 ≤ 8589934592 from by omega)
              have HH2 := Lib.hid hH2
              clear hH2 h1 h2
              obtain ⟨p0, p1, p2, p3, p4, p5, p6, p7, pl⟩ := pt_cells B20.out
              obtain ⟨e0, e1, e2, el⟩ := ed_cells E20.out
              have hat := O20.out.atSet HJO.out
              have cc4 := hat.hi
              have ff4 := hat.frozen (j * 8 + 4)
              have lg := hat.lt
              dsimp only at cc4
              obtain ⟨W23, hW23⟩ : ∃ W23, W20.setCell ⟨g, j * 8 + 4, none⟩ (.int .i64 H2) = W23 := ⟨_, rfl⟩
              have O23 : Hid (OwnP W23 w.heap.size (some ⟨g, 0, none⟩) c2 (os.set j ⟨⟨sym, 1, 0, inn, H2, K1, kids, met⟩, qA, qc⟩)) := Lib.hid (by rw [← hW23]; exact O20.out.putAt HJO.out (by omega) rfl ⟨rfl, rfl, rfl⟩ (by have f := FQ.out; exact ⟨f.sym, f.kind, (by show I64 (0); unfold I64; have h1 := HNB.out; have h2 := HSB.out; have h3 := HT0'.out; omega), f.inn, (by show I64 H2; unfold I64; have h1 := HHB.out; omega), (by show I64 (K1); unfold I64; have h1 := HLB.out; have h2 := HNB.out; omega), f.met, f.ks⟩))
              have B23 : Hid (W23.heap[bp]? = some (.cells #[.int .i64 sym, .int .i64 1, .int .i64 lo, .int .i64 inn, .int .i64 hi, .int .i64 look, .slice pA kids.length pc, .int .u64 met] 33)) := Lib.hid (by rw [← hW23, blk_set HPG.out]; exact B20.out)
              have E23 : Hid (W23.heap[be]? = some (.cells #[.int .i64 a, .int .i64 d, .int .i64 i] 63)) := Lib.hid (by rw [← hW23, blk_set HEG.out]; exact E20.out)
              have Z23 : Hid (Ext w W23) := Lib.hid (by rw [← hW23]; exact Z20.out.setCell HBG.out _)
              clear hat lg
              have hat := O23.out.atSet HJO.out
              have cc5 := hat.look
              have ff5 := hat.frozen (j * 8 + 5)
              have lg := hat.lt
              dsimp only at cc5
              obtain ⟨W24, hW24⟩ : ∃ W24, W23.setCell ⟨g, j * 8 + 5, none⟩ (.int .i64 1) = W24 := ⟨_, rfl⟩
              have O24 : Hid (OwnP W24 w.heap.size (some ⟨g, 0, none⟩) c2 (os.set j ⟨⟨sym, 1, 0, inn, H2, 1, kids, met⟩, qA, qc⟩)) := Lib.hid (by rw [← hW24]; exact O23.out.putAt HJO.out (by omega) rfl ⟨rfl, rfl, rfl⟩ (by have f := FQ.out; exact ⟨f.sym, f.kind, (by show I64 (0); unfold I64; have h1 := HNB.out; have h2 := HSB.out; have h3 := HT0'.out; omega), f.inn, (by show I64 H2; unfold I64; have h1 := HHB.out; omega), (by show I64 (1 : Int); unfold I64; omega), f.met, f.ks⟩))
              have B24 : Hid (W24.heap[bp]? = some (.cells #[.int .i64 sym, .int .i64 1, .int .i64 lo, .int .i64 inn, .int .i64 hi, .int .i64 look, .slice pA kids.length pc, .int .u64 met] 33)) := Lib.hid (by rw [← hW24, blk_set HPG.out]; exact B23.out)
              have E24 : Hid (W24.heap[be]? = some (.cells #[.int .i64 a, .int .i64 d, .int .i64 i] 63)) := Lib.hid (by rw [← hW24, blk_set HEG.out]; exact E23.out)
              have Z24 : Hid (Ext w W24) := Lib.hid (by rw [← hW24]; exact Z23.out.setCell HBG.out _)
              go_upto_region 23 with fail
              clear hat cc4 ff4 cc5 ff5 lg hW23 hW24 m4 w3 w4 O20 B20 E20 Z20 O23 B23 E23 Z23
              clear p0 p1 p2 p3 p4 p5 p6 p7 pl e0 e1 e2 el
              obtain ⟨p0, p1, p2, p3, p4, p5, p6, p7, pl⟩ := pt_cells B24.out
              obtain ⟨e0, e1, e2, el⟩ := ed_cells E24.out
              obtain ⟨M1, hM1⟩ : ∃ M1, max 0 sn = M1 := ⟨_, rfl⟩
              obtain ⟨I1, hI1⟩ : ∃ I1, min M1 H2 = I1 := ⟨_, rfl⟩
              have m5 : (if 0 < sn then sn else 0) = M1 := by rw [max_name]; exact hM1
              have m6 : (if H2 < M1 then H2 else M1) = I1 := by rw [min_name]; exact hI1
              have h1 := HSB.out
              have h2 := HLB.out
              have h3 := HHB.out
              have HIB := Lib.hid (show -4294967296 ≤ I1 ∧ I1 ≤ 8589934592 from by omega)
              have HM1 := Lib.hid hM1
              have HI1 := Lib.hid hI1
              have hat := O24.out.atSet HJO.out
              have oc2 := hat.lo
              have oc4 := hat.hi
              have lg := hat.lt
              dsimp only at oc2 oc4
              clear hat hM1 hI1 h1 h2 h3
              refine wp_region_bt (20) (softs_bt [0, 1, 2, 3, 4, 5, 6, 7, 8, 9, 12, 13, 14, 15, 16] (.step 10 (softs_bt [11, 17, 18, 19] (.step 20 .fin)))) (by kernel_rfl) (by kernel_rfl) ?_
              (refine bt_softs _ fun K hK => ?_); (simp only [pick, nthC]); (repeat (go_big_quiet_step (fail))); (refine wpQuiet_nil (hK _ ?_)); (clear hK K)
              (refine bt_step fun next hn => ?_); (simp only [pick, nthC])
              go_wp2_with fail
              refine (CN.out _).mono ?_
              rintro e V4 ⟨rfl, hv4⟩
              have YX : Ext W24 V4 := ((Ext.refl W24).drew).trans hv4
              clear hv4
              go_wp2_with fail
              refine segQ_mk (fun _ => laid YX) (hn _ _ ?_)
              clear hn next oc2 oc4 lg
              (refine bt_softs _ fun K hK => ?_); (simp only [pick, nthC]); (repeat (go_big_quiet_step (fail))); (refine wpQuiet_nil (hK _ ?_)); (clear hK K)
              have BU := Lib.hid (ext_block B24.out YX)
              have EU := Lib.hid (ext_block E24.out YX)
              have OU := Lib.hid (O24.out.ext YX)
              have ZU := Lib.hid (Z24.out.trans YX)
              clear B24 E24 O24 Z24 YX
              have hat := OU.out.atSet HJO.out
              have cc3 := hat.inn
              have ff3 := hat.frozen (j * 8 + 3)
              have lg := hat.lt
              dsimp only at cc3
              obtain ⟨W25, hW25⟩ : ∃ W25, V4.setCell ⟨g, j * 8 + 3, none⟩ (.int .i64 I1) = W25 := ⟨_, rfl⟩
              have O25 : Hid (OwnP W25 w.heap.size (some ⟨g, 0, none⟩) c2 (os.set j ⟨⟨sym, 1, 0, I1, H2, 1, kids, met⟩, qA, qc⟩)) := Lib.hid (by rw [← hW25]; exact OU.out.putAt HJO.out (by omega) rfl ⟨rfl, rfl, rfl⟩ (by have f := FQ.out; exact ⟨f.sym, f.kind, (by show I64 (0); unfold I64; have h1 := HNB.out; have h2 := HSB.out; have h3 := HT0'.out; omega), (by show I64 I1; unfold I64; have h1 := HIB.out; omega), (by show I64 H2; unfold I64; have h1 := HHB.out; omega), (by show I64 (1 : Int); unfold I64; omega), f.met, f.ks⟩))
              have B25 : Hid (W25.heap[bp]? = some (.cells #[.int .i64 sym, .int .i64 1, .int .i64 lo, .int .i64 inn, .int .i64 hi, .int .i64 look, .slice pA kids.length pc, .int .u64 met] 33)) := Lib.hid (by rw [← hW25, blk_set HPG.out]; exact BU.out)
              have E25 : Hid (W25.heap[be]? = some (.cells #[.int .i64 a, .int .i64 d, .int .i64 i] 63)) := Lib.hid (by rw [← hW25, blk_set HEG.out]; exact EU.out)
              have Z25 : Hid (Ext w W25) := Lib.hid (by rw [← hW25]; exact ZU.out.setCell HBG.out _)
              (refine bt_step fun next hn => ?_); (simp only [pick, nthC])
              go_wp2_with fail
              refine segQ_mk (fun h => absurd rfl h) (hn _ _ ?_)
              clear hn next hat cc3 ff3 lg hW25 OU BU EU ZU m5 m6
              (refine bt_fin ?_)
              clear p0 p1 p2 p3 p4 p5 p6 p7 pl e0 e1 e2 el
              by_cases hz : inn = lo
              · obtain ⟨p0, p1, p2, p3, p4, p5, p6, p7, pl⟩ := pt_cells B25.out
                obtain ⟨e0, e1, e2, el⟩ := ed_cells E25.out
                have qz : (inn == lo) = true := by simp [hz]
                have oc2 := (O25.out.atSet HJO.out).lo
                dsimp only at oc2
                have hat := O25.out.atSet HJO.out
                have cc3 := hat.inn
                have ff3 := hat.frozen (j * 8 + 3)
                have lg := hat.lt
                dsimp only at cc3
                obtain ⟨W26, hW26⟩ : ∃ W26, W25.setCell ⟨g, j * 8 + 3, none⟩ (.int .i64 0) = W26 := ⟨_, rfl⟩
                have O26 : Hid (OwnP W26 w.heap.size (some ⟨g, 0, none⟩) c2 (os.set j ⟨⟨sym, 1, 0, 0, H2, 1, kids, met⟩, qA, qc⟩)) := Lib.hid (by rw [← hW26]; exact O25.out.putAt HJO.out (by omega) rfl ⟨rfl, rfl, rfl⟩ (by have f := FQ.out; exact ⟨f.sym, f.kind, (by show I64 (0); unfold I64; have h1 := HNB.out; have h2 := HSB.out; have h3 := HT0'.out; omega), (by show I64 (0); unfold I64; have h1 := HNB.out; have h2 := HSB.out; have h3 := HT0'.out; omega), (by show I64 H2; unfold I64; have h1 := HHB.out; omega), (by show I64 (1 : Int); unfold I64; omega), f.met, f.ks⟩))
                have B26 : Hid (W26.heap[bp]? = some (.cells #[.int .i64 sym, .int .i64 1, .int .i64 lo, .int .i64 inn, .int .i64 hi, .int .i64 look, .slice pA kids.length pc, .int .u64 met] 33)) := Lib.hid (by rw [← hW26, blk_set HPG.out]; exact B25.out)
                have E26 : Hid (W26.heap[be]? = some (.cells #[.int .i64 a, .int .i64 d, .int .i64 i] 63)) := Lib.hid (by rw [← hW26, blk_set HEG.out]; exact E25.out)
                have Z26 : Hid (Ext w W26) := Lib.hid (by rw [← hW26]; exact Z25.out.setCell HBG.out _)
                have HEF : Hid (EditTo ⟨a, d, i, bitOr bit⟩ (nds ps) j (nds (os.set j ⟨⟨sym, 1, 0, 0, H2, 1, kids, met⟩, qA, qc⟩))) := Lib.hid (by
                  have hed := HED0
                  have hm := of_decide_eq_false HMT.out
                  simp only [eq_self_iff_true, if_true, Int.zero_add, if_neg hm, if_pos hz, HLE.out, HH1.out, HK1.out, HM1.out, HI1.out, HH2.out] at hed
                  unfold nds
                  rw [List.map_set]
                  exact hed)
                have HBF : Hid (∀ q ∈ os.set j ⟨⟨sym, 1, 0, 0, H2, 1, kids, met⟩, qA, qc⟩, -8589934592 ≤ q.nd.hi ∧ q.nd.hi ≤ 8589934592) := Lib.hid (fun q hq => by
                  rcases List.mem_or_eq_of_mem_set hq with hq | rfl
                  · exact HHI2.out q hq
                  · have h1 := HLB.out
                    have h2 := HHB.out
                    show -8589934592 ≤ H2 ∧ H2 ≤ 8589934592
                    omega)
                clear HED0 hz
                go_wp2_with fail
                go_roundw
                case rel => exact ⟨j, os.set j ⟨⟨sym, 1, 0, 0, H2, 1, kids, met⟩, qA, qc⟩, by omega, by rw [List.length_set]; omega, by go_num, Lib.hid (O26.out.ext (by repeat (first | exact Ext.refl _ | refine Ext.alloc ?_ _ | refine Ext.more ?_ _ _ | refine Ext.drew ?_ | refine Ext.drewN ?_ _ | refine Ext.setCell ?_ (by simp <;> omega) _))), HEF, HBF, Lib.hid (ext_block E26.out (by repeat (first | exact Ext.refl _ | refine Ext.alloc ?_ _ | refine Ext.more ?_ _ _ | refine Ext.drew ?_ | refine Ext.drewN ?_ _ | refine Ext.setCell ?_ (by simp <;> omega) _))), Lib.hid (Z26.out.trans (by repeat (first | exact Ext.refl _ | refine Ext.alloc ?_ _ | refine Ext.more ?_ _ _ | refine Ext.drew ?_ | refine Ext.drewN ?_ _ | refine Ext.setCell ?_ (by simp <;> omega) _)))⟩
                case measure => simp [intOf] <;> omega
              · obtain ⟨p0, p1, p2, p3, p4, p5, p6, p7, pl⟩ := pt_cells B25.out
                obtain ⟨e0, e1, e2, el⟩ := ed_cells E25.out
                have qz : (inn == lo) = false := by simp [hz]
                have HEF : Hid (EditTo ⟨a, d, i, bitOr bit⟩ (nds ps) j (nds (os.set j ⟨⟨sym, 1, 0, I1, H2, 1, kids, met⟩, qA, qc⟩))) := Lib.hid (by
                  have hed := HED0
                  have hm := of_decide_eq_false HMT.out
                  simp only [eq_self_iff_true, if_true, Int.zero_add, if_neg hm, if_neg hz, HLE.out, HH1.out, HK1.out, HM1.out, HI1.out, HH2.out] at hed
                  unfold nds
                  rw [List.map_set]
                  exact hed)
                have HBF : Hid (∀ q ∈ os.set j ⟨⟨sym, 1, 0, I1, H2, 1, kids, met⟩, qA, qc⟩, -8589934592 ≤ q.nd.hi ∧ q.nd.hi ≤ 8589934592) := Lib.hid (fun q hq => by
                  rcases List.mem_or_eq_of_mem_set hq with hq | rfl
                  · exact HHI2.out q hq
                  · have h1 := HLB.out
                    have h2 := HHB.out
                    show -8589934592 ≤ H2 ∧ H2 ≤ 8589934592
                    omega)
                clear HED0 hz
                go_wp2_with fail
                go_roundw
                case rel => exact ⟨j, os.set j ⟨⟨sym, 1, 0, I1, H2, 1, kids, met⟩, qA, qc⟩, by omega, by rw [List.length_set]; omega, by go_num, Lib.hid (O25.out.ext (by repeat (first | exact Ext.refl _ | refine Ext.alloc ?_ _ | refine Ext.more ?_ _ _ | refine Ext.drew ?_ | refine Ext.drewN ?_ _ | refine Ext.setCell ?_ (by simp <;> omega) _))), HEF, HBF, Lib.hid (ext_block E25.out (by repeat (first | exact Ext.refl _ | refine Ext.alloc ?_ _ | refine Ext.more ?_ _ _ | refine Ext.drew ?_ | refine Ext.drewN ?_ _ | refine Ext.setCell ?_ (by simp <;> omega) _))), Lib.hid (Z25.out.trans (by repeat (first | exact Ext.refl _ | refine Ext.alloc ?_ _ | refine Ext.more ?_ _ _ | refine Ext.drew ?_ | refine Ext.drewN ?_ _ | refine Ext.setCell ?_ (by simp <;> omega) _)))⟩
                case measure => simp [intOf] <;> omega
      · have qk : (kind == 1) = false := by simpa using hk1
        cases mt with
        | true =>
          have hat := O8.out.atSet HJO.out
          have cc7 := hat.met
          have ff7 := hat.frozen (j * 8 + 7)
          have lg := hat.lt
          dsimp only at cc7
          obtain ⟨W9, hW9⟩ : ∃ W9, W8.setCell ⟨g, j * 8 + 7, none⟩ (.int .u64 (bits .or .u64 met bit)) = W9 := ⟨_, rfl⟩
          have O9 : Hid (OwnP W9 w.heap.size (some ⟨g, 0, none⟩) c2 (os.set j ⟨⟨sym, kind, lo, inn, hi, look, kids, (bits .or .u64 met bit)⟩, qA, qc⟩)) := Lib.hid (by rw [← hW9]; exact O8.out.putAt HJO.out (by omega) rfl ⟨rfl, rfl, rfl⟩ (by have f := FQ.out; exact ⟨f.sym, f.kind, f.lo, f.inn, f.hi, f.look, (bitOr_bd _ _), f.ks⟩))
          have B9 : Hid (W9.heap[bp]? = some (.cells #[.int .i64 sym, .int .i64 kind, .int .i64 lo, .int .i64 inn, .int .i64 hi, .int .i64 look, .slice pA kids.length pc, .int .u64 met] 33)) := Lib.hid (by rw [← hW9, blk_set HPG.out]; exact B8.out)
          have E9 : Hid (W9.heap[be]? = some (.cells #[.int .i64 a, .int .i64 d, .int .i64 i] 63)) := Lib.hid (by rw [← hW9, blk_set HEG.out]; exact E8.out)
          have Z9 : Hid (Ext w W9) := Lib.hid (by rw [← hW9]; exact Z8.out.setCell HBG.out _)
          go_upto_region 10 with fail
          clear hW9 hat cc7 ff7 lg O8 B8 E8 Z8
          obtain ⟨p0, p1, p2, p3, p4, p5, p6, p7, pl⟩ := pt_cells B9.out
          obtain ⟨e0, e1, e2, el⟩ := ed_cells E9.out
          go_wp2_with fail
          refine (CS.out _).mono ?_
          rintro e W10 ⟨rfl, YX⟩
          clear p0 p1 p2 p3 p4 p5 p6 p7 pl e0 e1 e2 el
          have B10 := Lib.hid (ext_block B9.out YX)
          have E10 := Lib.hid (ext_block E9.out YX)
          have O10 := Lib.hid (O9.out.ext YX)
          have Z10 := Lib.hid (Z9.out.trans YX)
          clear B9 E9 O9 Z9 YX
          obtain ⟨p0, p1, p2, p3, p4, p5, p6, p7, pl⟩ := pt_cells B10.out
          obtain ⟨e0, e1, e2, el⟩ := ed_cells E10.out
          have hat := O10.out.atSet HJO.out
          have cc2 := hat.lo
          have ff2 := hat.frozen (j * 8 + 2)
          have lg := hat.lt
          dsimp only at cc2
          obtain ⟨W13, hW13⟩ : ∃ W13, W10.setCell ⟨g, j * 8 + 2, none⟩ (.int .i64 sl) = W13 := ⟨_, rfl⟩
          have O13 : Hid (OwnP W13 w.heap.size (some ⟨g, 0, none⟩) c2 (os.set j ⟨⟨sym, kind, sl, inn, hi, look, kids, (bits .or .u64 met bit)⟩, qA, qc⟩)) := Lib.hid (by rw [← hW13]; exact O10.out.putAt HJO.out (by omega) rfl ⟨rfl, rfl, rfl⟩ (by have f := FQ.out; exact ⟨f.sym, f.kind, (by show I64 (sl); unfold I64; have h1 := HNB.out; have h2 := HSB.out; have h3 := HT0'.out; omega), f.inn, f.hi, f.look, (bitOr_bd _ _), f.ks⟩))
          have B13 : Hid (W13.heap[bp]? = some (.cells #[.int .i64 sym, .int .i64 kind, .int .i64 lo, .int .i64 inn, .int .i64 hi, .int .i64 look, .slice pA kids.length pc, .int .u64 met] 33)) := Lib.hid (by rw [← hW13, blk_set HPG.out]; exact B10.out)
          have E13 : Hid (W13.heap[be]? = some (.cells #[.int .i64 a, .int .i64 d, .int .i64 i] 63)) := Lib.hid (by rw [← hW13, blk_set HEG.out]; exact E10.out)
          have Z13 : Hid (Ext w W13) := Lib.hid (by rw [← hW13]; exact Z10.out.setCell HBG.out _)
          go_upto_region 14 with fail
          clear hW13 hat cc2 ff2 lg O10 B10 E10 Z10
          clear p0 p1 p2 p3 p4 p5 p6 p7 pl e0 e1 e2 el
          obtain ⟨p0, p1, p2, p3, p4, p5, p6, p7, pl⟩ := pt_cells B13.out
          obtain ⟨e0, e1, e2, el⟩ := ed_cells E13.out
          go_wp2_with fail
          clear p0 p1 p2 p3 p4 p5 p6 p7 pl e0 e1 e2 el
          go_loopw [10, 11] (fun v u wi => ∃ m : Nat, m ≤ kids.length ∧ u = .int .i64 m ∧ v = .int .i64 (max sl (maxTo (nds os) (kids.take m))) ∧ Hid (Ext W13 wi)) (fun _ u _ => kids.length - (intOf u).toNat)
          case atStart =>
            refine ⟨0, by omega, rfl, ?_, Lib.hid (by repeat (first | exact Ext.refl _ | refine Ext.alloc ?_ _ | refine Ext.more ?_ _ _ | refine Ext.drew ?_ | refine Ext.drewN ?_ _ | refine Ext.setCell ?_ (by simp <;> omega) _))⟩
            congr 1
            show (sl : Int) = max sl 0
            have := HSL0.out
            omega
          case round =>
            obtain ⟨m, hm, rfl, rfl, hx⟩ := hrel
            have YX := hx.out
            have O14 := O13.out.ext YX
            obtain ⟨p0, p1, p2, p3, p4, p5, p6, p7, pl⟩ := pt_cells (ext_block B13.out YX)
            by_cases hlt : m < kids.length
            · obtain ⟨x, hxm⟩ : ∃ x, kids[m]? = some x := ⟨_, List.getElem?_eq_getElem hlt⟩
              obtain ⟨ci, rfl, hc1, hc2⟩ := HKB.out x (List.mem_of_getElem? hxm)
              rw [nds_length] at hc2
              obtain ⟨r, hr⟩ : ∃ r, os[ci]? = some r := ⟨_, List.getElem?_eq_getElem (by omega)⟩
              have hat := O14.at (i := ci) (q := r) (by rw [List.getElem?_set_ne (by omega)]; exact hr)
              have ch := hat.hi
              have lg := hat.lt
              obtain ⟨bk, ok, hpA, hbk, hck⟩ := (HKI.out.ext (Z13.out.trans YX)) (by show 0 < kids.length; omega)
              have dk := hck m hlt
              rw [List.getD_eq_getElem?_getD, hxm] at dk
              change wr.cell? ⟨bk, ok + m, none⟩ = some (.int .i64 (ci : Int)) at dk
              change pA = _ at hpA
              rw [hpA] at p6
              have hms := maxTo_succ (l := nds os) hxm
              have hha : hiAt (nds os) (ci : Int) = r.nd.hi := by unfold hiAt; rw [Int.toNat_natCast, nds_get hr]; rfl
              obtain ⟨L, hL⟩ : ∃ L, max sl (maxTo (nds os) (kids.take m)) = L := ⟨_, rfl⟩
              obtain ⟨L2, hL2⟩ : ∃ L2, max sl (maxTo (nds os) (kids.take (m + 1))) = L2 := ⟨_, rfl⟩
              have hmx : (if L < r.nd.hi then r.nd.hi else L) = L2 := by rw [max_name, ← hL2, hms, hha, ← hL]; omega
              rw [hL]
              have HL2 := Lib.hid hL2
              have HX := Lib.hid hx.out
              have pkc := PKC.out
              have i0 : (ci : Int) < (ps.length : Int) := by omega
              have i1 : (0 : Int) ≤ (ci : Int) := by omega
              clear hat O14 hck hxm hr hms hha hL hL2 hx YX hc1 p0 p1 p2 p3 p4 p5 p7
              go_wp2_with fail
              go_roundw
              case rel => exact ⟨m + 1, by omega, by go_num, by rw [HL2.out], Lib.hid (HX.out.trans (by repeat (first | exact Ext.refl _ | refine Ext.alloc ?_ _ | refine Ext.more ?_ _ _ | refine Ext.drew ?_ | refine Ext.drewN ?_ _ | refine Ext.setCell ?_ (by simp <;> omega) _)))⟩
              case measure => simp [intOf]; omega
            · obtain rfl : m = kids.length := by omega
              rw [List.take_length, HTM.out]
              clear O14 hlt hm
              have YX := hx.out
              clear hx
              have B17 := Lib.hid (ext_block B13.out YX)
              have E17 := Lib.hid (ext_block E13.out YX)
              have O17 := Lib.hid (O13.out.ext YX)
              have Z17 := Lib.hid (Z13.out.trans YX)
              clear B13 E13 O13 Z13 YX
              obtain ⟨LE, hLE⟩ : ∃ LE, max sl TM = LE := ⟨_, rfl⟩
              obtain ⟨H1, hH1⟩ : ∃ H1, max LE eh = H1 := ⟨_, rfl⟩
              obtain ⟨K1, hK1⟩ : ∃ K1, max (sl + 1) ek = K1 := ⟨_, rfl⟩
              rw [hLE]
              have m1 : (if LE < eh then eh else LE) = H1 := by rw [max_name]; exact hH1
              have m2 : (if sl + 1 < ek then ek else sl + 1) = K1 := by rw [max_name]; exact hK1
              have hb1 := HSB.out
              have hb2 := HT0'.out
              have HLB := Lib.hid (show (-4294967296 ≤ LE ∧ LE ≤ 8589934592) ∧ (-4294967296 ≤ H1 ∧ H1 ≤ 8589934592) ∧ (-4294967297 ≤ K1 ∧ K1 ≤ 8589934592) from by omega)
              have w1 : IntKind.i64.wrap (sl + 1) = sl + 1 := IntWalk.i64_in _ (by omega)
              have HLE := Lib.hid hLE
              have HH1 := Lib.hid hH1
              have HK1 := Lib.hid hK1
              clear hLE hH1 hK1 hb1 hb2
              have hat := O17.out.atSet HJO.out
              have HCL := Lib.hid hat.lo
              have HGS := Lib.hid hat.lt
              clear hat
              have KX : Hid (∀ x : EdC wr g (j * 8 + 2) bp be, x.V.cell? ⟨g, j * 8 + 2, none⟩ = some (.int .i64 sl) ∧ x.V.cell? ⟨bp, 4, none⟩ = some (.int .i64 hi) ∧ x.V.cell? ⟨bp, 5, none⟩ = some (.int .i64 look) ∧ x.V.cell? ⟨be, 0, none⟩ = some (.int .i64 a) ∧ x.V.cell? ⟨be, 1, none⟩ = some (.int .i64 d) ∧ x.V.cell? ⟨be, 2, none⟩ = some (.int .i64 i) ∧ bp < x.V.heap.size ∧ be < x.V.heap.size ∧ g < x.V.heap.size) := Lib.hid (fun x => by
                obtain ⟨_, _, _, _, p4, p5, _, _, pl⟩ := pt_cells (x.par.trans B17.out)
                obtain ⟨e0, e1, e2, el⟩ := ed_cells (x.box.trans E17.out)
                exact ⟨x.cel.trans HCL.out, p4, p5, e0, e1, e2, pl, el, Nat.lt_of_lt_of_le HGS.out x.sz⟩)
              have kx0 := fun x => (KX.out x).1
              have kx1 := fun x => (KX.out x).2.1
              have kx2 := fun x => (KX.out x).2.2.1
              have kx3 := fun x => (KX.out x).2.2.2.1
              have kx4 := fun x => (KX.out x).2.2.2.2.1
              have kx5 := fun x => (KX.out x).2.2.2.2.2.1
              have kx6 := fun x => (KX.out x).2.2.2.2.2.2.1
              have kx7 := fun x => (KX.out x).2.2.2.2.2.2.2.1
              have kx8 := fun x => (KX.out x).2.2.2.2.2.2.2.2
              have hbl := lt_of_heap B17.out
              have hel := lt_of_heap E17.out
              go_upto_region 18 with fail
              clear p0 p1 p2 p3 p4 p5 p6 p7 pl
              refine wp_region_btC (T := EdC wr g (j * 8 + 2) bp be) EdC.V (26) (softs_bt [0, 1, 2, 3, 4, 5, 6, 7, 10, 11, 12, 13, 14, 15, 16, 17, 18] (.step 8 (softs_bt [9] (.step 19 (softs_bt [20, 21, 22] (.step 23 (softs_bt [24, 25] (.step 26 .fin)))))))) (by kernel_rfl) (by kernel_rfl) ⟨⟨wr.drew, rfl, rfl, rfl, Nat.le_refl _⟩, rfl⟩ ?_
              (refine bt_softs _ fun K hK => ?_); (simp only [pick, nthC]); (repeat (go_big_quiet_step (fail))); (refine wpQuiet_nil (hK _ ?_)); (clear hK K)
              clear kx0 kx1 kx2 kx3 kx4 kx5 kx6 kx7 kx8
              (refine bt_step fun next hn => ?_); (simp only [pick, nthC])
              go_wp2_with fail
              refine (CH.out _).mono ?_
              rintro e V1 ⟨rfl, hv1⟩
              have Y1 : Hid (Ext wr V1) := Lib.hid (((Ext.refl wr).drew).trans hv1)
              clear hv1
              go_wp2_with fail
              refine segQ_mk (fun _ => edc_ext HGS.out hbl hel Y1.out) (hn _ _ ?_)
              clear hn next
              (refine bt_softs _ fun K hK => ?_); (simp only [pick, nthC]); (repeat (go_big_quiet_step (fail))); (refine wpQuiet_nil (hK _ ?_)); (clear hK K)
              (refine bt_step fun next hn => ?_); (simp only [pick, nthC])
              go_wp2_with fail
              refine (CK.out _).mono ?_
              rintro e V2 ⟨rfl, hv2⟩
              have Y2 : Hid (Ext wr V2) := Lib.hid (Y1.out.trans hv2)
              clear hv2 Y1
              go_wp2_with fail
              refine segQ_mk (fun _ => edc_ext HGS.out hbl hel Y2.out) (hn _ _ ?_)
              clear hn next
              (refine bt_softs _ fun K hK => ?_); (simp only [pick, nthC]); (repeat (go_big_quiet_step (fail))); (refine wpQuiet_nil (hK _ ?_)); (clear hK K)
              have YX := Y2.out
              have BV := Lib.hid (ext_block B17.out YX)
              have EV := Lib.hid (ext_block E17.out YX)
              have OV := Lib.hid (O17.out.ext YX)
              have ZV := Lib.hid (Z17.out.trans YX)
              clear B17 E17 O17 Z17
              have hat := OV.out.atSet HJO.out
              have cc4 := hat.hi
              have ff4 := hat.frozen (j * 8 + 4)
              have lg := hat.lt
              dsimp only at cc4
              obtain ⟨W18, hW18⟩ : ∃ W18, V2.setCell ⟨g, j * 8 + 4, none⟩ (.int .i64 H1) = W18 := ⟨_, rfl⟩
              have O18 : Hid (OwnP W18 w.heap.size (some ⟨g, 0, none⟩) c2 (os.set j ⟨⟨sym, kind, sl, inn, H1, look, kids, (bits .or .u64 met bit)⟩, qA, qc⟩)) := Lib.hid (by rw [← hW18]; exact OV.out.putAt HJO.out (by omega) rfl ⟨rfl, rfl, rfl⟩ (by have f := FQ.out; exact ⟨f.sym, f.kind, (by show I64 (sl); unfold I64; have h1 := HNB.out; have h2 := HSB.out; have h3 := HT0'.out; omega), f.inn, (by show I64 (H1); unfold I64; have h1 := HLB.out; have h2 := HNB.out; omega), f.look, (bitOr_bd _ _), f.ks⟩))
              have B18 : Hid (W18.heap[bp]? = some (.cells #[.int .i64 sym, .int .i64 kind, .int .i64 lo, .int .i64 inn, .int .i64 hi, .int .i64 look, .slice pA kids.length pc, .int .u64 met] 33)) := Lib.hid (by rw [← hW18, blk_set HPG.out]; exact BV.out)
              have E18 : Hid (W18.heap[be]? = some (.cells #[.int .i64 a, .int .i64 d, .int .i64 i] 63)) := Lib.hid (by rw [← hW18, blk_set HEG.out]; exact EV.out)
              have Z18 : Hid (Ext w W18) := Lib.hid (by rw [← hW18]; exact ZV.out.setCell HBG.out _)
              (refine bt_step fun next hn => ?_); (simp only [pick, nthC])
              go_wp2_with fail
              refine segQ_mk (fun _ => by rw [← hW18]; exact edc_set HGS.out hbl hel YX (by omega) HPG.out HEG.out) (hn _ _ ?_)
              clear hn next hat cc4 ff4 lg hW18 OV BV EV ZV YX Y2 m1
              (refine bt_softs _ fun K hK => ?_); (simp only [pick, nthC]); (repeat (go_big_quiet_step (fail))); (refine wpQuiet_nil (hK _ ?_)); (clear hK K)
              have hat := O18.out.atSet HJO.out
              have cc5 := hat.look
              have ff5 := hat.frozen (j * 8 + 5)
              have lg := hat.lt
              dsimp only at cc5
              obtain ⟨W19, hW19⟩ : ∃ W19, W18.setCell ⟨g, j * 8 + 5, none⟩ (.int .i64 K1) = W19 := ⟨_, rfl⟩
              have O19 : Hid (OwnP W19 w.heap.size (some ⟨g, 0, none⟩) c2 (os.set j ⟨⟨sym, kind, sl, inn, H1, K1, kids, (bits .or .u64 met bit)⟩, qA, qc⟩)) := Lib.hid (by rw [← hW19]; exact O18.out.putAt HJO.out (by omega) rfl ⟨rfl, rfl, rfl⟩ (by have f := FQ.out; exact ⟨f.sym, f.kind, (by show I64 (sl); unfold I64; have h1 := HNB.out; have h2 := HSB.out; have h3 := HT0'.out; omega), f.inn, (by show I64 (H1); unfold I64; have h1 := HLB.out; have h2 := HNB.out; omega), (by show I64 (K1); unfold I64; have h1 := HLB.out; have h2 := HNB.out; omega), (bitOr_bd _ _), f.ks⟩))
              have B19 : Hid (W19.heap[bp]? = some (.cells #[.int .i64 sym, .int .i64 kind, .int .i64 lo, .int .i64 inn, .int .i64 hi, .int .i64 look, .slice pA kids.length pc, .int .u64 met] 33)) := Lib.hid (by rw [← hW19, blk_set HPG.out]; exact B18.out)
              have E19 : Hid (W19.heap[be]? = some (.cells #[.int .i64 a, .int .i64 d, .int .i64 i] 63)) := Lib.hid (by rw [← hW19, blk_set HEG.out]; exact E18.out)
              have Z19 : Hid (Ext w W19) := Lib.hid (by rw [← hW19]; exact Z18.out.setCell HBG.out _)
              (refine bt_step fun next hn => ?_); (simp only [pick, nthC])
              go_wp2_with fail
              refine segQ_mk (fun h => absurd rfl h) (hn _ _ ?_)
              clear hn next hat cc5 ff5 lg hW19 O18 B18 E18 Z18 m2 w1 hbl hel HGS HCL
              (refine bt_fin ?_)
              obtain ⟨p0, p1, p2, p3, p4, p5, p6, p7, pl⟩ := pt_cells B19.out
              obtain ⟨e0, e1, e2, el⟩ := ed_cells E19.out
              go_upto_region 19 with fail
              refine wp_region_bt (4) (softs_bt [0, 2] (.step 1 (.step 3 .fin))) (by kernel_rfl) (by kernel_rfl) ?_
              (refine bt_softs _ fun K hK => ?_); (simp only [pick, nthC]); (repeat (go_big_quiet_step (fail))); (refine wpQuiet_nil (hK _ ?_)); (clear hK K)
              (refine bt_step fun next hn => ?_); (simp only [pick, nthC])
              go_wp2_with fail
              refine (CO.out _).mono ?_
              rintro e V3 ⟨rfl, hv1⟩
              have Y1 : Hid (Ext W19 V3) := Lib.hid (((Ext.refl W19).drew).trans hv1)
              clear hv1
              go_wp2_with fail
              refine segQ_mk (fun _ => laid Y1.out) (hn _ _ ?_)
              clear hn next
              (refine bt_step fun next hn => ?_); (simp only [pick, nthC])
              go_wp2_with fail
              refine (CM.out _).mono ?_
              rintro e W20 ⟨rfl, hv2⟩
              have YX : Ext W19 W20 := Y1.out.trans hv2
              clear hv2
              go_wp2_with fail
              refine segQ_mk (fun _ => laid YX) (hn _ _ ?_)
              clear hn next Y1
              (refine bt_fin ?_)
              clear p0 p1 p2 p3 p4 p5 p6 p7 pl e0 e1 e2 el
              have B20 := Lib.hid (ext_block B19.out YX)
              have E20 := Lib.hid (ext_block E19.out YX)
              have O20 := Lib.hid (O19.out.ext YX)
              have Z20 := Lib.hid (Z19.out.trans YX)
              clear B19 E19 O19 Z19 YX
              obtain ⟨p0, p1, p2, p3, p4, p5, p6, p7, pl⟩ := pt_cells B20.out
              obtain ⟨e0, e1, e2, el⟩ := ed_cells E20.out
              obtain ⟨K2, hK2⟩ : ∃ K2, max K1 (a + 1) = K2 := ⟨_, rfl⟩
              have m3 : (if K1 < a + 1 then a + 1 else K1) = K2 := by rw [max_name]; exact hK2
              have h1 := HNB.out
              have h2 := HLB.out
              have w2 : IntKind.i64.wrap (a + 1) = a + 1 := IntWalk.i64_in _ (by omega)
              have HKB2 := Lib.hid (show -4294967297 ≤ K2 ∧ K2 ≤ 8589934592 from by omega)
              have HK2 := Lib.hid hK2
              clear hK2 h1 h2
              have hat := O20.out.atSet HJO.out
              have cc5 := hat.look
              have ff5 := hat.frozen (j * 8 + 5)
              have lg := hat.lt
              dsimp only at cc5
              obtain ⟨W22, hW22⟩ : ∃ W22, W20.setCell ⟨g, j * 8 + 5, none⟩ (.int .i64 K2) = W22 := ⟨_, rfl⟩
              have O22 : Hid (OwnP W22 w.heap.size (some ⟨g, 0, none⟩) c2 (os.set j ⟨⟨sym, kind, sl, inn, H1, K2, kids, (bits .or .u64 met bit)⟩, qA, qc⟩)) := Lib.hid (by rw [← hW22]; exact O20.out.putAt HJO.out (by omega) rfl ⟨rfl, rfl, rfl⟩ (by have f := FQ.out; exact ⟨f.sym, f.kind, (by show I64 (sl); unfold I64; have h1 := HNB.out; have h2 := HSB.out; have h3 := HT0'.out; omega), f.inn, (by show I64 (H1); unfold I64; have h1 := HLB.out; have h2 := HNB.out; omega), (by show I64 K2; unfold I64; have h1 := HKB2.out; omega), (bitOr_bd _ _), f.ks⟩))
              have B22 : Hid (W22.heap[bp]? = some (.cells #[.int .i64 sym, .int .i64 kind, .int .i64 lo, .int .i64 inn, .int .i64 hi, .int .i64 look, .slice pA kids.length pc, .int .u64 met] 33)) := Lib.hid (by rw [← hW22, blk_set HPG.out]; exact B20.out)
              have E22 : Hid (W22.heap[be]? = some (.cells #[.int .i64 a, .int .i64 d, .int .i64 i] 63)) := Lib.hid (by rw [← hW22, blk_set HEG.out]; exact E20.out)
              have Z22 : Hid (Ext w W22) := Lib.hid (by rw [← hW22]; exact Z20.out.setCell HBG.out _)
              go_upto_region 20 with fail
              refine wp_region_bt (13) (softs_bt [0, 1, 2, 3, 4, 5, 6, 7, 8, 9, 10, 11, 12] (.step 13 .fin)) (by kernel_rfl) (by kernel_rfl) ?_
              (refine bt_softs _ fun K hK => ?_); (simp only [pick, nthC]); (repeat (go_big_quiet_step (fail))); (refine wpQuiet_nil (hK _ ?_)); (clear hK K)
              (refine bt_step fun next hn => ?_); (simp only [pick, nthC])
              go_wp2_with fail
              refine segQ_mk (fun h => absurd rfl h) (hn _ _ ?_)
              clear hn next hat cc5 ff5 lg hW22 O20 B20 E20 Z20 m3 w2
              (refine bt_fin ?_)
              clear p0 p1 p2 p3 p4 p5 p6 p7 pl e0 e1 e2 el
              obtain ⟨p0, p1, p2, p3, p4, p5, p6, p7, pl⟩ := pt_cells B22.out
              obtain ⟨e0, e1, e2, el⟩ := ed_cells E22.out
              go_upto_region 23 with fail
              clear p0 p1 p2 p3 p4 p5 p6 p7 pl e0 e1 e2 el
              obtain ⟨p0, p1, p2, p3, p4, p5, p6, p7, pl⟩ := pt_cells B22.out
              obtain ⟨e0, e1, e2, el⟩ := ed_cells E22.out
              obtain ⟨M1, hM1⟩ : ∃ M1, max sl sn = M1 := ⟨_, rfl⟩
              obtain ⟨I1, hI1⟩ : ∃ I1, min M1 H1 = I1 := ⟨_, rfl⟩
              have m5 : (if sl < sn then sn else sl) = M1 := by rw [max_name]; exact hM1
              have m6 : (if H1 < M1 then H1 else M1) = I1 := by rw [min_name]; exact hI1
              have h1 := HSB.out
              have h2 := HLB.out
              have HIB := Lib.hid (show -4294967296 ≤ I1 ∧ I1 ≤ 8589934592 from by omega)
              have HM1 := Lib.hid hM1
              have HI1 := Lib.hid hI1
              have hat := O22.out.atSet HJO.out
              have oc2 := hat.lo
              have oc4 := hat.hi
              have lg := hat.lt
              dsimp only at oc2 oc4
              clear hat hM1 hI1 h1 h2
              refine wp_region_bt (20) (softs_bt [0, 1, 2, 3, 4, 5, 6, 7, 8, 9, 12, 13, 14, 15, 16] (.step 10 (softs_bt [11, 17, 18, 19] (.step 20 .fin)))) (by kernel_rfl) (by kernel_rfl) ?_
              (refine bt_softs _ fun K hK => ?_); (simp only [pick, nthC]); (repeat (go_big_quiet_step (fail))); (refine wpQuiet_nil (hK _ ?_)); (clear hK K)
              (refine bt_step fun next hn => ?_); (simp only [pick, nthC])
              go_wp2_with fail
              refine (CN.out _).mono ?_
              rintro e V4 ⟨rfl, hv4⟩
              have YX : Ext W22 V4 := ((Ext.refl W22).drew).trans hv4
              clear hv4
              go_wp2_with fail
              refine segQ_mk (fun _ => laid YX) (hn _ _ ?_)
              clear hn next oc2 oc4 lg
              (refine bt_softs _ fun K hK => ?_); (simp only [pick, nthC]); (repeat (go_big_quiet_step (fail))); (refine wpQuiet_nil (hK _ ?_)); (clear hK K)
              have BU := Lib.hid (ext_block B22.out YX)
              have EU := Lib.hid (ext_block E22.out YX)
              have OU := Lib.hid (O22.out.ext YX)
              have ZU := Lib.hid (Z22.out.trans YX)
              clear B22 E22 O22 Z22 YX
              have hat := OU.out.atSet HJO.out
              have cc3 := hat.inn
              have ff3 := hat.frozen (j * 8 + 3)
              have lg := hat.lt
              dsimp only at cc3
              obtain ⟨W25, hW25⟩ : ∃ W25, V4.setCell ⟨g, j * 8 + 3, none⟩ (.int .i64 I1) = W25 := ⟨_, rfl⟩
              have O25 : Hid (OwnP W25 w.heap.size (some ⟨g, 0, none⟩) c2 (os.set j ⟨⟨sym, kind, sl, I1, H1, K2, kids, (bits .or .u64 met bit)⟩, qA, qc⟩)) := Lib.hid (by rw [← hW25]; exact OU.out.putAt HJO.out (by omega) rfl ⟨rfl, rfl, rfl⟩ (by have f := FQ.out; exact ⟨f.sym, f.kind, (by show I64 (sl); unfold I64; have h1 := HNB.out; have h2 := HSB.out; have h3 := HT0'.out; omega), (by show I64 I1; unfold I64; have h1 := HIB.out; omega), (by show I64 (H1); unfold I64; have h1 := HLB.out; have h2 := HNB.out; omega), (by show I64 K2; unfold I64; have h1 := HKB2.out; omega), (bitOr_bd _ _), f.ks⟩))
              have B25 : Hid (W25.heap[bp]? = some (.cells #[.int .i64 sym, .int .i64 kind, .int .i64 lo, .int .i64 inn, .int .i64 hi, .int .i64 look, .slice pA kids.length pc, .int .u64 met] 33)) := Lib.hid (by rw [← hW25, blk_set HPG.out]; exact BU.out)
              have E25 : Hid (W25.heap[be]? = some (.cells #[.int .i64 a, .int .i64 d, .int .i64 i] 63)) := Lib.hid (by rw [← hW25, blk_set HEG.out]; exact EU.out)
              have Z25 : Hid (Ext w W25) := Lib.hid (by rw [← hW25]; exact ZU.out.setCell HBG.out _)
              (refine bt_step fun next hn => ?_); (simp only [pick, nthC])
              go_wp2_with fail
              refine segQ_mk (fun h => absurd rfl h) (hn _ _ ?_)
              clear hn next hat cc3 ff3 lg hW25 OU BU EU ZU m5 m6
              (refine bt_fin ?_)
              clear p0 p1 p2 p3 p4 p5 p6 p7 pl e0 e1 e2 el
              by_cases hz : inn = lo
              · obtain ⟨p0, p1, p2, p3, p4, p5, p6, p7, pl⟩ := pt_cells B25.out
                obtain ⟨e0, e1, e2, el⟩ := ed_cells E25.out
                have qz : (inn == lo) = true := by simp [hz]
                have oc2 := (O25.out.atSet HJO.out).lo
                dsimp only at oc2
                have hat := O25.out.atSet HJO.out
                have cc3 := hat.inn
                have ff3 := hat.frozen (j * 8 + 3)
                have lg := hat.lt
                dsimp only at cc3
                obtain ⟨W26, hW26⟩ : ∃ W26, W25.setCell ⟨g, j * 8 + 3, none⟩ (.int .i64 sl) = W26 := ⟨_, rfl⟩
                have O26 : Hid (OwnP W26 w.heap.size (some ⟨g, 0, none⟩) c2 (os.set j ⟨⟨sym, kind, sl, sl, H1, K2, kids, (bits .or .u64 met bit)⟩, qA, qc⟩)) := Lib.hid (by rw [← hW26]; exact O25.out.putAt HJO.out (by omega) rfl ⟨rfl, rfl, rfl⟩ (by have f := FQ.out; exact ⟨f.sym, f.kind, (by show I64 (sl); unfold I64; have h1 := HNB.out; have h2 := HSB.out; have h3 := HT0'.out; omega), (by show I64 (sl); unfold I64; have h1 := HNB.out; have h2 := HSB.out; have h3 := HT0'.out; omega), (by show I64 (H1); unfold I64; have h1 := HLB.out; have h2 := HNB.out; omega), (by show I64 K2; unfold I64; have h1 := HKB2.out; omega), (bitOr_bd _ _), f.ks⟩))
                have B26 : Hid (W26.heap[bp]? = some (.cells #[.int .i64 sym, .int .i64 kind, .int .i64 lo, .int .i64 inn, .int .i64 hi, .int .i64 look, .slice pA kids.length pc, .int .u64 met] 33)) := Lib.hid (by rw [← hW26, blk_set HPG.out]; exact B25.out)
                have E26 : Hid (W26.heap[be]? = some (.cells #[.int .i64 a, .int .i64 d, .int .i64 i] 63)) := Lib.hid (by rw [← hW26, blk_set HEG.out]; exact E25.out)
                have Z26 : Hid (Ext w W26) := Lib.hid (by rw [← hW26]; exact Z25.out.setCell HBG.out _)
                have HEF : Hid (EditTo ⟨a, d, i, bitOr bit⟩ (nds ps) j (nds (os.set j ⟨⟨sym, kind, sl, sl, H1, K2, kids, (bits .or .u64 met bit)⟩, qA, qc⟩))) := Lib.hid (by
                  have hed := HED0
                  have hm := of_decide_eq_true HMT.out
                  simp only [if_neg hk1, if_pos hm, if_pos hz, HLE.out, HH1.out, HK1.out, HM1.out, HI1.out, HK2.out] at hed
                  unfold nds
                  rw [List.map_set]
                  exact hed)
                have HBF : Hid (∀ q ∈ os.set j ⟨⟨sym, kind, sl, sl, H1, K2, kids, (bits .or .u64 met bit)⟩, qA, qc⟩, -8589934592 ≤ q.nd.hi ∧ q.nd.hi ≤ 8589934592) := Lib.hid (fun q hq => by
                  rcases List.mem_or_eq_of_mem_set hq with hq | rfl
                  · exact HHI2.out q hq
                  · have h1 := HLB.out
                    skip
                    show -8589934592 ≤ H1 ∧ H1 ≤ 8589934592
                    omega)
                clear HED0 hz
                go_wp2_with fail
                go_roundw
                case rel => exact ⟨j, os.set j ⟨⟨sym, kind, sl, sl, H1, K2, kids, (bits .or .u64 met bit)⟩, qA, qc⟩, by omega, by rw [List.length_set]; omega, by go_num, Lib.hid (O26.out.ext (by repeat (first | exact Ext.refl _ | refine Ext.alloc ?_ _ | refine Ext.more ?_ _ _ | refine Ext.drew ?_ | refine Ext.drewN ?_ _ | refine Ext.setCell ?_ (by simp <;> omega) _))), HEF, HBF, Lib.hid (ext_block E26.out (by repeat (first | exact Ext.refl _ | refine Ext.alloc ?_ _ | refine Ext.more ?_ _ _ | refine Ext.drew ?_ | refine Ext.drewN ?_ _ | refine Ext.setCell ?_ (by simp <;> omega) _))), Lib.hid (Z26.out.trans (by repeat (first | exact Ext.refl _ | refine Ext.alloc ?_ _ | refine Ext.more ?_ _ _ | refine Ext.drew ?_ | refine Ext.drewN ?_ _ | refine Ext.setCell ?_ (by simp <;> omega) _)))⟩
                case measure => simp [intOf] <;> omega
              · obtain ⟨p0, p1, p2, p3, p4, p5, p6, p7, pl⟩ := pt_cells B25.out
                obtain ⟨e0, e1, e2, el⟩ := ed_cells E25.out
                have qz : (inn == lo) = false := by simp [hz]
                have HEF : Hid (EditTo ⟨a, d, i, bitOr bit⟩ (nds ps) j (nds (os.set j ⟨⟨sym, kind, sl, I1, H1, K2, kids, (bits .or .u64 met bit)⟩, qA, qc⟩))) := Lib.hid (by
                  have hed := HED0
                  have hm := of_decide_eq_true HMT.out
                  simp only [if_neg hk1, if_pos hm, if_neg hz, HLE.out, HH1.out, HK1.out, HM1.out, HI1.out, HK2.out] at hed
                  unfold nds
                  rw [List.map_set]
                  exact hed)
                have HBF : Hid (∀ q ∈ os.set j ⟨⟨sym, kind, sl, I1, H1, K2, kids, (bits .or .u64 met bit)⟩, qA, qc⟩, -8589934592 ≤ q.nd.hi ∧ q.nd.hi ≤ 8589934592) := Lib.hid (fun q hq => by
                  rcases List.mem_or_eq_of_mem_set hq with hq | rfl
                  · exact HHI2.out q hq
                  · have h1 := HLB.out
                    skip
                    show -8589934592 ≤ H1 ∧ H1 ≤ 8589934592
                    omega)
                clear HED0 hz
                go_wp2_with fail
                go_roundw
                case rel => exact ⟨j, os.set j ⟨⟨sym, kind, sl, I1, H1, K2, kids, (bits .or .u64 met bit)⟩, qA, qc⟩, by omega, by rw [List.length_set]; omega, by go_num, Lib.hid (O25.out.ext (by repeat (first | exact Ext.refl _ | refine Ext.alloc ?_ _ | refine Ext.more ?_ _ _ | refine Ext.drew ?_ | refine Ext.drewN ?_ _ | refine Ext.setCell ?_ (by simp <;> omega) _))), HEF, HBF, Lib.hid (ext_block E25.out (by repeat (first | exact Ext.refl _ | refine Ext.alloc ?_ _ | refine Ext.more ?_ _ _ | refine Ext.drew ?_ | refine Ext.drewN ?_ _ | refine Ext.setCell ?_ (by simp <;> omega) _))), Lib.hid (Z25.out.trans (by repeat (first | exact Ext.refl _ | refine Ext.alloc ?_ _ | refine Ext.more ?_ _ _ | refine Ext.drew ?_ | refine Ext.drewN ?_ _ | refine Ext.setCell ?_ (by simp <;> omega) _)))⟩
                case measure => simp [intOf] <;> omega
        | false =>
          obtain ⟨p0, p1, p2, p3, p4, p5, p6, p7, pl⟩ := pt_cells B8.out
          obtain ⟨e0, e1, e2, el⟩ := ed_cells E8.out
          go_wp2_with fail
          refine (CS.out _).mono ?_
          rintro e W10 ⟨rfl, YX⟩
          clear p0 p1 p2 p3 p4 p5 p6 p7 pl e0 e1 e2 el
          have B10 := Lib.hid (ext_block B8.out YX)
          have E10 := Lib.hid (ext_block E8.out YX)
          have O10 := Lib.hid (O8.out.ext YX)
          have Z10 := Lib.hid (Z8.out.trans YX)
          clear B8 E8 O8 Z8 YX
          obtain ⟨p0, p1, p2, p3, p4, p5, p6, p7, pl⟩ := pt_cells B10.out
          obtain ⟨e0, e1, e2, el⟩ := ed_cells E10.out
          have hat := O10.out.atSet HJO.out
          have cc2 := hat.lo
          have ff2 := hat.frozen (j * 8 + 2)
          have lg := hat.lt
          dsimp only at cc2
          obtain ⟨W13, hW13⟩ : ∃ W13, W10.setCell ⟨g, j * 8 + 2, none⟩ (.int .i64 sl) = W13 := ⟨_, rfl⟩
          have O13 : Hid (OwnP W13 w.heap.size (some ⟨g, 0, none⟩) c2 (os.set j ⟨⟨sym, kind, sl, inn, hi, look, kids, met⟩, qA, qc⟩)) := Lib.hid (by rw [← hW13]; exact O10.out.putAt HJO.out (by omega) rfl ⟨rfl, rfl, rfl⟩ (by have f := FQ.out; exact ⟨f.sym, f.kind, (by show I64 (sl); unfold I64; have h1 := HNB.out; have h2 := HSB.out; have h3 := HT0'.out; omega), f.inn, f.hi, f.look, f.met, f.ks⟩))
          have B13 : Hid (W13.heap[bp]? = some (.cells #[.int .i64 sym, .int .i64 kind, .int .i64 lo, .int .i64 inn, .int .i64 hi, .int .i64 look, .slice pA kids.length pc, .int .u64 met] 33)) := Lib.hid (by rw [← hW13, blk_set HPG.out]; exact B10.out)
          have E13 : Hid (W13.heap[be]? = some (.cells #[.int .i64 a, .int .i64 d, .int .i64 i] 63)) := Lib.hid (by rw [← hW13, blk_set HEG.out]; exact E10.out)
          have Z13 : Hid (Ext w W13) := Lib.hid (by rw [← hW13]; exact Z10.out.setCell HBG.out _)
          go_upto_region 14 with fail
          clear hW13 hat cc2 ff2 lg O10 B10 E10 Z10
          clear p0 p1 p2 p3 p4 p5 p6 p7 pl e0 e1 e2 el
          obtain ⟨p0, p1, p2, p3, p4, p5, p6, p7, pl⟩ := pt_cells B13.out
          obtain ⟨e0, e1, e2, el⟩ := ed_cells E13.out
          go_wp2_with fail
          clear p0 p1 p2 p3 p4 p5 p6 p7 pl e0 e1 e2 el
          go_loopw [10, 11] (fun v u wi => ∃ m : Nat, m ≤ kids.length ∧ u = .int .i64 m ∧ v = .int .i64 (max sl (maxTo (nds os) (kids.take m))) ∧ Hid (Ext W13 wi)) (fun _ u _ => kids.length - (intOf u).toNat)
          case atStart =>
            refine ⟨0, by omega, rfl, ?_, Lib.hid (by repeat (first | exact Ext.refl _ | refine Ext.alloc ?_ _ | refine Ext.more ?_ _ _ | refine Ext.drew ?_ | refine Ext.drewN ?_ _ | refine Ext.setCell ?_ (by simp <;> omega) _))⟩
            congr 1
            show (sl : Int) = max sl 0
            have := HSL0.out
            omega
          case round =>
            obtain ⟨m, hm, rfl, rfl, hx⟩ := hrel
            have YX := hx.out
            have O14 := O13.out.ext YX
            obtain ⟨p0, p1, p2, p3, p4, p5, p6, p7, pl⟩ := pt_cells (ext_block B13.out YX)
            by_cases hlt : m < kids.length
            · obtain ⟨x, hxm⟩ : ∃ x, kids[m]? = some x := ⟨_, List.getElem?_eq_getElem hlt⟩
              obtain ⟨ci, rfl, hc1, hc2⟩ := HKB.out x (List.mem_of_getElem? hxm)
              rw [nds_length] at hc2
              obtain ⟨r, hr⟩ : ∃ r, os[ci]? = some r := ⟨_, List.getElem?_eq_getElem (by omega)⟩
              have hat := O14.at (i := ci) (q := r) (by rw [List.getElem?_set_ne (by omega)]; exact hr)
              have ch := hat.hi
              have lg := hat.lt
              obtain ⟨bk, ok, hpA, hbk, hck⟩ := (HKI.out.ext (Z13.out.trans YX)) (by show 0 < kids.length; omega)
              have dk := hck m hlt
              rw [List.getD_eq_getElem?_getD, hxm] at dk
              change wr.cell? ⟨bk, ok + m, none⟩ = some (.int .i64 (ci : Int)) at dk
              change pA = _ at hpA
              rw [hpA] at p6
              have hms := maxTo_succ (l := nds os) hxm
              have hha : hiAt (nds os) (ci : Int) = r.nd.hi := by unfold hiAt; rw [Int.toNat_natCast, nds_get hr]; rfl
              obtain ⟨L, hL⟩ : ∃ L, max sl (maxTo (nds os) (kids.take m)) = L := ⟨_, rfl⟩
              obtain ⟨L2, hL2⟩ : ∃ L2, max sl (maxTo (nds os) (kids.take (m + 1))) = L2 := ⟨_, rfl⟩
              have hmx : (if L < r.nd.hi then r.nd.hi else L) = L2 := by rw [max_name, ← hL2, hms, hha, ← hL]; omega
              rw [hL]
              have HL2 := Lib.hid hL2
              have HX := Lib.hid hx.out
              have pkc := PKC.out
              have i0 : (ci : Int) < (ps.length : Int) := by omega
              have i1 : (0 : Int) ≤ (ci : Int) := by omega
              clear hat O14 hck hxm hr hms hha hL hL2 hx YX hc1 p0 p1 p2 p3 p4 p5 p7
              go_wp2_with fail
              go_roundw
              case rel => exact ⟨m + 1, by omega, by go_num, by rw [HL2.out], Lib.hid (HX.out.trans (by repeat (first | exact Ext.refl _ | refine Ext.alloc ?_ _ | refine Ext.more ?_ _ _ | refine Ext.drew ?_ | refine Ext.drewN ?_ _ | refine Ext.setCell ?_ (by simp <;> omega) _)))⟩
              case measure => simp [intOf]; omega
            · obtain rfl : m = kids.length := by omega
              rw [List.take_length, HTM.out]
              clear O14 hlt hm
              have YX := hx.out
              clear hx
              have B17 := Lib.hid (ext_block B13.out YX)
              have E17 := Lib.hid (ext_block E13.out YX)
              have O17 := Lib.hid (O13.out.ext YX)
              have Z17 := Lib.hid (Z13.out.trans YX)
              clear B13 E13 O13 Z13 YX
              obtain ⟨LE, hLE⟩ : ∃ LE, max sl TM = LE := ⟨_, rfl⟩
              obtain ⟨H1, hH1⟩ : ∃ H1, max LE eh = H1 := ⟨_, rfl⟩
              obtain ⟨K1, hK1⟩ : ∃ K1, max (sl + 1) ek = K1 := ⟨_, rfl⟩
              rw [hLE]
              have m1 : (if LE < eh then eh else LE) = H1 := by rw [max_name]; exact hH1
              have m2 : (if sl + 1 < ek then ek else sl + 1) = K1 := by rw [max_name]; exact hK1
              have hb1 := HSB.out
              have hb2 := HT0'.out
              have HLB := Lib.hid (show (-4294967296 ≤ LE ∧ LE ≤ 8589934592) ∧ (-4294967296 ≤ H1 ∧ H1 ≤ 8589934592) ∧ (-4294967297 ≤ K1 ∧ K1 ≤ 8589934592) from by omega)
              have w1 : IntKind.i64.wrap (sl + 1) = sl + 1 := IntWalk.i64_in _ (by omega)
              have HLE := Lib.hid hLE
              have HH1 := Lib.hid hH1
              have HK1 := Lib.hid hK1
              clear hLE hH1 hK1 hb1 hb2
              have hat := O17.out.atSet HJO.out
              have HCL := Lib.hid hat.lo
              have HGS := Lib.hid hat.lt
              clear hat
              have KX : Hid (∀ x : EdC wr g (j * 8 + 2) bp be, x.V.cell? ⟨g, j * 8 + 2, none⟩ = some (.int .i64 sl) ∧ x.V.cell? ⟨bp, 4, none⟩ = some (.int .i64 hi) ∧ x.V.cell? ⟨bp, 5, none⟩ = some (.int .i64 look) ∧ x.V.cell? ⟨be, 0, none⟩ = some (.int .i64 a) ∧ x.V.cell? ⟨be, 1, none⟩ = some (.int .i64 d) ∧ x.V.cell? ⟨be, 2, none⟩ = some (.int .i64 i) ∧ bp < x.V.heap.size ∧ be < x.V.heap.size ∧ g < x.V.heap.size) := Lib.hid (fun x => by
                obtain ⟨_, _, _, _, p4, p5, _, _, pl⟩ := pt_cells (x.par.trans B17.out)
                obtain ⟨e0, e1, e2, el⟩ := ed_cells (x.box.trans E17.out)
                exact ⟨x.cel.trans HCL.out, p4, p5, e0, e1, e2, pl, el, Nat.lt_of_lt_of_le HGS.out x.sz⟩)
              have kx0 := fun x => (KX.out x).1
              have kx1 := fun x => (KX.out x).2.1
              have kx2 := fun x => (KX.out x).2.2.1
              have kx3 := fun x => (KX.out x).2.2.2.1
              have kx4 := fun x => (KX.out x).2.2.2.2.1
              have kx5 := fun x => (KX.out x).2.2.2.2.2.1
              have kx6 := fun x => (KX.out x).2.2.2.2.2.2.1
              have kx7 := fun x => (KX.out x).2.2.2.2.2.2.2.1
              have kx8 := fun x => (KX.out x).2.2.2.2.2.2.2.2
              have hbl := lt_of_heap B17.out
              have hel := lt_of_heap E17.out
              go_upto_region 18 with fail
              clear p0 p1 p2 p3 p4 p5 p6 p7 pl
              refine wp_region_btC (T := EdC wr g (j * 8 + 2) bp be) EdC.V (26) (softs_bt [0, 1, 2, 3, 4, 5, 6, 7, 10, 11, 12, 13, 14, 15, 16, 17, 18] (.step 8 (softs_bt [9] (.step 19 (softs_bt [20, 21, 22] (.step 23 (softs_bt [24, 25] (.step 26 .fin)))))))) (by kernel_rfl) (by kernel_rfl) ⟨⟨wr.drew, rfl, rfl, rfl, Nat.le_refl _⟩, rfl⟩ ?_
              (refine bt_softs _ fun K hK => ?_); (simp only [pick, nthC]); (repeat (go_big_quiet_step (fail))); (refine wpQuiet_nil (hK _ ?_)); (clear hK K)
              clear kx0 kx1 kx2 kx3 kx4 kx5 kx6 kx7 kx8
              (refine bt_step fun next hn => ?_); (simp only [pick, nthC])
              go_wp2_with fail
              refine (CH.out _).mono ?_
              rintro e V1 ⟨rfl, hv1⟩
              have Y1 : Hid (Ext wr V1) := Lib.hid (((Ext.refl wr).drew).trans hv1)
              clear hv1
              go_wp2_with fail
              refine segQ_mk (fun _ => edc_ext HGS.out hbl hel Y1.out) (hn _ _ ?_)
              clear hn next
              (refine bt_softs _ fun K hK => ?_); (simp only [pick, nthC]); (repeat (go_big_quiet_step (fail))); (refine wpQuiet_nil (hK _ ?_)); (clear hK K)
              (refine bt_step fun next hn => ?_); (simp only [pick, nthC])
              go_wp2_with fail
              refine (CK.out _).mono ?_
              rintro e V2 ⟨rfl, hv2⟩
              have Y2 : Hid (Ext wr V2) := Lib.hid (Y1.out.trans hv2)
              clear hv2 Y1
              go_wp2_with fail
              refine segQ_mk (fun _ => edc_ext HGS.out hbl hel Y2.out) (hn _ _ ?_)
              clear hn next
              (refine bt_softs _ fun K hK => ?_); (simp only [pick, nthC]); (repeat (go_big_quiet_step (fail))); (refine wpQuiet_nil (hK _ ?_)); (clear hK K)
              have YX := Y2.out
              have BV := Lib.hid (ext_block B17.out YX)
              have EV := Lib.hid (ext_block E17.out YX)
              have OV := Lib.hid (O17.out.ext YX)
              have ZV := Lib.hid (Z17.out.trans YX)
              clear B17 E17 O17 Z17
              have hat := OV.out.atSet HJO.out
              have cc4 := hat.hi
              have ff4 := hat.frozen (j * 8 + 4)
              have lg := hat.lt
              dsimp only at cc4
              obtain ⟨W18, hW18⟩ : ∃ W18, V2.setCell ⟨g, j * 8 + 4, none⟩ (.int .i64 H1) = W18 := ⟨_, rfl⟩
              have O18 : Hid (OwnP W18 w.heap.size (some ⟨g, 0, none⟩) c2 (os.set j ⟨⟨sym, kind, sl, inn, H1, look, kids, met⟩, qA, qc⟩)) := Lib.hid (by rw [← hW18]; exact OV.out.putAt HJO.out (by omega) rfl ⟨rfl, rfl, rfl⟩ (by have f := FQ.out; exact ⟨f.sym, f.kind, (by show I64 (sl); unfold I64; have h1 := HNB.out; have h2 := HSB.out; have h3 := HT0'.out; omega), f.inn, (by show I64 (H1); unfold I64; have h1 := HLB.out; have h2 := HNB.out; omega), f.look, f.met, f.ks⟩))
              have B18 : Hid (W18.heap[bp]? = some (.cells #[.int .i64 sym, .int .i64 kind, .int .i64 lo, .int .i64 inn, .int .i64 hi, .int .i64 look, .slice pA kids.length pc, .int .u64 met] 33)) := Lib.hid (by rw [← hW18, blk_set HPG.out]; exact BV.out)
              have E18 : Hid (W18.heap[be]? = some (.cells #[.int .i64 a, .int .i64 d, .int .i64 i] 63)) := Lib.hid (by rw [← hW18, blk_set HEG.out]; exact EV.out)
              have Z18 : Hid (Ext w W18) := Lib.hid (by rw [← hW18]; exact ZV.out.setCell HBG.out _)
              (refine bt_step fun next hn => ?_); (simp only [pick, nthC])
              go_wp2_with fail
              refine segQ_mk (fun _ => by rw [← hW18]; exact edc_set HGS.out hbl hel YX (by omega) HPG.out HEG.out) (hn _ _ ?_)
              clear hn next hat cc4 ff4 lg hW18 OV BV EV ZV YX Y2 m1
              (refine bt_softs _ fun K hK => ?_); (simp only [pick, nthC]); (repeat (go_big_quiet_step (fail))); (refine wpQuiet_nil (hK _ ?_)); (clear hK K)
              have hat := O18.out.atSet HJO.out
              have cc5 := hat.look
              have ff5 := hat.frozen (j * 8 + 5)
              have lg := hat.lt
              dsimp only at cc5
              obtain ⟨W19, hW19⟩ : ∃ W19, W18.setCell ⟨g, j * 8 + 5, none⟩ (.int .i64 K1) = W19 := ⟨_, rfl⟩
              have O19 : Hid (OwnP W19 w.heap.size (some ⟨g, 0, none⟩) c2 (os.set j ⟨⟨sym, kind, sl, inn, H1, K1, kids, met⟩, qA, qc⟩)) := Lib.hid (by rw [← hW19]; exact O18.out.putAt HJO.out (by omega) rfl ⟨rfl, rfl, rfl⟩ (by have f := FQ.out; exact ⟨f.sym, f.kind, (by show I64 (sl); unfold I64; have h1 := HNB.out; have h2 := HSB.out; have h3 := HT0'.out; omega), f.inn, (by show I64 (H1); unfold I64; have h1 := HLB.out; have h2 := HNB.out; omega), (by show I64 (K1); unfold I64; have h1 := HLB.out; have h2 := HNB.out; omega), f.met, f.ks⟩))
              have B19 : Hid (W19.heap[bp]? = some (.cells #[.int .i64 sym, .int .i64 kind, .int .i64 lo, .int .i64 inn, .int .i64 hi, .int .i64 look, .slice pA kids.length pc, .int .u64 met] 33)) := Lib.hid (by rw [← hW19, blk_set HPG.out]; exact B18.out)
              have E19 : Hid (W19.heap[be]? = some (.cells #[.int .i64 a, .int .i64 d, .int .i64 i] 63)) := Lib.hid (by rw [← hW19, blk_set HEG.out]; exact E18.out)
              have Z19 : Hid (Ext w W19) := Lib.hid (by rw [← hW19]; exact Z18.out.setCell HBG.out _)
              (refine bt_step fun next hn => ?_); (simp only [pick, nthC])
              go_wp2_with fail
              refine segQ_mk (fun h => absurd rfl h) (hn _ _ ?_)
              clear hn next hat cc5 ff5 lg hW19 O18 B18 E18 Z18 m2 w1 hbl hel HGS HCL
              (refine bt_fin ?_)
              obtain ⟨p0, p1, p2, p3, p4, p5, p6, p7, pl⟩ := pt_cells B19.out
              obtain ⟨e0, e1, e2, el⟩ := ed_cells E19.out
              go_upto_region 19 with fail
              refine wp_region_bt (4) (softs_bt [0, 2] (.step 1 (.step 3 .fin))) (by kernel_rfl) (by kernel_rfl) ?_
              (refine bt_softs _ fun K hK => ?_); (simp only [pick, nthC]); (repeat (go_big_quiet_step (fail))); (refine wpQuiet_nil (hK _ ?_)); (clear hK K)
              (refine bt_step fun next hn => ?_); (simp only [pick, nthC])
              go_wp2_with fail
              refine (CO.out _).mono ?_
              rintro e V3 ⟨rfl, hv1⟩
              have Y1 : Hid (Ext W19 V3) := Lib.hid (((Ext.refl W19).drew).trans hv1)
              clear hv1
              go_wp2_with fail
              refine segQ_mk (fun _ => laid Y1.out) (hn _ _ ?_)
              clear hn next
              (refine bt_step fun next hn => ?_); (simp only [pick, nthC])
              go_wp2_with fail
              refine (CM.out _).mono ?_
              rintro e W20 ⟨rfl, hv2⟩
              have YX : Ext W19 W20 := Y1.out.trans hv2
              clear hv2
              go_wp2_with fail
              refine segQ_mk (fun _ => laid YX) (hn _ _ ?_)
              clear hn next Y1
              (refine bt_fin ?_)
              clear p0 p1 p2 p3 p4 p5 p6 p7 pl e0 e1 e2 el
              have B20 := Lib.hid (ext_block B19.out YX)
              have E20 := Lib.hid (ext_block E19.out YX)
              have O20 := Lib.hid (O19.out.ext YX)
              have Z20 := Lib.hid (Z19.out.trans YX)
              clear B19 E19 O19 Z19 YX
              obtain ⟨p0, p1, p2, p3, p4, p5, p6, p7, pl⟩ := pt_cells B20.out
              obtain ⟨e0, e1, e2, el⟩ := ed_cells E20.out
              go_upto_region 23 with fail
              clear p0 p1 p2 p3 p4 p5 p6 p7 pl e0 e1 e2 el
              obtain ⟨p0, p1, p2, p3, p4, p5, p6, p7, pl⟩ := pt_cells B20.out
              obtain ⟨e0, e1, e2, el⟩ := ed_cells E20.out
              obtain ⟨M1, hM1⟩ : ∃ M1, max sl sn = M1 := ⟨_, rfl⟩
              obtain ⟨I1, hI1⟩ : ∃ I1, min M1 H1 = I1 := ⟨_, rfl⟩
              have m5 : (if sl < sn then sn else sl) = M1 := by rw [max_name]; exact hM1
              have m6 : (if H1 < M1 then H1 else M1) = I1 := by rw [min_name]; exact hI1
              have h1 := HSB.out
              have h2 := HLB.out
              have HIB := Lib.hid (show -4294967296 ≤ I1 ∧ I1 ≤ 8589934592 from by omega)
              have HM1 := Lib.hid hM1
              have HI1 := Lib.hid hI1
              have hat := O20.out.atSet HJO.out
              have oc2 := hat.lo
              have oc4 := hat.hi
              have lg := hat.lt
              dsimp only at oc2 oc4
              clear hat hM1 hI1 h1 h2
              refine wp_region_bt (20) (softs_bt [0, 1, 2, 3, 4, 5, 6, 7, 8, 9, 12, 13, 14, 15, 16] (.step 10 (softs_bt [11, 17, 18, 19] (.step 20 .fin)))) (by kernel_rfl) (by kernel_rfl) ?_
              (refine bt_softs _ fun K hK => ?_); (simp only [pick, nthC]); (repeat (go_big_quiet_step (fail))); (refine wpQuiet_nil (hK _ ?_)); (clear hK K)
              (refine bt_step fun next hn => ?_); (simp only [pick, nthC])
              go_wp2_with fail
              refine (CN.out _).mono ?_
              rintro e V4 ⟨rfl, hv4⟩
              have YX : Ext W20 V4 := ((Ext.refl W20).drew).trans hv4
              clear hv4
              go_wp2_with fail
              refine segQ_mk (fun _ => laid YX) (hn _ _ ?_)
              clear hn next oc2 oc4 lg
              (refine bt_softs _ fun K hK => ?_); (simp only [pick, nthC]); (repeat (go_big_quiet_step (fail))); (refine wpQuiet_nil (hK _ ?_)); (clear hK K)
              have BU := Lib.hid (ext_block B20.out YX)
              have EU := Lib.hid (ext_block E20.out YX)
              have OU := Lib.hid (O20.out.ext YX)
              have ZU := Lib.hid (Z20.out.trans YX)
              clear B20 E20 O20 Z20 YX
              have hat := OU.out.atSet HJO.out
              have cc3 := hat.inn
              have ff3 := hat.frozen (j * 8 + 3)
              have lg := hat.lt
              dsimp only at cc3
              obtain ⟨W25, hW25⟩ : ∃ W25, V4.setCell ⟨g, j * 8 + 3, none⟩ (.int .i64 I1) = W25 := ⟨_, rfl⟩
              have O25 : Hid (OwnP W25 w.heap.size (some ⟨g, 0, none⟩) c2 (os.set j ⟨⟨sym, kind, sl, I1, H1, K1, kids, met⟩, qA, qc⟩)) := Lib.hid (by rw [← hW25]; exact OU.out.putAt HJO.out (by omega) rfl ⟨rfl, rfl, rfl⟩ (by have f := FQ.out; exact ⟨f.sym, f.kind, (by show I64 (sl); unfold I64; have h1 := HNB.out; have h2 := HSB.out; have h3 := HT0'.out; omega), (by show I64 I1; unfold I64; have h1 := HIB.out; omega), (by show I64 (H1); unfold I64; have h1 := HLB.out; have h2 := HNB.out; omega), (by show I64 (K1); unfold I64; have h1 := HLB.out; have h2 := HNB.out; omega), f.met, f.ks⟩))
              have B25 : Hid (W25.heap[bp]? = some (.cells #[.int .i64 sym, .int .i64 kind, .int .i64 lo, .int .i64 inn, .int .i64 hi, .int .i64 look, .slice pA kids.length pc, .int .u64 met] 33)) := Lib.hid (by rw [← hW25, blk_set HPG.out]; exact BU.out)
              have E25 : Hid (W25.heap[be]? = some (.cells #[.int .i64 a, .int .i64 d, .int .i64 i] 63)) := Lib.hid (by rw [← hW25, blk_set HEG.out]; exact EU.out)
              have Z25 : Hid (Ext w W25) := Lib.hid (by rw [← hW25]; exact ZU.out.setCell HBG.out _)
              (refine bt_step fun next hn => ?_); (simp only [pick, nthC])
              go_wp2_with fail
              refine segQ_mk (fun h => absurd rfl h) (hn _ _ ?_)
              clear hn next hat cc3 ff3 lg hW25 OU BU EU ZU m5 m6
              (refine bt_fin ?_)
              clear p0 p1 p2 p3 p4 p5 p6 p7 pl e0 e1 e2 el
              by_cases hz : inn = lo
              · obtain ⟨p0, p1, p2, p3, p4, p5, p6, p7, pl⟩ := pt_cells B25.out
                obtain ⟨e0, e1, e2, el⟩ := ed_cells E25.out
                have qz : (inn == lo) = true := by simp [hz]
                have oc2 := (O25.out.atSet HJO.out).lo
                dsimp only at oc2
                have hat := O25.out.atSet HJO.out
                have cc3 := hat.inn
                have ff3 := hat.frozen (j * 8 + 3)
                have lg := hat.lt
                dsimp only at cc3
                obtain ⟨W26, hW26⟩ : ∃ W26, W25.setCell ⟨g, j * 8 + 3, none⟩ (.int .i64 sl) = W26 := ⟨_, rfl⟩
                have O26 : Hid (OwnP W26 w.heap.size (some ⟨g, 0, none⟩) c2 (os.set j ⟨⟨sym, kind, sl, sl, H1, K1, kids, met⟩, qA, qc⟩)) := Lib.hid (by rw [← hW26]; exact O25.out.putAt HJO.out (by omega) rfl ⟨rfl, rfl, rfl⟩ (by have f := FQ.out; exact ⟨f.sym, f.kind, (by show I64 (sl); unfold I64; have h1 := HNB.out; have h2 := HSB.out; have h3 := HT0'.out; omega), (by show I64 (sl); unfold I64; have h1 := HNB.out; have h2 := HSB.out; have h3 := HT0'.out; omega), (by show I64 (H1); unfold I64; have h1 := HLB.out; have h2 := HNB.out; omega), (by show I64 (K1); unfold I64; have h1 := HLB.out; have h2 := HNB.out; omega), f.met, f.ks⟩))
                have B26 : Hid (W26.heap[bp]? = some (.cells #[.int .i64 sym, .int .i64 kind, .int .i64 lo, .int .i64 inn, .int .i64 hi, .int .i64 look, .slice pA kids.length pc, .int .u64 met] 33)) := Lib.hid (by rw [← hW26, blk_set HPG.out]; exact B25.out)
                have E26 : Hid (W26.heap[be]? = some (.cells #[.int .i64 a, .int .i64 d, .int .i64 i] 63)) := Lib.hid (by rw [← hW26, blk_set HEG.out]; exact E25.out)
                have Z26 : Hid (Ext w W26) := Lib.hid (by rw [← hW26]; exact Z25.out.setCell HBG.out _)
                have HEF : Hid (EditTo ⟨a, d, i, bitOr bit⟩ (nds ps) j (nds (os.set j ⟨⟨sym, kind, sl, sl, H1, K1, kids, met⟩, qA, qc⟩))) := Lib.hid (by
                  have hed := HED0
                  have hm := of_decide_eq_false HMT.out
                  simp only [if_neg hk1, if_neg hm, if_pos hz, HLE.out, HH1.out, HK1.out, HM1.out, HI1.out] at hed
                  unfold nds
                  rw [List.map_set]
                  exact hed)
                have HBF : Hid (∀ q ∈ os.set j ⟨⟨sym, kind, sl, sl, H1, K1, kids, met⟩, qA, qc⟩, -8589934592 ≤ q.nd.hi ∧ q.nd.hi ≤ 8589934592) := Lib.hid (fun q hq => by
                  rcases List.mem_or_eq_of_mem_set hq with hq | rfl
                  · exact HHI2.out q hq
                  · have h1 := HLB.out
                    skip
                    show -8589934592 ≤ H1 ∧ H1 ≤ 8589934592
                    omega)
                clear HED0 hz
                go_wp2_with fail
                go_roundw
                case rel => exact ⟨j, os.set j ⟨⟨sym, kind, sl, sl, H1, K1, kids, met⟩, qA, qc⟩, by omega, by rw [List.length_set]; omega, by go_num, Lib.hid (O26.out.ext (by repeat (first | exact Ext.refl _ | refine Ext.alloc ?_ _ | refine Ext.more ?_ _ _ | refine Ext.drew ?_ | refine Ext.drewN ?_ _ | refine Ext.setCell ?_ (by simp <;> omega) _))), HEF, HBF, Lib.hid (ext_block E26.out (by repeat (first | exact Ext.refl _ | refine Ext.alloc ?_ _ | refine Ext.more ?_ _ _ | refine Ext.drew ?_ | refine Ext.drewN ?_ _ | refine Ext.setCell ?_ (by simp <;> omega) _))), Lib.hid (Z26.out.trans (by repeat (first | exact Ext.refl _ | refine Ext.alloc ?_ _ | refine Ext.more ?_ _ _ | refine Ext.drew ?_ | refine Ext.drewN ?_ _ | refine Ext.setCell ?_ (by simp <;> omega) _)))⟩
                case measure => simp [intOf] <;> omega
              · obtain ⟨p0, p1, p2, p3, p4, p5, p6, p7, pl⟩ := pt_cells B25.out
                obtain ⟨e0, e1, e2, el⟩ := ed_cells E25.out
                have qz : (inn == lo) = false := by simp [hz]
                have HEF : Hid (EditTo ⟨a, d, i, bitOr bit⟩ (nds ps) j (nds (os.set j ⟨⟨sym, kind, sl, I1, H1, K1, kids, met⟩, qA, qc⟩))) := Lib.hid (by
                  have hed := HED0
                  have hm := of_decide_eq_false HMT.out
                  simp only [if_neg hk1, if_neg hm, if_neg hz, HLE.out, HH1.out, HK1.out, HM1.out, HI1.out] at hed
                  unfold nds
                  rw [List.map_set]
                  exact hed)
                have HBF : Hid (∀ q ∈ os.set j ⟨⟨sym, kind, sl, I1, H1, K1, kids, met⟩, qA, qc⟩, -8589934592 ≤ q.nd.hi ∧ q.nd.hi ≤ 8589934592) := Lib.hid (fun q hq => by
                  rcases List.mem_or_eq_of_mem_set hq with hq | rfl
                  · exact HHI2.out q hq
                  · have h1 := HLB.out
                    skip
                    show -8589934592 ≤ H1 ∧ H1 ≤ 8589934592
                    omega)
                clear HED0 hz
                go_wp2_with fail
                go_roundw
                case rel => exact ⟨j, os.set j ⟨⟨sym, kind, sl, I1, H1, K1, kids, met⟩, qA, qc⟩, by omega, by rw [List.length_set]; omega, by go_num, Lib.hid (O25.out.ext (by repeat (first | exact Ext.refl _ | refine Ext.alloc ?_ _ | refine Ext.more ?_ _ _ | refine Ext.drew ?_ | refine Ext.drewN ?_ _ | refine Ext.setCell ?_ (by simp <;> omega) _))), HEF, HBF, Lib.hid (ext_block E25.out (by repeat (first | exact Ext.refl _ | refine Ext.alloc ?_ _ | refine Ext.more ?_ _ _ | refine Ext.drew ?_ | refine Ext.drewN ?_ _ | refine Ext.setCell ?_ (by simp <;> omega) _))), Lib.hid (Z25.out.trans (by repeat (first | exact Ext.refl _ | refine Ext.alloc ?_ _ | refine Ext.more ?_ _ _ | refine Ext.drew ?_ | refine Ext.drewN ?_ _ | refine Ext.setCell ?_ (by simp <;> omega) _)))⟩
                case measure => simp [intOf] <;> omega
end Go.Proofs.Ytggmljookcmnkaa
