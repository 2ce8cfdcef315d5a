/- PnPaintBytes: texts that the proof rests on, part 1. -/
import Derived.Test.YthpmncdfaggkiaaGreatCr1
import Derived.Test.YthpmncdfaggkiaaGreatCr10
import Derived.Test.YthpmncdfaggkiaaGreatCr11
import Derived.Test.YthpmncdfaggkiaaGreatCr2
import Derived.Test.YthpmncdfaggkiaaGreatCr3
import Derived.Test.YthpmncdfaggkiaaGreatCr5
import Derived.Test.YthpmncdfaggkiaaGreatCr6
import Derived.Test.YthpmncdfaggkiaaGreatCr7
import Derived.Test.YthpmncdfaggkiaaGreatCr8
import Derived.Test.YthpmncdfaggkiaaGreatCr9
import Derived.Test.YthpmncdfaggkiaaGreatPn1
import Derived.Test.YthpmncdfaggkiaaGreatPn2
import Derived.Test.YthpmncdfaggkiaaGreatPn3
import Derived.Test.YthpmncdfaggkiaaGreatPn4
import Derived.Test.YthpmncdfaggkiaaGreatPn5
import Derived.Laws.Cover1
namespace Go.Proofs.YthpmncdfaggkiaaGreat
open Go.RowKit
attribute [local go_sem] more_drew more_drewN more_size more_cell more_frozen more_setCell drew_more drewN_more lt_add_r lt_add_r2 lt_add_r3 lt_add_r4 lt_add_r5 lt_add_r6 lt_add_r7 lt_add_r8 lt_add_r9 lt_add_r10 lt_self_r lt_self_r2
theorem firstF_cases {α : Type} (f : α → Bool) : ∀ (l : List α) (k0 : Nat), (firstF f k0 l = -1 ∧ ∀ p ∈ l, f p = false) ∨ ∃ k p, firstF f k0 l = ((k0 + k : Nat) : Int) ∧ l[k]? = some p ∧ f p = true ∧ ∀ i q, i < k → l[i]? = some q → f q = false
 | [], _ => .inl ⟨rfl, fun p hp => (by cases hp)⟩
 | p :: l, k0 => by
  unfold firstF
  by_cases h : f p = true
  ·exact .inr ⟨0, p, by rw [if_pos h]; rfl, rfl, h, fun i q hi => by omega⟩
  ·rw [if_neg h]
   rcases firstF_cases f l (k0 + 1) with ⟨h1, h2⟩ | ⟨k, q, h1, h2, h3, h4⟩
   ·refine .inl ⟨h1, fun x hx => ?_⟩
    rcases List.mem_cons.1 hx with rfl | hx
    ·simpa using h
    ·exact h2 x hx
   ·refine .inr ⟨k + 1, q, by rw [h1]; congr 1; omega, by simpa using h2, h3, fun i x hi hx => ?_⟩
    cases i with
    | zero => simp at hx; subst hx; simpa using h
    | succ i => exact h4 i x (by omega) (by simpa using hx)

section
variable {A : Option Addr} {c : Nat} {ps : List Prt} {w : World}
set_option maxRecDepth 100000 in
set_option maxHeartbeats 1000000 in
theorem ris_yes (i : Int) (h : PS w A c ps) (T : Tree (nds ps)) : Calls Tryz.prog 56 #[.slice A ps.length c, .int .i64 i] w fun e w' => e = .returned (.bool (decide (0 ≤ i) && decide (i < (ps.length : Int)))) ∧ Ext w w' := by
 have CH := zh (rcheck_ok h T)
 have hl := h.few.len
 clear h T
 go_enter Tryz.func56, Tryz.ntmps56
 go_wp2_with fail
 refine CH.out.mono ?_
 rintro e w2 ⟨rfl, hx2⟩
 have HX := zh hx2
 clear hx2
 go_wp2_with fail
 all_goals go_ret
 all_goals exact ⟨ret_bool (by rw [Bool.eq_iff_iff]; simp; try omega), HX.out⟩
end

section
variable {A : Option Addr} {c : Nat} {ps : List Prt} {w : World}
theorem ris_true (i : Int) (h : PS w A c ps) (T : IsP (nds ps) i) : Calls Tryz.prog 56 #[.slice A ps.length c, .int .i64 i] w fun e w' => e = .returned (.bool true) ∧ Ext w w' := by
 obtain ⟨T, h0, h1⟩ := T
 rw [nds_length] at h1
 refine (ris_yes i h T).mono ?_
 rintro e w' ⟨rfl, hx⟩
 exact ⟨ret_bool (by rw [decide_eq_true h0, decide_eq_true h1]; rfl), hx⟩
end

set_option maxRecDepth 100000 in
set_option maxHeartbeats 1000000 in
theorem idxPaint (F : Nat) (lb : Array Value) (f : Pn → Bool) (A : Option Addr) (c : Nat) (ps : List Pn) (w : World) (hP : Pns w A ps) (hl : ps.length ≤ 9223372036854775807) (eg : Enters Tryz.prog F)
 (hf : ∀ (wr : World) (p : Pn), Ext w wr → p ∈ ps → Calls Tryz.prog F (#[pnV p] ++ lb) wr fun e w' => e = .returned (.bool (f p)) ∧ Ext wr w') :
 Calls Tryz.prog 89 #[.slice A ps.length c, .func (.func F) #[] lb] w fun e w' => e = .returned (.int .i64 (firstF f 0 ps)) ∧ Ext w w' := by
 have HP := zh hP
 have HF := zh hf
 unfold Enters at eg
 clear hP hf
 go_enter Tryz.func89, Tryz.ntmps89
 go_wp2
 go_loopw [8] (fun i wr => ∃ j : Nat, j ≤ ps.length ∧ i = .int .i64 j ∧ Hid (firstF f 0 ps = firstF f j (ps.drop j)) ∧ Hid (Ext w wr)) (fun i _ => ps.length - (intOf i).toNat)
 case atStart => exact ⟨0, Nat.zero_le _, rfl, zh rfl, zh (by repeat first | exact xr _ | refine xa ?_ _ | refine xm ?_ _ _ | refine xd ?_ | refine xn ?_ _ | refine xs ?_ (by simp <;> omega) _)⟩
 case round =>
  obtain ⟨j, hj, rfl, he, hx⟩ := hrel
  by_cases hlt : j < ps.length
  ·obtain ⟨⟨p0, p1, p2, p3⟩, hp⟩ : ∃ p, ps[j]? = some p := ⟨_, List.getElem?_eq_getElem hlt⟩
   obtain ⟨b, off, rfl, hb, hcell⟩ := (HP.out.ext hx.out) (by omega)
   obtain ⟨d0, d1, d2, d3⟩ := hcell j _ hp
   dsimp only at d0 d1 d2 d3
   have CF := zh (HF.out wr _ hx.out (List.mem_of_getElem? hp))
   unfold pnV at CF
   dsimp only at CF
   obtain ⟨fv, hfv⟩ : ∃ v, f ⟨p0, p1, p2, p3⟩ = v := ⟨_, rfl⟩
   have HS : Hid (firstF f j (ps.drop j) = if fv then (j : Int) else firstF f (j + 1) (ps.drop (j + 1))) := by
    rw [List.drop_eq_getElem_cons hlt]
    rw [List.getElem?_eq_getElem hlt] at hp
    injection hp with hp
    rw [hp, ← hfv]
    exact zh rfl
   rw [hfv] at CF
   clear hcell hp hfv
   go_wp2_with fail
   refine CF.out.mono ?_
   rintro e w2 ⟨rfl, hx2⟩
   have HX2 := zh (hx.out.trans hx2)
   clear hx2
   cases fv with
   | true =>
    have HE : Hid (firstF f 0 ps = (j : Int)) := zh (he.out.trans HS.out)
    go_wp2_with fail
    go_ret
    exact ⟨ret_int HE.out.symm, HX2.out⟩
   | false =>
    have HE : Hid (firstF f 0 ps = firstF f (j + 1) (ps.drop (j + 1))) := zh (he.out.trans HS.out)
    go_wp2_with fail
    go_roundw
    case rel => exact ⟨j + 1, by omega, by go_num, HE, HX2⟩
    case measure => simp [intOf]; omega
  ·obtain rfl : j = ps.length := by omega
   have HE : Hid (firstF f 0 ps = -1) := zh (by rw [he.out, List.drop_eq_nil_of_le (Nat.le_refl _)]; rfl)
   go_wp2_with fail
   go_ret
   exact ⟨ret_int HE.out.symm, hx.out⟩
set_option maxRecDepth 100000 in
set_option maxHeartbeats 1000000 in
theorem at1_any28 (p : Pn) (x : Int) (xb : Nat) (w : World) (hx : w.heap[xb]? = some (.cells #[.int .i64 x] 3)) : Calls Tryz.prog 90 #[pnV p, pt xb] w fun e w' => e = .returned (.bool (hasB x p)) ∧ Ext w w' := by
 obtain ⟨p0, p1, p2, p3⟩ := p
 have c0 := cell_of_row _ _ 0 _ _ _ hx
 have cl := lt_of_heap hx
 simp at c0
 obtain ⟨R, hR⟩ : ∃ R, hasB x ⟨p0, p1, p2, p3⟩ = R := ⟨_, rfl⟩
 have HR : Hid ((decide (p0 ≤ x) && decide (x < p1)) = R) := zh hR
 rw [hR]
 unfold pnV
 dsimp only
 clear hR hx
 by_cases h1 : p0 ≤ x
 ·have g1 : decide (p0 ≤ x) = true := decide_eq_true h1
  go_enter Tryz.func90, Tryz.ntmps90
  go_wp2_with fail
  go_ret
  exact ⟨ret_bool (by rw [← HR.out, g1]; simp), (by repeat first | exact xr _ | refine xa ?_ _ | refine xm ?_ _ _ | refine xd ?_ | refine xn ?_ _ | refine xs ?_ (by simp <;> omega) _)⟩
 ·have g1 : decide (p0 ≤ x) = false := decide_eq_false h1
  go_enter Tryz.func90, Tryz.ntmps90
  go_wp2_with fail
  go_ret
  exact ⟨ret_bool (by rw [← HR.out, g1]; rfl), (by repeat first | exact xr _ | refine xa ?_ _ | refine xm ?_ _ _ | refine xd ?_ | refine xn ?_ _ | refine xs ?_ (by simp <;> omega) _)⟩
def AtRet (w : World) (ps : List Pn) (x : Int) (e : Ending) (w' : World) : Prop := Ext w w' ∧ ((∃ (j : Nat) (p : Pn), ps[j]? = some p ∧ hasB x p = true ∧ (∀ (i : Nat) (q : Pn), i < j → ps[i]? = some q → hasB x q = false) ∧ e = .returned (.tuple #[pnV p, .bool true])) ∨ ((∀ p ∈ ps, hasB x p = false) ∧ e = .returned (.tuple #[pnV ⟨0, 0, 0, 0⟩, .bool false])))
set_option maxRecDepth 100000 in
set_option maxHeartbeats 1000000 in
theorem at_any28 (A : Option Addr) (c : Nat) (ps : List Pn) (x : Int) (w : World) (hP : Pns w A ps) (hl : ps.length ≤ 1000000) : Calls Tryz.prog 42 #[.slice A ps.length c, .int .i64 x] w (AtRet w ps x) := by
 have HP := zh hP
 clear hP
 go_enter Tryz.func42, Tryz.ntmps42
 go_upto_region 1 with fail
 obtain ⟨xb, hxb⟩ : ∃ n, w.heap.size = n := ⟨_, rfl⟩
 obtain ⟨W1, hW1⟩ : ∃ V, (w.alloc (.cells #[.int .i64 x] 3)).alloc (.cells #[.int .i64 0, .int .i64 0, .int .i64 0, .int .i64 0] 73) = V := ⟨_, rfl⟩
 have X1 : Ext w W1 := by rw [← hW1]; exact (by repeat first | exact xr _ | refine xa ?_ _ | refine xm ?_ _ _ | refine xd ?_ | refine xn ?_ _ | refine xs ?_ (by simp <;> omega) _)
 have G0 : W1.heap[xb]? = some (.cells #[.int .i64 x] 3) := by rw [← hW1, ← hxb]; exact (by simp only [heap_alloc_get, World.size_alloc]; (repeat (split; (first | rfl | (exfalso; omega)))); (try (first | (exfalso; omega) | simp_all)))
 have G1 : W1.heap[xb + 1]? = some (.cells #[.int .i64 0, .int .i64 0, .int .i64 0, .int .i64 0] 73) := by rw [← hW1, ← hxb]; exact (by simp only [heap_alloc_get, World.size_alloc]; (repeat (split; (first | rfl | (exfalso; omega)))); (try (first | (exfalso; omega) | simp_all)))
 rw [hW1, hxb]
 have HX1 := zh X1
 have HG0 := zh G0
 have HG1 := zh G1
 have HSZ : Hid (w.heap.size ≤ xb) := zh (by omega)
 clear hW1 hxb X1 G0 G1
 have CI := zh (idxPaint 90 #[pt xb] (hasB x) A c ps W1 (HP.out.ext HX1.out) (by omega) (enters_of Tryz.func90 (by kernel_rfl) rfl) (fun wr p hx _ => at1_any28 p x xb wr (ext_block HG0.out hx)))
 go_wp2_with fail
 refine CI.out.mono ?_
 rintro e w2 ⟨rfl, hx2⟩
 have HX2 := zh (HX1.out.trans hx2)
 have HG2 := zh (ext_block HG1.out hx2)
 clear hx2
 have k0 := cell_of_row _ _ 0 _ _ _ HG2.out
 have k1 := cell_of_row _ _ 1 _ _ _ HG2.out
 have k2 := cell_of_row _ _ 2 _ _ _ HG2.out
 have k3 := cell_of_row _ _ 3 _ _ _ HG2.out
 have kl := lt_of_heap HG2.out
 have kf : ∀ k, w2.frozen? ⟨xb + 1, k, none⟩ = false := fun k => by simp [World.frozen?, HG2.out]
 simp at k0 k1 k2 k3
 have HF : Hid (∀ p0 p1 p2 p3 : Int, Ext w (put4p w2 (xb + 1) 0 ⟨p0, p1, p2, p3⟩)) := zh fun p0 p1 p2 p3 => by
  unfold put4p
  exact (((HX2.out.setCell (p := ⟨xb + 1, 0, none⟩) (by show w.heap.size ≤ xb + 1; have := HSZ.out; omega) _).setCell (p := ⟨xb + 1, 0 + 1, none⟩) (by show w.heap.size ≤ xb + 1; have := HSZ.out; omega) _).setCell (p := ⟨xb + 1, 0 + 2, none⟩) (by show w.heap.size ≤ xb + 1; have := HSZ.out; omega) _).setCell (p := ⟨xb + 1, 0 + 3, none⟩) (by show w.heap.size ≤ xb + 1; have := HSZ.out; omega) _
 rcases firstF_cases (hasB x) ps 0 with ⟨h1, h2⟩ | ⟨j, ⟨p0, p1, p2, p3⟩, h1, h2, h3, h4⟩
 ·have HN := zh h2
  rw [h1]
  clear h1 h2
  go_wp2_with fail
  refine bodyPost_ret (v := .tuple #[.agg #[.int .i64 0, .int .i64 0, .int .i64 0, .int .i64 0], .bool false]) (by simp [results, Tryz.results42, go_sem, *]) rfl ⟨HF.out 0 0 0 0, .inr ⟨HN.out, rfl⟩⟩
 ·have HN := zh (And.intro h2 (And.intro h3 h4))
  rw [h1, Nat.zero_add]
  have hjl := (List.getElem?_eq_some_iff.1 h2).1
  obtain ⟨b, off, rfl, hb, hcell⟩ := (HP.out.ext HX2.out) (by omega)
  obtain ⟨d0, d1, d2, d3⟩ := hcell j _ h2
  dsimp only at d0 d1 d2 d3
  have g1 : decide ((j : Int) < 0) = false := decide_eq_false (by omega)
  clear h1 h2 h3 h4 hcell
  go_wp2_with fail
  refine bodyPost_ret (v := .tuple #[.agg #[.int .i64 p0, .int .i64 p1, .int .i64 p2, .int .i64 p3], .bool true]) (by simp [results, Tryz.results42, go_sem, *]) rfl ⟨HF.out p0 p1 p2 p3, .inl ⟨j, _, HN.out.1, HN.out.2.1, HN.out.2.2, rfl⟩⟩
end Go.Proofs.YthpmncdfaggkiaaGreat
namespace Go.Proofs.YthpmncdfaggkiaaGreat
open Go.RowKit
section
variable {P : Program} {C : World → Prop}
theorem wp_region_btw {id : Nat} {Q : Exit → Act → World → Prop} {a : Act} {w : World} {l : List Oper} (s : Nat) (t : Bt) (hm : P.follows .mixedOrders = true) (hB : btOkB l s t = true)
 (h : BtW P l (fun w' => ∃ x : Lay, w' = more w x.os x.k) s (fun a' w' => Q .normal a' w') t a w.drew) : (Code.region id l.toArray true).wp P Q a w := wp_region_bt s t hm hB h.out
end
end Go.Proofs.YthpmncdfaggkiaaGreat
namespace Go.Proofs.YthpmncdfaggkiaaGreat
open Go.RowKit
attribute [local go_sem] more_drew more_drewN more_size more_cell more_frozen more_setCell drew_more drewN_more lt_add_r lt_add_r2 lt_add_r3 lt_add_r4 lt_add_r5 lt_add_r6 lt_add_r7 lt_add_r8 lt_add_r9 lt_add_r10 lt_self_r lt_self_r2
section
variable {A : Option Addr} {c : Nat} {ps : List Prt} {w : World}
set_option maxRecDepth 100000 in
set_option maxHeartbeats 1000000 in
theorem rParents_yes (h : PS w A c ps) (T : Tree (nds ps)) : Calls Tryz.prog 19 #[.slice A ps.length c] w (ParsRet w (nds ps)) := by
 have CH := zh (rcheck_ok h T)
 have HS := zh h
 have hl := h.few.len
 have hl0 : 0 < ps.length := by have := T.pos; rwa [nds_length] at this
 have HT := zh T
 have hmk := run_make_row' (P := Tryz.prog) 31 3 (.int .i64 0) 8 Tryz.underlying31 infoInt rfl .i64 .i64 ps.length (by omega) (by omega)
 clear h T
 go_enter Tryz.func19, Tryz.ntmps19
 go_wp2_with fail
 refine CH.out.mono ?_
 rintro e w3 ⟨rfl, hx3⟩
 have HX3 := zh hx3
 clear hx3
 go_upto_region 4 with fail
 obtain ⟨W4, hW4⟩ : ∃ W4, w3.alloc (.cells (madeCells #[.int .i64 0] ps.length) 3) = W4 := ⟨_, rfl⟩
 have M4 : Hid (MadeI W4 w3.heap.size (List.replicate ps.length 0)) := hW4 ▸ MadeI.new _ _
 have X4 : Hid (Ext w W4) := hW4 ▸ HX3.out.alloc _
 have hg : w.heap.size ≤ w3.heap.size := HX3.out.size
 rw [hW4]
 generalize w3.heap.size = g at *
 obtain ⟨m1, m2, m3⟩ := M4.out.cell (k := 0) (by simp; omega)
 have M5 := zh (M4.out.store 0 (-1))
 have X5 := zh (X4.out.setCell (p := ⟨g, 0, none⟩) hg (.int .i64 (-1)))
 clear hW4 hmk
 go_wp2_with fail
 generalize hW5 : W4.setCell ⟨g, 0, none⟩ (.int .i64 (-1)) = W5 at *
 clear hW5 m1 m2 m3
 go_loopw [4] (fun i wr => ∃ (j : Nat) (us : List Int), j ≤ ps.length ∧ i = .int .i64 j ∧ Hid (MadeI wr g us) ∧ Hid (ParUpto (nds ps) us j 0) ∧ Hid (Ext w wr)) (fun i _ => ps.length - (intOf i).toNat)
 case atStart => exact ⟨0, _, Nat.zero_le _, rfl, M5, zh (ParUpto.first (by simp [nds_length]) (by rw [List.getElem?_set_self (by rw [List.length_replicate]; exact hl0)])), X5⟩
 case round =>
  obtain ⟨j, us, hj, rfl, hM, hU, hX⟩ := hrel
  by_cases hlt : j < ps.length
  ·obtain ⟨⟨q, kA, kcap⟩, hq⟩ : ∃ q, ps[j]? = some q := ⟨_, List.getElem?_eq_getElem hlt⟩
   obtain ⟨b, off, rfl, hb, hcell⟩ := (HS.out.ext hX.out).parts (by omega)
   obtain ⟨d0, d1, d2, d3, d4, d5, d6, d7⟩ := hcell j _ hq
   have ho := (HS.out.oks.get hq)
   have o1 : q.kids.length ≤ kcap := ho.cap
   have o2 : kcap ≤ 9223372036854775807 := ho.top
   dsimp only at d0 d1 d2 d3 d4 d5 d6 d7
   have HOQ := zh ho
   have HQ := zh (nds_get hq)
   have hq0 := hq
   clear hcell hq ho
   have D6 := zh (fun (V : World) (x : Ext w V) => (HS.out.ext x).parts (by omega))
   have HQP := zh hq0
   clear d0 d1 d2 d3 d4 d5 d6 d7 hq0
   go_wp2_with fail
   go_loopw [5] (fun i wr => ∃ (k : Nat) (us : List Int), k ≤ q.kids.length ∧ i = .int .i64 k ∧ Hid (MadeI wr g us) ∧ Hid (ParUpto (nds ps) us j k) ∧ Hid (Ext w wr)) (fun i _ => q.kids.length - (intOf i).toNat)
   case atStart => exact ⟨0, us, Nat.zero_le _, rfl, hM, hU, hX⟩
   case round =>
    obtain ⟨k, us, hk, rfl, hM, hU, hX⟩ := hrel
    obtain ⟨b', off', hA', hb', hcell⟩ := D6.out wr hX.out
    injection hA' with hA'
    injection hA' with ea eb
    subst ea eb
    have d6 := (hcell j _ HQP.out).2.2.2.2.2.2.1
    dsimp only at d6
    clear hcell
    by_cases hkl : k < q.kids.length
    ·obtain ⟨b2, off2, hkA, hb2, hc2⟩ := (HOQ.out.ext hX.out).kids (by show 0 < q.kids.length; omega)
     change kA = _ at hkA
     subst hkA
     have e1 := hc2 k hkl
     obtain ⟨i, hi1, hi2, hi3⟩ := HT.out.kid_behind HQ.out (q.kids.getD k 0) (by rw [List.getD_eq_getElem?_getD, List.getElem?_eq_getElem hkl]; exact List.getElem_mem hkl)
     dsimp only at e1
     rw [hi1] at e1
     rw [nds_length] at hi3
     have hlen := hU.out.len
     rw [nds_length] at hlen
     obtain ⟨m1, m2, m3⟩ := hM.out.cell (k := i) (by omega)
     have M7 := zh (hM.out.store i j)
     have X7 := zh (hX.out.setCell (p := ⟨g, i, none⟩) hg (.int .i64 (j : Int)))
     have U7 := zh (hU.out.kid HT.out HQ.out (c := i) (K := k) (by rw [← hi1, List.getD_eq_getElem?_getD, List.getElem?_eq_getElem hkl]; rfl))
     clear hc2 hi1 hM hU hX hlen
     go_wp2_with fail
     go_roundw
     case rel => exact ⟨k + 1, _, by omega, by go_num, M7, U7, X7⟩
     case measure => simp [intOf]; omega
    ·obtain rfl : k = q.kids.length := by omega
     go_wp2_with fail
     go_roundw
     case rel => exact ⟨j + 1, us, by omega, by go_num, hM, zh (ParUpto.next HQ.out hU.out), hX⟩
     case measure => simp [intOf]; omega
  ·obtain rfl : j = ps.length := by omega
   go_wp2_with fail
   go_ret
   have hlen := hU.out.len
   rw [nds_length] at hlen
   have e : (Value.slice (some ⟨g, 0, none⟩) ps.length ps.length) = .slice (some ⟨g, 0, none⟩) us.length us.length := by rw [hlen]
   exact ⟨us, ParUpto.done (by rw [nds_length]; exact hU.out), some ⟨g, 0, none⟩, us.length, by rw [← e]; rfl, hM.out.own hg (by omega), hX.out⟩
set_option maxRecDepth 100000 in
set_option maxHeartbeats 2000000 in
theorem rPath_yes (i : Nat) (ws : List Int) (h : PS w A c ps) (T : Tree (nds ps)) (hw : Way (nds ps) i ws) (hi : i < ps.length) : Calls Tryz.prog 92 #[.slice A ps.length c, .int .i64 i] w (IntsRet w ws) := by
 have CH := zh (ris_true i h ⟨T, by omega, by rw [nds_length]; omega⟩)
 have HS := zh h
 have HT := zh T
 have HW := zh hw
 have hl := h.few.len
 have hwl : ws.length ≤ 1001 := by have := hw.length T; omega
 clear h T hw
 go_enter Tryz.func92, Tryz.ntmps92
 go_wp2_with fail
 refine CH.out.mono ?_
 rintro e w2 ⟨rfl, hx2⟩
 have HX := zh hx2
 clear hx2
 go_wp2_with fail
 refine (rParents_yes (HS.out.ext HX.out) HT.out).mono ?_
 rintro e w3 ⟨us, hus, Au, cu, rfl, hou, hx3⟩
 have HX3 := zh (HX.out.trans hx3)
 have HU := zh hou
 have HUS := zh hus
 have hul : us.length = ps.length := by rw [hus.1, nds_length]
 have hu1 := hou.ints.2.1
 have hu2 := hou.ints.2.2.1
 unfold maxLen at hu2
 clear hx3 hou hus
 go_wp2_with fail
 go_loopw [1, 6] (fun s v wr => ∃ (xs : List Int), xs.length ≤ ws.length ∧ Hid (RowI wr w3.heap.size v xs) ∧ Hid (Ext w3 wr) ∧
  ((∃ (j : Nat) (vs : List Int), s = .int .i64 j ∧ j < ps.length ∧ Hid (Way (nds ps) j vs ∧ ws = vs ++ xs)) ∨ (s = .int .i64 (-1) ∧ Hid (ws = xs)))) (fun s _ _ => (intOf s + 1).toNat)
 case atStart => exact ⟨[], Nat.zero_le _, zh ⟨none, 0, rfl, OwnI.nil _ _⟩, zh (Ext.refl _), .inl ⟨i, ws, rfl, hi, zh ⟨HW.out, by simp⟩⟩⟩
 case round =>
  obtain ⟨xs, hxl, hr, hx, (⟨j, vs, rfl, hj, hv⟩ | ⟨rfl, hv⟩)⟩ := hrel
  ·obtain ⟨⟨q, kA, kcap⟩, hq⟩ : ∃ q, ps[j]? = some q := ⟨_, List.getElem?_eq_getElem hj⟩
   obtain ⟨b, off, rfl, hb, hcell⟩ := (HS.out.ext (HX3.out.trans hx.out)).parts (by omega)
   obtain ⟨d0, _, _, _, _, _, _, _⟩ := hcell j _ hq
   dsimp only at d0
   have HQ := zh hq
   clear hcell hq
   obtain ⟨b2, off2, rfl, hb2, hc2⟩ := HU.out.ints.1 (by omega)
   have e1 := hc2 j (by omega)
   clear hc2
   have hj2 : j < us.length := by omega
   have hxl2 : xs.length + 1 ≤ 1000000 := by omega
   have HXX := zh (HX3.out.trans hx.out)
   obtain ⟨hway, hws⟩ := hv.out
   obtain ⟨s', hs'⟩ : ∃ s', us.getD j 0 = s' := ⟨_, rfl⟩
   have hus' : us[j]? = some s' := by rw [← hs', List.getD_eq_getElem?_getD, List.getElem?_eq_getElem hj2]; rfl
   rw [hs'] at e1
   have NEXT : Hid (xs.length + 1 ≤ ws.length ∧ ((∃ (j' : Nat) (vs' : List Int), s' = (j' : Int) ∧ j' < j ∧ Way (nds ps) j' vs' ∧ ws = vs' ++ ([q.sym] ++ xs)) ∨ (s' = -1 ∧ ws = [q.sym] ++ xs))) := by
    cases hway with
    | root p hp =>
     rw [nds_get HQ.out] at hp
     cases hp
     rw [HUS.out.2.1] at hus'
     cases hus'
     exact ⟨by rw [hws]; simp, .inr ⟨rfl, hws⟩⟩
    | step _ j' p vs' hu hp hw' =>
     rw [nds_get HQ.out] at hp
     cases hp
     rw [HUS.out.2.2 j j' hu] at hus'
     cases hus'
     refine ⟨by rw [hws]; simp <;> omega, .inl ⟨j', vs', rfl, (HT.out.up_lt hu).1, hw', ?_⟩⟩
     rw [hws, List.append_assoc]
   clear hway hws hv hs' hus'
   obtain ⟨A1, c1, rfl, ho⟩ := hr.out
   have HO := zh ho
   clear ho hr
   go_wp2_with (at_builtin; refine app_ints wr (by rfl) (.tmp 24) (.tmp 25) rfl (xs := [q.sym]) ⟨some ⟨wr.heap.size, 0, none⟩, 1, rfl, own_lit wr wr.heap.size 3 1 wr.heap.size 1 #[.int .i64 q.sym] rfl (Nat.le_refl _) rfl (by unfold maxLen; omega)⟩ xs A1 c1 rfl rfl (HO.out.ints.2.2.2) (HO.out.ints.1.ext (by repeat first | exact xr _ | refine xa ?_ _ | refine xm ?_ _ _ | refine xd ?_ | refine xn ?_ _ | refine xs ?_ (by simp <;> omega) _)) (by simp; omega) (by repeat first | exact xr _ | refine xa ?_ _ | refine xm ?_ _ _ | refine xd ?_ | refine xn ?_ _ | refine xs ?_ (by simp <;> omega) _) ?_; intro v7 w7 hr7 hg7 hx7; have e7 := (hx7.below.cell (p := ⟨b2, off2 + j, none⟩) (Nat.lt_of_lt_of_le hb2 hx.out.size)).trans ((hx.out.below.cell (p := ⟨b2, off2 + j, none⟩) hb2).trans e1); have lb7 : b2 < w7.heap.size := Nat.lt_of_lt_of_le hb2 (Nat.le_trans hx.out.size hx7.size))
   have HR7 := zh hr7
   have HX7 := zh hx7
   clear hr7 hg7 hx7 e7
   go_roundw
   case rel =>
    obtain ⟨hn1, hn2⟩ := NEXT.out
    obtain ⟨A7, c7, rfl, ho7⟩ := HR7.out
    refine ⟨[q.sym] ++ xs, by simp; omega, zh ⟨A7, c7, rfl, ho7.base hx.out.size⟩, zh (hx.out.trans HX7.out), ?_⟩
    rcases hn2 with ⟨j', vs', rfl, hjj, h1, h2⟩ | ⟨rfl, h2⟩
    ·exact .inl ⟨j', vs', rfl, by omega, zh ⟨h1, h2⟩⟩
    ·exact .inr ⟨rfl, zh h2⟩
   case measure =>
    obtain ⟨hn1, hn2⟩ := NEXT.out
    rcases hn2 with ⟨j', vs', rfl, hjj, h1, h2⟩ | ⟨rfl, h2⟩ <;> simp only [intOf] <;> omega
  ·obtain ⟨A1, c1, rfl, ho⟩ := hr.out
   have HO := zh ho
   have HV := zh hv.out
   clear ho
   go_wp2_with fail
   go_ret
   refine ⟨A1, c1, by rw [HV.out]; rfl, ?_, HX3.out.trans hx.out⟩
   rw [HV.out]
   exact HO.out.base HX3.out.size
end
end Go.Proofs.YthpmncdfaggkiaaGreat
namespace Go.Proofs.YthpmncdfaggkiaaGreat
open Go.RowKit
theorem gap_one {x : Int} {ps : List Pn} (h : Gap x (x + 1) ps) : ∃ st mr, ps = [⟨x, x + 1, st, mr⟩] ∧ col x ps = some (st, mr) := by
 cases ps with
 | nil =>
  have h' : x = x + 1 := h
  omega
 | cons p ps =>
  obtain ⟨p0, p1, p2, p3⟩ := p
  obtain ⟨h1, h2, h3⟩ := h
  dsimp only at h1 h2 h3
  subst h1
  have hle := h3.le
  obtain rfl : p1 = p0 + 1 := by omega
  cases ps with
  | nil =>
   refine ⟨p2, p3, rfl, ?_⟩
   exact col_at (p := ⟨p0, p0 + 1, p2, p3⟩) (by dsimp only; omega)
  | cons q qs =>
   obtain ⟨q1, q2, q3⟩ := h3
   have := q3.le
   omega
theorem melt_gap {x z : Int} {xs : List Pn} (hx : Gap x z xs) : Gap x z (meltF xs) := (meltF_right (x := x) (y := x) (out := []) rfl trivial hx).1
theorem col_some {z a b : Int} {ps : List Pn} (h : Gap a b ps) (h1 : a ≤ z) (h2 : z < b) : ∃ (j : Nat) (p : Pn), ps[j]? = some p ∧ hasB z p = true ∧ col z ps = some (p.st, p.mr) ∧ ∀ (i : Nat) (q : Pn), ps[i]? = some q → hasB z q = true → i = j := by
 induction ps generalizing a with
 | nil =>
  have h' : a = b := h
  omega
 | cons p ps ih =>
  obtain ⟨g1, g2, g3⟩ := h
  by_cases hz : z < p.hi
  ·have hb : hasB z p = true := by simp [hasB]; omega
   refine ⟨0, p, rfl, hb, by simp [col, hb], fun i q hi hq => ?_⟩
   cases i with
   | zero => rfl
   | succ i =>
    exfalso
    have hm : q ∈ ps := List.mem_of_getElem? (by simpa using hi)
    have low : ∀ (qs : List Pn) (c : Int), Gap c b qs → z < c → ∀ q ∈ qs, hasB z q = false := by
     intro qs
     induction qs with
     | nil => intro c _ _ q hq; cases hq
     | cons r qs ih2 =>
      rintro c ⟨r1, r2, r3⟩ hc q hq
      rcases List.mem_cons.1 hq with rfl | hq
      ·simp [hasB]; omega
      ·exact ih2 r.hi r3 (by omega) q hq
    rw [low ps p.hi g3 hz q hm] at hq
    cases hq
  ·have hb : hasB z p = false := by simp [hasB]; omega
   obtain ⟨j, q, e1, e2, e3, e4⟩ := ih g3 (by omega)
   refine ⟨j + 1, q, by simpa using e1, e2, by simp [col, hb, e3], fun i r hi hr => ?_⟩
   cases i with
   | zero =>
    simp at hi
    subst hi
    rw [hb] at hr
    cases hr
   | succ i => rw [e4 i r (by simpa using hi) hr]
end Go.Proofs.YthpmncdfaggkiaaGreat
namespace Go.Proofs.YthpmncdfaggkiaaGreat
open Go.RowKit
attribute [local go_sem] more_drew more_drewN more_size more_cell more_frozen more_setCell drew_more drewN_more lt_add_r lt_add_r2 lt_add_r3 lt_add_r4 lt_add_r5 lt_add_r6 lt_add_r7 lt_add_r8 lt_add_r9 lt_add_r10 lt_self_r lt_self_r2
def styV (s : Sty) : Value := .agg #[.int .i64 s.kind, .slice s.pA s.path.length s.pc, .int .i64 s.st, .int .i64 s.prio]
end Go.Proofs.YthpmncdfaggkiaaGreat
namespace Go.Proofs.YthpmncdfaggkiaaGreat
open Go.RowKit
section
variable {l : List Nd} (T : Tree l) (ms : List Int) (sv : Nat → Int)
include T
theorem PF_gap {f t : Int} (h0 : 0 ≤ f) (hft : f ≤ t) (ht : t ≤ (ndAt l 0).hi) : Gap f t (PF l ms sv f t) := melt_gap (strF_whole ms sv (leaves_row T) h0 hft ht)
theorem PF_col {f t z : Int} (h0 : 0 ≤ f) (hft : f ≤ t) (ht : t ≤ (ndAt l 0).hi) (h1 : f ≤ z) (h2 : z < t) : col z (PF l ms sv f t) = colT l ms sv z 0 (leavesF 0 l) := by
 unfold PF
 rw [meltF_col z (strF_whole ms sv (leaves_row T) h0 hft ht), col_strF, if_pos ⟨h1, h2⟩]
theorem few_one {z t : Int} (h0 : 0 ≤ z) (hz : z < t) (ht : t ≤ (ndAt l 0).hi) : ∃ (st mr : Int), PF l ms sv z (z + 1) = [⟨z, z + 1, st, mr⟩] ∧ colT l ms sv z 0 (leavesF 0 l) = some (st, mr) ∧ ∃ (j : Nat) (p : Pn), (PF l ms sv 0 t)[j]? = some p ∧ hasB z p = true ∧ p.st = st ∧ p.mr = mr ∧ ∀ (i : Nat) (q : Pn), (PF l ms sv 0 t)[i]? = some q → hasB z q = true → i = j := by
 obtain ⟨st, mr, h1, h2⟩ := gap_one (PF_gap T ms sv h0 (by omega) (by omega : z + 1 ≤ (ndAt l 0).hi))
 rw [PF_col T ms sv h0 (by omega) (by omega) (Int.le_refl z) (by omega)] at h2
 obtain ⟨j, p, h3, h4, h5, h6⟩ := col_some (PF_gap T ms sv (Int.le_refl 0) (by omega) ht) h0 hz
 rw [PF_col T ms sv (Int.le_refl 0) (by omega) ht h0 hz, h2] at h5
 injection h5 with h5
 injection h5 with h5 h7
 exact ⟨st, mr, h1, h2, j, p, h3, h4, h5.symm, h7.symm, h6⟩
end
def inLeaf (l : List Nd) (z i : Int) : Prop := (ndAt l i).lo ≤ z ∧ z < (ndAt l i).hi
theorem row_low {l : List Nd} {x : Int} {is : List Int} (h : InRow l x is) : ∀ i ∈ is, x ≤ (ndAt l i).lo := by
 induction is generalizing x with
 | nil => intro i hi; cases hi
 | cons k is ih =>
  obtain ⟨h1, h2, h3, h4⟩ := h
  intro i hi
  rcases List.mem_cons.1 hi with rfl | hi
  ·exact h1
  ·have := ih h4 i hi
   omega
theorem colT_leaf {l : List Nd} (ms : List Int) (sv : Nat → Int) {z x : Int} {is : List Int} (h : InRow l x is) (hx : x ≤ z) (hz : z < (ndAt l 0).hi) :
 (∃ (j : Nat) (i : Int), is[j]? = some i ∧ inLeaf l z i ∧ (∀ (j' : Nat) (i' : Int), j' < j → is[j']? = some i' → ¬ inLeaf l z i') ∧ colT l ms sv z x is = some (if (ndAt l i).inn ≤ z then sv i.toNat else 0, (ms[i.toNat]?).getD 0)) ∨
 ((∀ i ∈ is, ¬ inLeaf l z i) ∧ colT l ms sv z x is = some (0, 1)) := by
 induction is generalizing x with
 | nil =>
  refine .inr ⟨(fun i hi => by cases hi), ?_⟩
  simp [colT, colC, hx, hz]
 | cons k is ih =>
  obtain ⟨h1, h2, h3, h4⟩ := h
  by_cases c1 : z < (ndAt l k).lo
  ·refine .inr ⟨fun i hi => ?_, by simp [colT, colC, hx, c1]⟩
   rintro ⟨a, b⟩
   rcases List.mem_cons.1 hi with rfl | hi
   ·omega
   ·have := row_low h4 i hi
    omega
  ·by_cases c2 : z < (ndAt l k).hi
   ·refine .inl ⟨0, k, rfl, ⟨by omega, c2⟩, fun j' i' hj => absurd hj (Nat.not_lt_zero _), ?_⟩
    by_cases c3 : z < (ndAt l k).inn
    ·have e1 : ¬ (ndAt l k).inn ≤ z := by omega
     have e2 : (ndAt l k).lo ≤ z := by omega
     simp [colT, colC, c1, c3, e1, e2]
    ·have e1 : (ndAt l k).inn ≤ z := by omega
     simp [colT, colC, c1, c2, c3, e1]
   ·rcases ih h4 (by omega) with ⟨j, i, e1, e2, e3, e4⟩ | ⟨e1, e2⟩
    ·refine .inl ⟨j + 1, i, by simpa using e1, e2, fun j' i' hj hi' => ?_, ?_⟩
     ·cases j' with
      | zero =>
       simp at hi'
       subst hi'
       rintro ⟨a, b⟩
       omega
      | succ j' => exact e3 j' i' (by omega) (by simpa using hi')
     ·have c3 : ¬ z < (ndAt l k).inn := by omega
      simp [colT, colC, c1, c2, c3, e4]
    ·refine .inr ⟨fun i hi => ?_, ?_⟩
     ·rcases List.mem_cons.1 hi with rfl | hi
      ·rintro ⟨a, b⟩
       omega
      ·exact e1 i hi
     ·have c3 : ¬ z < (ndAt l k).inn := by omega
      simp [colT, colC, c1, c2, c3, e2]
def pickF (n m : Int) : Int := if m < 1 then 0 else n % m
theorem pickF_bd (n m : Int) (h : 1 ≤ m) : 0 ≤ pickF n m ∧ pickF n m < m := by
 unfold pickF
 rw [if_neg (by omega)]
 exact ⟨Int.emod_nonneg _ (by omega), Int.emod_lt_of_pos _ (by omega)⟩
theorem tmod_neg (n m : Int) (hm : 1 ≤ m) (h : n.tmod m < 0) : n.tmod m + m = n % m := by
 rw [Int.tmod_eq_emod] at h ⊢
 split at h <;> rename_i hc
 ·have := Int.emod_nonneg n (show m ≠ 0 by omega); omega
 ·rw [if_neg hc]; omega
theorem tmod_pos (n m : Int) (hm : 1 ≤ m) (h : ¬ n.tmod m < 0) : n.tmod m = n % m := by
 rw [Int.tmod_eq_emod] at h ⊢
 split at h <;> rename_i hc
 ·rw [if_pos hc]; omega
 ·have := Int.emod_lt_of_pos n (show 0 < m by omega); omega
theorem tmod_bd (n m : Int) (hm : 1 ≤ m) : -m < n.tmod m ∧ n.tmod m < m := by
 have h1 := Int.emod_nonneg n (show m ≠ 0 by omega)
 have h2 := Int.emod_lt_of_pos n (show 0 < m by omega)
 rw [Int.tmod_eq_emod]
 split <;> omega
set_option maxHeartbeats 400000 in
theorem pick_any (n m : Int) (w : World) (hm : m ≤ 4611686018427387904) (hn : -9223372036854775808 ≤ n ∧ n ≤ 9223372036854775807) :
 Calls Tryz.prog 16 #[.int .i64 n, .int .i64 m] w fun e w' => e = .returned (.int .i64 (pickF n m)) ∧ w = w' := by
 by_cases h1 : m < 1
 ·have H : Hid (pickF n m = 0) := if_pos h1
  go_enter Tryz.func16, Tryz.ntmps16
  go_wp2
  go_ret
  exact ⟨ret_int H.out.symm, rfl⟩
 ·have H : Hid (pickF n m = n % m) := if_neg h1
  by_cases h0 : 0 ≤ n
  ·have h2 : 0 ≤ n % m := Int.emod_nonneg _ (by omega)
   go_enter Tryz.func16, Tryz.ntmps16
   go_wp2
   go_ret
   exact ⟨ret_int H.out.symm, rfl⟩
  ·have hb := tmod_bd n m (by omega)
   by_cases h3 : n.tmod m < 0
   ·have H2 : Hid _ := tmod_neg n m (by omega) h3
    go_enter Tryz.func16, Tryz.ntmps16
    go_wp2
    go_ret
    exact ⟨ret_int (H2.out.trans H.out.symm), rfl⟩
   ·have H2 : Hid _ := tmod_pos n m (by omega) h3
    go_enter Tryz.func16, Tryz.ntmps16
    go_wp2
    go_ret
    exact ⟨ret_int (H2.out.trans H.out.symm), rfl⟩
end Go.Proofs.YthpmncdfaggkiaaGreat
namespace Go.Proofs.YthpmncdfaggkiaaGreat
open Go.RowKit
attribute [local go_sem] more_drew more_drewN more_size more_cell more_frozen more_setCell drew_more drewN_more lt_add_r lt_add_r2 lt_add_r3 lt_add_r4 lt_add_r5 lt_add_r6 lt_add_r7 lt_add_r8 lt_add_r9 lt_add_r10 lt_self_r lt_self_r2
theorem drop_back {α : Type} {l : List α} {n : Nat} {x : α} (h : l[n]? = some x) : l.drop n = x :: l.drop (n + 1) := by
 obtain ⟨h1, rfl⟩ := List.getElem?_eq_some_iff.1 h
 rw [List.getElem_cons_drop]
set_option maxRecDepth 100000 in
set_option maxHeartbeats 2000000 in
theorem rmatches_any (s : Sty) (kind : Int) (A : Option Addr) (way : List Int) (c : Nat) (w : World) (hs : styOk w s) (hcap : s.path.length ≤ s.pc) (htop : s.pc ≤ 9223372036854775807) (hlen : s.path.length ≤ 1000) (hx : Ints w A way) (bx : way.length ≤ c) (bc : c ≤ 9223372036854775807) :
 Calls Tryz.prog 138 #[styV s, .int .i64 kind, .slice A way.length c] w fun e w' => e = .returned (.bool (matchB s kind way)) ∧ Ext w w' := by
 have HM : Hid (matchB s kind way = (decide (s.kind = kind) && (decide (s.path.length ≤ way.length) && decide (way.drop (way.length - s.path.length) = s.path)))) := zh rfl
 have HP := zh hs.1
 have HX := zh hx
 unfold styV
 clear hs hx
 by_cases h0 : s.kind = kind
 ·have q0 : (s.kind != kind) = false := by simp [h0]
  have HM1 : Hid (matchB s kind way = (decide (s.path.length ≤ way.length) && decide (way.drop (way.length - s.path.length) = s.path))) := zh (by rw [HM.out, decide_eq_true h0, Bool.true_and])
  clear h0
  by_cases h1 : way.length < s.path.length
  ·have q1 : decide (way.length < s.path.length) = true := decide_eq_true (by omega)
   have HR : Hid (matchB s kind way = false) := zh (by rw [HM1.out, decide_eq_false (by omega)]; rfl)
   clear h1
   go_enter Tryz.func138, Tryz.ntmps138
   go_wp2_with fail
   go_ret
   exact ⟨ret_bool HR.out.symm, (by repeat first | exact xr _ | refine xa ?_ _ | refine xm ?_ _ _ | refine xd ?_ | refine xn ?_ _ | refine xs ?_ (by simp <;> omega) _)⟩
  ·have q1 : decide (way.length < s.path.length) = false := decide_eq_false (by omega)
   have HM2 : Hid (matchB s kind way = decide (way.drop (way.length - s.path.length) = s.path)) := zh (by rw [HM1.out, decide_eq_true (show s.path.length ≤ way.length by omega), Bool.true_and])
   have HLE : Hid (s.path.length ≤ way.length) := zh (by omega)
   clear h1
   obtain ⟨bp, hbp⟩ : ∃ bp, w.heap.size = bp := ⟨_, rfl⟩
   obtain ⟨W5, hW5⟩ : ∃ W5, w.alloc (.cells #[.int .i64 s.kind, .slice s.pA s.path.length s.pc, .int .i64 s.st, .int .i64 s.prio] 55) = W5 := ⟨_, rfl⟩
   have X5 : Hid (Ext w W5) := zh (by rw [← hW5]; exact (by repeat first | exact xr _ | refine xa ?_ _ | refine xm ?_ _ _ | refine xd ?_ | refine xn ?_ _ | refine xs ?_ (by simp <;> omega) _))
   have B5 : Hid (W5.heap[bp]? = some (.cells #[.int .i64 s.kind, .slice s.pA s.path.length s.pc, .int .i64 s.st, .int .i64 s.prio] 55)) := zh (by rw [← hW5, ← hbp]; exact heap_alloc_new _ _)
   go_enter Tryz.func138, Tryz.ntmps138
   go_upto_region 1 with fail
   clear hW5 hbp
   have f0 := cell_of_row _ _ 0 _ _ _ B5.out
   have f1 := cell_of_row _ _ 1 _ _ _ B5.out
   simp at f0 f1
   have fl := lt_of_heap B5.out
   go_wp2_with fail
   clear f0 f1 fl
   go_loopw [7] (fun v wi => ∃ j : Nat, 1 ≤ j ∧ j ≤ s.path.length + 1 ∧ v = .int .i64 j ∧ Hid (s.path.drop (s.path.length - (j - 1)) = way.drop (way.length - (j - 1))) ∧ Hid (Ext W5 wi)) (fun v _ => s.path.length + 1 - (intOf v).toNat)
   case atStart => exact ⟨1, by omega, by omega, rfl, zh (by rw [Nat.sub_self, Nat.sub_zero, Nat.sub_zero, List.drop_length, List.drop_length]), zh (by repeat first | exact xr _ | refine xa ?_ _ | refine xm ?_ _ _ | refine xd ?_ | refine xn ?_ _ | refine xs ?_ (by simp <;> omega) _)⟩
   case round =>
    obtain ⟨j, hj1, hk, rfl, hd, hx⟩ := hrel
    obtain ⟨k, hjk⟩ : ∃ k, j = k + 1 := ⟨j - 1, by omega⟩
    rw [show j - 1 = k by omega] at hd
    have HX6 := zh hx.out
    have hb5 := ext_blk B5.out hx.out
    have f1 := cell_of_row _ _ 1 _ _ _ hb5
    simp at f1
    have fl := lt_of_heap hb5
    by_cases hlt : k < s.path.length
    ·have hle := HLE.out
     obtain ⟨m, hm⟩ : ∃ m, s.path.length - (k + 1) = m := ⟨_, rfl⟩
     obtain ⟨n, hn⟩ : ∃ n, way.length - (k + 1) = n := ⟨_, rfl⟩
     obtain ⟨x, hxk⟩ : ∃ x, s.path[m]? = some x := ⟨_, List.getElem?_eq_getElem (by omega)⟩
     obtain ⟨y, hyk⟩ : ∃ y, way[n]? = some y := ⟨_, List.getElem?_eq_getElem (by omega)⟩
     obtain ⟨br, ofr, hrA, hbr, hcr⟩ := (HP.out.ext (X5.out.trans hx.out)) (by omega)
     obtain ⟨bw, ofw, rfl, hbw, hcw⟩ := (HX.out.ext (X5.out.trans hx.out)) (by omega)
     have d := hcr m (by omega)
     have d' := hcw n (by omega)
     rw [List.getD_eq_getElem?_getD, hxk] at d
     rw [List.getD_eq_getElem?_getD, hyk] at d'
     rw [hrA] at f1
     change wr.cell? ⟨br, ofr + m, none⟩ = some (.int .i64 x) at d
     change wr.cell? ⟨bw, ofw + n, none⟩ = some (.int .i64 y) at d'
     have w1 : IntKind.i64.wrap ((s.path.length : Int) - (j : Int)) = (m : Int) := by rw [IntKind.wrap_i64]; omega
     have w2 : IntKind.i64.wrap ((way.length : Int) - (j : Int)) = (n : Int) := by rw [IntKind.wrap_i64]; omega
     have q2 : decide (j ≤ s.path.length) = true := decide_eq_true (by omega)
     have i0 : (m : Int) < (s.path.length : Int) := by omega
     have i1 : (n : Int) < (way.length : Int) := by omega
     have i2 : (0 : Int) ≤ (m : Int) := by omega
     have i3 : (0 : Int) ≤ (n : Int) := by omega
     have HDX : Hid (s.path.drop (s.path.length - (k + 1)) = x :: s.path.drop (s.path.length - k)) := zh (by rw [hm, drop_back hxk, show m + 1 = s.path.length - k by omega])
     have HDY : Hid (way.drop (way.length - (k + 1)) = y :: way.drop (way.length - k)) := zh (by rw [hn, drop_back hyk, show n + 1 = way.length - k by omega])
     have HXM := zh hxk
     have HYN := zh hyk
     have HJK := zh hjk
     have hjl : j ≤ s.path.length := by omega
     have HMN : Hid (n = (way.length - s.path.length) + m) := zh (by omega)
     clear hb5 hcr hcw hxk hyk hx hm hn hle hlt hjk
     by_cases hxy : x = y
     ·have q3 : (x != y) = false := by simp [hxy]
      have HNX : Hid (s.path.drop (s.path.length - (k + 1)) = way.drop (way.length - (k + 1))) := zh (by rw [HDX.out, HDY.out, hxy, hd.out])
      clear hxy
      go_upto_region 6 with fail
      refine wp_region_bt (17) (softs_bt [0, 1, 2, 3, 4, 5, 6, 7, 8, 9, 10, 11, 12, 13, 14, 15, 16] .fin) (by kernel_rfl) (by kernel_rfl) ?_
      refine bt_softs _ fun K hK => ?_; simp only [pick, nthC]; (repeat go_big_quiet_step (fail)); refine wpQuiet_nil (hK _ ?_); clear hK K
      (refine bt_fin ?_)
      go_wp2_with fail
      go_roundw
      case rel => exact ⟨j + 1, by omega, by omega, by go_num, zh (by rw [Nat.add_sub_cancel, HJK.out]; exact HNX.out), zh (HX6.out.trans (by repeat first | exact xr _ | refine xa ?_ _ | refine xm ?_ _ _ | refine xd ?_ | refine xn ?_ _ | refine xs ?_ (by simp <;> omega) _))⟩
      case measure => simp [intOf]; omega
     ·have q3 : (x != y) = true := by simp [hxy]
      have HR : Hid (matchB s kind way = false) := zh (by
       rw [HM2.out, decide_eq_false]
       intro h
       have h1 := HXM.out
       rw [← h, List.getElem?_drop, ← HMN.out, HYN.out] at h1
       injection h1 with h1
       exact hxy h1.symm)
      clear hxy
      go_upto_region 6 with fail
      refine wp_region_bt (17) (softs_bt [0, 1, 2, 3, 4, 5, 6, 7, 8, 9, 10, 11, 12, 13, 14, 15, 16] .fin) (by kernel_rfl) (by kernel_rfl) ?_
      refine bt_softs _ fun K hK => ?_; simp only [pick, nthC]; (repeat go_big_quiet_step (fail)); refine wpQuiet_nil (hK _ ?_); clear hK K
      (refine bt_fin ?_)
      go_wp2_with fail
      go_ret
      exact ⟨ret_bool HR.out.symm, (X5.out.trans HX6.out).trans (by repeat first | exact xr _ | refine xa ?_ _ | refine xm ?_ _ _ | refine xd ?_ | refine xn ?_ _ | refine xs ?_ (by simp <;> omega) _)⟩
    ·obtain rfl : k = s.path.length := by omega
     have q2 : decide (j ≤ s.path.length) = false := decide_eq_false (by omega)
     have HR : Hid (matchB s kind way = true) := zh (by
      have h1 := hd.out
      rw [Nat.sub_self, List.drop_zero] at h1
      rw [HM2.out, ← h1, decide_eq_true rfl])
     clear hx hb5 hjk
     go_wp2_with fail
     go_ret
     exact ⟨ret_bool HR.out.symm, (X5.out.trans HX6.out).trans (by repeat first | exact xr _ | refine xa ?_ _ | refine xm ?_ _ _ | refine xd ?_ | refine xn ?_ _ | refine xs ?_ (by simp <;> omega) _)⟩
 ·have q0 : (s.kind != kind) = true := by simp [h0]
  have HR : Hid (matchB s kind way = false) := zh (by rw [HM.out, decide_eq_false h0]; rfl)
  clear h0
  go_enter Tryz.func138, Tryz.ntmps138
  go_wp2_with fail
  go_ret
  exact ⟨ret_bool HR.out.symm, (by repeat first | exact xr _ | refine xa ?_ _ | refine xm ?_ _ _ | refine xd ?_ | refine xn ?_ _ | refine xs ?_ (by simp <;> omega) _)⟩
def bestI : Option Nat → Int
 | none => -1
 | some j => j
set_option maxRecDepth 100000 in
set_option maxHeartbeats 2000000 in
theorem rstyle_any (B : Option Addr) (ss : List Sty) (c : Nat) (kind : Int) (A : Option Addr) (way : List Int) (d : Nat) (w : World) (hS : Styles w B ss) (hO : StylesOk w ss) (hB : ∀ s ∈ ss, s.path.length ≤ s.pc ∧ s.pc ≤ 9223372036854775807 ∧ s.path.length ≤ 1000) (bs : ss.length ≤ 70)
 (hx : Ints w A way) (bx : way.length ≤ d) (bd : d ≤ 9223372036854775807) :
 Calls Tryz.prog 93 #[.slice B ss.length c, .int .i64 kind, .slice A way.length d] w fun e w' => e = .returned (.int .i64 (styleF ss kind way)) ∧ Ext w w' := by
 have HS := zh hS
 have HO := zh hO
 have HB := zh hB
 have HX := zh hx
 have HL := zh (bestIx_lt ss kind way)
 have HF : Hid (styleF ss kind way = stOf ss (bestIx ss kind way ss.length)) := zh rfl
 clear hS hO hB hx
 go_enter Tryz.func93, Tryz.ntmps93
 go_wp2_with fail
 go_loopw [7, 8] (fun b v wi => ∃ k : Nat, k ≤ ss.length ∧ v = .int .i64 k ∧ b = .int .i64 (bestI (bestIx ss kind way k)) ∧ Hid (Ext w wi)) (fun _ v _ => ss.length - (intOf v).toNat)
 case atStart => exact ⟨0, by omega, rfl, rfl, zh (by repeat first | exact xr _ | refine xa ?_ _ | refine xm ?_ _ _ | refine xd ?_ | refine xn ?_ _ | refine xs ?_ (by simp <;> omega) _)⟩
 case round =>
  obtain ⟨k, hk, rfl, rfl, hx⟩ := hrel
  by_cases hlt : k < ss.length
  ·obtain ⟨s, hs⟩ : ∃ s, ss[k]? = some s := ⟨_, List.getElem?_eq_getElem hlt⟩
   have hSx := HS.out.ext hx.out
   obtain ⟨b, off, rfl, hb, hcell⟩ := hSx (by omega)
   obtain ⟨d0, d1, d2, d3⟩ := hcell k s hs
   have E0 : Hid (bestIx ss kind way (k + 1) = if matchB s kind way && betterB ss s (bestIx ss kind way k) then some k else bestIx ss kind way k) := zh (by rw [bestIx, hs])
   have CM := zh (fun w2 (x : Ext wr w2) => rmatches_any s kind A way d w2 ((HO.out.ext (hx.out.trans x)) s (List.mem_of_getElem? hs)) (HB.out s (List.mem_of_getElem? hs)).1 (HB.out s (List.mem_of_getElem? hs)).2.1 (HB.out s (List.mem_of_getElem? hs)).2.2 (HX.out.ext (hx.out.trans x)) bx bd)
   unfold styV at CM
   have LK := zh (HL.out k)
   have HC := zh hcell
   obtain ⟨o, ho⟩ : ∃ o, bestIx ss kind way k = o := ⟨_, rfl⟩
   obtain ⟨mb, hmb⟩ : ∃ mb, matchB s kind way = mb := ⟨_, rfl⟩
   rw [ho, hmb] at E0
   rw [hmb] at CM
   rw [ho] at LK ⊢
   have HX6 := zh hx.out
   clear hcell hs hSx hx ho hmb
   cases mb with
   | false =>
    have EN : Hid (bestIx ss kind way (k + 1) = o) := zh (by have := E0.out; simpa using this)
    clear E0 LK
    obtain ⟨ov, hov⟩ : ∃ ov, bestI o = ov := ⟨_, rfl⟩
    have HOV := zh hov
    rw [hov]
    clear hov
    go_upto_region 5 with fail
    refine wp_region_bt (24) (softs_bt [0, 1, 2, 3, 4, 5] (.step 6 (softs_bt [7, 8, 9, 10, 11, 12, 13, 14, 15, 16, 17, 18, 19, 20, 21, 22, 23] .fin))) (by kernel_rfl) (by kernel_rfl) ?_
    refine bt_softs _ fun K hK => ?_; simp only [pick, nthC]; (repeat go_big_quiet_step (fail)); refine wpQuiet_nil (hK _ ?_); clear hK K
    refine bt_step fun next hn => ?_; simp only [pick, nthC]
    go_wp2_with fail
    refine (CM.out _ (by repeat first | exact xr _ | refine xa ?_ _ | refine xm ?_ _ _ | refine xd ?_ | refine xn ?_ _ | refine xs ?_ (by simp <;> omega) _)).mono ?_
    rintro e w2 ⟨rfl, os2, k2, rfl⟩
    go_wp2_with fail
    refine segQ_mk (fun _ => laid (by repeat first | exact xr _ | refine xa ?_ _ | refine xm ?_ _ _ | refine xd ?_ | refine xn ?_ _ | refine xs ?_ (by simp <;> omega) _)) (hn _ _ ?_)
    clear hn next
    refine bt_softs _ fun K hK => ?_; simp only [pick, nthC]; (repeat go_big_quiet_step (fail)); refine wpQuiet_nil (hK _ ?_); clear hK K
    (refine bt_fin ?_)
    go_wp2_with fail
    go_roundw
    case rel => exact ⟨k + 1, by omega, by go_num, by rw [EN.out, HOV.out], zh (HX6.out.trans (by repeat first | exact xr _ | refine xa ?_ _ | refine xm ?_ _ _ | refine xd ?_ | refine xn ?_ _ | refine xs ?_ (by simp <;> omega) _))⟩
    case measure => simp [intOf]; omega
   | true =>
    cases o with
    | none =>
     have EN : Hid (bestIx ss kind way (k + 1) = some k) := zh (by have := E0.out; simpa [betterB] using this)
     clear E0 LK
     show Code.wp _ _ _ _ _
     have hbi : bestI none = -1 := rfl
     rw [hbi]
     clear hbi
     go_upto_region 5 with fail
     refine wp_region_bt (24) (softs_bt [0, 1, 2, 3, 4, 5] (.step 6 (softs_bt [7, 8, 9, 10, 11, 12, 13, 14, 15, 16, 17, 18, 19, 20, 21, 22, 23] .fin))) (by kernel_rfl) (by kernel_rfl) ?_
     refine bt_softs _ fun K hK => ?_; simp only [pick, nthC]; (repeat go_big_quiet_step (fail)); refine wpQuiet_nil (hK _ ?_); clear hK K
     refine bt_step fun next hn => ?_; simp only [pick, nthC]
     go_wp2_with fail
     refine (CM.out _ (by repeat first | exact xr _ | refine xa ?_ _ | refine xm ?_ _ _ | refine xd ?_ | refine xn ?_ _ | refine xs ?_ (by simp <;> omega) _)).mono ?_
     rintro e w2 ⟨rfl, os2, k2, rfl⟩
     go_wp2_with fail
     refine segQ_mk (fun _ => laid (by repeat first | exact xr _ | refine xa ?_ _ | refine xm ?_ _ _ | refine xd ?_ | refine xn ?_ _ | refine xs ?_ (by simp <;> omega) _)) (hn _ _ ?_)
     clear hn next
     refine bt_softs _ fun K hK => ?_; simp only [pick, nthC]; (repeat go_big_quiet_step (fail)); refine wpQuiet_nil (hK _ ?_); clear hK K
     (refine bt_fin ?_)
     go_wp2_with fail
     go_roundw
     case rel => exact ⟨k + 1, by omega, by go_num, by rw [EN.out]; rfl, zh (HX6.out.trans (by repeat first | exact xr _ | refine xa ?_ _ | refine xm ?_ _ _ | refine xd ?_ | refine xn ?_ _ | refine xs ?_ (by simp <;> omega) _))⟩
     case measure => simp [intOf]; omega
    | some j =>
     obtain ⟨lj, lj2⟩ := LK.out j rfl
     obtain ⟨t, ht⟩ : ∃ t, ss[j]? = some t := ⟨_, List.getElem?_eq_getElem lj2⟩
     obtain ⟨e0, e1, e2, e3⟩ := HC.out j t ht
     have hp : prioAt ss j = t.prio := by simp [prioAt, ht]
     have hbi : bestI (some j) = (j : Int) := rfl
     rw [hbi]
     have qn : decide ((j : Int) < 0) = false := decide_eq_false (by omega)
     have i0 : (j : Int) < (ss.length : Int) := by omega
     have i1 : (0 : Int) ≤ (j : Int) := by omega
     by_cases hq : t.prio < s.prio
     ·have hq' : decide (t.prio < s.prio) = true := decide_eq_true hq
      have EN : Hid (bestIx ss kind way (k + 1) = some k) := zh (by have := E0.out; simp only [betterB, hp, hq', Bool.and_self, if_true] at this; exact this)
      clear E0 LK hp hbi ht hq e0 e1 e2
      go_upto_region 5 with fail
      refine wp_region_bt (24) (softs_bt [0, 1, 2, 3, 4, 5] (.step 6 (softs_bt [7, 8, 9, 10, 11, 12, 13, 14, 15, 16, 17, 18, 19, 20, 21, 22, 23] .fin))) (by kernel_rfl) (by kernel_rfl) ?_
      refine bt_softs _ fun K hK => ?_; simp only [pick, nthC]; (repeat go_big_quiet_step (fail)); refine wpQuiet_nil (hK _ ?_); clear hK K
      refine bt_step fun next hn => ?_; simp only [pick, nthC]
      go_wp2_with fail
      refine (CM.out _ (by repeat first | exact xr _ | refine xa ?_ _ | refine xm ?_ _ _ | refine xd ?_ | refine xn ?_ _ | refine xs ?_ (by simp <;> omega) _)).mono ?_
      rintro e w2 ⟨rfl, os2, k2, rfl⟩
      go_wp2_with fail
      refine segQ_mk (fun _ => laid (by repeat first | exact xr _ | refine xa ?_ _ | refine xm ?_ _ _ | refine xd ?_ | refine xn ?_ _ | refine xs ?_ (by simp <;> omega) _)) (hn _ _ ?_)
      clear hn next
      refine bt_softs _ fun K hK => ?_; simp only [pick, nthC]; (repeat go_big_quiet_step (fail)); refine wpQuiet_nil (hK _ ?_); clear hK K
      (refine bt_fin ?_)
      go_wp2_with fail
      go_roundw
      case rel => exact ⟨k + 1, by omega, by go_num, by rw [EN.out]; rfl, zh (HX6.out.trans (by repeat first | exact xr _ | refine xa ?_ _ | refine xm ?_ _ _ | refine xd ?_ | refine xn ?_ _ | refine xs ?_ (by simp <;> omega) _))⟩
      case measure => simp [intOf]; omega
     ·have hq' : decide (t.prio < s.prio) = false := decide_eq_false hq
      have EN : Hid (bestIx ss kind way (k + 1) = some j) := zh (by have := E0.out; simp only [betterB, hp, hq', Bool.and_false, Bool.false_eq_true, if_false] at this; exact this)
      clear E0 LK hp hbi ht hq e0 e1 e2
      go_upto_region 5 with fail
      refine wp_region_bt (24) (softs_bt [0, 1, 2, 3, 4, 5] (.step 6 (softs_bt [7, 8, 9, 10, 11, 12, 13, 14, 15, 16, 17, 18, 19, 20, 21, 22, 23] .fin))) (by kernel_rfl) (by kernel_rfl) ?_
      refine bt_softs _ fun K hK => ?_; simp only [pick, nthC]; (repeat go_big_quiet_step (fail)); refine wpQuiet_nil (hK _ ?_); clear hK K
      refine bt_step fun next hn => ?_; simp only [pick, nthC]
      go_wp2_with fail
      refine (CM.out _ (by repeat first | exact xr _ | refine xa ?_ _ | refine xm ?_ _ _ | refine xd ?_ | refine xn ?_ _ | refine xs ?_ (by simp <;> omega) _)).mono ?_
      rintro e w2 ⟨rfl, os2, k2, rfl⟩
      go_wp2_with fail
      refine segQ_mk (fun _ => laid (by repeat first | exact xr _ | refine xa ?_ _ | refine xm ?_ _ _ | refine xd ?_ | refine xn ?_ _ | refine xs ?_ (by simp <;> omega) _)) (hn _ _ ?_)
      clear hn next
      refine bt_softs _ fun K hK => ?_; simp only [pick, nthC]; (repeat go_big_quiet_step (fail)); refine wpQuiet_nil (hK _ ?_); clear hK K
      (refine bt_fin ?_)
      go_wp2_with fail
      go_roundw
      case rel => exact ⟨k + 1, by omega, by go_num, by rw [EN.out]; rfl, zh (HX6.out.trans (by repeat first | exact xr _ | refine xa ?_ _ | refine xm ?_ _ _ | refine xd ?_ | refine xn ?_ _ | refine xs ?_ (by simp <;> omega) _))⟩
      case measure => simp [intOf]; omega
  ·obtain rfl : k = ss.length := by omega
   have HX6 := zh hx.out
   have LK := zh (HL.out ss.length)
   obtain ⟨o, ho⟩ : ∃ o, bestIx ss kind way ss.length = o := ⟨_, rfl⟩
   rw [ho] at HF LK ⊢
   cases o with
   | none =>
    have hbi : bestI none = -1 := rfl
    rw [hbi]
    clear hbi ho hx
    go_wp2_with fail
    go_ret
    exact ⟨ret_int (by rw [HF.out]; rfl), HX6.out⟩
   | some j =>
    obtain ⟨lj, lj2⟩ := LK.out j rfl
    obtain ⟨t, ht⟩ : ∃ t, ss[j]? = some t := ⟨_, List.getElem?_eq_getElem lj2⟩
    obtain ⟨b, off, rfl, hb, hcell⟩ := (HS.out.ext hx.out) (by omega)
    obtain ⟨e0, e1, e2, e3⟩ := hcell j t ht
    have HST : Hid (styleF ss kind way = t.st) := zh (by rw [HF.out]; simp [stOf, stAt, ht])
    have hbi : bestI (some j) = (j : Int) := rfl
    rw [hbi]
    have qn : decide ((j : Int) < 0) = false := decide_eq_false (by omega)
    have i0 : (j : Int) < (ss.length : Int) := by omega
    have i1 : (0 : Int) ≤ (j : Int) := by omega
    clear hbi ho hx hcell ht e0 e1 e3
    go_wp2_with fail
    go_ret
    exact ⟨ret_int HST.out.symm, HX6.out⟩
section
variable {B : Option Addr} {ss : List Sty} {cs : Nat} {A : Option Addr} {c : Nat} {ts : List Prt} {w : World}
set_option maxRecDepth 100000 in
set_option maxHeartbeats 2000000 in
theorem rleaf_yes {j : Nat} {p : Prt} {us : List Int} (hS : Styles w B ss) (hO : StylesOk w ss) (hB : ∀ s ∈ ss, s.path.length ≤ s.pc ∧ s.pc ≤ 9223372036854775807 ∧ s.path.length ≤ 1000) (bs : ss.length ≤ 70) (h : PS w A c ts) (T : Tree (nds ts)) (hp : ts[j]? = some p) (hk : p.nd.kind = 3 ∨ p.nd.kind = 5) (hw : Way (nds ts) j (us ++ [p.nd.sym])) :
 Calls Tryz.prog 44 #[.slice B ss.length cs, .slice A ts.length c, .int .i64 j] w fun e w' => e = .returned (.int .i64 (styleF ss p.nd.sym us)) ∧ Ext w w' := by
 have HS := zh hS
 have HO := zh hO
 have S := zh h
 have HT := zh T
 have HW := zh hw
 have hl := h.few.len
 have hjl := (List.getElem?_eq_some_iff.1 hp).1
 have HPP := zh hp
 have HK := zh hk
 have CK := zh (rcheck_ok h T)
 have hwl : us.length + 1 ≤ 1001 := by have := hw.length T; rw [List.length_append] at this; simp at this; omega
 have k3 : p.nd.kind = 3 ∨ (p.nd.kind ≠ 3 ∧ p.nd.kind = 5) := by omega
 clear hS hO h T hw hp hk
 go_enter Tryz.func44, Tryz.ntmps44
 go_upto_region 1 with fail
 go_cut [36] (fun t wx => t = .bool false ∧ Hid (Ext w wx))
 case first =>
  go_wp2_with fail
  refine CK.out.mono ?_
  rintro e w1 ⟨rfl, hx1⟩
  have HX1 := zh hx1
  obtain ⟨b, off, rfl, hb, hcell⟩ := (S.out.ext hx1).parts (by omega)
  have d1 := (hcell j p HPP.out).2.1
  clear hx1 hcell
  rcases k3 with k | ⟨k, k'⟩
  ·have k1 : (p.nd.kind != 3) = false := by simp [k]
   go_wp2_with fail
   go_meet
   exact ⟨by congr 1; simp; omega, HX1⟩
  ·have k1 : (p.nd.kind != 3) = true := by simp [k]
   have k2 : (p.nd.kind != 5) = false := by simp [k']
   go_wp2_with fail
   go_meet
   exact ⟨by congr 1; simp; omega, HX1⟩
 case rest =>
  obtain ⟨rfl, HX1⟩ := hcut
  have CP := zh (rPath_yes j _ (S.out.ext HX1.out) HT.out HW.out hjl)
  clear k3
  go_wp2_with fail
  refine CP.out.mono ?_
  rintro e w2 ⟨A2, c2, rfl, ho, hx2⟩
  have HX2 := zh (HX1.out.trans hx2)
  have O2 := zh ho
  have hlw : (us ++ [p.nd.sym]).length = us.length + 1 := by simp
  obtain ⟨b, off, rfl, hb, hcell⟩ := (S.out.ext HX2.out).parts (by omega)
  have d0 := (hcell j p HPP.out).1
  rw [hlw]
  clear hx2 ho hcell hlw
  go_upto_region 4 with fail
  have ST := zh (fun (V : World) (x : Ext w2 V) => rstyle_any B ss cs p.nd.sym A2 us c2 V (HS.out.ext (HX2.out.trans x)) (HO.out.ext (HX2.out.trans x)) hB bs (O2.out.ints.1.left.ext x) (by have := O2.out.ints.2.1; simp at this; omega) (by have := O2.out.ints.2.2.1; unfold maxLen at this; omega))
  have ol1 : us.length + 1 ≤ c2 := by have := O2.out.ints.2.1; simpa using this
  have ol2 : c2 ≤ 9223372036854775807 := by have := O2.out.ints.2.2.1; unfold maxLen at this; omega
  refine wp_region_ext (by kernel_rfl) (by kernel_rfl) ?_
  repeat (go_big_quiet_step ((go_at_call 93; exact calls_ext (ST.out _ (by repeat first | exact xr _ | refine xa ?_ _ | refine xm ?_ _ _ | refine xd ?_ | refine xn ?_ _ | refine xs ?_ (by simp <;> omega) _)))))
  refine wpQuiet_nil ?_
  intro _ hw'
  obtain ⟨x9, rfl⟩ := hw'
  go_wp2_with fail
  go_ret
  exact ⟨rfl, HX2.out.trans (by repeat first | exact xr _ | refine xa ?_ _ | refine xm ?_ _ _ | refine xd ?_ | refine xn ?_ _ | refine xs ?_ (by simp <;> omega) _)⟩
end
section
variable {B : Option Addr} {ss : List Sty} {cs : Nat} {A : Option Addr} {c : Nat} {ts : List Prt} {w : World}
set_option maxRecDepth 100000 in
set_option maxHeartbeats 2000000 in
theorem rleaf_no (i : Int) (v : Value) (h : PS w A c ts) (hn : ¬ LeafAt (nds ts) i) :
 Calls Tryz.prog 44 #[v, .slice A ts.length c, .int .i64 i] w fun e w' => e = .returned (.int .i64 0) ∧ Ext w w' := by
 have hl := h.few.len
 have S := zh h
 by_cases T : Tree (nds ts)
 ·have CK := zh (rcheck_ok h T)
  clear h
  by_cases h0 : i < 0
  ·clear hn T
   go_enter Tryz.func44, Tryz.ntmps44
   go_wp2_with fail
   refine CK.out.mono ?_
   rintro e w1 ⟨rfl, hx1⟩
   have HX1 := zh hx1
   clear hx1
   go_wp2_with fail
   go_ret
   exact ⟨rfl, HX1.out⟩
  ·by_cases h1 : i < (ts.length : Int)
   ·obtain ⟨j, rfl⟩ : ∃ j : Nat, i = (j : Int) := ⟨i.toNat, by omega⟩
    have hjl : j < ts.length := by omega
    obtain ⟨p, hp⟩ : ∃ p, ts[j]? = some p := ⟨_, List.getElem?_eq_getElem hjl⟩
    have hk : ¬ (p.nd.kind = 3 ∨ p.nd.kind = 5) := fun h => hn ⟨T, j, p.nd, rfl, nds_get hp, h⟩
    have k1 : (p.nd.kind != 3) = true := by simp; omega
    have k2 : (p.nd.kind != 5) = true := by simp; omega
    have HPP := zh hp
    clear hn T hp hk h0 h1
    go_enter Tryz.func44, Tryz.ntmps44
    go_wp2_with fail
    refine CK.out.mono ?_
    rintro e w1 ⟨rfl, hx1⟩
    have HX1 := zh hx1
    obtain ⟨b, off, rfl, hb, hcell⟩ := (S.out.ext hx1).parts (by omega)
    have d1 := (hcell j p HPP.out).2.1
    clear hx1 hcell
    go_wp2_with fail
    go_ret
    exact ⟨rfl, HX1.out⟩
   ·clear hn T
    go_enter Tryz.func44, Tryz.ntmps44
    go_wp2_with fail
    refine CK.out.mono ?_
    rintro e w1 ⟨rfl, hx1⟩
    have HX1 := zh hx1
    clear hx1
    go_wp2_with fail
    go_ret
    exact ⟨rfl, HX1.out⟩
 ·have CK := zh (rcheck_no h T)
  clear h hn T
  go_enter Tryz.func44, Tryz.ntmps44
  go_wp2_with fail
  refine CK.out.mono ?_
  rintro e w1 ⟨rfl, hx1⟩
  have HX1 := zh hx1
  clear hx1
  go_wp2_with fail
  go_ret
  exact ⟨rfl, HX1.out⟩
end
def RLeafsAre (w : World) (SA : Option Addr) (sn cs : Nat) (A : Option Addr) (n c : Nat) (sv : Nat → Int) : Prop :=
 ∀ (i : Nat) (V : World), i < n → Below w.heap.size w V → Calls Tryz.prog 44 #[.slice SA sn cs, .slice A n c, .int .i64 i] V fun e w' => e = .returned (.int .i64 (sv i)) ∧ Ext V w'
theorem leafs_both {B : Option Addr} {ss : List Sty} {cs : Nat} {A : Option Addr} {c : Nat} {ps : List Prt} {w : World} (hS : Styles w B ss) (hO : StylesOk w ss) (hB : ∀ s ∈ ss, s.path.length ≤ s.pc ∧ s.pc ≤ 9223372036854775807 ∧ s.path.length ≤ 1000) (bs : ss.length ≤ 70) (h : PS w A c ps) (T : Tree (nds ps)) :
 ∃ sv : Nat → Int, LeafsAre w B ss.length cs A ps.length c sv ∧ RLeafsAre w B ss.length cs A ps.length c sv := by
 have key : ∀ i : Nat, ∃ s : Int, ∀ V : World, i < ps.length → Below w.heap.size w V → (Calls Tryz.prog 28 #[.slice B ss.length cs, .slice A ps.length c, .int .i64 i] V fun e w' => e = .returned (.int .i64 s) ∧ Ext V w') ∧ (Calls Tryz.prog 44 #[.slice B ss.length cs, .slice A ps.length c, .int .i64 i] V fun e w' => e = .returned (.int .i64 s) ∧ Ext V w') := by
  intro i
  by_cases hl : LeafAt (nds ps) i
  ·obtain ⟨_, j, p, hj, hp, hk⟩ := hl
   obtain rfl : i = j := by omega
   obtain ⟨p', hpp, hpe⟩ := nds_get' hp
   subst hpe
   have hlt := (List.getElem?_eq_some_iff.1 hpp).1
   obtain ⟨ws, hw⟩ := Way.all T i i (Nat.le_refl _) (by rw [nds_length]; exact hlt)
   obtain ⟨q, us, hq, rfl⟩ := hw.ends
   rw [nds_get hpp] at hq
   injection hq with hq
   subst hq
   exact ⟨_, fun V _ hV => ⟨leaf26_yes (hS.ext (Ext.of_below hV)) (hO.ext (Ext.of_below hV)) (by omega) (h.below hV) T hpp hk hw, rleaf_yes (hS.ext (Ext.of_below hV)) (hO.ext (Ext.of_below hV)) hB bs (h.below hV) T hpp hk hw⟩⟩
  ·exact ⟨0, fun V _ hV => ⟨leaf26_no i _ (h.below hV) hl, rleaf_no i _ (h.below hV) hl⟩⟩
 obtain ⟨sv, hsv⟩ := Classical.axiomOfChoice key
 exact ⟨sv, fun i V hi hV => (hsv i V hi hV).1, fun i V hi hV => (hsv i V hi hV).2⟩
set_option maxRecDepth 100000 in
set_option maxHeartbeats 4000000 in
theorem paintBytes_any (A : Option Addr) (c : Nat) (ps : List Prt) (first : Int) (B : Option Addr) (ss : List Sty) (cs : Nat) (at_ : Int) (W : World) (hP : Prts W A ps) (hO : PrtsOk W ps) (hl : ps.length ≤ c) (hc : c ≤ 9223372036854775807) (hA : A = none → c = 0) (hk : KidsLt ps)
 (hS : Styles W B ss) (hSO : StylesOk W ss) (bs : ss.length ≤ 9223372036854775807) (hB : ∀ s ∈ ss, s.path.length ≤ s.pc ∧ s.pc ≤ 9223372036854775807) (ba : I64 at_):
 Calls Tryz.prog 8 #[.slice A ps.length c, .int .i64 first, .slice B ss.length cs, .int .i64 at_] W fun e w' => e = .returned (.bool true) ∧ Ext W w' := by
 have HP := zh hP
 have HO := zh hO
 have HK := zh hk
 have HA := zh hA
 have HS := zh hS
 have HSO := zh hSO
 clear hP hO hk hA hS hSO
 go_enter Tryz.func8, Tryz.ntmps8
 go_wp2_with fail
 refine (lives28_any W).mono ?_
 rintro e w1 ⟨rfl, hx1⟩
 have HX1 := zh hx1
 clear hx1
 go_wp2_with fail
 refine (light28_any A c ps B ss cs w1 (HS.out.ext HX1.out) (HSO.out.ext HX1.out) bs (HP.out.ext HX1.out) (by omega) HK.out).mono ?_
 rintro e w2 ⟨bl, rfl, hbl, hx2⟩
 have HX2 := zh (HX1.out.trans hx2)
 clear hx2
 cases bl with
 | false =>
  go_wp2_with fail
  go_ret
  exact ⟨rfl, HX2.out⟩
 | true =>
  have hL := (hbl rfl).1
  have hL2 := (hbl rfl).2
  have HBB : Hid (∀ s ∈ ss, s.path.length ≤ s.pc ∧ s.pc ≤ 9223372036854775807 ∧ s.path.length ≤ 1000) := zh (fun s hs => ⟨(hB s hs).1, (hB s hs).2, by
   have := List.all_eq_true.1 hL2.1 s hs
   simp only [decide_eq_true_iff] at this
   omega⟩)
  have HB70 := zh hL2.2
  have PSW : Hid (PS W A c ps) := ⟨HP.out, HO.out, hL.few (by omega), hl, hc, HA.out⟩
  have hlen := hL.len
  have HLP := zh hL.places
  clear hbl hL hL2 HP HO HK
  by_cases T : Tree (nds ps)
  ·have hp0 := T.pos
   rw [nds_length] at hp0
   obtain ⟨p0, hpp0⟩ : ∃ p, ps[0]? = some p := ⟨_, List.getElem?_eq_getElem hp0⟩
   have HT := zh T
   have HPP0 := zh hpp0
   have hbd := (HLP.out p0 (List.mem_of_getElem? hpp0)).2.1
   have hb0 := (T.bare 0 _ (nds_get hpp0)).1
   have hlh : p0.nd.lo ≤ p0.nd.hi := hb0.2.2.2.1
   clear T hpp0 hb0
   by_cases hk0 : p0.nd.lo = 0 ∧ p0.nd.hi ≠ 0
   ·obtain ⟨hk0, hk9⟩ := hk0
    have q9 : decide (p0.nd.hi = 0) = false := decide_eq_false hk9
    go_wp2_with fail
    refine (rcheck_ok (PSW.out.ext HX2.out) HT.out).mono ?_
    rintro e w3 ⟨rfl, hx3⟩
    have HX3 := zh (HX2.out.trans hx3)
    obtain ⟨bA, off, hA', hbA, hcell⟩ := (PSW.out.ext HX3.out).parts (by omega)
    subst hA'
    obtain ⟨_, _, d2, _, d4, _⟩ := hcell 0 p0 HPP0.out
    simp only [Nat.zero_mul, Nat.add_zero] at d2 d4
    rw [hk0] at d2 hlh
    have HK0 := zh hk0
    clear hcell hx3 hk0
    have MK := zh (marks_any (some ⟨bA, off, none⟩) c ps 1 first w3 (PSW.out.ext HX3.out) HT.out (by omega))
    go_wp2_with fail
    refine MK.out.mono ?_
    rintro e w4 ⟨us, hul, ⟨M, cm, rfl, hom, hx4⟩, _⟩
    have HX4 := zh (HX3.out.trans hx4)
    have HX4A : Hid (Ext w4 w4) := zh (Ext.refl _)
    have HM := zh hom
    obtain ⟨_, hmc, hmm, _⟩ := hom.ints
    unfold maxLen at hmm
    have HUL := zh hul
    obtain ⟨sv, hsv, hrs⟩ := leafs_both (cs := cs) (HS.out.ext HX4.out) (HSO.out.ext HX4.out) HBB.out HB70.out (PSW.out.ext HX4.out) HT.out
    have ND0 : ndAt (nds ps) 0 = p0.nd := by unfold ndAt; rw [show (0 : Int).toNat = 0 from rfl, nds_get HPP0.out]; rfl
    have OF : Hid (∀ (V : World) (f t : Int), Ext w4 V → 0 ≤ f → f ≤ t → t ≤ p0.nd.hi → Calls Tryz.prog 41 #[.slice (some ⟨bA, off, none⟩) ps.length c, .slice M ps.length cm, .slice B ss.length cs, .int .i64 f, .int .i64 t] V (OfRet V (PF (nds ps) us sv f t))) := zh (fun V f t x h1 h2 h3 => by
     have := of28_any (some ⟨bA, off, none⟩) c ps M cm us B ss.length cs sv f t p0 V (PSW.out.ext (HX4.out.trans x)) HT.out (hom.ints.1.ext x) hul hmc hmm (fun i U hi hU => hsv i U hi (x.below.trans (hU.mono x.size))) HPP0.out HK0.out h1 h2 h3
     rwa [hul] at this)
    have LN : Hid (∀ f t : Int, (PF (nds ps) us sv f t).length ≤ 1000000) := zh (fun f t => PF_len ps (by omega) us sv f t)
    rw [hul] at hmc ⊢
    have CELL0 : Hid (∀ V, Ext w4 V → V.cell? ⟨bA, off + 4, none⟩ = some (.int .i64 p0.nd.hi) ∧ bA < V.heap.size) := zh (fun V x => by
     obtain ⟨b', off', hAA, hb', hcell⟩ := (PSW.out.ext (HX4.out.trans x)).parts (by omega)
     injection hAA with hAA
     injection hAA with ea eb
     subst ea eb
     obtain ⟨_, _, _, _, d4, _⟩ := hcell 0 p0 HPP0.out
     simp only [Nat.zero_mul, Nat.add_zero] at d4
     exact ⟨d4, hb'⟩)
    obtain ⟨h0, hh0⟩ : ∃ h0 : Nat, p0.nd.hi = (h0 : Int) := ⟨p0.nd.hi.toNat, by omega⟩
    rw [hh0] at OF CELL0 hk9
    have hz9 : 0 < h0 := by omega
    have hz8 : h0 ≤ 1048576 := by unfold Lt20 at hbd; omega
    obtain ⟨z, hz⟩ : ∃ z : Nat, pickF at_ (h0 : Int) = (z : Int) := ⟨(pickF at_ h0).toNat, by have := pickF_bd at_ h0 (by omega); omega⟩
    have hzl : z < h0 := by have := pickF_bd at_ (h0 : Int) (by omega); omega
    obtain ⟨st, mr, hone, hcol, j, ⟨q0, q1, q2, q3⟩, hj, hb, hst, hmr, huq⟩ := few_one HT.out us sv (z := z) (t := h0) (by omega) (by omega) (by rw [ND0, hh0]; exact Int.le_refl _)
    dsimp only at hst hmr
    subst hst hmr
    obtain ⟨LV, hLV⟩ : ∃ L, leavesF 0 (nds ps) = L := ⟨_, rfl⟩
    have CL := colT_leaf us sv (leaves_row HT.out) (z := (z : Int)) (by omega) (by rw [ND0, hh0]; omega)
    rw [hcol, hLV] at CL
    have LVL : LV.length ≤ 1000 := by have := leavesF_len (nds ps) 0; rw [nds_length, hLV] at this; omega
    have LVN : Hid (∀ i : Nat, i < LV.length → ∃ (m : Nat) (p : Prt), LV.getD i 0 = (m : Int) ∧ LV[i]? = some (m : Int) ∧ m < ps.length ∧ ps[m]? = some p ∧ ndAt (nds ps) (m : Int) = p.nd) := zh (fun i hi => by
     obtain ⟨m, hm⟩ := leavesF_nat _ _ _ (show LV[i] ∈ leavesF 0 (nds ps) by rw [hLV]; exact List.getElem_mem hi)
     obtain ⟨p, _, hp, _⟩ := (leavesF_mem (nds ps) 0 m).1 (by rw [← hm, hLV]; exact List.getElem_mem hi)
     rw [Nat.sub_zero] at hp
     obtain ⟨pr, hpr, rfl⟩ := nds_get' hp
     exact ⟨m, pr, by rw [List.getD_eq_getElem?_getD, List.getElem?_eq_getElem hi, hm]; rfl, by rw [List.getElem?_eq_getElem hi, hm], (List.getElem?_eq_some_iff.1 hpr).1, hpr, by unfold ndAt; rw [Int.toNat_natCast, hp]; rfl⟩)
    obtain ⟨d4, hb4⟩ := CELL0.out w4 (Ext.refl _)
    have PK := zh (pick_any at_ (h0 : Int) w4 (by omega) ba)
    rw [hz] at PK
    have O1 := zh (OF.out w4 0 h0 (Ext.refl _) (Int.le_refl 0) (by omega) (Int.le_refl _))
    have O2 := zh (fun V x => OF.out V z (z + 1) x (by omega) (by omega) (by omega))
    rw [hone] at O2
    have LZ := LN.out 0 h0
    obtain ⟨Z, hZ⟩ : ∃ X, PF (nds ps) us sv 0 h0 = X := ⟨_, rfl⟩
    rw [hZ] at O1 LZ hj huq
    have HJ := zh hj
    have HB := zh hb
    have HUQ := zh huq
    have HCL := zh CL
    have HUL := zh hul
    have RLV := zh (fun V (x : Ext w4 V) => rLeaves_yes (PSW.out.ext (HX4.out.trans x)) HT.out)
    rw [hLV] at RLV
    have HRS := zh hrs
    clear hh0 hx4 hsv hrs hom hul MK hZ hone hcol hj hb huq CL hLV hz LN OF ND0 hlh hbd
    go_wp2_with fail
    refine PK.out.mono ?_
    rintro e w5 ⟨rfl, rfl⟩
    go_wp2_with fail
    refine O1.out.mono ?_
    rintro e w5 ⟨vz, rfl, hrz, hx5⟩
    obtain ⟨Az, cz, rfl, hPz, hlz, hmz, hnz⟩ := hrz.read
    have HPZ := zh hPz
    have HX5 := zh hx5
    clear hrz hPz hx5 O1 d4 hb4 PK
    unfold maxLen at hmz
    go_wp2_with fail
    refine (O2.out w5 HX5.out).mono ?_
    rintro e w8 ⟨vo, rfl, hro, hx8⟩
    obtain ⟨Ao, co, rfl, hPo, hlo, hmo, hno⟩ := hro.read
    have HPO := zh hPo
    have HX8 := zh (HX5.out.trans hx8)
    have HPZ8 := zh (HPZ.out.ext hx8)
    simp only [List.length_cons, List.length_nil, Nat.zero_add] at hlo
    clear hro hPo hx8 O2 hno HX5 HPZ
    unfold maxLen at hmo
    have AT := zh (at_any28 Az cz Z z w8 HPZ8.out LZ)
    go_wp2_with fail
    refine AT.out.mono ?_
    rintro e w9 ⟨hx9, hret⟩
    have hret2 : e = .returned (.tuple #[pnV ⟨q0, q1, q2, q3⟩, .bool true]) := by
     rcases hret with ⟨j', p', h1, h2, _, h4⟩ | ⟨h1, _⟩
     ·rw [HUQ.out j' p' h1 h2, HJ.out] at h1
      injection h1 with h1
      rw [h4, ← h1]
     ·have := h1 _ (List.mem_of_getElem? HJ.out)
      rw [HB.out] at this
      cases this
    subst hret2
    unfold pnV
    dsimp only
    have HX9 := zh (HX8.out.trans hx9)
    have HPO9 := zh (HPO.out.ext hx9)
    clear hret hx9 AT HX8 HPO HPZ8 HJ HB HUQ
    go_upto_region 10 with fail
    obtain ⟨xb, hxb⟩ : ∃ n, w9.heap.size = n := ⟨_, rfl⟩
    obtain ⟨W10, hW10⟩ : ∃ V, w9.alloc (.cells #[.int .i64 q0, .int .i64 q1, .int .i64 q2, .int .i64 q3] 73) = V := ⟨_, rfl⟩
    have X10 : Ext w9 W10 := by rw [← hW10]; exact (by repeat first | exact xr _ | refine xa ?_ _ | refine xm ?_ _ _ | refine xd ?_ | refine xn ?_ _ | refine xs ?_ (by simp <;> omega) _)
    have B10 : W10.heap[xb]? = some (.cells #[.int .i64 q0, .int .i64 q1, .int .i64 q2, .int .i64 q3] 73) := by rw [← hW10, ← hxb]; exact heap_alloc_new _ _
    have HX10 := zh (HX9.out.trans X10)
    have HPO10 := zh (HPO9.out.ext X10)
    have HB10 := zh B10
    rw [hW10, hxb]
    clear hW10 hxb X10 B10 HPO9 HX9
    obtain ⟨bo, oo, hAo, hbo, hco⟩ := HPO10.out (by simp)
    subst hAo
    obtain ⟨c0, c1, c2, c3⟩ := hco 0 _ rfl
    simp only [Nat.zero_mul, Nat.add_zero] at c0 c1 c2 c3
    have k2 := cell_of_row _ _ 2 _ _ _ HB10.out
    have k3 := cell_of_row _ _ 3 _ _ _ HB10.out
    have kl := lt_of_heap HB10.out
    simp at k2 k3
    clear hco c0 c1
    refine wp_region_btw (33) (pures_bt [0, 1, 2, 3, 4, 5, 6, 7, 8, 9, 10, 11, 12, 13, 14, 15, 16, 17, 18, 20] (softs_bt [19, 21, 22, 23, 24, 25, 26, 27, 28, 29, 30, 31, 32] .fin)) (by kernel_rfl) (by kernel_rfl) ?_
    (refine btw_pures _ fun K hK => ?_); (simp only [pick, nthC]); (repeat (go_big_quiet_step (fail))); (refine wpQuiet_nil (hK _ ?_)); (clear hK K)
    (refine btw_softs _ fun K hK => ?_); (simp only [pick, nthC]); (repeat (go_big_quiet_step (fail))); (refine wpQuiet_nil (hK _ ?_)); (clear hK K)
    (refine btw_fin ?_)
    have HX11 : Hid (Ext w4 W10.drew) := zh (HX10.out.trans (by repeat first | exact xr _ | refine xa ?_ _ | refine xm ?_ _ _ | refine xd ?_ | refine xn ?_ _ | refine xs ?_ (by simp <;> omega) _))
    have HB11 : Hid (W10.drew.heap[xb]? = some (.cells #[.int .i64 q0, .int .i64 q1, .int .i64 q2, .int .i64 q3] 73)) := zh (ext_block HB10.out (by repeat first | exact xr _ | refine xa ?_ _ | refine xm ?_ _ _ | refine xd ?_ | refine xn ?_ _ | refine xs ?_ (by simp <;> omega) _))
    clear k2 k3 kl c2 c3 hbo HPO10 HX10 HB10
    go_wp2_with fail
    refine (RLV.out _ HX11.out).mono ?_
    rintro e w13 ⟨Al, cl, rfl, ho13, hx13⟩
    have HX13 := zh (HX11.out.trans hx13)
    have HB13 := zh (ext_block HB11.out hx13)
    obtain ⟨hil, hlc, hlm, _⟩ := ho13.ints
    have HIL := zh hil
    unfold maxLen at hlm
    clear ho13 hil hx13 HX11 HB11 RLV
    go_wp2_with fail
    go_loopw [17] (fun iv wr => ∃ i : Nat, i ≤ LV.length ∧ iv = .int .i64 i ∧ Hid (∀ (j' : Nat) (i' : Int), j' < i → LV[j']? = some i' → ¬ inLeaf (nds ps) z i') ∧ Hid (Ext w13 wr)) (fun iv _ => LV.length - (intOf iv).toNat)
    case atStart => exact ⟨0, Nat.zero_le _, rfl, zh (fun j' i' h => absurd h (Nat.not_lt_zero _)), zh (Ext.refl _)⟩
    case round =>
     obtain ⟨i, hi, rfl, hN, hx⟩ := hrel
     have HXW := zh (HX13.out.trans hx.out)
     have HBW := zh (ext_block HB13.out hx.out)
     by_cases hlt : i < LV.length
     ·obtain ⟨m, ⟨nd0, kA, kcap⟩, hg, hgm, hml, hpm, hnd⟩ := LVN.out i hlt
      dsimp only at hnd
      obtain ⟨bL, oL, hAL, hbL, hcL⟩ := (HIL.out.ext hx.out) (by omega)
      subst hAL
      have e1 := hcL i hlt
      rw [hg] at e1
      obtain ⟨bP, oP, hAP, hbP, hcP⟩ := (PSW.out.ext (HX4.out.trans HXW.out)).parts (by omega)
      injection hAP with hAP
      injection hAP with ea eb
      subst ea eb
      obtain ⟨d0, d1, d2, d3, d4, d5, d6, d7⟩ := hcP m _ hpm
      dsimp only at d0 d1 d2 d3 d4 d5 d6 d7
      obtain ⟨y, hy⟩ : ∃ y, us[m]? = some y := ⟨_, List.getElem?_eq_getElem (by rw [HUL.out]; exact hml)⟩
      have IN : Hid (nd0.lo ≤ (z : Int) → (z : Int) < nd0.hi → q2 = (if nd0.inn ≤ (z : Int) then sv m else 0) ∧ q3 = y) := zh (fun h1 h2 => by
       have hin : inLeaf (nds ps) z (m : Int) := by unfold inLeaf; rw [hnd]; exact ⟨h1, h2⟩
       rcases HCL.out with ⟨j0, i0, f1, f2, f3, f4⟩ | ⟨f1, _⟩
       ·have hj0 : j0 = i := by
         rcases Nat.lt_trichotomy j0 i with h | h | h
         ·exact absurd f2 (hN.out j0 i0 h f1)
         ·exact h
         ·exact absurd hin (f3 i _ h hgm)
        subst hj0
        rw [hgm] at f1
        injection f1 with f1
        subst f1
        rw [hnd, Int.toNat_natCast, hy] at f4
        injection f4 with f4
        injection f4 with f4 f5
        exact ⟨f4, f5⟩
       ·exact absurd hin (f1 _ (List.mem_of_getElem? hgm)))
      have NX : Hid (¬ (nd0.lo ≤ (z : Int) ∧ (z : Int) < nd0.hi) → ∀ (j' : Nat) (i' : Int), j' < i + 1 → LV[j']? = some i' → ¬ inLeaf (nds ps) z i') := zh (fun h j' i' hj hi' => by
       rcases Nat.lt_or_ge j' i with h1 | h1
       ·exact hN.out j' i' h1 hi'
       ·obtain rfl : j' = i := by omega
        rw [hgm] at hi'
        injection hi' with hi'
        subst hi'
        unfold inLeaf
        rw [hnd]
        exact h)
      have HY := zh hy
      have HE1 := zh e1
      have HBL := zh hbL
      clear hcL hcP hg hgm hpm hnd hy
      go_upto_region 17 with fail
      obtain ⟨pb, hpb⟩ : ∃ n, wr.heap.size = n := ⟨_, rfl⟩
      obtain ⟨W14, hW14⟩ : ∃ V, wr.alloc (.cells #[.int .i64 nd0.sym, .int .i64 nd0.kind, .int .i64 nd0.lo, .int .i64 nd0.inn, .int .i64 nd0.hi, .int .i64 nd0.look, .slice kA nd0.kids.length kcap, .int .u64 nd0.met] 34) = V := ⟨_, rfl⟩
      have X14 : Ext wr W14 := by rw [← hW14]; exact (by repeat first | exact xr _ | refine xa ?_ _ | refine xm ?_ _ _ | refine xd ?_ | refine xn ?_ _ | refine xs ?_ (by simp <;> omega) _)
      have HP14 : W14.heap[pb]? = some (.cells #[.int .i64 nd0.sym, .int .i64 nd0.kind, .int .i64 nd0.lo, .int .i64 nd0.inn, .int .i64 nd0.hi, .int .i64 nd0.look, .slice kA nd0.kids.length kcap, .int .u64 nd0.met] 34) := by rw [← hW14, ← hpb]; exact heap_alloc_new _ _
      rw [hW14, hpb]
      have HX14 := zh X14
      have y2 := cell_of_row _ _ 2 _ _ _ HP14
      have y3 := cell_of_row _ _ 3 _ _ _ HP14
      have y4 := cell_of_row _ _ 4 _ _ _ HP14
      have yl := lt_of_heap HP14
      simp at y2 y3 y4
      have e1 := ext_cell HE1.out HBL.out X14
      have hbL := Nat.lt_of_lt_of_le HBL.out X14.size
      clear hW14 hpb X14 HP14 d0 d1 d2 d3 d4 d5 d6 d7 hbP
      by_cases h1 : (z : Int) < nd0.lo
      ·have HNX := zh (NX.out (by omega))
       have HX15 := zh (hx.out.trans HX14.out)
       have t1 : decide ((z : Int) < nd0.lo) = true := decide_eq_true h1
       clear y3 y4 IN NX
       go_wp2_with fail
       go_roundw
       case rel => exact ⟨i + 1, by omega, by go_num, HNX, HX15⟩
       case measure => simp [intOf]; omega
      ·have t1 : decide ((z : Int) < nd0.lo) = false := decide_eq_false h1
       by_cases h2 : nd0.hi ≤ (z : Int)
       ·have HNX := zh (NX.out (by omega))
        have HX15 := zh (hx.out.trans HX14.out)
        have t2 : decide (nd0.hi ≤ (z : Int)) = true := decide_eq_true h2
        clear y3 IN NX
        go_wp2_with fail
        go_roundw
        case rel => exact ⟨i + 1, by omega, by go_num, HNX, HX15⟩
        case measure => simp [intOf]; omega
       ·have t2 : decide (nd0.hi ≤ (z : Int)) = false := decide_eq_false h2
        have hq := IN.out (by omega) (by omega)
        have HQ := zh hq
        clear hq IN NX
        by_cases h3 : nd0.inn ≤ (z : Int)
        ·have t3 : decide (nd0.inn ≤ (z : Int)) = true := decide_eq_true h3
         have hq2 : q2 = sv m := by have := HQ.out.1; rwa [if_pos h3] at this
         have hq3 := HQ.out.2
         subst hq2 hq3
         have RL := zh (HRS.out m W14 hml ((HX4A.out.trans (HXW.out.trans HX14.out)).below))
         go_wp2_with fail
         refine RL.out.mono ?_
         rintro e w15 ⟨rfl, hx15⟩
         have X20 : Hid (Ext wr w15) := zh (HX14.out.trans hx15)
         have k2 := cell_of_row _ _ 2 _ _ _ (ext_block HBW.out X20.out)
         have k3 := cell_of_row _ _ 3 _ _ _ (ext_block HBW.out X20.out)
         have kl := lt_of_heap (ext_block HBW.out X20.out)
         simp at k2 k3
         have e5 := ext_cell HE1.out HBL.out X20.out
         have l5 := Nat.lt_of_lt_of_le HBL.out X20.out.size
         obtain ⟨bM, oM, hAM, hbM, hcM⟩ := (HM.out.ints.1.ext (HXW.out.trans X20.out)) (by rw [HUL.out]; omega)
         subst hAM
         have e6 := hcM m (by rw [HUL.out]; exact hml)
         rw [List.getD_eq_getElem?_getD, HY.out] at e6
         dsimp only [Option.getD_some] at e6
         have HXE := zh (HX4.out.trans (HXW.out.trans X20.out))
         clear hcM
         go_upto_region 21 with fail
         clear e1 hbL y2 y3 y4 yl t1 t2 t3 h1 h2 h3
         refine wp_region_btw (17) (pures_bt [0, 2] (softs_bt [1, 3, 4, 5, 6, 7, 8, 9, 10, 11, 12, 13, 14, 15, 16] .fin)) (by kernel_rfl) (by kernel_rfl) ?_
         (refine btw_pures _ fun K hK => ?_); (simp only [pick, nthC]); (repeat (go_big_quiet_step (fail))); (refine wpQuiet_nil (hK _ ?_)); (clear hK K)
         (refine btw_softs _ fun K hK => ?_); (simp only [pick, nthC]); (repeat (go_big_quiet_step (fail))); (refine wpQuiet_nil (hK _ ?_)); (clear hK K)
         (refine btw_fin ?_)
         go_wp2_with fail
         go_ret
         exact ⟨rfl, HXE.out.trans (by repeat first | exact xr _ | refine xa ?_ _ | refine xm ?_ _ _ | refine xd ?_ | refine xn ?_ _ | refine xs ?_ (by simp <;> omega) _)⟩
        ·have t3 : decide (nd0.inn ≤ (z : Int)) = false := decide_eq_false h3
         have hq2 : q2 = 0 := by have := HQ.out.1; rwa [if_neg h3] at this
         have hq3 := HQ.out.2
         subst hq2 hq3
         have X20 : Hid (Ext wr W14) := zh (HX14.out)
         have k2 := cell_of_row _ _ 2 _ _ _ (ext_block HBW.out X20.out)
         have k3 := cell_of_row _ _ 3 _ _ _ (ext_block HBW.out X20.out)
         have kl := lt_of_heap (ext_block HBW.out X20.out)
         simp at k2 k3
         have e5 := ext_cell HE1.out HBL.out X20.out
         have l5 := Nat.lt_of_lt_of_le HBL.out X20.out.size
         obtain ⟨bM, oM, hAM, hbM, hcM⟩ := (HM.out.ints.1.ext (HXW.out.trans X20.out)) (by rw [HUL.out]; omega)
         subst hAM
         have e6 := hcM m (by rw [HUL.out]; exact hml)
         rw [List.getD_eq_getElem?_getD, HY.out] at e6
         dsimp only [Option.getD_some] at e6
         have HXE := zh (HX4.out.trans (HXW.out.trans X20.out))
         clear hcM
         go_upto_region 21 with fail
         clear e1 hbL y2 y3 y4 yl t1 t2 t3 h1 h2 h3
         refine wp_region_btw (17) (pures_bt [0, 2] (softs_bt [1, 3, 4, 5, 6, 7, 8, 9, 10, 11, 12, 13, 14, 15, 16] .fin)) (by kernel_rfl) (by kernel_rfl) ?_
         (refine btw_pures _ fun K hK => ?_); (simp only [pick, nthC]); (repeat (go_big_quiet_step (fail))); (refine wpQuiet_nil (hK _ ?_)); (clear hK K)
         (refine btw_softs _ fun K hK => ?_); (simp only [pick, nthC]); (repeat (go_big_quiet_step (fail))); (refine wpQuiet_nil (hK _ ?_)); (clear hK K)
         (refine btw_fin ?_)
         go_wp2_with fail
         go_ret
         exact ⟨rfl, HXE.out.trans (by repeat first | exact xr _ | refine xa ?_ _ | refine xm ?_ _ _ | refine xd ?_ | refine xn ?_ _ | refine xs ?_ (by simp <;> omega) _)⟩
     ·have hq : q2 = 0 ∧ q3 = 1 := by
       rcases HCL.out with ⟨j0, i0, f1, f2, _, _⟩ | ⟨_, f2⟩
       ·exact absurd f2 (hN.out j0 i0 (by have := (List.getElem?_eq_some_iff.1 f1).1; omega) f1)
       ·injection f2 with f2
        injection f2 with f2 f3
        exact ⟨f2, f3⟩
      obtain ⟨rfl, rfl⟩ := hq
      have k2 := cell_of_row _ _ 2 _ _ _ HBW.out
      have k3 := cell_of_row _ _ 3 _ _ _ HBW.out
      have kl := lt_of_heap HBW.out
      simp at k2 k3
      have HXE := zh (HX4.out.trans HXW.out)
      go_wp2_with fail
      go_ret
      exact ⟨rfl, HXE.out⟩
   ·go_wp2_with fail
    refine (rcheck_ok (PSW.out.ext HX2.out) HT.out).mono ?_
    rintro e w3 ⟨rfl, hx3⟩
    have HX3 := zh (HX2.out.trans hx3)
    obtain ⟨bA, off, hA', hbA, hcell⟩ := (PSW.out.ext HX3.out).parts (by omega)
    subst hA'
    obtain ⟨_, _, d2, _, d4, _⟩ := hcell 0 p0 HPP0.out
    simp only [Nat.zero_mul, Nat.add_zero] at d2 d4
    clear hcell hx3
    by_cases hk1 : p0.nd.lo = 0
    ·have hk9 : p0.nd.hi = 0 := by omega
     have q9 : decide (p0.nd.hi = 0) = true := decide_eq_true hk9
     rw [hk1] at d2
     clear hk0 hk1
     go_wp2_with fail
     go_ret
     exact ⟨rfl, HX3.out⟩
    ·have q1 : decide (p0.nd.lo = 0) = false := decide_eq_false hk1
     have q2 : (p0.nd.lo != 0) = true := by simpa using hk1
     clear hk0 hk1
     go_wp2_with fail
     go_ret
     exact ⟨rfl, HX3.out⟩
  ·have HT := zh T
   clear T
   go_wp2_with fail
   refine (rcheck_no (PSW.out.ext HX2.out) (fun h => HT.out h)).mono ?_
   rintro e w3 ⟨rfl, hx3⟩
   have HX3 := zh (HX2.out.trans hx3)
   clear hx3
   go_wp2_with fail
   go_ret
   exact ⟨rfl, HX3.out⟩
end Go.Proofs.YthpmncdfaggkiaaGreat
