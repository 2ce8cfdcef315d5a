/- Cr: texts that the proof rests on, part 11. -/
import Derived.Test.YthpmncdfaggkiaaGreatCr1
import Derived.Test.YthpmncdfaggkiaaGreatCr10
import Derived.Test.YthpmncdfaggkiaaGreatCr2
import Derived.Test.YthpmncdfaggkiaaGreatCr3
import Derived.Test.YthpmncdfaggkiaaGreatCr5
import Derived.Test.YthpmncdfaggkiaaGreatCr6
import Derived.Test.YthpmncdfaggkiaaGreatCr7
import Derived.Test.YthpmncdfaggkiaaGreatCr8
import Derived.Test.YthpmncdfaggkiaaGreatCr9
import Derived.Deep.OwnRows
import Derived.OwnWalkIn
import Derived.TacticsInMore
import Derived.LoopNIn
import Derived.LoopIn
import Derived.Deep.LoopGhost
import Derived.Laws.EntriesVeiled
import Derived.Test.YthpmncdfaggkiaaGreatRows
import Derived.Shelf.Abstract
import Derived.Lib.AppendZeros
import Derived.ProofKit
import Derived.OpenShut
import Derived.SizedLaws
import Derived.Lib.SmallJoins
import Derived.Deep.Slices
import Derived.Deep.Fields
import Derived.ChangeSame
namespace Go.Proofs.YthpmncdfaggkiaaGreat
open Go.RowKit
attribute [local go_sem] more_drew more_drewN more_size more_cell more_frozen more_setCell drew_more drewN_more lt_add_r lt_add_r2 lt_add_r3 lt_add_r4 lt_add_r5 lt_add_r6 lt_add_r7 lt_add_r8 lt_add_r9 lt_add_r10 lt_self_r lt_self_r2
def shiftS (n : Nat) (q : Sh) : Sh := { q with ks := q.ks.map (· + (n : Int)) }
def headS (n : Nat) : List Sh → List Sh
 | [] => []
 | p :: r => { p with ks := p.ks ++ [(n : Int)] } :: r
def behindS (ps qs : List Sh) : List Sh := headS ps.length ps ++ qs.map (shiftS ps.length)
def shs (ps : List Pt) : List Sh := ps.map (·.nd)
theorem Turn.old {S : Nat → Prop} {w w' : World} (t : Turn (fun g => S g ∨ w.heap.size ≤ g) w w') : Turn S w w' :=
 ⟨t.os, t.tape, t.output, t.size, fun k hk hS => t.block k hk (fun he => by
   rcases he with he | he
   ·exact hS he
   ·omega)⟩
theorem Turn.wide {S S' : Nat → Prop} {w w' : World} (t : Turn S w w') (h : ∀ g, S g → S' g) : Turn S' w w' := ⟨t.os, t.tape, t.output, t.size, fun k hk hS => t.block k hk (fun he => hS (h k he))⟩
theorem set_same {w : World} {g k : Nat} {v : Value} {cs : Array Value} {T : TypeId} (hb : w.heap[g]? = some (.cells cs T)) (hc : w.cell? ⟨g, k, none⟩ = some v) : w.setCell ⟨g, k, none⟩ v = w := by
 refine setCell_id w g k cs _ _ _ hb ?_
 rw [← hc]
 exact (cell_of_row _ _ k _ _ _ hb).symm
def Moved (n k : Nat) (qs us : List Pt) : Prop := us.length = qs.length ∧ ∀ (j : Nat) (q : Pt), qs[j]? = some q → ∃ p, us[j]? = some p ∧ (j < k → p.nd = shiftS n q.nd) ∧ (k ≤ j → p = q)
theorem Moved.zero (n : Nat) (qs : List Pt) : Moved n 0 qs qs := ⟨rfl, fun j q h => ⟨q, h, fun h => by omega, fun _ => rfl⟩⟩
theorem Moved.step {n k : Nat} {qs us : List Pt} {q q' : Pt} (h : Moved n k qs us) (hq : qs[k]? = some q) (hs : q'.nd = shiftS n q.nd) : Moved n (k + 1) qs (us.set k q') := by
 have hk := (List.getElem?_eq_some_iff.1 hq).1
 refine ⟨by rw [List.length_set]; exact h.1, fun j p hj => ?_⟩
 obtain ⟨p', h1, h2, h3⟩ := h.2 j p hj
 by_cases hjk : j = k
 ·subst hjk
  rw [hq] at hj
  injection hj with hj
  subst hj
  exact ⟨q', by rw [List.getElem?_set_self (by rw [h.1]; exact hk)], fun _ => hs, fun h => by omega⟩
 ·exact ⟨p', by rw [List.getElem?_set_ne (fun h => hjk h.symm)]; exact h1, fun h => h2 (by omega), fun h => h3 (by omega)⟩
theorem Moved.all {n : Nat} {qs us : List Pt} (h : Moved n qs.length qs us) : shs us = (shs qs).map (shiftS n) := by
 unfold shs
 apply List.ext_getElem?
 intro j
 rw [List.getElem?_map, List.getElem?_map, List.getElem?_map]
 by_cases hj : j < qs.length
 ·obtain ⟨q, hq⟩ : ∃ q, qs[j]? = some q := ⟨_, List.getElem?_eq_getElem hj⟩
  obtain ⟨p, h1, h2, _⟩ := h.2 j q hq
  rw [h1, hq]
  simp [h2 hj]
 ·rw [List.getElem?_eq_none (by rw [h.1]; omega), List.getElem?_eq_none (by omega)]
  rfl
theorem head_set {ps : List Pt} {p p' : Pt} {n : Nat} (h0 : ps[0]? = some p) (hp : p'.nd = { p.nd with ks := p.nd.ks ++ [(n : Int)] }) : shs (ps.set 0 p') = headS n (shs ps) := by
 cases ps with
 | nil => simp at h0
 | cons a r =>
  simp at h0
  subst h0
  simp [shs, headS, hp]
set_option maxRecDepth 100000 in
set_option maxHeartbeats 2000000 in
theorem behind_any (v u : Value) (ps qs : List Pt) (w0 w : World) (hv : RowA w w0.heap.size v ps) (hu : RowA w w0.heap.size u qs) (ha : Apart v u) (h0 : 0 < ps.length) (hq0 : 0 < qs.length) (hp : ps.length ≤ 1000) (hq : qs.length ≤ 1000) (hk : ∀ p ∈ ps ++ qs, p.nd.ks.length ≤ 1000 ∧ ∀ k ∈ p.nd.ks, 0 ≤ k ∧ k ≤ 1000000) (e : Ext w0 w) :
 Calls Tryz.prog 65 #[v, u] w fun e w' => ∃ v' rs, e = .returned v' ∧ RowA w' w0.heap.size v' rs ∧ shs rs = behindS (shs ps) (shs qs) ∧ Turn (fun g => v.ownBlock = some g ∨ u.ownBlock = some g) w w' ∧ Ext w0 w' := by
 obtain ⟨VA, vc, rfl⟩ := hv.len
 obtain ⟨UA, uc, rfl⟩ := hu.len
 obtain ⟨vg, rfl, hvb, hvl, vcs, hvt⟩ := hv.block h0
 obtain ⟨ug, rfl, hub, hul, ucs, hut⟩ := hu.block hq0
 have hne : vg ≠ ug := fun he => ha vg rfl (by rw [he]; rfl)
 obtain ⟨p0, hp0⟩ : ∃ p, ps[0]? = some p := ⟨_, List.getElem?_eq_getElem h0⟩
 obtain ⟨pn, hpn⟩ : ∃ n, ps.length = n := ⟨_, rfl⟩
 obtain ⟨qn, hqn⟩ : ∃ n, qs.length = n := ⟨_, rfl⟩
 have hC0 := hv.at_ rfl hp0
 have hK0 := hv.kids p0 (List.mem_of_getElem? hp0)
 have hB0 := hk p0 (List.mem_append_left _ (List.mem_of_getElem? hp0))
 have HV := zh hv
 have HU := zh hu
 have HK := zh hk
 have HE := zh e
 have HP0 := zh hp0
 have HPN := zh hpn
 have HQN := zh hqn
 have HNE := zh hne
 have HK0 := zh hK0
 have HC0 := zh hC0
 have HB0 := zh hB0
 have HVL : Hid (vg < w.heap.size ∧ ug < w.heap.size ∧ w0.heap.size ≤ vg ∧ w0.heap.size ≤ ug) := zh ⟨hvl, hul, hvb, hub⟩
 obtain ⟨c0, c1, c2, c3, c4, c5, c6, c7, cl, cf⟩ := hC0
 rw [hpn] at hp h0
 rw [hqn] at hq hq0
 simp only [hpn, hqn]
 simp at c6
 clear hv hu hk e hp0 hpn hqn hvt hut hK0 hB0 ha hne c0 c1 c2 c3 c4 c5 c7 hvl hul hvb hub
 obtain ⟨ks, hks⟩ : ∃ n, p0.nd.ks.length = n := ⟨_, rfl⟩
 have HKS := zh hks
 rw [hks] at c6
 clear hks
 go_enter Tryz.func65, Tryz.ntmps65
 have cf6 := cf 6
 go_upto_region 2 with (first | (at_builtin; refine app_ints w (by rfl) (.tmp 9) (.tmp 13) rfl (ownI_empty w w.heap.size (Nat.le_refl _)) p0.nd.ks p0.kA p0.kc rfl (by rw [HKS.out]; rfl) HK0.out.nil (HK0.out.ints.ext (by repeat first | exact xr _ | refine xa ?_ _ | refine xm ?_ _ _ | refine xd ?_ | refine xn ?_ _ | refine xs ?_ (by simp <;> omega) _)) (by have := HB0.out.1; simp <;> omega) (by repeat first | exact xr _ | refine xa ?_ _ | refine xm ?_ _ _ | refine xd ?_ | refine xn ?_ _ | refine xs ?_ (by simp <;> omega) _) ?_; intro v4 w4 hr4 hg4 hx4; have HX4 := zh hx4; have HR4 := zh hr4; obtain ⟨K4, k4, rfl, _⟩ := id hr4; clear hr4 hg4 hx4) | (at_builtin; refine app_intO w (by rfl) (.tmp 14) (.tmp 17) rfl (xs := [] ++ p0.nd.ks) (HR4.out.ext (by repeat first | exact xr _ | refine xa ?_ _ | refine xm ?_ _ _ | refine xd ?_ | refine xn ?_ _ | refine xs ?_ (by simp <;> omega) _)) (pn : Int) w4.heap.size rfl rfl (by simp) (by rw [cell_of_row _ _ 0 _ _ _ (heap_alloc_new w4 (.cells #[.int .i64 ((pn : Int))] 3))]; rfl) (by have := HB0.out.1; simp <;> omega) (by have := HX4.out.size; simp <;> omega) ?_; intro v5 w5 hr5 hg5 hat5; have HX5 : Hid (Ext w w5) := zh ((HX4.out.trans ((by repeat first | exact xr _ | refine xa ?_ _ | refine xm ?_ _ _ | refine xd ?_ | refine xn ?_ _ | refine xs ?_ (by simp <;> omega) _) : Ext w4 (w4.alloc (.cells #[.int .i64 ((pn : Int))] 3)))).grown hg5 (fun g hg => own_block HR4.out.own g hg)); obtain ⟨K5, k5, rfl, _⟩ := id hr5; have d6 := ext_cell c6 cl HX5.out; have dl := Nat.lt_of_lt_of_le cl HX5.out.size; have df : w5.frozen? ⟨vg, 6, none⟩ = false := ((HV.out.ext HX5.out).at_ rfl HP0.out).frozen 6))
 obtain ⟨p1, hp1⟩ : ∃ p1 : Pt, p1 = ⟨{ p0.nd with ks := p0.nd.ks ++ [(pn : Int)] }, K5, k5⟩ := ⟨_, rfl⟩
 obtain ⟨W6, hW6⟩ : ∃ V, w5.setCell ⟨vg, 6, none⟩ (.slice K5 (p0.nd.ks.length + 1) k5) = V := ⟨_, rfl⟩
 have hs6 : RowA W6 w0.heap.size (.slice (some ⟨vg, 0, none⟩) pn vc) (ps.set 0 p1) := by
  have hkk : KidsAt w5 p1 := by
   rw [hp1]
   exact RowI.kids (p := ⟨{ p0.nd with ks := p0.nd.ks ++ [(pn : Int)] }, K5, k5⟩) hr5 rfl rfl
  have := (HV.out.ext HX5.out).store (g := vg) (i := 0) (r := 6) (q := p0) (q' := p1) (u := .slice K5 (p0.nd.ks.length + 1) k5) rfl HP0.out (by omega) (by rw [hp1]; simp [ptC]) hkk
  rw [← hW6, ← HPN.out]
  simpa using this
 have T6 : Turn (fun g => g = vg) w5 W6 := by rw [← hW6]; exact Turn.set1 _ _ _
 have hu6 : RowA W6 w0.heap.size (.slice (some ⟨ug, 0, none⟩) qs.length uc) qs := (HU.out.ext HX5.out).turn T6 (fun g hg he => by
  injection hg with hg
  exact HNE.out (he.symm.trans hg.symm)) (fun g cs hg he => by
  obtain ⟨cur, hcur⟩ := own_obj (HV.out.ext HX5.out).own vg rfl
  exact ne_type hg hcur (by decide) he)
 have HS6 := zh hs6
 have HU6 := zh hu6
 have HT6 : Hid (Turn (fun g => g = vg ∨ g = ug ∨ w.heap.size ≤ g) w W6) := zh ((Turn.of_ext HX5.out).trans (T6.wide (fun g h => .inl h)))
 have HN1 : Hid (shs (ps.set 0 p1) = headS pn (shs ps)) := zh (head_set HP0.out (by rw [hp1]))
 have HP1 : Hid ((ps.set 0 p1).length = pn) := zh (by rw [List.length_set]; exact HPN.out)
 try simp only [hW6]
 clear hW6 hs6 T6 hu6 hp1 d6 dl df hr5 hg5 hat5 c6 cl cf cf6
 obtain ⟨ps1, hps1⟩ : ∃ l, ps.set 0 p1 = l := ⟨_, rfl⟩
 rw [hps1] at HS6 HN1 HP1
 clear hps1
 go_wp2_with fail
 go_loopw [5] (fun i wr => ∃ k us, i = .int .i64 (k : Nat) ∧ k ≤ qn ∧ Hid (RowA wr w0.heap.size (.slice (some ⟨ug, 0, none⟩) qn uc) us) ∧ Hid (Moved pn k qs us) ∧ Hid (RowA wr w0.heap.size (.slice (some ⟨vg, 0, none⟩) pn vc) ps1) ∧ Hid (Turn (fun g => g = vg ∨ g = ug ∨ w.heap.size ≤ g) w wr)) (fun i _ => qn - (intOf i).toNat)
 case atStart => exact ⟨0, qs, rfl, Nat.zero_le _, zh (by rw [← HQN.out]; exact HU6.out), zh (Moved.zero _ _), HS6, HT6⟩
 case round =>
  clear HU6 HS6 HT6
  obtain ⟨k, us, rfl, hkq, hr, hm, hv, ht⟩ := hrel
  have hul := hm.out.1
  rw [HQN.out] at hul
  have HUL := zh hul
  clear hul
  by_cases hlt : k < qn
  ·obtain ⟨q, hqk⟩ : ∃ q, qs[k]? = some q := ⟨_, List.getElem?_eq_getElem (by have := HQN.out; omega)⟩
   obtain ⟨p, huk, _, hpq⟩ := hm.out.2 k q hqk
   have hpq := hpq (Nat.le_refl _)
   subst hpq
   have HQK := zh hqk
   have HUK := zh huk
   have hBq := HK.out p (List.mem_append_right _ (List.mem_of_getElem? hqk))
   have HBQ := zh hBq
   obtain ⟨c0, c1, c2, c3, c4, c5, c6, c7, cl, cf⟩ := hr.out.at_ HUL.out.symm huk
   obtain ⟨n, hn⟩ : ∃ n, p.nd.ks.length = n := ⟨_, rfl⟩
   have HN := zh hn
   rw [hn] at c6
   have hn1 := hBq.1
   rw [hn] at hn1
   clear hqk huk hBq hn
   obtain ⟨pb, hpb⟩ : ∃ b, wr.heap.size = b := ⟨_, rfl⟩
   obtain ⟨Wb, hWb⟩ : ∃ V, wr.alloc (.cells #[.int .i64 0, .int .i64 0, .int .i64 0, .int .i64 0, .int .i64 0, .int .i64 0, nil0, .int .u64 0] 34) = V := ⟨_, rfl⟩
   have hz : Wb.heap[pb]? = some (.cells #[.int .i64 0, .int .i64 0, .int .i64 0, .int .i64 0, .int .i64 0, .int .i64 0, nil0, .int .u64 0] 34) := by rw [← hWb, ← hpb]; exact heap_alloc_new _ _
   obtain ⟨W3, hW3⟩ : ∃ V, put8 Wb pb (.int .i64 p.nd.sym) (.int .i64 p.nd.kind) (.int .i64 p.nd.lo) (.int .i64 p.nd.inn) (.int .i64 p.nd.hi) (.int .i64 p.nd.look) (.slice p.kA n p.kc) (.int .u64 0) = V := ⟨_, rfl⟩
   have h3 : W3.heap[pb]? = some (.cells #[.int .i64 p.nd.sym, .int .i64 p.nd.kind, .int .i64 p.nd.lo, .int .i64 p.nd.inn, .int .i64 p.nd.hi, .int .i64 p.nd.look, .slice p.kA n p.kc, .int .u64 0] 34) := by rw [← hW3]; exact put8_at hz _ _ _ _ _ _ _ _
   obtain ⟨W4, hW4⟩ : ∃ V, W3.setCell ⟨pb, 6, none⟩ nil0 = V := ⟨_, rfl⟩
   have h4 : W4.heap[pb]? = some (.cells #[.int .i64 p.nd.sym, .int .i64 p.nd.kind, .int .i64 p.nd.lo, .int .i64 p.nd.inn, .int .i64 p.nd.hi, .int .i64 p.nd.look, nil0, .int .u64 0] 34) := by rw [← hW4]; exact setCell_row h3 _
   have X4 : Ext wr W4 := by
    rw [← hW4]
    exact (Ext.setCell (show Ext wr W3 from by rw [← hW3]; exact (put8_turn (S := fun k => k = pb) rfl _ _ _ _ _ _ _ _).ext (show Ext wr Wb from by rw [← hWb]; exact (by repeat first | exact xr _ | refine xa ?_ _ | refine xm ?_ _ _ | refine xd ?_ | refine xn ?_ _ | refine xs ?_ (by simp <;> omega) _)) (fun k hk => by omega)) (by show _ ≤ pb; omega) _)
   have HX4 := zh X4
   have HTP : Hid (∃ cs, W4.heap[pb]? = some (.cells cs 34)) := zh ⟨_, h4⟩
   have HPB : Hid (wr.heap.size ≤ pb ∧ pb < W4.heap.size) := zh ⟨by omega, lt_of_heap h4⟩
   have H4 := zh h4
   have H3 := zh h3
   have z0 := cell_of_row _ _ 0 _ _ _ hz
   have z1 := cell_of_row _ _ 1 _ _ _ hz
   have z2 := cell_of_row _ _ 2 _ _ _ hz
   have z3 := cell_of_row _ _ 3 _ _ _ hz
   have z4 := cell_of_row _ _ 4 _ _ _ hz
   have z5 := cell_of_row _ _ 5 _ _ _ hz
   have z6 := cell_of_row _ _ 6 _ _ _ hz
   have z7 := cell_of_row _ _ 7 _ _ _ hz
   have zl := lt_of_heap hz
   have zf := fun k => row_frozen hz k
   simp at z0 z1 z2 z3 z4 z5 z6 z7
   unfold put8 put5 put4 put3 put2 at hW3
   clear hz h3 h4 X4
   go_upto_region 6 with fail
   try simp only [hpb]
   try simp only [hWb]
   try simp only [hW3]
   clear hpb hWb hW3 z0 z1 z2 z3 z4 z5 z6 z7 zl zf c0 c1 c2 c3 c4 c5 c6 c7 cl cf
   have y6 := cell_of_row _ _ 6 _ _ _ H3.out
   have yl := lt_of_heap H3.out
   have yf := row_frozen H3.out 6
   simp at y6
   go_upto_region 7 with fail
   try simp only [hW4]
   clear hW4 y6 yl yf H3
   go_wp2_with fail
   go_loopw [7] (fun j' wr => ∃ j KA kc, j' = .int .i64 (j : Nat) ∧ j ≤ n ∧ Hid (wr.heap[pb]? = some (.cells #[.int .i64 p.nd.sym, .int .i64 p.nd.kind, .int .i64 p.nd.lo, .int .i64 p.nd.inn, .int .i64 p.nd.hi, .int .i64 p.nd.look, .slice KA j kc, .int .u64 0] 34)) ∧ Hid (RowI wr W4.heap.size (.slice KA j kc) ((p.nd.ks.take j).map (· + (pn : Int)))) ∧ Hid (Turn (fun g => g = pb) W4 wr)) (fun j _ => n - (intOf j).toNat)
   case atStart => exact ⟨0, none, 0, rfl, Nat.zero_le _, H4, zh ⟨none, 0, rfl, OwnI.nil _ _⟩, zh (Turn.of_ext (Ext.refl _))⟩
   case round =>
    clear H4
    obtain ⟨j, KA, kc, rfl, hj, hb2, hk2, ht2⟩ := hrel
    have hr2 : RowA wr w0.heap.size (.slice (some ⟨ug, 0, none⟩) qn uc) us := (hr.out.ext HX4.out).turn ht2.out (fun g hg he => by
     have hg' : ug = g := by injection hg
     have he' : g = pb := he
     have h1 := HVL.out.2.1
     have h2 := ht.out.size
     have h3 := HPB.out.1
     omega) (fun g cs hg he => by
     have h3 := HPB.out.2
     have : W4.heap[g]? = wr.heap[g]? ∨ True := .inr trivial
     subst he
     obtain ⟨cs4, hc4⟩ := HTP.out
     rw [hc4] at hg
     cases hg)
    have HR2 := zh hr2
    obtain ⟨c0, c1, c2, c3, c4, c5, c6, c7, cl, cf⟩ := hr2.at_ HUL.out.symm HUK.out
    rw [HN.out] at c6
    by_cases hjn : j < n
    ·have hkk := hr2.kids p (List.mem_of_getElem? HUK.out)
     obtain ⟨kb, ko, hkA, hkl, hkc⟩ := hkk.ints (by rw [HN.out]; omega)
     obtain ⟨kcs, hkt⟩ := hkk.typ kb ko none hkA
     obtain ⟨ucs, hut⟩ := own_obj hr2.own ug rfl
     obtain ⟨x, hx⟩ : ∃ x, p.nd.ks.getD j 0 = x := ⟨_, rfl⟩
     have k0 := hkc j (by rw [HN.out]; omega)
     rw [hx] at k0
     have hxm : x ∈ p.nd.ks := by
      rw [← hx, List.getD_eq_getElem?_getD, List.getElem?_eq_getElem (by rw [HN.out]; exact hjn)]
      exact List.getElem_mem _
     have hxb := HBQ.out.2 x hxm
     have HXT : Hid ((p.nd.ks.take (j + 1)).map (· + (pn : Int)) = (p.nd.ks.take j).map (· + (pn : Int)) ++ [x + (pn : Int)]) := zh (by rw [take_next (by rw [HN.out]; exact hjn), hx, List.map_append]; rfl)
     rw [hkA] at c6
     have p6 := cell_of_row _ _ 6 _ _ _ hb2.out
     have pl := lt_of_heap hb2.out
     simp at p6
     have kx0 := fun x : EdL wr [pb, ug, kb] => x.cell (by simp) p6
     have kx1 := fun x : EdL wr [pb, ug, kb] => x.cell (by simp) c6
     have kx2 := fun x : EdL wr [pb, ug, kb] => x.cell (by simp) k0
     have kx3 := fun x : EdL wr [pb, ug, kb] => x.lt (by simp) pl
     have kx4 := fun x : EdL wr [pb, ug, kb] => x.lt (by simp) cl
     have kx5 := fun x : EdL wr [pb, ug, kb] => x.lt (by simp) hkl
     have HLT : Hid (∀ k ∈ [pb, ug, kb], k < wr.heap.size) := zh (by simp; exact ⟨pl, cl, hkl⟩)
     have HUT := zh hut
     have HKT := zh hkt
     have hw1 : IntKind.i64.wrap (x + (pn : Int)) = x + (pn : Int) := by simp [IntKind.wrap, IntKind.signed, IntKind.bits]; omega
     have hw2 : wrap64 (x + (pn : Int)) = x + (pn : Int) := by unfold wrap64; omega
     have HKW : Hid (kb < W4.heap.size) := zh (by
      obtain ⟨cs, hcs⟩ := (hr.out.kids p (List.mem_of_getElem? HUK.out)).typ kb ko none hkA
      exact Nat.lt_of_lt_of_le (lt_of_heap hcs) HX4.out.size)
     clear hkk hkc hkA hkt hut hx hxm hr2
     go_upto_region 10 with fail
     refine wp_region_btC (T := EdL wr [pb, ug, kb]) EdL.V (16) (pures_bt [0, 2, 3, 4, 5, 7, 10, 11] (softs_bt [1, 6, 8, 9, 12] (.step 13 (.step 14 (pures_bt [15] (.step 16 .fin)))))) (by kernel_rfl) (by kernel_rfl) ⟨⟨wr.drew, fun _ _ => rfl⟩, rfl⟩ ?_
     refine bt_pures _ fun K hK => ?_; simp only [pick, nthC]; (repeat go_big_quiet_step (fail)); refine wpQuiet_nil (hK _ ?_); clear hK K
     refine bt_softs _ fun K hK => ?_; simp only [pick, nthC]; (repeat go_big_quiet_step (fail)); refine wpQuiet_nil (hK _ ?_); clear hK K
     clear kx0 kx1 kx2 kx3 kx4 kx5 p6 c0 c1 c2 c3 c4 c5 c6 c7 k0 hw1 hw2
     refine bt_step fun next hn => ?_; simp only [pick, nthC]
     go_wp2_with fail
     refine segQ_mk (fun _ => edL_ext (fun _ _ => rfl) ((by repeat first | exact xr _ | refine xa ?_ _ | refine xm ?_ _ _ | refine xd ?_ | refine xn ?_ _ | refine xs ?_ (by simp <;> omega) _) : Ext wr _) HLT.out) (hn _ _ ?_)
     clear hn next
     obtain ⟨b3, hb3⟩ : ∃ b3, wr.heap.size = b3 := ⟨_, rfl⟩
     obtain ⟨V3, hV3⟩ : ∃ W3, (wr.alloc (.cells #[.int .i64 (x + (pn : Int))] 3)).drew = W3 := ⟨_, rfl⟩
     have X3 : Ext wr V3 := by rw [← hV3]; exact (by repeat first | exact xr _ | refine xa ?_ _ | refine xm ?_ _ _ | refine xd ?_ | refine xn ?_ _ | refine xs ?_ (by simp <;> omega) _)
     have HX3 := zh X3
     have l3 : b3 < V3.heap.size := by rw [← hV3, ← hb3]; simp
     have a3 : V3.cell? ⟨b3, 0, none⟩ = some (.int .i64 (x + (pn : Int))) := by rw [← hV3, ← hb3]; exact (cell_of_row _ _ 0 _ _ _ (show (wr.alloc (.cells #[.int .i64 (x + (pn : Int))] 3)).drew.heap[wr.heap.size]? = _ from heap_alloc_new wr (.cells #[.int .i64 (x + (pn : Int))] 3))).trans (by simp)
     have HK3 := zh (hk2.out.ext X3)
     have HB3 := zh (ext_block hb2.out X3)
     have HUT3 := zh (ext_block HUT.out X3)
     have HKT3 := zh (ext_block HKT.out X3)
     have HSZ : Hid (W4.heap.size ≤ V3.heap.size) := zh (Nat.le_trans ht2.out.size X3.size)
     have HT3 := zh (ht2.out.trans (Turn.of_ext X3))
     try simp only [hV3, hb3]
     clear hV3 hb3 X3
     have hll : ((p.nd.ks.take j).map (· + (pn : Int))).length ≤ 1000000 := by rw [List.length_map, List.length_take]; omega
     refine bt_step fun next hn => ?_; simp only [pick, nthC]
     go_wp2_with (at_builtin; refine app_intO W4 (by rfl) (.tmp 43) (.tmp 55) rfl HK3.out (x + (pn : Int)) b3 rfl rfl l3 a3 hll HSZ.out ?_; intro v4 w4 hr4 hg4 hat4)
     have T4 : Turn (fun g => (Value.slice KA j kc).ownBlock = some g) V3 w4 := Turn.grown hg4 (fun g hg _ => hg)
     have hb4 := T4.keep HB3.out (fun hh => own_ne HK3.out.own HB3.out (by decide) hh)
     have hut4 := T4.keep HUT3.out (fun hh => own_ne HK3.out.own HUT3.out (by decide) hh)
     have hkt4 : w4.heap[kb]? = wr.heap[kb]? := by
      refine (T4.block kb (lt_of_heap HKT3.out) (fun hh => ?_)).trans (HKT3.out.trans HKT.out.symm)
      have h1 := own_block HK3.out.own kb hh
      have h2 := HKW.out
      omega
     have hsame : ∀ k ∈ [pb, ug, kb], w4.heap[k]? = wr.heap[k]? := by
      intro k hk
      simp at hk
      rcases hk with rfl | rfl | rfl
      ·exact hb4.trans hb2.out.symm
      ·exact hut4.trans HUT.out.symm
      ·exact hkt4
     refine segQ_mk (fun _ => ⟨⟨w4, hsame⟩, rfl⟩) (hn _ _ ?_)
     clear hn next hsame
     obtain ⟨KB, kbc, rfl, _⟩ := id hr4
     have d6 := cell_of_row _ _ 6 _ _ _ hb4
     have dl := lt_of_heap hb4
     have df := row_frozen hb4 6
     simp at d6
     have hlen : ((p.nd.ks.take j).map (· + (pn : Int)) ++ [x + (pn : Int)]).length = j + 1 := by rw [List.length_append, List.length_map, List.length_take, HN.out, Nat.min_eq_left (by omega)]; rfl
     rw [hlen] at hr4 ⊢
     obtain ⟨W5, hW5⟩ : ∃ V, w4.setCell ⟨pb, 6, none⟩ (.slice KB (j + 1) kbc) = V := ⟨_, rfl⟩
     have T5 : Turn (fun g => g = pb) w4 W5 := by rw [← hW5]; exact Turn.set1 _ _ _
     have HB5 : Hid (W5.heap[pb]? = some (.cells #[.int .i64 p.nd.sym, .int .i64 p.nd.kind, .int .i64 p.nd.lo, .int .i64 p.nd.inn, .int .i64 p.nd.hi, .int .i64 p.nd.look, .slice KB (j + 1) kbc, .int .u64 0] 34)) := zh (by rw [← hW5]; exact setCell_row hb4 _)
     have HR5 : Hid (RowI W5 W4.heap.size (.slice KB (j + 1) kbc) ((p.nd.ks.take (j + 1)).map (· + (pn : Int)))) := zh (by
      rw [HXT.out]
      exact hr4.keepT T5 (fun g hg he => own_ne hr4.own hb4 (by decide) (he ▸ hg)))
     have HT5 : Hid (Turn (fun g => g = pb) W4 W5) := zh (Turn.old (((HT3.out.wide (fun g h => .inl h)).trans (T4.wide (fun g hg => .inr (own_block HK3.out.own g hg)))).trans (T5.wide (fun g h => .inl h))))
     clear hb4 hut4 hkt4 T4 T5 hr4 hg4 hat4 a3 l3
     refine bt_pures _ fun K hK => ?_; simp only [pick, nthC]; (repeat go_big_quiet_step (fail)); refine wpQuiet_nil (hK _ ?_); clear hK K
     refine bt_step fun next hn => ?_; simp only [pick, nthC]
     go_wp2_with fail
     refine segQ_mk (fun h => absurd rfl h) (hn _ _ ?_)
     clear hn next
     (refine bt_fin ?_)
     try simp only [hW5]
     clear hW5 d6 dl df
     go_wp2_with fail
     go_roundw
     case rel => exact ⟨j + 1, KB, kbc, by go_num, by omega, HB5, HR5, HT5⟩
     case measure => simp [intOf]; omega
    ·obtain rfl : j = n := by omega
     have HXT : Hid ((p.nd.ks.take j).map (· + (pn : Int)) = (shiftS pn p.nd).ks) := zh (by rw [List.take_of_length_le (by have := HN.out; omega)]; rfl)
     rw [HXT.out] at hk2
     obtain ⟨ucs, hut⟩ := own_obj hr2.own ug rfl
     have y0 := cell_of_row _ _ 0 _ _ _ hb2.out
     have y1 := cell_of_row _ _ 1 _ _ _ hb2.out
     have y2 := cell_of_row _ _ 2 _ _ _ hb2.out
     have y3 := cell_of_row _ _ 3 _ _ _ hb2.out
     have y4 := cell_of_row _ _ 4 _ _ _ hb2.out
     have y5 := cell_of_row _ _ 5 _ _ _ hb2.out
     have y6 := cell_of_row _ _ 6 _ _ _ hb2.out
     have y7 := cell_of_row _ _ 7 _ _ _ hb2.out
     have yl := lt_of_heap hb2.out
     simp at y0 y1 y2 y3 y4 y5 y6 y7
     have i0 := set_same (k := k * 8) hut c0
     have i1 := set_same (k := k * 8 + 1) hut c1
     have i2 := set_same (k := k * 8 + 2) hut c2
     have i3 := set_same (k := k * 8 + 3) hut c3
     have i4 := set_same (k := k * 8 + 4) hut c4
     have i5 := set_same (k := k * 8 + 5) hut c5
     obtain ⟨W7, hW7⟩ : ∃ V, wr.setCell ⟨ug, k * 8 + 6, none⟩ (.slice KA j kc) = V := ⟨_, rfl⟩
     have hks : (shiftS pn p.nd).ks.length = j := by rw [← HXT.out, List.length_map, List.length_take, HN.out, Nat.min_self]
     obtain ⟨p', hp'⟩ : ∃ p' : Pt, p' = ⟨shiftS pn p.nd, KA, kc⟩ := ⟨_, rfl⟩
     have hkk : KidsAt wr p' := by
      rw [hp']
      refine RowI.kids (base := W4.heap.size) (p := ⟨shiftS pn p.nd, KA, kc⟩) (A := KA) (c := kc) ?_ rfl rfl
      show RowI wr _ (.slice KA (shiftS pn p.nd).ks.length kc) _
      rw [hks]
      exact hk2.out
     have h7 : RowA W7 w0.heap.size (.slice (some ⟨ug, 0, none⟩) qn uc) (us.set k p') := by
      rw [← hW7]
      exact hr2.store (r := 6) (q := p) HUL.out.symm HUK.out (by omega) (by rw [hp']; simp [ptC, shiftS]; rw [← hks]; simp [shiftS]) hkk
     have HR7 := zh h7
     have HM7 : Hid (Moved pn (k + 1) qs (us.set k p')) := zh (hm.out.step HQK.out (by rw [hp']))
     have T7 : Turn (fun g => g = ug) wr W7 := by rw [← hW7]; exact Turn.set1 _ _ _
     have hv2 : RowA wr w0.heap.size (.slice (some ⟨vg, 0, none⟩) pn vc) ps1 := (hv.out.ext HX4.out).turn ht2.out (fun g hg he => by
      have hg' : vg = g := by injection hg
      have he' : g = pb := he
      have h1 := HVL.out.1
      have h2 := ht.out.size
      have h3 := HPB.out.1
      omega) (fun g cs hg he => by
      subst he
      obtain ⟨cs4, hc4⟩ := HTP.out
      rw [hc4] at hg
      cases hg)
     have HV7 : Hid (RowA W7 w0.heap.size (.slice (some ⟨vg, 0, none⟩) pn vc) ps1) := zh (hv2.turn T7 (fun g hg he => by
      have hg' : vg = g := by injection hg
      have he' : g = ug := he
      exact HNE.out (hg'.trans he')) (fun g cs hg he => ne_type hg hut (by decide) he))
     have HT7 : Hid (Turn (fun g => g = vg ∨ g = ug ∨ w.heap.size ≤ g) w W7) := zh (((ht.out.trans (Turn.of_ext HX4.out)).trans (ht2.out.wide (fun g hg => .inr (.inr (by
      have h2 := ht.out.size
      have h3 := HPB.out.1
      have h4 : g = pb := hg
      omega))))).trans (T7.wide (fun g hg => .inr (.inl hg))))
     obtain ⟨us7, hus7⟩ : ∃ l, us.set k p' = l := ⟨_, rfl⟩
     rw [hus7] at HR7 HM7
     have hut7 : W7.heap[ug]? = some (.cells (ucs.setIfInBounds (k * 8 + 6) (.slice KA j kc)) 34) := by rw [← hW7]; exact setCell_row hut _
     have c7' : W7.cell? ⟨ug, k * 8 + 7, none⟩ = some (.int .u64 0) := (h7.at_ (by rw [List.length_set]; exact HUL.out.symm) (List.getElem?_set_self (by
      have := HUL.out
      have := (List.getElem?_eq_some_iff.1 HUK.out).1
      omega))).met
     have i7 := set_same (k := k * 8 + 7) hut7 c7'
     have cl7 := lt_of_heap hut7
     have f7 : ∀ r, W7.frozen? ⟨ug, r, none⟩ = false := fun r => row_frozen hut7 r
     clear h7 T7 hv2 hut hut7 hkk hp' hr2 HX4 hus7 HXT
     go_upto_region 4 with fail
     try simp only [hW7]
     clear hW7 i0 i1 i2 i3 i4 i5 i7 cl7 f7 c7' y0 y1 y2 y3 y4 y5 y6 y7 yl c0 c1 c2 c3 c4 c5 c6 c7 cl cf
     go_wp2_with fail
     go_roundw
     case rel => exact ⟨k + 1, us7, by go_num, by omega, HR7, HM7, HV7, HT7⟩
     case measure => simp [intOf]; omega
  ·obtain rfl : k = qn := by omega
   have HC : Hid (CellsAt wr (some ⟨ug, 0, none⟩) (pw us)) := zh (by
    obtain ⟨A, c, hA, hc, _⟩ := own_cells hr.out.own
    injection hA with hA
    subst hA
    exact hc)
   have HS : Hid (shs us = (shs qs).map (shiftS pn)) := zh (by
    have h := hm.out
    rw [← HQN.out] at h
    exact h.all)
   have HEX : Hid (Ext w0 wr) := zh (ht.out.ext HE.out (fun g hg => by
    have h1 := HVL.out.2.2
    have h2 := HE.out.size
    rcases hg with rfl | rfl | hg <;> omega))
   have HP1' : Hid (ps1.length ≤ 1000000) := zh (by rw [HP1.out]; omega)
   have HU1' : Hid (us.length ≤ 1000000) := zh (by rw [HUL.out]; omega)
   go_wp2_with (at_builtin; refine app_parts w0 (by rfl) (.tmp 62) (.tmp 63) rfl (ps := ps1) (qs := us) hv.out (A := some ⟨ug, 0, none⟩) (c := uc) rfl (by rw [HUL.out]; rfl) (fun h => by cases h) HC.out hr.out.kids HP1'.out HU1'.out HEX.out ?_; intro v8 w8 hr8 hg8 hat8 hx8)
   have T8 : Turn (fun g => (Value.slice (some ⟨vg, 0, none⟩) pn vc).ownBlock = some g) wr w8 := Turn.grown hg8 (fun g hg _ => hg)
   have HT8 : Hid (Turn (fun g => (Value.slice (some ⟨vg, 0, none⟩) pn vc).ownBlock = some g ∨ (Value.slice (some ⟨ug, 0, none⟩) k uc).ownBlock = some g) w w8) := zh (Turn.old ((ht.out.wide (fun g hg => by
    rcases hg with rfl | rfl | hg
    ·exact .inl (.inl rfl)
    ·exact .inl (.inr rfl)
    ·exact .inr hg)).trans (T8.wide (fun g hg => .inl (.inl hg)))))
   have HR8 := zh hr8
   have HX8 := zh hx8
   have HSS : Hid (shs (ps1 ++ us) = behindS (shs ps) (shs qs)) := zh (by
    unfold behindS
    rw [show (shs ps).length = pn from by rw [← HPN.out]; simp [shs], ← HN1.out, ← HS.out]
    simp [shs])
   clear hr8 hg8 hat8 hx8 T8
   go_ret
   exact ⟨v8, _, rfl, HR8.out, HSS.out, HT8.out, HX8.out⟩
theorem lexok_words : LexOk wordN wordR [0, -1] 1 := ⟨dfaok_words, by omega, by decide, by decide, by decide⟩
def tokF (s : ByteArray) (p : Nat) : Int × Int × Int × Int := nextF wordN wordR [0, -1] s p
theorem lang_open {w : World} {lb : Nat} (h : LangRd w lb) : ∃ N0 c0 N1 c1 N2 c2 a b C c d e tg tog tc xg og nb nc cl, w.heap[lb]? = some (.cells #[.slice N0 768 c0, .slice N1 3 c1, .slice N2 2 c2, .int .i64 1, .int .i64 1, .int .i64 1, .int .i64 1, .slice (some ⟨a, 0, none⟩) 2 c, .slice (some ⟨tg, tog, none⟩) 2 tc, .slice (some ⟨xg, og, none⟩) 1 nc, .int .i64 37448] 112) ∧ LexRd w (.slice N0 768 c0) (.slice N1 3 c1) (.slice N2 2 c2) wordN wordR [0, -1] ∧ GrRd w a b C d e ∧ TabRd w (.slice (some ⟨tg, tog, none⟩) 2 tc) ∧ NextRd w (.slice (some ⟨xg, og, none⟩) 1 nc) xg og nb nc cl := by
 obtain ⟨nv, rv, kv, a, b, C, c, d, e, tv, xv, g, og, nb, nc, cl, h1, h2, h3, h4, h5⟩ := h
 obtain ⟨N0, c0, N1, c1, N2, c2, rfl, rfl, rfl⟩ := lex_slices h2
 obtain ⟨tg, tog, tc, tv0, tv1, tcs, rfl, h6⟩ := h4
 obtain rfl := h5.val
 exact ⟨N0, c0, N1, c1, N2, c2, a, b, C, c, d, e, tg, tog, tc, g, og, nb, nc, cl, h1, h2, h3, ⟨tg, tog, tc, tv0, tv1, tcs, rfl, h6⟩, h5⟩
set_option maxRecDepth 100000 in
set_option maxHeartbeats 1000000 in
theorem lang_predict (lb : Nat) (x : ByteArray) (w : World) (h : LangRd w lb) : Calls Tryz.prog 109 #[.pointer (some ⟨lb, 0, none⟩), .int .i64 0, .string x] w fun e w' => e = .returned (.int .i64 (predF x)) ∧ Ext w w' := by
 obtain ⟨N0, c0, N1, c1, N2, c2, a, b, C, c, d, e, tg, tog, tc, xg, og, nb, nc, cl, hb, hl, hg, ht, hn'⟩ := lang_open h
 have HP := zh (fun w1 (e1 : Ext w w1) => predict_gram a b C c d e _ x w1 (hg.ext e1) (ht.ext e1))
 have k4 := cell_of_row _ _ 4 _ _ _ hb
 have k5 := cell_of_row _ _ 5 _ _ _ hb
 have k6 := cell_of_row _ _ 6 _ _ _ hb
 have k7 := cell_of_row _ _ 7 _ _ _ hb
 have k8 := cell_of_row _ _ 8 _ _ _ hb
 have kl := lt_of_heap hb
 simp at k4 k5 k6 k7 k8
 unfold gramV at HP
 clear h hl hg ht hn' hb
 go_enter Tryz.func109, Tryz.ntmps109
 go_upto_region 1 with fail
 refine wp_region_bt (12) (pures_bt [0, 1, 2, 4, 5, 6, 8, 9] (softs_bt [3, 7] (.step 10 (pures_bt [11] .fin)))) (by kernel_rfl) (by kernel_rfl) ?_
 refine bt_pures _ fun K hK => ?_; simp only [pick, nthC]; (repeat go_big_quiet_step (fail)); refine wpQuiet_nil (hK _ ?_); clear hK K
 refine bt_softs _ fun K hK => ?_; simp only [pick, nthC]; (repeat go_big_quiet_step (fail)); refine wpQuiet_nil (hK _ ?_); clear hK K
 refine bt_step fun next hn => ?_; simp only [pick, nthC]
 go_wp2_with fail
 refine (HP.out _ (by repeat first | exact xr _ | refine xa ?_ _ | refine xm ?_ _ _ | refine xd ?_ | refine xn ?_ _ | refine xs ?_ (by simp <;> omega) _)).mono ?_
 rintro e' W2 ⟨rfl, hx2⟩
 have HX2 : Hid (Ext w W2) := zh (Ext.trans (by repeat first | exact xr _ | refine xa ?_ _ | refine xm ?_ _ _ | refine xd ?_ | refine xn ?_ _ | refine xs ?_ (by simp <;> omega) _) hx2)
 clear hx2 HP
 go_wp2_with fail
 refine segQ_mk (fun _ => laid HX2.out) (hn _ _ ?_)
 clear hn next
 refine bt_pures _ fun K hK => ?_; simp only [pick, nthC]; (repeat go_big_quiet_step (fail)); refine wpQuiet_nil (hK _ ?_); clear hK K
 (refine bt_fin ?_)
 go_wp2_with fail
 go_ret
 exact ⟨rfl, HX2.out⟩
def TreeRet (w : World) (ts : List Sh) (e : Ending) (w' : World) : Prop := ∃ v rs, e = .returned v ∧ RowA w' w.heap.size v rs ∧ shs rs = ts ∧ Ext w w'
def leafS (kind : Int) (p : Nat) (q : Int × Int × Int × Int) : Sh := ⟨q.1, kind, p, q.2.1, q.2.2.1, q.2.2.2, []⟩
theorem row_lit (w : World) (base : Nat) (hb : base ≤ w.heap.size) (q : Sh) (hk : q.ks = []) : RowA (w.alloc (.cells #[.int .i64 q.sym, .int .i64 q.kind, .int .i64 q.lo, .int .i64 q.inn, .int .i64 q.hi, .int .i64 q.look, nil0, .int .u64 0] 34)) base (.slice (some ⟨w.heap.size, 0, none⟩) 1 1) [⟨q, none, 0⟩] := by
 refine ⟨?_, fun p hp => ?_⟩
 ·have := own_lit w base 34 8 w.heap.size 1 #[.int .i64 q.sym, .int .i64 q.kind, .int .i64 q.lo, .int .i64 q.inn, .int .i64 q.hi, .int .i64 q.look, nil0, .int .u64 0] rfl hb rfl (by unfold maxLen; omega)
  simpa [pw, ptC, hk] using this
 ·obtain rfl := List.mem_singleton.1 hp
  exact ⟨fun h0 => by simp [hk] at h0, by simp [hk], by simp, fun _ => rfl, fun g off s h => by cases h⟩
set_option maxRecDepth 100000 in
set_option maxHeartbeats 1000000 in
theorem symbol_tok (lb : Nat) (s : ByteArray) (p : Nat) (q : Int × Int × Int × Int) (w : World) (h : LangRd w lb) (hp : p ≤ s.size) (hs : s.size ≤ 1000) (hq : tokF s p = q) (hk : q.1 = 0) : Calls Tryz.prog 110 #[.pointer (some ⟨lb, 0, none⟩), .string s, .int .i64 0, .int .i64 p] w (TreeRet w [leafS 3 p q]) := by
 obtain ⟨N0, c0, N1, c1, N2, c2, a, b, C, c, d, e, tg, tog, tc, xg, og, nb, nc, cl, hb, hl, hg, ht, hn'⟩ := lang_open h
 have HN := zh (tok_Next _ _ _ _ _ _ 1 s p w hl lexok_words hp (by omega))
 rw [show nextF wordN wordR [0, -1] s p = q from hq] at HN
 obtain ⟨t0, t1, t2, t3⟩ := q
 have hk : t0 = 0 := hk
 subst hk
 have k0 := cell_of_row _ _ 0 _ _ _ hb
 have k1 := cell_of_row _ _ 1 _ _ _ hb
 have k2 := cell_of_row _ _ 2 _ _ _ hb
 have k3 := cell_of_row _ _ 3 _ _ _ hb
 have k4 := cell_of_row _ _ 4 _ _ _ hb
 have kl := lt_of_heap hb
 simp at k0 k1 k2 k3 k4
 unfold lexV tokV at HN
 dsimp only at HN
 clear h hl hg ht hn' hb hq
 go_enter Tryz.func110, Tryz.ntmps110
 go_wp2_with fail
 refine HN.out.mono ?_
 rintro e' W2 ⟨rfl, hx2⟩
 clear HN k0 k1 k2 k3 k4 kl
 obtain ⟨kb, hkb⟩ : ∃ b, W2.heap.size = b := ⟨_, rfl⟩
 obtain ⟨W3a, hW3a⟩ : ∃ W, W2.alloc (.cells #[.int .i64 0, .int .i64 0, .int .i64 0, .int .i64 0, .int .i64 0] 116) = W := ⟨_, rfl⟩
 have hR : W3a.heap[kb]? = some (.cells #[.int .i64 0, .int .i64 0, .int .i64 0, .int .i64 0, .int .i64 0] 116) := by rw [← hW3a, ← hkb]; exact heap_alloc_new _ _
 obtain ⟨W3, hW3⟩ : ∃ W, put5 W3a kb (.int .i64 0) (.int .i64 p) (.int .i64 t1) (.int .i64 t2) (.int .i64 t3) = W := ⟨_, rfl⟩
 have h3 : W3.heap[kb]? = some (.cells #[.int .i64 0, .int .i64 p, .int .i64 t1, .int .i64 t2, .int .i64 t3] 116) := by rw [← hW3]; exact put5_at hR _ _ _ _ _
 have X3 : Ext W2 W3 := by rw [← hW3]; exact (put5_turn (S := fun k => k = kb) rfl _ _ _ _ _).ext (show Ext W2 W3a from by rw [← hW3a]; exact (by repeat first | exact xr _ | refine xa ?_ _ | refine xm ?_ _ _ | refine xd ?_ | refine xn ?_ _ | refine xs ?_ (by simp <;> omega) _)) (fun k hk => by omega)
 have HX3 := zh (hx2.trans X3)
 have H3 := zh h3
 have HLF := zh (leaf_of 3 p (0, t1, t2, t3) W3)
 have z0 := cell_of_row _ _ 0 _ _ _ hR
 have z1 := cell_of_row _ _ 1 _ _ _ hR
 have z2 := cell_of_row _ _ 2 _ _ _ hR
 have z3 := cell_of_row _ _ 3 _ _ _ hR
 have z4 := cell_of_row _ _ 4 _ _ _ hR
 have zf := fun k => row_frozen hR k
 have zl := lt_of_heap hR
 simp at z0 z1 z2 z3 z4
 unfold tokV leafV at HLF
 dsimp only at HLF
 unfold put5 put4 put3 put2 at hW3
 clear hx2 hR X3 h3
 go_upto_region 4 with fail
 try simp only [hkb]
 try simp only [hW3a]
 try simp only [hW3]
 clear hkb hW3a hW3 z0 z1 z2 z3 z4 zf zl
 have y0 := cell_of_row _ _ 0 _ _ _ H3.out
 have y1 := cell_of_row _ _ 1 _ _ _ H3.out
 have y2 := cell_of_row _ _ 2 _ _ _ H3.out
 have y3 := cell_of_row _ _ 3 _ _ _ H3.out
 have y4 := cell_of_row _ _ 4 _ _ _ H3.out
 have yl := lt_of_heap H3.out
 simp at y0 y1 y2 y3 y4
 go_wp2_with fail
 refine HLF.out.mono ?_
 rintro e' W4 ⟨rfl, hx4⟩
 have HX4 := zh (HX3.out.trans hx4)
 have HRL := zh (row_lit W4 w.heap.size HX4.out.size (leafS 3 p (0, t1, t2, t3)) rfl)
 clear hx4 HLF y0 y1 y2 y3 y4 yl
 go_wp2_with fail
 go_ret
 exact ⟨_, _, rfl, HRL.out, rfl, HX4.out.trans (by repeat first | exact xr _ | refine xa ?_ _ | refine xm ?_ _ _ | refine xd ?_ | refine xn ?_ _ | refine xs ?_ (by simp <;> omega) _)⟩
set_option maxRecDepth 100000 in
set_option maxHeartbeats 1000000 in
theorem symbol_tree (lb : Nat) (s : ByteArray) (p : Nat) (ts : List Sh) (w : World) (h : LangRd w lb) (HT : ∀ w1, LangRd w1 lb → Calls Tryz.prog 64 #[.pointer (some ⟨lb, 0, none⟩), .string s, .int .i64 0, .int .i64 p] w1 (TreeRet w1 ts)) : Calls Tryz.prog 110 #[.pointer (some ⟨lb, 0, none⟩), .string s, .int .i64 1, .int .i64 p] w (TreeRet w ts) := by
 obtain ⟨N0, c0, N1, c1, N2, c2, a, b, C, c, d, e, tg, tog, tc, xg, og, nb, nc, cl, hb, hl, hg, ht, hn'⟩ := lang_open h
 have HTT := zh (HT w h)
 have k4 := cell_of_row _ _ 4 _ _ _ hb
 have kl := lt_of_heap hb
 simp at k4
 clear h hl hg ht hn' hb HT
 go_enter Tryz.func110, Tryz.ntmps110
 go_wp2_with fail
 refine HTT.out.mono ?_
 rintro e' W2 ⟨v, rs, rfl, h1, h2, h3⟩
 have H1 := zh h1
 have H2 := zh h2
 have H3 := zh h3
 clear h1 h2 h3 HTT k4 kl
 go_wp2_with fail
 go_ret
 exact ⟨v, rs, rfl, H1.out, H2.out, H3.out⟩
def setHi (x : Int) : List Sh → List Sh
 | [] => []
 | a :: r => { a with hi := x } :: r
def S0 (p : Nat) (look : Int) : Sh := ⟨1, 2, p, p, p, look, []⟩
theorem RowA.base {w : World} {base base' : Nat} {v : Value} {ps : List Pt} (h : RowA w base v ps) (hb : base' ≤ base) : RowA w base' v ps :=
 ⟨⟨h.own.1, h.own.2.imp id fun ⟨g, cap, cur, h1, h2, h3⟩ => ⟨g, cap, cur, h1, Nat.le_trans hb h2, h3⟩⟩, h.kids⟩
theorem RowA.head {w : World} {base : Nat} {v : Value} {rs : List Pt} {a : Sh} {r : List Sh} (h : RowA w base v rs) (hs : shs rs = a :: r) : ∃ g n c p, v = .slice (some ⟨g, 0, none⟩) n c ∧ n = rs.length ∧ 0 < n ∧ rs[0]? = some p ∧ p.nd = a ∧ base ≤ g ∧ g < w.heap.size ∧ (∃ cs, w.heap[g]? = some (.cells cs 34)) ∧ CellsA w g 0 p := by
 obtain ⟨A, c, rfl⟩ := h.len
 have hl : 0 < rs.length := by
  have : (shs rs).length = (a :: r).length := by rw [hs]
  simp [shs] at this
  omega
 obtain ⟨g, rfl, h1, h2, h3⟩ := h.block hl
 obtain ⟨p, hp⟩ : ∃ p, rs[0]? = some p := ⟨_, List.getElem?_eq_getElem hl⟩
 have hC := h.at_ rfl hp
 rw [Nat.zero_mul] at hC
 refine ⟨g, rs.length, c, p, rfl, rfl, hl, hp, ?_, h1, h2, h3, hC⟩
 have : (shs rs)[0]? = some a := by rw [hs]; rfl
 unfold shs at this
 rw [List.getElem?_map, hp] at this
 injection this
theorem RowA.setHi {w W : World} {base g n c : Nat} {rs : List Pt} {p : Pt} {x : Int} (h : RowA w base (.slice (some ⟨g, 0, none⟩) n c) rs) (hn : n = rs.length) (hp : rs[0]? = some p) (hW : w.setCell ⟨g, 4, none⟩ (.int .i64 x) = W) : ∃ rs', RowA W base (.slice (some ⟨g, 0, none⟩) n c) rs' ∧ shs rs' = Go.Proofs.YthpmncdfaggkiaaGreat.setHi x (shs rs) ∧ rs'.length = rs.length := by
 have hk := h.kids p (List.mem_of_getElem? hp)
 have := h.store (i := 0) (r := 4) (q' := { p with nd := { p.nd with hi := x } }) (u := .int .i64 x) hn hp (by omega) rfl ⟨hk.ints, hk.cap, hk.top, hk.nil, hk.typ⟩
 rw [Nat.zero_mul, Nat.zero_add, hW] at this
 refine ⟨_, this, ?_, List.length_set ..⟩
 cases rs with
 | nil => simp at hp
 | cons a r =>
  simp at hp
  subst hp
  rfl
theorem RowA.setLook {w W : World} {base g n c : Nat} {rs : List Pt} {p : Pt} {x : Int} (h : RowA w base (.slice (some ⟨g, 0, none⟩) n c) rs) (hn : n = rs.length) (hp : rs[0]? = some p) (hW : w.setCell ⟨g, 5, none⟩ (.int .i64 x) = W) : ∃ rs', RowA W base (.slice (some ⟨g, 0, none⟩) n c) rs' ∧ (∀ a r, shs rs = a :: r → shs rs' = { a with look := x } :: r) ∧ rs'.length = rs.length := by
 have hk := h.kids p (List.mem_of_getElem? hp)
 have := h.store (i := 0) (r := 5) (q' := { p with nd := { p.nd with look := x } }) (u := .int .i64 x) hn hp (by omega) rfl ⟨hk.ints, hk.cap, hk.top, hk.nil, hk.typ⟩
 rw [Nat.zero_mul, Nat.zero_add, hW] at this
 refine ⟨_, this, fun a r h => ?_, List.length_set ..⟩
 cases rs with
 | nil => simp at hp
 | cons b r' =>
  simp at hp
  subst hp
  simp only [shs, List.map_cons, List.cons.injEq] at h
  obtain ⟨rfl, rfl⟩ := h
  rfl
theorem shs_length {rs : List Pt} {ts : List Sh} (h : shs rs = ts) : rs.length = ts.length := by rw [← h]; simp [shs]
set_option maxRecDepth 100000 in
set_option maxHeartbeats 1500000 in
theorem tree_end (lb : Nat) (s : ByteArray) (p : Nat) (q : Int × Int × Int × Int) (w : World) (h : LangRd w lb) (hp : p ≤ s.size) (hs : s.size ≤ 1000) (hq : tokF s p = q) (hk : q.1 = -2) : Calls Tryz.prog 64 #[.pointer (some ⟨lb, 0, none⟩), .string s, .int .i64 0, .int .i64 p] w (TreeRet w [S0 p (max (p : Int) q.2.2.2)]) := by
 obtain ⟨N0, c0, N1, c1, N2, c2, a, b, C, c, d, e, tg, tog, tc, xg, og, nb, nc, cl, hb, hl, hg, ht, hn'⟩ := lang_open h
 have HWN := zh (fun w1 (e1 : Ext w w1) => window_one _ _ _ _ _ _ 1 s p q w1 (hl.ext e1) lexok_words hp (by omega) hq (by rw [hk]; decide))
 rw [hk] at HWN
 rw [show rowF (-2) = tx 255 from rfl] at HWN
 have HPR := zh (fun w1 (e1 : Ext w w1) => lang_predict lb (tx 255) w1 (h.ext e1))
 rw [show predF (tx 255) = 1 from rfl] at HPR
 obtain ⟨mx, hmx⟩ : ∃ m : Int, max (p : Int) q.2.2.2 = m := ⟨_, rfl⟩
 rw [hmx] at HWN
 have HMX := zh hmx
 have hm0 : (if (0 : Int) < mx then mx else 0) = mx := by
  have : (0 : Int) ≤ mx := by omega
  by_cases h0 : (0 : Int) < mx
  ·rw [if_pos h0]
  ·rw [if_neg h0]; omega
 have HM0 := zh hm0
 have HB := zh (fun w1 (e1 : Ext w w1) => ext_block hb e1)
 have HLG := zh h
 have HGR := zh hg
 obtain ⟨ob, hob⟩ : ∃ b, w.heap.size = b := ⟨_, rfl⟩
 obtain ⟨W1, hW1⟩ : ∃ V, w.alloc (.cells #[.int .i64 1, .int .i64 2, .int .i64 p, .int .i64 p, .int .i64 p, .int .i64 0, nil0, .int .u64 0] 34) = V := ⟨_, rfl⟩
 have HR1 : Hid (RowA W1 w.heap.size (.slice (some ⟨ob, 0, none⟩) 1 1) [⟨S0 p 0, none, 0⟩]) := zh (by rw [← hW1, ← hob]; exact row_lit w w.heap.size (Nat.le_refl _) (S0 p 0) rfl)
 have HX1 : Hid (Ext w W1) := zh (by rw [← hW1]; exact (by repeat first | exact xr _ | refine xa ?_ _ | refine xm ?_ _ _ | refine xd ?_ | refine xn ?_ _ | refine xs ?_ (by simp <;> omega) _))
 have HOB : Hid (w.heap.size = ob) := zh hob
 have k4 := cell_of_row _ _ 4 _ _ _ hb
 have kl := lt_of_heap hb
 simp at k4
 unfold lexV at HWN
 clear h hl hg ht hn' hb hq hmx hm0
 go_enter Tryz.func64, Tryz.ntmps64
 go_upto_region 2 with fail
 try simp only [hob]
 try simp only [hW1]
 clear hob hW1 k4 kl
 refine wp_loop_rounds 1 ?_
 rw [rounds_succ]
 have hb1 := HB.out W1 HX1.out
 have k0 := cell_of_row _ _ 0 _ _ _ hb1
 have k1 := cell_of_row _ _ 1 _ _ _ hb1
 have k2 := cell_of_row _ _ 2 _ _ _ hb1
 have k3 := cell_of_row _ _ 3 _ _ _ hb1
 have k6 := cell_of_row _ _ 6 _ _ _ hb1
 have kl := lt_of_heap hb1
 simp at k0 k1 k2 k3 k6
 obtain ⟨_, _, _, _, d4, d5, _, _, dl, df⟩ := HR1.out.at_ rfl (i := 0) rfl
 simp [S0] at d4 d5
 go_upto_region 2 with fail
 refine wp_region_bt (22) (pures_bt [0, 1, 2, 4, 5, 6, 7, 9, 10, 11, 12] (softs_bt [3, 8, 13] (.step 14 (pures_bt [15, 16, 17, 18, 19, 20, 21] .fin)))) (by kernel_rfl) (by kernel_rfl) ?_
 refine bt_pures _ fun K hK => ?_; simp only [pick, nthC]; (repeat go_big_quiet_step (fail)); refine wpQuiet_nil (hK _ ?_); clear hK K
 refine bt_softs _ fun K hK => ?_; simp only [pick, nthC]; (repeat go_big_quiet_step (fail)); refine wpQuiet_nil (hK _ ?_); clear hK K
 refine bt_step fun next hn => ?_; simp only [pick, nthC]
 go_wp2_with fail
 refine (HWN.out _ (HX1.out.trans (by repeat first | exact xr _ | refine xa ?_ _ | refine xm ?_ _ _ | refine xd ?_ | refine xn ?_ _ | refine xs ?_ (by simp <;> omega) _))).mono ?_
 rintro e' W2 ⟨rfl, hx2⟩
 have HY2 : Hid (Ext W1 W2) := zh (Ext.trans (by repeat first | exact xr _ | refine xa ?_ _ | refine xm ?_ _ _ | refine xd ?_ | refine xn ?_ _ | refine xs ?_ (by simp <;> omega) _) hx2)
 clear hx2 HWN hb1 k0 k1 k2 k3 k6 kl d4 d5 dl df
 go_wp2_with fail
 refine segQ_mk (fun _ => laid HY2.out) (hn _ _ ?_)
 clear hn next
 refine bt_pures _ fun K hK => ?_; simp only [pick, nthC]; (repeat go_big_quiet_step (fail)); refine wpQuiet_nil (hK _ ?_); clear hK K
 (refine bt_fin ?_)
 have HR2 := zh (HR1.out.ext HY2.out)
 obtain ⟨_, _, _, _, d4, d5, _, _, dl, df⟩ := HR2.out.at_ rfl (i := 0) rfl
 simp [S0] at d5
 have df5 := df 5
 have hm0 := HM0.out
 obtain ⟨W3, hW3⟩ : ∃ V, W2.setCell ⟨ob, 5, none⟩ (.int .i64 mx) = V := ⟨_, rfl⟩
 obtain ⟨rs3, hr3, hs3, hl3⟩ := HR2.out.setLook rfl rfl hW3
 have hs3 := hs3 (S0 p 0) [] rfl
 have HR3 : Hid (RowA W3 w.heap.size (.slice (some ⟨ob, 0, none⟩) 1 1) rs3) := zh hr3
 have HS3 : Hid (shs rs3 = [S0 p mx]) := zh hs3
 have HX3 : Hid (Ext w W3) := zh (by rw [← hW3]; exact (HX1.out.trans HY2.out).setCell (by show _ ≤ ob; have := HOB.out; omega) _)
 go_upto_region 4 with fail
 try simp only [hW3]
 clear hW3 d4 d5 dl df df5 hm0 hr3 hs3 hl3 HR1 HR2 HY2
 go_wp2_with fail
 refine (HPR.out _ HX3.out).mono ?_
 rintro e' W4 ⟨rfl, hx4⟩
 have HX4 := zh (HX3.out.trans hx4)
 have HR4 := zh (HR3.out.ext hx4)
 have hb4 := HB.out W4 HX4.out
 have k7 := cell_of_row _ _ 7 _ _ _ hb4
 have kl := lt_of_heap hb4
 simp at k7
 obtain ⟨p0, p1, p2, p3, lp, r0, r1, lr⟩ := HGR.out.ext HX4.out
 clear hx4 HPR hb4 HR3 HX3
 go_wp2_with fail
 refine wp_loop_rounds 1 ?_
 rw [rounds_succ]
 go_wp2_with fail
 go_ret
 exact ⟨_, rs3, rfl, HR4.out, by rw [HS3.out, HMX.out], HX4.out⟩
def TsOk (ts : List Sh) : Prop := ts.length ≤ 900 ∧ ∀ t ∈ ts, t.ks.length ≤ 900 ∧ ∀ k ∈ t.ks, 0 ≤ k ∧ k ≤ 900000
theorem TsOk.bound {ts us : List Sh} (h1 : TsOk ts) (h2 : TsOk us) {rs ss : List Pt} (e1 : shs rs = ts) (e2 : shs ss = us) : ∀ p ∈ rs ++ ss, p.nd.ks.length ≤ 1000 ∧ ∀ k ∈ p.nd.ks, 0 ≤ k ∧ k ≤ 1000000 := by
 intro p hp
 have : p.nd ∈ ts ∨ p.nd ∈ us := by
  rcases List.mem_append.1 hp with hp | hp
  ·exact .inl (by rw [← e1]; exact List.mem_map_of_mem hp)
  ·exact .inr (by rw [← e2]; exact List.mem_map_of_mem hp)
 have key : p.nd.ks.length ≤ 900 ∧ ∀ k ∈ p.nd.ks, 0 ≤ k ∧ k ≤ 900000 := by
  rcases this with h | h
  ·exact h1.2 _ h
  ·exact h2.2 _ h
 exact ⟨by omega, fun k hk => by have := key.2 k hk; omega⟩
theorem S0_ok (p : Nat) (mx : Int) : TsOk [S0 p mx] := ⟨by simp, fun t ht => by obtain rfl := List.mem_singleton.1 ht; simp [S0]⟩
theorem leaf_ok (k : Int) (p : Nat) (q : Int × Int × Int × Int) : TsOk [leafS k p q] := ⟨by simp, fun t ht => by obtain rfl := List.mem_singleton.1 ht; simp [leafS]⟩
def W1S (p p2 : Nat) (mx : Int) (q : Int × Int × Int × Int) : List Sh := [⟨1, 2, p, p, p2, mx, [1]⟩, leafS 3 p q]
theorem W1S_ok (p p2 : Nat) (mx : Int) (q : Int × Int × Int × Int) : TsOk (W1S p p2 mx q) := by
 refine ⟨by simp [W1S], fun t ht => ?_⟩
 simp only [W1S, List.mem_cons, List.not_mem_nil, or_false] at ht
 rcases ht with rfl | rfl
 ·simp
 ·simp [leafS]
set_option maxRecDepth 100000 in
set_option maxHeartbeats 2000000 in
theorem tree_word (lb : Nat) (s : ByteArray) (p p2 : Nat) (q : Int × Int × Int × Int) (ts : List Sh) (t0 : Sh) (tr : List Sh) (w : World) (h : LangRd w lb) (hp : p ≤ s.size) (hs : s.size ≤ 1000) (hq : tokF s p = q) (hk : q.1 = 0) (hq2 : q.2.2.1 = p2) (hts : ts = t0 :: tr) (hok : TsOk ts) (HT : ∀ w1, LangRd w1 lb → Calls Tryz.prog 64 #[.pointer (some ⟨lb, 0, none⟩), .string s, .int .i64 0, .int .i64 p2] w1 (TreeRet w1 ts)) : Calls Tryz.prog 64 #[.pointer (some ⟨lb, 0, none⟩), .string s, .int .i64 0, .int .i64 p] w (TreeRet w (setHi t0.hi (behindS (W1S p p2 (max (p : Int) q.2.2.2) q) ts))) := by
 obtain ⟨N0, c0, N1, c1, N2, c2, a, b, C, c, d, e, tg, tog, tc, xg, og, nb, nc, cl, hb, hl, hg, ht, hn'⟩ := lang_open h
 have HWN := zh (fun w1 (e1 : Ext w w1) => window_one _ _ _ _ _ _ 1 s p q w1 (hl.ext e1) lexok_words hp (by omega) hq (by rw [hk]; decide))
 rw [hk] at HWN
 rw [show rowF (0) = tx 0 from rfl] at HWN
 have HPR := zh (fun w1 (e1 : Ext w w1) => lang_predict lb (tx 0) w1 (h.ext e1))
 rw [show predF (tx 0) = 0 from rfl] at HPR
 obtain ⟨mx, hmx⟩ : ∃ m : Int, max (p : Int) q.2.2.2 = m := ⟨_, rfl⟩
 rw [hmx] at HWN
 have HMX := zh hmx
 have hm0 : (if (0 : Int) < mx then mx else 0) = mx := by
  have : (0 : Int) ≤ mx := by omega
  by_cases h0 : (0 : Int) < mx
  ·rw [if_pos h0]
  ·rw [if_neg h0]; omega
 have HM0 := zh hm0
 have HTK := zh (fun w1 (e1 : Ext w w1) => symbol_tok lb s p q w1 (h.ext e1) hp hs hq hk)
 have HTR := zh (fun w1 (e1 : Ext w w1) => symbol_tree lb s p2 ts w1 (h.ext e1) HT)
 have HQ2 := zh hq2
 have HTS := zh hts
 have HOK := zh hok
 have HB := zh (fun w1 (e1 : Ext w w1) => ext_block hb e1)
 have HLG := zh h
 have HGR := zh hg
 obtain ⟨ob, hob⟩ : ∃ b, w.heap.size = b := ⟨_, rfl⟩
 obtain ⟨W1, hW1⟩ : ∃ V, w.alloc (.cells #[.int .i64 1, .int .i64 2, .int .i64 p, .int .i64 p, .int .i64 p, .int .i64 0, nil0, .int .u64 0] 34) = V := ⟨_, rfl⟩
 have HR1 : Hid (RowA W1 w.heap.size (.slice (some ⟨ob, 0, none⟩) 1 1) [⟨S0 p 0, none, 0⟩]) := zh (by rw [← hW1, ← hob]; exact row_lit w w.heap.size (Nat.le_refl _) (S0 p 0) rfl)
 have HX1 : Hid (Ext w W1) := zh (by rw [← hW1]; exact (by repeat first | exact xr _ | refine xa ?_ _ | refine xm ?_ _ _ | refine xd ?_ | refine xn ?_ _ | refine xs ?_ (by simp <;> omega) _))
 have HOB : Hid (w.heap.size = ob) := zh hob
 have k4 := cell_of_row _ _ 4 _ _ _ hb
 have kl := lt_of_heap hb
 simp at k4
 unfold lexV at HWN
 clear HT hq2 hts hok h hl hg ht hn' hb hq hmx hm0
 go_enter Tryz.func64, Tryz.ntmps64
 go_upto_region 2 with fail
 try simp only [hob]
 try simp only [hW1]
 clear hob hW1 k4 kl
 refine wp_loop_rounds 1 ?_
 rw [rounds_succ]
 have hb1 := HB.out W1 HX1.out
 have k0 := cell_of_row _ _ 0 _ _ _ hb1
 have k1 := cell_of_row _ _ 1 _ _ _ hb1
 have k2 := cell_of_row _ _ 2 _ _ _ hb1
 have k3 := cell_of_row _ _ 3 _ _ _ hb1
 have k6 := cell_of_row _ _ 6 _ _ _ hb1
 have kl := lt_of_heap hb1
 simp at k0 k1 k2 k3 k6
 obtain ⟨_, _, _, _, d4, d5, _, _, dl, df⟩ := HR1.out.at_ rfl (i := 0) rfl
 simp [S0] at d4 d5
 go_upto_region 2 with fail
 refine wp_region_bt (22) (pures_bt [0, 1, 2, 4, 5, 6, 7, 9, 10, 11, 12] (softs_bt [3, 8, 13] (.step 14 (pures_bt [15, 16, 17, 18, 19, 20, 21] .fin)))) (by kernel_rfl) (by kernel_rfl) ?_
 refine bt_pures _ fun K hK => ?_; simp only [pick, nthC]; (repeat go_big_quiet_step (fail)); refine wpQuiet_nil (hK _ ?_); clear hK K
 refine bt_softs _ fun K hK => ?_; simp only [pick, nthC]; (repeat go_big_quiet_step (fail)); refine wpQuiet_nil (hK _ ?_); clear hK K
 refine bt_step fun next hn => ?_; simp only [pick, nthC]
 go_wp2_with fail
 refine (HWN.out _ (HX1.out.trans (by repeat first | exact xr _ | refine xa ?_ _ | refine xm ?_ _ _ | refine xd ?_ | refine xn ?_ _ | refine xs ?_ (by simp <;> omega) _))).mono ?_
 rintro e' W2 ⟨rfl, hx2⟩
 have HY2 : Hid (Ext W1 W2) := zh (Ext.trans (by repeat first | exact xr _ | refine xa ?_ _ | refine xm ?_ _ _ | refine xd ?_ | refine xn ?_ _ | refine xs ?_ (by simp <;> omega) _) hx2)
 clear hx2 HWN hb1 k0 k1 k2 k3 k6 kl d4 d5 dl df
 go_wp2_with fail
 refine segQ_mk (fun _ => laid HY2.out) (hn _ _ ?_)
 clear hn next
 refine bt_pures _ fun K hK => ?_; simp only [pick, nthC]; (repeat go_big_quiet_step (fail)); refine wpQuiet_nil (hK _ ?_); clear hK K
 (refine bt_fin ?_)
 have HR2 := zh (HR1.out.ext HY2.out)
 obtain ⟨_, _, _, _, d4, d5, _, _, dl, df⟩ := HR2.out.at_ rfl (i := 0) rfl
 simp [S0] at d5
 have df5 := df 5
 have hm0 := HM0.out
 obtain ⟨W3, hW3⟩ : ∃ V, W2.setCell ⟨ob, 5, none⟩ (.int .i64 mx) = V := ⟨_, rfl⟩
 obtain ⟨rs3, hr3, hs3, hl3⟩ := HR2.out.setLook rfl rfl hW3
 have hs3 := hs3 (S0 p 0) [] rfl
 have HR3 : Hid (RowA W3 w.heap.size (.slice (some ⟨ob, 0, none⟩) 1 1) rs3) := zh hr3
 have HS3 : Hid (shs rs3 = [S0 p mx]) := zh hs3
 have HX3 : Hid (Ext w W3) := zh (by rw [← hW3]; exact (HX1.out.trans HY2.out).setCell (by show _ ≤ ob; have := HOB.out; omega) _)
 go_upto_region 4 with fail
 try simp only [hW3]
 clear hW3 d4 d5 dl df df5 hm0 hr3 hs3 hl3 HR1 HR2 HY2
 go_wp2_with fail
 refine (HPR.out _ HX3.out).mono ?_
 rintro e' W4 ⟨rfl, hx4⟩
 have HX4 := zh (HX3.out.trans hx4)
 have HR4 := zh (HR3.out.ext hx4)
 have hb4 := HB.out W4 HX4.out
 have k7 := cell_of_row _ _ 7 _ _ _ hb4
 have kl := lt_of_heap hb4
 simp at k7
 obtain ⟨p0, p1, p2, p3, lp, r0, r1, lr⟩ := HGR.out.ext HX4.out
 clear hx4 HPR hb4 HR3 HX3
 clear k7 kl p0 p1 p2 p3 lp r0 r1 lr
 have HS4 := HS3
 have hb4 := HB.out W4 HX4.out
 have k7 := cell_of_row _ _ 7 _ _ _ hb4
 have kl := lt_of_heap hb4
 simp at k7
 obtain ⟨p0, p1, p2', p3, lp, r0, r1, lr⟩ := HGR.out.ext HX4.out
 clear hb4
 obtain ⟨rs4, hrs4⟩ : ∃ l, rs3 = l := ⟨_, rfl⟩
 rw [hrs4] at HR4 HS4
 clear hrs4 HS3
 go_wp2_with fail
 clear k7 kl p0 p1 p2' p3 lp r0 r1 lr
 refine wp_loop_rounds 3 ?_
 rw [rounds_succ]
 obtain ⟨p0, p1, p2', p3, lp, r0, r1, lr⟩ := HGR.out.ext HX4.out
 obtain ⟨g, m, cc, pp, hv, hm, hm0, hpp, hpn, hgb, hgl, hgt, hC⟩ := HR4.out.head (HS4.out.trans rfl)
 injection hv with hv1 hv2 hv3
 injection hv1 with hv1
 injection hv1 with hv1
 subst hv1 hv2 hv3
 have HGL : Hid (w.heap.size ≤ ob ∧ ob < W4.heap.size) := zh ⟨hgb, hgl⟩
 obtain ⟨_, _, _, _, d4, _, _, _, dl, df⟩ := hC
 rw [hpn] at d4
 simp [S0] at d4
 clear hm hpp hpn hgb hgl hgt
 go_upto_region 10 with fail
 refine wp_region_bt (12) (pures_bt [0, 1, 2, 3, 4, 6, 7, 8] (softs_bt [5, 9] (.step 10 (pures_bt [11] .fin)))) (by kernel_rfl) (by kernel_rfl) ?_
 refine bt_pures _ fun K hK => ?_; simp only [pick, nthC]; (repeat go_big_quiet_step (fail)); refine wpQuiet_nil (hK _ ?_); clear hK K
 refine bt_softs _ fun K hK => ?_; simp only [pick, nthC]; (repeat go_big_quiet_step (fail)); refine wpQuiet_nil (hK _ ?_); clear hK K
 refine bt_step fun next hn => ?_; simp only [pick, nthC]
 go_wp2_with fail
 refine (HTK.out _ (HX4.out.trans (by repeat first | exact xr _ | refine xa ?_ _ | refine xm ?_ _ _ | refine xd ?_ | refine xn ?_ _ | refine xs ?_ (by simp <;> omega) _))).mono ?_
 rintro e' U0 ⟨v0, ss0, rfl, hr, hsh, hxu⟩
 have HY : Hid (Ext W4 U0) := zh (Ext.trans (by repeat first | exact xr _ | refine xa ?_ _ | refine xm ?_ _ _ | refine xd ?_ | refine xn ?_ _ | refine xs ?_ (by simp <;> omega) _) hxu)
 have HXU := zh (HX4.out.trans HY.out)
 have HRU := zh (HR4.out.ext HY.out)
 obtain ⟨sg, sn, sc, sp, rfl, hsn, hsn0, hsp, hspn, hsb, hsl, hst, hCs⟩ := hr.head (hsh.trans rfl)
 have HRS := zh hr
 have HSS := zh hsh
 have HAP : Hid (Apart (.slice (some ⟨ob, 0, none⟩) 1 1) (.slice (some ⟨sg, 0, none⟩) sn sc)) := zh (fun g h1 h2 => by
  have e1 : ob = g := by injection h1
  have e2 : sg = g := by injection h2
  have h3 := HGL.out.2
  have h4 : W4.drew.heap.size = W4.heap.size := rfl
  omega)
 have HSN : Hid (sn = ss0.length ∧ 0 < sn) := zh ⟨hsn, hsn0⟩
 have HBH := zh (behind_any _ _ rs4 ss0 w U0 HRU.out (hr.base (by have := HX4.out.size; have h4 : W4.drew.heap.size = W4.heap.size := rfl; omega)) HAP.out (by rw [shs_length HS4.out]; simp) (by rw [← HSN.out.1]; exact HSN.out.2) (by have := shs_length HS4.out; have := (S0_ok p mx).1; omega) (by have := shs_length HSS.out; have := (leaf_ok 3 p q).1; omega) (TsOk.bound (S0_ok p mx) (leaf_ok 3 p q) HS4.out HSS.out) HXU.out)
 rw [HS4.out, HSS.out] at HBH
 obtain ⟨_, _, _, _, s4, _, _, _, sl, _⟩ := hCs
 rw [hspn] at s4
 simp [leafS] at s4
 rw [HQ2.out] at s4
 clear hr hsh hxu hsp hspn hsb hsl hst hsn
 go_wp2_with fail
 refine segQ_mk (fun _ => laid HY.out) (hn _ _ ?_)
 clear hn next p0 p1 p2' p3 lp r0 r1 lr d4 dl df
 refine bt_pures _ fun K hK => ?_; simp only [pick, nthC]; (repeat go_big_quiet_step (fail)); refine wpQuiet_nil (hK _ ?_); clear hK K
 (refine bt_fin ?_)
 go_wp2_with fail
 refine HBH.out.mono ?_
 rintro e' T0 ⟨v0b, qs0, rfl, hr, hsh, htt, hxt⟩
 clear HBH s4 sl hsn0 hm0
 obtain ⟨g0, m0, cc0, pp, rfl, hm, hm0, hpp, hpn, hgb, hgl, hgt, hC⟩ := hr.head hsh
 have hgb' := hgb
 obtain ⟨_, _, _, _, d4, _, _, _, dl, df⟩ := hC
 have df4 := df 4
 simp at d4
 obtain ⟨W5, hW⟩ : ∃ V, T0.setCell ⟨g0, 4, none⟩ (.int .i64 (p2 : Int)) = V := ⟨_, rfl⟩
 obtain ⟨rs5, hr9, hs9, hl9⟩ := hr.setHi hm hpp hW
 have HR5 := zh hr9
 have HX5 : Hid (Ext w W5) := zh (by rw [← hW]; exact hxt.setCell hgb _)
 have HS5 : Hid (shs rs5 = setHi (p2 : Int) (behindS ([S0 p mx]) ([leafS 3 p q]))) := zh (by rw [hs9, hsh])
 clear hr hsh htt hxt hm hpp hpn hgb hgl hgt hr9 hs9 hl9 hgb'
 go_upto_region 9 with fail
 try simp only [hW]
 clear hW d4 dl df df4 HGL HY HXU HRU HRS HSS HAP HSN HR4 HX4 HS4
 go_wp2_with fail
 have HS5' : Hid (shs rs5 = W1S p p2 mx q) := zh (by rw [HS5.out]; rfl)
 clear HS5
 have HS5 := HS5'
 clear HS5'
 rw [rounds_succ]
 obtain ⟨p0, p1, p2', p3, lp, r0, r1, lr⟩ := HGR.out.ext HX5.out
 obtain ⟨g, m, cc, pp, hv, hm, hm0, hpp, hpn, hgb, hgl, hgt, hC⟩ := HR5.out.head (HS5.out.trans rfl)
 injection hv with hv1 hv2 hv3
 injection hv1 with hv1
 injection hv1 with hv1
 subst hv1 hv2 hv3
 have HGL : Hid (w.heap.size ≤ g0 ∧ g0 < W5.heap.size) := zh ⟨hgb, hgl⟩
 obtain ⟨_, _, _, _, d4, _, _, _, dl, df⟩ := hC
 rw [hpn] at d4
 simp  at d4
 clear hm hpp hpn hgb hgl hgt
 go_upto_region 10 with fail
 refine wp_region_bt (12) (pures_bt [0, 1, 2, 3, 4, 6, 7, 8] (softs_bt [5, 9] (.step 10 (pures_bt [11] .fin)))) (by kernel_rfl) (by kernel_rfl) ?_
 refine bt_pures _ fun K hK => ?_; simp only [pick, nthC]; (repeat go_big_quiet_step (fail)); refine wpQuiet_nil (hK _ ?_); clear hK K
 refine bt_softs _ fun K hK => ?_; simp only [pick, nthC]; (repeat go_big_quiet_step (fail)); refine wpQuiet_nil (hK _ ?_); clear hK K
 refine bt_step fun next hn => ?_; simp only [pick, nthC]
 go_wp2_with fail
 refine (HTR.out _ (HX5.out.trans (by repeat first | exact xr _ | refine xa ?_ _ | refine xm ?_ _ _ | refine xd ?_ | refine xn ?_ _ | refine xs ?_ (by simp <;> omega) _))).mono ?_
 rintro e' U1 ⟨v1, ss1, rfl, hr, hsh, hxu⟩
 have HY : Hid (Ext W5 U1) := zh (Ext.trans (by repeat first | exact xr _ | refine xa ?_ _ | refine xm ?_ _ _ | refine xd ?_ | refine xn ?_ _ | refine xs ?_ (by simp <;> omega) _) hxu)
 have HXU := zh (HX5.out.trans HY.out)
 have HRU := zh (HR5.out.ext HY.out)
 obtain ⟨sg, sn, sc, sp, rfl, hsn, hsn0, hsp, hspn, hsb, hsl, hst, hCs⟩ := hr.head (hsh.trans HTS.out)
 have HRS := zh hr
 have HSS := zh hsh
 have HAP : Hid (Apart (.slice (some ⟨g0, 0, none⟩) m0 cc0) (.slice (some ⟨sg, 0, none⟩) sn sc)) := zh (fun g h1 h2 => by
  have e1 : g0 = g := by injection h1
  have e2 : sg = g := by injection h2
  have h3 := HGL.out.2
  have h4 : W5.drew.heap.size = W5.heap.size := rfl
  omega)
 have HSN : Hid (sn = ss1.length ∧ 0 < sn) := zh ⟨hsn, hsn0⟩
 have HBH := zh (behind_any _ _ rs5 ss1 w U1 HRU.out (hr.base (by have := HX5.out.size; have h4 : W5.drew.heap.size = W5.heap.size := rfl; omega)) HAP.out (by rw [shs_length HS5.out]; simp [W1S]) (by rw [← HSN.out.1]; exact HSN.out.2) (by have := shs_length HS5.out; have := (W1S_ok p p2 mx q).1; omega) (by have := shs_length HSS.out; have := HOK.out.1; omega) (TsOk.bound (W1S_ok p p2 mx q) HOK.out HS5.out HSS.out) HXU.out)
 rw [HS5.out, HSS.out] at HBH
 obtain ⟨_, _, _, _, s4, _, _, _, sl, _⟩ := hCs
 rw [hspn] at s4
 simp at s4
 clear hr hsh hxu hsp hspn hsb hsl hst hsn
 go_wp2_with fail
 refine segQ_mk (fun _ => laid HY.out) (hn _ _ ?_)
 clear hn next p0 p1 p2' p3 lp r0 r1 lr d4 dl df
 refine bt_pures _ fun K hK => ?_; simp only [pick, nthC]; (repeat go_big_quiet_step (fail)); refine wpQuiet_nil (hK _ ?_); clear hK K
 (refine bt_fin ?_)
 go_wp2_with fail
 refine HBH.out.mono ?_
 rintro e' T1 ⟨v1b, qs1, rfl, hr, hsh, htt, hxt⟩
 clear HBH s4 sl hsn0 hm0
 obtain ⟨g1, m1, cc1, pp, rfl, hm, hm0, hpp, hpn, hgb, hgl, hgt, hC⟩ := hr.head hsh
 have hgb' := hgb
 obtain ⟨_, _, _, _, d4, _, _, _, dl, df⟩ := hC
 have df4 := df 4
 simp at d4
 obtain ⟨W6, hW⟩ : ∃ V, T1.setCell ⟨g1, 4, none⟩ (.int .i64 t0.hi) = V := ⟨_, rfl⟩
 obtain ⟨rs6, hr9, hs9, hl9⟩ := hr.setHi hm hpp hW
 have HR6 := zh hr9
 have HX6 : Hid (Ext w W6) := zh (by rw [← hW]; exact hxt.setCell hgb _)
 have HS6 : Hid (shs rs6 = setHi t0.hi (behindS (W1S p p2 mx q) (ts))) := zh (by rw [hs9, hsh])
 clear hr hsh htt hxt hm hpp hpn hgb hgl hgt hr9 hs9 hl9 hgb'
 go_upto_region 9 with fail
 try simp only [hW]
 clear hW d4 dl df df4 HGL HY HXU HRU HRS HSS HAP HSN HR5 HX5 HS5
 go_wp2_with fail
 rw [rounds_succ]
 go_wp2_with fail
 go_ret
 exact ⟨_, rs6, rfl, HR6.out, by rw [HS6.out, HMX.out], HX6.out⟩
def rootS (n : Nat) : Sh := ⟨-3, 1, 0, 0, n, 1, []⟩
theorem root_ok (n : Nat) : TsOk [rootS n] := ⟨by simp, fun t ht => by obtain rfl := List.mem_singleton.1 ht; simp [rootS]⟩
set_option maxRecDepth 100000 in
set_option maxHeartbeats 2000000 in
theorem fresh_words (lb : Nat) (s : ByteArray) (q : Int × Int × Int × Int) (ts : List Sh) (t0 : Sh) (tr : List Sh) (w : World) (h : LangRd w lb) (hs : s.size ≤ 1000) (hts : ts = t0 :: tr) (hok : TsOk ts) (hok2 : TsOk (behindS [rootS s.size] ts)) (hhi : t0.hi = s.size) (hq : tokF s s.size = q) (hk : q.1 = -2) (HT : ∀ w1, LangRd w1 lb → Calls Tryz.prog 64 #[.pointer (some ⟨lb, 0, none⟩), .string s, .int .i64 0, .int .i64 0] w1 (TreeRet w1 ts)) : Calls Tryz.prog 22 #[.pointer (some ⟨lb, 0, none⟩), .string s] w fun e w' => ∃ v rs, e = .returned (.tuple #[v, .int .i64 0]) ∧ RowA w' w.heap.size v rs ∧ shs rs = behindS (behindS [rootS s.size] ts) [leafS 6 s.size q] ∧ Ext w w' := by
 obtain ⟨N0, c0, N1, c1, N2, c2, a, b, C, c, d, e, tg, tog, tc, xg, og, nb, nc, cl, hb, hl, hg, ht, hn'⟩ := lang_open h
 have HNX := zh (fun w1 (e1 : Ext w w1) => tok_Next _ _ _ _ _ _ 1 s s.size w1 (hl.ext e1) lexok_words (Nat.le_refl _) (by omega))
 rw [show nextF wordN wordR [0, -1] s s.size = q from hq] at HNX
 have HLF := zh (fun w1 => leaf_of 6 s.size q w1)
 have HTT := zh (fun w1 (e1 : Ext w w1) => HT w1 (h.ext e1))
 have HB := zh (fun w1 (e1 : Ext w w1) => ext_block hb e1)
 have HHI := zh hhi
 have HTS := zh hts
 have HOK := zh hok
 have HOK2 := zh hok2
 obtain ⟨t0', t1, t2, t3⟩ := q
 have hk : t0' = -2 := hk
 subst hk
 unfold lexV tokV at HNX
 unfold tokV leafV at HLF
 dsimp only at HNX HLF
 obtain ⟨ob, hob⟩ : ∃ b, w.heap.size = b := ⟨_, rfl⟩
 obtain ⟨n, hn⟩ : ∃ n, s.size = n := ⟨_, rfl⟩
 obtain ⟨W1, hW1⟩ : ∃ V, w.alloc (.cells #[.int .i64 (-3), .int .i64 1, .int .i64 0, .int .i64 0, .int .i64 s.size, .int .i64 1, nil0, .int .u64 0] 34) = V := ⟨_, rfl⟩
 have HR1 : Hid (RowA W1 w.heap.size (.slice (some ⟨ob, 0, none⟩) 1 1) [⟨rootS s.size, none, 0⟩]) := zh (by rw [← hW1, ← hob]; exact row_lit w w.heap.size (Nat.le_refl _) (rootS s.size) rfl)
 have HX1 : Hid (Ext w W1) := zh (by rw [← hW1]; exact (by repeat first | exact xr _ | refine xa ?_ _ | refine xm ?_ _ _ | refine xd ?_ | refine xn ?_ _ | refine xs ?_ (by simp <;> omega) _))
 have HOB : Hid (w.heap.size = ob ∧ ob < W1.heap.size) := zh ⟨hob, own_old HR1.out.own ob rfl⟩
 have k10 := cell_of_row _ _ 10 _ _ _ hb
 have kl := lt_of_heap hb
 simp at k10
 clear h hl hg ht hn' hb hq hhi hts hok hok2 HT hn
 go_enter Tryz.func22, Tryz.ntmps22
 have q1 : decide ((37448 : Int) < s.size) = false := by simp; omega
 have q2 : decide (37448 < s.size) = false := by simp; omega
 go_wp2_with fail
 try simp only [hob]
 try simp only [hW1]
 clear hob hW1 k10 kl q1 q2
 refine (HTT.out _ HX1.out).mono ?_
 rintro e' W2 ⟨v2, rs2, rfl, hr, hsh, hx2⟩
 have HX2 := zh (HX1.out.trans hx2)
 have HR2 := zh (HR1.out.ext hx2)
 obtain ⟨sg, sn, sc, sp, rfl, hsn, hsn0, hsp, hspn, hsb, hsl, hst, hCs⟩ := hr.head (hsh.trans HTS.out)
 have HRS := zh (hr.base (show w.heap.size ≤ W1.heap.size from HX1.out.size))
 have HSS := zh hsh
 have HAP : Hid (Apart (.slice (some ⟨ob, 0, none⟩) 1 1) (.slice (some ⟨sg, 0, none⟩) sn sc)) := zh (fun g h1 h2 => by
  have e1 : ob = g := by injection h1
  have e2 : sg = g := by injection h2
  have h3 := HOB.out.2
  omega)
 have HSN : Hid (sn = rs2.length ∧ 0 < sn) := zh ⟨hsn, hsn0⟩
 have HBH := zh (behind_any _ _ [⟨rootS s.size, none, 0⟩] rs2 w W2 HR2.out HRS.out HAP.out (by simp) (by rw [← HSN.out.1]; exact HSN.out.2) (by simp) (by have := shs_length HSS.out; have := HOK.out.1; omega) (TsOk.bound (root_ok s.size) HOK.out rfl HSS.out) HX2.out)
 rw [HSS.out] at HBH
 obtain ⟨_, _, _, _, s4, _, _, _, sl, _⟩ := hCs
 rw [hspn, HHI.out] at s4
 simp at s4
 clear hr hsh hx2 hsp hspn hsb hsl hst hsn
 go_wp2_with fail
 refine HBH.out.mono ?_
 rintro e' W3 ⟨v3, rs3, rfl, hr, hsh, htt, hx3⟩
 have HX3 := zh hx3
 have HS3 : Hid (shs rs3 = behindS [rootS s.size] ts) := zh hsh
 obtain ⟨V3, vc3, rfl⟩ := hr.len
 have HR3 := zh hr
 clear HBH s4 sl hsn0 hr hsh htt hx3 HRS HSS HAP HSN HR2 HX2
 have hb3 := HB.out W3 HX3.out
 have k0 := cell_of_row _ _ 0 _ _ _ hb3
 have k1 := cell_of_row _ _ 1 _ _ _ hb3
 have k2 := cell_of_row _ _ 2 _ _ _ hb3
 have k3 := cell_of_row _ _ 3 _ _ _ hb3
 have kl := lt_of_heap hb3
 simp at k0 k1 k2 k3
 clear hb3
 go_wp2_with fail
 refine wp_loop_rounds 1 ?_
 rw [rounds_succ]
 go_wp2_with fail
 refine (HNX.out _ HX3.out).mono ?_
 rintro e' W4 ⟨rfl, hx4⟩
 clear k0 k1 k2 k3 kl
 obtain ⟨kb, hkb⟩ : ∃ b, W4.heap.size = b := ⟨_, rfl⟩
 obtain ⟨W5a, hW5a⟩ : ∃ W, W4.alloc (.cells #[.int .i64 0, .int .i64 0, .int .i64 0, .int .i64 0, .int .i64 0] 116) = W := ⟨_, rfl⟩
 have hR : W5a.heap[kb]? = some (.cells #[.int .i64 0, .int .i64 0, .int .i64 0, .int .i64 0, .int .i64 0] 116) := by rw [← hW5a, ← hkb]; exact heap_alloc_new _ _
 obtain ⟨W5, hW5⟩ : ∃ W, put5 W5a kb (.int .i64 (-2)) (.int .i64 s.size) (.int .i64 t1) (.int .i64 t2) (.int .i64 t3) = W := ⟨_, rfl⟩
 have h5 : W5.heap[kb]? = some (.cells #[.int .i64 (-2), .int .i64 s.size, .int .i64 t1, .int .i64 t2, .int .i64 t3] 116) := by rw [← hW5]; exact put5_at hR _ _ _ _ _
 have X5 : Ext W4 W5 := by rw [← hW5]; exact (put5_turn (S := fun k => k = kb) rfl _ _ _ _ _).ext (show Ext W4 W5a from by rw [← hW5a]; exact (by repeat first | exact xr _ | refine xa ?_ _ | refine xm ?_ _ _ | refine xd ?_ | refine xn ?_ _ | refine xs ?_ (by simp <;> omega) _)) (fun k hk => by omega)
 have HX5 := zh (HX3.out.trans (hx4.trans X5))
 have HR5 := zh (HR3.out.ext (hx4.trans X5))
 have H5 := zh h5
 have z0 := cell_of_row _ _ 0 _ _ _ hR
 have z1 := cell_of_row _ _ 1 _ _ _ hR
 have z2 := cell_of_row _ _ 2 _ _ _ hR
 have z3 := cell_of_row _ _ 3 _ _ _ hR
 have z4 := cell_of_row _ _ 4 _ _ _ hR
 have zf := fun k => row_frozen hR k
 have zl := lt_of_heap hR
 simp at z0 z1 z2 z3 z4
 unfold put5 put4 put3 put2 at hW5
 clear hx4 hR X5 h5
 go_upto_region 8 with fail
 try simp only [hkb]
 try simp only [hW5a]
 try simp only [hW5]
 clear hkb hW5a hW5 z0 z1 z2 z3 z4 zf zl
 have y0 := cell_of_row _ _ 0 _ _ _ H5.out
 have y1 := cell_of_row _ _ 1 _ _ _ H5.out
 have y2 := cell_of_row _ _ 2 _ _ _ H5.out
 have y3 := cell_of_row _ _ 3 _ _ _ H5.out
 have y4 := cell_of_row _ _ 4 _ _ _ H5.out
 have yl := lt_of_heap H5.out
 simp at y0 y1 y2 y3 y4
 go_wp2_with fail
 refine (HLF.out _).mono ?_
 rintro e' W7 ⟨rfl, hx7⟩
 have HX7 := zh (HX5.out.trans hx7)
 have hrl := row_lit W7 w.heap.size HX7.out.size (leafS 6 s.size (-2, t1, t2, t3)) rfl
 have hr7 := HR5.out.ext hx7
 clear hx7 y0 y1 y2 y3 y4 yl
 obtain ⟨lg, hlg⟩ : ∃ b, W7.heap.size = b := ⟨_, rfl⟩
 obtain ⟨W8, hW8⟩ : ∃ V, W7.alloc (.cells #[.int .i64 (leafS 6 s.size (-2, t1, t2, t3)).sym, .int .i64 (leafS 6 s.size (-2, t1, t2, t3)).kind, .int .i64 (leafS 6 s.size (-2, t1, t2, t3)).lo, .int .i64 (leafS 6 s.size (-2, t1, t2, t3)).inn, .int .i64 (leafS 6 s.size (-2, t1, t2, t3)).hi, .int .i64 (leafS 6 s.size (-2, t1, t2, t3)).look, nil0, .int .u64 0] 34) = V := ⟨_, rfl⟩
 have x78 : Ext W7 W8 := by rw [← hW8]; exact (by repeat first | exact xr _ | refine xa ?_ _ | refine xm ?_ _ _ | refine xd ?_ | refine xn ?_ _ | refine xs ?_ (by simp <;> omega) _)
 rw [hW8, hlg] at hrl
 have HX8 := zh (HX7.out.trans x78)
 have HR8 := zh (hr7.ext x78)
 have HRL := zh hrl
 have HAP : Hid (Apart (.slice V3 rs3.length vc3) (.slice (some ⟨lg, 0, none⟩) 1 1)) := zh (fun g h1 h2 => by
  have e2 : lg = g := by injection h2
  have h3 := own_old hr7.own g h1
  omega)
 have HL3 : Hid (0 < rs3.length ∧ rs3.length ≤ 1000) := zh (by
  have h1 := shs_length HS3.out
  have h2 := HOK2.out.1
  have : 0 < (behindS [rootS s.size] ts).length := by simp [behindS, headS]
  omega)
 have HBH := zh (behind_any _ _ rs3 [⟨leafS 6 s.size (-2, t1, t2, t3), none, 0⟩] w W8 HR8.out HRL.out HAP.out HL3.out.1 (by simp) HL3.out.2 (by simp) (TsOk.bound HOK2.out (leaf_ok 6 s.size (-2, t1, t2, t3)) HS3.out rfl) HX8.out)
 rw [HS3.out] at HBH
 simp only [leafS] at hW8
 clear hr7 x78 hrl
 go_wp2_with fail
 try simp only [hlg, hW8]
 clear hlg hW8
 refine HBH.out.mono ?_
 rintro e' W9 ⟨v9, rs9, rfl, hr, hsh, htt, hx9⟩
 obtain ⟨V9, vc9, rfl⟩ := hr.len
 have HR9 := zh hr
 have HS9 := zh hsh
 have HX9 := zh hx9
 clear hr hsh htt hx9 HBH
 go_wp2_with fail
 exact bodyPost_ret (v := .tuple #[.slice V9 rs9.length vc9, .int .i64 0]) (by simp [results, Tryz.results22, go_sem, *]) rfl ⟨_, rs9, rfl, HR9.out, HS9.out, HX9.out⟩
end Go.Proofs.YthpmncdfaggkiaaGreat
namespace Go.Proofs.YthpmncdfaggkiaaGreat
open Go.RowKit
abbrev sAB : ByteArray := ⟨#[97, 32, 98]⟩
set_option maxRecDepth 100000 in
theorem tokAB_0 : tokF sAB 0 = (0, 0, 1, 2) := by kernel_rfl
set_option maxRecDepth 100000 in
theorem tokAB_1 : tokF sAB 1 = (0, 2, 3, 4) := by kernel_rfl
set_option maxRecDepth 100000 in
theorem tokAB_3 : tokF sAB 3 = (-2, 3, 3, 4) := by kernel_rfl
theorem ts_dec {ts : List Sh} (h : decide (ts.length ≤ 900) && ts.all (fun t => decide (t.ks.length ≤ 900) && t.ks.all (fun k => decide (0 ≤ k) && decide (k ≤ 900000))) = true) : TsOk ts := by
 simp only [Bool.and_eq_true, decide_eq_true_eq, List.all_eq_true] at h
 exact ⟨h.1, fun t ht => ⟨(h.2 t ht).1, fun k hk => (h.2 t ht).2 k hk⟩⟩
def treeAB : List Sh := [⟨-3, 1, 0, 0, 3, 1, [1, 6]⟩, ⟨1, 2, 0, 0, 3, 2, [2, 3]⟩, ⟨0, 3, 0, 0, 1, 2, []⟩, ⟨1, 2, 1, 1, 3, 4, [4, 5]⟩, ⟨0, 3, 1, 2, 3, 4, []⟩, ⟨1, 2, 3, 3, 3, 4, []⟩, ⟨-2, 6, 3, 3, 3, 4, []⟩]
theorem fresh_ab (lb : Nat) (w : World) (h : LangRd w lb) : Calls Tryz.prog 22 #[.pointer (some ⟨lb, 0, none⟩), .string sAB] w fun e w' => ∃ v rs, e = .returned (.tuple #[v, .int .i64 0]) ∧ RowA w' w.heap.size v rs ∧ shs rs = treeAB ∧ Ext w w' := by
 have h2 := fun w1 (e1 : LangRd w1 lb) => tree_end lb sAB 3 _ w1 e1 (by decide) (by decide) tokAB_3 rfl
 have h1 := fun w1 (e1 : LangRd w1 lb) => tree_word lb sAB 1 3 _ _ _ _ w1 e1 (by decide) (by decide) tokAB_1 rfl rfl rfl (ts_dec (by kernel_rfl)) h2
 have h0 := fun w1 (e1 : LangRd w1 lb) => tree_word lb sAB 0 1 _ _ _ _ w1 e1 (by decide) (by decide) tokAB_0 rfl rfl rfl (ts_dec (by kernel_rfl)) h1
 refine (fresh_words lb sAB _ _ _ _ w h (by decide) rfl (ts_dec (by kernel_rfl)) (ts_dec (by kernel_rfl)) (by kernel_rfl) tokAB_3 rfl h0).mono ?_
 rintro e w' ⟨v, rs, h1, h2, h3, h4⟩
 exact ⟨v, rs, h1, h2, h3.trans (by kernel_rfl), h4⟩
end Go.Proofs.YthpmncdfaggkiaaGreat
namespace Go.Proofs.YthpmncdfaggkiaaGreat
structure Nd where
 sym : Int
 kind : Int
 lo : Int
 inn : Int
 hi : Int
 look : Int
 kids : List Int
 met : Int
def kc (l : List Nd) (n m : Nat) : Nat := (((l.take m).drop n).map (fun p => p.kids.length)).sum




end Go.Proofs.YthpmncdfaggkiaaGreat
namespace Go.Proofs.YthpmncdfaggkiaaGreat
open Go.RowKit
structure Prt where
 nd : Nd
 kA : Option Addr
 kc : Nat
def prtCells (p : Prt) : List Value := [.int .i64 p.nd.sym, .int .i64 p.nd.kind, .int .i64 p.nd.lo, .int .i64 p.nd.inn, .int .i64 p.nd.hi, .int .i64 p.nd.look, .slice p.kA p.nd.kids.length p.kc, .int .u64 p.nd.met]
end Go.Proofs.YthpmncdfaggkiaaGreat
namespace Go.Proofs.YthpmncdfaggkiaaGreat
end Go.Proofs.YthpmncdfaggkiaaGreat
namespace Go.Proofs.YthpmncdfaggkiaaGreat
open Go.RowKit
attribute [local go_sem] more_drew more_drewN more_size more_cell more_frozen more_setCell drew_more drewN_more lt_add_r lt_add_r2 lt_add_r3 lt_add_r4 lt_add_r5 lt_add_r6 lt_add_r7 lt_add_r8 lt_add_r9 lt_add_r10 lt_self_r lt_self_r2
def pv (ps : List Prt) : List Value := ps.flatMap prtCells

structure Pn where
 lo : Int
 hi : Int
 st : Int
 mr : Int
 deriving DecidableEq
def pnC (p : Pn) : List Value := [.int .i64 p.lo, .int .i64 p.hi, .int .i64 p.st, .int .i64 p.mr]
def pn (ps : List Pn) : List Value := ps.flatMap pnC
end Go.Proofs.YthpmncdfaggkiaaGreat
namespace Go.Proofs.YthpmncdfaggkiaaGreat
open Go.ChangeShapes Go.WideShapes Go.ChangeAt Go.RowKit
theorem own : ownKnob Tryz.prog.godebug = none := by kernel_rfl
end Go.Proofs.YthpmncdfaggkiaaGreat
namespace Go.Proofs.YthpmncdfaggkiaaGreat
open Go.ChangeShapes Go.WideShapes Go.ChangeAt Go.RowKit Go.Joins Go.Deep
end Go.Proofs.YthpmncdfaggkiaaGreat
namespace Go.Proofs.YthpmncdfaggkiaaGreat
open Go.RowKit
def nd1 (p : Sh) : Nd := ⟨p.sym, p.kind, p.lo, p.inn, p.hi, p.look, p.ks, 0⟩
end Go.Proofs.YthpmncdfaggkiaaGreat
