/- PnPaintFew: texts that the proof rests on, part 1. -/
import Derived.Test.YthpmncdfaggkiaaGreatCr1
import Derived.Test.YthpmncdfaggkiaaGreatCr10
import Derived.Test.YthpmncdfaggkiaaGreatCr11
import Derived.Test.YthpmncdfaggkiaaGreatCr2
import Derived.Test.YthpmncdfaggkiaaGreatCr3
import Derived.Test.YthpmncdfaggkiaaGreatCr5
import Derived.Test.YthpmncdfaggkiaaGreatCr6
import Derived.Test.YthpmncdfaggkiaaGreatCr7
import Derived.Test.YthpmncdfaggkiaaGreatCr8
import Derived.Test.YthpmncdfaggkiaaGreatCr9
import Derived.Test.YthpmncdfaggkiaaGreatPn1
import Derived.Test.YthpmncdfaggkiaaGreatPn2
import Derived.Test.YthpmncdfaggkiaaGreatPn3
import Derived.Test.YthpmncdfaggkiaaGreatPn4
import Derived.Test.YthpmncdfaggkiaaGreatPn5
import Derived.Laws.Cover1
namespace Go.Proofs.YthpmncdfaggkiaaGreat
open Go.RowKit
attribute [local go_sem] more_drew more_drewN more_size more_cell more_frozen more_setCell drew_more drewN_more lt_add_r lt_add_r2 lt_add_r3 lt_add_r4 lt_add_r5 lt_add_r6 lt_add_r7 lt_add_r8 lt_add_r9 lt_add_r10 lt_self_r lt_self_r2
theorem firstF_cases {α : Type} (f : α → Bool) : ∀ (l : List α) (k0 : Nat), (firstF f k0 l = -1 ∧ ∀ p ∈ l, f p = false) ∨ ∃ k p, firstF f k0 l = ((k0 + k : Nat) : Int) ∧ l[k]? = some p ∧ f p = true ∧ ∀ i q, i < k → l[i]? = some q → f q = false
 | [], _ => .inl ⟨rfl, fun p hp => (by cases hp)⟩
 | p :: l, k0 => by
  unfold firstF
  by_cases h : f p = true
  ·exact .inr ⟨0, p, by rw [if_pos h]; rfl, rfl, h, fun i q hi => by omega⟩
  ·rw [if_neg h]
   rcases firstF_cases f l (k0 + 1) with ⟨h1, h2⟩ | ⟨k, q, h1, h2, h3, h4⟩
   ·refine .inl ⟨h1, fun x hx => ?_⟩
    rcases List.mem_cons.1 hx with rfl | hx
    ·simpa using h
    ·exact h2 x hx
   ·refine .inr ⟨k + 1, q, by rw [h1]; congr 1; omega, by simpa using h2, h3, fun i x hi hx => ?_⟩
    cases i with
    | zero => simp at hx; subst hx; simpa using h
    | succ i => exact h4 i x (by omega) (by simpa using hx)
set_option maxRecDepth 100000 in
set_option maxHeartbeats 1000000 in
theorem idxPaint (F : Nat) (lb : Array Value) (f : Pn → Bool) (A : Option Addr) (c : Nat) (ps : List Pn) (w : World) (hP : Pns w A ps) (hl : ps.length ≤ 9223372036854775807) (eg : Enters Tryz.prog F)
 (hf : ∀ (wr : World) (p : Pn), Ext w wr → p ∈ ps → Calls Tryz.prog F (#[pnV p] ++ lb) wr fun e w' => e = .returned (.bool (f p)) ∧ Ext wr w') :
 Calls Tryz.prog 89 #[.slice A ps.length c, .func (.func F) #[] lb] w fun e w' => e = .returned (.int .i64 (firstF f 0 ps)) ∧ Ext w w' := by
 have HP := zh hP
 have HF := zh hf
 unfold Enters at eg
 clear hP hf
 go_enter Tryz.func89, Tryz.ntmps89
 go_wp2
 go_loopw [8] (fun i wr => ∃ j : Nat, j ≤ ps.length ∧ i = .int .i64 j ∧ Hid (firstF f 0 ps = firstF f j (ps.drop j)) ∧ Hid (Ext w wr)) (fun i _ => ps.length - (intOf i).toNat)
 case atStart => exact ⟨0, Nat.zero_le _, rfl, zh rfl, zh (by repeat first | exact xr _ | refine xa ?_ _ | refine xm ?_ _ _ | refine xd ?_ | refine xn ?_ _ | refine xs ?_ (by simp <;> omega) _)⟩
 case round =>
  obtain ⟨j, hj, rfl, he, hx⟩ := hrel
  by_cases hlt : j < ps.length
  ·obtain ⟨⟨p0, p1, p2, p3⟩, hp⟩ : ∃ p, ps[j]? = some p := ⟨_, List.getElem?_eq_getElem hlt⟩
   obtain ⟨b, off, rfl, hb, hcell⟩ := (HP.out.ext hx.out) (by omega)
   obtain ⟨d0, d1, d2, d3⟩ := hcell j _ hp
   dsimp only at d0 d1 d2 d3
   have CF := zh (HF.out wr _ hx.out (List.mem_of_getElem? hp))
   unfold pnV at CF
   dsimp only at CF
   obtain ⟨fv, hfv⟩ : ∃ v, f ⟨p0, p1, p2, p3⟩ = v := ⟨_, rfl⟩
   have HS : Hid (firstF f j (ps.drop j) = if fv then (j : Int) else firstF f (j + 1) (ps.drop (j + 1))) := by
    rw [List.drop_eq_getElem_cons hlt]
    rw [List.getElem?_eq_getElem hlt] at hp
    injection hp with hp
    rw [hp, ← hfv]
    exact zh rfl
   rw [hfv] at CF
   clear hcell hp hfv
   go_wp2_with fail
   refine CF.out.mono ?_
   rintro e w2 ⟨rfl, hx2⟩
   have HX2 := zh (hx.out.trans hx2)
   clear hx2
   cases fv with
   | true =>
    have HE : Hid (firstF f 0 ps = (j : Int)) := zh (he.out.trans HS.out)
    go_wp2_with fail
    go_ret
    exact ⟨ret_int HE.out.symm, HX2.out⟩
   | false =>
    have HE : Hid (firstF f 0 ps = firstF f (j + 1) (ps.drop (j + 1))) := zh (he.out.trans HS.out)
    go_wp2_with fail
    go_roundw
    case rel => exact ⟨j + 1, by omega, by go_num, HE, HX2⟩
    case measure => simp [intOf]; omega
  ·obtain rfl : j = ps.length := by omega
   have HE : Hid (firstF f 0 ps = -1) := zh (by rw [he.out, List.drop_eq_nil_of_le (Nat.le_refl _)]; rfl)
   go_wp2_with fail
   go_ret
   exact ⟨ret_int HE.out.symm, hx.out⟩
set_option maxRecDepth 100000 in
set_option maxHeartbeats 1000000 in
theorem at1_any28 (p : Pn) (x : Int) (xb : Nat) (w : World) (hx : w.heap[xb]? = some (.cells #[.int .i64 x] 3)) : Calls Tryz.prog 90 #[pnV p, pt xb] w fun e w' => e = .returned (.bool (hasB x p)) ∧ Ext w w' := by
 obtain ⟨p0, p1, p2, p3⟩ := p
 have c0 := cell_of_row _ _ 0 _ _ _ hx
 have cl := lt_of_heap hx
 simp at c0
 obtain ⟨R, hR⟩ : ∃ R, hasB x ⟨p0, p1, p2, p3⟩ = R := ⟨_, rfl⟩
 have HR : Hid ((decide (p0 ≤ x) && decide (x < p1)) = R) := zh hR
 rw [hR]
 unfold pnV
 dsimp only
 clear hR hx
 by_cases h1 : p0 ≤ x
 ·have g1 : decide (p0 ≤ x) = true := decide_eq_true h1
  go_enter Tryz.func90, Tryz.ntmps90
  go_wp2_with fail
  go_ret
  exact ⟨ret_bool (by rw [← HR.out, g1]; simp), (by repeat first | exact xr _ | refine xa ?_ _ | refine xm ?_ _ _ | refine xd ?_ | refine xn ?_ _ | refine xs ?_ (by simp <;> omega) _)⟩
 ·have g1 : decide (p0 ≤ x) = false := decide_eq_false h1
  go_enter Tryz.func90, Tryz.ntmps90
  go_wp2_with fail
  go_ret
  exact ⟨ret_bool (by rw [← HR.out, g1]; rfl), (by repeat first | exact xr _ | refine xa ?_ _ | refine xm ?_ _ _ | refine xd ?_ | refine xn ?_ _ | refine xs ?_ (by simp <;> omega) _)⟩
def AtRet (w : World) (ps : List Pn) (x : Int) (e : Ending) (w' : World) : Prop := Ext w w' ∧ ((∃ (j : Nat) (p : Pn), ps[j]? = some p ∧ hasB x p = true ∧ (∀ (i : Nat) (q : Pn), i < j → ps[i]? = some q → hasB x q = false) ∧ e = .returned (.tuple #[pnV p, .bool true])) ∨ ((∀ p ∈ ps, hasB x p = false) ∧ e = .returned (.tuple #[pnV ⟨0, 0, 0, 0⟩, .bool false])))
set_option maxRecDepth 100000 in
set_option maxHeartbeats 1000000 in
theorem at_any28 (A : Option Addr) (c : Nat) (ps : List Pn) (x : Int) (w : World) (hP : Pns w A ps) (hl : ps.length ≤ 1000000) : Calls Tryz.prog 42 #[.slice A ps.length c, .int .i64 x] w (AtRet w ps x) := by
 have HP := zh hP
 clear hP
 go_enter Tryz.func42, Tryz.ntmps42
 go_upto_region 1 with fail
 obtain ⟨xb, hxb⟩ : ∃ n, w.heap.size = n := ⟨_, rfl⟩
 obtain ⟨W1, hW1⟩ : ∃ V, (w.alloc (.cells #[.int .i64 x] 3)).alloc (.cells #[.int .i64 0, .int .i64 0, .int .i64 0, .int .i64 0] 73) = V := ⟨_, rfl⟩
 have X1 : Ext w W1 := by rw [← hW1]; exact (by repeat first | exact xr _ | refine xa ?_ _ | refine xm ?_ _ _ | refine xd ?_ | refine xn ?_ _ | refine xs ?_ (by simp <;> omega) _)
 have G0 : W1.heap[xb]? = some (.cells #[.int .i64 x] 3) := by rw [← hW1, ← hxb]; exact (by simp only [heap_alloc_get, World.size_alloc]; (repeat (split; (first | rfl | (exfalso; omega)))); (try (first | (exfalso; omega) | simp_all)))
 have G1 : W1.heap[xb + 1]? = some (.cells #[.int .i64 0, .int .i64 0, .int .i64 0, .int .i64 0] 73) := by rw [← hW1, ← hxb]; exact (by simp only [heap_alloc_get, World.size_alloc]; (repeat (split; (first | rfl | (exfalso; omega)))); (try (first | (exfalso; omega) | simp_all)))
 rw [hW1, hxb]
 have HX1 := zh X1
 have HG0 := zh G0
 have HG1 := zh G1
 have HSZ : Hid (w.heap.size ≤ xb) := zh (by omega)
 clear hW1 hxb X1 G0 G1
 have CI := zh (idxPaint 90 #[pt xb] (hasB x) A c ps W1 (HP.out.ext HX1.out) (by omega) (enters_of Tryz.func90 (by kernel_rfl) rfl) (fun wr p hx _ => at1_any28 p x xb wr (ext_block HG0.out hx)))
 go_wp2_with fail
 refine CI.out.mono ?_
 rintro e w2 ⟨rfl, hx2⟩
 have HX2 := zh (HX1.out.trans hx2)
 have HG2 := zh (ext_block HG1.out hx2)
 clear hx2
 have k0 := cell_of_row _ _ 0 _ _ _ HG2.out
 have k1 := cell_of_row _ _ 1 _ _ _ HG2.out
 have k2 := cell_of_row _ _ 2 _ _ _ HG2.out
 have k3 := cell_of_row _ _ 3 _ _ _ HG2.out
 have kl := lt_of_heap HG2.out
 have kf : ∀ k, w2.frozen? ⟨xb + 1, k, none⟩ = false := fun k => by simp [World.frozen?, HG2.out]
 simp at k0 k1 k2 k3
 have HF : Hid (∀ p0 p1 p2 p3 : Int, Ext w (put4p w2 (xb + 1) 0 ⟨p0, p1, p2, p3⟩)) := zh fun p0 p1 p2 p3 => by
  unfold put4p
  exact (((HX2.out.setCell (p := ⟨xb + 1, 0, none⟩) (by show w.heap.size ≤ xb + 1; have := HSZ.out; omega) _).setCell (p := ⟨xb + 1, 0 + 1, none⟩) (by show w.heap.size ≤ xb + 1; have := HSZ.out; omega) _).setCell (p := ⟨xb + 1, 0 + 2, none⟩) (by show w.heap.size ≤ xb + 1; have := HSZ.out; omega) _).setCell (p := ⟨xb + 1, 0 + 3, none⟩) (by show w.heap.size ≤ xb + 1; have := HSZ.out; omega) _
 rcases firstF_cases (hasB x) ps 0 with ⟨h1, h2⟩ | ⟨j, ⟨p0, p1, p2, p3⟩, h1, h2, h3, h4⟩
 ·have HN := zh h2
  rw [h1]
  clear h1 h2
  go_wp2_with fail
  refine bodyPost_ret (v := .tuple #[.agg #[.int .i64 0, .int .i64 0, .int .i64 0, .int .i64 0], .bool false]) (by simp [results, Tryz.results42, go_sem, *]) rfl ⟨HF.out 0 0 0 0, .inr ⟨HN.out, rfl⟩⟩
 ·have HN := zh (And.intro h2 (And.intro h3 h4))
  rw [h1, Nat.zero_add]
  have hjl := (List.getElem?_eq_some_iff.1 h2).1
  obtain ⟨b, off, rfl, hb, hcell⟩ := (HP.out.ext HX2.out) (by omega)
  obtain ⟨d0, d1, d2, d3⟩ := hcell j _ h2
  dsimp only at d0 d1 d2 d3
  have g1 : decide ((j : Int) < 0) = false := decide_eq_false (by omega)
  clear h1 h2 h3 h4 hcell
  go_wp2_with fail
  refine bodyPost_ret (v := .tuple #[.agg #[.int .i64 p0, .int .i64 p1, .int .i64 p2, .int .i64 p3], .bool true]) (by simp [results, Tryz.results42, go_sem, *]) rfl ⟨HF.out p0 p1 p2 p3, .inl ⟨j, _, HN.out.1, HN.out.2.1, HN.out.2.2, rfl⟩⟩
theorem rowPn_empty (w : World) (base : Nat) (hb : base ≤ w.heap.size) : RowPn (w.alloc (.cells #[] 73)) base (.slice (some ⟨w.heap.size, 0, none⟩) 0 0) [] :=
 own_lit w base 73 4 w.heap.size 0 #[] rfl hb rfl (by unfold maxLen; omega)
set_option maxRecDepth 100000 in
set_option maxHeartbeats 1000000 in
theorem clone28_any (A : Option Addr) (c : Nat) (ps : List Pn) (w : World) (hP : Pns w A ps) (hl : ps.length ≤ 1000000) (hA : A = none → c = 0) (hlc : ps.length ≤ c) : Calls Tryz.prog 94 #[.slice A ps.length c] w (PaintRet w ps) := by
 have e54 := fun w1 a n c => Lib.run_eql_slice_nil (P := Tryz.prog) w1 69 73 a n c 0 0 Tryz.underlying69
 have HP := zh hP
 have HA := zh hA
 cases A with
 | none =>
  have h0 : ps.length = 0 := by have := hA rfl; omega
  have hps : ps = [] := List.eq_nil_of_length_eq_zero h0
  have HPS := zh hps
  clear hP hA
  go_enter Tryz.func94, Tryz.ntmps94
  go_wp2_with fail
  go_ret
  exact ⟨_, rfl, RowPn.nil _ _, (by repeat first | exact xr _ | refine xa ?_ _ | refine xm ?_ _ _ | refine xd ?_ | refine xn ?_ _ | refine xs ?_ (by simp <;> omega) _)⟩
 | some ad =>
  clear hP hA
  go_enter Tryz.func94, Tryz.ntmps94
  go_wp2_with (at_builtin; refine app_paint w (by rfl) (.tmp 5) (.tmp 6) rfl (rowPn_empty w w.heap.size (Nat.le_refl _)) rfl rfl HA.out (HP.out.ext (by repeat first | exact xr _ | refine xa ?_ _ | refine xm ?_ _ _ | refine xd ?_ | refine xn ?_ _ | refine xs ?_ (by simp <;> omega) _)) (by simp) hl (by simp) ?_; intro v7 w7 hr7 hg7 ha7)
  have HR := zh hr7
  have HX : Hid (Ext w w7) := zh (((by repeat first | exact xr _ | refine xa ?_ _ | refine xm ?_ _ _ | refine xd ?_ | refine xn ?_ _ | refine xs ?_ (by simp <;> omega) _) : Ext w (w.alloc (.cells #[] 73))).grown hg7 (fun g hg => own_block (rowPn_empty w w.heap.size (Nat.le_refl _)) g hg))
  clear hg7 hr7 ha7
  go_wp2_with fail
  go_ret
  exact ⟨_, rfl, HR.out, HX.out⟩
def joinF (ps qs : List Pn) : List Pn := match ps[ps.length - 1]?, qs with
 | some x, y :: ys => if alikeB x y then ps.set (ps.length - 1) (oneF x y) ++ ys else ps ++ y :: ys
 | _, qs => ps ++ qs
theorem Pns.tail {w : World} {b off : Nat} {p : Pn} {ps : List Pn} (h : Pns w (some ⟨b, off, none⟩) (p :: ps)) : Pns w (some ⟨b, off + 4, none⟩) ps := fun _ => by
 obtain ⟨b', off', hA, hb, hc⟩ := h (by simp)
 injection hA with hA
 injection hA with ea eb
 subst ea eb
 refine ⟨b, off + 4, rfl, hb, fun k q hk => ?_⟩
 have := hc (k + 1) q (by simpa using hk)
 rw [show off + (k + 1) * 4 = off + 4 + k * 4 from by omega] at this
 exact this
set_option maxRecDepth 100000 in
set_option maxHeartbeats 2000000 in
theorem join28_no (A B : Option Addr) (c d : Nat) (ps qs : List Pn) (w : World) (hP : Pns w A ps) (hl : ps.length ≤ 1000000) (hA : A = none → c = 0) (hlc : ps.length ≤ c) (hQ : Pns w B qs) (hlq : qs.length ≤ 1000000) (hB : B = none → d = 0) (hld : qs.length ≤ d) (h0 : ps = [] ∨ qs = []) :
 Calls Tryz.prog 45 #[.slice A ps.length c, .slice B qs.length d] w (PaintRet w (ps ++ qs)) := by
 have G : Hid (decide (0 < ps.length) = false ∨ decide (0 < ps.length) = true ∧ decide (0 < qs.length) = false) := zh (by
  rcases h0 with rfl | rfl
  ·exact .inl rfl
  ·by_cases h : 0 < ps.length
   ·exact .inr ⟨decide_eq_true h, rfl⟩
   ·exact .inl (decide_eq_false h))
 have HP := zh hP
 have HQ := zh hQ
 clear hP hQ
 go_enter Tryz.func45, Tryz.ntmps45
 go_wp2_with fail
 refine (clone28_any A c ps w HP.out hl hA hlc).mono ?_
 rintro e w1 ⟨v, rfl, hr1, hx1⟩
 have HR1 := zh hr1
 have HX1 := zh hx1
 clear hr1 hx1
 rcases G.out with g1 | ⟨g1, g2⟩
 all_goals
  go_upto_region 2 with fail
  refine wp_region_bt (20) (pures_bt [0, 1, 2, 3, 4, 5, 6, 7, 8, 9, 10, 11, 12, 13, 15, 16] (softs_bt [14, 17] (.step 18 (pures_bt [19] .fin)))) (by kernel_rfl) (by kernel_rfl) ?_
  refine bt_pures _ fun K hK => ?_; simp only [pick, nthC]; (repeat go_big_quiet_step (fail)); refine wpQuiet_nil (hK _ ?_); clear hK K
  refine bt_softs _ fun K hK => ?_; simp only [pick, nthC]; (repeat go_big_quiet_step (fail)); refine wpQuiet_nil (hK _ ?_); clear hK K
  refine bt_step fun next hn => ?_; simp only [pick, nthC]
  go_wp2_with fail
  have X9 : Hid (Ext w1 w1.drew) := zh (by repeat first | exact xr _ | refine xa ?_ _ | refine xm ?_ _ _ | refine xd ?_ | refine xn ?_ _ | refine xs ?_ (by simp <;> omega) _)
  refine segQ_mk (fun _ => laid X9.out) (hn _ _ ?_)
  clear hn next
  refine bt_pures _ fun K hK => ?_; simp only [pick, nthC]; (repeat go_big_quiet_step (fail)); refine wpQuiet_nil (hK _ ?_); clear hK K
  (refine bt_fin ?_)
  go_wp2_with (at_builtin; refine app_paint w (by rfl) (.tmp 45) (.tmp 46) rfl (HR1.out.ext X9.out) rfl rfl hB (HQ.out.ext (HX1.out.trans X9.out)) (hl) (hlq) ((HX1.out.trans X9.out).size) ?_; intro v7 w7 hr7 hg7 ha7)
  have HR := zh hr7
  have HX : Hid (Ext w w7) := zh ((HX1.out.trans X9.out).grown hg7 (fun g hg => own_block (HR1.out.ext X9.out) g hg))
  clear hg7 hr7 ha7
  go_wp2_with fail
  go_ret
  exact ⟨_, rfl, HR.out, HX.out⟩
set_option maxRecDepth 100000 in
set_option maxHeartbeats 2000000 in
theorem join28_yes (A B : Option Addr) (c d : Nat) (ps : List Pn) (x y : Pn) (ys : List Pn) (w : World) (hP : Pns w A ps) (hl : ps.length ≤ 1000000) (hA : A = none → c = 0) (hlc : ps.length ≤ c) (hQ : Pns w B (y :: ys)) (hlq : (y :: ys).length ≤ 1000000) (hB : B = none → d = 0) (hld : (y :: ys).length ≤ d) (hx : ps[ps.length - 1]? = some x) :
 Calls Tryz.prog 45 #[.slice A ps.length c, .slice B (y :: ys).length d] w (PaintRet w (joinF ps (y :: ys))) := by
 have hn0 : 0 < ps.length := by have := (List.getElem?_eq_some_iff.1 hx).1; omega
 have hm0 : 0 < (y :: ys).length := by simp
 obtain ⟨x0, x1, x2, x3⟩ := x
 obtain ⟨y0, y1, y2, y3⟩ := y
 obtain ⟨va, hva⟩ : ∃ v, alikeB ⟨x0, x1, x2, x3⟩ ⟨y0, y1, y2, y3⟩ = v := ⟨_, rfl⟩
 have HJ : Hid (joinF ps (⟨y0, y1, y2, y3⟩ :: ys) = if va then ps.set (ps.length - 1) ⟨x0, y1, x2, x3⟩ ++ ys else ps ++ ⟨y0, y1, y2, y3⟩ :: ys) := zh (by unfold joinF; rw [hx]; simp only [hva]; rfl)
 have HLX := zh hx
 obtain ⟨n, hn⟩ : ∃ n, ps.length = n := ⟨_, rfl⟩
 obtain ⟨m, hm⟩ : ∃ m, (⟨y0, y1, y2, y3⟩ :: ys : List Pn).length = m + 1 := ⟨ys.length, rfl⟩
 have HYL : Hid (ys.length = m) := zh (by simpa using hm)
 have HN := zh hn
 have HM := zh hm
 have CL := zh (clone28_any A c ps w hP hl hA hlc)
 have HP := zh hP
 have HQ := zh hQ
 have hnl : n ≤ 1000000 := by omega
 have hml : m + 1 ≤ 1000000 := by omega
 have hnc : n ≤ c := by omega
 have hmd : m + 1 ≤ d := by omega
 have hn1 : 0 < n := by omega
 rw [hn, hm]
 rw [hn] at CL
 clear hP hQ hl hlc hlq hld hn0 hm0 hn hm hx
 go_enter Tryz.func45, Tryz.ntmps45
 go_wp2_with fail
 refine CL.out.mono ?_
 rintro e w1 ⟨v, rfl, hr1, hx1⟩
 have HX1 := zh hx1
 obtain ⟨A1, c1, hv1, hP1, hlc1, hcm1, hn1'⟩ := hr1.read
 subst hv1
 unfold maxLen at hcm1
 obtain ⟨g, hA1, hg1, hg2⟩ := row_block hr1 (by have := HN.out; omega)
 subst hA1
 rw [HN.out] at hr1 hlc1 ⊢
 have HR1 := zh hr1
 have HGB := zh hg1
 obtain ⟨bA, oA, hAA, hbA, hcA⟩ := (HP.out.ext hx1) (by have := HN.out; omega)
 subst hAA
 obtain ⟨bB, oB, hBB, hbB, hcB⟩ := (HQ.out.ext hx1) (by simp)
 subst hBB
 obtain ⟨b0, b1, b2, b3⟩ := hcB 0 _ rfl
 have hlx := HLX.out
 rw [HN.out] at hlx
 obtain ⟨a0, a1, a2, a3⟩ := hcA (n - 1) _ hlx
 simp only [Nat.zero_mul, Nat.add_zero] at b0 b1 b2 b3
 have g1 : decide (0 < n) = true := decide_eq_true hn1
 have g2 : decide (0 < m + 1) = true := decide_eq_true (by omega)
 have e1 : ((n : Int) - 1) = ((n - 1 : Nat) : Int) := by omega
 have e2 : IntKind.i64.wrap ((n : Int) - 1) = ((n - 1 : Nat) : Int) := by rw [IntWalk.i64_in _ (by omega)]; omega
 have e3 : n - 1 < n := by omega
 clear hx1 hr1 hg1 hP1 hcA hcB hlx
 go_upto_region 2 with fail
 refine wp_region_bt (20) (pures_bt [0, 1, 2, 3, 4, 5, 6, 7, 8, 9, 10, 11, 12, 13, 15, 16] (softs_bt [14, 17] (.step 18 (pures_bt [19] .fin)))) (by kernel_rfl) (by kernel_rfl) ?_
 refine bt_pures _ fun K hK => ?_; simp only [pick, nthC]; (repeat go_big_quiet_step (fail)); refine wpQuiet_nil (hK _ ?_); clear hK K
 refine bt_softs _ fun K hK => ?_; simp only [pick, nthC]; (repeat go_big_quiet_step (fail)); refine wpQuiet_nil (hK _ ?_); clear hK K
 refine bt_step fun next hn => ?_; simp only [pick, nthC]
 go_wp2_with fail
 refine (alike_any28 ⟨x0, x1, x2, x3⟩ ⟨y0, y1, y2, y3⟩ _).mono ?_
 rintro e w9 ⟨rfl, hx9⟩
 have X9 : Hid (Ext w1 w9) := zh (((by repeat first | exact xr _ | refine xa ?_ _ | refine xm ?_ _ _ | refine xd ?_ | refine xn ?_ _ | refine xs ?_ (by simp <;> omega) _) : Ext w1 w1.drew).trans hx9)
 rw [hva]
 clear hx9 hva
 go_wp2_with fail
 refine segQ_mk (fun _ => laid X9.out) (hn _ _ ?_)
 clear hn next
 refine bt_pures _ fun K hK => ?_; simp only [pick, nthC]; (repeat go_big_quiet_step (fail)); refine wpQuiet_nil (hK _ ?_); clear hK K
 (refine bt_fin ?_)
 cases va with
 | false =>
  go_wp2_with (at_builtin; refine app_paint w (qs := ⟨y0, y1, y2, y3⟩ :: ys) (by rfl) (.tmp 45) (.tmp 46) rfl (HR1.out.ext X9.out) rfl (show _ = Value.slice (some ⟨bB, oB, none⟩) (⟨y0, y1, y2, y3⟩ :: ys : List Pn).length d by rw [HM.out]; rfl) (fun h => by cases h) (HQ.out.ext (HX1.out.trans X9.out)) (by have := HN.out; omega) (by rw [HM.out]; exact hml) (HX1.out.trans X9.out).size ?_; intro v7 w7 hr7 hg7 ha7)
  have HR : Hid (RowPn w7 w.heap.size v7 (joinF ps (⟨y0, y1, y2, y3⟩ :: ys))) := zh (by rw [HJ.out]; exact hr7)
  have HX : Hid (Ext w w7) := zh ((HX1.out.trans X9.out).grown hg7 (fun g hg => own_block (HR1.out.ext X9.out) g hg))
  clear hg7 hr7 ha7
  go_wp2_with fail
  go_ret
  exact ⟨_, rfl, HR.out, HX.out⟩
 | true =>
  clear a0 a1 a2 a3 b0 b1 b2 b3 hbA hbB
  obtain ⟨bB', oB', hBB, hbB, hcB⟩ := (HQ.out.ext (HX1.out.trans X9.out)) (by simp)
  injection hBB with hBB
  injection hBB with ea eb
  subst ea eb
  obtain ⟨b0, b1, b2, b3⟩ := hcB 0 _ rfl
  simp only [Nat.zero_mul, Nat.add_zero] at b0 b1 b2 b3
  have hR9 := HR1.out.ext X9.out
  obtain ⟨A9, c9, hv9, hP9, _, _, _⟩ := hR9.read
  injection hv9 with z1 z2 z3
  subst z1 z3
  clear z2
  have HR9 := zh hR9
  have hlx := HLX.out
  rw [HN.out] at hlx
  obtain ⟨bg, og, hgg, hbg, hcg⟩ := hP9 (by have := HN.out; omega)
  injection hgg with hgg
  injection hgg with ea eb
  subst ea eb
  obtain ⟨a0, a1, a2, a3⟩ := hcg (n - 1) _ hlx
  simp only [Nat.zero_add] at a0 a1 a2 a3
  clear hcB hcg hR9 hP9 hlx
  go_upto_region 3 with fail
  refine wp_region_bt (15) (pures_bt [0, 1, 2, 3, 4, 5, 6, 7, 8, 10, 11] (softs_bt [9, 12] (.step 13 (pures_bt [14] (.step 15 .fin))))) (by kernel_rfl) (by kernel_rfl) ?_
  refine bt_pures _ fun K hK => ?_; simp only [pick, nthC]; (repeat go_big_quiet_step (fail)); refine wpQuiet_nil (hK _ ?_); clear hK K
  refine bt_softs _ fun K hK => ?_; simp only [pick, nthC]; (repeat go_big_quiet_step (fail)); refine wpQuiet_nil (hK _ ?_); clear hK K
  refine bt_step fun next hn => ?_; simp only [pick, nthC]
  go_wp2_with fail
  refine (one_any28 ⟨x0, x1, x2, x3⟩ ⟨y0, y1, y2, y3⟩ _).mono ?_
  rintro e w10 ⟨rfl, hx10⟩
  have X10 : Hid (Ext w9 w10) := zh (((by repeat first | exact xr _ | refine xa ?_ _ | refine xm ?_ _ _ | refine xd ?_ | refine xn ?_ _ | refine xs ?_ (by simp <;> omega) _) : Ext w9 w9.drew).trans hx10)
  clear hx10
  unfold pnV
  dsimp only
  go_wp2_with fail
  refine segQ_mk (fun _ => laid X10.out) (hn _ _ ?_)
  clear hn next a0 a1 a2 a3 b0 b1 b2 b3 hbB hbg
  have HR10 := zh (HR9.out.ext X10.out)
  obtain ⟨cur, hcur⟩ := own_obj HR10.out g rfl
  have hlx := HLX.out
  rw [HN.out] at hlx
  obtain ⟨A9, c9, hv9, hP9, _, _, _⟩ := HR10.out.read
  injection hv9 with z1 z2 z3
  subst z1 z3
  clear z2
  obtain ⟨bg, og, hgg, hbg, hcg⟩ := hP9 (by have := HN.out; omega)
  injection hgg with hgg
  injection hgg with ea eb
  subst ea eb
  obtain ⟨a0, a1, a2, a3⟩ := hcg (n - 1) _ hlx
  simp only [Nat.zero_add] at a0 a1 a2 a3
  have gf : ∀ k, w10.frozen? ⟨g, k, none⟩ = false := fun k => by simp [World.frozen?, hcur]
  have HST : Hid (RowPn (put4p w10 g ((n - 1) * 4) ⟨x0, y1, x2, x3⟩) w.heap.size (.slice (some ⟨g, 0, none⟩) n c1) (ps.set (n - 1) ⟨x0, y1, x2, x3⟩)) := zh (HR10.out.store hlx)
  have HXS : Hid (Ext w (put4p w10 g ((n - 1) * 4) ⟨x0, y1, x2, x3⟩)) := zh (by
   unfold put4p
   have hb := HGB.out
   exact (((((HX1.out.trans X9.out).trans X10.out).setCell (p := ⟨g, _, none⟩) hb _).setCell (p := ⟨g, _, none⟩) hb _).setCell (p := ⟨g, _, none⟩) hb _).setCell (p := ⟨g, _, none⟩) hb _)
  have HQS : Hid (Pns (put4p w10 g ((n - 1) * 4) ⟨x0, y1, x2, x3⟩) (some ⟨bB, oB, none⟩) (⟨y0, y1, y2, y3⟩ :: ys)) := zh (HQ.out.ext HXS.out)
  obtain ⟨W11, hW11⟩ : ∃ V, put4p w10 g ((n - 1) * 4) ⟨x0, y1, x2, x3⟩ = V := ⟨_, rfl⟩
  rw [hW11] at HST HXS HQS
  unfold put4p at hW11
  clear hcg hP9 hlx hcur
  refine bt_pures _ fun K hK => ?_; simp only [pick, nthC]; (repeat go_big_quiet_step (fail)); refine wpQuiet_nil (hK _ ?_); clear hK K
  refine bt_step fun next hn => ?_; simp only [pick, nthC]
  go_wp2_with fail
  refine segQ_mk (fun h => absurd rfl h) (hn _ _ ?_)
  clear hn next
  (refine bt_fin ?_)
  try simp only [hW11]
  clear hW11 gf a0 a1 a2 a3 hbg
  have hd0 : (1 : Int) ≤ ((m + 1 : Nat) : Int) := by omega
  have f1 : decide ((1 : Int) ≤ (m : Int) + 1) = true := decide_eq_true (by omega)
  obtain ⟨BT, hBT⟩ : ∃ b', (if d = 1 then some (⟨bB, oB, none⟩ : Addr) else some ⟨bB, oB + 4, none⟩) = b' := ⟨_, rfl⟩
  have HBT : Hid (Pns W11 BT ys ∧ (BT = none → d - 1 = 0)) := zh (by
   rw [← hBT]
   split
   ·exact ⟨fun h0 => absurd h0 (by have := HYL.out; omega), fun h => by cases h⟩
   ·exact ⟨HQS.out.tail, fun h => by cases h⟩)
  go_upto_region 5 with fail
  clear hBT f1
  go_wp2_with (at_builtin; refine app_paint w (ps := ps.set (n - 1) ⟨x0, y1, x2, x3⟩) (qs := ys) (by rfl) (.tmp 45) (.tmp 46) rfl HST.out rfl (show _ = Value.slice BT ys.length (d - 1) by rw [HYL.out]; rfl) HBT.out.2 HBT.out.1 (by rw [List.length_set]; have := HN.out; omega) (by have := HYL.out; omega) HXS.out.size ?_; intro v7 w7 hr7 hg7 ha7)
  have HR : Hid (RowPn w7 w.heap.size v7 (joinF ps (⟨y0, y1, y2, y3⟩ :: ys))) := zh (by rw [HJ.out, HN.out]; exact hr7)
  have HX : Hid (Ext w w7) := zh (HXS.out.grown hg7 (fun g hg => own_block HST.out g hg))
  clear hg7 hr7 ha7
  go_wp2_with fail
  go_ret
  exact ⟨_, rfl, HR.out, HX.out⟩
theorem join28_any (A B : Option Addr) (c d : Nat) (ps qs : List Pn) (w : World) (hP : Pns w A ps) (hl : ps.length ≤ 1000000) (hA : A = none → c = 0) (hlc : ps.length ≤ c) (hQ : Pns w B qs) (hlq : qs.length ≤ 1000000) (hB : B = none → d = 0) (hld : qs.length ≤ d) :
 Calls Tryz.prog 45 #[.slice A ps.length c, .slice B qs.length d] w (PaintRet w (joinF ps qs)) := by
 cases qs with
 | nil =>
  have := join28_no A B c d ps [] w hP hl hA hlc hQ hlq hB hld (.inr rfl)
  rwa [show joinF ps [] = ps ++ [] from by unfold joinF; cases ps[ps.length - 1]? <;> rfl]
 | cons y ys =>
  cases hx : ps[ps.length - 1]? with
  | none =>
   have hps : ps = [] := by
    have := List.getElem?_eq_none_iff.1 hx
    exact List.eq_nil_of_length_eq_zero (by omega)
   subst hps
   exact join28_no A B c d [] (y :: ys) w hP hl hA hlc hQ hlq hB hld (.inl rfl)
  | some x => exact join28_yes A B c d ps x y ys w hP hl hA hlc hQ hlq hB hld hx
end Go.Proofs.YthpmncdfaggkiaaGreat
namespace Go.Proofs.YthpmncdfaggkiaaGreat
open Go.RowKit
section
variable {P : Program} {C : World → Prop}
theorem wp_region_btw {id : Nat} {Q : Exit → Act → World → Prop} {a : Act} {w : World} {l : List Oper} (s : Nat) (t : Bt) (hm : P.follows .mixedOrders = true) (hB : btOkB l s t = true)
 (h : BtW P l (fun w' => ∃ x : Lay, w' = more w x.os x.k) s (fun a' w' => Q .normal a' w') t a w.drew) : (Code.region id l.toArray true).wp P Q a w := wp_region_bt s t hm hB h.out
end
theorem col_low {ps : List Pn} {x y z : Int} (h : Gap x y ps) (hz : z < x) : col z ps = none := by
 induction ps generalizing x with
 | nil => rfl
 | cons p ps ih =>
  obtain ⟨h1, h2, h3⟩ := h
  have hb : hasB z p = false := by simp [hasB]; omega
  simp only [col, hb, Bool.false_eq_true, if_false]
  exact ih h3 (by omega)
theorem ends_same {x t : Int} {p q : Pn} {ps qs : List Pn} {pr : Option Pn} (hp : Gap x t (p :: ps)) (hq : Gap x t (q :: qs)) (np : NoAl pr (p :: ps)) (he : ∀ z, col z (p :: ps) = col z (q :: qs)) : ¬ p.hi < q.hi := by
 intro hlt
 obtain ⟨p1, p2, p3⟩ := hp
 obtain ⟨q1, q2, q3⟩ := hq
 have hqt := q3.le
 cases ps with
 | nil =>
  have : p.hi = t := p3
  omega
 | cons r rs =>
  obtain ⟨r1, r2, r3⟩ := p3
  have e1 := he p.lo
  rw [col_at p2, show p.lo = q.lo by omega, col_at q2] at e1
  have e2 := he r.lo
  have hb : hasB r.lo p = false := by simp [hasB]; omega
  have hc : hasB r.lo q = true := by simp [hasB]; omega
  rw [show col r.lo (p :: r :: rs) = col r.lo (r :: rs) by simp [col, hb], col_at r2, show col r.lo (q :: qs) = some (q.st, q.mr) by simp [col, hc]] at e2
  simp only [Option.some.injEq, Prod.mk.injEq] at e1 e2
  have := np.2.1 p rfl
  simp only [alikeB, r1, e1.1, e2.1, e1.2, e2.2, decide_true, Bool.and_true] at this
  cases this
theorem right_one {x t : Int} {ps qs : List Pn} {pr pr' : Option Pn} (hp : Gap x t ps) (hq : Gap x t qs) (np : NoAl pr ps) (nq : NoAl pr' qs) (he : ∀ z, col z ps = col z qs) : ps = qs := by
 induction ps generalizing x qs pr pr' with
 | nil =>
  cases qs with
  | nil => rfl
  | cons q qs =>
   have h : x = t := hp
   obtain ⟨q1, q2, q3⟩ := hq
   have := q3.le
   omega
 | cons p ps ih =>
  cases qs with
  | nil =>
   have h : x = t := hq
   obtain ⟨q1, q2, q3⟩ := hp
   have := q3.le
   omega
  | cons q qs =>
   have n1 := ends_same hp hq np he
   have n2 := ends_same hq hp nq (fun z => (he z).symm)
   have e1 := he p.lo
   obtain ⟨p1, p2, p3⟩ := hp
   obtain ⟨q1, q2, q3⟩ := hq
   rw [col_at p2, show p.lo = q.lo by omega, col_at q2] at e1
   simp only [Option.some.injEq, Prod.mk.injEq] at e1
   have hpq : p = q := by
    cases p
    cases q
    simp only [Pn.mk.injEq] at *
    refine ⟨by omega, by omega, e1.1, e1.2⟩
   subst hpq
   rw [ih p3 q3 np.2 nq.2 fun z => ?_]
   have e := he z
   simp only [col] at e
   by_cases hz : hasB z p = true
   ·have : z < p.hi := by simp only [hasB, Bool.and_eq_true, decide_eq_true_eq] at hz; exact hz.2
    rw [col_low p3 this, col_low q3 this]
   ·rw [if_neg hz, if_neg hz] at e
    exact e
theorem noAl_pr {pr : Option Pn} {ps : List Pn} (h : NoAl none ps) (hp : ∀ q p, pr = some q → ps[0]? = some p → alikeB q p = false) : NoAl pr ps := by
 cases ps with
 | nil => trivial
 | cons p ps => exact ⟨fun q hq => hp q p hq rfl, h.2⟩
theorem noAl_none {pr : Option Pn} {ps : List Pn} (h : NoAl pr ps) : NoAl none ps := by
 cases ps with
 | nil => trivial
 | cons p ps => exact ⟨fun q hq => (by cases hq), h.2⟩
theorem noAl_app {pr : Option Pn} {ps qs : List Pn} {x : Pn} (h : NoAl pr (ps ++ [x])) (h2 : NoAl (some x) qs) : NoAl pr (ps ++ [x] ++ qs) := by
 induction ps generalizing pr with
 | nil => exact ⟨h.1, h2⟩
 | cons p ps ih => exact ⟨h.1, ih h.2⟩
theorem alike_one {x y q : Pn} (h : alikeB x y = true) : alikeB (oneF x y) q = alikeB y q := by
 obtain ⟨h1, h2, h3⟩ := alike_eq h
 simp [alikeB, oneF, h2, h3]
theorem joinF_concat (init : List Pn) (x y : Pn) (ys : List Pn) : joinF (init ++ [x]) (y :: ys) = if alikeB x y then init ++ [oneF x y] ++ ys else init ++ [x] ++ y :: ys := by
 unfold joinF
 have h : (init ++ [x])[(init ++ [x]).length - 1]? = some x := by simp
 rw [h]
 dsimp only
 split
 ·simp
 ·rfl
theorem joinF_right {f m t : Int} {a b : List Pn} (ha : Gap f m a) (na : NoAl none a) (hb : Gap m t b) (nb : NoAl none b) : Gap f t (joinF a b) ∧ NoAl none (joinF a b) ∧ ∀ z, col z (joinF a b) = col z (a ++ b) := by
 rcases List.eq_nil_or_concat a with rfl | ⟨init, x, rfl⟩
 ·have e : joinF [] b = b := by unfold joinF; simp
  rw [e]
  cases ha
  exact ⟨hb, nb, fun z => rfl⟩
 ·rw [List.concat_eq_append] at ha na ⊢
  cases b with
  | nil =>
   have e : joinF (init ++ [x]) [] = init ++ [x] := by unfold joinF; simp
   rw [e]
   cases hb
   exact ⟨ha, na, fun z => by rw [List.append_nil]⟩
  | cons y ys =>
   rw [joinF_concat]
   obtain ⟨v, h1, h3, h4, h5⟩ := ha.split
   have h5' : x.hi = m := h5
   obtain ⟨b1, b2, b3⟩ := hb
   by_cases hal : alikeB x y = true
   ·rw [if_pos hal]
    refine ⟨(h1.append (qs := [oneF x y]) (z := y.hi) ⟨h3, by show x.lo < y.hi; omega, rfl⟩).append b3, noAl_app (noAl_one na) (noAl_pr (noAl_none nb.2) fun q p hq hp => ?_), fun z => ?_⟩
    ·injection hq with hq
     subst hq
     rw [alike_one hal]
     cases ys with
     | nil => simp at hp
     | cons r rs =>
      simp at hp
      subst hp
      exact nb.2.1 y rfl
    ·have e : init ++ [x] ++ y :: ys = init ++ [x, y] ++ ys := by simp
     rw [e, col_append, col_append z init, col_two z hal h4 b2, ← col_append, ← col_append]
   ·rw [if_neg hal]
    refine ⟨(h1.append (qs := [x]) (z := m) ⟨h3, h4, h5⟩).append ⟨b1, b2, b3⟩, noAl_app na (noAl_pr nb fun q p hq hp => ?_), fun z => rfl⟩
    injection hq with hq
    subst hq
    simp at hp
    subst hp
    simpa using hal
theorem join_melt {f m t : Int} {xs ys zs : List Pn} (hx : Gap f m xs) (hy : Gap m t ys) (hz : Gap f t zs) (he : ∀ z, col z (xs ++ ys) = col z zs) : joinF (meltF xs) (meltF ys) = meltF zs := by
 obtain ⟨a1, a2⟩ := meltF_right (x := f) (y := f) (out := []) rfl trivial hx
 obtain ⟨b1, b2⟩ := meltF_right (x := m) (y := m) (out := []) rfl trivial hy
 obtain ⟨c1, c2⟩ := meltF_right (x := f) (y := f) (out := []) rfl trivial hz
 obtain ⟨j1, j2, j3⟩ := joinF_right a1 a2 b1 b2
 refine right_one j1 c1 j2 c2 fun z => ?_
 have e1 : col z (meltF xs) = col z xs := meltF_col z hx
 have e2 : col z (meltF ys) = col z ys := meltF_col z hy
 have e3 : col z (meltF zs) = col z zs := meltF_col z hz
 refine (j3 z).trans ?_
 rw [col_append]
 exact (congr (congrArg Option.or e1) e2).trans ((col_append z xs ys).symm.trans ((he z).trans e3.symm))
theorem paint_parts {l : List Nd} (ms : List Int) (sv : Nat → Int) {f m t : Int} {is : List Int} (h : InRow l 0 is) (h0 : 0 ≤ f) (hfm : f ≤ m) (hmt : m ≤ t) (ht : t ≤ (ndAt l 0).hi) :
 joinF (meltF (strF l ms sv f m 0 is)) (meltF (strF l ms sv m t 0 is)) = meltF (strF l ms sv f t 0 is) := by
 refine join_melt (strF_whole ms sv h h0 hfm (by omega)) (strF_whole ms sv h (by omega) hmt ht) (strF_whole ms sv h h0 (by omega) ht) fun z => ?_
 rw [col_append, col_strF, col_strF, col_strF]
 by_cases a : f ≤ z <;> by_cases b : z < m <;> by_cases c : m ≤ z <;> by_cases d : z < t <;> simp [a, b, c, d] <;> omega
theorem paint_parts' {l : List Nd} (hT : Tree l) (ms : List Int) (sv : Nat → Int) {f m t : Int} (h0 : 0 ≤ f) (hfm : f ≤ m) (hmt : m ≤ t) (ht : t ≤ (ndAt l 0).hi) :
 joinF (meltF (strF l ms sv f m 0 (leavesF 0 l))) (meltF (strF l ms sv m t 0 (leavesF 0 l))) = meltF (strF l ms sv f t 0 (leavesF 0 l)) :=
 paint_parts ms sv (leaves_row hT) h0 hfm hmt ht
theorem gap_one {x : Int} {ps : List Pn} (h : Gap x (x + 1) ps) : ∃ st mr, ps = [⟨x, x + 1, st, mr⟩] ∧ col x ps = some (st, mr) := by
 cases ps with
 | nil =>
  have h' : x = x + 1 := h
  omega
 | cons p ps =>
  obtain ⟨p0, p1, p2, p3⟩ := p
  obtain ⟨h1, h2, h3⟩ := h
  dsimp only at h1 h2 h3
  subst h1
  have hle := h3.le
  obtain rfl : p1 = p0 + 1 := by omega
  cases ps with
  | nil =>
   refine ⟨p2, p3, rfl, ?_⟩
   exact col_at (p := ⟨p0, p0 + 1, p2, p3⟩) (by dsimp only; omega)
  | cons q qs =>
   obtain ⟨q1, q2, q3⟩ := h3
   have := q3.le
   omega
theorem melt_gap {x z : Int} {xs : List Pn} (hx : Gap x z xs) : Gap x z (meltF xs) := (meltF_right (x := x) (y := x) (out := []) rfl trivial hx).1
theorem col_some {z a b : Int} {ps : List Pn} (h : Gap a b ps) (h1 : a ≤ z) (h2 : z < b) : ∃ (j : Nat) (p : Pn), ps[j]? = some p ∧ hasB z p = true ∧ col z ps = some (p.st, p.mr) ∧ ∀ (i : Nat) (q : Pn), ps[i]? = some q → hasB z q = true → i = j := by
 induction ps generalizing a with
 | nil =>
  have h' : a = b := h
  omega
 | cons p ps ih =>
  obtain ⟨g1, g2, g3⟩ := h
  by_cases hz : z < p.hi
  ·have hb : hasB z p = true := by simp [hasB]; omega
   refine ⟨0, p, rfl, hb, by simp [col, hb], fun i q hi hq => ?_⟩
   cases i with
   | zero => rfl
   | succ i =>
    exfalso
    have hm : q ∈ ps := List.mem_of_getElem? (by simpa using hi)
    have low : ∀ (qs : List Pn) (c : Int), Gap c b qs → z < c → ∀ q ∈ qs, hasB z q = false := by
     intro qs
     induction qs with
     | nil => intro c _ _ q hq; cases hq
     | cons r qs ih2 =>
      rintro c ⟨r1, r2, r3⟩ hc q hq
      rcases List.mem_cons.1 hq with rfl | hq
      ·simp [hasB]; omega
      ·exact ih2 r.hi r3 (by omega) q hq
    rw [low ps p.hi g3 hz q hm] at hq
    cases hq
  ·have hb : hasB z p = false := by simp [hasB]; omega
   obtain ⟨j, q, e1, e2, e3, e4⟩ := ih g3 (by omega)
   refine ⟨j + 1, q, by simpa using e1, e2, by simp [col, hb, e3], fun i r hi hr => ?_⟩
   cases i with
   | zero =>
    simp at hi
    subst hi
    rw [hb] at hr
    cases hr
   | succ i => rw [e4 i r (by simpa using hi) hr]
section
variable {l : List Nd} (T : Tree l) (ms : List Int) (sv : Nat → Int)
include T
theorem PF_gap {f t : Int} (h0 : 0 ≤ f) (hft : f ≤ t) (ht : t ≤ (ndAt l 0).hi) : Gap f t (PF l ms sv f t) := melt_gap (strF_whole ms sv (leaves_row T) h0 hft ht)
theorem PF_col {f t z : Int} (h0 : 0 ≤ f) (hft : f ≤ t) (ht : t ≤ (ndAt l 0).hi) (h1 : f ≤ z) (h2 : z < t) : col z (PF l ms sv f t) = colT l ms sv z 0 (leavesF 0 l) := by
 unfold PF
 rw [meltF_col z (strF_whole ms sv (leaves_row T) h0 hft ht), col_strF, if_pos ⟨h1, h2⟩]
theorem PF_nil {f : Int} (h0 : 0 ≤ f) (ht : f ≤ (ndAt l 0).hi) : PF l ms sv f f = [] := by
 have h := PF_gap T ms sv h0 (Int.le_refl f) ht
 cases hp : PF l ms sv f f with
 | nil => rfl
 | cons p ps =>
  rw [hp] at h
  obtain ⟨h1, h2, h3⟩ := h
  have := h3.le
  omega
theorem few_one {z t : Int} (h0 : 0 ≤ z) (hz : z < t) (ht : t ≤ (ndAt l 0).hi) : ∃ (st mr : Int), PF l ms sv z (z + 1) = [⟨z, z + 1, st, mr⟩] ∧ colT l ms sv z 0 (leavesF 0 l) = some (st, mr) ∧ ∃ (j : Nat) (p : Pn), (PF l ms sv 0 t)[j]? = some p ∧ hasB z p = true ∧ p.st = st ∧ p.mr = mr ∧ ∀ (i : Nat) (q : Pn), (PF l ms sv 0 t)[i]? = some q → hasB z q = true → i = j := by
 obtain ⟨st, mr, h1, h2⟩ := gap_one (PF_gap T ms sv h0 (by omega) (by omega : z + 1 ≤ (ndAt l 0).hi))
 rw [PF_col T ms sv h0 (by omega) (by omega) (Int.le_refl z) (by omega)] at h2
 obtain ⟨j, p, h3, h4, h5, h6⟩ := col_some (PF_gap T ms sv (Int.le_refl 0) (by omega) ht) h0 hz
 rw [PF_col T ms sv (Int.le_refl 0) (by omega) ht h0 hz, h2] at h5
 injection h5 with h5
 injection h5 with h5 h7
 exact ⟨st, mr, h1, h2, j, p, h3, h4, h5.symm, h7.symm, h6⟩
end
end Go.Proofs.YthpmncdfaggkiaaGreat
namespace Go.Proofs.YthpmncdfaggkiaaGreat
open Go.RowKit
attribute [local go_sem] more_drew more_drewN more_size more_cell more_frozen more_setCell drew_more drewN_more lt_add_r lt_add_r2 lt_add_r3 lt_add_r4 lt_add_r5 lt_add_r6 lt_add_r7 lt_add_r8 lt_add_r9 lt_add_r10 lt_self_r lt_self_r2
set_option maxRecDepth 100000 in
set_option maxHeartbeats 4000000 in
theorem paintFew_any (A : Option Addr) (c : Nat) (ps : List Prt) (first : Int) (B : Option Addr) (ss : List Sty) (cs : Nat) (W : World) (hP : Prts W A ps) (hO : PrtsOk W ps) (hl : ps.length ≤ c) (hc : c ≤ 9223372036854775807) (hA : A = none → c = 0) (hk : KidsLt ps)
 (hS : Styles W B ss) (hSO : StylesOk W ss) (bs : ss.length ≤ 9223372036854775807) :
 Calls Tryz.prog 9 #[.slice A ps.length c, .int .i64 first, .slice B ss.length cs] W fun e w' => e = .returned (.bool true) ∧ Ext W w' := by
 have HP := zh hP
 have HO := zh hO
 have HK := zh hk
 have HA := zh hA
 have HS := zh hS
 have HSO := zh hSO
 clear hP hO hk hA hS hSO
 go_enter Tryz.func9, Tryz.ntmps9
 go_wp2_with fail
 refine (lives28_any W).mono ?_
 rintro e w1 ⟨rfl, hx1⟩
 have HX1 := zh hx1
 clear hx1
 go_wp2_with fail
 refine (light28_any A c ps B ss cs w1 (HS.out.ext HX1.out) (HSO.out.ext HX1.out) bs (HP.out.ext HX1.out) (by omega) HK.out).mono ?_
 rintro e w2 ⟨bl, rfl, hbl, hx2⟩
 have HX2 := zh (HX1.out.trans hx2)
 clear hx2
 cases bl with
 | false =>
  go_wp2_with fail
  go_ret
  exact ⟨rfl, HX2.out⟩
 | true =>
  have hL := (hbl rfl).1
  have PSW : Hid (PS W A c ps) := ⟨HP.out, HO.out, hL.few (by omega), hl, hc, HA.out⟩
  have hlen := hL.len
  have HLP := zh hL.places
  clear hbl hL HP HO HK
  by_cases T : Tree (nds ps)
  ·have hp0 := T.pos
   rw [nds_length] at hp0
   obtain ⟨p0, hpp0⟩ : ∃ p, ps[0]? = some p := ⟨_, List.getElem?_eq_getElem hp0⟩
   have HT := zh T
   have HPP0 := zh hpp0
   have hbd := (HLP.out p0 (List.mem_of_getElem? hpp0)).2.1
   have hb0 := (T.bare 0 _ (nds_get hpp0)).1
   have hlh : p0.nd.lo ≤ p0.nd.hi := hb0.2.2.2.1
   clear T hpp0 hb0
   by_cases hk0 : p0.nd.lo = 0 ∧ p0.nd.hi ≤ 300
   ·obtain ⟨hk0, hk9⟩ := hk0
    have q9 : decide (300 < p0.nd.hi) = false := decide_eq_false (by omega)
    go_wp2_with fail
    refine (rcheck_ok (PSW.out.ext HX2.out) HT.out).mono ?_
    rintro e w3 ⟨rfl, hx3⟩
    have HX3 := zh (HX2.out.trans hx3)
    obtain ⟨bA, off, hA', hbA, hcell⟩ := (PSW.out.ext HX3.out).parts (by omega)
    subst hA'
    obtain ⟨_, _, d2, _, d4, _⟩ := hcell 0 p0 HPP0.out
    simp only [Nat.zero_mul, Nat.add_zero] at d2 d4
    rw [hk0] at d2 hlh
    have HK0 := zh hk0
    clear hcell hx3 hk0
    have MK := zh (marks_any (some ⟨bA, off, none⟩) c ps 1 first w3 (PSW.out.ext HX3.out) HT.out (by omega))
    go_wp2_with fail
    refine MK.out.mono ?_
    rintro e w4 ⟨us, hul, ⟨M, cm, rfl, hom, hx4⟩, _⟩
    have HX4 := zh (HX3.out.trans hx4)
    have HM := zh hom
    obtain ⟨_, hmc, hmm, _⟩ := hom.ints
    unfold maxLen at hmm
    have HUL := zh hul
    obtain ⟨sv, hsv⟩ := leafs_are (cs := cs) (HS.out.ext HX4.out) (HSO.out.ext HX4.out) bs (PSW.out.ext HX4.out) HT.out
    have ND0 : ndAt (nds ps) 0 = p0.nd := by unfold ndAt; rw [show (0 : Int).toNat = 0 from rfl, nds_get HPP0.out]; rfl
    have OF : Hid (∀ (V : World) (f t : Int), Ext w4 V → 0 ≤ f → f ≤ t → t ≤ p0.nd.hi → Calls Tryz.prog 41 #[.slice (some ⟨bA, off, none⟩) ps.length c, .slice M ps.length cm, .slice B ss.length cs, .int .i64 f, .int .i64 t] V (OfRet V (PF (nds ps) us sv f t))) := zh (fun V f t x h1 h2 h3 => by
     have := of28_any (some ⟨bA, off, none⟩) c ps M cm us B ss.length cs sv f t p0 V (PSW.out.ext (HX4.out.trans x)) HT.out (hom.ints.1.ext x) hul hmc hmm (fun i U hi hU => hsv i U hi (x.below.trans (hU.mono x.size))) HPP0.out HK0.out h1 h2 h3
     rwa [hul] at this)
    have LN : Hid (∀ f t : Int, (PF (nds ps) us sv f t).length ≤ 1000000) := zh (fun f t => PF_len ps (by omega) us sv f t)
    rw [hul] at hmc ⊢
    have CELL0 : Hid (∀ V, Ext w4 V → V.cell? ⟨bA, off + 4, none⟩ = some (.int .i64 p0.nd.hi) ∧ bA < V.heap.size) := zh (fun V x => by
     obtain ⟨b', off', hAA, hb', hcell⟩ := (PSW.out.ext (HX4.out.trans x)).parts (by omega)
     injection hAA with hAA
     injection hAA with ea eb
     subst ea eb
     obtain ⟨_, _, _, _, d4, _⟩ := hcell 0 p0 HPP0.out
     simp only [Nat.zero_mul, Nat.add_zero] at d4
     exact ⟨d4, hb'⟩)
    obtain ⟨h0, hh0⟩ : ∃ h0 : Nat, p0.nd.hi = (h0 : Int) := ⟨p0.nd.hi.toNat, by omega⟩
    have FEW1 : Hid (∀ n : Nat, n < h0 → ∃ (st mr : Int), PF (nds ps) us sv n (n + 1) = [⟨n, n + 1, st, mr⟩] ∧ ∃ (j : Nat) (p : Pn), (PF (nds ps) us sv 0 h0)[j]? = some p ∧ hasB n p = true ∧ p.st = st ∧ p.mr = mr ∧ ∀ (i : Nat) (q : Pn), (PF (nds ps) us sv 0 h0)[i]? = some q → hasB n q = true → i = j) := zh (fun n hn => by
     obtain ⟨st, mr, e1, _, e3⟩ := few_one HT.out us sv (z := n) (t := h0) (by omega) (by omega) (by rw [ND0, hh0]; exact Int.le_refl _)
     exact ⟨st, mr, e1, e3⟩)
    have JN : Hid (∀ n : Nat, n < h0 → joinF (PF (nds ps) us sv 0 n) (PF (nds ps) us sv n (n + 1)) = PF (nds ps) us sv 0 ((n + 1 : Nat) : Int)) := zh (fun n hn => paint_parts' HT.out us sv (Int.le_refl 0) (by omega) (by omega) (by rw [ND0, hh0]; omega))
    have NIL : Hid (PF (nds ps) us sv 0 ((0 : Nat) : Int) = []) := zh (PF_nil HT.out us sv (Int.le_refl 0) (by rw [ND0, hh0]; omega))
    have LNL : Hid ((PF (nds ps) us sv 0 h0).length ≤ 3 * (leavesF 0 (nds ps)).length + 1) := zh (paint_few _ _ _ _ _ _ _)
    have LVL : Hid ((leavesF 0 (nds ps)).length ≤ 1000) := zh (by have := leavesF_len (nds ps) 0; rw [nds_length] at this; omega)
    rw [hh0] at OF CELL0 hk9
    obtain ⟨d4, hb4⟩ := CELL0.out w4 (Ext.refl _)
    have O1 := zh (OF.out w4 0 h0 (Ext.refl _) (Int.le_refl 0) (by omega) (Int.le_refl _))
    have LZ := LN.out 0 h0
    obtain ⟨Z, hZ⟩ : ∃ X, PF (nds ps) us sv 0 h0 = X := ⟨_, rfl⟩
    have HZ := zh hZ
    rw [hZ] at O1 LZ LNL FEW1
    clear hh0 hx4 hsv hom hul MK hZ ND0 hlh hbd
    go_wp2_with fail
    refine O1.out.mono ?_
    rintro e w5 ⟨vz, rfl, hrz, hx5⟩
    obtain ⟨Az, cz, rfl, hPz, hlz, hmz, hnz⟩ := hrz.read
    have HPZ := zh hPz
    have HX5 := zh hx5
    clear hrz hPz hx5 O1 d4 hb4
    unfold maxLen at hmz
    have RL := zh (rLeaves_yes (PSW.out.ext (HX4.out.trans HX5.out)) HT.out)
    have hz1 : Z.length ≤ 3 * (leavesF 0 (nds ps)).length + 1 := LNL.out
    have hz2 : (leavesF 0 (nds ps)).length ≤ 1000 := LVL.out
    obtain ⟨ln, hln⟩ : ∃ n, (leavesF 0 (nds ps)).length = n := ⟨_, rfl⟩
    rw [hln] at hz1 hz2
    have HLN := zh hln
    clear hln LVL LNL
    go_wp2_with fail
    refine RL.out.mono ?_
    rintro e w6 ⟨Al, cl, rfl, ho6, hx6⟩
    have HX6 := zh (HX5.out.trans hx6)
    have HPZ6 := zh (HPZ.out.ext hx6)
    rw [HLN.out]
    clear ho6 hx6 RL HPZ HX5
    go_wp2_with fail
    go_loopw [10, 11] (fun vv av wr => ∃ (n cx : Nat) (Ax : Option Addr) (X : List Pn), n ≤ h0 ∧ av = .int .i64 n ∧ vv = .slice Ax X.length cx ∧ X.length ≤ cx ∧ cx ≤ 9223372036854775807 ∧ X.length ≤ 1000000 ∧ Hid (X = PF (nds ps) us sv 0 (n : Int)) ∧ Hid (Pns wr Ax X) ∧ Hid (Ax = none → cx = 0) ∧ Hid (Ext w6 wr)) (fun _ av _ => h0 - (intOf av).toNat)
    case atStart => exact ⟨0, 0, none, [], Nat.zero_le _, rfl, rfl, Nat.le_refl _, by omega, by simp, zh NIL.out.symm, zh (fun h => by simp at h), zh (fun _ => rfl), zh (Ext.refl _)⟩
    case round =>
     obtain ⟨n, cx, Ax, X, hn, rfl, rfl, hxc, hcx, hxl, he, hP, HN1, hx⟩ := hrel
     have HX4W := zh (HX6.out.trans hx.out)
     obtain ⟨d4, hb4⟩ := CELL0.out wr HX4W.out
     have HPZW := zh (HPZ6.out.ext hx.out)
     by_cases hlt : n < h0
     ·obtain ⟨st, mr, hone, j, ⟨q0, q1, q2, q3⟩, hj, hb, hst, hmr, huq⟩ := FEW1.out n hlt
      dsimp only at hst hmr
      subst hst hmr
      have O2 := OF.out wr n (n + 1) HX4W.out (by omega) (by omega) (by omega)
      rw [hone] at O2
      have JN1 := JN.out n hlt
      rw [hone, ← he.out] at JN1
      have HO2 := zh O2
      have HJN := zh JN1
      have HJ := zh hj
      have HB := zh hb
      have HUQ := zh huq
      clear O2 JN1 hone hj hb huq
      go_wp2_with fail
      refine HO2.out.mono ?_
      rintro e w8 ⟨vo, rfl, hro, hx8⟩
      obtain ⟨Ao, co, rfl, hPo, hlo, hmo, hno⟩ := hro.read
      have HPO := zh hPo
      have HX8 := zh (hx.out.trans hx8)
      have HPX8 := zh (hP.out.ext hx8)
      have HPZ8 := zh (HPZW.out.ext hx8)
      have HNO := zh hno
      simp only [List.length_cons, List.length_nil, Nat.zero_add] at hlo
      clear hro hPo hx8 HO2 d4 hb4 hno
      unfold maxLen at hmo
      have AT := zh (at_any28 Az cz Z n w8 HPZ8.out LZ)
      go_wp2_with fail
      refine AT.out.mono ?_
      rintro e w9 ⟨hx9, hret⟩
      have hret2 : e = .returned (.tuple #[pnV ⟨q0, q1, q2, q3⟩, .bool true]) := by
       rcases hret with ⟨j', p', h1, h2, _, h4⟩ | ⟨h1, _⟩
       ·rw [HUQ.out j' p' h1 h2, HJ.out] at h1
        injection h1 with h1
        rw [h4, ← h1]
       ·have := h1 _ (List.mem_of_getElem? HJ.out)
        rw [HB.out] at this
        cases this
      subst hret2
      unfold pnV
      dsimp only
      have HX9 := zh (HX8.out.trans hx9)
      have HPX9 := zh (HPX8.out.ext hx9)
      have HPO9 := zh (HPO.out.ext hx9)
      clear hret hx9 AT HX8 HPX8 HPO HPZ8
      go_upto_region 15 with fail
      obtain ⟨xb, hxb⟩ : ∃ n, w9.heap.size = n := ⟨_, rfl⟩
      obtain ⟨W10, hW10⟩ : ∃ V, w9.alloc (.cells #[.int .i64 q0, .int .i64 q1, .int .i64 q2, .int .i64 q3] 73) = V := ⟨_, rfl⟩
      have X10 : Ext w9 W10 := by rw [← hW10]; exact (by repeat first | exact xr _ | refine xa ?_ _ | refine xm ?_ _ _ | refine xd ?_ | refine xn ?_ _ | refine xs ?_ (by simp <;> omega) _)
      have B10 : W10.heap[xb]? = some (.cells #[.int .i64 q0, .int .i64 q1, .int .i64 q2, .int .i64 q3] 73) := by rw [← hW10, ← hxb]; exact heap_alloc_new _ _
      have HX10 := zh (HX9.out.trans X10)
      have HPX10 := zh (HPX9.out.ext X10)
      have HPO10 := zh (HPO9.out.ext X10)
      have HB10 := zh B10
      rw [hW10, hxb]
      clear hW10 hxb X10 B10 HPX9 HPO9 HX9
      obtain ⟨bo, oo, hAo, hbo, hco⟩ := HPO10.out (by simp)
      subst hAo
      obtain ⟨c0, c1, c2, c3⟩ := hco 0 _ rfl
      simp only [Nat.zero_mul, Nat.add_zero] at c0 c1 c2 c3
      have k2 := cell_of_row _ _ 2 _ _ _ HB10.out
      have k3 := cell_of_row _ _ 3 _ _ _ HB10.out
      have kl := lt_of_heap HB10.out
      simp at k2 k3
      clear hco c0 c1
      go_upto_region 15 with fail
      refine wp_region_btw (29) (pures_bt [0, 1, 2, 3, 4, 5, 6, 7, 8, 9, 10, 11, 12, 13, 14, 16] (softs_bt [15, 17, 18, 19, 20, 21, 22, 23, 24, 25, 26, 27, 28] .fin)) (by kernel_rfl) (by kernel_rfl) ?_
      (refine btw_pures _ fun K hK => ?_); (simp only [pick, nthC]); (repeat (go_big_quiet_step (fail))); (refine wpQuiet_nil (hK _ ?_)); (clear hK K)
      (refine btw_softs _ fun K hK => ?_); (simp only [pick, nthC]); (repeat (go_big_quiet_step (fail))); (refine wpQuiet_nil (hK _ ?_)); (clear hK K)
      (refine btw_fin ?_)
      clear k2 k3 kl c2 c3 hbo
      have HJ10 := zh (join28_any Ax (some ⟨bo, oo, none⟩) cx co X [⟨n, n + 1, q2, q3⟩] W10.drew (HPX10.out.ext (by repeat first | exact xr _ | refine xa ?_ _ | refine xm ?_ _ _ | refine xd ?_ | refine xn ?_ _ | refine xs ?_ (by simp <;> omega) _)) hxl HN1.out hxc (HPO10.out.ext (by repeat first | exact xr _ | refine xa ?_ _ | refine xm ?_ _ _ | refine xd ?_ | refine xn ?_ _ | refine xs ?_ (by simp <;> omega) _)) (by simp) (fun h => by cases h) hlo)
      rw [HJN.out] at HJ10
      simp only [List.length_cons, List.length_nil, Nat.zero_add] at HJ10
      go_wp2_with fail
      refine HJ10.out.mono ?_
      rintro e w11 ⟨vj, rfl, hrj, hx11⟩
      obtain ⟨Aj, cj, rfl, hPj, hlj, hmj, hnj⟩ := hrj.read
      have HPJ := zh hPj
      have HNJ := zh hnj
      have HX11 : Hid (Ext w6 w11) := zh (HX10.out.trans (((by repeat first | exact xr _ | refine xa ?_ _ | refine xm ?_ _ _ | refine xd ?_ | refine xn ?_ _ | refine xs ?_ (by simp <;> omega) _) : Ext W10 W10.drew).trans hx11))
      have hlz := LN.out 0 ((n + 1 : Nat) : Int)
      unfold maxLen at hmj
      clear hrj hPj hx11 hnj HJ10 HX10 HPX10 HPO10 HB10
      go_wp2_with fail
      go_roundw
      case rel => exact ⟨n + 1, cj, Aj, _, by omega, by go_num, rfl, hlj, by omega, hlz, zh rfl, HPJ, HNJ, HX11⟩
      case measure => simp [intOf]; omega
     ·obtain rfl : n = h0 := by omega
      have q1 : decide ((n : Int) < (n : Int)) = false := decide_eq_false (by omega)
      have HXZ : Hid (X = Z) := zh (he.out.trans HZ.out)
      have SM := same_any28 Ax Az X Z cx cz wr hP.out HPZW.out hxl LZ
      rw [decide_eq_true HXZ.out] at SM
      have HSM := zh SM
      clear SM
      go_wp2_with fail
      refine HSM.out.mono ?_
      rintro e w12 ⟨rfl, hx12⟩
      have HX12 := zh (HX4.out.trans (HX4W.out.trans hx12))
      clear hx12
      go_wp2_with fail
      go_ret
      exact ⟨rfl, HX12.out⟩
   ·go_wp2_with fail
    refine (rcheck_ok (PSW.out.ext HX2.out) HT.out).mono ?_
    rintro e w3 ⟨rfl, hx3⟩
    have HX3 := zh (HX2.out.trans hx3)
    obtain ⟨bA, off, hA', hbA, hcell⟩ := (PSW.out.ext HX3.out).parts (by omega)
    subst hA'
    obtain ⟨_, _, d2, _, d4, _⟩ := hcell 0 p0 HPP0.out
    simp only [Nat.zero_mul, Nat.add_zero] at d2 d4
    clear hcell hx3
    by_cases hk1 : p0.nd.lo = 0
    ·have hk9 : ¬ p0.nd.hi ≤ 300 := by omega
     have q9 : decide (300 < p0.nd.hi) = true := decide_eq_true (by omega)
     rw [hk1] at d2
     clear hk0 hk1
     go_wp2_with fail
     go_ret
     exact ⟨rfl, HX3.out⟩
    ·have q1 : decide (p0.nd.lo = 0) = false := decide_eq_false hk1
     have q2 : (p0.nd.lo != 0) = true := by simpa using hk1
     clear hk0 hk1
     go_wp2_with fail
     go_ret
     exact ⟨rfl, HX3.out⟩
  ·have HT := zh T
   clear T
   go_wp2_with fail
   refine (rcheck_no (PSW.out.ext HX2.out) (fun h => HT.out h)).mono ?_
   rintro e w3 ⟨rfl, hx3⟩
   have HX3 := zh (HX2.out.trans hx3)
   clear hx3
   go_wp2_with fail
   go_ret
   exact ⟨rfl, HX3.out⟩
end Go.Proofs.YthpmncdfaggkiaaGreat
