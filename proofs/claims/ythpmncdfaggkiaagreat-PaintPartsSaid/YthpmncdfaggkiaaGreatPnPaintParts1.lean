/- PnPaintParts: texts that the proof rests on, part 1. -/
import Derived.Test.YthpmncdfaggkiaaGreatCr1
import Derived.Test.YthpmncdfaggkiaaGreatCr10
import Derived.Test.YthpmncdfaggkiaaGreatCr11
import Derived.Test.YthpmncdfaggkiaaGreatCr2
import Derived.Test.YthpmncdfaggkiaaGreatCr3
import Derived.Test.YthpmncdfaggkiaaGreatCr5
import Derived.Test.YthpmncdfaggkiaaGreatCr6
import Derived.Test.YthpmncdfaggkiaaGreatCr7
import Derived.Test.YthpmncdfaggkiaaGreatCr8
import Derived.Test.YthpmncdfaggkiaaGreatCr9
import Derived.Test.YthpmncdfaggkiaaGreatPn1
import Derived.Test.YthpmncdfaggkiaaGreatPn2
import Derived.Test.YthpmncdfaggkiaaGreatPn3
import Derived.Test.YthpmncdfaggkiaaGreatPn4
import Derived.Test.YthpmncdfaggkiaaGreatPn5
import Derived.Laws.Cover1
namespace Go.Proofs.YthpmncdfaggkiaaGreat
open Go.RowKit
attribute [local go_sem] more_drew more_drewN more_size more_cell more_frozen more_setCell drew_more drewN_more lt_add_r lt_add_r2 lt_add_r3 lt_add_r4 lt_add_r5 lt_add_r6 lt_add_r7 lt_add_r8 lt_add_r9 lt_add_r10 lt_self_r lt_self_r2
def chk (tt : Int) : Option Pn → Int → List Pn → Bool
 | _, at_, [] => decide (at_ = tt)
 | pr, at_, p :: ps => decide (p.lo = at_) && decide (at_ < p.hi) && !(match pr with | some q => alikeB q p | none => false) && chk tt (some p) p.hi ps
def prevF (ps : List Pn) : Nat → Option Pn
 | 0 => none
 | j + 1 => ps[j]?
theorem chk_step (tt : Int) (ps : List Pn) (j : Nat) (at_ : Int) (p : Pn) (hp : ps[j]? = some p) : chk tt (prevF ps j) at_ (ps.drop j) = (decide (p.lo = at_) && decide (at_ < p.hi) && !(match prevF ps j with | some q => alikeB q p | none => false) && chk tt (prevF ps (j + 1)) p.hi (ps.drop (j + 1))) := by
 obtain ⟨hl, hx⟩ := List.getElem?_eq_some_iff.1 hp
 rw [List.drop_eq_getElem_cons hl, hx]
 show (_ && _ && _ && _) = _
 rw [show prevF ps (j + 1) = some p from hp]
 try rfl
set_option maxRecDepth 100000 in
set_option maxHeartbeats 3000000 in
theorem check28_any (A : Option Addr) (c : Nat) (ps : List Pn) (f t : Int) (w : World) (hP : Pns w A ps) (hl : ps.length ≤ 1000000) :
 Calls Tryz.prog 47 #[.slice A ps.length c, .int .i64 f, .int .i64 t] w fun e w' => e = .returned (.bool (chk t none f ps)) ∧ Ext w w' := by
 have HP := zh hP
 obtain ⟨R, hR⟩ : ∃ R, chk t none f ps = R := ⟨_, rfl⟩
 have HR0 : Hid (chk t (prevF ps 0) f (ps.drop 0) = R) := zh hR
 rw [hR]
 clear hP hR
 go_enter Tryz.func47, Tryz.ntmps47
 go_wp2_with fail
 go_loopw [7, 13] (fun v7 v13 wr => ∃ (j : Nat) (x : Int), j ≤ ps.length ∧ v13 = .int .i64 j ∧ v7 = .int .i64 x ∧ Hid (chk t (prevF ps j) x (ps.drop j) = R) ∧ Hid (Ext w wr)) (fun _ v13 _ => ps.length - (intOf v13).toNat)
 case atStart => exact ⟨0, f, Nat.zero_le _, rfl, rfl, HR0, zh (Ext.refl _)⟩
 case round =>
  obtain ⟨j, x, hj, rfl, rfl, he, hx⟩ := hrel
  by_cases hlt : j < ps.length
  ·obtain ⟨⟨p0, p1, p2, p3⟩, hp⟩ : ∃ p, ps[j]? = some p := ⟨_, List.getElem?_eq_getElem hlt⟩
   obtain ⟨b, off, hAA, hb, hcell⟩ := (HP.out.ext hx.out) (by omega)
   subst hAA
   obtain ⟨c0, c1, c2, c3⟩ := hcell j _ hp
   dsimp only at c0 c1 c2 c3
   have HST := zh (he.out.symm.trans (chk_step t ps j x _ hp))
   have HPJ := zh hp
   have PV : Hid (0 < j → ∃ q, prevF ps j = some q ∧ ps[j - 1]? = some q) := zh (fun h0 => by
    obtain ⟨k, rfl⟩ : ∃ k, j = k + 1 := ⟨j - 1, by omega⟩
    obtain ⟨q, hq⟩ : ∃ q, ps[k]? = some q := ⟨_, List.getElem?_eq_getElem (by omega)⟩
    exact ⟨q, hq, hq⟩)
   clear hcell hp
   go_upto_region 5 with fail
   obtain ⟨g, hg⟩ : ∃ g, wr.heap.size = g := ⟨_, rfl⟩
   obtain ⟨W4, hW4⟩ : ∃ V, wr.alloc (.cells #[.int .i64 p0, .int .i64 p1, .int .i64 p2, .int .i64 p3] 73) = V := ⟨_, rfl⟩
   have X4 : Ext wr W4 := by rw [← hW4]; exact (by repeat first | exact xr _ | refine xa ?_ _ | refine xm ?_ _ _ | refine xd ?_ | refine xn ?_ _ | refine xs ?_ (by simp <;> omega) _)
   have HP4 : Hid (W4.heap[g]? = some (.cells #[.int .i64 p0, .int .i64 p1, .int .i64 p2, .int .i64 p3] 73)) := zh (by rw [← hW4, ← hg]; exact heap_alloc_new _ _)
   rw [hW4, hg]
   have HX4 := zh (hx.out.trans X4)
   clear hW4 hg X4 c0 c1 c2 c3 hb
   obtain ⟨k0, k1, k2, k3, kl⟩ := pn_cells (p := ⟨p0, p1, p2, p3⟩) HP4.out
   dsimp only at k0 k1 k2 k3
   by_cases h1 : p0 = x
   ·have g1 : decide (p0 = x) = true := decide_eq_true h1
    have g0 : (p0 != x) = false := by simpa using h1
    by_cases h2 : x < p1
    ·have g2 : decide (p1 ≤ x) = false := decide_eq_false (by omega)
     by_cases h0 : 0 < j
     ·have g3 : decide (0 < j) = true := decide_eq_true h0
      obtain ⟨⟨r0, r1, r2, r3⟩, hpr, hq⟩ := PV.out h0
      obtain ⟨va, hva⟩ : ∃ v, alikeB ⟨r0, r1, r2, r3⟩ ⟨p0, p1, p2, p3⟩ = v := ⟨_, rfl⟩
      obtain ⟨b', off', hAA, hb, hcell⟩ := (HP.out.ext HX4.out) (by omega)
      injection hAA with hAA
      injection hAA with ea eb
      subst ea eb
      obtain ⟨c0, c1, c2, c3⟩ := hcell (j - 1) _ hq
      dsimp only at c0 c1 c2 c3
      have hj1 : ((j : Int) - 1) = ((j - 1 : Nat) : Int) := by omega
      have hw1 : IntKind.i64.wrap ((j : Int) - 1) = ((j - 1 : Nat) : Int) := by rw [IntWalk.i64_in _ (by omega)]; omega
      have hlj : j - 1 < ps.length := by omega
      have HQ2 : Hid (R = (!va && chk t (prevF ps (j + 1)) p1 (ps.drop (j + 1)))) := zh (by
       rw [HST.out, hpr]
       show (decide (p0 = x) && decide (x < p1) && !(alikeB ⟨r0, r1, r2, r3⟩ ⟨p0, p1, p2, p3⟩) && _) = _
       rw [g1, decide_eq_true h2, hva]
       rfl)
      clear hcell hq hpr h0 h1 h2
      cases va with
      | true =>
       have HRES : Hid (R = false) := zh (by rw [HQ2.out]; rfl)
       refine wp_region_bt (23) (pures_bt [0, 2] (softs_bt [1, 3, 4, 5, 6, 7, 8, 9, 10, 11, 12, 13, 14, 15, 16, 17, 18, 19] (.step 20 (pures_bt [21, 22] .fin)))) (by kernel_rfl) (by kernel_rfl) ?_
       refine bt_pures _ fun K hK => ?_; simp only [pick, nthC]; (repeat go_big_quiet_step (fail)); refine wpQuiet_nil (hK _ ?_); clear hK K
       refine bt_softs _ fun K hK => ?_; simp only [pick, nthC]; (repeat go_big_quiet_step (fail)); refine wpQuiet_nil (hK _ ?_); clear hK K
       refine bt_step fun next hn => ?_; simp only [pick, nthC]
       go_wp2_with fail
       refine (alike_any28 ⟨r0, r1, r2, r3⟩ ⟨p0, p1, p2, p3⟩ _).mono ?_
       rintro e w9 ⟨rfl, hx9⟩
       have X9 : Hid (Ext W4 w9) := zh (((by repeat first | exact xr _ | refine xa ?_ _ | refine xm ?_ _ _ | refine xd ?_ | refine xn ?_ _ | refine xs ?_ (by simp <;> omega) _) : Ext W4 W4.drew).trans hx9)
       rw [hva]
       clear hx9 hva
       go_wp2_with fail
       refine segQ_mk (fun _ => laid X9.out) (hn _ _ ?_)
       clear hn next
       refine bt_pures _ fun K hK => ?_; simp only [pick, nthC]; (repeat go_big_quiet_step (fail)); refine wpQuiet_nil (hK _ ?_); clear hK K
       (refine bt_fin ?_)
       go_wp2_with fail
       go_ret
       exact ⟨ret_bool (by rw [HRES.out]), HX4.out.trans X9.out⟩
      | false =>
       have HNX : Hid (chk t (prevF ps (j + 1)) p1 (ps.drop (j + 1)) = R) := zh (by rw [HQ2.out]; rfl)
       refine wp_region_bt (23) (pures_bt [0, 2] (softs_bt [1, 3, 4, 5, 6, 7, 8, 9, 10, 11, 12, 13, 14, 15, 16, 17, 18, 19] (.step 20 (pures_bt [21, 22] .fin)))) (by kernel_rfl) (by kernel_rfl) ?_
       refine bt_pures _ fun K hK => ?_; simp only [pick, nthC]; (repeat go_big_quiet_step (fail)); refine wpQuiet_nil (hK _ ?_); clear hK K
       refine bt_softs _ fun K hK => ?_; simp only [pick, nthC]; (repeat go_big_quiet_step (fail)); refine wpQuiet_nil (hK _ ?_); clear hK K
       refine bt_step fun next hn => ?_; simp only [pick, nthC]
       go_wp2_with fail
       refine (alike_any28 ⟨r0, r1, r2, r3⟩ ⟨p0, p1, p2, p3⟩ _).mono ?_
       rintro e w9 ⟨rfl, hx9⟩
       have X9 : Hid (Ext W4 w9) := zh (((by repeat first | exact xr _ | refine xa ?_ _ | refine xm ?_ _ _ | refine xd ?_ | refine xn ?_ _ | refine xs ?_ (by simp <;> omega) _) : Ext W4 W4.drew).trans hx9)
       rw [hva]
       clear hx9 hva
       go_wp2_with fail
       refine segQ_mk (fun _ => laid X9.out) (hn _ _ ?_)
       clear hn next
       refine bt_pures _ fun K hK => ?_; simp only [pick, nthC]; (repeat go_big_quiet_step (fail)); refine wpQuiet_nil (hK _ ?_); clear hK K
       (refine bt_fin ?_)
       obtain ⟨k0, k1, k2, k3, kl⟩ := pn_cells (p := ⟨p0, p1, p2, p3⟩) (ext_block HP4.out X9.out)
       dsimp only at k0 k1 k2 k3
       go_wp2_with fail
       go_roundw
       case rel => exact ⟨j + 1, p1, by omega, by go_num, rfl, HNX, zh (HX4.out.trans X9.out)⟩
       case measure => simp [intOf]; omega
     ·obtain rfl : j = 0 := by omega
      have HNX : Hid (chk t (prevF ps (0 + 1)) p1 (ps.drop (0 + 1)) = R) := zh (by
       rw [HST.out]
       show _ = (decide (p0 = x) && decide (x < p1) && true && _)
       rw [g1, decide_eq_true h2]
       rfl)
      clear h0 h1 h2
      simp only [Int.natCast_zero]
      refine wp_region_bt (23) (pures_bt [0, 2] (softs_bt [1, 3, 4, 5, 6, 7, 8, 9, 10, 11, 12, 13, 14, 15, 16, 17, 18, 19] (.step 20 (pures_bt [21, 22] .fin)))) (by kernel_rfl) (by kernel_rfl) ?_
      refine bt_pures _ fun K hK => ?_; simp only [pick, nthC]; (repeat go_big_quiet_step (fail)); refine wpQuiet_nil (hK _ ?_); clear hK K
      refine bt_softs _ fun K hK => ?_; simp only [pick, nthC]; (repeat go_big_quiet_step (fail)); refine wpQuiet_nil (hK _ ?_); clear hK K
      refine bt_step fun next hn => ?_; simp only [pick, nthC]
      go_wp2_with fail
      have X9 : Hid (Ext W4 W4.drew) := zh (by repeat first | exact xr _ | refine xa ?_ _ | refine xm ?_ _ _ | refine xd ?_ | refine xn ?_ _ | refine xs ?_ (by simp <;> omega) _)
      refine segQ_mk (fun _ => laid X9.out) (hn _ _ ?_)
      clear hn next
      refine bt_pures _ fun K hK => ?_; simp only [pick, nthC]; (repeat go_big_quiet_step (fail)); refine wpQuiet_nil (hK _ ?_); clear hK K
      (refine bt_fin ?_)
      obtain ⟨k0, k1, k2, k3, kl⟩ := pn_cells (p := ⟨p0, p1, p2, p3⟩) (ext_block HP4.out X9.out)
      dsimp only at k0 k1 k2 k3
      go_wp2_with fail
      go_roundw
      case rel => exact ⟨0 + 1, p1, by omega, by go_num, rfl, HNX, zh (HX4.out.trans X9.out)⟩
      case measure => simp [intOf]; omega
    ·have g2 : decide (p1 ≤ x) = true := decide_eq_true (by omega)
     have HRES : Hid (R = false) := zh (by
      rw [HST.out]
      show (decide (p0 = x) && decide (x < p1) && _ && _) = false
      rw [decide_eq_false h2]
      simp)
     clear h1 h2
     refine wp_region_bt (23) (pures_bt [0, 2] (softs_bt [1, 3, 4, 5, 6, 7, 8, 9, 10, 11, 12, 13, 14, 15, 16, 17, 18, 19] (.step 20 (pures_bt [21, 22] .fin)))) (by kernel_rfl) (by kernel_rfl) ?_
     refine bt_pures _ fun K hK => ?_; simp only [pick, nthC]; (repeat go_big_quiet_step (fail)); refine wpQuiet_nil (hK _ ?_); clear hK K
     refine bt_softs _ fun K hK => ?_; simp only [pick, nthC]; (repeat go_big_quiet_step (fail)); refine wpQuiet_nil (hK _ ?_); clear hK K
     refine bt_step fun next hn => ?_; simp only [pick, nthC]
     go_wp2_with fail
     have X9 : Hid (Ext W4 W4.drew) := zh (by repeat first | exact xr _ | refine xa ?_ _ | refine xm ?_ _ _ | refine xd ?_ | refine xn ?_ _ | refine xs ?_ (by simp <;> omega) _)
     refine segQ_mk (fun _ => laid X9.out) (hn _ _ ?_)
     clear hn next
     refine bt_pures _ fun K hK => ?_; simp only [pick, nthC]; (repeat go_big_quiet_step (fail)); refine wpQuiet_nil (hK _ ?_); clear hK K
     (refine bt_fin ?_)
     go_wp2_with fail
     go_ret
     exact ⟨ret_bool (by rw [HRES.out]), HX4.out.trans X9.out⟩
   ·have g1 : decide (p0 = x) = false := decide_eq_false h1
    have g0 : (p0 != x) = true := by simpa using h1
    have HRES : Hid (R = false) := zh (by
     rw [HST.out]
     show (decide (p0 = x) && _ && _ && _) = false
     rw [g1]
     rfl)
    clear h1
    refine wp_region_bt (23) (pures_bt [0, 2] (softs_bt [1, 3, 4, 5, 6, 7, 8, 9, 10, 11, 12, 13, 14, 15, 16, 17, 18, 19] (.step 20 (pures_bt [21, 22] .fin)))) (by kernel_rfl) (by kernel_rfl) ?_
    refine bt_pures _ fun K hK => ?_; simp only [pick, nthC]; (repeat go_big_quiet_step (fail)); refine wpQuiet_nil (hK _ ?_); clear hK K
    refine bt_softs _ fun K hK => ?_; simp only [pick, nthC]; (repeat go_big_quiet_step (fail)); refine wpQuiet_nil (hK _ ?_); clear hK K
    refine bt_step fun next hn => ?_; simp only [pick, nthC]
    go_wp2_with fail
    have X9 : Hid (Ext W4 W4.drew) := zh (by repeat first | exact xr _ | refine xa ?_ _ | refine xm ?_ _ _ | refine xd ?_ | refine xn ?_ _ | refine xs ?_ (by simp <;> omega) _)
    refine segQ_mk (fun _ => laid X9.out) (hn _ _ ?_)
    clear hn next
    refine bt_pures _ fun K hK => ?_; simp only [pick, nthC]; (repeat go_big_quiet_step (fail)); refine wpQuiet_nil (hK _ ?_); clear hK K
    (refine bt_fin ?_)
    go_wp2_with fail
    go_ret
    exact ⟨ret_bool (by rw [HRES.out]), HX4.out.trans X9.out⟩
  ·obtain rfl : j = ps.length := by omega
   have HE : Hid (R = decide (x = t)) := zh (by rw [← he.out, List.drop_eq_nil_of_le (Nat.le_refl _)]; cases prevF ps ps.length <;> rfl)
   go_wp2_with fail
   go_ret
   exact ⟨ret_bool (by rw [HE.out, Bool.eq_iff_iff]; simp), hx.out⟩
theorem rowPn_empty (w : World) (base : Nat) (hb : base ≤ w.heap.size) : RowPn (w.alloc (.cells #[] 73)) base (.slice (some ⟨w.heap.size, 0, none⟩) 0 0) [] :=
 own_lit w base 73 4 w.heap.size 0 #[] rfl hb rfl (by unfold maxLen; omega)
set_option maxRecDepth 100000 in
set_option maxHeartbeats 1000000 in
theorem clone28_any (A : Option Addr) (c : Nat) (ps : List Pn) (w : World) (hP : Pns w A ps) (hl : ps.length ≤ 1000000) (hA : A = none → c = 0) (hlc : ps.length ≤ c) : Calls Tryz.prog 94 #[.slice A ps.length c] w (PaintRet w ps) := by
 have e54 := fun w1 a n c => Lib.run_eql_slice_nil (P := Tryz.prog) w1 69 73 a n c 0 0 Tryz.underlying69
 have HP := zh hP
 have HA := zh hA
 cases A with
 | none =>
  have h0 : ps.length = 0 := by have := hA rfl; omega
  have hps : ps = [] := List.eq_nil_of_length_eq_zero h0
  have HPS := zh hps
  clear hP hA
  go_enter Tryz.func94, Tryz.ntmps94
  go_wp2_with fail
  go_ret
  exact ⟨_, rfl, RowPn.nil _ _, (by repeat first | exact xr _ | refine xa ?_ _ | refine xm ?_ _ _ | refine xd ?_ | refine xn ?_ _ | refine xs ?_ (by simp <;> omega) _)⟩
 | some ad =>
  clear hP hA
  go_enter Tryz.func94, Tryz.ntmps94
  go_wp2_with (at_builtin; refine app_paint w (by rfl) (.tmp 5) (.tmp 6) rfl (rowPn_empty w w.heap.size (Nat.le_refl _)) rfl rfl HA.out (HP.out.ext (by repeat first | exact xr _ | refine xa ?_ _ | refine xm ?_ _ _ | refine xd ?_ | refine xn ?_ _ | refine xs ?_ (by simp <;> omega) _)) (by simp) hl (by simp) ?_; intro v7 w7 hr7 hg7 ha7)
  have HR := zh hr7
  have HX : Hid (Ext w w7) := zh (((by repeat first | exact xr _ | refine xa ?_ _ | refine xm ?_ _ _ | refine xd ?_ | refine xn ?_ _ | refine xs ?_ (by simp <;> omega) _) : Ext w (w.alloc (.cells #[] 73))).grown hg7 (fun g hg => own_block (rowPn_empty w w.heap.size (Nat.le_refl _)) g hg))
  clear hg7 hr7 ha7
  go_wp2_with fail
  go_ret
  exact ⟨_, rfl, HR.out, HX.out⟩
def joinF (ps qs : List Pn) : List Pn := match ps[ps.length - 1]?, qs with
 | some x, y :: ys => if alikeB x y then ps.set (ps.length - 1) (oneF x y) ++ ys else ps ++ y :: ys
 | _, qs => ps ++ qs
theorem Pns.tail {w : World} {b off : Nat} {p : Pn} {ps : List Pn} (h : Pns w (some ⟨b, off, none⟩) (p :: ps)) : Pns w (some ⟨b, off + 4, none⟩) ps := fun _ => by
 obtain ⟨b', off', hA, hb, hc⟩ := h (by simp)
 injection hA with hA
 injection hA with ea eb
 subst ea eb
 refine ⟨b, off + 4, rfl, hb, fun k q hk => ?_⟩
 have := hc (k + 1) q (by simpa using hk)
 rw [show off + (k + 1) * 4 = off + 4 + k * 4 from by omega] at this
 exact this
set_option maxRecDepth 100000 in
set_option maxHeartbeats 2000000 in
theorem join28_no (A B : Option Addr) (c d : Nat) (ps qs : List Pn) (w : World) (hP : Pns w A ps) (hl : ps.length ≤ 1000000) (hA : A = none → c = 0) (hlc : ps.length ≤ c) (hQ : Pns w B qs) (hlq : qs.length ≤ 1000000) (hB : B = none → d = 0) (hld : qs.length ≤ d) (h0 : ps = [] ∨ qs = []) :
 Calls Tryz.prog 45 #[.slice A ps.length c, .slice B qs.length d] w (PaintRet w (ps ++ qs)) := by
 have G : Hid (decide (0 < ps.length) = false ∨ decide (0 < ps.length) = true ∧ decide (0 < qs.length) = false) := zh (by
  rcases h0 with rfl | rfl
  ·exact .inl rfl
  ·by_cases h : 0 < ps.length
   ·exact .inr ⟨decide_eq_true h, rfl⟩
   ·exact .inl (decide_eq_false h))
 have HP := zh hP
 have HQ := zh hQ
 clear hP hQ
 go_enter Tryz.func45, Tryz.ntmps45
 go_wp2_with fail
 refine (clone28_any A c ps w HP.out hl hA hlc).mono ?_
 rintro e w1 ⟨v, rfl, hr1, hx1⟩
 have HR1 := zh hr1
 have HX1 := zh hx1
 clear hr1 hx1
 rcases G.out with g1 | ⟨g1, g2⟩
 all_goals
  go_upto_region 2 with fail
  refine wp_region_bt (20) (pures_bt [0, 1, 2, 3, 4, 5, 6, 7, 8, 9, 10, 11, 12, 13, 15, 16] (softs_bt [14, 17] (.step 18 (pures_bt [19] .fin)))) (by kernel_rfl) (by kernel_rfl) ?_
  refine bt_pures _ fun K hK => ?_; simp only [pick, nthC]; (repeat go_big_quiet_step (fail)); refine wpQuiet_nil (hK _ ?_); clear hK K
  refine bt_softs _ fun K hK => ?_; simp only [pick, nthC]; (repeat go_big_quiet_step (fail)); refine wpQuiet_nil (hK _ ?_); clear hK K
  refine bt_step fun next hn => ?_; simp only [pick, nthC]
  go_wp2_with fail
  have X9 : Hid (Ext w1 w1.drew) := zh (by repeat first | exact xr _ | refine xa ?_ _ | refine xm ?_ _ _ | refine xd ?_ | refine xn ?_ _ | refine xs ?_ (by simp <;> omega) _)
  refine segQ_mk (fun _ => laid X9.out) (hn _ _ ?_)
  clear hn next
  refine bt_pures _ fun K hK => ?_; simp only [pick, nthC]; (repeat go_big_quiet_step (fail)); refine wpQuiet_nil (hK _ ?_); clear hK K
  (refine bt_fin ?_)
  go_wp2_with (at_builtin; refine app_paint w (by rfl) (.tmp 45) (.tmp 46) rfl (HR1.out.ext X9.out) rfl rfl hB (HQ.out.ext (HX1.out.trans X9.out)) (hl) (hlq) ((HX1.out.trans X9.out).size) ?_; intro v7 w7 hr7 hg7 ha7)
  have HR := zh hr7
  have HX : Hid (Ext w w7) := zh ((HX1.out.trans X9.out).grown hg7 (fun g hg => own_block (HR1.out.ext X9.out) g hg))
  clear hg7 hr7 ha7
  go_wp2_with fail
  go_ret
  exact ⟨_, rfl, HR.out, HX.out⟩
set_option maxRecDepth 100000 in
set_option maxHeartbeats 2000000 in
theorem join28_yes (A B : Option Addr) (c d : Nat) (ps : List Pn) (x y : Pn) (ys : List Pn) (w : World) (hP : Pns w A ps) (hl : ps.length ≤ 1000000) (hA : A = none → c = 0) (hlc : ps.length ≤ c) (hQ : Pns w B (y :: ys)) (hlq : (y :: ys).length ≤ 1000000) (hB : B = none → d = 0) (hld : (y :: ys).length ≤ d) (hx : ps[ps.length - 1]? = some x) :
 Calls Tryz.prog 45 #[.slice A ps.length c, .slice B (y :: ys).length d] w (PaintRet w (joinF ps (y :: ys))) := by
 have hn0 : 0 < ps.length := by have := (List.getElem?_eq_some_iff.1 hx).1; omega
 have hm0 : 0 < (y :: ys).length := by simp
 obtain ⟨x0, x1, x2, x3⟩ := x
 obtain ⟨y0, y1, y2, y3⟩ := y
 obtain ⟨va, hva⟩ : ∃ v, alikeB ⟨x0, x1, x2, x3⟩ ⟨y0, y1, y2, y3⟩ = v := ⟨_, rfl⟩
 have HJ : Hid (joinF ps (⟨y0, y1, y2, y3⟩ :: ys) = if va then ps.set (ps.length - 1) ⟨x0, y1, x2, x3⟩ ++ ys else ps ++ ⟨y0, y1, y2, y3⟩ :: ys) := zh (by unfold joinF; rw [hx]; simp only [hva]; rfl)
 have HLX := zh hx
 obtain ⟨n, hn⟩ : ∃ n, ps.length = n := ⟨_, rfl⟩
 obtain ⟨m, hm⟩ : ∃ m, (⟨y0, y1, y2, y3⟩ :: ys : List Pn).length = m + 1 := ⟨ys.length, rfl⟩
 have HYL : Hid (ys.length = m) := zh (by simpa using hm)
 have HN := zh hn
 have HM := zh hm
 have CL := zh (clone28_any A c ps w hP hl hA hlc)
 have HP := zh hP
 have HQ := zh hQ
 have hnl : n ≤ 1000000 := by omega
 have hml : m + 1 ≤ 1000000 := by omega
 have hnc : n ≤ c := by omega
 have hmd : m + 1 ≤ d := by omega
 have hn1 : 0 < n := by omega
 rw [hn, hm]
 rw [hn] at CL
 clear hP hQ hl hlc hlq hld hn0 hm0 hn hm hx
 go_enter Tryz.func45, Tryz.ntmps45
 go_wp2_with fail
 refine CL.out.mono ?_
 rintro e w1 ⟨v, rfl, hr1, hx1⟩
 have HX1 := zh hx1
 obtain ⟨A1, c1, hv1, hP1, hlc1, hcm1, hn1'⟩ := hr1.read
 subst hv1
 unfold maxLen at hcm1
 obtain ⟨g, hA1, hg1, hg2⟩ := row_block hr1 (by have := HN.out; omega)
 subst hA1
 rw [HN.out] at hr1 hlc1 ⊢
 have HR1 := zh hr1
 have HGB := zh hg1
 obtain ⟨bA, oA, hAA, hbA, hcA⟩ := (HP.out.ext hx1) (by have := HN.out; omega)
 subst hAA
 obtain ⟨bB, oB, hBB, hbB, hcB⟩ := (HQ.out.ext hx1) (by simp)
 subst hBB
 obtain ⟨b0, b1, b2, b3⟩ := hcB 0 _ rfl
 have hlx := HLX.out
 rw [HN.out] at hlx
 obtain ⟨a0, a1, a2, a3⟩ := hcA (n - 1) _ hlx
 simp only [Nat.zero_mul, Nat.add_zero] at b0 b1 b2 b3
 have g1 : decide (0 < n) = true := decide_eq_true hn1
 have g2 : decide (0 < m + 1) = true := decide_eq_true (by omega)
 have e1 : ((n : Int) - 1) = ((n - 1 : Nat) : Int) := by omega
 have e2 : IntKind.i64.wrap ((n : Int) - 1) = ((n - 1 : Nat) : Int) := by rw [IntWalk.i64_in _ (by omega)]; omega
 have e3 : n - 1 < n := by omega
 clear hx1 hr1 hg1 hP1 hcA hcB hlx
 go_upto_region 2 with fail
 refine wp_region_bt (20) (pures_bt [0, 1, 2, 3, 4, 5, 6, 7, 8, 9, 10, 11, 12, 13, 15, 16] (softs_bt [14, 17] (.step 18 (pures_bt [19] .fin)))) (by kernel_rfl) (by kernel_rfl) ?_
 refine bt_pures _ fun K hK => ?_; simp only [pick, nthC]; (repeat go_big_quiet_step (fail)); refine wpQuiet_nil (hK _ ?_); clear hK K
 refine bt_softs _ fun K hK => ?_; simp only [pick, nthC]; (repeat go_big_quiet_step (fail)); refine wpQuiet_nil (hK _ ?_); clear hK K
 refine bt_step fun next hn => ?_; simp only [pick, nthC]
 go_wp2_with fail
 refine (alike_any28 ⟨x0, x1, x2, x3⟩ ⟨y0, y1, y2, y3⟩ _).mono ?_
 rintro e w9 ⟨rfl, hx9⟩
 have X9 : Hid (Ext w1 w9) := zh (((by repeat first | exact xr _ | refine xa ?_ _ | refine xm ?_ _ _ | refine xd ?_ | refine xn ?_ _ | refine xs ?_ (by simp <;> omega) _) : Ext w1 w1.drew).trans hx9)
 rw [hva]
 clear hx9 hva
 go_wp2_with fail
 refine segQ_mk (fun _ => laid X9.out) (hn _ _ ?_)
 clear hn next
 refine bt_pures _ fun K hK => ?_; simp only [pick, nthC]; (repeat go_big_quiet_step (fail)); refine wpQuiet_nil (hK _ ?_); clear hK K
 (refine bt_fin ?_)
 cases va with
 | false =>
  go_wp2_with (at_builtin; refine app_paint w (qs := ⟨y0, y1, y2, y3⟩ :: ys) (by rfl) (.tmp 45) (.tmp 46) rfl (HR1.out.ext X9.out) rfl (show _ = Value.slice (some ⟨bB, oB, none⟩) (⟨y0, y1, y2, y3⟩ :: ys : List Pn).length d by rw [HM.out]; rfl) (fun h => by cases h) (HQ.out.ext (HX1.out.trans X9.out)) (by have := HN.out; omega) (by rw [HM.out]; exact hml) (HX1.out.trans X9.out).size ?_; intro v7 w7 hr7 hg7 ha7)
  have HR : Hid (RowPn w7 w.heap.size v7 (joinF ps (⟨y0, y1, y2, y3⟩ :: ys))) := zh (by rw [HJ.out]; exact hr7)
  have HX : Hid (Ext w w7) := zh ((HX1.out.trans X9.out).grown hg7 (fun g hg => own_block (HR1.out.ext X9.out) g hg))
  clear hg7 hr7 ha7
  go_wp2_with fail
  go_ret
  exact ⟨_, rfl, HR.out, HX.out⟩
 | true =>
  clear a0 a1 a2 a3 b0 b1 b2 b3 hbA hbB
  obtain ⟨bB', oB', hBB, hbB, hcB⟩ := (HQ.out.ext (HX1.out.trans X9.out)) (by simp)
  injection hBB with hBB
  injection hBB with ea eb
  subst ea eb
  obtain ⟨b0, b1, b2, b3⟩ := hcB 0 _ rfl
  simp only [Nat.zero_mul, Nat.add_zero] at b0 b1 b2 b3
  have hR9 := HR1.out.ext X9.out
  obtain ⟨A9, c9, hv9, hP9, _, _, _⟩ := hR9.read
  injection hv9 with z1 z2 z3
  subst z1 z3
  clear z2
  have HR9 := zh hR9
  have hlx := HLX.out
  rw [HN.out] at hlx
  obtain ⟨bg, og, hgg, hbg, hcg⟩ := hP9 (by have := HN.out; omega)
  injection hgg with hgg
  injection hgg with ea eb
  subst ea eb
  obtain ⟨a0, a1, a2, a3⟩ := hcg (n - 1) _ hlx
  simp only [Nat.zero_add] at a0 a1 a2 a3
  clear hcB hcg hR9 hP9 hlx
  go_upto_region 3 with fail
  refine wp_region_bt (15) (pures_bt [0, 1, 2, 3, 4, 5, 6, 7, 8, 10, 11] (softs_bt [9, 12] (.step 13 (pures_bt [14] (.step 15 .fin))))) (by kernel_rfl) (by kernel_rfl) ?_
  refine bt_pures _ fun K hK => ?_; simp only [pick, nthC]; (repeat go_big_quiet_step (fail)); refine wpQuiet_nil (hK _ ?_); clear hK K
  refine bt_softs _ fun K hK => ?_; simp only [pick, nthC]; (repeat go_big_quiet_step (fail)); refine wpQuiet_nil (hK _ ?_); clear hK K
  refine bt_step fun next hn => ?_; simp only [pick, nthC]
  go_wp2_with fail
  refine (one_any28 ⟨x0, x1, x2, x3⟩ ⟨y0, y1, y2, y3⟩ _).mono ?_
  rintro e w10 ⟨rfl, hx10⟩
  have X10 : Hid (Ext w9 w10) := zh (((by repeat first | exact xr _ | refine xa ?_ _ | refine xm ?_ _ _ | refine xd ?_ | refine xn ?_ _ | refine xs ?_ (by simp <;> omega) _) : Ext w9 w9.drew).trans hx10)
  clear hx10
  unfold pnV
  dsimp only
  go_wp2_with fail
  refine segQ_mk (fun _ => laid X10.out) (hn _ _ ?_)
  clear hn next a0 a1 a2 a3 b0 b1 b2 b3 hbB hbg
  have HR10 := zh (HR9.out.ext X10.out)
  obtain ⟨cur, hcur⟩ := own_obj HR10.out g rfl
  have hlx := HLX.out
  rw [HN.out] at hlx
  obtain ⟨A9, c9, hv9, hP9, _, _, _⟩ := HR10.out.read
  injection hv9 with z1 z2 z3
  subst z1 z3
  clear z2
  obtain ⟨bg, og, hgg, hbg, hcg⟩ := hP9 (by have := HN.out; omega)
  injection hgg with hgg
  injection hgg with ea eb
  subst ea eb
  obtain ⟨a0, a1, a2, a3⟩ := hcg (n - 1) _ hlx
  simp only [Nat.zero_add] at a0 a1 a2 a3
  have gf : ∀ k, w10.frozen? ⟨g, k, none⟩ = false := fun k => by simp [World.frozen?, hcur]
  have HST : Hid (RowPn (put4p w10 g ((n - 1) * 4) ⟨x0, y1, x2, x3⟩) w.heap.size (.slice (some ⟨g, 0, none⟩) n c1) (ps.set (n - 1) ⟨x0, y1, x2, x3⟩)) := zh (HR10.out.store hlx)
  have HXS : Hid (Ext w (put4p w10 g ((n - 1) * 4) ⟨x0, y1, x2, x3⟩)) := zh (by
   unfold put4p
   have hb := HGB.out
   exact (((((HX1.out.trans X9.out).trans X10.out).setCell (p := ⟨g, _, none⟩) hb _).setCell (p := ⟨g, _, none⟩) hb _).setCell (p := ⟨g, _, none⟩) hb _).setCell (p := ⟨g, _, none⟩) hb _)
  have HQS : Hid (Pns (put4p w10 g ((n - 1) * 4) ⟨x0, y1, x2, x3⟩) (some ⟨bB, oB, none⟩) (⟨y0, y1, y2, y3⟩ :: ys)) := zh (HQ.out.ext HXS.out)
  obtain ⟨W11, hW11⟩ : ∃ V, put4p w10 g ((n - 1) * 4) ⟨x0, y1, x2, x3⟩ = V := ⟨_, rfl⟩
  rw [hW11] at HST HXS HQS
  unfold put4p at hW11
  clear hcg hP9 hlx hcur
  refine bt_pures _ fun K hK => ?_; simp only [pick, nthC]; (repeat go_big_quiet_step (fail)); refine wpQuiet_nil (hK _ ?_); clear hK K
  refine bt_step fun next hn => ?_; simp only [pick, nthC]
  go_wp2_with fail
  refine segQ_mk (fun h => absurd rfl h) (hn _ _ ?_)
  clear hn next
  (refine bt_fin ?_)
  try simp only [hW11]
  clear hW11 gf a0 a1 a2 a3 hbg
  have hd0 : (1 : Int) ≤ ((m + 1 : Nat) : Int) := by omega
  have f1 : decide ((1 : Int) ≤ (m : Int) + 1) = true := decide_eq_true (by omega)
  obtain ⟨BT, hBT⟩ : ∃ b', (if d = 1 then some (⟨bB, oB, none⟩ : Addr) else some ⟨bB, oB + 4, none⟩) = b' := ⟨_, rfl⟩
  have HBT : Hid (Pns W11 BT ys ∧ (BT = none → d - 1 = 0)) := zh (by
   rw [← hBT]
   split
   ·exact ⟨fun h0 => absurd h0 (by have := HYL.out; omega), fun h => by cases h⟩
   ·exact ⟨HQS.out.tail, fun h => by cases h⟩)
  go_upto_region 5 with fail
  clear hBT f1
  go_wp2_with (at_builtin; refine app_paint w (ps := ps.set (n - 1) ⟨x0, y1, x2, x3⟩) (qs := ys) (by rfl) (.tmp 45) (.tmp 46) rfl HST.out rfl (show _ = Value.slice BT ys.length (d - 1) by rw [HYL.out]; rfl) HBT.out.2 HBT.out.1 (by rw [List.length_set]; have := HN.out; omega) (by have := HYL.out; omega) HXS.out.size ?_; intro v7 w7 hr7 hg7 ha7)
  have HR : Hid (RowPn w7 w.heap.size v7 (joinF ps (⟨y0, y1, y2, y3⟩ :: ys))) := zh (by rw [HJ.out, HN.out]; exact hr7)
  have HX : Hid (Ext w w7) := zh (HXS.out.grown hg7 (fun g hg => own_block HST.out g hg))
  clear hg7 hr7 ha7
  go_wp2_with fail
  go_ret
  exact ⟨_, rfl, HR.out, HX.out⟩
theorem join28_any (A B : Option Addr) (c d : Nat) (ps qs : List Pn) (w : World) (hP : Pns w A ps) (hl : ps.length ≤ 1000000) (hA : A = none → c = 0) (hlc : ps.length ≤ c) (hQ : Pns w B qs) (hlq : qs.length ≤ 1000000) (hB : B = none → d = 0) (hld : qs.length ≤ d) :
 Calls Tryz.prog 45 #[.slice A ps.length c, .slice B qs.length d] w (PaintRet w (joinF ps qs)) := by
 cases qs with
 | nil =>
  have := join28_no A B c d ps [] w hP hl hA hlc hQ hlq hB hld (.inr rfl)
  rwa [show joinF ps [] = ps ++ [] from by unfold joinF; cases ps[ps.length - 1]? <;> rfl]
 | cons y ys =>
  cases hx : ps[ps.length - 1]? with
  | none =>
   have hps : ps = [] := by
    have := List.getElem?_eq_none_iff.1 hx
    exact List.eq_nil_of_length_eq_zero (by omega)
   subst hps
   exact join28_no A B c d [] (y :: ys) w hP hl hA hlc hQ hlq hB hld (.inl rfl)
  | some x => exact join28_yes A B c d ps x y ys w hP hl hA hlc hQ hlq hB hld hx
end Go.Proofs.YthpmncdfaggkiaaGreat
namespace Go.Proofs.YthpmncdfaggkiaaGreat
open Go.RowKit
theorem chk_of {tt : Int} {pr : Option Pn} {x : Int} {ps : List Pn} (h : Gap x tt ps) (hn : NoAl pr ps) : chk tt pr x ps = true := by
 induction ps generalizing x pr with
 | nil => cases h; simp [chk]
 | cons p ps ih =>
  obtain ⟨h1, h2, h3⟩ := h
  obtain ⟨n1, n2⟩ := hn
  have e := ih h3 n2
  simp only [chk, e, Bool.and_true]
  cases pr with
  | none => simp; omega
  | some q => simp [n1 q rfl]; omega
theorem meltF_chk {x z : Int} {xs : List Pn} (hx : Gap x z xs) : chk z none x (meltF xs) = true := by
 obtain ⟨h1, h2⟩ := meltF_right (x := x) (y := x) (out := []) rfl trivial hx
 exact chk_of h1 h2
theorem col_low {ps : List Pn} {x y z : Int} (h : Gap x y ps) (hz : z < x) : col z ps = none := by
 induction ps generalizing x with
 | nil => rfl
 | cons p ps ih =>
  obtain ⟨h1, h2, h3⟩ := h
  have hb : hasB z p = false := by simp [hasB]; omega
  simp only [col, hb, Bool.false_eq_true, if_false]
  exact ih h3 (by omega)
theorem ends_same {x t : Int} {p q : Pn} {ps qs : List Pn} {pr : Option Pn} (hp : Gap x t (p :: ps)) (hq : Gap x t (q :: qs)) (np : NoAl pr (p :: ps)) (he : ∀ z, col z (p :: ps) = col z (q :: qs)) : ¬ p.hi < q.hi := by
 intro hlt
 obtain ⟨p1, p2, p3⟩ := hp
 obtain ⟨q1, q2, q3⟩ := hq
 have hqt := q3.le
 cases ps with
 | nil =>
  have : p.hi = t := p3
  omega
 | cons r rs =>
  obtain ⟨r1, r2, r3⟩ := p3
  have e1 := he p.lo
  rw [col_at p2, show p.lo = q.lo by omega, col_at q2] at e1
  have e2 := he r.lo
  have hb : hasB r.lo p = false := by simp [hasB]; omega
  have hc : hasB r.lo q = true := by simp [hasB]; omega
  rw [show col r.lo (p :: r :: rs) = col r.lo (r :: rs) by simp [col, hb], col_at r2, show col r.lo (q :: qs) = some (q.st, q.mr) by simp [col, hc]] at e2
  simp only [Option.some.injEq, Prod.mk.injEq] at e1 e2
  have := np.2.1 p rfl
  simp only [alikeB, r1, e1.1, e2.1, e1.2, e2.2, decide_true, Bool.and_true] at this
  cases this
theorem right_one {x t : Int} {ps qs : List Pn} {pr pr' : Option Pn} (hp : Gap x t ps) (hq : Gap x t qs) (np : NoAl pr ps) (nq : NoAl pr' qs) (he : ∀ z, col z ps = col z qs) : ps = qs := by
 induction ps generalizing x qs pr pr' with
 | nil =>
  cases qs with
  | nil => rfl
  | cons q qs =>
   have h : x = t := hp
   obtain ⟨q1, q2, q3⟩ := hq
   have := q3.le
   omega
 | cons p ps ih =>
  cases qs with
  | nil =>
   have h : x = t := hq
   obtain ⟨q1, q2, q3⟩ := hp
   have := q3.le
   omega
  | cons q qs =>
   have n1 := ends_same hp hq np he
   have n2 := ends_same hq hp nq (fun z => (he z).symm)
   have e1 := he p.lo
   obtain ⟨p1, p2, p3⟩ := hp
   obtain ⟨q1, q2, q3⟩ := hq
   rw [col_at p2, show p.lo = q.lo by omega, col_at q2] at e1
   simp only [Option.some.injEq, Prod.mk.injEq] at e1
   have hpq : p = q := by
    cases p
    cases q
    simp only [Pn.mk.injEq] at *
    refine ⟨by omega, by omega, e1.1, e1.2⟩
   subst hpq
   rw [ih p3 q3 np.2 nq.2 fun z => ?_]
   have e := he z
   simp only [col] at e
   by_cases hz : hasB z p = true
   ·have : z < p.hi := by simp only [hasB, Bool.and_eq_true, decide_eq_true_eq] at hz; exact hz.2
    rw [col_low p3 this, col_low q3 this]
   ·rw [if_neg hz, if_neg hz] at e
    exact e
theorem noAl_pr {pr : Option Pn} {ps : List Pn} (h : NoAl none ps) (hp : ∀ q p, pr = some q → ps[0]? = some p → alikeB q p = false) : NoAl pr ps := by
 cases ps with
 | nil => trivial
 | cons p ps => exact ⟨fun q hq => hp q p hq rfl, h.2⟩
theorem noAl_none {pr : Option Pn} {ps : List Pn} (h : NoAl pr ps) : NoAl none ps := by
 cases ps with
 | nil => trivial
 | cons p ps => exact ⟨fun q hq => (by cases hq), h.2⟩
theorem noAl_app {pr : Option Pn} {ps qs : List Pn} {x : Pn} (h : NoAl pr (ps ++ [x])) (h2 : NoAl (some x) qs) : NoAl pr (ps ++ [x] ++ qs) := by
 induction ps generalizing pr with
 | nil => exact ⟨h.1, h2⟩
 | cons p ps ih => exact ⟨h.1, ih h.2⟩
theorem alike_one {x y q : Pn} (h : alikeB x y = true) : alikeB (oneF x y) q = alikeB y q := by
 obtain ⟨h1, h2, h3⟩ := alike_eq h
 simp [alikeB, oneF, h2, h3]
theorem joinF_concat (init : List Pn) (x y : Pn) (ys : List Pn) : joinF (init ++ [x]) (y :: ys) = if alikeB x y then init ++ [oneF x y] ++ ys else init ++ [x] ++ y :: ys := by
 unfold joinF
 have h : (init ++ [x])[(init ++ [x]).length - 1]? = some x := by simp
 rw [h]
 dsimp only
 split
 ·simp
 ·rfl
theorem joinF_right {f m t : Int} {a b : List Pn} (ha : Gap f m a) (na : NoAl none a) (hb : Gap m t b) (nb : NoAl none b) : Gap f t (joinF a b) ∧ NoAl none (joinF a b) ∧ ∀ z, col z (joinF a b) = col z (a ++ b) := by
 rcases List.eq_nil_or_concat a with rfl | ⟨init, x, rfl⟩
 ·have e : joinF [] b = b := by unfold joinF; simp
  rw [e]
  cases ha
  exact ⟨hb, nb, fun z => rfl⟩
 ·rw [List.concat_eq_append] at ha na ⊢
  cases b with
  | nil =>
   have e : joinF (init ++ [x]) [] = init ++ [x] := by unfold joinF; simp
   rw [e]
   cases hb
   exact ⟨ha, na, fun z => by rw [List.append_nil]⟩
  | cons y ys =>
   rw [joinF_concat]
   obtain ⟨v, h1, h3, h4, h5⟩ := ha.split
   have h5' : x.hi = m := h5
   obtain ⟨b1, b2, b3⟩ := hb
   by_cases hal : alikeB x y = true
   ·rw [if_pos hal]
    refine ⟨(h1.append (qs := [oneF x y]) (z := y.hi) ⟨h3, by show x.lo < y.hi; omega, rfl⟩).append b3, noAl_app (noAl_one na) (noAl_pr (noAl_none nb.2) fun q p hq hp => ?_), fun z => ?_⟩
    ·injection hq with hq
     subst hq
     rw [alike_one hal]
     cases ys with
     | nil => simp at hp
     | cons r rs =>
      simp at hp
      subst hp
      exact nb.2.1 y rfl
    ·have e : init ++ [x] ++ y :: ys = init ++ [x, y] ++ ys := by simp
     rw [e, col_append, col_append z init, col_two z hal h4 b2, ← col_append, ← col_append]
   ·rw [if_neg hal]
    refine ⟨(h1.append (qs := [x]) (z := m) ⟨h3, h4, h5⟩).append ⟨b1, b2, b3⟩, noAl_app na (noAl_pr nb fun q p hq hp => ?_), fun z => rfl⟩
    injection hq with hq
    subst hq
    simp at hp
    subst hp
    simpa using hal
theorem join_melt {f m t : Int} {xs ys zs : List Pn} (hx : Gap f m xs) (hy : Gap m t ys) (hz : Gap f t zs) (he : ∀ z, col z (xs ++ ys) = col z zs) : joinF (meltF xs) (meltF ys) = meltF zs := by
 obtain ⟨a1, a2⟩ := meltF_right (x := f) (y := f) (out := []) rfl trivial hx
 obtain ⟨b1, b2⟩ := meltF_right (x := m) (y := m) (out := []) rfl trivial hy
 obtain ⟨c1, c2⟩ := meltF_right (x := f) (y := f) (out := []) rfl trivial hz
 obtain ⟨j1, j2, j3⟩ := joinF_right a1 a2 b1 b2
 refine right_one j1 c1 j2 c2 fun z => ?_
 have e1 : col z (meltF xs) = col z xs := meltF_col z hx
 have e2 : col z (meltF ys) = col z ys := meltF_col z hy
 have e3 : col z (meltF zs) = col z zs := meltF_col z hz
 refine (j3 z).trans ?_
 rw [col_append]
 exact (congr (congrArg Option.or e1) e2).trans ((col_append z xs ys).symm.trans ((he z).trans e3.symm))
theorem paint_chk {l : List Nd} (ms : List Int) (sv : Nat → Int) {f t : Int} {is : List Int} (h : InRow l 0 is) (h0 : 0 ≤ f) (hft : f ≤ t) (ht : t ≤ (ndAt l 0).hi) : chk t none f (meltF (strF l ms sv f t 0 is)) = true := meltF_chk (strF_whole ms sv h h0 hft ht)
theorem paint_parts {l : List Nd} (ms : List Int) (sv : Nat → Int) {f m t : Int} {is : List Int} (h : InRow l 0 is) (h0 : 0 ≤ f) (hfm : f ≤ m) (hmt : m ≤ t) (ht : t ≤ (ndAt l 0).hi) :
 joinF (meltF (strF l ms sv f m 0 is)) (meltF (strF l ms sv m t 0 is)) = meltF (strF l ms sv f t 0 is) := by
 refine join_melt (strF_whole ms sv h h0 hfm (by omega)) (strF_whole ms sv h (by omega) hmt ht) (strF_whole ms sv h h0 (by omega) ht) fun z => ?_
 rw [col_append, col_strF, col_strF, col_strF]
 by_cases a : f ≤ z <;> by_cases b : z < m <;> by_cases c : m ≤ z <;> by_cases d : z < t <;> simp [a, b, c, d] <;> omega
theorem paint_parts' {l : List Nd} (hT : Tree l) (ms : List Int) (sv : Nat → Int) {f m t : Int} (h0 : 0 ≤ f) (hfm : f ≤ m) (hmt : m ≤ t) (ht : t ≤ (ndAt l 0).hi) :
 joinF (meltF (strF l ms sv f m 0 (leavesF 0 l))) (meltF (strF l ms sv m t 0 (leavesF 0 l))) = meltF (strF l ms sv f t 0 (leavesF 0 l)) :=
 paint_parts ms sv (leaves_row hT) h0 hfm hmt ht
theorem paint_chk' {l : List Nd} (hT : Tree l) (ms : List Int) (sv : Nat → Int) {f t : Int} (h0 : 0 ≤ f) (hft : f ≤ t) (ht : t ≤ (ndAt l 0).hi) : chk t none f (meltF (strF l ms sv f t 0 (leavesF 0 l))) = true := paint_chk ms sv (leaves_row hT) h0 hft ht
def pickF (n m : Int) : Int := if m < 1 then 0 else n % m
theorem pickF_bd (n m : Int) (h : 1 ≤ m) : 0 ≤ pickF n m ∧ pickF n m < m := by
 unfold pickF
 rw [if_neg (by omega)]
 exact ⟨Int.emod_nonneg _ (by omega), Int.emod_lt_of_pos _ (by omega)⟩
theorem tmod_neg (n m : Int) (hm : 1 ≤ m) (h : n.tmod m < 0) : n.tmod m + m = n % m := by
 rw [Int.tmod_eq_emod] at h ⊢
 split at h <;> rename_i hc
 ·have := Int.emod_nonneg n (show m ≠ 0 by omega); omega
 ·rw [if_neg hc]; omega
theorem tmod_pos (n m : Int) (hm : 1 ≤ m) (h : ¬ n.tmod m < 0) : n.tmod m = n % m := by
 rw [Int.tmod_eq_emod] at h ⊢
 split at h <;> rename_i hc
 ·rw [if_pos hc]; omega
 ·have := Int.emod_lt_of_pos n (show 0 < m by omega); omega
theorem tmod_bd (n m : Int) (hm : 1 ≤ m) : -m < n.tmod m ∧ n.tmod m < m := by
 have h1 := Int.emod_nonneg n (show m ≠ 0 by omega)
 have h2 := Int.emod_lt_of_pos n (show 0 < m by omega)
 rw [Int.tmod_eq_emod]
 split <;> omega
set_option maxHeartbeats 400000 in
theorem pick_any (n m : Int) (w : World) (hm : m ≤ 4611686018427387904) (hn : -9223372036854775808 ≤ n ∧ n ≤ 9223372036854775807) :
 Calls Tryz.prog 16 #[.int .i64 n, .int .i64 m] w fun e w' => e = .returned (.int .i64 (pickF n m)) ∧ w = w' := by
 by_cases h1 : m < 1
 ·have H : Hid (pickF n m = 0) := if_pos h1
  go_enter Tryz.func16, Tryz.ntmps16
  go_wp2
  go_ret
  exact ⟨ret_int H.out.symm, rfl⟩
 ·have H : Hid (pickF n m = n % m) := if_neg h1
  by_cases h0 : 0 ≤ n
  ·have h2 : 0 ≤ n % m := Int.emod_nonneg _ (by omega)
   go_enter Tryz.func16, Tryz.ntmps16
   go_wp2
   go_ret
   exact ⟨ret_int H.out.symm, rfl⟩
  ·have hb := tmod_bd n m (by omega)
   by_cases h3 : n.tmod m < 0
   ·have H2 : Hid _ := tmod_neg n m (by omega) h3
    go_enter Tryz.func16, Tryz.ntmps16
    go_wp2
    go_ret
    exact ⟨ret_int (H2.out.trans H.out.symm), rfl⟩
   ·have H2 : Hid _ := tmod_pos n m (by omega) h3
    go_enter Tryz.func16, Tryz.ntmps16
    go_wp2
    go_ret
    exact ⟨ret_int (H2.out.trans H.out.symm), rfl⟩
end Go.Proofs.YthpmncdfaggkiaaGreat
namespace Go.Proofs.YthpmncdfaggkiaaGreat
open Go.RowKit
attribute [local go_sem] more_drew more_drewN more_size more_cell more_frozen more_setCell drew_more drewN_more lt_add_r lt_add_r2 lt_add_r3 lt_add_r4 lt_add_r5 lt_add_r6 lt_add_r7 lt_add_r8 lt_add_r9 lt_add_r10 lt_self_r lt_self_r2
set_option maxRecDepth 100000 in
set_option maxHeartbeats 4000000 in
theorem paintParts_any (A : Option Addr) (c : Nat) (ps : List Prt) (mark : Int) (B : Option Addr) (ss : List Sty) (cs : Nat) (a b k : Int) (W : World) (hP : Prts W A ps) (hO : PrtsOk W ps) (hl : ps.length ≤ c) (hc : c ≤ 9223372036854775807) (hA : A = none → c = 0) (hk : KidsLt ps)
 (hS : Styles W B ss) (hSO : StylesOk W ss) (bs : ss.length ≤ 9223372036854775807) (ba : I64 a) (bb : I64 b) (bk : I64 k) :
 Calls Tryz.prog 10 #[.slice A ps.length c, .int .i64 mark, .slice B ss.length cs, .int .i64 a, .int .i64 b, .int .i64 k] W fun e w' => e = .returned (.bool true) ∧ Ext W w' := by
 have HP := zh hP
 have HO := zh hO
 have HK := zh hk
 have HA := zh hA
 have HS := zh hS
 have HSO := zh hSO
 clear hP hO hk hA hS hSO
 go_enter Tryz.func10, Tryz.ntmps10
 go_wp2_with fail
 refine (lives28_any W).mono ?_
 rintro e w1 ⟨rfl, hx1⟩
 have HX1 := zh hx1
 clear hx1
 go_wp2_with fail
 refine (light28_any A c ps B ss cs w1 (HS.out.ext HX1.out) (HSO.out.ext HX1.out) bs (HP.out.ext HX1.out) (by omega) HK.out).mono ?_
 rintro e w2 ⟨bl, rfl, hbl, hx2⟩
 have HX2 := zh (HX1.out.trans hx2)
 clear hx2
 cases bl with
 | false =>
  go_wp2_with fail
  go_ret
  exact ⟨rfl, HX2.out⟩
 | true =>
  have hL := (hbl rfl).1
  have PSW : Hid (PS W A c ps) := ⟨HP.out, HO.out, hL.few (by omega), hl, hc, HA.out⟩
  have hlen := hL.len
  have HLP := zh hL.places
  clear hbl hL HP HO HK
  by_cases T : Tree (nds ps)
  ·have hp0 := T.pos
   rw [nds_length] at hp0
   obtain ⟨p0, hpp0⟩ : ∃ p, ps[0]? = some p := ⟨_, List.getElem?_eq_getElem hp0⟩
   have HT := zh T
   have HPP0 := zh hpp0
   have hbd := (HLP.out p0 (List.mem_of_getElem? hpp0)).2.1
   have hb0 := (T.bare 0 _ (nds_get hpp0)).1
   have hlh : p0.nd.lo ≤ p0.nd.hi := hb0.2.2.2.1
   clear T hpp0 hb0
   by_cases hk0 : p0.nd.lo = 0
   ·go_wp2_with fail
    refine (rcheck_ok (PSW.out.ext HX2.out) HT.out).mono ?_
    rintro e w3 ⟨rfl, hx3⟩
    have HX3 := zh (HX2.out.trans hx3)
    obtain ⟨bA, off, hA', hbA, hcell⟩ := (PSW.out.ext HX3.out).parts (by omega)
    subst hA'
    obtain ⟨_, _, d2, _⟩ := hcell 0 p0 HPP0.out
    simp only [Nat.zero_mul, Nat.add_zero] at d2
    rw [hk0] at d2 hlh
    have HK0 := zh hk0
    clear hcell hx3 hk0
    have MK := zh (marks_any (some ⟨bA, off, none⟩) c ps 1 mark w3 (PSW.out.ext HX3.out) HT.out (by omega))
    go_wp2_with fail
    refine MK.out.mono ?_
    rintro e w4 ⟨us, hul, ⟨M, cm, rfl, hom, hx4⟩, _⟩
    have HX4 := zh (HX3.out.trans hx4)
    have HM := zh hom
    obtain ⟨_, hmc, hmm, _⟩ := hom.ints
    unfold maxLen at hmm
    have HUL := zh hul
    obtain ⟨sv, hsv⟩ := leafs_are (cs := cs) (HS.out.ext HX4.out) (HSO.out.ext HX4.out) bs (PSW.out.ext HX4.out) HT.out
    have OF : Hid (∀ (V : World) (f t : Int), Ext w4 V → 0 ≤ f → f ≤ t → t ≤ p0.nd.hi → Calls Tryz.prog 41 #[.slice (some ⟨bA, off, none⟩) ps.length c, .slice M ps.length cm, .slice B ss.length cs, .int .i64 f, .int .i64 t] V (OfRet V (PF (nds ps) us sv f t))) := zh (fun V f t x h1 h2 h3 => by
     have := of28_any (some ⟨bA, off, none⟩) c ps M cm us B ss.length cs sv f t p0 V (PSW.out.ext (HX4.out.trans x)) HT.out (hom.ints.1.ext x) hul hmc hmm (fun i U hi hU => hsv i U hi (x.below.trans (hU.mono x.size))) HPP0.out HK0.out h1 h2 h3
     rwa [hul] at this)
    have CH : Hid (∀ f t : Int, 0 ≤ f → f ≤ t → t ≤ p0.nd.hi → chk t none f (PF (nds ps) us sv f t) = true) := zh (fun f t h1 h2 h3 => paint_chk' HT.out us sv h1 h2 (by
     rw [show ndAt (nds ps) 0 = p0.nd by unfold ndAt; rw [show (0 : Int).toNat = 0 from rfl, nds_get HPP0.out]; rfl]
     exact h3))
    have JN : Hid (∀ f m t : Int, 0 ≤ f → f ≤ m → m ≤ t → t ≤ p0.nd.hi → joinF (PF (nds ps) us sv f m) (PF (nds ps) us sv m t) = PF (nds ps) us sv f t) := zh (fun f m t h1 h2 h3 h4 => paint_parts' HT.out us sv h1 h2 h3 (by
     rw [show ndAt (nds ps) 0 = p0.nd by unfold ndAt; rw [show (0 : Int).toNat = 0 from rfl, nds_get HPP0.out]; rfl]
     exact h4))
    have LN : Hid (∀ f t : Int, (PF (nds ps) us sv f t).length ≤ 1000000) := zh (fun f t => PF_len ps (by omega) us sv f t)
    rw [hul] at hmc ⊢
    have D4 : Hid (w4.cell? ⟨bA, off + 4, none⟩ = some (.int .i64 p0.nd.hi) ∧ bA < w4.heap.size) := by
     obtain ⟨b', off', hAA, hb', hcell⟩ := (PSW.out.ext HX4.out).parts (by omega)
     injection hAA with hAA
     injection hAA with ea eb
     subst ea eb
     obtain ⟨_, _, _, _, d4, _⟩ := hcell 0 p0 HPP0.out
     simp only [Nat.zero_mul, Nat.add_zero] at d4
     exact zh ⟨d4, hb'⟩
    obtain ⟨h0, hh0⟩ : ∃ h0, p0.nd.hi = h0 := ⟨_, rfl⟩
    rw [hh0] at D4 OF CH JN hbd hlh
    obtain ⟨d4, hb4⟩ := D4.out
    unfold Lt20 at hbd
    obtain ⟨a', ha'⟩ : ∃ a', pickF a (h0 + 1) = a' := ⟨_, rfl⟩
    obtain ⟨b', hb'⟩ : ∃ b', pickF b (h0 + 1) = b' := ⟨_, rfl⟩
    obtain ⟨k', hk'⟩ : ∃ k', pickF k (h0 + 1) = k' := ⟨_, rfl⟩
    have PA := zh (pick_any a (h0 + 1) w4 (by omega) ba)
    have PB := zh (pick_any b (h0 + 1) w4 (by omega) bb)
    have PK := zh (pick_any k (h0 + 1) w4 (by omega) bk)
    rw [ha'] at PA
    rw [hb'] at PB
    rw [hk'] at PK
    have aa := pickF_bd a (h0 + 1) (by omega)
    have ab := pickF_bd b (h0 + 1) (by omega)
    have ak := pickF_bd k (h0 + 1) (by omega)
    rw [ha'] at aa
    rw [hb'] at ab
    rw [hk'] at ak
    obtain ⟨m1, hm1⟩ : ∃ m1, (if b' < a' then b' else a') = m1 := ⟨_, rfl⟩
    obtain ⟨lo, hlo⟩ : ∃ lo, (if k' < m1 then k' else m1) = lo := ⟨_, rfl⟩
    obtain ⟨m2, hm2⟩ : ∃ m2, (if a' < b' then b' else a') = m2 := ⟨_, rfl⟩
    obtain ⟨hi, hhi⟩ : ∃ hi, (if m2 < k' then k' else m2) = hi := ⟨_, rfl⟩
    have ORD : Hid (0 ≤ lo ∧ lo ≤ a' + b' + k' - lo - hi ∧ a' + b' + k' - lo - hi ≤ hi ∧ hi ≤ h0) := zh (by
     have x1 := hm1
     have x2 := hlo
     have x3 := hm2
     have x4 := hhi
     split at x1 <;> split at x2 <;> split at x3 <;> split at x4 <;> omega)
    have lo0 : 0 ≤ lo := ORD.out.1
    have lo1 : lo ≤ 1048576 := by have := ORD.out; omega
    have hi0 : 0 ≤ hi := by have := ORD.out; omega
    have hi1 : hi ≤ 1048576 := by have := ORD.out; omega
    obtain ⟨md, hmd⟩ : ∃ md, a' + b' + k' - lo - hi = md := ⟨_, rfl⟩
    rw [hmd] at ORD
    clear ha' hb' hk' hh0 hx4 hsv hom hul MK
    go_wp2_with fail
    refine PA.out.mono ?_
    rintro e w5 ⟨rfl, rfl⟩
    go_wp2_with fail
    refine PB.out.mono ?_
    rintro e w5 ⟨rfl, rfl⟩
    go_wp2_with fail
    refine PK.out.mono ?_
    rintro e w5 ⟨rfl, rfl⟩
    clear PA PB PK d4 hb4
    go_wp2_with fail
    obtain ⟨o1, o2, o3, o4⟩ := ORD.out
    have CX := CH.out lo md o1 o2 (by omega)
    have CY := CH.out md hi (by omega) o3 o4
    have CZ := CH.out lo hi o1 (by omega) o4
    have JX := JN.out lo md hi o1 o2 o3 o4
    have OX := OF.out w4 lo md (Ext.refl _) o1 o2 (by omega)
    have OY := fun V x => OF.out V md hi x (by omega) o3 o4
    have OZ := fun V x => OF.out V lo hi x o1 (by omega) o4
    have LX := LN.out lo md
    have LY := LN.out md hi
    have LZ := LN.out lo hi
    obtain ⟨X, hX⟩ : ∃ X, PF (nds ps) us sv lo md = X := ⟨_, rfl⟩
    obtain ⟨Y, hY⟩ : ∃ X, PF (nds ps) us sv md hi = X := ⟨_, rfl⟩
    obtain ⟨Z, hZ⟩ : ∃ X, PF (nds ps) us sv lo hi = X := ⟨_, rfl⟩
    rw [hX] at CX JX OX LX
    rw [hY] at CY JX OY LY
    rw [hZ] at CZ JX OZ LZ
    have HCX := zh CX
    have HCY := zh CY
    have HCZ := zh CZ
    have HJX := zh JX
    have HOY := zh OY
    have HOZ := zh OZ
    clear CX CY CZ JX OY OZ hX hY hZ OF CH JN LN hm1 hlo hm2 hhi o1 o2 o3 o4 aa ab ak
    refine OX.mono ?_
    rintro e w5 ⟨vx, rfl, hrx, hx5⟩
    obtain ⟨Ax, cx, rfl, hPx, hlx, hmx, hnx⟩ := hrx.read
    have HPX := zh hPx
    have HX5 := zh hx5
    clear OX hrx hPx hx5
    unfold maxLen at hmx
    go_wp2_with fail
    refine (HOY.out w5 HX5.out).mono ?_
    rintro e w6 ⟨vy, rfl, hry, hx6⟩
    obtain ⟨Ay, cy, rfl, hPy, hly, hmy, hny⟩ := hry.read
    have HPY := zh hPy
    have HX6 := zh (HX5.out.trans hx6)
    have HPX6 := zh (HPX.out.ext hx6)
    clear HOY hry hPy hx6 HX5 HPX
    unfold maxLen at hmy
    go_wp2_with fail
    refine (HOZ.out w6 HX6.out).mono ?_
    rintro e w7 ⟨vz, rfl, hrz, hx7⟩
    obtain ⟨Az, cz, rfl, hPz, hlz, hmz, hnz⟩ := hrz.read
    have HPZ7 := zh hPz
    have HX7 := zh (HX4.out.trans (HX6.out.trans hx7))
    have HPX7 := zh (HPX6.out.ext hx7)
    have HPY7 := zh (HPY.out.ext hx7)
    clear HOZ hrz hPz hx7 HX6 HPX6 HPY
    unfold maxLen at hmz
    have K1 := zh (fun V (x : Ext w7 V) => check28_any Ax cx X lo md V (HPX7.out.ext x) LX)
    have K2 := zh (fun V (x : Ext w7 V) => check28_any Ay cy Y md hi V (HPY7.out.ext x) LY)
    have K3 := zh (fun V (x : Ext w7 V) => check28_any Az cz Z lo hi V (HPZ7.out.ext x) LZ)
    rw [HCX.out] at K1
    rw [HCY.out] at K2
    rw [HCZ.out] at K3
    have K4 := zh (fun V (x : Ext w7 V) => join28_any Ax Ay cx cy X Y V (HPX7.out.ext x) LX hnx hlx (HPY7.out.ext x) LY hny hly)
    rw [HJX.out] at K4
    go_wp2_with fail
    refine (K1.out w7 (Ext.refl _)).mono ?_
    rintro e w8 ⟨rfl, hx8⟩
    have HX8 := zh hx8
    clear hx8 K1
    go_wp2_with fail
    refine (K2.out w8 HX8.out).mono ?_
    rintro e w9 ⟨rfl, hx9⟩
    have HX9 := zh (HX8.out.trans hx9)
    clear hx9 K2 HX8
    go_wp2_with fail
    refine (K3.out w9 HX9.out).mono ?_
    rintro e w10 ⟨rfl, hx10⟩
    have HX10 := zh (HX9.out.trans hx10)
    clear hx10 K3 HX9
    go_wp2_with fail
    refine (K4.out w10 HX10.out).mono ?_
    rintro e w11 ⟨vj, rfl, hrj, hx11⟩
    obtain ⟨Aj, cj, rfl, hPj, hlj, hmj, hnj⟩ := hrj.read
    have HX11 := zh (HX10.out.trans hx11)
    have SM := same_any28 Aj Az Z Z cj cz w11 hPj (HPZ7.out.ext HX11.out) LZ LZ
    rw [decide_eq_true (rfl : Z = Z)] at SM
    have HSM := zh SM
    clear hrj hPj hx11 K4 HX10 SM
    go_wp2_with fail
    refine HSM.out.mono ?_
    rintro e w12 ⟨rfl, hx12⟩
    have HX12 := zh (HX7.out.trans (HX11.out.trans hx12))
    clear hx12
    go_wp2_with fail
    go_ret
    exact ⟨rfl, HX12.out⟩
   ·have hk1 : decide (p0.nd.lo = 0) = false := decide_eq_false hk0
    have hk2 : (p0.nd.lo != 0) = true := by simpa using hk0
    go_wp2_with fail
    refine (rcheck_ok (PSW.out.ext HX2.out) HT.out).mono ?_
    rintro e w3 ⟨rfl, hx3⟩
    have HX3 := zh (HX2.out.trans hx3)
    obtain ⟨bA, off, hA', hbA, hcell⟩ := (PSW.out.ext HX3.out).parts (by omega)
    subst hA'
    obtain ⟨_, _, d2, _⟩ := hcell 0 p0 HPP0.out
    simp only [Nat.zero_mul, Nat.add_zero] at d2
    clear hcell hx3
    go_wp2_with fail
    go_ret
    exact ⟨rfl, HX3.out⟩
  ·have HT := zh T
   clear T
   go_wp2_with fail
   refine (rcheck_no (PSW.out.ext HX2.out) (fun h => HT.out h)).mono ?_
   rintro e w3 ⟨rfl, hx3⟩
   have HX3 := zh (HX2.out.trans hx3)
   clear hx3
   go_wp2_with fail
   go_ret
   exact ⟨rfl, HX3.out⟩
end Go.Proofs.YthpmncdfaggkiaaGreat
