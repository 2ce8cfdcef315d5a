/- LightGrammar; StylesCalls: the walk. -/
import Derived.Test.YtggmljookcmnkaaKa
import Derived.Test.YtggmljookcmnkaaK6
import Derived.WalkSpells
import Derived.WalkLawsBesides
import Derived.BigRegion
import Derived.Deep.RegionWith
import Derived.Deep.QuietTactic
import Derived.Deep.DeepCutAuto
import Derived.Deep.RegionHeld3
import Derived.Deep.RegionLaw
import Derived.BigQuiet
import Derived.Lib.Hide
namespace Go.Proofs.Ytggmljookcmnkaa
open Go.RowKit
attribute [local go_sem] more_drew more_drewN more_size more_cell more_frozen more_setCell drew_more drewN_more lt_add_r lt_add_r2 lt_add_r3 lt_add_r4 lt_add_r5 lt_add_r6 lt_add_r7 lt_add_r8 lt_add_r9 lt_add_r10 lt_self_r lt_self_r2

def SomeB (w : World) (e : Ending) (w' : World) : Prop := ∃ b, e = .returned (.bool b) ∧ Ext w w'
set_option maxRecDepth 100000 in
set_option maxHeartbeats 2000000 in
theorem lightGrammar_any (g : Gr) (w : World) (h : GrOk w g) : Calls Try.prog 15 #[grV g] w (SomeB w) := by
  have H := Lib.hid h
  unfold grV
  clear h
  by_cases c0 : 100 < g.prods.length
  · have q0 : decide ((100 : Int) < (g.prods.length : Int)) = true := decide_eq_true (by omega)
    go_enter Try.func15, Try.ntmps15
    go_wp2_with fail
    go_ret
    exact ⟨false, rfl, (by repeat (first | exact Ext.refl _ | refine Ext.alloc ?_ _ | refine Ext.more ?_ _ _ | refine Ext.drew ?_ | refine Ext.drewN ?_ _ | refine Ext.setCell ?_ (by simp <;> omega) _))⟩
  have q0 : decide ((100 : Int) < (g.prods.length : Int)) = false := decide_eq_false (by omega)
  obtain ⟨b1, hb1⟩ : ∃ b1, w.heap.size = b1 := ⟨_, rfl⟩
  obtain ⟨W1, hW1⟩ : ∃ W1, w.alloc (.cells #[.int .i64 g.terms, .int .i64 g.nons, .int .i64 g.k, .slice g.pA g.prods.length g.pc] 39) = W1 := ⟨_, rfl⟩
  have X1 : Hid (Ext w W1) := Lib.hid (by rw [← hW1]; exact (by repeat (first | exact Ext.refl _ | refine Ext.alloc ?_ _ | refine Ext.more ?_ _ _ | refine Ext.drew ?_ | refine Ext.drewN ?_ _ | refine Ext.setCell ?_ (by simp <;> omega) _)))
  have GA : Hid (GrAt W1 b1 g) := Lib.hid (GrAt.of (by rw [← hW1, ← hb1]; exact heap_alloc_new _ _))
  go_enter Try.func15, Try.ntmps15
  go_upto_region 1 with fail
  clear hW1 hb1
  obtain ⟨e0, e1, e2, e3, el⟩ := GA.out
  go_wp2_with fail
  clear e0 e1 e2 e3 el
  go_loopw [3] (fun v wi => ∃ i : Nat, i ≤ g.prods.length ∧ v = .int .i64 i ∧ Hid (Ext W1 wi)) (fun v _ => g.prods.length - (intOf v).toNat)
  case atStart => exact ⟨0, by omega, rfl, Lib.hid (by repeat (first | exact Ext.refl _ | refine Ext.alloc ?_ _ | refine Ext.more ?_ _ _ | refine Ext.drew ?_ | refine Ext.drewN ?_ _ | refine Ext.setCell ?_ (by simp <;> omega) _))⟩
  case round =>
    obtain ⟨i, hi, rfl, hx⟩ := hrel
    have HX := Lib.hid hx.out
    obtain ⟨e0, e1, e2, e3, el⟩ := GA.out.ext hx.out
    by_cases hlt : i < g.prods.length
    · obtain ⟨p, hp⟩ : ∃ p, g.prods[i]? = some p := ⟨_, List.getElem?_eq_getElem hlt⟩
      obtain ⟨b, off, hA, hb, hcell⟩ := (H.out.ext (X1.out.trans hx.out)).prods (by omega)
      obtain ⟨d0, d1⟩ := hcell i p hp
      rw [hA] at e3
      clear hcell hp hx hA
      by_cases l1 : 5 < p.right.length
      · have q1 : decide ((5 : Int) < (p.right.length : Int)) = true := decide_eq_true (by omega)
        by_cases l2 : p.right.length ≤ 8
        · have q2 : decide ((p.right.length : Int) ≤ 8) = true := decide_eq_true (by omega)
          go_wp2_with fail
          go_ret
          exact ⟨false, rfl, (X1.out.trans HX.out).trans (by repeat (first | exact Ext.refl _ | refine Ext.alloc ?_ _ | refine Ext.more ?_ _ _ | refine Ext.drew ?_ | refine Ext.drewN ?_ _ | refine Ext.setCell ?_ (by simp <;> omega) _))⟩
        · have q2 : decide ((p.right.length : Int) ≤ 8) = false := decide_eq_false (by omega)
          by_cases l3 : 100 < p.right.length
          · have q3 : decide ((100 : Int) < (p.right.length : Int)) = true := decide_eq_true (by omega)
            go_wp2_with fail
            go_ret
            exact ⟨false, rfl, (X1.out.trans HX.out).trans (by repeat (first | exact Ext.refl _ | refine Ext.alloc ?_ _ | refine Ext.more ?_ _ _ | refine Ext.drew ?_ | refine Ext.drewN ?_ _ | refine Ext.setCell ?_ (by simp <;> omega) _))⟩
          · have q3 : decide ((100 : Int) < (p.right.length : Int)) = false := decide_eq_false (by omega)
            go_wp2_with fail
            go_roundw
            case rel => exact ⟨i + 1, by omega, by go_num, Lib.hid (HX.out.trans (by repeat (first | exact Ext.refl _ | refine Ext.alloc ?_ _ | refine Ext.more ?_ _ _ | refine Ext.drew ?_ | refine Ext.drewN ?_ _ | refine Ext.setCell ?_ (by simp <;> omega) _)))⟩
            case measure => simp [intOf]; omega
      · have q1 : decide ((5 : Int) < (p.right.length : Int)) = false := decide_eq_false (by omega)
        have q3 : decide ((100 : Int) < (p.right.length : Int)) = false := decide_eq_false (by omega)
        go_wp2_with fail
        go_roundw
        case rel => exact ⟨i + 1, by omega, by go_num, Lib.hid (HX.out.trans (by repeat (first | exact Ext.refl _ | refine Ext.alloc ?_ _ | refine Ext.more ?_ _ _ | refine Ext.drew ?_ | refine Ext.drewN ?_ _ | refine Ext.setCell ?_ (by simp <;> omega) _)))⟩
        case measure => simp [intOf]; omega
    · obtain rfl : i = g.prods.length := by omega
      clear hx
      go_wp2_with fail
      all_goals go_ret
      all_goals exact ⟨_, rfl, (X1.out.trans HX.out).trans (by repeat (first | exact Ext.refl _ | refine Ext.alloc ?_ _ | refine Ext.more ?_ _ _ | refine Ext.drew ?_ | refine Ext.drewN ?_ _ | refine Ext.setCell ?_ (by simp <;> omega) _))⟩
section
variable {B : Option Addr} {ss : List Sty} {cs : Nat} {A : Option Addr} {c : Nat} {ts : List Prt} {w : World}
/-- both tell the same of a leaf -/
theorem leaf_both (i : Int) (hS : Styles w B ss) (hO : StylesOk w ss) (hB : ∀ s ∈ ss, s.path.length ≤ s.pc ∧ s.pc ≤ 9223372036854775807 ∧ s.path.length ≤ 1000) (bs : ss.length ≤ 70) (h : PS w A c ts) :
    ∃ v : Int, (∀ w1, Ext w w1 → Calls Try.prog 12 #[.slice B ss.length cs, .slice A ts.length c, .int .i64 i] w1 fun e w' => e = .returned (.int .i64 v) ∧ Ext w1 w') ∧
      ∀ w1, Ext w w1 → Calls Try.prog 21 #[.slice B ss.length cs, .slice A ts.length c, .int .i64 i] w1 fun e w' => e = .returned (.int .i64 v) ∧ Ext w1 w' := by
  by_cases hl : LeafAt (nds ts) i
  · obtain ⟨T, j, p, rfl, hp, hk⟩ := hl
    obtain ⟨q, hq, rfl⟩ := nds_get' hp
    have hjl := (List.getElem?_eq_some_iff.1 hq).1
    obtain ⟨ws, hws⟩ := Way.all T j j (Nat.le_refl _) (by rw [nds_length]; exact hjl)
    obtain ⟨p', us, hp', hwe⟩ := hws.ends
    rw [nds_get hq] at hp'
    injection hp' with hp'
    subst hp'
    subst hwe
    exact ⟨styleF ss q.nd.sym us, fun w1 x => leaf26_yes (hS.ext x) (hO.ext x) (by omega) (h.ext x) T hq hk hws, fun w1 x => rleaf_yes (hS.ext x) (hO.ext x) hB bs (h.ext x) T hq hk hws⟩
  · exact ⟨0, fun w1 x => leaf26_no i _ (h.ext x) hl, fun w1 x => rleaf_no i _ (h.ext x) hl⟩
end
set_option maxRecDepth 100000 in
set_option maxHeartbeats 4000000 in
theorem stylesCalls_any (B : Option Addr) (ss : List Sty) (cs : Nat) (g : Gr) (kind : Int) (D : Option Addr) (way : List Int) (cd : Nat) (A : Option Addr) (c : Nat) (ps : List Prt) (i0 : Int) (W : World) (hS : Styles W B ss) (hSO : StylesOk W ss) (hsl : ss.length ≤ 9223372036854775807) (hSB : ∀ s ∈ ss, StyB s)
    (hG : GrOk W g) (hW : Ints W D way) (hwc : way.length ≤ cd) (hcd : cd ≤ 9223372036854775807)
    (hP : Prts W A ps) (hO : PrtsOk W ps) (hl : ps.length ≤ c) (hc : c ≤ 9223372036854775807) (hA : A = none → c = 0) (hk : KidsLt ps) :
    Calls Try.prog 4 #[.slice B ss.length cs, grV g, .int .i64 kind, .slice D way.length cd, .slice A ps.length c, .int .i64 i0] W fun e w' => e = .returned (.bool true) ∧ Ext W w' := by
  have HS := Lib.hid hS
  have HSO := Lib.hid hSO
  have HSB := Lib.hid hSB
  have HGO := Lib.hid hG
  have HW := Lib.hid hW
  have HP := Lib.hid hP
  have HO := Lib.hid hO
  have HK := Lib.hid hk
  have HA := Lib.hid hA
  unfold grV
  obtain ⟨b1, hb1⟩ : ∃ b1, W.heap.size = b1 := ⟨_, rfl⟩
  obtain ⟨W1, hW1⟩ : ∃ W1, W.alloc (.cells #[.int .i64 g.terms, .int .i64 g.nons, .int .i64 g.k, .slice g.pA g.prods.length g.pc] 39) = W1 := ⟨_, rfl⟩
  have X1 : Hid (Ext W W1) := Lib.hid (by rw [← hW1]; exact (by repeat (first | exact Ext.refl _ | refine Ext.alloc ?_ _ | refine Ext.more ?_ _ _ | refine Ext.drew ?_ | refine Ext.drewN ?_ _ | refine Ext.setCell ?_ (by simp <;> omega) _)))
  have GA : Hid (GrAt W1 b1 g) := Lib.hid (GrAt.of (by rw [← hW1, ← hb1]; exact heap_alloc_new _ _))
  clear hS hSO hP hO hk hA hSB hG hW
  go_enter Try.func4, Try.ntmps4
  go_upto_region 1 with fail
  clear hW1 hb1
  go_wp2_with fail
  refine (lives26 W1).mono ?_
  rintro e w1 ⟨rfl, hx1⟩
  have HX1 := Lib.hid (X1.out.trans hx1)
  have GA1 := Lib.hid (GA.out.ext hx1)
  clear hx1 GA
  go_wp2_with fail
  refine (light26_any B ss cs D way cd A ps c w1 (HS.out.ext HX1.out) (HSO.out.ext HX1.out) hsl (by omega) (HP.out.ext HX1.out) (by omega) HK.out).mono ?_
  rintro e w2 ⟨bb, rfl, hb, hx2⟩
  have HX2 := Lib.hid (HX1.out.trans hx2)
  have GA2 := Lib.hid (GA1.out.ext hx2)
  clear hx2 HX1 GA1
  cases bb with
  | false =>
    go_wp2_with fail
    go_ret
    exact ⟨rfl, HX2.out⟩
  | true =>
    obtain ⟨hsh, hs70, hw40, hL⟩ := hb rfl
    have S : Hid (PS W A c ps) := ⟨HP.out, HO.out, hL.few (by omega), hl, hc, HA.out⟩
    have HB : Hid (∀ s ∈ ss, s.path.length ≤ s.pc ∧ s.pc ≤ 9223372036854775807 ∧ s.path.length ≤ 1000) := Lib.hid (fun s hs => ⟨(HSB.out s hs).cap, (HSB.out s hs).top, by
      unfold shortB at hsh
      rw [List.all_eq_true] at hsh
      have := hsh s hs
      simp at this
      omega⟩)
    clear hb hsh hL HP HO HK HA
    have CL := Lib.hid (fun w4 (x : Ext W w4) => lightGrammar_any g w4 (HGO.out.ext x))
    unfold grV at CL
    obtain ⟨e0, e1, e2, e3, el⟩ := GA2.out
    go_wp2_with fail
    refine (CL.out _ HX2.out).mono ?_
    rintro e w3 ⟨lb, rfl, hx3⟩
    have HX3 := Lib.hid (HX2.out.trans hx3)
    have GA3 := Lib.hid (GA2.out.ext hx3)
    clear hx3 HX2 GA2 e0 e1 e2 e3 el CL
    cases lb with
    | false =>
      go_wp2_with fail
      go_ret
      exact ⟨rfl, HX3.out⟩
    | true =>
      go_wp2_with fail
      go_loopw [13] (fun v wi => ∃ i : Nat, i ≤ ss.length ∧ v = .int .i64 i ∧ Hid (Ext w3 wi)) (fun v _ => ss.length - (intOf v).toNat)
      case atStart => exact ⟨0, by omega, rfl, Lib.hid (by repeat (first | exact Ext.refl _ | refine Ext.alloc ?_ _ | refine Ext.more ?_ _ _ | refine Ext.drew ?_ | refine Ext.drewN ?_ _ | refine Ext.setCell ?_ (by simp <;> omega) _))⟩
      case round =>
        obtain ⟨i, hi, rfl, hx⟩ := hrel
        have HX := Lib.hid hx.out
        by_cases hlt : i < ss.length
        · obtain ⟨s, hs⟩ : ∃ s, ss[i]? = some s := ⟨_, List.getElem?_eq_getElem hlt⟩
          obtain ⟨b, off, rfl, hb, hcell⟩ := (HS.out.ext (HX3.out.trans hx.out)) (by omega)
          obtain ⟨d0, d1, d2, d3⟩ := hcell i s hs
          have hsm := List.mem_of_getElem? hs
          have C1 := Lib.hid (fun w5 (x : Ext wr w5) => matches_any s kind D way cd w5 (HSO.out.ext ((HX3.out.trans hx.out).trans x) s hsm) (HW.out.ext ((HX3.out.trans hx.out).trans x)) hwc hcd)
          have C2 := Lib.hid (fun w5 (x : Ext wr w5) => rmatches_any s kind D way cd w5 (HSO.out.ext ((HX3.out.trans hx.out).trans x) s hsm) (HB.out s hsm).1 (HB.out s hsm).2.1 (HB.out s hsm).2.2 (HW.out.ext ((HX3.out.trans hx.out).trans x)) hwc hcd)
          have hmm : (decide (s.kind = kind) && endsB way s.path) = matchB s kind way := rfl
          rw [hmm] at C1
          unfold styV at C2
          obtain ⟨mb, hmb⟩ : ∃ mb, matchB s kind way = mb := ⟨_, rfl⟩
          rw [hmb] at C1 C2
          have qm : (mb != mb) = false := by cases mb <;> rfl
          clear hcell hs hsm hmm hmb hx
          go_upto_region 8 with fail
          refine wp_region_bt (15) (softs_bt [0, 1, 2, 3, 4, 5, 7, 8, 9, 10, 11, 12] (.step 6 (.step 13 (softs_bt [14] .fin)))) (by kernel_rfl) (by kernel_rfl) ?_
          (refine bt_softs _ fun K hK => ?_); (simp only [pick, nthC]); (repeat (go_big_quiet_step (fail))); (refine wpQuiet_nil (hK _ ?_)); (clear hK K)
          (refine bt_step fun next hn => ?_); (simp only [pick, nthC])
          go_wp2_with fail
          refine (C1.out _ (by repeat (first | exact Ext.refl _ | refine Ext.alloc ?_ _ | refine Ext.more ?_ _ _ | refine Ext.drew ?_ | refine Ext.drewN ?_ _ | refine Ext.setCell ?_ (by simp <;> omega) _))).mono ?_
          rintro e w5 ⟨rfl, os5, k5, rfl⟩
          go_wp2_with fail
          refine segQ_mk (fun _ => laid (by repeat (first | exact Ext.refl _ | refine Ext.alloc ?_ _ | refine Ext.more ?_ _ _ | refine Ext.drew ?_ | refine Ext.drewN ?_ _ | refine Ext.setCell ?_ (by simp <;> omega) _))) (hn _ _ ?_)
          clear hn next
          (refine bt_step fun next hn => ?_); (simp only [pick, nthC])
          go_wp2_with fail
          refine (C2.out _ (by repeat (first | exact Ext.refl _ | refine Ext.alloc ?_ _ | refine Ext.more ?_ _ _ | refine Ext.drew ?_ | refine Ext.drewN ?_ _ | refine Ext.setCell ?_ (by simp <;> omega) _))).mono ?_
          rintro e w6 ⟨rfl, os6, k6, rfl⟩
          go_wp2_with fail
          refine segQ_mk (fun _ => laid (by repeat (first | exact Ext.refl _ | refine Ext.alloc ?_ _ | refine Ext.more ?_ _ _ | refine Ext.drew ?_ | refine Ext.drewN ?_ _ | refine Ext.setCell ?_ (by simp <;> omega) _))) (hn _ _ ?_)
          clear hn next
          (refine bt_softs _ fun K hK => ?_); (simp only [pick, nthC]); (repeat (go_big_quiet_step (fail))); (refine wpQuiet_nil (hK _ ?_)); (clear hK K)
          (refine bt_fin ?_)
          go_wp2_with fail
          go_roundw
          case rel => exact ⟨i + 1, by omega, by go_num, Lib.hid (HX.out.trans (by repeat (first | exact Ext.refl _ | refine Ext.alloc ?_ _ | refine Ext.more ?_ _ _ | refine Ext.drew ?_ | refine Ext.drewN ?_ _ | refine Ext.setCell ?_ (by simp <;> omega) _)))⟩
          case measure => simp [intOf]; omega
        · obtain rfl : i = ss.length := by omega
          have GA4 := Lib.hid (GA3.out.ext HX.out)
          have HX4 := Lib.hid (HX3.out.trans HX.out)
          obtain ⟨lv, hl1, hl2⟩ := leaf_both (cs := cs) i0 (HS.out.ext HX4.out) (HSO.out.ext HX4.out) HB.out hs70 (S.out.ext HX4.out)
          have L1 := Lib.hid hl1
          have L2 := Lib.hid hl2
          have K1 := Lib.hid (fun w5 (x : Ext wr w5) => scheck_any B ss cs g w5 (HS.out.ext (HX4.out.trans x)) (HSO.out.ext (HX4.out.trans x)) HSB.out hs70 (HGO.out.ext (HX4.out.trans x)))
          have K2 := Lib.hid (fun w5 (x : Ext wr w5) => rscheck_any B ss cs g w5 (HS.out.ext (HX4.out.trans x)) (HSO.out.ext (HX4.out.trans x)) HSB.out hs70 (HGO.out.ext (HX4.out.trans x)))
          unfold grV at K1 K2
          have S1 := Lib.hid (fun w5 (x : Ext wr w5) => style_any B ss cs kind D way cd w5 (HS.out.ext (HX4.out.trans x)) (HSO.out.ext (HX4.out.trans x)) hsl (HW.out.ext (HX4.out.trans x)) hwc hcd)
          have S2 := Lib.hid (fun w5 (x : Ext wr w5) => rstyle_any B ss cs kind D way cd w5 (HS.out.ext (HX4.out.trans x)) (HSO.out.ext (HX4.out.trans x)) HB.out hs70 (HW.out.ext (HX4.out.trans x)) hwc hcd)
          obtain ⟨sv, hsv⟩ : ∃ sv, styleF ss kind way = sv := ⟨_, rfl⟩
          obtain ⟨kv, hkv⟩ : ∃ kv, stylesF g ss = kv := ⟨_, rfl⟩
          rw [hsv] at S1 S2
          rw [hkv] at K1 K2
          have q1 : (kv == kv) = true := beq_self_eq_true kv
          have q2 : (sv == sv) = true := beq_self_eq_true sv
          have q3 : (lv == lv) = true := beq_self_eq_true lv
          clear hl1 hl2 hsv hkv hx
          obtain ⟨e0, e1, e2, e3, el⟩ := GA4.out
          go_upto_region 10 with fail
          refine wp_region_bt (30) (softs_bt [0, 1, 3, 4] (.step 2 (.step 5 (softs_bt [6, 7, 8, 9, 10, 12, 13, 14] (.step 11 (.step 15 (softs_bt [16, 17, 18, 19, 20, 21, 23, 24, 25] (.step 22 (.step 26 (softs_bt [27, 28, 29] .fin)))))))))) (by kernel_rfl) (by kernel_rfl) ?_
          (refine bt_softs _ fun K hK => ?_); (simp only [pick, nthC]); (repeat (go_big_quiet_step (fail))); (refine wpQuiet_nil (hK _ ?_)); (clear hK K)
          (refine bt_step fun next hn => ?_); (simp only [pick, nthC])
          go_wp2_with fail
          refine (K1.out _ (by repeat (first | exact Ext.refl _ | refine Ext.alloc ?_ _ | refine Ext.more ?_ _ _ | refine Ext.drew ?_ | refine Ext.drewN ?_ _ | refine Ext.setCell ?_ (by simp <;> omega) _))).mono ?_
          rintro e w5 ⟨rfl, os5, k5, rfl⟩
          go_wp2_with fail
          refine segQ_mk (fun _ => laid (by repeat (first | exact Ext.refl _ | refine Ext.alloc ?_ _ | refine Ext.more ?_ _ _ | refine Ext.drew ?_ | refine Ext.drewN ?_ _ | refine Ext.setCell ?_ (by simp <;> omega) _))) (hn _ _ ?_)
          clear hn next
          (refine bt_step fun next hn => ?_); (simp only [pick, nthC])
          go_wp2_with fail
          refine (K2.out _ (by repeat (first | exact Ext.refl _ | refine Ext.alloc ?_ _ | refine Ext.more ?_ _ _ | refine Ext.drew ?_ | refine Ext.drewN ?_ _ | refine Ext.setCell ?_ (by simp <;> omega) _))).mono ?_
          rintro e w6 ⟨rfl, os6, k6, rfl⟩
          go_wp2_with fail
          refine segQ_mk (fun _ => laid (by repeat (first | exact Ext.refl _ | refine Ext.alloc ?_ _ | refine Ext.more ?_ _ _ | refine Ext.drew ?_ | refine Ext.drewN ?_ _ | refine Ext.setCell ?_ (by simp <;> omega) _))) (hn _ _ ?_)
          clear hn next
          (refine bt_softs _ fun K hK => ?_); (simp only [pick, nthC]); (repeat (go_big_quiet_step (fail))); (refine wpQuiet_nil (hK _ ?_)); (clear hK K)
          (refine bt_step fun next hn => ?_); (simp only [pick, nthC])
          go_wp2_with fail
          refine (S1.out _ (by repeat (first | exact Ext.refl _ | refine Ext.alloc ?_ _ | refine Ext.more ?_ _ _ | refine Ext.drew ?_ | refine Ext.drewN ?_ _ | refine Ext.setCell ?_ (by simp <;> omega) _))).mono ?_
          rintro e w7 ⟨rfl, os7, k7, rfl⟩
          go_wp2_with fail
          refine segQ_mk (fun _ => laid (by repeat (first | exact Ext.refl _ | refine Ext.alloc ?_ _ | refine Ext.more ?_ _ _ | refine Ext.drew ?_ | refine Ext.drewN ?_ _ | refine Ext.setCell ?_ (by simp <;> omega) _))) (hn _ _ ?_)
          clear hn next
          (refine bt_step fun next hn => ?_); (simp only [pick, nthC])
          go_wp2_with fail
          refine (S2.out _ (by repeat (first | exact Ext.refl _ | refine Ext.alloc ?_ _ | refine Ext.more ?_ _ _ | refine Ext.drew ?_ | refine Ext.drewN ?_ _ | refine Ext.setCell ?_ (by simp <;> omega) _))).mono ?_
          rintro e w8 ⟨rfl, os8, k8, rfl⟩
          go_wp2_with fail
          refine segQ_mk (fun _ => laid (by repeat (first | exact Ext.refl _ | refine Ext.alloc ?_ _ | refine Ext.more ?_ _ _ | refine Ext.drew ?_ | refine Ext.drewN ?_ _ | refine Ext.setCell ?_ (by simp <;> omega) _))) (hn _ _ ?_)
          clear hn next
          (refine bt_softs _ fun K hK => ?_); (simp only [pick, nthC]); (repeat (go_big_quiet_step (fail))); (refine wpQuiet_nil (hK _ ?_)); (clear hK K)
          (refine bt_step fun next hn => ?_); (simp only [pick, nthC])
          go_wp2_with fail
          refine (L1.out _ (by repeat (first | exact Ext.refl _ | refine Ext.alloc ?_ _ | refine Ext.more ?_ _ _ | refine Ext.drew ?_ | refine Ext.drewN ?_ _ | refine Ext.setCell ?_ (by simp <;> omega) _))).mono ?_
          rintro e w9 ⟨rfl, os9, k9, rfl⟩
          go_wp2_with fail
          refine segQ_mk (fun _ => laid (by repeat (first | exact Ext.refl _ | refine Ext.alloc ?_ _ | refine Ext.more ?_ _ _ | refine Ext.drew ?_ | refine Ext.drewN ?_ _ | refine Ext.setCell ?_ (by simp <;> omega) _))) (hn _ _ ?_)
          clear hn next
          (refine bt_step fun next hn => ?_); (simp only [pick, nthC])
          go_wp2_with fail
          refine (L2.out _ (by repeat (first | exact Ext.refl _ | refine Ext.alloc ?_ _ | refine Ext.more ?_ _ _ | refine Ext.drew ?_ | refine Ext.drewN ?_ _ | refine Ext.setCell ?_ (by simp <;> omega) _))).mono ?_
          rintro e w10 ⟨rfl, os10, k10, rfl⟩
          go_wp2_with fail
          refine segQ_mk (fun _ => laid (by repeat (first | exact Ext.refl _ | refine Ext.alloc ?_ _ | refine Ext.more ?_ _ _ | refine Ext.drew ?_ | refine Ext.drewN ?_ _ | refine Ext.setCell ?_ (by simp <;> omega) _))) (hn _ _ ?_)
          clear hn next
          (refine bt_softs _ fun K hK => ?_); (simp only [pick, nthC]); (repeat (go_big_quiet_step (fail))); (refine wpQuiet_nil (hK _ ?_)); (clear hK K)
          (refine bt_fin ?_)
          go_wp2_with fail
          go_ret
          exact ⟨rfl, HX4.out.trans (by repeat (first | exact Ext.refl _ | refine Ext.alloc ?_ _ | refine Ext.more ?_ _ _ | refine Ext.drew ?_ | refine Ext.drewN ?_ _ | refine Ext.setCell ?_ (by simp <;> omega) _))⟩
end Go.Proofs.Ytggmljookcmnkaa
