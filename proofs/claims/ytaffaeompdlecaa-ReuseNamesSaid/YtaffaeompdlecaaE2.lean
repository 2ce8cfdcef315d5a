/- The contracts of EqualFunc, tree.Same; Own, OwnParts. -/
import Derived.Test.YtaffaeompdlecaaE1
import Derived.Test.YtaffaeompdlecaaD4
import Derived.WalkSpells
import Derived.WalkLawsBesides
import Derived.BigRegion
import Derived.Deep.RegionWith
import Derived.Deep.QuietTactic
import Derived.Deep.DeepCutAuto
import Derived.Deep.RegionHeld3
import Derived.Deep.RegionLaw
import Derived.BigQuiet
import Derived.Lib.Hide
namespace Go.Proofs.Ytaffaeompdlecaa
open Go.RowKit
attribute [local go_sem] more_drew more_drewN more_size more_cell more_frozen more_setCell drew_more drewN_more lt_add_r lt_add_r2 lt_add_r3 lt_add_r4 lt_add_r5 lt_add_r6 lt_add_r7 lt_add_r8 lt_add_r9 lt_add_r10 lt_self_r lt_self_r2

theorem takeN {l : List Nd} {k : Nat} {p : Nd} (h : l[k]? = some p) : l.take (k + 1) = l.take k ++ [p] := by
  rw [List.take_add_one, h]
  rfl
set_option maxRecDepth 100000 in
set_option maxHeartbeats 4000000 in
theorem equalFunc_any (A B : Option Addr) (ps qs : List Prt) (c d : Nat) (w : World) (hP : Prts w A ps) (hO : PrtsOk w ps) (hQ : Prts w B qs) (hOq : PrtsOk w qs) (bx : ps.length ≤ 1000000) (by_ : qs.length ≤ 1000000) :
    Calls Try.prog 103 #[.slice A ps.length c, .slice B qs.length d, .func (.func 104) #[] #[]] w
      fun e w' => e = .returned (.bool (decide (nds ps = nds qs))) ∧ Ext w w' := by
  by_cases hl : ps.length = qs.length
  · have hl2 : ((ps.length : Int) != (qs.length : Int)) = false := by simp; omega
    have HL := Lib.hid hl
    have HP := Lib.hid hP
    have HQ := Lib.hid hQ
    have HO := Lib.hid hO
    have HOQ := Lib.hid hOq
    clear hl hP hO hQ hOq
    go_enter Try.func103, Try.ntmps103
    go_wp2_with fail
    go_loopw [17] (fun i wr => ∃ k : Nat, k ≤ ps.length ∧ i = .int .i64 k ∧ Hid ((nds ps).take k = (nds qs).take k) ∧ Hid (Ext w wr)) (fun i _ => ps.length - (intOf i).toNat)
    case atStart => exact ⟨0, by omega, rfl, Lib.hid (by simp), Lib.hid (by repeat (first | exact Ext.refl _ | refine Ext.alloc ?_ _ | refine Ext.more ?_ _ _ | refine Ext.drew ?_ | refine Ext.drewN ?_ _ | refine Ext.setCell ?_ (by simp <;> omega) _))⟩
    case round =>
      obtain ⟨k, hk, rfl, ht, hx⟩ := hrel
      by_cases hlt : k < ps.length
      · have hlt2 : k < qs.length := by have := HL.out; omega
        obtain ⟨p, hp⟩ : ∃ p, ps[k]? = some p := ⟨_, List.getElem?_eq_getElem hlt⟩
        obtain ⟨q, hq⟩ : ∃ q, qs[k]? = some q := ⟨_, List.getElem?_eq_getElem hlt2⟩
        obtain ⟨b1, o1, rfl, hb1, hc1⟩ := (HP.out.ext hx.out) (by omega)
        obtain ⟨b2, o2, rfl, hb2, hc2⟩ := (HQ.out.ext hx.out) (by omega)
        obtain ⟨x0, x1, x2, x3, x4, x5, x6, x7⟩ := hc1 k p hp
        obtain ⟨y0, y1, y2, y3, y4, y5, y6, y7⟩ := hc2 k q hq
        have CF := Lib.hid (fun w1 (x : Ext w w1) => same1_any p q w1 ((HO.out.get hp).ext x) ((HOQ.out.get hq).ext x))
        have HN1 := Lib.hid (nds_get hp)
        have HN2 := Lib.hid (nds_get hq)
        clear hc1 hc2 hp hq
        go_wp2_with fail
        refine (CF.out _ (hx.out.trans (by repeat (first | exact Ext.refl _ | refine Ext.alloc ?_ _ | refine Ext.more ?_ _ _ | refine Ext.drew ?_ | refine Ext.drewN ?_ _ | refine Ext.setCell ?_ (by simp <;> omega) _)))).mono ?_
        rintro e w2 ⟨rfl, hx2⟩
        have HX2 := Lib.hid ((hx.out.trans (by repeat (first | exact Ext.refl _ | refine Ext.alloc ?_ _ | refine Ext.more ?_ _ _ | refine Ext.drew ?_ | refine Ext.drewN ?_ _ | refine Ext.setCell ?_ (by simp <;> omega) _))).trans hx2)
        clear hx2 hx x0 x1 x2 x3 x4 x5 x6 x7 y0 y1 y2 y3 y4 y5 y6 y7
        cases hs : sameB p.nd q.nd with
        | true =>
          have hs2 := Lib.hid ((sameB_iff _ _).1 hs)
          clear hs
          go_wp2_with fail
          go_roundw
          case rel => exact ⟨k + 1, by omega, by go_num, Lib.hid (by rw [takeN HN1.out, takeN HN2.out, ht.out, hs2.out]), HX2⟩
          case measure => simp [intOf]; omega
        | false =>
          have hs2 : Hid (p.nd ≠ q.nd) := Lib.hid (fun h => by rw [(sameB_iff _ _).2 h] at hs; cases hs)
          clear hs
          go_wp2_with fail
          go_ret
          refine ⟨ret_bool ?_, HX2.out⟩
          symm
          rw [decide_eq_false_iff_not]
          intro h
          apply hs2.out
          have h1 := HN1.out
          rw [h, HN2.out] at h1
          injection h1 with h1
          exact h1.symm
      · obtain rfl : k = ps.length := by omega
        go_wp2_with fail
        go_ret
        refine ⟨ret_bool ?_, hx.out⟩
        symm
        rw [decide_eq_true_eq]
        have := ht.out
        have h2 := HL.out
        rwa [List.take_of_length_le (by rw [nds_length]; omega), List.take_of_length_le (by rw [nds_length]; omega)] at this
  · have hl2 : ((ps.length : Int) != (qs.length : Int)) = true := by simp; omega
    have hl3 : decide (nds ps = nds qs) = false := by
      rw [decide_eq_false_iff_not]
      intro h
      exact hl (by rw [← nds_length ps, h, nds_length])
    have HL := Lib.hid hl3
    clear hl hl3 hP hO hQ hOq
    go_enter Try.func103, Try.ntmps103
    go_wp2
    go_ret
    exact ⟨ret_bool HL.out.symm, (by repeat (first | exact Ext.refl _ | refine Ext.alloc ?_ _ | refine Ext.more ?_ _ _ | refine Ext.drew ?_ | refine Ext.drewN ?_ _ | refine Ext.setCell ?_ (by simp <;> omega) _))⟩
set_option maxRecDepth 100000 in
theorem sameT_any (A B : Option Addr) (ps qs : List Prt) (c d : Nat) (w : World) (hP : Prts w A ps) (hO : PrtsOk w ps) (hQ : Prts w B qs) (hOq : PrtsOk w qs) (bx : ps.length ≤ 1000000) (by_ : qs.length ≤ 1000000) :
    Calls Try.prog 32 #[.slice A ps.length c, .slice B qs.length d] w fun e w' => e = .returned (.bool (decide (nds ps = nds qs))) ∧ Ext w w' := by
  have CE := Lib.hid (equalFunc_any A B ps qs c d w hP hO hQ hOq bx by_)
  clear hP hO hQ hOq
  go_enter Try.func32, Try.ntmps32
  go_wp2_with fail
  refine CE.out.mono ?_
  rintro e w2 ⟨rfl, hx⟩
  have HX := Lib.hid hx
  clear hx
  go_wp2_with fail
  go_ret
  exact ⟨rfl, HX.out⟩
end Go.Proofs.Ytaffaeompdlecaa
