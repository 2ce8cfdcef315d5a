/- The contracts of is, end, End. -/
import Derived.Test.YtaffaeompdlecaaA8
import Derived.WalkSpells
import Derived.WalkLawsBesides
import Derived.BigRegion
import Derived.Deep.RegionWith
import Derived.Deep.QuietTactic
import Derived.Deep.DeepCutAuto
import Derived.Deep.RegionHeld3
import Derived.Deep.RegionLaw
import Derived.BigQuiet
import Derived.Lib.Hide
namespace Go.Proofs.Ytaffaeompdlecaa
open Go.RowKit
attribute [local go_sem] more_drew more_drewN more_size more_cell more_frozen more_setCell drew_more drewN_more lt_add_r lt_add_r2 lt_add_r3 lt_add_r4 lt_add_r5 lt_add_r6 lt_add_r7 lt_add_r8 lt_add_r9 lt_add_r10 lt_self_r lt_self_r2

/-- a slice of parts that is read -/
structure PS (w : World) (A : Option Addr) (c : Nat) (ps : List Prt) : Prop where
  parts : Prts w A ps
  oks : PrtsOk w ps
  few : Few ps
  cap : ps.length ≤ c
  top : c ≤ 9223372036854775807
  none : A = .none → c = 0
theorem PS.ext {w w' : World} {A : Option Addr} {c : Nat} {ps : List Prt} (h : PS w A c ps) (e : Ext w w') : PS w' A c ps := ⟨h.parts.ext e, h.oks.ext e, h.few, h.cap, h.top, h.none⟩
theorem PS.below {w w' : World} {A : Option Addr} {c : Nat} {ps : List Prt} (h : PS w A c ps) (e : Below w.heap.size w w') : PS w' A c ps := ⟨h.parts.below e, h.oks.below e, h.few, h.cap, h.top, h.none⟩
section
variable {A : Option Addr} {c : Nat} {ps : List Prt} {w : World}
theorem check_ok (h : PS w A c ps) (T : Tree (nds ps)) : Calls Try.prog 22 #[.slice A ps.length c] w fun e w' => e = .returned (.int .i64 0) ∧ Ext w w' :=
  (check_any A c ps w h.parts h.oks h.few).mono fun _ _ ⟨he, hx⟩ => ⟨by rw [he, (checkF_few h.few.len).1 T], hx⟩
theorem check_no (h : PS w A c ps) (T : ¬ Tree (nds ps)) : Calls Try.prog 22 #[.slice A ps.length c] w fun e w' => e = .returned (.int .i64 2) ∧ Ext w w' :=
  (check_any A c ps w h.parts h.oks h.few).mono fun _ _ ⟨he, hx⟩ => ⟨by rw [he, (checkF_few h.few.len).2 T], hx⟩
set_option maxRecDepth 100000 in
set_option maxHeartbeats 1000000 in
theorem is_no (i : Int) (h : PS w A c ps) (T : ¬ Tree (nds ps)) : Calls Try.prog 93 #[.slice A ps.length c, .int .i64 i] w fun e w' => e = .returned (.bool false) ∧ Ext w w' := by
  have CH := Lib.hid (check_no h T)
  have hl := h.few.len
  clear h T
  go_enter Try.func93, Try.ntmps93
  go_wp2_with fail
  refine CH.out.mono ?_
  rintro e w2 ⟨rfl, hx2⟩
  have HX := Lib.hid hx2
  clear hx2
  go_wp2_with fail
  go_ret
  exact ⟨rfl, HX.out⟩
set_option maxRecDepth 100000 in
set_option maxHeartbeats 1000000 in
theorem is_yes (i : Int) (h : PS w A c ps) (T : Tree (nds ps)) : Calls Try.prog 93 #[.slice A ps.length c, .int .i64 i] w fun e w' => e = .returned (.bool (decide (0 ≤ i) && decide (i < (ps.length : Int)))) ∧ Ext w w' := by
  have CH := Lib.hid (check_ok h T)
  have hl := h.few.len
  clear h T
  go_enter Try.func93, Try.ntmps93
  go_wp2_with fail
  refine CH.out.mono ?_
  rintro e w2 ⟨rfl, hx2⟩
  have HX := Lib.hid hx2
  clear hx2
  go_wp2_with fail
  all_goals go_ret
  all_goals exact ⟨ret_bool (by rw [Bool.eq_iff_iff]; simp; try omega), HX.out⟩
set_option maxRecDepth 100000 in
set_option maxHeartbeats 1000000 in
theorem end_any' (i m : Nat) (h : PS w A c ps) (hp : Part (nds ps) i m) : Calls Try.prog 95 #[.slice A ps.length c, .int .i64 i] w fun e w' => e = .returned (.int .i64 m) ∧ Ext w w' := by
  have HS := Lib.hid h
  have HP := Lib.hid hp
  have hl := h.few.len
  have hm : m ≤ ps.length := by have := hp.le; rwa [nds_length] at this
  clear h hp
  go_enter Try.func95, Try.ntmps95
  go_wp2_with fail
  go_loopw [1] (fun i wr => ∃ c1 : Nat, i = .int .i64 c1 ∧ Hid (Part (nds ps) c1 m) ∧ Ext w wr) (fun i _ => m - (intOf i).toNat)
  case atStart => exact ⟨i, rfl, HP, Ext.refl _⟩
  case round =>
    obtain ⟨c1, rfl, hc1, hx⟩ := hrel
    have hlt := hc1.out.lt
    have hlm := hc1.out.lt_end
    rw [nds_length] at hlt
    obtain ⟨⟨q, kA, kcap⟩, hq⟩ : ∃ q, ps[c1]? = some q := ⟨_, List.getElem?_eq_getElem hlt⟩
    obtain ⟨b, off, rfl, hb, hcell⟩ := (HS.out.ext hx).parts (by omega)
    obtain ⟨_, _, _, _, _, _, d6, _⟩ := hcell c1 _ hq
    have ho := (HS.out.ext hx).oks.get hq
    have o1 := ho.cap
    have o2 := ho.top
    have HX := Lib.hid hx
    dsimp only at d6 o1 o2
    rcases Nat.eq_zero_or_pos q.kids.length with h0 | h0
    · have e1 := hc1.out.leaf (nds_get hq) (List.eq_nil_of_length_eq_zero h0)
      have g0 : decide (0 < q.kids.length) = false := by simp [h0]
      have E1 := Lib.hid e1
      clear hcell hq ho hx h0 e1
      go_wp2_with fail
      go_ret
      exact ⟨ret_int (by rw [E1.out]; simp), HX.out⟩
    · obtain ⟨b2, off2, hkA, hb2, hc2⟩ := ho.kids h0
      change kA = _ at hkA
      subst hkA
      have e2 := hc2 (q.kids.length - 1) (by show _ < q.kids.length; omega)
      dsimp only at e2
      obtain ⟨k, hk⟩ : ∃ k, q.kids.getLast? = some k := ⟨_, List.getLast?_eq_some_getLast (by intro h; rw [h] at h0; simp at h0)⟩
      obtain ⟨c2, rfl, hcc, hp2⟩ := hc1.out.last (nds_get hq) hk
      have e3 : q.kids.getD (q.kids.length - 1) 0 = (c2 : Int) := by
        rw [List.getLast?_eq_getElem?] at hk
        rw [List.getD_eq_getElem?_getD, hk]
        rfl
      rw [e3] at e2
      have g0 : decide (0 < q.kids.length) = true := by simp [h0]
      have HP2 := Lib.hid hp2
      have s1 : IntKind.i64.wrap ((q.kids.length : Int) - 1) = ((q.kids.length - 1 : Nat) : Int) := by
        rw [show ((q.kids.length : Int) - 1) = ((q.kids.length - 1 : Nat) : Int) by omega]
        exact IntWalk.i64_in _ (by omega)
      have s2 : q.kids.length - 1 < q.kids.length := by omega
      clear hcell hq ho hx hc2 hk e3 hp2
      go_upto_region 2 with fail
      go_quiet (fail)
      go_wp2_with fail
      go_roundw
      case rel => exact ⟨c2, rfl, HP2, HX.out.trans (by repeat (first | exact Ext.refl _ | refine Ext.alloc ?_ _ | refine Ext.more ?_ _ _ | refine Ext.drew ?_ | refine Ext.drewN ?_ _ | refine Ext.setCell ?_ (by simp <;> omega) _))⟩
      case measure => simp [intOf]; omega
end
end Go.Proofs.Ytaffaeompdlecaa
