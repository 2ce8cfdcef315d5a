/- The contracts of the document's Parents, Path (viewportref16). -/
import Derived.Test.YtggmljookcmnkaaR5
import Derived.Test.YtggmljookcmnkaaB3
import Derived.Test.YtggmljookcmnkaaE3
import Derived.WalkSpells
import Derived.WalkLawsBesides
import Derived.BigRegion
import Derived.Deep.RegionWith
import Derived.Deep.QuietTactic
import Derived.Deep.DeepCutAuto
import Derived.Deep.RegionHeld3
import Derived.Deep.RegionLaw
import Derived.BigQuiet
import Derived.Lib.Hide
namespace Go.Proofs.Ytggmljookcmnkaa
open Go.RowKit
attribute [local go_sem] more_drew more_drewN more_size more_cell more_frozen more_setCell drew_more drewN_more lt_add_r lt_add_r2 lt_add_r3 lt_add_r4 lt_add_r5 lt_add_r6 lt_add_r7 lt_add_r8 lt_add_r9 lt_add_r10 lt_self_r lt_self_r2

section
variable {A : Option Addr} {c : Nat} {ps : List Prt} {w : World}
theorem rParents_no (h : PS w A c ps) (T : ¬ Tree (nds ps)) : Calls Try.prog 56 #[.slice A ps.length c] w fun e w' => e = .returned (.slice none 0 0) ∧ Ext w w' := by
  have CH := Lib.hid (rcheck_no h T)
  clear h T
  go_enter Try.func56, Try.ntmps56
  go_wp2_with fail
  refine CH.out.mono ?_
  rintro e w3 ⟨rfl, hx3⟩
  have HX3 := Lib.hid hx3
  clear hx3
  go_wp2_with fail
  go_ret
  exact ⟨rfl, HX3.out⟩
set_option maxRecDepth 100000 in
set_option maxHeartbeats 1000000 in
theorem rParents_yes (h : PS w A c ps) (T : Tree (nds ps)) : Calls Try.prog 56 #[.slice A ps.length c] w (ParsRet w (nds ps)) := by
  have CH := Lib.hid (rcheck_ok h T)
  have HS := Lib.hid h
  have hl := h.few.len
  have hl0 : 0 < ps.length := by have := T.pos; rwa [nds_length] at this
  have HT := Lib.hid T
  have hmk := run_make_row' (P := Try.prog) 30 3 (.int .i64 0) 8 Try.underlying30 infoInt rfl .i64 .i64 ps.length (by omega) (by omega)
  clear h T
  go_enter Try.func56, Try.ntmps56
  go_wp2_with fail
  refine CH.out.mono ?_
  rintro e w3 ⟨rfl, hx3⟩
  have HX3 := Lib.hid hx3
  clear hx3
  go_upto_region 4 with fail
  obtain ⟨W4, hW4⟩ : ∃ W4, w3.alloc (.cells (madeCells #[.int .i64 0] ps.length) 3) = W4 := ⟨_, rfl⟩
  have M4 : Hid (MadeI W4 w3.heap.size (List.replicate ps.length 0)) := hW4 ▸ MadeI.new _ _
  have X4 : Hid (Ext w W4) := hW4 ▸ HX3.out.alloc _
  have hg : w.heap.size ≤ w3.heap.size := HX3.out.size
  rw [hW4]
  generalize w3.heap.size = g at *
  obtain ⟨m1, m2, m3⟩ := M4.out.cell (k := 0) (by simp; omega)
  have M5 := Lib.hid (M4.out.store 0 (-1))
  have X5 := Lib.hid (X4.out.setCell (p := ⟨g, 0, none⟩) hg (.int .i64 (-1)))
  clear hW4 hmk
  go_wp2_with fail
  generalize hW5 : W4.setCell ⟨g, 0, none⟩ (.int .i64 (-1)) = W5 at *
  clear hW5 m1 m2 m3
  go_loopw [4] (fun i wr => ∃ (j : Nat) (us : List Int), j ≤ ps.length ∧ i = .int .i64 j ∧ Hid (MadeI wr g us) ∧ Hid (ParUpto (nds ps) us j 0) ∧ Hid (Ext w wr)) (fun i _ => ps.length - (intOf i).toNat)
  case atStart => exact ⟨0, _, Nat.zero_le _, rfl, M5, Lib.hid (ParUpto.first (by simp [nds_length]) (by rw [List.getElem?_set_self (by rw [List.length_replicate]; exact hl0)])), X5⟩
  case round =>
    obtain ⟨j, us, hj, rfl, hM, hU, hX⟩ := hrel
    by_cases hlt : j < ps.length
    · obtain ⟨⟨q, kA, kcap⟩, hq⟩ : ∃ q, ps[j]? = some q := ⟨_, List.getElem?_eq_getElem hlt⟩
      obtain ⟨b, off, rfl, hb, hcell⟩ := (HS.out.ext hX.out).parts (by omega)
      obtain ⟨d0, d1, d2, d3, d4, d5, d6, d7⟩ := hcell j _ hq
      have ho := (HS.out.oks.get hq)
      have o1 : q.kids.length ≤ kcap := ho.cap
      have o2 : kcap ≤ 9223372036854775807 := ho.top
      dsimp only at d0 d1 d2 d3 d4 d5 d6 d7
      have HOQ := Lib.hid ho
      have HQ := Lib.hid (nds_get hq)
      have hq0 := hq
      clear hcell hq ho
      have D6 := Lib.hid (fun (V : World) (x : Ext w V) => (HS.out.ext x).parts (by omega))
      have HQP := Lib.hid hq0
      clear d0 d1 d2 d3 d4 d5 d6 d7 hq0
      go_wp2_with fail
      go_loopw [5] (fun i wr => ∃ (k : Nat) (us : List Int), k ≤ q.kids.length ∧ i = .int .i64 k ∧ Hid (MadeI wr g us) ∧ Hid (ParUpto (nds ps) us j k) ∧ Hid (Ext w wr)) (fun i _ => q.kids.length - (intOf i).toNat)
      case atStart => exact ⟨0, us, Nat.zero_le _, rfl, hM, hU, hX⟩
      case round =>
        obtain ⟨k, us, hk, rfl, hM, hU, hX⟩ := hrel
        obtain ⟨b', off', hA', hb', hcell⟩ := D6.out wr hX.out
        injection hA' with hA'
        injection hA' with ea eb
        subst ea eb
        have d6 := (hcell j _ HQP.out).2.2.2.2.2.2.1
        dsimp only at d6
        clear hcell
        by_cases hkl : k < q.kids.length
        · obtain ⟨b2, off2, hkA, hb2, hc2⟩ := (HOQ.out.ext hX.out).kids (by show 0 < q.kids.length; omega)
          change kA = _ at hkA
          subst hkA
          have e1 := hc2 k hkl
          obtain ⟨i, hi1, hi2, hi3⟩ := HT.out.kid_behind HQ.out (q.kids.getD k 0) (by rw [List.getD_eq_getElem?_getD, List.getElem?_eq_getElem hkl]; exact List.getElem_mem hkl)
          dsimp only at e1
          rw [hi1] at e1
          rw [nds_length] at hi3
          have hlen := hU.out.len
          rw [nds_length] at hlen
          obtain ⟨m1, m2, m3⟩ := hM.out.cell (k := i) (by omega)
          have M7 := Lib.hid (hM.out.store i j)
          have X7 := Lib.hid (hX.out.setCell (p := ⟨g, i, none⟩) hg (.int .i64 (j : Int)))
          have U7 := Lib.hid (hU.out.kid HT.out HQ.out (c := i) (K := k) (by rw [← hi1, List.getD_eq_getElem?_getD, List.getElem?_eq_getElem hkl]; rfl))
          clear hc2 hi1 hM hU hX hlen
          go_wp2_with fail
          go_roundw
          case rel => exact ⟨k + 1, _, by omega, by go_num, M7, U7, X7⟩
          case measure => simp [intOf]; omega
        · obtain rfl : k = q.kids.length := by omega
          go_wp2_with fail
          go_roundw
          case rel => exact ⟨j + 1, us, by omega, by go_num, hM, Lib.hid (ParUpto.next HQ.out hU.out), hX⟩
          case measure => simp [intOf]; omega
    · obtain rfl : j = ps.length := by omega
      go_wp2_with fail
      go_ret
      have hlen := hU.out.len
      rw [nds_length] at hlen
      have e : (Value.slice (some ⟨g, 0, none⟩) ps.length ps.length) = .slice (some ⟨g, 0, none⟩) us.length us.length := by rw [hlen]
      exact ⟨us, ParUpto.done (by rw [nds_length]; exact hU.out), some ⟨g, 0, none⟩, us.length, by rw [← e]; rfl, hM.out.own hg (by omega), hX.out⟩
set_option maxRecDepth 100000 in
set_option maxHeartbeats 1000000 in
theorem rPath_no (i : Int) (h : PS w A c ps) (T : ¬ IsP (nds ps) i) : Calls Try.prog 13 #[.slice A ps.length c, .int .i64 i] w fun e w' => e = .returned (.slice none 0 0) ∧ Ext w w' := by
  have CH := Lib.hid (ris_false i h T)
  clear h T
  go_enter Try.func13, Try.ntmps13
  go_wp2_with fail
  refine CH.out.mono ?_
  rintro e w2 ⟨rfl, hx2⟩
  have HX := Lib.hid hx2
  clear hx2
  go_wp2_with fail
  go_ret
  exact ⟨rfl, HX.out⟩
set_option maxRecDepth 100000 in
set_option maxHeartbeats 2000000 in
theorem rPath_yes (i : Nat) (ws : List Int) (h : PS w A c ps) (T : Tree (nds ps)) (hw : Way (nds ps) i ws) (hi : i < ps.length) : Calls Try.prog 13 #[.slice A ps.length c, .int .i64 i] w (IntsRet w ws) := by
  have CH := Lib.hid (ris_true i h ⟨T, by omega, by rw [nds_length]; omega⟩)
  have HS := Lib.hid h
  have HT := Lib.hid T
  have HW := Lib.hid hw
  have hl := h.few.len
  have hwl : ws.length ≤ 1001 := by have := hw.length T; omega
  clear h T hw
  go_enter Try.func13, Try.ntmps13
  go_wp2_with fail
  refine CH.out.mono ?_
  rintro e w2 ⟨rfl, hx2⟩
  have HX := Lib.hid hx2
  clear hx2
  go_wp2_with fail
  refine (rParents_yes (HS.out.ext HX.out) HT.out).mono ?_
  rintro e w3 ⟨us, hus, Au, cu, rfl, hou, hx3⟩
  have HX3 := Lib.hid (HX.out.trans hx3)
  have HU := Lib.hid hou
  have HUS := Lib.hid hus
  have hul : us.length = ps.length := by rw [hus.1, nds_length]
  have hu1 := hou.ints.2.1
  have hu2 := hou.ints.2.2.1
  unfold maxLen at hu2
  clear hx3 hou hus
  go_wp2_with fail
  go_loopw [1, 6] (fun s v wr => ∃ (xs : List Int), xs.length ≤ ws.length ∧ Hid (RowI wr w3.heap.size v xs) ∧ Hid (Ext w3 wr) ∧
      ((∃ (j : Nat) (vs : List Int), s = .int .i64 j ∧ j < ps.length ∧ Hid (Way (nds ps) j vs ∧ ws = vs ++ xs)) ∨ (s = .int .i64 (-1) ∧ Hid (ws = xs)))) (fun s _ _ => (intOf s + 1).toNat)
  case atStart => exact ⟨[], Nat.zero_le _, Lib.hid ⟨none, 0, rfl, OwnI.nil _ _⟩, Lib.hid (Ext.refl _), .inl ⟨i, ws, rfl, hi, Lib.hid ⟨HW.out, by simp⟩⟩⟩
  case round =>
    obtain ⟨xs, hxl, hr, hx, (⟨j, vs, rfl, hj, hv⟩ | ⟨rfl, hv⟩)⟩ := hrel
    · obtain ⟨⟨q, kA, kcap⟩, hq⟩ : ∃ q, ps[j]? = some q := ⟨_, List.getElem?_eq_getElem hj⟩
      obtain ⟨b, off, rfl, hb, hcell⟩ := (HS.out.ext (HX3.out.trans hx.out)).parts (by omega)
      obtain ⟨d0, _, _, _, _, _, _, _⟩ := hcell j _ hq
      dsimp only at d0
      have HQ := Lib.hid hq
      clear hcell hq
      obtain ⟨b2, off2, rfl, hb2, hc2⟩ := HU.out.ints.1 (by omega)
      have e1 := hc2 j (by omega)
      clear hc2
      have hj2 : j < us.length := by omega
      have hxl2 : xs.length + 1 ≤ 1000000 := by omega
      have HXX := Lib.hid (HX3.out.trans hx.out)
      obtain ⟨hway, hws⟩ := hv.out
      obtain ⟨s', hs'⟩ : ∃ s', us.getD j 0 = s' := ⟨_, rfl⟩
      have hus' : us[j]? = some s' := by rw [← hs', List.getD_eq_getElem?_getD, List.getElem?_eq_getElem hj2]; rfl
      rw [hs'] at e1
      have NEXT : Hid (xs.length + 1 ≤ ws.length ∧ ((∃ (j' : Nat) (vs' : List Int), s' = (j' : Int) ∧ j' < j ∧ Way (nds ps) j' vs' ∧ ws = vs' ++ ([q.sym] ++ xs)) ∨ (s' = -1 ∧ ws = [q.sym] ++ xs))) := by
        cases hway with
        | root p hp =>
          rw [nds_get HQ.out] at hp
          cases hp
          rw [HUS.out.2.1] at hus'
          cases hus'
          exact ⟨by rw [hws]; simp, .inr ⟨rfl, hws⟩⟩
        | step _ j' p vs' hu hp hw' =>
          rw [nds_get HQ.out] at hp
          cases hp
          rw [HUS.out.2.2 j j' hu] at hus'
          cases hus'
          refine ⟨by rw [hws]; simp <;> omega, .inl ⟨j', vs', rfl, (HT.out.up_lt hu).1, hw', ?_⟩⟩
          rw [hws, List.append_assoc]
      clear hway hws hv hs' hus'
      obtain ⟨A1, c1, rfl, ho⟩ := hr.out
      have HO := Lib.hid ho
      clear ho hr
      go_wp2_with (at_builtin; refine app_ints wr (by rfl) (.tmp 24) (.tmp 25) rfl (xs := [q.sym]) ⟨some ⟨wr.heap.size, 0, none⟩, 1, rfl, own_lit wr wr.heap.size 3 1 wr.heap.size 1 #[.int .i64 q.sym] rfl (Nat.le_refl _) rfl (by unfold maxLen; omega)⟩ xs A1 c1 rfl rfl (HO.out.ints.2.2.2) (HO.out.ints.1.ext (by repeat (first | exact Ext.refl _ | refine Ext.alloc ?_ _ | refine Ext.more ?_ _ _ | refine Ext.drew ?_ | refine Ext.drewN ?_ _ | refine Ext.setCell ?_ (by simp <;> omega) _))) (by simp; omega) (by repeat (first | exact Ext.refl _ | refine Ext.alloc ?_ _ | refine Ext.more ?_ _ _ | refine Ext.drew ?_ | refine Ext.drewN ?_ _ | refine Ext.setCell ?_ (by simp <;> omega) _)) ?_; intro v7 w7 hr7 hg7 hx7; have e7 := (hx7.below.cell (p := ⟨b2, off2 + j, none⟩) (Nat.lt_of_lt_of_le hb2 hx.out.size)).trans ((hx.out.below.cell (p := ⟨b2, off2 + j, none⟩) hb2).trans e1); have lb7 : b2 < w7.heap.size := Nat.lt_of_lt_of_le hb2 (Nat.le_trans hx.out.size hx7.size))
      have HR7 := Lib.hid hr7
      have HX7 := Lib.hid hx7
      clear hr7 hg7 hx7 e7
      go_roundw
      case rel =>
        obtain ⟨hn1, hn2⟩ := NEXT.out
        obtain ⟨A7, c7, rfl, ho7⟩ := HR7.out
        refine ⟨[q.sym] ++ xs, by simp; omega, Lib.hid ⟨A7, c7, rfl, ho7.base hx.out.size⟩, Lib.hid (hx.out.trans HX7.out), ?_⟩
        rcases hn2 with ⟨j', vs', rfl, hjj, h1, h2⟩ | ⟨rfl, h2⟩
        · exact .inl ⟨j', vs', rfl, by omega, Lib.hid ⟨h1, h2⟩⟩
        · exact .inr ⟨rfl, Lib.hid h2⟩
      case measure =>
        obtain ⟨hn1, hn2⟩ := NEXT.out
        rcases hn2 with ⟨j', vs', rfl, hjj, h1, h2⟩ | ⟨rfl, h2⟩ <;> simp only [intOf] <;> omega
    · obtain ⟨A1, c1, rfl, ho⟩ := hr.out
      have HO := Lib.hid ho
      have HV := Lib.hid hv.out
      clear ho
      go_wp2_with fail
      go_ret
      refine ⟨A1, c1, by rw [HV.out]; rfl, ?_, HX3.out.trans hx.out⟩
      rw [HV.out]
      exact HO.out.base HX3.out.size
end
end Go.Proofs.Ytggmljookcmnkaa
