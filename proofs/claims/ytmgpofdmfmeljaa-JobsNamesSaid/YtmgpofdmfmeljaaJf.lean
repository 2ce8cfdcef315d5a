/- A thing sinks. -/
import Derived.Test.YtmgpofdmfmeljaaJe
import Derived.WalkSpells
import Derived.WalkLawsBesides
import Derived.BigRegion
import Derived.Deep.RegionWith
import Derived.Deep.QuietTactic
import Derived.Deep.DeepCutAuto
import Derived.Deep.RegionHeld3
import Derived.Deep.RegionLaw
import Derived.BigQuiet
import Derived.Lib.Hide
namespace Go.Proofs.Ytmgpofdmfmeljaa
open Go.RowKit
attribute [local go_sem] more_drew more_drewN more_size more_cell more_frozen more_setCell drew_more drewN_more lt_add_r lt_add_r2 lt_add_r3 lt_add_r4 lt_add_r5 lt_add_r6 lt_add_r7 lt_add_r8 lt_add_r9 lt_add_r10 lt_self_r lt_self_r2

/-- the least of a place and its first j kids -/
def lstL (kv : Kv) (X : List It) (i : Nat) : Nat → Nat
  | 0 => i
  | j + 1 => if 2 * i + 1 + j < X.length ∧ ltI kv (X.getD (2 * i + 1 + j) z6) (X.getD (lstL kv X i j) z6) = true then 2 * i + 1 + j else lstL kv X i j
theorem lstL_lt (kv : Kv) (X : List It) (i j : Nat) (hi : i < X.length) : lstL kv X i j < X.length ∧ (lstL kv X i j = i ∨ (2 * i + 1 ≤ lstL kv X i j ∧ lstL kv X i j < 2 * i + 1 + j)) := by
  induction j with
  | zero => exact ⟨hi, .inl rfl⟩
  | succ j ih =>
    simp only [lstL]
    split
    · rename_i h
      exact ⟨h.1, .inr ⟨by omega, by omega⟩⟩
    · exact ⟨ih.1, ih.2.imp id fun h => ⟨h.1, by omega⟩⟩
/-- the sinking -/
def downL (kv : Kv) : Nat → List It → Nat → List It
  | 0, X, _ => X
  | f + 1, X, i => if lstL kv X i 2 = i then X else downL kv f (swp X i (lstL kv X i 2)) (lstL kv X i 2)
theorem downL_fuel (kv : Kv) : ∀ (f f' i : Nat) (X : List It), i < X.length → X.length ≤ f + i → X.length ≤ f' + i → downL kv f X i = downL kv f' X i
  | 0, f', i, X, hi, h, h' => by omega
  | f + 1, 0, i, X, hi, h, h' => by omega
  | f + 1, f' + 1, i, X, hi, h, h' => by
    simp only [downL]
    split
    · rfl
    · rename_i hne
      have := lstL_lt kv X i 2 hi
      exact downL_fuel kv f f' _ _ (by rw [swp_length]; omega) (by rw [swp_length]; omega) (by rw [swp_length]; omega)
theorem lstL_stop (kv : Kv) (X : List It) (i j : Nat) (h : X.length ≤ 2 * i + 1 + j) : lstL kv X i (j + 1) = lstL kv X i j := by
  simp only [lstL]
  rw [if_neg (by omega)]
theorem lstL_two (kv : Kv) (X : List It) (i j : Nat) (hj : j ≤ 2) (h : j = 2 ∨ X.length ≤ 2 * i + 1 + j) : lstL kv X i 2 = lstL kv X i j := by
  rcases (show j = 0 ∨ j = 1 ∨ j = 2 by omega) with rfl | rfl | rfl
  · rw [lstL_stop kv X i 1 (by omega), lstL_stop kv X i 0 (by omega)]
  · rw [lstL_stop kv X i 1 (by omega)]
  · rfl

set_option maxRecDepth 100000 in
set_option maxHeartbeats 3000000 in
theorem down_any {p : Nat} {o : Od} {v : Value} {X : List It} {c : Int} (i : Nat) (hi : i < X.length) (hX : X.length ≤ 200000) (w : World) (h : HeapAt w p o v X c) : Calls Try.prog 37 #[.pointer (some ⟨p, 0, none⟩), .int .i64 (i : Int)] w fun e w' => e = .returned (.tuple #[]) ∧ HeapAt w' p o v (downL o.k X.length X i) c ∧ Turn (mine p v) w w' := by
  obtain ⟨g, cap, rfl, hpg, hg, hlc, hcm⟩ := h.form (by omega)
  have H := Lib.hid h
  clear h
  go_enter Try.func37, Try.ntmps37
  go_wp2_with fail
  go_loopw [1] (fun s wr => ∃ (k : Nat) (Y : List It), k < X.length ∧ s = .int .i64 k ∧ Y.length = X.length ∧ Hid (downL o.k Y.length Y k = downL o.k X.length X i) ∧ HeapAt wr p o (.slice (some ⟨g, 0, none⟩) X.length cap) Y c ∧ Turn (mine p (.slice (some ⟨g, 0, none⟩) X.length cap)) w wr) (fun s _ => X.length - (intOf s).toNat)
  case atStart => exact ⟨i, X, hi, rfl, rfl, Lib.hid rfl, H.out, Turn.refl _⟩
  case round =>
    obtain ⟨k, Y, hk, rfl, hY, hU, hHY, hT⟩ := hrel
    have HY := Lib.hid hY
    have HHY := Lib.hid hHY
    have HT := Lib.hid hT
    clear hY hHY hT
    go_wp2_with fail
    go_loopw [4, 5] (fun s4 s5 wr2 => ∃ j l q : Nat, j ≤ 2 ∧ Hid (q = 2 * k + 1 + j) ∧ Hid (l = lstL o.k Y k j) ∧ s4 = .int .i64 (l : Int) ∧ s5 = .int .i64 (q : Int) ∧ Ext wr wr2) (fun _ s _ => 2 * k + 3 - (intOf s).toNat)
    case atStart => exact ⟨0, k, 2 * k + 1, by omega, Lib.hid rfl, Lib.hid rfl, rfl, by congr 1; omega, Ext.refl _⟩
    case round =>
      obtain ⟨j, l, q, hj, hq, hl, rfl, rfl, os, kk, rfl⟩ := hrel
      have hk' : k < Y.length := by rw [HY.out]; exact hk
      have hll := lstL_lt o.k Y k j hk'
      rw [← hl.out] at hll
      obtain ⟨hl1, hl2⟩ := hll
      have hq1 : 2 * k + 1 ≤ q := by have := hq.out; omega
      have H1 := HHY.out.ext (w' := more wr os kk) ⟨os, kk, rfl⟩
      obtain ⟨_, c1, _⟩ := HHY.out.cell
      have hpw := HHY.out.lt
      by_cases hlt : j < 2 ∧ q < Y.length
      · have hqk : q ≤ 2 * k + 2 := by have := hq.out; omega
        have b1 : decide ((q : Int) ≤ (k : Int) * 2 + 2) = true := by simp; omega
        have b2 : decide (q < X.length) = true := by have := HY.out; simp; omega
        have HLT := Lib.hid hlt
        have HL2 := Lib.hid hl2
        have HQ1 := Lib.hid H1
        clear hlt hl2 H1
        go_wp2_with fail
        refine (less_any q l HLT.out.2 hl1 _ HQ1.out).mono ?_
        rintro e w1 ⟨rfl, os2, k2, rfl⟩
        cases hb : ltI o.k (Y.getD q z6) (Y.getD l z6)
        · have HB := Lib.hid hb
          clear hb
          go_wp2_with fail
          go_roundw
          case rel => exact ⟨j + 1, l, q + 1, by have := HLT.out; omega, Lib.hid (by rw [hq.out]; omega), Lib.hid (by simp only [lstL]; rw [if_neg (by rw [← hq.out, ← hl.out, HB.out]; simp)]; exact hl.out), rfl, by go_num, (by repeat (first | exact Ext.refl _ | refine Ext.alloc ?_ _ | refine Ext.more ?_ _ _ | refine Ext.drew ?_ | refine Ext.drewN ?_ _ | refine Ext.setCell ?_ (by simp <;> omega) _))⟩
          case measure => simp [intOf]; omega
        · have HB := Lib.hid hb
          clear hb
          go_wp2_with fail
          go_roundw
          case rel => exact ⟨j + 1, q, q + 1, by have := HLT.out; omega, Lib.hid (by rw [hq.out]; omega), Lib.hid (by simp only [lstL]; rw [if_pos (by rw [← hq.out, ← hl.out, HB.out]; exact ⟨HLT.out.2, rfl⟩)]; exact hq.out), rfl, by go_num, (by repeat (first | exact Ext.refl _ | refine Ext.alloc ?_ _ | refine Ext.more ?_ _ _ | refine Ext.drew ?_ | refine Ext.drewN ?_ _ | refine Ext.setCell ?_ (by simp <;> omega) _))⟩
          case measure => simp [intOf]; omega
      · have hstop := Lib.hid (lstL_two o.k Y k j hj (by have := hq.out; omega))
        rcases (show 2 * k + 2 < q ∨ (q ≤ 2 * k + 2 ∧ X.length ≤ q) by have := hq.out; have := HY.out; omega) with hcase | hcase
        · have b1 : decide ((q : Int) ≤ (k : Int) * 2 + 2) = false := by simp; omega
          have HD : Hid True := Lib.hid trivial
          by_cases hlk : l = k
          · have e1 : ((l : Int) == (k : Int)) = true := by simp [hlk]
            have HLK := Lib.hid hlk
            clear hlk hl2 H1
            go_wp2_with fail
            refine bodyPost_ret (results_none rfl _ _ _) rfl ?_
            have hY2 : Y = downL o.k X.length X i := by
              rw [← hU.out]
              obtain ⟨f, hf⟩ : ∃ f, Y.length = f + 1 := ⟨Y.length - 1, by omega⟩
              rw [hf]
              simp only [downL]
              rw [if_pos (by rw [hstop.out, ← hl.out]; exact HLK.out)]
            exact ⟨rfl, hY2 ▸ HHY.out.ext (by repeat (first | exact Ext.refl _ | refine Ext.alloc ?_ _ | refine Ext.more ?_ _ _ | refine Ext.drew ?_ | refine Ext.drewN ?_ _ | refine Ext.setCell ?_ (by simp <;> omega) _)), HT.out.trans (Turn.of_ext (by repeat (first | exact Ext.refl _ | refine Ext.alloc ?_ _ | refine Ext.more ?_ _ _ | refine Ext.drew ?_ | refine Ext.drewN ?_ _ | refine Ext.setCell ?_ (by simp <;> omega) _)))⟩
          · have e1 : ((l : Int) == (k : Int)) = false := by simp; omega
            have hlk2 : k < l := by omega
            have HLK := Lib.hid hlk
            clear hlk hl2
            have HQ' : HeapAt (more wr os kk) p o (.slice (some ⟨g, 0, none⟩) Y.length cap) Y c := by rw [HY.out]; exact H1
            obtain ⟨i0, i1, i2, i3, i4, i5⟩ := HQ'.item k (by omega)
            obtain ⟨j0, j1, j2, j3, j4, j5⟩ := HQ'.item l (by omega)
            have z0 := HQ'.row.frozenAt (k * 6)
            have z1 := HQ'.row.frozenAt (k * 6 + 1)
            have z2 := HQ'.row.frozenAt (k * 6 + 2)
            have z3 := HQ'.row.frozenAt (k * 6 + 3)
            have z4 := HQ'.row.frozenAt (k * 6 + 4)
            have z5 := HQ'.row.frozenAt (k * 6 + 5)
            have y0 := HQ'.row.frozenAt (l * 6)
            have y1 := HQ'.row.frozenAt (l * 6 + 1)
            have y2 := HQ'.row.frozenAt (l * 6 + 2)
            have y3 := HQ'.row.frozenAt (l * 6 + 3)
            have y4 := HQ'.row.frozenAt (l * 6 + 4)
            have y5 := HQ'.row.frozenAt (l * 6 + 5)
            have HH := Lib.hid HQ'
            have hT1 := Lib.hid (HT.out.trans (Turn.of_ext (w' := more wr os kk) ⟨os, kk, rfl⟩))
            have hg1 : g < (more wr os kk).heap.size := Nat.lt_of_lt_of_le hg hT1.out.size
            have hp1 := HQ'.lt
            obtain ⟨_, c1', _⟩ := H1.cell
            have hU2 : Hid (downL o.k (swp Y k l).length (swp Y k l) l = downL o.k X.length X i) := by
              show _ = _
              rw [← hU.out]
              obtain ⟨f, hf⟩ : ∃ f, Y.length = f + 1 := ⟨Y.length - 1, by omega⟩
              conv => rhs; rw [hf]; simp only [downL]; rw [if_neg (by rw [hstop.out, ← hl.out]; exact HLK.out), hstop.out, ← hl.out]
              exact downL_fuel _ _ _ _ _ (by rw [swp_length]; omega) (by omega) (by rw [swp_length]; omega)
            clear HQ' H1 c1
            generalize hW : more wr os kk = w1 at *
            clear hW
            obtain ⟨xk, hxk⟩ : ∃ x, Y.getD k z6 = x := ⟨_, rfl⟩
            obtain ⟨xm, hxm⟩ : ∃ x, Y.getD l z6 = x := ⟨_, rfl⟩
            rw [hxk] at i0 i1 i2 i3 i4 i5
            rw [hxm] at j0 j1 j2 j3 j4 j5
            have HXK := Lib.hid hxk
            have HXM := Lib.hid hxm
            clear hxk hxm
            have d0 : (k : Int) < (X.length : Int) := by omega
            have d1 : (l : Int) < (X.length : Int) := by have := HY.out; omega
            have d2 : (0 : Int) ≤ (k : Int) := by omega
            have d3 : (0 : Int) ≤ (l : Int) := by omega
            go_wp2_with fail
            go_region
            go_wp2_with fail
            obtain ⟨l1, t1⟩ := HH.out.lay k xm
            have l1' : HeapAt (lay6 w1 g k xm) p o (.slice (some ⟨g, 0, none⟩) (Y.set k xm).length cap) (Y.set k xm) c := by rw [List.length_set]; exact l1
            obtain ⟨l2, t2⟩ := l1'.lay l xk
            rw [List.length_set, HY.out] at l2
            rw [List.length_set, HY.out] at t2
            rw [HY.out] at t1
            have l3 := l2.ext ((Ext.refl _).drew)
            have t3 := ((hT1.out.trans t1).trans t2).trans (Turn.of_ext ((Ext.refl _).drew))
            unfold lay6 at l3 t3
            have ee : swp Y k l = (Y.set k xm).set l xk := by unfold swp; rw [HXK.out, HXM.out]
            have ll : l < X.length := by rw [← HY.out]; exact hl1
            refine ⟨⟨l, swp Y k l, ll, rfl, by rw [swp_length, HY.out], hU2, ?_, ?_⟩, by show X.length - ((l : Int)).toNat < X.length - ((k : Int)).toNat; omega⟩
            · rw [ee]
              exact l3
            · exact t3
        · have b1 : decide ((q : Int) ≤ (k : Int) * 2 + 2) = true := by simp; omega
          have b2 : decide (q < X.length) = false := by simp; omega
          by_cases hlk : l = k
          · have e1 : ((l : Int) == (k : Int)) = true := by simp [hlk]
            have HLK := Lib.hid hlk
            clear hlk hl2 H1
            go_wp2_with fail
            refine bodyPost_ret (results_none rfl _ _ _) rfl ?_
            have hY2 : Y = downL o.k X.length X i := by
              rw [← hU.out]
              obtain ⟨f, hf⟩ : ∃ f, Y.length = f + 1 := ⟨Y.length - 1, by omega⟩
              rw [hf]
              simp only [downL]
              rw [if_pos (by rw [hstop.out, ← hl.out]; exact HLK.out)]
            exact ⟨rfl, hY2 ▸ HHY.out.ext (by repeat (first | exact Ext.refl _ | refine Ext.alloc ?_ _ | refine Ext.more ?_ _ _ | refine Ext.drew ?_ | refine Ext.drewN ?_ _ | refine Ext.setCell ?_ (by simp <;> omega) _)), HT.out.trans (Turn.of_ext (by repeat (first | exact Ext.refl _ | refine Ext.alloc ?_ _ | refine Ext.more ?_ _ _ | refine Ext.drew ?_ | refine Ext.drewN ?_ _ | refine Ext.setCell ?_ (by simp <;> omega) _)))⟩
          · have e1 : ((l : Int) == (k : Int)) = false := by simp; omega
            have hlk2 : k < l := by omega
            have HLK := Lib.hid hlk
            clear hlk hl2
            have HQ' : HeapAt (more wr os kk) p o (.slice (some ⟨g, 0, none⟩) Y.length cap) Y c := by rw [HY.out]; exact H1
            obtain ⟨i0, i1, i2, i3, i4, i5⟩ := HQ'.item k (by omega)
            obtain ⟨j0, j1, j2, j3, j4, j5⟩ := HQ'.item l (by omega)
            have z0 := HQ'.row.frozenAt (k * 6)
            have z1 := HQ'.row.frozenAt (k * 6 + 1)
            have z2 := HQ'.row.frozenAt (k * 6 + 2)
            have z3 := HQ'.row.frozenAt (k * 6 + 3)
            have z4 := HQ'.row.frozenAt (k * 6 + 4)
            have z5 := HQ'.row.frozenAt (k * 6 + 5)
            have y0 := HQ'.row.frozenAt (l * 6)
            have y1 := HQ'.row.frozenAt (l * 6 + 1)
            have y2 := HQ'.row.frozenAt (l * 6 + 2)
            have y3 := HQ'.row.frozenAt (l * 6 + 3)
            have y4 := HQ'.row.frozenAt (l * 6 + 4)
            have y5 := HQ'.row.frozenAt (l * 6 + 5)
            have HH := Lib.hid HQ'
            have hT1 := Lib.hid (HT.out.trans (Turn.of_ext (w' := more wr os kk) ⟨os, kk, rfl⟩))
            have hg1 : g < (more wr os kk).heap.size := Nat.lt_of_lt_of_le hg hT1.out.size
            have hp1 := HQ'.lt
            obtain ⟨_, c1', _⟩ := H1.cell
            have hU2 : Hid (downL o.k (swp Y k l).length (swp Y k l) l = downL o.k X.length X i) := by
              show _ = _
              rw [← hU.out]
              obtain ⟨f, hf⟩ : ∃ f, Y.length = f + 1 := ⟨Y.length - 1, by omega⟩
              conv => rhs; rw [hf]; simp only [downL]; rw [if_neg (by rw [hstop.out, ← hl.out]; exact HLK.out), hstop.out, ← hl.out]
              exact downL_fuel _ _ _ _ _ (by rw [swp_length]; omega) (by omega) (by rw [swp_length]; omega)
            clear HQ' H1 c1
            generalize hW : more wr os kk = w1 at *
            clear hW
            obtain ⟨xk, hxk⟩ : ∃ x, Y.getD k z6 = x := ⟨_, rfl⟩
            obtain ⟨xm, hxm⟩ : ∃ x, Y.getD l z6 = x := ⟨_, rfl⟩
            rw [hxk] at i0 i1 i2 i3 i4 i5
            rw [hxm] at j0 j1 j2 j3 j4 j5
            have HXK := Lib.hid hxk
            have HXM := Lib.hid hxm
            clear hxk hxm
            have d0 : (k : Int) < (X.length : Int) := by omega
            have d1 : (l : Int) < (X.length : Int) := by have := HY.out; omega
            have d2 : (0 : Int) ≤ (k : Int) := by omega
            have d3 : (0 : Int) ≤ (l : Int) := by omega
            go_wp2_with fail
            go_region
            go_wp2_with fail
            obtain ⟨l1, t1⟩ := HH.out.lay k xm
            have l1' : HeapAt (lay6 w1 g k xm) p o (.slice (some ⟨g, 0, none⟩) (Y.set k xm).length cap) (Y.set k xm) c := by rw [List.length_set]; exact l1
            obtain ⟨l2, t2⟩ := l1'.lay l xk
            rw [List.length_set, HY.out] at l2
            rw [List.length_set, HY.out] at t2
            rw [HY.out] at t1
            have l3 := l2.ext ((Ext.refl _).drew)
            have t3 := ((hT1.out.trans t1).trans t2).trans (Turn.of_ext ((Ext.refl _).drew))
            unfold lay6 at l3 t3
            have ee : swp Y k l = (Y.set k xm).set l xk := by unfold swp; rw [HXK.out, HXM.out]
            have ll : l < X.length := by rw [← HY.out]; exact hl1
            refine ⟨⟨l, swp Y k l, ll, rfl, by rw [swp_length, HY.out], hU2, ?_, ?_⟩, by show X.length - ((l : Int)).toNat < X.length - ((k : Int)).toNat; omega⟩
            · rw [ee]
              exact l3
            · exact t3
end Go.Proofs.Ytmgpofdmfmeljaa
