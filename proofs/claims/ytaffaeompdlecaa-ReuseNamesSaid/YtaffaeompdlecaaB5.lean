/- The contracts of slices.Reverse, Path. -/
import Derived.Test.YtaffaeompdlecaaB4
import Derived.WalkSpells
import Derived.WalkLawsBesides
import Derived.BigRegion
import Derived.Deep.RegionWith
import Derived.Deep.QuietTactic
import Derived.Deep.DeepCutAuto
import Derived.Deep.RegionHeld3
import Derived.Deep.RegionLaw
import Derived.BigQuiet
import Derived.Lib.Hide
namespace Go.Proofs.Ytaffaeompdlecaa
open Go.RowKit
attribute [local go_sem] more_drew more_drewN more_size more_cell more_frozen more_setCell drew_more drewN_more lt_add_r lt_add_r2 lt_add_r3 lt_add_r4 lt_add_r5 lt_add_r6 lt_add_r7 lt_add_r8 lt_add_r9 lt_add_r10 lt_self_r lt_self_r2

theorem OwnI.store {w : World} {base g c : Nat} {xs : List Int} (h : OwnI w base (some ⟨g, 0, none⟩) c xs) {k : Nat} (hk : k < xs.length) (x : Int) : OwnI (w.setCell ⟨g, k, none⟩ (.int .i64 x)) base (some ⟨g, 0, none⟩) c (xs.set k x) := by
  obtain ⟨h1, h2⟩ := h
  rcases h2 with ⟨h2, _⟩ | ⟨g', cap, cur, h2, h3, h4, h5, h6, h7, h8⟩
  · cases h2
  · injection h2 with a1 a2 a3
    injection a1 with a1
    injection a1 with a1
    subst a1 a3
    refine ⟨by rw [iv_length, List.length_set, Nat.mul_one], .inr ⟨g, c, cur.setIfInBounds k (.int .i64 x), by rw [List.length_set], h3, by simp [World.setCell, Array.getElem?_modify, h4], by rw [List.length_set]; exact h5, h6, by rw [Array.size_setIfInBounds]; exact h7, ?_⟩⟩
    unfold iv at h8 ⊢
    rw [List.map_set, List.length_set, Array.toList_setIfInBounds, List.take_set, h8]
theorem OwnI.cell {w : World} {base g c : Nat} {xs : List Int} (h : OwnI w base (some ⟨g, 0, none⟩) c xs) {k : Nat} (hk : k < xs.length) : w.cell? ⟨g, k, none⟩ = some (.int .i64 (xs.getD k 0)) ∧ w.frozen? ⟨g, k, none⟩ = false ∧ g < w.heap.size := by
  obtain ⟨hI, _⟩ := h.ints
  obtain ⟨b, off, hA, hb, hc⟩ := hI (by omega)
  injection hA with hA
  injection hA with hA hB
  subst hA hB
  have := hc k hk
  rw [Nat.zero_add] at this
  exact ⟨this, World.ownsRow.frozenAt h k, hb⟩
/-- the ends are turned about as far as i -/
def RevTo (xs ys : List Int) (i : Nat) : Prop := ys.length = xs.length ∧ ∀ k, k < xs.length → ys.getD k 0 = if k < i ∨ xs.length ≤ k + i then xs.getD (xs.length - 1 - k) 0 else xs.getD k 0
theorem RevTo.first (xs : List Int) : RevTo xs xs 0 := ⟨rfl, fun k hk => by rw [if_neg (by omega)]⟩
theorem RevTo.swap {xs ys : List Int} {i j : Nat} (h : RevTo xs ys i) (hj : i + j + 1 = xs.length) (hij : i < j) : RevTo xs ((ys.set i (ys.getD j 0)).set j (ys.getD i 0)) (i + 1) := by
  refine ⟨by rw [List.length_set, List.length_set, h.1], fun k hk => ?_⟩
  have hl := h.1
  have hi := h.2 i (by omega)
  have hjj := h.2 j (by omega)
  rw [if_neg (by omega)] at hi hjj
  by_cases h1 : k = j
  · subst h1
    rw [List.getD_eq_getElem?_getD, List.getElem?_set_self (by rw [List.length_set]; omega), if_pos (by omega), Option.getD_some, hi]
    congr 1
    omega
  · by_cases h2 : k = i
    · subst h2
      rw [List.getD_eq_getElem?_getD, List.getElem?_set_ne (by omega), List.getElem?_set_self (by omega), if_pos (by omega), Option.getD_some, hjj]
      congr 1
      omega
    · have hkk := h.2 k hk
      rw [List.getD_eq_getElem?_getD, List.getElem?_set_ne (by omega), List.getElem?_set_ne (by omega), ← List.getD_eq_getElem?_getD, hkk]
      by_cases h3 : k < i ∨ xs.length ≤ k + i
      · rw [if_pos h3, if_pos (by omega)]
      · rw [if_neg h3, if_neg (by omega)]
theorem RevTo.done {xs ys : List Int} {i : Nat} (h : RevTo xs ys i) (hi : xs.length ≤ i + i + 1) : ys = xs.reverse := by
  apply List.ext_getElem?
  intro k
  rcases Nat.lt_or_ge k xs.length with hk | hk
  · have hkk := h.2 k hk
    have e1 : ys[k]? = some (ys.getD k 0) := by
      rw [List.getD_eq_getElem?_getD, List.getElem?_eq_getElem (by rw [h.1]; exact hk)]
      rfl
    rw [e1, hkk, List.getElem?_reverse hk]
    have e2 : ∀ j, j < xs.length → some (xs.getD j 0) = xs[j]? := fun j hj => by
      rw [List.getD_eq_getElem?_getD, List.getElem?_eq_getElem hj]
      rfl
    by_cases h3 : k < i ∨ xs.length ≤ k + i
    · rw [if_pos h3, e2 _ (by omega)]
    · rw [if_neg h3, e2 _ hk]
      congr 1
      omega
  · rw [List.getElem?_eq_none (by rw [h.1]; exact hk), List.getElem?_eq_none (by rw [List.length_reverse]; exact hk)]
/-- a row is turned about -/
def RevPost (w : World) (base : Nat) (A : Option Addr) (c : Nat) (xs : List Int) (e : Ending) (w' : World) : Prop := e = .returned (.tuple #[]) ∧ OwnI w' base A c xs.reverse ∧ Turn (fun b => base ≤ b) w w'
set_option maxRecDepth 100000 in
set_option maxHeartbeats 2000000 in
theorem reverse_any (A : Option Addr) (c base : Nat) (xs : List Int) (w : World) (h : OwnI w base A c xs) (hl : xs.length ≤ 1000000) (hb : base ≤ w.heap.size) : Calls Try.prog 94 #[.slice A xs.length c] w (RevPost w base A c xs) := by
  rcases Nat.eq_zero_or_pos xs.length with h0 | h0
  · obtain rfl := List.eq_nil_of_length_eq_zero h0
    have HH := Lib.hid h
    clear h
    go_enter Try.func94, Try.ntmps94
    go_wp2
    refine wp_loop_rounds 1 ?_
    rw [rounds_succ]
    go_wp2
    go_end0
    exact ⟨rfl, HH.out, Turn.refl _⟩
  · have hint := h.ints
    obtain ⟨g, off, rfl, hg, _⟩ := hint.1 h0
    have hoff : off = 0 ∧ base ≤ g := by
      rcases h.2 with ⟨h2, _⟩ | ⟨g', cap, cur, h2, h3, _⟩
      · cases h2
      · injection h2 with a1 a2 a3
        injection a1 with a1
        injection a1 with a1 a2
        subst a1 a2
        exact ⟨rfl, h3⟩
    obtain ⟨rfl, hbg⟩ := hoff
    have HH := Lib.hid h
    clear h hint
    go_enter Try.func94, Try.ntmps94
    go_wp2
    go_loopw [2, 3] (fun s t wr => ∃ (i : Nat) (ys : List Int), i < xs.length ∧ s = .int .i64 i ∧ t = .int .i64 ((xs.length : Int) - 1 - (i : Int)) ∧ Hid (RevTo xs ys i) ∧ Hid (OwnI wr base (some ⟨g, 0, none⟩) c ys) ∧ Hid (Turn (fun b => base ≤ b) w wr)) (fun s _ _ => xs.length - (intOf s).toNat)
    case atStart => exact ⟨0, xs, h0, rfl, by go_num, Lib.hid (RevTo.first xs), HH, Lib.hid (Turn.refl _)⟩
    case round =>
      obtain ⟨i, ys, hi, rfl, rfl, hR, hO, hT⟩ := hrel
      obtain ⟨j, hj⟩ : ∃ j : Nat, i + j + 1 = xs.length := ⟨xs.length - 1 - i, by omega⟩
      have ej : (xs.length : Int) - 1 - (i : Int) = (j : Int) := by omega
      rw [ej]
      by_cases hlt : i < j
      · have hyl := hR.out.1
        obtain ⟨a1, a2, a3⟩ := hO.out.cell (k := i) (by omega)
        obtain ⟨b1, b2, b3⟩ := hO.out.cell (k := j) (by omega)
        have O1 := hO.out.store (k := i) (by omega) (ys.getD j 0)
        have O2 := O1.store (k := j) (by rw [List.length_set]; omega) (ys.getD i 0)
        have R2 := Lib.hid (hR.out.swap hj hlt)
        have T2 := Lib.hid ((hT.out.trans (Turn.setCell (S := fun b => base ≤ b) wr (p := ⟨g, i, none⟩) hbg (.int .i64 (ys.getD j 0)))).trans (Turn.setCell (S := fun b => base ≤ b) _ (p := ⟨g, j, none⟩) hbg (.int .i64 (ys.getD i 0))))
        obtain ⟨x, hx⟩ : ∃ x, ys.getD i 0 = x := ⟨_, rfl⟩
        obtain ⟨y, hy⟩ : ∃ y, ys.getD j 0 = y := ⟨_, rfl⟩
        rw [hx] at a1
        rw [hy] at b1
        rw [hx, hy] at O2 R2 T2
        have HO2 := Lib.hid O2
        have g1 : (i : Int) < (xs.length : Int) := by omega
        have g2 : (j : Int) < (xs.length : Int) := by omega
        clear hR hO hT O1 O2 hx hy hyl ej
        go_wp2_with fail
        go_region
        go_wp2_with fail
        refine ⟨⟨i + 1, _, by omega, by go_num, congrArg (Value.int IntKind.i64) (by omega), R2, Lib.hid (HO2.out.ext ((Ext.refl _).drew)), Lib.hid (T2.out.trans (Turn.of_ext ((Ext.refl _).drew)))⟩, by simp only [intOf]; omega⟩
      · have hR2 := Lib.hid (hR.out.done (by omega))
        clear hR ej
        go_wp2_with fail
        go_end0
        refine ⟨rfl, ?_, hT.out⟩
        rw [← hR2.out]
        exact hO.out
section
variable {A : Option Addr} {c : Nat} {ps : List Prt} {w : World}
set_option maxRecDepth 100000 in
set_option maxHeartbeats 1000000 in
theorem Path_no (i : Int) (h : PS w A c ps) (T : ¬ IsP (nds ps) i) : Calls Try.prog 25 #[.slice A ps.length c, .int .i64 i] w fun e w' => e = .returned (.slice none 0 0) ∧ Ext w w' := by
  have CH := Lib.hid (is_false i h T)
  clear h T
  go_enter Try.func25, Try.ntmps25
  go_wp2_with fail
  refine CH.out.mono ?_
  rintro e w2 ⟨rfl, hx2⟩
  have HX := Lib.hid hx2
  clear hx2
  go_wp2_with fail
  go_ret
  exact ⟨rfl, HX.out⟩
set_option maxRecDepth 100000 in
set_option maxHeartbeats 1000000 in
theorem Path_yes (i : Nat) (ws : List Int) (h : PS w A c ps) (T : Tree (nds ps)) (hw : Way (nds ps) i ws) (hi : i < ps.length) : Calls Try.prog 25 #[.slice A ps.length c, .int .i64 i] w (IntsRet w ws) := by
  have CH := Lib.hid (is_true i h ⟨T, by omega, by rw [nds_length]; omega⟩)
  have HS := Lib.hid h
  have HT := Lib.hid T
  have HW := Lib.hid hw
  have hl := h.few.len
  have hwl : ws.length ≤ 1001 := by have := hw.length T; omega
  clear h T hw
  go_enter Try.func25, Try.ntmps25
  go_wp2_with fail
  refine CH.out.mono ?_
  rintro e w2 ⟨rfl, hx2⟩
  have HX := Lib.hid hx2
  clear hx2
  go_wp2_with fail
  refine (Parents_yes (HS.out.ext HX.out) HT.out).mono ?_
  rintro e w3 ⟨us, hus, Au, cu, rfl, hou, hx3⟩
  have HX3 := Lib.hid (HX.out.trans hx3)
  have HU := Lib.hid hou
  have HUS := Lib.hid hus
  have hul : us.length = ps.length := by rw [hus.1, nds_length]
  have hu1 := hou.ints.2.1
  have hu2 := hou.ints.2.2.1
  unfold maxLen at hu2
  clear hx3 hou hus
  go_wp2_with fail
  go_loopw [1, 5] (fun s v wr => ∃ (xs : List Int), xs.length ≤ ws.length ∧ Hid (RowI wr w3.heap.size v xs) ∧ Hid (Ext w3 wr) ∧
      ((∃ (j : Nat) (vs : List Int), s = .int .i64 j ∧ j < ps.length ∧ Hid (Way (nds ps) j vs ∧ ws = vs ++ xs.reverse)) ∨ (s = .int .i64 (-1) ∧ Hid (ws = xs.reverse)))) (fun s _ _ => (intOf s + 1).toNat)
  case atStart => exact ⟨[], Nat.zero_le _, Lib.hid ⟨none, 0, rfl, OwnI.nil _ _⟩, Lib.hid (Ext.refl _), .inl ⟨i, ws, rfl, hi, Lib.hid ⟨HW.out, by simp⟩⟩⟩
  case round =>
    obtain ⟨xs, hxl, hr, hx, (⟨j, vs, rfl, hj, hv⟩ | ⟨rfl, hv⟩)⟩ := hrel
    · obtain ⟨⟨q, kA, kcap⟩, hq⟩ : ∃ q, ps[j]? = some q := ⟨_, List.getElem?_eq_getElem hj⟩
      obtain ⟨b, off, rfl, hb, hcell⟩ := (HS.out.ext (HX3.out.trans hx.out)).parts (by omega)
      obtain ⟨d0, _, _, _, _, _, _, _⟩ := hcell j _ hq
      dsimp only at d0
      have HQ := Lib.hid hq
      clear hcell hq
      obtain ⟨b2, off2, rfl, hb2, hc2⟩ := HU.out.ints.1 (by omega)
      have e1 := hc2 j (by omega)
      clear hc2
      have hj2 : j < us.length := by omega
      have HL : Hid (xs.length ≤ 1000000) := Lib.hid (by omega)
      have HXX := Lib.hid (HX3.out.trans hx.out)
      obtain ⟨hway, hws⟩ := hv.out
      obtain ⟨s', hs'⟩ : ∃ s', us.getD j 0 = s' := ⟨_, rfl⟩
      have hus' : us[j]? = some s' := by rw [← hs', List.getD_eq_getElem?_getD, List.getElem?_eq_getElem hj2]; rfl
      rw [hs'] at e1
      have NEXT : Hid (xs.length + 1 ≤ ws.length ∧ ((∃ (j' : Nat) (vs' : List Int), s' = (j' : Int) ∧ j' < j ∧ Way (nds ps) j' vs' ∧ ws = vs' ++ (xs ++ [q.sym]).reverse) ∨ (s' = -1 ∧ ws = (xs ++ [q.sym]).reverse))) := by
        cases hway with
        | root p hp =>
          rw [nds_get HQ.out] at hp
          cases hp
          rw [HUS.out.2.1] at hus'
          cases hus'
          refine ⟨by rw [hws]; simp, .inr ⟨rfl, ?_⟩⟩
          rw [hws, List.reverse_append]
          rfl
        | step _ j' p vs' hu hp hw' =>
          rw [nds_get HQ.out] at hp
          cases hp
          rw [HUS.out.2.2 j j' hu] at hus'
          cases hus'
          refine ⟨by rw [hws]; simp, .inl ⟨j', vs', rfl, (HT.out.up_lt hu).1, hw', ?_⟩⟩
          rw [hws, List.reverse_append, List.append_assoc]
          rfl
      clear hway hws hv hs' hus'
      go_wp2_with (at_builtin; refine app_int w3 (by rfl) (.tmp 19) (.tmp 25) rfl (hr.out.ext (by repeat (first | exact Ext.refl _ | refine Ext.alloc ?_ _ | refine Ext.more ?_ _ _ | refine Ext.drew ?_ | refine Ext.drewN ?_ _ | refine Ext.setCell ?_ (by simp <;> omega) _))) q.sym wr.heap.size rfl rfl (by simp) (by simp [go_sem]) HL.out (hx.out.trans (by repeat (first | exact Ext.refl _ | refine Ext.alloc ?_ _ | refine Ext.more ?_ _ _ | refine Ext.drew ?_ | refine Ext.drewN ?_ _ | refine Ext.setCell ?_ (by simp <;> omega) _))) ?_; intro v7 w7 hr7 hg7 hx7; have e7 := (hx7.below.cell (p := ⟨b2, off2 + j, none⟩) hb2).trans e1)
      have HR7 := Lib.hid hr7
      have HX7 := Lib.hid hx7
      clear hr7 hg7 hx7 e7
      go_roundw
      case rel =>
        obtain ⟨hn1, hn2⟩ := NEXT.out
        refine ⟨xs ++ [q.sym], by simp; omega, HR7, HX7, ?_⟩
        rcases hn2 with ⟨j', vs', rfl, hjj, h1, h2⟩ | ⟨rfl, h2⟩
        · exact .inl ⟨j', vs', rfl, by omega, Lib.hid ⟨h1, h2⟩⟩
        · exact .inr ⟨rfl, Lib.hid h2⟩
      case measure =>
        obtain ⟨hn1, hn2⟩ := NEXT.out
        rcases hn2 with ⟨j', vs', rfl, hjj, h1, h2⟩ | ⟨rfl, h2⟩ <;> simp only [intOf] <;> omega
    · obtain ⟨A1, c1, rfl, ho⟩ := hr.out
      have HO := Lib.hid ho
      have HV := Lib.hid hv.out
      clear ho
      go_wp2_with fail
      refine (reverse_any A1 c1 w3.heap.size xs wr HO.out (by omega) hx.out.size).mono ?_
      rintro e w8 ⟨rfl, ho8, t8⟩
      have HO8 := Lib.hid ho8
      have HX8 := Lib.hid (HX3.out.trans (Ext.of_below (hx.out.below.trans (t8.below hx.out.size fun k hk => hk))))
      clear ho8 t8
      go_wp2_with fail
      go_ret
      have hlx : xs.length = ws.length := by rw [HV.out, List.length_reverse]
      refine ⟨A1, c1, by show Ending.returned (Value.slice A1 xs.length c1) = _; rw [hlx], ?_, HX8.out⟩
      rw [HV.out]
      exact HO8.out.base HX3.out.size
end
end Go.Proofs.Ytaffaeompdlecaa
