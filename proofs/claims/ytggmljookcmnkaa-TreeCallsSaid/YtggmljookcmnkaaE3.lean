/- E3: 3 texts in one. -/
import Derived.Test.YtggmljookcmnkaaD4
import Derived.Test.YtggmljookcmnkaaD1
import Derived.Test.YtggmljookcmnkaaD5
import Derived.Test.YtggmljookcmnkaaE1
import Derived.WalkSpells
import Derived.WalkLawsBesides
import Derived.BigRegion
import Derived.Deep.RegionWith
import Derived.Deep.QuietTactic
import Derived.Deep.DeepCutAuto
import Derived.Deep.RegionHeld3
import Derived.Deep.RegionLaw
import Derived.BigQuiet
import Derived.Lib.Hide
/- Stores into rows of parts; the contracts of Own, OwnParts. -/
namespace Go.Proofs.Ytggmljookcmnkaa
open Go.RowKit
attribute [local go_sem] more_drew more_drewN more_size more_cell more_frozen more_setCell drew_more drewN_more lt_add_r lt_add_r2 lt_add_r3 lt_add_r4 lt_add_r5 lt_add_r6 lt_add_r7 lt_add_r8 lt_add_r9 lt_add_r10 lt_self_r lt_self_r2

theorem pv_set : ∀ {qs : List Prt} {i : Nat} {q q' : Prt} {r : Nat} {u : Value}, qs[i]? = some q → r < 8 → prtCells q' = (prtCells q).set r u → pv (qs.set i q') = (pv qs).set (i * 8 + r) u
  | [], i, q, q', r, u, h, _, _ => by simp at h
  | p :: qs, 0, q, q', r, u, h, hr, hc => by
    simp at h
    subst h
    simp only [List.set_cons_zero, pv, List.flatMap_cons, Nat.zero_mul, Nat.zero_add]
    rw [hc, List.set_append_left _ _ (by simp [prtCells]; omega)]
  | p :: qs, i + 1, q, q', r, u, h, hr, hc => by
    have ih := pv_set (qs := qs) (i := i) (q := q) (q' := q') (r := r) (u := u) (by simpa using h) hr hc
    simp only [List.set_cons_succ]
    have e : pv (p :: qs.set i q') = prtCells p ++ pv (qs.set i q') := by simp [pv]
    have e2 : pv (p :: qs) = prtCells p ++ pv qs := by simp [pv]
    rw [e, e2, ih, List.set_append_right _ _ (by simp [prtCells]; omega)]
    congr 2
    simp [prtCells]
    omega
theorem row_store {w : World} {base g c n : Nat} {qs : List Prt} (h : w.ownsRow base 33 8 (.slice (some ⟨g, 0, none⟩) n c) n (pv qs)) {i : Nat} {q q' : Prt} {r : Nat} {u : Value} (hi : qs[i]? = some q) (hr : r < 8) (hc : prtCells q' = (prtCells q).set r u) :
    (w.setCell ⟨g, i * 8 + r, none⟩ u).ownsRow base 33 8 (.slice (some ⟨g, 0, none⟩) n c) n (pv (qs.set i q')) := by
  obtain ⟨h1, h2⟩ := h
  rw [pv_set hi hr hc]
  rcases h2 with ⟨h2, _⟩ | ⟨g', cap, cur, h2, h3, h4, h5, h6, h7, h8⟩
  · cases h2
  · injection h2 with a1 a2 a3
    injection a1 with a1
    injection a1 with a1
    subst a1 a3
    refine ⟨by rw [List.length_set]; exact h1, .inr ⟨g, c, cur.setIfInBounds (i * 8 + r) u, rfl, h3, by simp [World.setCell, Array.getElem?_modify, h4], h5, h6, by rw [Array.size_setIfInBounds]; exact h7, ?_⟩⟩
    rw [Array.toList_setIfInBounds, List.take_set, h8]
/-- a row's block -/
theorem row_block {w : World} {base c n : Nat} {A : Option Addr} {e : TypeId} {size : Nat} {xs : List Value} (h : w.ownsRow base e size (.slice A n c) n xs) (h0 : 0 < n) : ∃ g, A = some ⟨g, 0, none⟩ ∧ base ≤ g ∧ g < w.heap.size := by
  rcases h.2 with ⟨h2, rfl⟩ | ⟨g', cap, cur, h2, h3, h4, _⟩
  · omega
  · injection h2 with a1 a2 a3
    exact ⟨g', a1, h3, lt_of_heap h4⟩
theorem app_ints (w0 : World) {w : World} {ops : Array Oper} {rest : List Oper} {o : Oper} {a : Act} {Q : Exit → Act → World → Prop} (hw : Region.wanted o (yielded ops a.tmps) = true) (s x : Operand)
    (ho : o.op = .call { callee := .builtin .append, args := #[s, x], argTypes := #[30, 30] }) {xs : List Int} {v : Value} (hr : RowI w w0.heap.size v xs) (ys : List Int) (A : Option Addr) (c : Nat)
    (hs : a.eval s = v) (hx : a.eval x = .slice A ys.length c) (hA : A = none → c = 0) (hc : Ints w A ys) (hlen : xs.length + ys.length ≤ 10000000) (hext : Ext w0 w)
    (h : ∀ v' w', RowI w' w0.heap.size v' (xs ++ ys) → w.grownBy w' v.ownBlock → Ext w0 w' → wpList Try.prog ops Q rest (a.put o.dst v') w') : wpList Try.prog ops Q (o :: rest) a w := by
  obtain ⟨A0, c0, rfl, hown⟩ := hr
  obtain ⟨i3, hi, hz0, hz1, hz2⟩ := info_parts infoInt
  refine wpList_append_cells w hw s x 30 ho w0.heap.size 3 i3 (.int .i64 0) 1 8 Try.underlying30 hi hz0 hz1 hz2 rfl (by omega) _ xs.length (iv xs) hs hown A ys.length c (iv ys) hx hA (by rw [iv_length, Nat.mul_one])
    (fun h0 => ?_) (fun u hu => ?_) (by unfold maxLen; omega) (by omega) hext.size fun v' w' h2 h3 h4 => ?_
  · rw [iv_length] at h0
    obtain ⟨b, off, hA', hb, hcc⟩ := hc h0
    refine ⟨b, off, hA', hb, fun k u hk => ?_⟩
    have hkl : k < ys.length := by rw [← iv_length]; exact (List.getElem?_eq_some_iff.1 hk).1
    exact (hcc k hkl).trans ((iv_get hkl).symm.trans hk)
  · obtain ⟨x, _, rfl⟩ := List.mem_map.1 hu
    rfl
  · obtain ⟨A', c', hv', _⟩ := own_cells h2
    subst hv'
    refine h _ w' ⟨A', c', by rw [List.length_append], ?_⟩ h3 (hext.grown h3 fun g hg => own_block hown g hg)
    unfold OwnI
    rw [iv_append, List.length_append]
    exact h2
theorem ownI_empty (w : World) (base : Nat) (hb : base ≤ w.heap.size) : RowI (w.alloc (.cells #[] 3)) base (.slice (some ⟨w.heap.size, 0, none⟩) 0 0) [] :=
  ⟨some ⟨w.heap.size, 0, none⟩, 0, rfl, own_lit w base 3 1 w.heap.size 0 #[] rfl hb rfl (by unfold maxLen; omega)⟩
theorem ownQ_empty (w : World) (base kb : Nat) (hb : base ≤ w.heap.size) : RowQ (w.alloc (.cells #[] 33)) base kb (.slice (some ⟨w.heap.size, 0, none⟩) 0 0) [] :=
  ⟨some ⟨w.heap.size, 0, none⟩, 0, rfl, own_lit w base 33 8 w.heap.size 0 #[] rfl hb rfl (by unfold maxLen; omega), (fun q hq => by cases hq), (fun q hq => by cases hq)⟩
set_option maxRecDepth 100000 in
set_option maxHeartbeats 1000000 in
theorem ownInts (A : Option Addr) (c : Nat) (xs : List Int) (w : World) (h : Ints w A xs) (hl : xs.length ≤ 1000000) (_ : xs.length ≤ c) (hA : A = none → c = 0) :
    Calls Try.prog 75 #[.slice A xs.length c] w (IntsRet w xs) := by
  have H := Lib.hid h
  have HA := Lib.hid hA
  have HL : Hid (([] : List Int).length + xs.length ≤ 10000000) := Lib.hid (by simp; omega)
  clear h hA
  go_enter Try.func75, Try.ntmps75
  go_wp2_with (at_builtin; refine app_ints w (by rfl) (.tmp 3) (.tmp 4) rfl (ownI_empty w w.heap.size (Nat.le_refl _)) xs A c rfl rfl HA.out (H.out.ext (by repeat (first | exact Ext.refl _ | refine Ext.alloc ?_ _ | refine Ext.more ?_ _ _ | refine Ext.drew ?_ | refine Ext.drewN ?_ _ | refine Ext.setCell ?_ (by simp <;> omega) _))) HL.out (by repeat (first | exact Ext.refl _ | refine Ext.alloc ?_ _ | refine Ext.more ?_ _ _ | refine Ext.drew ?_ | refine Ext.drewN ?_ _ | refine Ext.setCell ?_ (by simp <;> omega) _)) ?_; intro v7 w7 hr7 hg7 hx7)
  obtain ⟨A1, c1, rfl, ho⟩ := hr7
  have HO := Lib.hid ho
  have HX := Lib.hid hx7
  clear ho hx7 hg7
  go_wp2_with fail
  go_ret
  exact ⟨A1, c1, by simp, HO.out, HX.out⟩
end Go.Proofs.Ytggmljookcmnkaa

/- The contracts of Own of parts, OwnParts. -/
namespace Go.Proofs.Ytggmljookcmnkaa
open Go.RowKit
attribute [local go_sem] more_drew more_drewN more_size more_cell more_frozen more_setCell drew_more drewN_more lt_add_r lt_add_r2 lt_add_r3 lt_add_r4 lt_add_r5 lt_add_r6 lt_add_r7 lt_add_r8 lt_add_r9 lt_add_r10 lt_self_r lt_self_r2

/-- a row of parts of the call's own: of the kids nothing is said -/
def RowV (w : World) (base : Nat) (v : Value) (qs : List Prt) : Prop := ∃ A c, v = .slice A qs.length c ∧ w.ownsRow base 33 8 (.slice A qs.length c) qs.length (pv qs)
theorem app_partsV (w0 : World) {w : World} {ops : Array Oper} {rest : List Oper} {o : Oper} {a : Act} {Q : Exit → Act → World → Prop} (hw : Region.wanted o (yielded ops a.tmps) = true) (s x : Operand)
    (ho : o.op = .call { callee := .builtin .append, args := #[s, x], argTypes := #[23, 23] }) {qs : List Prt} {v : Value} (hr : RowV w w0.heap.size v qs) (ps : List Prt) (A : Option Addr) (c : Nat)
    (hs : a.eval s = v) (hx : a.eval x = .slice A ps.length c) (hA : A = none → c = 0) (hc : Prts w A ps) (hlen : qs.length + ps.length ≤ 1000000) (hext : Ext w0 w)
    (h : ∀ v' w', RowV w' w0.heap.size v' (qs ++ ps) → Ext w0 w' → wpList Try.prog ops Q rest (a.put o.dst v') w') : wpList Try.prog ops Q (o :: rest) a w := by
  obtain ⟨A0, c0, rfl, hown⟩ := hr
  obtain ⟨i3, hi, hz0, hz1, hz2⟩ := info_parts infoPart
  refine wpList_append_cells w hw s x 23 ho w0.heap.size 33 i3 _ 8 80 Try.underlying23 hi hz0 hz1 hz2 rfl (by omega) _ qs.length (pv qs) hs hown A ps.length c (pv ps) hx hA (pv_length _)
    (CellsAt.of_prts hc) (pv_one _) (by unfold maxLen; omega) (by omega) hext.size fun v' w' h2 h3 h4 => ?_
  obtain ⟨A', c', hv', _⟩ := own_cells h2
  subst hv'
  refine h _ w' ⟨A', c', by rw [List.length_append], ?_⟩ (hext.grown h3 fun g hg => own_block hown g hg)
  rw [pv_append, List.length_append]
  exact h2
theorem rowV_empty (w : World) (base : Nat) (hb : base ≤ w.heap.size) : RowV (w.alloc (.cells #[] 33)) base (.slice (some ⟨w.heap.size, 0, none⟩) 0 0) [] :=
  ⟨some ⟨w.heap.size, 0, none⟩, 0, rfl, own_lit w base 33 8 w.heap.size 0 #[] rfl hb rfl (by unfold maxLen; omega)⟩
set_option maxRecDepth 100000 in
set_option maxHeartbeats 1000000 in
theorem ownRow (A : Option Addr) (c : Nat) (ps : List Prt) (w : World) (h : Prts w A ps) (hl : ps.length ≤ 1000000) (_ : ps.length ≤ c) (hA : A = none → c = 0) :
    Calls Try.prog 74 #[.slice A ps.length c] w fun e w' => (∃ v, e = .returned v ∧ RowV w' w.heap.size v ps) ∧ Ext w w' := by
  have H := Lib.hid h
  have HA := Lib.hid hA
  have HL : Hid (([] : List Prt).length + ps.length ≤ 1000000) := Lib.hid (by simp; omega)
  clear h hA
  go_enter Try.func74, Try.ntmps74
  go_wp2_with (at_builtin; refine app_partsV w (by rfl) (.tmp 3) (.tmp 4) rfl (rowV_empty w w.heap.size (Nat.le_refl _)) ps A c rfl rfl HA.out (H.out.ext (by repeat (first | exact Ext.refl _ | refine Ext.alloc ?_ _ | refine Ext.more ?_ _ _ | refine Ext.drew ?_ | refine Ext.drewN ?_ _ | refine Ext.setCell ?_ (by simp <;> omega) _))) HL.out (by repeat (first | exact Ext.refl _ | refine Ext.alloc ?_ _ | refine Ext.more ?_ _ _ | refine Ext.drew ?_ | refine Ext.drewN ?_ _ | refine Ext.setCell ?_ (by simp <;> omega) _)) ?_; intro v7 w7 hr7 hx7)
  have HR := Lib.hid hr7
  have HX := Lib.hid hx7
  clear hx7 hr7
  go_ret
  exact ⟨⟨_, rfl, HR.out⟩, HX.out⟩
theorem row_cells {w : World} {base g n c : Nat} {qs : List Prt} (h : w.ownsRow base 33 8 (.slice (some ⟨g, 0, none⟩) n c) n (pv qs)) : Prts w (some ⟨g, 0, none⟩) qs := by
  obtain ⟨A', cap, hv, h1, h2, h3, h4⟩ := own_cells h
  injection hv with a1 a2 a3
  subst a1
  exact Prts.of_cells h1
/-- what OwnParts has done before its round j -/
structure OwnedTo (w wr : World) (A : Option Addr) (c n j : Nat) (ps qs : List Prt) : Prop where
  len : qs.length = j
  nd : nds qs = (nds ps).take j
  row : wr.ownsRow w.heap.size 33 8 (.slice A n c) n (pv (qs ++ ps.drop j))
  kids : ∀ q ∈ qs, OwnI wr w.heap.size q.kA q.kc q.nd.kids
  ext : Ext w wr
set_option maxRecDepth 100000 in
set_option maxHeartbeats 2000000 in
theorem ownParts (A : Option Addr) (c : Nat) (ps : List Prt) (w : World) (h : Prts w A ps) (hO : PrtsOk w ps) (hw : Few ps) (hc : ps.length ≤ c) (hA : A = none → c = 0) :
    Calls Try.prog 25 #[.slice A ps.length c] w (PartsRet w (nds ps)) := by
  have hl := hw.len
  have CO := Lib.hid (ownRow A c ps w h (by omega) hc hA)
  have HO := Lib.hid hO
  have HF := Lib.hid hw
  clear h hA hO hw
  go_enter Try.func25, Try.ntmps25
  go_wp2_with fail
  refine CO.out.mono ?_
  rintro e w2 ⟨⟨v2, rfl, hr2⟩, hx2⟩
  obtain ⟨A2, c2, rfl, ho2⟩ := hr2
  have S0 : Hid (OwnedTo w w2 A2 c2 ps.length 0 ps []) := Lib.hid ⟨rfl, by simp [nds], by simpa using ho2, (fun q hq => by cases hq), hx2⟩
  clear ho2 hx2
  go_wp2_with fail
  go_loopw [4] (fun i wr => ∃ (j : Nat) (qs : List Prt), j ≤ ps.length ∧ i = .int .i64 j ∧ Hid (OwnedTo w wr A2 c2 ps.length j ps qs)) (fun i _ => ps.length - (intOf i).toNat)
  case atStart => exact ⟨0, [], Nat.zero_le _, rfl, S0⟩
  case round =>
    obtain ⟨j, qs, hj, rfl, hs⟩ := hrel
    by_cases hlt : j < ps.length
    · obtain ⟨p, hp⟩ : ∃ p, ps[j]? = some p := ⟨_, List.getElem?_eq_getElem hlt⟩
      obtain ⟨g, rfl, hg1, hg2⟩ := row_block hs.out.row (by omega)
      obtain ⟨b, off, he, hb, hcell⟩ := (row_cells hs.out.row) (by rw [List.length_append, List.length_drop]; omega)
      injection he with he
      injection he with he1 he2
      subst he1 he2
      obtain ⟨d0, d1, d2, d3, d4, d5, d6, d7⟩ := hcell j p (by rw [List.getElem?_append_right (by rw [hs.out.len]; exact Nat.le_refl _), hs.out.len, Nat.sub_self, List.getElem?_drop, Nat.add_zero]; exact hp)
      rw [Nat.zero_add] at d0 d1 d2 d3 d4 d5 d6 d7
      have hpo := (HO.out.get hp)
      have hpm := List.mem_of_getElem? hp
      have CI := Lib.hid (fun w1 (x : Ext w w1) => ownInts p.kA p.kc p.nd.kids w1 (hpo.kids.ext x) (HF.out.kids_le hpm) hpo.cap hpo.none)
      have hcap := hs.out.row
      have hne : A = A := rfl
      have HP := Lib.hid hp
      clear hcell hpo hpm hp d0 d1 d2 d3 d4 d5 d7
      go_wp2_with fail
      refine (CI.out _ (hs.out.ext.trans (by repeat (first | exact Ext.refl _ | refine Ext.alloc ?_ _ | refine Ext.more ?_ _ _ | refine Ext.drew ?_ | refine Ext.drewN ?_ _ | refine Ext.setCell ?_ (by simp <;> omega) _)))).mono ?_
      rintro e w3 ⟨A3, c3, rfl, ho3, hx3⟩
      have HC := Lib.hid hcap
      have HO3 := Lib.hid ho3
      have HX3 := Lib.hid hx3
      have d8 := (hx3.below.cell (p := ⟨g, j * 8 + 6, none⟩) hg2).trans d6
      have d9 := (World.ownsRow.frozenAt (own_ext hcap hx3) (j * 8 + 6))
      clear hx3 ho3 hcap d6
      have hb3 : g < w3.heap.size := Nat.lt_of_lt_of_le hg2 HX3.out.size
      go_wp2_with fail
      go_roundw
      case rel =>
        have hp := HP.out
        have f1 := hs.out.ext.trans HX3.out
        have hq : (qs ++ ps.drop j)[j]? = some p := by rw [List.getElem?_append_right (by rw [hs.out.len]; exact Nat.le_refl _), hs.out.len, Nat.sub_self, List.getElem?_drop, Nat.add_zero]; exact hp
        have f2 := row_store (own_ext HC.out HX3.out) (q' := ⟨p.nd, A3, c3⟩) (u := .slice A3 p.nd.kids.length c3) hq (by omega : 6 < 8) rfl
        have f3 : (qs ++ ps.drop j).set j ⟨p.nd, A3, c3⟩ = (qs ++ [⟨p.nd, A3, c3⟩]) ++ ps.drop (j + 1) := by
          rw [List.set_append_right _ _ (by rw [hs.out.len]; exact Nat.le_refl _), hs.out.len, Nat.sub_self, List.drop_eq_getElem_cons hlt, List.set_cons_zero, List.append_assoc]
          rfl
        rw [f3] at f2
        have hkeep : ∀ b, b < w3.heap.size → some b ≠ (Value.slice (some ⟨g, 0, none⟩) ps.length c2).ownBlock → (w3.setCell ⟨g, j * 8 + 6, none⟩ (.slice A3 p.nd.kids.length c3)).heap[b]? = w3.heap[b]? := fun b hb hne => by
          have : b ≠ g := fun h => hne (by rw [h]; rfl)
          simp [World.setCell, Array.getElem?_modify, Ne.symm this]
        refine ⟨j + 1, qs ++ [⟨p.nd, A3, c3⟩], by omega, by go_num, Lib.hid ⟨by rw [List.length_append, hs.out.len]; rfl, ?_, f2, fun q hq => ?_, f1.setCell hg1 _⟩⟩
        · have h1 := nds_get hp
          rw [List.getElem?_eq_getElem (by rw [nds_length]; exact hlt)] at h1
          injection h1 with h1
          rw [List.take_succ_eq_append_getElem (by rw [nds_length]; exact hlt), h1, ← hs.out.nd]
          simp [nds]
        · rcases List.mem_append.1 hq with hq | hq
          · exact kids_keep ((hs.out.kids q hq).ext HX3.out) (own_ext HC.out HX3.out) hkeep
          · rw [List.mem_singleton.1 hq]
            exact kids_keep (HO3.out.base hs.out.ext.size) (own_ext HC.out HX3.out) hkeep
      case measure => simp [intOf]; omega
    · obtain rfl : j = ps.length := by omega
      go_wp2_with fail
      go_ret
      refine ⟨A2, c2, qs, (by rw [hs.out.len]; rfl), by rw [hs.out.nd, List.take_of_length_le (by rw [nds_length]; omega)], ⟨?_, hs.out.kids, fun q hq => ?_⟩, hs.out.ext⟩
      · have := hs.out.row
        rw [List.drop_length, List.append_nil] at this
        rw [hs.out.len]
        exact this
      · have : q.nd ∈ nds ps := by
          have h1 : q.nd ∈ nds qs := List.mem_map.2 ⟨q, hq, rfl⟩
          rw [hs.out.nd] at h1
          exact List.mem_of_mem_take h1
        obtain ⟨p, hp, he⟩ := List.mem_map.1 this
        have f := (HO.out p hp).fine
        exact ⟨he ▸ f.sym, he ▸ f.kind, he ▸ f.lo, he ▸ f.inn, he ▸ f.hi, he ▸ f.look, he ▸ f.met, he ▸ f.ks⟩
end Go.Proofs.Ytggmljookcmnkaa

/- Small facts behind TreePuts. -/
namespace Go.Proofs.Ytggmljookcmnkaa
open Go.RowKit

theorem Few.of_tree {ps : List Prt} (T : Tree (nds ps)) (h : ps.length ≤ 1000) : Few ps := ⟨h, fun j => by
  have h1 := kc_all (nds ps) j
  have h2 := (trek_ok T.trek).2 rfl
  have h3 := nds_length ps
  omega⟩
theorem Few.of_tree' {ps : List Prt} {l : List Nd} (e : nds ps = l) (T : Tree l) (h : l.length ≤ 1000) : Few ps := Few.of_tree (by rw [e]; exact T) (by rw [← nds_length, e]; exact h)
/-- a part alone, marked anew -/
def Nd.lone (met : Int) (p : Nd) : Nd := { p with kids := [], met := met }
theorem Bare.lone {p : Nd} (h : Bare p) (met : Int) : Bare (p.lone met) := by
  unfold Bare Nd.lone at *
  obtain ⟨a, b, c, d, e, f, g, i, j⟩ := h
  exact ⟨a, b, c, d, e, f, g, i, fun _ => rfl⟩
theorem lone_tree {p : Nd} (h : Bare p) (met : Int) : Tree [p.lone met] := by
  refine ⟨fun i q hq => ?_, ?_, fun q hq => ?_⟩
  · cases i with
    | zero =>
      simp at hq
      subst hq
      exact ⟨h.lone met, fun h => by omega⟩
    | succ i => simp at hq
  · exact Trek.one (l := [p.lone met]) (n := 0) rfl (.nil _)
  · rw [List.mem_singleton.1 hq]
    show decide ((p.lone met).lo ≤ (p.lone met).hi) = true
    exact decide_eq_true h.2.2.2.1
theorem fits_sub {l : List Nd} {i m : Nat} (h : Part l i m) : FitsP l (subF l i m) i := by
  have h1 := h.lt_end
  obtain ⟨p, h2⟩ : ∃ p, l[i]? = some p := ⟨_, List.getElem?_eq_getElem h.lt⟩
  refine ⟨i, p, p.by (· + -(i : Int)), rfl, h2, by rw [get_sub (by omega), Nat.add_zero, h2]; rfl, rfl, rfl, rfl, rfl⟩
/-- what is put, marked anew and alone -/
structure Puts (l : List Nd) (i m : Nat) (met : Int) (o : Nd) : Prop where
  sub0 : (subF l i m)[0]? = some o
  tree1 : Tree [o.lone met]
  fit1 : FitsP l [o.lone met] i
  out : Tree (putF l i m [o.lone met])
  part : Part (putF l i m [o.lone met]) i (i + 1)
  same : subF (putF l i m [o.lone met]) i (i + 1) = [o.lone met]
  len : (putF l i m [o.lone met]).length = i + 1 + (l.length - m)
  fit2 : FitsP (putF l i m [o.lone met]) (subF l i m) i
  back : putF (putF l i m [o.lone met]) i (i + 1) (subF l i m) = l
theorem Tree.puts {l : List Nd} (T : Tree l) {i m : Nat} (h : Part l i m) (met : Int) : ∃ o, Puts l i m met o := by
  have h1 := h.lt_end
  obtain ⟨p, h2⟩ : ∃ p, l[i]? = some p := ⟨_, List.getElem?_eq_getElem h.lt⟩
  have h3 : (subF l i m)[0]? = some (p.by (· + -(i : Int))) := by rw [get_sub (by omega), Nat.add_zero, h2]; rfl
  have hb : Bare (p.by (· + -(i : Int))) := (T.bare i _ h2).1.by _
  have t1 := lone_tree hb met
  refine ⟨_, h3, t1, ⟨i, _, _, rfl, h2, rfl, rfl, rfl, rfl, rfl⟩, T.put h t1 h2 rfl rfl rfl rfl, h.of_put t1, sub_put (by have := h.lt; omega) h.le, len_put (by have := h.lt; omega) h.le, ?_, put_put T h (by simp)⟩
  refine ⟨i, _, _, rfl, (get_put_in (s := [_]) (j := 0) (by have := h.lt; omega) (by simp)), h3, rfl, rfl, rfl, rfl⟩
end Go.Proofs.Ytggmljookcmnkaa
