/- Stores into rows of parts; the contracts of Own, OwnParts. -/
import Derived.Test.YtaffaeompdlecaaD4
import Derived.WalkSpells
import Derived.WalkLawsBesides
import Derived.BigRegion
import Derived.Deep.RegionWith
import Derived.Deep.QuietTactic
import Derived.Deep.DeepCutAuto
import Derived.Deep.RegionHeld3
import Derived.Deep.RegionLaw
import Derived.BigQuiet
import Derived.Lib.Hide
namespace Go.Proofs.Ytaffaeompdlecaa
open Go.RowKit
attribute [local go_sem] more_drew more_drewN more_size more_cell more_frozen more_setCell drew_more drewN_more lt_add_r lt_add_r2 lt_add_r3 lt_add_r4 lt_add_r5 lt_add_r6 lt_add_r7 lt_add_r8 lt_add_r9 lt_add_r10 lt_self_r lt_self_r2

theorem pv_set : ∀ {qs : List Prt} {i : Nat} {q q' : Prt} {r : Nat} {u : Value}, qs[i]? = some q → r < 8 → prtCells q' = (prtCells q).set r u → pv (qs.set i q') = (pv qs).set (i * 8 + r) u
  | [], i, q, q', r, u, h, _, _ => by simp at h
  | p :: qs, 0, q, q', r, u, h, hr, hc => by
    simp at h
    subst h
    simp only [List.set_cons_zero, pv, List.flatMap_cons, Nat.zero_mul, Nat.zero_add]
    rw [hc, List.set_append_left _ _ (by simp [prtCells]; omega)]
  | p :: qs, i + 1, q, q', r, u, h, hr, hc => by
    have ih := pv_set (qs := qs) (i := i) (q := q) (q' := q') (r := r) (u := u) (by simpa using h) hr hc
    simp only [List.set_cons_succ]
    have e : pv (p :: qs.set i q') = prtCells p ++ pv (qs.set i q') := by simp [pv]
    have e2 : pv (p :: qs) = prtCells p ++ pv qs := by simp [pv]
    rw [e, e2, ih, List.set_append_right _ _ (by simp [prtCells]; omega)]
    congr 2
    simp [prtCells]
    omega
theorem row_store {w : World} {base g c n : Nat} {qs : List Prt} (h : w.ownsRow base 35 8 (.slice (some ⟨g, 0, none⟩) n c) n (pv qs)) {i : Nat} {q q' : Prt} {r : Nat} {u : Value} (hi : qs[i]? = some q) (hr : r < 8) (hc : prtCells q' = (prtCells q).set r u) :
    (w.setCell ⟨g, i * 8 + r, none⟩ u).ownsRow base 35 8 (.slice (some ⟨g, 0, none⟩) n c) n (pv (qs.set i q')) := by
  obtain ⟨h1, h2⟩ := h
  rw [pv_set hi hr hc]
  rcases h2 with ⟨h2, _⟩ | ⟨g', cap, cur, h2, h3, h4, h5, h6, h7, h8⟩
  · cases h2
  · injection h2 with a1 a2 a3
    injection a1 with a1
    injection a1 with a1
    subst a1 a3
    refine ⟨by rw [List.length_set]; exact h1, .inr ⟨g, c, cur.setIfInBounds (i * 8 + r) u, rfl, h3, by simp [World.setCell, Array.getElem?_modify, h4], h5, h6, by rw [Array.size_setIfInBounds]; exact h7, ?_⟩⟩
    rw [Array.toList_setIfInBounds, List.take_set, h8]
/-- a row's block -/
theorem row_block {w : World} {base c n : Nat} {A : Option Addr} {e : TypeId} {size : Nat} {xs : List Value} (h : w.ownsRow base e size (.slice A n c) n xs) (h0 : 0 < n) : ∃ g, A = some ⟨g, 0, none⟩ ∧ base ≤ g ∧ g < w.heap.size := by
  rcases h.2 with ⟨h2, rfl⟩ | ⟨g', cap, cur, h2, h3, h4, _⟩
  · omega
  · injection h2 with a1 a2 a3
    exact ⟨g', a1, h3, lt_of_heap h4⟩
theorem app_ints (w0 : World) {w : World} {ops : Array Oper} {rest : List Oper} {o : Oper} {a : Act} {Q : Exit → Act → World → Prop} (hw : Region.wanted o (yielded ops a.tmps) = true) (s x : Operand)
    (ho : o.op = .call { callee := .builtin .append, args := #[s, x], argTypes := #[30, 30] }) {xs : List Int} {v : Value} (hr : RowI w w0.heap.size v xs) (ys : List Int) (A : Option Addr) (c : Nat)
    (hs : a.eval s = v) (hx : a.eval x = .slice A ys.length c) (hA : A = none → c = 0) (hc : Ints w A ys) (hlen : xs.length + ys.length ≤ 10000000) (hext : Ext w0 w)
    (h : ∀ v' w', RowI w' w0.heap.size v' (xs ++ ys) → w.grownBy w' v.ownBlock → Ext w0 w' → wpList Try.prog ops Q rest (a.put o.dst v') w') : wpList Try.prog ops Q (o :: rest) a w := by
  obtain ⟨A0, c0, rfl, hown⟩ := hr
  obtain ⟨i3, hi, hz0, hz1, hz2⟩ := info_parts infoInt
  refine wpList_append_cells w hw s x 30 ho w0.heap.size 3 i3 (.int .i64 0) 1 8 Try.underlying30 hi hz0 hz1 hz2 rfl (by omega) _ xs.length (iv xs) hs hown A ys.length c (iv ys) hx hA (by rw [iv_length, Nat.mul_one])
    (fun h0 => ?_) (fun u hu => ?_) (by unfold maxLen; omega) (by omega) hext.size fun v' w' h2 h3 h4 => ?_
  · rw [iv_length] at h0
    obtain ⟨b, off, hA', hb, hcc⟩ := hc h0
    refine ⟨b, off, hA', hb, fun k u hk => ?_⟩
    have hkl : k < ys.length := by rw [← iv_length]; exact (List.getElem?_eq_some_iff.1 hk).1
    exact (hcc k hkl).trans ((iv_get hkl).symm.trans hk)
  · obtain ⟨x, _, rfl⟩ := List.mem_map.1 hu
    rfl
  · obtain ⟨A', c', hv', _⟩ := own_cells h2
    subst hv'
    refine h _ w' ⟨A', c', by rw [List.length_append], ?_⟩ h3 (hext.grown h3 fun g hg => own_block hown g hg)
    unfold OwnI
    rw [iv_append, List.length_append]
    exact h2
theorem ownI_empty (w : World) (base : Nat) (hb : base ≤ w.heap.size) : RowI (w.alloc (.cells #[] 3)) base (.slice (some ⟨w.heap.size, 0, none⟩) 0 0) [] :=
  ⟨some ⟨w.heap.size, 0, none⟩, 0, rfl, own_lit w base 3 1 w.heap.size 0 #[] rfl hb rfl (by unfold maxLen; omega)⟩
theorem ownQ_empty (w : World) (base kb : Nat) (hb : base ≤ w.heap.size) : RowQ (w.alloc (.cells #[] 35)) base kb (.slice (some ⟨w.heap.size, 0, none⟩) 0 0) [] :=
  ⟨some ⟨w.heap.size, 0, none⟩, 0, rfl, own_lit w base 35 8 w.heap.size 0 #[] rfl hb rfl (by unfold maxLen; omega), (fun q hq => by cases hq), (fun q hq => by cases hq)⟩
set_option maxRecDepth 100000 in
set_option maxHeartbeats 1000000 in
theorem ownInts (A : Option Addr) (c : Nat) (xs : List Int) (w : World) (h : Ints w A xs) (hl : xs.length ≤ 1000000) (hc : xs.length ≤ c) (hA : A = none → c = 0) :
    Calls Try.prog 107 #[.slice A xs.length c] w (IntsRet w xs) := by
  have H := Lib.hid h
  have HA := Lib.hid hA
  have HL : Hid (([] : List Int).length + xs.length ≤ 10000000) := Lib.hid (by simp; omega)
  clear h hA
  go_enter Try.func107, Try.ntmps107
  go_wp2_with (at_builtin; refine app_ints w (by rfl) (.tmp 3) (.tmp 4) rfl (ownI_empty w w.heap.size (Nat.le_refl _)) xs A c rfl rfl HA.out (H.out.ext (by repeat (first | exact Ext.refl _ | refine Ext.alloc ?_ _ | refine Ext.more ?_ _ _ | refine Ext.drew ?_ | refine Ext.drewN ?_ _ | refine Ext.setCell ?_ (by simp <;> omega) _))) HL.out (by repeat (first | exact Ext.refl _ | refine Ext.alloc ?_ _ | refine Ext.more ?_ _ _ | refine Ext.drew ?_ | refine Ext.drewN ?_ _ | refine Ext.setCell ?_ (by simp <;> omega) _)) ?_; intro v7 w7 hr7 hg7 hx7)
  obtain ⟨A1, c1, rfl, ho⟩ := hr7
  have HO := Lib.hid ho
  have HX := Lib.hid hx7
  clear ho hx7 hg7
  go_wp2_with fail
  go_ret
  exact ⟨A1, c1, by simp, HO.out, HX.out⟩
end Go.Proofs.Ytaffaeompdlecaa
