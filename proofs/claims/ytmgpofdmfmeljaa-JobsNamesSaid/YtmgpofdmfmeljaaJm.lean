/- The contract of jobs.Order. -/
import Derived.Test.YtmgpofdmfmeljaaJl
import Derived.Shelf.Abstract
import Derived.WalkSpells
import Derived.WalkLawsBesides
import Derived.BigRegion
import Derived.Deep.RegionWith
import Derived.Deep.QuietTactic
import Derived.Deep.DeepCutAuto
import Derived.Deep.RegionHeld3
import Derived.Deep.RegionLaw
import Derived.BigQuiet
import Derived.Lib.Hide
namespace Go.Proofs.Ytmgpofdmfmeljaa
open Go.RowKit
attribute [local go_sem] more_drew more_drewN more_size more_cell more_frozen more_setCell drew_more drewN_more lt_add_r lt_add_r2 lt_add_r3 lt_add_r4 lt_add_r5 lt_add_r6 lt_add_r7 lt_add_r8 lt_add_r9 lt_add_r10 lt_self_r lt_self_r2
attribute [local go_sem] Oper.semAt_some

/-- what Order has: its box, its row -/
def OrI (w : World) (b n0 : Nat) (xs : List Int) (j : Nat) (K : Nat → Prop) (W : World) : Prop :=
  ∃ v, W.heap[b]? = some (.cells #[v] 38) ∧ RowI W w.heap.size v (xs.take j) ∧ Below w.heap.size w W ∧ (∀ k, K k ↔ k = b ∨ v.ownBlock = some k) ∧ (∀ g, v.ownBlock = some g → g ≠ b ∧ g ≠ n0 ∧ g ≠ n0 + 1)
theorem OrI.turn {w : World} {b n0 : Nat} {xs : List Int} {j : Nat} {K : Nat → Prop} {W W' : World} (h : OrI w b n0 xs j K W) (hb : b < n0) (hw : w.heap.size ≤ n0) (hn : n0 ≤ W.heap.size) (t : Turn (fun k => (k = n0 ∨ k = n0 + 1) ∨ (n0 + 2 ≤ k ∧ ¬ K k)) W W') : OrI w b n0 xs j K W' := by
  obtain ⟨v, h1, ⟨A, c, hv, ho⟩, h3, h4, h5⟩ := h
  refine ⟨v, (t.block _ (lt_of_heap h1) (by omega)).trans h1, ⟨A, c, hv, own_keep ho fun g hg => ?_⟩, h3.trans (t.below (by omega) fun k hk => by omega), h4, h5⟩
  rw [← hv] at hg
  have h6 := h5 g hg
  have h7 := (h4 g).2 (.inr hg)
  exact t.block g (own_old ho g (hv ▸ hg)) (fun hS => hS.elim (fun h => by omega) (fun h => h.2 h7))
def slotsF (R : List It) : List Int := R.map fun r => r.2.slot
set_option maxRecDepth 100000 in
set_option maxHeartbeats 4000000 in
theorem order_ints (k : Kv) (A : Option Addr) (c : Nat) (ds : List Dt) (w : World) (h : Jobs w A ds) (hc : CheckP ds) :
    Calls Try.prog 13 #[.slice A ds.length c, .agg #[.int .i64 k.lo, .int .i64 k.hi], .int .i64 k.wait] w (IntsRet w (slotsF (qR k ds))) := by
  have H := Lib.hid h
  have HC := Lib.hid hc
  have hl := hc.1
  clear h hc
  refine calls_of_marks Try.func13 rfl ?_
  simp only [Try.ntmps13, List.size_toArray, List.length_cons, List.length_nil, Nat.reduceAdd, Nat.reduceSub, Array.replicate_succ, Array.replicate_zero, List.push_toArray, List.append_toArray, List.nil_append, List.cons_append]
  obtain ⟨bo, hbo⟩ : ∃ bo, w.heap.size + 1 = bo := ⟨_, rfl⟩
  obtain ⟨W1, hW1⟩ : ∃ W1, (w.alloc (.cells #[.int .i64 k.lo, .int .i64 k.hi] 29)).alloc (.cells #[.slice none 0 0] 38) = W1 := ⟨_, rfl⟩
  have X1 : Hid (Ext w W1) := Lib.hid (by rw [← hW1]; exact (by repeat (first | exact Ext.refl _ | refine Ext.alloc ?_ _ | refine Ext.more ?_ _ _ | refine Ext.drew ?_ | refine Ext.drewN ?_ _ | refine Ext.setCell ?_ (by simp <;> omega) _)))
  have G1 : Hid (W1.heap[bo]? = some (.cells #[.slice none 0 0] 38)) := Lib.hid (by rw [← hW1, ← hbo]; exact (by simp only [heap_alloc_get, World.size_alloc]; (repeat (split; (first | rfl | (exfalso; omega)))); (try (first | (exfalso; omega) | simp_all))))
  have V1 : W1.heap[w.heap.size]? = some (.cells #[.int .i64 k.lo, .int .i64 k.hi] 29) := by rw [← hW1]; exact (by simp only [heap_alloc_get, World.size_alloc]; (repeat (split; (first | rfl | (exfalso; omega)))); (try (first | (exfalso; omega) | simp_all)))
  have v0 := cell_of_row _ _ 0 _ _ _ V1
  have v1 := cell_of_row _ _ 1 _ _ _ V1
  have lv := lt_of_heap V1
  simp at v0 v1
  have HBO : Hid (w.heap.size ≤ bo) := Lib.hid (by omega)
  have S1 : Hid (W1.heap.size = bo + 1) := Lib.hid (by rw [← hW1, ← hbo]; simp)
  clear V1
  go_upto_region 2 with fail
  clear hW1 hbo
  go_wp2_with fail
  refine (queue_any k A c ds W1 (H.out.ext X1.out) HC.out).mono ?_
  rintro e w2 ⟨p, o, v, rfl, hok, hr, hlow, hF, hx2⟩
  have HX2 := Lib.hid hx2
  have HR := Lib.hid hr.1
  have HLO : Hid (bo < o.bl ∧ bo < o.bv ∧ bo < o.bw) := Lib.hid (by have := S1.out; omega)
  clear hok hr hlow hF hx2
  go_wp2_with fail
  refine (all_any p w2).mono ?_
  rintro e w3 ⟨rfl, hw3⟩
  obtain ⟨bx, hbx⟩ : ∃ bx, w2.heap.size = bx := ⟨_, rfl⟩
  have X3 : Hid (Ext w2 w3) := Lib.hid (by rw [hw3]; exact (by repeat (first | exact Ext.refl _ | refine Ext.alloc ?_ _ | refine Ext.more ?_ _ _ | refine Ext.drew ?_ | refine Ext.drewN ?_ _ | refine Ext.setCell ?_ (by simp <;> omega) _)))
  have B3 : Hid (w3.heap[bx]? = some (.cells #[.pointer (some ⟨p, 0, none⟩)] 46)) := Lib.hid (by rw [hw3, ← hbx]; exact heap_alloc_new _ _)
  have G3 : Hid (w3.heap[bo]? = some (.cells #[.slice none 0 0] 38)) := Lib.hid (ext_block G1.out (HX2.out.trans X3.out))
  have H3 := Lib.hid (HR.out.ext X3.out)
  obtain ⟨n0, hn0⟩ : ∃ n0, w3.heap.size = n0 := ⟨_, rfl⟩
  have Z3 : Hid (Ext w w3) := Lib.hid ((X1.out.trans HX2.out).trans X3.out)
  have hbn : bo < n0 := by rw [← hn0]; exact lt_of_heap G3.out
  have hwn : w.heap.size ≤ n0 := by rw [← hn0]; exact Z3.out.size
  have hbl : o.bl < n0 ∧ o.bv < n0 ∧ o.bw < n0 := by
    rw [← hn0]
    exact ⟨lt_of_heap H3.out.ord.late, lt_of_heap H3.out.ord.view, lt_of_heap H3.out.ord.wait⟩
  have HBL := Lib.hid hbl
  rw [hbx]
  clear hw3 hbx X1 G1 HX2 HR X3 v0 v1 lv S1 hbl
  go_wp2_with fail
  have hxl : ((qR k ds).map fun r => r.2).length = ds.length := by rw [List.length_map, qR_length]
  have hss : ∀ j (x : Dt), ((qR k ds).map fun r => r.2)[j]? = some x → (slotsF (qR k ds)).take (j + 1) = (slotsF (qR k ds)).take j ++ [x.slot] := fun j x hx => by
    obtain ⟨hj, hx⟩ := List.getElem?_eq_some_iff.1 hx
    unfold slotsF
    rw [List.take_succ_eq_append_getElem (by simpa using hj), List.getElem_map]
    rw [List.getElem_map] at hx
    rw [hx]
  have hsl : (slotsF (qR k ds)).length = ds.length := by unfold slotsF; rw [List.length_map, qR_length]
  obtain ⟨xs, hxs⟩ : ∃ xs, slotsF (qR k ds) = xs := ⟨_, rfl⟩
  rw [hxs] at hss hsl ⊢
  have HSS := Lib.hid hss
  have HSL := Lib.hid hsl
  have HXL := Lib.hid hxl
  have HXS := Lib.hid hxs
  clear hss hsl hxl hxs
  refine wp_rangeK (gf := 27) (lb := #[.pointer (some ⟨bx, 0, none⟩)]) (encs := encIt) (xs := (qR k ds).map fun r => r.2) (S := fun b => b = bo ∨ b = n0 + 1) (R := fun _ _ => True) rfl
    (enters_of Try.func27 (by kernel_rfl) rfl) (fun _ => rfl) (.inr (by rw [hn0]))
    (fun w1 hx hs => all_iter w1 bx _ _ (H3.out.ext hx) (ext_block B3.out hx) (by rw [qR_length]; omega) (fun h => h.elim (fun h => by have := HLO.out; omega) (fun h => by have := HBL.out; omega)) (fun h => h.elim (fun h => by have := HLO.out; omega) (fun h => by have := HBL.out; omega)) (fun h => h.elim (fun h => by have := HLO.out; omega) (fun h => by have := HBL.out; omega)))
    (fun j K W => OrI w bo n0 xs j K W) (fun _ _ _ => False) (fun b => b = bo) (fun b hb => ⟨.inl hb, by rw [hb, hn0]; exact hbn⟩) ?_ ?_ (fun _ _ _ _ _ _ h => h) ?_ (fun _ _ _ _ => trivial) ?_ ?_ ?_ (fun _ _ _ _ h => h.elim)
  · rintro j K U U' ht hsz hA
    rw [hn0] at ht hsz
    exact hA.turn hbn hwn (by omega) ht
  · rintro j K U ⟨v, h1, ⟨A1, c1, hv, ho⟩, h3, h4, h5⟩ b hb
    rcases (h4 b).1 hb with rfl | hg
    · exact lt_of_heap h1
    · exact own_old ho b (hv ▸ hg)
  · rintro j K U ⟨v, h1, h2, h3, h4, h5⟩
    rw [hn0]
    refine ⟨fun h => ?_, fun h => ?_⟩
    · rcases (h4 _).1 h with h | h
      · omega
      · exact (h5 _ h).2.1 rfl
    · rcases (h4 _).1 h with h | h
      · omega
      · exact (h5 _ h).2.2 rfl
  · intro U hU
    exact ⟨.slice none 0 0, ext_block G3.out hU, ⟨none, 0, by rw [List.take_zero]; rfl, by rw [List.take_zero]; exact World.ownsRow_nil _ _ _ _⟩, (Z3.out.trans hU).below, fun k => ⟨fun h => .inl h, fun h => h.elim id (fun h => by cases h)⟩, fun g hg => by cases hg⟩
  · rintro l j x K W hx hI hsz
    clear hI
    simp only [encIt, agD]
    gi_wp2
    refine ⟨(Ext.refl _).alloc _, ?_⟩
    obtain ⟨m, hm⟩ : ∃ m, W.heap.size = m := ⟨_, rfl⟩
    have hP0 := heap_alloc_new W (.cells #[.int .i64 x.slot, .int .i64 x.lo, .int .i64 x.hi, .int .i64 x.age, .int .i64 x.lev] 31)
    rw [hm] at hP0 ⊢
    rw [hn0, hm] at hsz
    rintro W2 t2 ⟨v, h1, h2, h3, h4, h5⟩ hsz2
    rw [hn0] at t2
    have hP2 := (t2.block m (lt_of_heap hP0) (by omega)).trans hP0
    have p0 := cell_of_row _ _ 0 _ _ _ hP2
    have lp := lt_of_heap hP2
    have k0 := cell_of_row _ _ 0 _ _ _ h1
    simp at k0 p0
    have l0 := lt_of_heap h1
    have f0 : W2.frozen? ⟨bo, 0, none⟩ = false := by simp [World.frozen?, h1]
    have H1 := Lib.hid h1
    have H2 := Lib.hid h2
    have HB2 := Lib.hid h3
    have H4 := Lib.hid h4
    have H5 := Lib.hid h5
    have HX := Lib.hid hx
    clear t2 h1 h2 h3 h4 h5 hx hP0 hP2 hm
    have HLX : Hid ((xs.take j).length ≤ 1000000) := Lib.hid (by have := HSL.out; rw [List.length_take]; omega)
    have H2x : Hid (RowI (W2.alloc (.cells #[.int .i64 x.slot] 3)) w.heap.size v (xs.take j)) := Lib.hid (H2.out.ext (by repeat (first | exact Ext.refl _ | refine Ext.alloc ?_ _ | refine Ext.more ?_ _ _ | refine Ext.drew ?_ | refine Ext.drewN ?_ _ | refine Ext.setCell ?_ (by simp <;> omega) _)))
    gi_wp2_with (gi_at_builtin; refine wpListIn_of_plain (fun _ _ h => h) _ _ _ (by kernel_rfl) ?_; refine app_intO w (by rfl) (.tmp 15) (.tmp 18) rfl H2x.out x.slot W2.heap.size rfl rfl (by simp) (by rw [cell_of_row _ _ 0 _ _ _ (heap_alloc_new W2 (.cells #[.int .i64 x.slot] 3))]; rfl) HLX.out (by have := HB2.out.size; simp; omega) ?_; intro v' w' hr' hg' hb')
    have hbn' : some bo ≠ v.ownBlock := fun he => (H5.out bo he.symm).1 rfl
    have hb1 : w'.heap[bo]? = some (.cells #[v] 38) := (hg'.block bo (by simp; omega) hbn').trans (ext_block H1.out (by repeat (first | exact Ext.refl _ | refine Ext.alloc ?_ _ | refine Ext.more ?_ _ _ | refine Ext.drew ?_ | refine Ext.drewN ?_ _ | refine Ext.setCell ?_ (by simp <;> omega) _)))
    have kb := cell_of_row _ _ 0 _ _ _ hb1
    simp at kb
    have lb' := lt_of_heap hb1
    have fb : w'.frozen? ⟨bo, 0, none⟩ = false := by simp [World.frozen?, hb1]
    have HB1 := Lib.hid hb1
    obtain ⟨A', c', hv', ho'⟩ := hr'
    obtain ⟨ln, hln⟩ : ∃ ln, (xs.take j ++ [x.slot]).length = ln := ⟨_, rfl⟩
    rw [hln] at hv'
    subst hv'
    have HO' := Lib.hid ho'
    have HLN := Lib.hid hln
    have HG := Lib.hid hg'
    have HBB := Lib.hid hb'
    clear hb1 ho' hg' hb' hbn' hln H2x k0 l0 f0
    go_wp2_with fail
    refine onlyN_mk ?_
    have T0 : Turn (fun k => K k ∨ m ≤ k) W2 (W2.alloc (.cells #[.int .i64 x.slot] 3)) := Turn.of_ext (by repeat (first | exact Ext.refl _ | refine Ext.alloc ?_ _ | refine Ext.more ?_ _ _ | refine Ext.drew ?_ | refine Ext.drewN ?_ _ | refine Ext.setCell ?_ (by simp <;> omega) _))
    have T1 : Turn (fun k => K k ∨ m ≤ k) (W2.alloc (.cells #[.int .i64 x.slot] 3)) w' := Turn.grown HG.out fun k hk _ => .inl ((H4.out k).2 (.inr hk))
    have T2 : Turn (fun k => K k ∨ m ≤ k) w' (w'.setCell ⟨bo, 0, none⟩ (.slice A' ln c')) := Turn.setCell w' (p := ⟨bo, 0, none⟩) (.inl ((H4.out bo).2 (.inl rfl))) _
    have TT := (T0.trans T1).trans T2
    have hown : ∀ g, (Value.slice A' ln c').ownBlock = some g → g ≠ bo ∧ g ≠ n0 ∧ g ≠ n0 + 1 := fun g hg => by
      rcases HBB.out with h | h
      · exact H5.out g (h ▸ hg)
      · rw [h] at hg
        injection hg with hg
        simp at hg
        omega
    refine ⟨TT, fun k => k = bo ∨ (Value.slice A' ln c').ownBlock = some k, fun k hk => ?_, _, ?_, ?_, ?_, fun k => Iff.rfl, hown⟩
    · rcases hk with rfl | hk
      · exact .inl ((H4.out _).2 (.inl rfl))
      · rcases HBB.out with h | h
        · exact .inl ((H4.out _).2 (.inr (h ▸ hk)))
        · rw [h] at hk
          injection hk with hk
          simp at hk
          exact .inr (by omega)
    · simp [World.setCell, Array.getElem?_modify, HB1.out]
    · rw [HSS.out j x HX.out]
      refine ⟨A', c', by rw [HLN.out], own_keep HO'.out fun g hg => ?_⟩
      have := (hown g (HLN.out ▸ hg)).1
      simp [World.setCell, Array.getElem?_modify, Ne.symm this]
    · exact HB2.out.trans (TT.below (by have := HB2.out.size; omega) fun k hk => by
        rcases hk with hk | hk
        · rcases (H4.out k).1 hk with h | h
          · have := HBO.out; omega
          · obtain ⟨A', c', hv, ho⟩ := H2.out
            exact own_block ho k (hv ▸ h)
        · omega)
  · rintro K V ⟨v, h1, h2, h3, h4, h5⟩ hsz hk
    rw [hn0] at hk ⊢
    rw [HXL.out, ← HSL.out, List.take_length] at h2
    have k0 := cell_of_row _ _ 0 _ _ _ h1
    simp at k0
    have l0 := lt_of_heap h1
    have tD : Turn (fun k => k = n0) V (V.putObj n0 (.deferred none)) := putObj_turn _ _ rfl
    obtain ⟨A', c', hv, ho⟩ := h2
    have OUT : Hid (IntsRet w xs (.returned v) (V.putObj n0 (.deferred none))) := Lib.hid (by
      refine ⟨A', c', by rw [hv], own_keep ho fun g hg => ?_, Ext.of_below (h3.trans (tD.below (by have := h3.size; omega) fun k hk => by omega))⟩
      have := h5 g (hv ▸ hg)
      exact tD.block g (own_old ho g hg) (by omega))
    clear h1 h3 h4 h5 tD ho hv
    go_wp2_with fail
    exact marks_ret1 (D := n0) (v := v) rfl hk (by simp [results, Try.results13, go_sem]) (by rw [HXS.out]; exact OUT.out)
end Go.Proofs.Ytmgpofdmfmeljaa
