/- The contracts of slices.AppendSeq, slices.Collect over places; reuse.All. -/
import Derived.Test.YtaffaeompdlecaaH2
import Derived.Test.YtaffaeompdlecaaTw
import Derived.Test.YtaffaeompdlecaaB5
import Derived.WalkSpells
import Derived.WalkLawsBesides
import Derived.BigRegion
import Derived.Deep.RegionWith
import Derived.Deep.QuietTactic
import Derived.Deep.DeepCutAuto
import Derived.Deep.RegionHeld3
import Derived.Deep.RegionLaw
import Derived.BigQuiet
import Derived.Lib.Hide
namespace Go.Proofs.Ytaffaeompdlecaa
open Go.RowKit
attribute [local go_sem] more_drew more_drewN more_size more_cell more_frozen more_setCell drew_more drewN_more lt_add_r lt_add_r2 lt_add_r3 lt_add_r4 lt_add_r5 lt_add_r6 lt_add_r7 lt_add_r8 lt_add_r9 lt_add_r10 lt_self_r lt_self_r2
attribute [local go_sem] Oper.semAt_some

def asInts (xs : List Nat) : List Int := xs.map fun (x : Nat) => (x : Int)
theorem asInts_length (xs : List Nat) : (asInts xs).length = xs.length := List.length_map ..
theorem asInts_take {xs : List Nat} {j x : Nat} (h : xs[j]? = some x) : asInts (xs.take (j + 1)) = asInts (xs.take j) ++ [(x : Int)] := by
  obtain ⟨hl, hx⟩ := List.getElem?_eq_some_iff.1 h
  unfold asInts
  rw [List.take_succ_eq_append_getElem hl, List.map_append, hx]
  rfl
/-- what AppendSeq has: its box, its row -/
def ApI (w : World) (b n0 : Nat) (xs : List Nat) (j : Nat) (K : Nat → Prop) (W : World) : Prop :=
  ∃ v, W.heap[b]? = some (.cells #[v] 30) ∧ RowI W w.heap.size v (asInts (xs.take j)) ∧ Below w.heap.size w W ∧ (∀ k, K k ↔ k = b ∨ v.ownBlock = some k) ∧ (∀ g, v.ownBlock = some g → g ≠ b ∧ g ≠ n0 ∧ g ≠ n0 + 1)
theorem ApI.turn {w : World} {b n0 : Nat} {xs : List Nat} {j : Nat} {K : Nat → Prop} {W W' : World} (h : ApI w b n0 xs j K W) (hb : b < n0) (hw : w.heap.size ≤ n0) (hn : n0 ≤ W.heap.size) (t : Turn (fun k => k = n0 ∨ k = n0 + 1) W W') : ApI w b n0 xs j K W' := by
  obtain ⟨v, h1, ⟨A, c, hv, ho⟩, h3, h4, h5⟩ := h
  refine ⟨v, (t.block _ (lt_of_heap h1) (by omega)).trans h1, ⟨A, c, hv, own_keep ho fun g hg => ?_⟩, h3.trans (t.below (by omega) fun k hk => by omega), h4, h5⟩
  rw [← hv] at hg
  have := h5 g hg
  exact t.block g (own_old ho g (hv ▸ hg)) (by omega)
theorem app_intO (w0 : World) {w : World} {ops : Array Oper} {rest : List Oper} {o : Oper} {a : Act} {Q : Exit → Act → World → Prop} (hw : Region.wanted o (yielded ops a.tmps) = true) (s x : Operand)
    (ho : o.op = .call { callee := .builtin .append, args := #[s, x], argTypes := #[30, 30] }) {xs : List Int} {v : Value} (hr : RowI w w0.heap.size v xs) (y : Int) (g : Nat)
    (hs : a.eval s = v) (hx : a.eval x = .slice (some ⟨g, 0, none⟩) 1 1) (hg : g < w.heap.size) (hc : w.cell? ⟨g, 0, none⟩ = some (.int .i64 y)) (hlen : xs.length ≤ 1000000) (hbase : w0.heap.size ≤ w.heap.size)
    (h : ∀ v' w', RowI w' w0.heap.size v' (xs ++ [y]) → w.grownBy w' v.ownBlock → (v'.ownBlock = v.ownBlock ∨ v'.ownBlock = some w.heap.size) → wpList Try.prog ops Q rest (a.put o.dst v') w') : wpList Try.prog ops Q (o :: rest) a w := by
  obtain ⟨A, c, rfl, hown⟩ := hr
  obtain ⟨i3, hi, hz0, hz1, hz2⟩ := info_parts infoInt
  refine wpList_append_cells w hw s x 30 ho w0.heap.size 3 i3 (.int .i64 0) 1 8 Try.underlying30 hi hz0 hz1 hz2 rfl (by omega) _ xs.length (iv xs) hs hown (some ⟨g, 0, none⟩) 1 1 (iv [y]) hx (fun h => by cases h) rfl
    (fun _ => ⟨g, 0, rfl, hg, fun k u hk => ?_⟩) (fun u hu => ?_) (by unfold maxLen; omega) (by omega) hbase fun v' w' h2 h3 h4 => ?_
  · cases k with
    | zero => simp [iv] at hk; rw [← hk]; exact hc
    | succ k => simp [iv] at hk
  · simp only [iv, List.map_cons, List.map_nil, List.mem_singleton] at hu
    subst hu
    rfl
  · obtain ⟨A', c', hv', _⟩ := own_cells h2
    subst hv'
    refine h _ w' ⟨A', c', by rw [List.length_append]; rfl, ?_⟩ h3 h4
    unfold OwnI
    rw [iv_append, List.length_append]
    exact h2
set_option maxRecDepth 100000 in
set_option maxHeartbeats 2000000 in
theorem appSeq_any (F : Nat) (lb : Array Value) (xs : List Nat) (w : World) (hl : xs.length ≤ 1000000) (eg : ∀ args w, (callFunc F args).run Try.prog w = .ok (.enter F args) w)
    (hIter : ∀ w1, Ext w w1 → IterG Try.prog F lb encN xs (fun k => w.heap.size ≤ k) (fun _ _ => True) w1) :
    Calls Try.prog 159 #[.slice none 0 0, .func (.func F) #[] lb] w (IntsRet w (asInts xs)) := by
  have HI := Lib.hid hIter
  clear hIter
  refine calls_of_marks Try.func159 rfl ?_
  simp only [Try.ntmps159, List.size_toArray, List.length_cons, List.length_nil, Nat.reduceAdd, Nat.reduceSub, Array.replicate_succ, Array.replicate_zero, List.push_toArray, List.append_toArray, List.nil_append, List.cons_append]
  go_wp2_with fail
  obtain ⟨b, hb⟩ : ∃ b, w.heap.size = b := ⟨_, rfl⟩
  obtain ⟨W0, hW0⟩ : ∃ W0, w.alloc (.cells #[.slice none 0 0] 30) = W0 := ⟨_, rfl⟩
  have X0 : Ext w W0 := by rw [← hW0]; exact (by repeat (first | exact Ext.refl _ | refine Ext.alloc ?_ _ | refine Ext.more ?_ _ _ | refine Ext.drew ?_ | refine Ext.drewN ?_ _ | refine Ext.setCell ?_ (by simp <;> omega) _))
  have G0 : W0.heap[b]? = some (.cells #[.slice none 0 0] 30) := by rw [← hW0, ← hb]; exact heap_alloc_new _ _
  have S0 : W0.heap.size = b + 1 := by rw [← hW0, ← hb]; simp
  rw [hW0, hb]
  clear hW0
  refine wp_rangeG (gf := F) (lb := lb) (encs := encN) (xs := xs) (S := fun k => w.heap.size ≤ k) (R := fun _ _ => True) rfl eg (fun _ => rfl) (by omega) (fun w1 hx _ => HI.out w1 (X0.trans hx))
    (fun j K W => ApI w b (b + 1) xs j K W) (fun _ _ _ => False) (fun k => k = b) (fun k hk => by omega) ?_ (fun _ _ _ _ _ _ h => h) ?_ (fun _ _ _ _ => trivial) ?_ ?_ ?_ (fun _ _ _ _ h => h.elim)
  · rintro j K U U' ht hsz hA
    rw [S0] at ht hsz
    exact hA.turn (by omega) (by omega) (by omega) ht
  · rintro j K U ⟨v, h1, h2, h3, h4, h5⟩
    rw [S0]
    refine ⟨fun h => ?_, fun h => ?_⟩
    · rcases (h4 _).1 h with h | h
      · omega
      · exact (h5 _ h).2.1 rfl
    · rcases (h4 _).1 h with h | h
      · omega
      · exact (h5 _ h).2.2 rfl
  · intro U hU
    exact ⟨.slice none 0 0, ext_block G0 hU, ⟨none, 0, by rw [List.take_zero]; rfl, by rw [List.take_zero]; exact World.ownsRow_nil _ _ _ _⟩, (X0.trans hU).below, fun k => ⟨fun h => .inl h, fun h => h.elim id (fun h => by cases h)⟩, fun g hg => by cases hg⟩
  · rintro l j x K W hx hI hsz
    clear hI
    simp only [encN]
    gi_wp2
    refine ⟨Ext.refl _, ?_⟩
    rintro W2 t2 ⟨v, h1, h2, h3, h4, h5⟩ hsz2
    rw [S0] at hsz
    have k0 := cell_of_row _ _ 0 _ _ _ h1
    simp at k0
    have l0 := lt_of_heap h1
    have f0 : W2.frozen? ⟨b, 0, none⟩ = false := by simp [World.frozen?, h1]
    have H1 := Lib.hid h1
    have H2 := Lib.hid h2
    have H3 := Lib.hid h3
    have H4 := Lib.hid h4
    have H5 := Lib.hid h5
    have HX := Lib.hid hx
    clear t2 h1 h2 h3 h4 h5 hx
    have HLX : Hid ((asInts (xs.take j)).length ≤ 1000000) := Lib.hid (by rw [asInts_length, List.length_take]; omega)
    have H2x : Hid (RowI (W2.alloc (.cells #[.int .i64 (x : Int)] 3)) w.heap.size v (asInts (xs.take j))) := Lib.hid (H2.out.ext (by repeat (first | exact Ext.refl _ | refine Ext.alloc ?_ _ | refine Ext.more ?_ _ _ | refine Ext.drew ?_ | refine Ext.drewN ?_ _ | refine Ext.setCell ?_ (by simp <;> omega) _)))
    gi_wp2_with (gi_at_builtin; refine wpListIn_of_plain (fun _ _ h => h) _ _ _ (by kernel_rfl) ?_; refine app_intO w (by rfl) (.tmp 8) (.tmp 10) rfl H2x.out (x : Int) W2.heap.size rfl rfl (by simp) (by rw [cell_of_row _ _ 0 _ _ _ (heap_alloc_new W2 (.cells #[.int .i64 (x : Int)] 3))]; rfl) HLX.out (by simp; omega) ?_; intro v' w' hr' hg' hb')
    have hbn : some b ≠ v.ownBlock := fun he => (H5.out b he.symm).1 rfl
    have hb1 : w'.heap[b]? = some (.cells #[v] 30) := (hg'.block b (by simp; omega) hbn).trans (ext_block H1.out (by repeat (first | exact Ext.refl _ | refine Ext.alloc ?_ _ | refine Ext.more ?_ _ _ | refine Ext.drew ?_ | refine Ext.drewN ?_ _ | refine Ext.setCell ?_ (by simp <;> omega) _)))
    have kb := cell_of_row _ _ 0 _ _ _ hb1
    simp at kb
    have lb' := lt_of_heap hb1
    have fb : w'.frozen? ⟨b, 0, none⟩ = false := by simp [World.frozen?, hb1]
    have HB1 := Lib.hid hb1
    obtain ⟨A', c', hv', ho'⟩ := hr'
    obtain ⟨ln, hln⟩ : ∃ ln, (asInts (xs.take j) ++ [(x : Int)]).length = ln := ⟨_, rfl⟩
    rw [hln] at hv'
    subst hv'
    have HO' := Lib.hid ho'
    have HLN := Lib.hid hln
    have HG := Lib.hid hg'
    have HBB := Lib.hid hb'
    clear hb1 ho' hg' hb' hbn hln H2x k0 l0 f0
    go_wp2_with fail
    refine onlyN_mk ?_
    have T0 : Turn (fun k => K k ∨ W.heap.size ≤ k) W2 (W2.alloc (.cells #[.int .i64 (x : Int)] 3)) := Turn.of_ext (by repeat (first | exact Ext.refl _ | refine Ext.alloc ?_ _ | refine Ext.more ?_ _ _ | refine Ext.drew ?_ | refine Ext.drewN ?_ _ | refine Ext.setCell ?_ (by simp <;> omega) _))
    have T1 : Turn (fun k => K k ∨ W.heap.size ≤ k) (W2.alloc (.cells #[.int .i64 (x : Int)] 3)) w' := Turn.grown HG.out fun k hk _ => .inl ((H4.out k).2 (.inr hk))
    have T2 : Turn (fun k => K k ∨ W.heap.size ≤ k) w' (w'.setCell ⟨b, 0, none⟩ (.slice A' ln c')) := Turn.setCell w' (p := ⟨b, 0, none⟩) (.inl ((H4.out b).2 (.inl rfl))) _
    have TT := (T0.trans T1).trans T2
    have hown : ∀ g, (Value.slice A' ln c').ownBlock = some g → g ≠ b ∧ g ≠ b + 1 ∧ g ≠ b + 1 + 1 := fun g hg => by
      rcases HBB.out with h | h
      · exact H5.out g (h ▸ hg)
      · rw [h] at hg
        injection hg with hg
        simp at hg
        omega
    refine ⟨TT, fun k => k = b ∨ (Value.slice A' ln c').ownBlock = some k, fun k hk => ?_, _, ?_, ?_, ?_, fun k => Iff.rfl, hown⟩
    · rcases hk with rfl | hk
      · exact .inl ((H4.out _).2 (.inl rfl))
      · rcases HBB.out with h | h
        · exact .inl ((H4.out _).2 (.inr (h ▸ hk)))
        · rw [h] at hk
          injection hk with hk
          simp at hk
          exact .inr (by omega)
    · simp [World.setCell, Array.getElem?_modify, HB1.out]
    · rw [asInts_take HX.out]
      refine ⟨A', c', by rw [HLN.out], own_keep HO'.out fun g hg => ?_⟩
      have := (hown g (HLN.out ▸ hg)).1
      simp [World.setCell, Array.getElem?_modify, Ne.symm this]
    · exact H3.out.trans (TT.below (by have := H3.out.size; omega) fun k hk => by
        rcases hk with hk | hk
        · rcases (H4.out k).1 hk with h | h
          · omega
          · obtain ⟨A', c', hv, ho⟩ := H2.out
            exact own_block ho k (hv ▸ h)
        · omega)
  · rintro K V ⟨v, h1, h2, h3, h4, h5⟩ hsz hk
    rw [S0] at hk ⊢
    rw [List.take_length] at h2
    have k0 := cell_of_row _ _ 0 _ _ _ h1
    simp at k0
    have l0 := lt_of_heap h1
    have tD : Turn (fun k => k = b + 1) V (V.putObj (b + 1) (.deferred none)) := putObj_turn _ _ rfl
    obtain ⟨A', c', hv, ho⟩ := h2
    have OUT : Hid (IntsRet w (asInts xs) (.returned v) (V.putObj (b + 1) (.deferred none))) := Lib.hid (by
      refine ⟨A', c', by rw [hv], own_keep ho fun g hg => ?_, Ext.of_below (h3.trans (tD.below (by omega) fun k hk => by omega))⟩
      have := h5 g (hv ▸ hg)
      exact tD.block g (own_old ho g hg) (by omega))
    clear h1 h3 h4 h5 tD ho hv
    go_wp2_with fail
    exact marks_ret1 (D := b + 1) (v := v) rfl hk (by simp [results, Try.results159, go_sem]) OUT.out
theorem collect_any (F : Nat) (lb : Array Value) (xs : List Nat) (w : World) (hl : xs.length ≤ 1000000) (eg : ∀ args w, (callFunc F args).run Try.prog w = .ok (.enter F args) w)
    (hIter : ∀ w1, Ext w w1 → IterG Try.prog F lb encN xs (fun k => w.heap.size ≤ k) (fun _ _ => True) w1) :
    Calls Try.prog 128 #[.func (.func F) #[] lb] w (IntsRet w (asInts xs)) := by
  have CA := Lib.hid (appSeq_any F lb xs w hl eg hIter)
  clear hIter eg
  go_enter Try.func128, Try.ntmps128
  go_wp2_with fail
  refine CA.out.mono ?_
  rintro e w2 ⟨A, c, rfl, ho, hx⟩
  have HO := Lib.hid ho
  have HX := Lib.hid hx
  clear ho hx
  go_wp2_with fail
  go_ret
  exact ⟨A, c, rfl, HO.out, HX.out⟩
theorem all_any (A : Option Addr) (c : Nat) (ps : List Prt) (xs : List Nat) (w : World) (h : PS w A c ps) (hG : GsOk (nds ps) xs) (hl : xs.length ≤ 1000000) : Calls Try.prog 62 #[.slice A ps.length c] w (IntsRet w (asInts xs)) := by
  have hps := h.few.len
  have S := Lib.hid h
  have HG := Lib.hid hG
  clear h hG
  go_enter Try.func62, Try.ntmps62
  go_wp2_with fail
  refine (greatest_make A ps.length c w).mono ?_
  rintro e w1 ⟨rfl, hw1⟩
  have X1 : Ext w w1 := by rw [hw1]; exact (by repeat (first | exact Ext.refl _ | refine Ext.alloc ?_ _ | refine Ext.more ?_ _ _ | refine Ext.drew ?_ | refine Ext.drewN ?_ _ | refine Ext.setCell ?_ (by simp <;> omega) _))
  have G1 : w1.heap[w.heap.size]? = some (.cells #[.slice A ps.length c] 22) := by rw [hw1]; exact heap_alloc_new _ _
  have S1 : w1.heap.size = w.heap.size + 1 := by rw [hw1]; simp
  have CC := Lib.hid (collect_any 160 #[pt w.heap.size] xs w1 hl (enters_of Try.func160 (by kernel_rfl) rfl)
    (fun w2 hx => greatest_iter A c ps xs w w2 w.heap.size _ S.out HG.out (X1.trans hx).below (ext_block G1 hx) (by omega) (fun b hb => by omega)))
  have HX1 := Lib.hid X1
  clear hw1 G1 S1 X1
  go_wp2_with fail
  refine CC.out.mono ?_
  rintro e w2 ⟨A2, c2, rfl, ho, hx⟩
  have HO := Lib.hid ho
  have HX := Lib.hid hx
  clear ho hx
  go_wp2_with fail
  go_ret
  exact ⟨A2, c2, rfl, HO.out.base HX1.out.size, HX1.out.trans HX.out⟩
end Go.Proofs.Ytaffaeompdlecaa
