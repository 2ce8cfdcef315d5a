/- H3: 2 texts in one. -/
import Derived.Test.YtggmljookcmnkaaH2
import Derived.Test.YtggmljookcmnkaaTw
import Derived.Test.YtggmljookcmnkaaB3
import Derived.WalkSpells
import Derived.WalkLawsBesides
import Derived.BigRegion
import Derived.Deep.RegionWith
import Derived.Deep.QuietTactic
import Derived.Deep.DeepCutAuto
import Derived.Deep.RegionHeld3
import Derived.Deep.RegionLaw
import Derived.BigQuiet
import Derived.Lib.Hide
/- The contracts of slices.AppendSeq, slices.Collect over places; reuse.All. -/
namespace Go.Proofs.Ytggmljookcmnkaa
open Go.RowKit
attribute [local go_sem] more_drew more_drewN more_size more_cell more_frozen more_setCell drew_more drewN_more lt_add_r lt_add_r2 lt_add_r3 lt_add_r4 lt_add_r5 lt_add_r6 lt_add_r7 lt_add_r8 lt_add_r9 lt_add_r10 lt_self_r lt_self_r2
attribute [local go_sem] Oper.semAt_some

def asInts (xs : List Nat) : List Int := xs.map fun (x : Nat) => (x : Int)
theorem asInts_length (xs : List Nat) : (asInts xs).length = xs.length := List.length_map ..
theorem asInts_take {xs : List Nat} {j x : Nat} (h : xs[j]? = some x) : asInts (xs.take (j + 1)) = asInts (xs.take j) ++ [(x : Int)] := by
  obtain ⟨hl, hx⟩ := List.getElem?_eq_some_iff.1 h
  unfold asInts
  rw [List.take_succ_eq_append_getElem hl, List.map_append, hx]
  rfl
/-- what AppendSeq has: its box, its row -/
def ApI (w : World) (b n0 : Nat) (xs : List Nat) (j : Nat) (K : Nat → Prop) (W : World) : Prop :=
  ∃ v, W.heap[b]? = some (.cells #[v] 30) ∧ RowI W w.heap.size v (asInts (xs.take j)) ∧ Below w.heap.size w W ∧ (∀ k, K k ↔ k = b ∨ v.ownBlock = some k) ∧ (∀ g, v.ownBlock = some g → g ≠ b ∧ g ≠ n0 ∧ g ≠ n0 + 1)
theorem ApI.turn {w : World} {b n0 : Nat} {xs : List Nat} {j : Nat} {K : Nat → Prop} {W W' : World} (h : ApI w b n0 xs j K W) (hb : b < n0) (hw : w.heap.size ≤ n0) (hn : n0 ≤ W.heap.size) (t : Turn (fun k => k = n0 ∨ k = n0 + 1) W W') : ApI w b n0 xs j K W' := by
  obtain ⟨v, h1, ⟨A, c, hv, ho⟩, h3, h4, h5⟩ := h
  refine ⟨v, (t.block _ (lt_of_heap h1) (by omega)).trans h1, ⟨A, c, hv, own_keep ho fun g hg => ?_⟩, h3.trans (t.below (by omega) fun k hk => by omega), h4, h5⟩
  rw [← hv] at hg
  have := h5 g hg
  exact t.block g (own_old ho g (hv ▸ hg)) (by omega)
theorem app_intO (w0 : World) {w : World} {ops : Array Oper} {rest : List Oper} {o : Oper} {a : Act} {Q : Exit → Act → World → Prop} (hw : Region.wanted o (yielded ops a.tmps) = true) (s x : Operand)
    (ho : o.op = .call { callee := .builtin .append, args := #[s, x], argTypes := #[30, 30] }) {xs : List Int} {v : Value} (hr : RowI w w0.heap.size v xs) (y : Int) (g : Nat)
    (hs : a.eval s = v) (hx : a.eval x = .slice (some ⟨g, 0, none⟩) 1 1) (hg : g < w.heap.size) (hc : w.cell? ⟨g, 0, none⟩ = some (.int .i64 y)) (hlen : xs.length ≤ 1000000) (hbase : w0.heap.size ≤ w.heap.size)
    (h : ∀ v' w', RowI w' w0.heap.size v' (xs ++ [y]) → w.grownBy w' v.ownBlock → (v'.ownBlock = v.ownBlock ∨ v'.ownBlock = some w.heap.size) → wpList Try.prog ops Q rest (a.put o.dst v') w') : wpList Try.prog ops Q (o :: rest) a w := by
  obtain ⟨A, c, rfl, hown⟩ := hr
  obtain ⟨i3, hi, hz0, hz1, hz2⟩ := info_parts infoInt
  refine wpList_append_cells w hw s x 30 ho w0.heap.size 3 i3 (.int .i64 0) 1 8 Try.underlying30 hi hz0 hz1 hz2 rfl (by omega) _ xs.length (iv xs) hs hown (some ⟨g, 0, none⟩) 1 1 (iv [y]) hx (fun h => by cases h) rfl
    (fun _ => ⟨g, 0, rfl, hg, fun k u hk => ?_⟩) (fun u hu => ?_) (by unfold maxLen; omega) (by omega) hbase fun v' w' h2 h3 h4 => ?_
  · cases k with
    | zero => simp [iv] at hk; rw [← hk]; exact hc
    | succ k => simp [iv] at hk
  · simp only [iv, List.map_cons, List.map_nil, List.mem_singleton] at hu
    subst hu
    rfl
  · obtain ⟨A', c', hv', _⟩ := own_cells h2
    subst hv'
    refine h _ w' ⟨A', c', by rw [List.length_append]; rfl, ?_⟩ h3 h4
    unfold OwnI
    rw [iv_append, List.length_append]
    exact h2
set_option maxRecDepth 100000 in
set_option maxHeartbeats 2000000 in
theorem appSeq_any (F : Nat) (lb : Array Value) (xs : List Nat) (w : World) (hl : xs.length ≤ 1000000) (eg : ∀ args w, (callFunc F args).run Try.prog w = .ok (.enter F args) w)
    (hIter : ∀ w1, Ext w w1 → IterG Try.prog F lb encN xs (fun k => w.heap.size ≤ k) (fun _ _ => True) w1) :
    Calls Try.prog 119 #[.slice none 0 0, .func (.func F) #[] lb] w (IntsRet w (asInts xs)) := by
  have HI := Lib.hid hIter
  clear hIter
  refine calls_of_marks Try.func119 rfl ?_
  simp only [Try.ntmps119, List.size_toArray, List.length_cons, List.length_nil, Nat.reduceAdd, Nat.reduceSub, Array.replicate_succ, Array.replicate_zero, List.push_toArray, List.append_toArray, List.nil_append, List.cons_append]
  go_wp2_with fail
  obtain ⟨b, hb⟩ : ∃ b, w.heap.size = b := ⟨_, rfl⟩
  obtain ⟨W0, hW0⟩ : ∃ W0, w.alloc (.cells #[.slice none 0 0] 30) = W0 := ⟨_, rfl⟩
  have X0 : Ext w W0 := by rw [← hW0]; exact (by repeat (first | exact Ext.refl _ | refine Ext.alloc ?_ _ | refine Ext.more ?_ _ _ | refine Ext.drew ?_ | refine Ext.drewN ?_ _ | refine Ext.setCell ?_ (by simp <;> omega) _))
  have G0 : W0.heap[b]? = some (.cells #[.slice none 0 0] 30) := by rw [← hW0, ← hb]; exact heap_alloc_new _ _
  have S0 : W0.heap.size = b + 1 := by rw [← hW0, ← hb]; simp
  rw [hW0, hb]
  clear hW0
  refine wp_rangeG (gf := F) (lb := lb) (encs := encN) (xs := xs) (S := fun k => w.heap.size ≤ k) (R := fun _ _ => True) rfl eg (fun _ => rfl) (by omega) (fun w1 hx _ => HI.out w1 (X0.trans hx))
    (fun j K W => ApI w b (b + 1) xs j K W) (fun _ _ _ => False) (fun k => k = b) (fun k hk => by omega) ?_ (fun _ _ _ _ _ _ h => h) ?_ (fun _ _ _ _ => trivial) ?_ ?_ ?_ (fun _ _ _ _ h => h.elim)
  · rintro j K U U' ht hsz hA
    rw [S0] at ht hsz
    exact hA.turn (by omega) (by omega) (by omega) ht
  · rintro j K U ⟨v, h1, h2, h3, h4, h5⟩
    rw [S0]
    refine ⟨fun h => ?_, fun h => ?_⟩
    · rcases (h4 _).1 h with h | h
      · omega
      · exact (h5 _ h).2.1 rfl
    · rcases (h4 _).1 h with h | h
      · omega
      · exact (h5 _ h).2.2 rfl
  · intro U hU
    exact ⟨.slice none 0 0, ext_block G0 hU, ⟨none, 0, by rw [List.take_zero]; rfl, by rw [List.take_zero]; exact World.ownsRow_nil _ _ _ _⟩, (X0.trans hU).below, fun k => ⟨fun h => .inl h, fun h => h.elim id (fun h => by cases h)⟩, fun g hg => by cases hg⟩
  · rintro l j x K W hx hI hsz
    clear hI
    simp only [encN]
    gi_wp2
    refine ⟨Ext.refl _, ?_⟩
    rintro W2 t2 ⟨v, h1, h2, h3, h4, h5⟩ hsz2
    rw [S0] at hsz
    have k0 := cell_of_row _ _ 0 _ _ _ h1
    simp at k0
    have l0 := lt_of_heap h1
    have f0 : W2.frozen? ⟨b, 0, none⟩ = false := by simp [World.frozen?, h1]
    have H1 := Lib.hid h1
    have H2 := Lib.hid h2
    have H3 := Lib.hid h3
    have H4 := Lib.hid h4
    have H5 := Lib.hid h5
    have HX := Lib.hid hx
    clear t2 h1 h2 h3 h4 h5 hx
    have HLX : Hid ((asInts (xs.take j)).length ≤ 1000000) := Lib.hid (by rw [asInts_length, List.length_take]; omega)
    have H2x : Hid (RowI (W2.alloc (.cells #[.int .i64 (x : Int)] 3)) w.heap.size v (asInts (xs.take j))) := Lib.hid (H2.out.ext (by repeat (first | exact Ext.refl _ | refine Ext.alloc ?_ _ | refine Ext.more ?_ _ _ | refine Ext.drew ?_ | refine Ext.drewN ?_ _ | refine Ext.setCell ?_ (by simp <;> omega) _)))
    gi_wp2_with (gi_at_builtin; refine wpListIn_of_plain (fun _ _ h => h) _ _ _ (by kernel_rfl) ?_; refine app_intO w (by rfl) (.tmp 8) (.tmp 10) rfl H2x.out (x : Int) W2.heap.size rfl rfl (by simp) (by rw [cell_of_row _ _ 0 _ _ _ (heap_alloc_new W2 (.cells #[.int .i64 (x : Int)] 3))]; rfl) HLX.out (by simp; omega) ?_; intro v' w' hr' hg' hb')
    have hbn : some b ≠ v.ownBlock := fun he => (H5.out b he.symm).1 rfl
    have hb1 : w'.heap[b]? = some (.cells #[v] 30) := (hg'.block b (by simp; omega) hbn).trans (ext_block H1.out (by repeat (first | exact Ext.refl _ | refine Ext.alloc ?_ _ | refine Ext.more ?_ _ _ | refine Ext.drew ?_ | refine Ext.drewN ?_ _ | refine Ext.setCell ?_ (by simp <;> omega) _)))
    have kb := cell_of_row _ _ 0 _ _ _ hb1
    simp at kb
    have lb' := lt_of_heap hb1
    have fb : w'.frozen? ⟨b, 0, none⟩ = false := by simp [World.frozen?, hb1]
    have HB1 := Lib.hid hb1
    obtain ⟨A', c', hv', ho'⟩ := hr'
    obtain ⟨ln, hln⟩ : ∃ ln, (asInts (xs.take j) ++ [(x : Int)]).length = ln := ⟨_, rfl⟩
    rw [hln] at hv'
    subst hv'
    have HO' := Lib.hid ho'
    have HLN := Lib.hid hln
    have HG := Lib.hid hg'
    have HBB := Lib.hid hb'
    clear hb1 ho' hg' hb' hbn hln H2x k0 l0 f0
    go_wp2_with fail
    refine onlyN_mk ?_
    have T0 : Turn (fun k => K k ∨ W.heap.size ≤ k) W2 (W2.alloc (.cells #[.int .i64 (x : Int)] 3)) := Turn.of_ext (by repeat (first | exact Ext.refl _ | refine Ext.alloc ?_ _ | refine Ext.more ?_ _ _ | refine Ext.drew ?_ | refine Ext.drewN ?_ _ | refine Ext.setCell ?_ (by simp <;> omega) _))
    have T1 : Turn (fun k => K k ∨ W.heap.size ≤ k) (W2.alloc (.cells #[.int .i64 (x : Int)] 3)) w' := Turn.grown HG.out fun k hk _ => .inl ((H4.out k).2 (.inr hk))
    have T2 : Turn (fun k => K k ∨ W.heap.size ≤ k) w' (w'.setCell ⟨b, 0, none⟩ (.slice A' ln c')) := Turn.setCell w' (p := ⟨b, 0, none⟩) (.inl ((H4.out b).2 (.inl rfl))) _
    have TT := (T0.trans T1).trans T2
    have hown : ∀ g, (Value.slice A' ln c').ownBlock = some g → g ≠ b ∧ g ≠ b + 1 ∧ g ≠ b + 1 + 1 := fun g hg => by
      rcases HBB.out with h | h
      · exact H5.out g (h ▸ hg)
      · rw [h] at hg
        injection hg with hg
        simp at hg
        omega
    refine ⟨TT, fun k => k = b ∨ (Value.slice A' ln c').ownBlock = some k, fun k hk => ?_, _, ?_, ?_, ?_, fun k => Iff.rfl, hown⟩
    · rcases hk with rfl | hk
      · exact .inl ((H4.out _).2 (.inl rfl))
      · rcases HBB.out with h | h
        · exact .inl ((H4.out _).2 (.inr (h ▸ hk)))
        · rw [h] at hk
          injection hk with hk
          simp at hk
          exact .inr (by omega)
    · simp [World.setCell, Array.getElem?_modify, HB1.out]
    · rw [asInts_take HX.out]
      refine ⟨A', c', by rw [HLN.out], own_keep HO'.out fun g hg => ?_⟩
      have := (hown g (HLN.out ▸ hg)).1
      simp [World.setCell, Array.getElem?_modify, Ne.symm this]
    · exact H3.out.trans (TT.below (by have := H3.out.size; omega) fun k hk => by
        rcases hk with hk | hk
        · rcases (H4.out k).1 hk with h | h
          · omega
          · obtain ⟨A', c', hv, ho⟩ := H2.out
            exact own_block ho k (hv ▸ h)
        · omega)
  · rintro K V ⟨v, h1, h2, h3, h4, h5⟩ hsz hk
    rw [S0] at hk ⊢
    rw [List.take_length] at h2
    have k0 := cell_of_row _ _ 0 _ _ _ h1
    simp at k0
    have l0 := lt_of_heap h1
    have tD : Turn (fun k => k = b + 1) V (V.putObj (b + 1) (.deferred none)) := putObj_turn _ _ rfl
    obtain ⟨A', c', hv, ho⟩ := h2
    have OUT : Hid (IntsRet w (asInts xs) (.returned v) (V.putObj (b + 1) (.deferred none))) := Lib.hid (by
      refine ⟨A', c', by rw [hv], own_keep ho fun g hg => ?_, Ext.of_below (h3.trans (tD.below (by omega) fun k hk => by omega))⟩
      have := h5 g (hv ▸ hg)
      exact tD.block g (own_old ho g hg) (by omega))
    clear h1 h3 h4 h5 tD ho hv
    go_wp2_with fail
    exact marks_ret1 (D := b + 1) (v := v) rfl hk (by simp [results, Try.results119, go_sem]) OUT.out
theorem collect_any (F : Nat) (lb : Array Value) (xs : List Nat) (w : World) (hl : xs.length ≤ 1000000) (eg : ∀ args w, (callFunc F args).run Try.prog w = .ok (.enter F args) w)
    (hIter : ∀ w1, Ext w w1 → IterG Try.prog F lb encN xs (fun k => w.heap.size ≤ k) (fun _ _ => True) w1) :
    Calls Try.prog 76 #[.func (.func F) #[] lb] w (IntsRet w (asInts xs)) := by
  have CA := Lib.hid (appSeq_any F lb xs w hl eg hIter)
  clear hIter eg
  go_enter Try.func76, Try.ntmps76
  go_wp2_with fail
  refine CA.out.mono ?_
  rintro e w2 ⟨A, c, rfl, ho, hx⟩
  have HO := Lib.hid ho
  have HX := Lib.hid hx
  clear ho hx
  go_wp2_with fail
  go_ret
  exact ⟨A, c, rfl, HO.out, HX.out⟩
theorem all_any (A : Option Addr) (c : Nat) (ps : List Prt) (xs : List Nat) (w : World) (h : PS w A c ps) (hG : GsOk (nds ps) xs) (hl : xs.length ≤ 1000000) : Calls Try.prog 29 #[.slice A ps.length c] w (IntsRet w (asInts xs)) := by
  have hps := h.few.len
  have S := Lib.hid h
  have HG := Lib.hid hG
  clear h hG
  go_enter Try.func29, Try.ntmps29
  go_wp2_with fail
  refine (greatest_make A ps.length c w).mono ?_
  rintro e w1 ⟨rfl, hw1⟩
  have X1 : Ext w w1 := by rw [hw1]; exact (by repeat (first | exact Ext.refl _ | refine Ext.alloc ?_ _ | refine Ext.more ?_ _ _ | refine Ext.drew ?_ | refine Ext.drewN ?_ _ | refine Ext.setCell ?_ (by simp <;> omega) _))
  have G1 : w1.heap[w.heap.size]? = some (.cells #[.slice A ps.length c] 23) := by rw [hw1]; exact heap_alloc_new _ _
  have S1 : w1.heap.size = w.heap.size + 1 := by rw [hw1]; simp
  have CC := Lib.hid (collect_any 120 #[pt w.heap.size] xs w1 hl (enters_of Try.func120 (by kernel_rfl) rfl)
    (fun w2 hx => greatest_iter A c ps xs w w2 w.heap.size _ S.out HG.out (X1.trans hx).below (ext_block G1 hx) (by omega) (fun b hb => by omega)))
  have HX1 := Lib.hid X1
  clear hw1 G1 S1 X1
  go_wp2_with fail
  refine CC.out.mono ?_
  rintro e w2 ⟨A2, c2, rfl, ho, hx⟩
  have HO := Lib.hid ho
  have HX := Lib.hid hx
  clear ho hx
  go_wp2_with fail
  go_ret
  exact ⟨A2, c2, rfl, HO.out.base HX1.out.size, HX1.out.trans HX.out⟩
end Go.Proofs.Ytggmljookcmnkaa

/- The contracts of reuse.fold over places, reuse.Bytes. -/
namespace Go.Proofs.Ytggmljookcmnkaa
open Go.RowKit
attribute [local go_sem] more_drew more_drewN more_size more_cell more_frozen more_setCell drew_more drewN_more lt_add_r lt_add_r2 lt_add_r3 lt_add_r4 lt_add_r5 lt_add_r6 lt_add_r7 lt_add_r8 lt_add_r9 lt_add_r10 lt_self_r lt_self_r2
attribute [local go_sem] Oper.semAt_some

/-- where fold is: the sum so far, the function -/
def FoI (w : World) (b : Nat) (G : Nat) (lbG : Array Value) (f : Int → Nat → Int) (x0 : Int) (xs : List Nat) (j : Nat) (K : Nat → Prop) (W : World) : Prop :=
  W.heap[b]? = some (.cells #[.int .i64 ((xs.take j).foldl f x0)] 3) ∧ W.heap[b + 1]? = some (.cells #[.func (.func G) #[] lbG] 28) ∧ Below w.heap.size w W ∧ ∀ k, K k ↔ k = b
theorem FoI.turn {w : World} {b n0 G : Nat} {lbG : Array Value} {f : Int → Nat → Int} {x0 : Int} {xs : List Nat} {j : Nat} {K : Nat → Prop} {W W' : World} (h : FoI w b G lbG f x0 xs j K W) (hb : b + 1 < n0) (hw : w.heap.size ≤ n0) (hn : n0 ≤ W.heap.size) (t : Turn (fun k => k = n0 ∨ k = n0 + 1) W W') :
    FoI w b G lbG f x0 xs j K W' := by
  obtain ⟨h1, h2, h3, h4⟩ := h
  exact ⟨(t.block _ (lt_of_heap h1) (by omega)).trans h1, (t.block _ (lt_of_heap h2) (by omega)).trans h2, h3.trans (t.below (by omega) fun k hk => by omega), h4⟩
theorem fold_take {α β : Type} {f : β → α → β} {x0 : β} {xs : List α} {j : Nat} {x : α} (h : xs[j]? = some x) : (xs.take (j + 1)).foldl f x0 = f ((xs.take j).foldl f x0) x := by
  obtain ⟨hl, hx⟩ := List.getElem?_eq_some_iff.1 h
  rw [List.take_succ_eq_append_getElem hl, List.foldl_append, hx]
  rfl
set_option maxRecDepth 100000 in
set_option maxHeartbeats 2000000 in
theorem foldN_any (F G : Nat) (lb lbG : Array Value) (xs : List Nat) (f : Int → Nat → Int) (x0 : Int) (w : World) (eg : ∀ args w, (callFunc F args).run Try.prog w = .ok (.enter F args) w) (egG : Enters Try.prog G)
    (hIter : ∀ w1, Ext w w1 → IterG Try.prog F lb encN xs (fun k => w.heap.size ≤ k) (fun _ _ => True) w1)
    (hf : ∀ (wr : World) (j x : Nat), Below w.heap.size w wr → xs[j]? = some x → Calls Try.prog G (#[.int .i64 ((xs.take j).foldl f x0), .int .i64 (x : Int)] ++ lbG) wr fun e w' => e = .returned (.int .i64 (f ((xs.take j).foldl f x0) x)) ∧ Ext wr w') :
    Calls Try.prog 78 #[.func (.func F) #[] lb, .int .i64 x0, .func (.func G) #[] lbG] w fun e w' => e = .returned (.int .i64 (xs.foldl f x0)) ∧ Ext w w' := by
  have HI := Lib.hid hIter
  have HF := Lib.hid hf
  unfold Enters at egG
  clear hIter hf
  refine calls_of_marks Try.func78 rfl ?_
  simp only [Try.ntmps78, List.size_toArray, List.length_cons, List.length_nil, Nat.reduceAdd, Nat.reduceSub, Array.replicate_succ, Array.replicate_zero, List.push_toArray, List.append_toArray, List.nil_append, List.cons_append]
  go_wp2_with fail
  obtain ⟨b, hb⟩ : ∃ b, w.heap.size = b := ⟨_, rfl⟩
  obtain ⟨W0, hW0⟩ : ∃ W0, (w.alloc (.cells #[.int .i64 x0] 3)).alloc (.cells #[.func (.func G) #[] lbG] 28) = W0 := ⟨_, rfl⟩
  have X0 : Ext w W0 := by rw [← hW0]; exact (by repeat (first | exact Ext.refl _ | refine Ext.alloc ?_ _ | refine Ext.more ?_ _ _ | refine Ext.drew ?_ | refine Ext.drewN ?_ _ | refine Ext.setCell ?_ (by simp <;> omega) _))
  have G0 : W0.heap[b]? = some (.cells #[.int .i64 x0] 3) := by rw [← hW0, ← hb]; exact (by simp only [heap_alloc_get, World.size_alloc]; (repeat (split; (first | rfl | (exfalso; omega)))); (try (first | (exfalso; omega) | simp_all)))
  have G1 : W0.heap[b + 1]? = some (.cells #[.func (.func G) #[] lbG] 28) := by rw [← hW0, ← hb]; exact (by simp only [heap_alloc_get, World.size_alloc]; (repeat (split; (first | rfl | (exfalso; omega)))); (try (first | (exfalso; omega) | simp_all)))
  have S0 : W0.heap.size = b + 2 := by rw [← hW0, ← hb]; simp
  rw [hW0, hb]
  clear hW0
  refine wp_rangeG (gf := F) (lb := lb) (encs := encN) (xs := xs) (S := fun k => w.heap.size ≤ k) (R := fun _ _ => True) rfl eg (fun _ => rfl) (by omega) (fun w1 hx _ => HI.out w1 (X0.trans hx))
    (fun j K W => FoI w b G lbG f x0 xs j K W) (fun _ _ _ => False) (fun k => k = b) (fun k hk => by omega) ?_ (fun _ _ _ _ _ _ h => h) ?_ (fun _ _ _ _ => trivial) ?_ ?_ ?_ (fun _ _ _ _ h => h.elim)
  · rintro j K U U' ht hsz hA
    rw [S0] at ht hsz
    exact hA.turn (by omega) (by omega) (by omega) ht
  · rintro j K U ⟨h1, h2, h3, h4⟩
    rw [S0]
    exact ⟨fun h => by have := (h4 _).1 h; omega, fun h => by have := (h4 _).1 h; omega⟩
  · intro U hU
    exact ⟨ext_block G0 hU, ext_block G1 hU, (X0.trans hU).below, fun k => Iff.rfl⟩
  · rintro l j x K W hx hI hsz
    clear hI
    simp only [encN]
    gi_wp2
    refine ⟨Ext.refl _, ?_⟩
    rintro W2 t2 ⟨h1, h2, h3, h4⟩ hsz2
    rw [S0] at hsz
    have k0 := cell_of_row _ _ 0 _ _ _ h1
    have k1 := cell_of_row _ _ 0 _ _ _ h2
    simp at k0 k1
    have l0 := lt_of_heap h1
    have l1 := lt_of_heap h2
    have f0 : W2.frozen? ⟨b, 0, none⟩ = false := by simp [World.frozen?, h1]
    have CF := Lib.hid (HF.out W2 j x h3 hx)
    obtain ⟨acc, hacc⟩ : ∃ acc, (xs.take j).foldl f x0 = acc := ⟨_, rfl⟩
    have HN := Lib.hid (fold_take (f := f) (x0 := x0) hx)
    rw [hacc] at CF HN k0
    have H1 := Lib.hid h1
    have H2 := Lib.hid h2
    have H3 := Lib.hid h3
    have H4 := Lib.hid h4
    clear t2 h1 h2 h3 h4 hx hacc
    gi_wp2_with (first | (refine ⟨trivial, rfl, ?_⟩; refine (CallsIn.inRound l (callsIn_wide.2 CF.out)).mono ?_; rintro e w3 ⟨rfl, os3, k3, rfl⟩))
    have T1 : Turn (fun k => K k ∨ W.heap.size ≤ k) W2 (W2.setCell ⟨b, 0, none⟩ (.int .i64 (f acc x))) := Turn.setCell W2 (p := ⟨b, 0, none⟩) (.inl ((H4.out b).2 rfl)) _
    have E : Ext (W2.setCell ⟨b, 0, none⟩ (.int .i64 (f acc x))) (more (W2.setCell ⟨b, 0, none⟩ (.int .i64 (f acc x))) os3 k3) := ⟨os3, k3, rfl⟩
    have TT := T1.trans (Turn.of_ext E)
    refine ⟨TT, fun k => k = b, fun k hk => .inl ((H4.out k).2 hk), ext_block ?_ E, (TT.block _ l1 (fun hk => ?_)).trans H2.out, ?_, fun k => Iff.rfl⟩
    · rw [HN.out]
      simp [World.setCell, Array.getElem?_modify, H1.out]
    · rcases hk with hk | hk
      · have := (H4.out _).1 hk; omega
      · omega
    · exact H3.out.trans (TT.below (by have := H3.out.size; omega) fun k hk => by
        rcases hk with hk | hk
        · have := (H4.out k).1 hk; omega
        · omega)
  · rintro K V ⟨h1, h2, h3, h4⟩ hsz hk
    rw [S0] at hk ⊢
    rw [List.take_length] at h1
    have k0 := cell_of_row _ _ 0 _ _ _ h1
    simp at k0
    have l0 := lt_of_heap h1
    have tD : Turn (fun k => k = b + 2) V (V.putObj (b + 2) (.deferred none)) := putObj_turn _ _ rfl
    have OUT := Lib.hid (Ext.of_below (h3.trans (tD.below (n := w.heap.size) (by omega) fun k hk => by omega)))
    clear h1 h2 h3 h4 tD
    go_wp2_with fail
    exact marks_ret1 (D := b + 2) (v := .int .i64 (xs.foldl f x0)) rfl hk (by simp [results, Try.results78, go_sem]) ⟨rfl, OUT.out⟩
/-- how many bytes parts have -/
def bytesF (l : List Nd) (n : Int) (x : Nat) : Int := n + ((l[x]?).map (·.hi)).getD 0 - ((l[x]?).map (·.lo)).getD 0
set_option maxRecDepth 100000 in
set_option maxHeartbeats 1000000 in
theorem bytes1_any (A : Option Addr) (c : Nat) (ps : List Prt) (n : Int) (x pb : Nat) (w : World) (h : PS w A c ps) (hx : x < ps.length) (hpb : w.heap[pb]? = some (.cells #[.slice A ps.length c] 23)) (hL : LightP 120 ps) (hn : -1099511627776 ≤ n ∧ n ≤ 1099511627776) :
    Calls Try.prog 79 #[.int .i64 n, .int .i64 x, pt pb] w fun e w' => e = .returned (.int .i64 (bytesF (nds ps) n x)) ∧ Ext w w' := by
  obtain ⟨p, hp⟩ : ∃ p, ps[x]? = some p := ⟨_, List.getElem?_eq_getElem hx⟩
  have hb := hL.places p (List.mem_of_getElem? hp)
  unfold Lt20 at hb
  have HB : Hid (bytesF (nds ps) n x = n + p.nd.hi - p.nd.lo) := Lib.hid (by unfold bytesF; rw [nds_get hp]; rfl)
  obtain ⟨b, off, rfl, hbl, hcell⟩ := h.parts (by omega)
  obtain ⟨_, _, d2, _, d4, _, _, _⟩ := hcell x p hp
  have hcap := h.cap
  have hlen := h.few.len
  have k0 := cell_of_row _ _ 0 _ _ _ hpb
  simp at k0
  have l0 := lt_of_heap hpb
  have b1 : IntKind.i64.wrap (n + p.nd.hi) = n + p.nd.hi := IntWalk.i64_in _ (by omega)
  have b2 : IntKind.i64.wrap (n + p.nd.hi - p.nd.lo) = n + p.nd.hi - p.nd.lo := IntWalk.i64_in _ (by omega)
  clear h hp hb hcell hpb hL
  go_enter Try.func79, Try.ntmps79
  go_wp2_with fail
  refine wp_region_ext (by kernel_rfl) (by kernel_rfl) ?_
  repeat (go_big_quiet_step (fail))
  refine wpQuiet_nil ?_
  intro _ hw'
  obtain ⟨x9, rfl⟩ := hw'
  go_wp2_with fail
  go_ret
  exact ⟨ret_int (by rw [HB.out]), (by repeat (first | exact Ext.refl _ | refine Ext.alloc ?_ _ | refine Ext.more ?_ _ _ | refine Ext.drew ?_ | refine Ext.drewN ?_ _ | refine Ext.setCell ?_ (by simp <;> omega) _))⟩
theorem bytes_bd {ps : List Prt} {xs : List Nat} (hL : LightP 120 ps) (hl : xs.length ≤ 1000) : -1099511627776 ≤ xs.foldl (bytesF (nds ps)) 0 ∧ xs.foldl (bytesF (nds ps)) 0 ≤ 1099511627776 := by
  have key : ∀ (xs : List Nat) (n : Int), n - 2097152 * xs.length ≤ xs.foldl (bytesF (nds ps)) n ∧ xs.foldl (bytesF (nds ps)) n ≤ n + 2097152 * xs.length := by
    intro xs
    induction xs with
    | nil => intro n; simp
    | cons x xs ih =>
      intro n
      rw [List.foldl_cons, List.length_cons]
      have := ih (bytesF (nds ps) n x)
      have hb : n - 2097152 ≤ bytesF (nds ps) n x ∧ bytesF (nds ps) n x ≤ n + 2097152 := by
        unfold bytesF
        cases h : (nds ps)[x]? with
        | none => simp; omega
        | some q =>
          obtain ⟨p, hp, rfl⟩ := nds_get' h
          have := hL.places p (List.mem_of_getElem? hp)
          unfold Lt20 at this
          simp only [Option.map_some, Option.getD_some]
          omega
      omega
  have := key xs 0
  omega
set_option maxRecDepth 100000 in
set_option maxHeartbeats 1000000 in
theorem bytes_any (A : Option Addr) (c : Nat) (ps : List Prt) (xs : List Nat) (w : World) (h : PS w A c ps) (hG : GsOk (nds ps) xs) (hL : LightP 120 ps) (hl : xs.length ≤ 1000) (hx : ∀ x ∈ xs, x < ps.length) :
    Calls Try.prog 31 #[.slice A ps.length c] w fun e w' => e = .returned (.int .i64 (xs.foldl (bytesF (nds ps)) 0)) ∧ Ext w w' := by
  have S := Lib.hid h
  have HG := Lib.hid hG
  have HL := Lib.hid hL
  have HX := Lib.hid hx
  have hps := h.few.len
  clear h hG hL hx
  go_enter Try.func31, Try.ntmps31
  go_wp2_with fail
  obtain ⟨W1, hW1⟩ : ∃ W1, w.alloc (.cells #[.slice A ps.length c] 23) = W1 := ⟨_, rfl⟩
  have X1 : Ext w W1 := by rw [← hW1]; exact (by repeat (first | exact Ext.refl _ | refine Ext.alloc ?_ _ | refine Ext.more ?_ _ _ | refine Ext.drew ?_ | refine Ext.drewN ?_ _ | refine Ext.setCell ?_ (by simp <;> omega) _))
  have G1 : W1.heap[w.heap.size]? = some (.cells #[.slice A ps.length c] 23) := by rw [← hW1]; exact heap_alloc_new _ _
  have S1 : W1.heap.size = w.heap.size + 1 := by rw [← hW1]; simp
  obtain ⟨b, hb⟩ : ∃ b, w.heap.size = b := ⟨_, rfl⟩
  rw [hb] at G1 S1 ⊢
  rw [hW1]
  clear hW1
  refine (greatest_make A ps.length c W1).mono ?_
  rintro e w2 ⟨rfl, hw2⟩
  have X2 : Ext W1 w2 := by rw [hw2]; exact (by repeat (first | exact Ext.refl _ | refine Ext.alloc ?_ _ | refine Ext.more ?_ _ _ | refine Ext.drew ?_ | refine Ext.drewN ?_ _ | refine Ext.setCell ?_ (by simp <;> omega) _))
  have G2 : w2.heap[b + 1]? = some (.cells #[.slice A ps.length c] 23) := by rw [hw2, ← S1]; exact heap_alloc_new _ _
  have S2 : w2.heap.size = b + 2 := by rw [hw2]; simp [S1]
  rw [S1]
  have CC := Lib.hid (foldN_any 120 79 #[pt (b + 1)] #[pt b] xs (bytesF (nds ps)) 0 w2 (enters_of Try.func120 (by kernel_rfl) rfl) (enters_of Try.func79 (by kernel_rfl) rfl)
    (fun w3 hx => greatest_iter A c ps xs w w3 (b + 1) _ S.out HG.out ((X1.trans X2).trans hx).below (ext_block G2 hx) (by omega) (fun k hk => by omega))
    (fun wr j x hb' hxj => bytes1_any A c ps _ x b wr (S.out.below ((X1.trans X2).below.trans (hb'.mono (by omega)))) (HX.out x (List.mem_of_getElem? hxj)) ((hb'.block _ (by omega)).trans (ext_block G1 X2)) HL.out (bytes_bd HL.out (by rw [List.length_take]; omega))))
  have HX2 := Lib.hid (X1.trans X2)
  clear hw2 G1 G2 S1 S2 X1 X2
  go_wp2_with fail
  refine CC.out.mono ?_
  rintro e w4 ⟨rfl, hx4⟩
  have HX4 := Lib.hid (HX2.out.trans hx4)
  clear hx4
  go_wp2_with fail
  go_ret
  exact ⟨rfl, HX4.out⟩
end Go.Proofs.Ytggmljookcmnkaa
