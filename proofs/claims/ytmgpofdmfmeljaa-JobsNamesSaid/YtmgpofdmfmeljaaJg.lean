/- Take. -/
import Derived.Test.YtmgpofdmfmeljaaJf
import Derived.Lib.SliceRun
import Derived.Laws.IdiomCopy
import Derived.WalkSpells
import Derived.WalkLawsBesides
import Derived.BigRegion
import Derived.Deep.RegionWith
import Derived.Deep.QuietTactic
import Derived.Deep.DeepCutAuto
import Derived.Deep.RegionHeld3
import Derived.Deep.RegionLaw
import Derived.BigQuiet
import Derived.Lib.Hide
namespace Go.Proofs.Ytmgpofdmfmeljaa
open Go.RowKit
attribute [local go_sem] more_drew more_drewN more_size more_cell more_frozen more_setCell drew_more drewN_more lt_add_r lt_add_r2 lt_add_r3 lt_add_r4 lt_add_r5 lt_add_r6 lt_add_r7 lt_add_r8 lt_add_r9 lt_add_r10 lt_self_r lt_self_r2

theorem zeroIt : ∀ w, (zeroValue 63).run Try.prog w = .ok (.agg #[.int .i64 0, .int .i64 0, .int .i64 0, .int .i64 0, .int .i64 0, .int .i64 0]) w := fun w => by
  obtain ⟨i60, hi, hz0, hz1, hz2⟩ := info_parts infoIt
  simp [zeroValue, typeInfo, hi, hz0]
theorem zc6 : (Builtin.zeroCells #[.int .i64 0, .int .i64 0, .int .i64 0, .int .i64 0, .int .i64 0, .int .i64 0] 1).toList = [.int .i64 0, .int .i64 0, .int .i64 0, .int .i64 0, .int .i64 0, .int .i64 0] := by kernel_rfl
theorem run_clear_item (w : World) (ty : TypeId) (b o c : Nat) (hc : ∀ j, j < 6 → (w.cell? ⟨b, o + j, none⟩).isSome = true) (hf : ∀ j, j < 6 → w.frozen? ⟨b, o + j, none⟩ = false) :
    (Builtin.clear_ #[57] ty #[.slice (some ⟨b, o, none⟩) 1 c]).run Try.prog w = .ok (.tuple #[]) (w.setCells b o [.int .i64 0, .int .i64 0, .int .i64 0, .int .i64 0, .int .i64 0, .int .i64 0]) := by
  have hst := run_storeCells_cells (P := Try.prog) b o [.int .i64 0, .int .i64 0, .int .i64 0, .int .i64 0, .int .i64 0, .int .i64 0] 0 w (by simpa using hc) (by simpa using hf) (by intro v hv; simp at hv; subst hv; rfl)
  simp only [Nat.add_zero] at hst
  simp [Builtin.clear_, run_underlying Try.underlying57, Value.cells, zc6, hst]

set_option maxRecDepth 100000 in
set_option maxHeartbeats 3000000 in
theorem delete_last (g n cap : Nat) (hn : n + 1 ≤ cap) (hm : cap ≤ maxLen) (w : World) (hc : ∀ j, j < 6 → (w.cell? ⟨g, n * 6 + j, none⟩).isSome = true) (hf : ∀ j, j < 6 → w.frozen? ⟨g, n * 6 + j, none⟩ = false) :
    Calls Try.prog 36 #[.slice (some ⟨g, 0, none⟩) (n + 1) cap, .int .i64 (n : Int), .int .i64 ((n : Int) + 1)] w fun e w' => e = .returned (.slice (some ⟨g, 0, none⟩) n cap) ∧ w' = w.drew.setCells g (n * 6) [.int .i64 0, .int .i64 0, .int .i64 0, .int .i64 0, .int .i64 0, .int .i64 0] := by
  have hm' : cap ≤ 9223372036854775807 := by unfold maxLen at hm; omega
  obtain ⟨i60, hi, hz0, hz1, hz2⟩ := info_parts infoIt
  obtain ⟨A, hA⟩ : ∃ A : Addr, (if cap = n + 1 then some (⟨g, 0, none⟩ : Addr) else some ⟨g, (n + 1) * 6, none⟩) = some A := by split <;> exact ⟨_, rfl⟩
  have hcl : ∀ ty c, (Builtin.clear_ #[57] ty #[.slice (some ⟨g, n * 6, none⟩) 1 c]).run Try.prog w.drew = .ok (.tuple #[]) (w.drew.setCells g (n * 6) [.int .i64 0, .int .i64 0, .int .i64 0, .int .i64 0, .int .i64 0, .int .i64 0]) :=
    fun ty c => run_clear_item w.drew ty g (n * 6) c hc hf
  have hsc : w.drew.setCells g (n * 6) [] = w.drew := rfl
  have e1 : ((n : Int) == (n : Int) + 1) = false := by simp; omega
  have hic : n ≤ cap := by omega
  have h0 : (0 : Int) ≤ (n : Int) + 1 := by omega
  clear hc hf
  go_enter Try.func36, Try.ntmps36
  go_wp2_with fail
  go_region_law (refine step_append_room rfl (.tmp 22) (.tmp 25) 57 rfl 63 i60 6 Try.underlying57 hi hz1 g 0 n cap (by simp [Act.eval, Act.put]) A 0 (cap - (n + 1)) [] (by simp [Act.eval, Act.put]) rfl (by simp) (by simp) (by omega) (by simp) ?_)
  go_wp2_with fail
  go_ret
  exact ⟨rfl, rfl⟩
/-- what a Take leaves -/
def takeL (kv : Kv) (X : List It) : List It := downL kv (X.length - 1) ((X.set 0 (X.getD (X.length - 1) z6)).take (X.length - 1)) 0
theorem own_shrink {w : World} {base : Nat} {e : TypeId} {g cap n : Nat} {xs : List Value} (h : w.ownsRow base e 6 (.slice (some ⟨g, 0, none⟩) (n + 1) cap) (n + 1) xs) : w.ownsRow base e 6 (.slice (some ⟨g, 0, none⟩) n cap) n (xs.take (n * 6)) := by
  rcases h.2 with ⟨h1, _⟩ | ⟨g', cap', cur, h1, h2, h3, h4, h5, h6, h7⟩
  · cases h1
  · injection h1 with h1 _ h9
    injection h1 with h1
    injection h1 with h1
    subst h1
    subst h9
    refine ⟨by rw [List.length_take, h.1]; omega, .inr ⟨g, cap, cur, rfl, h2, h3, by omega, h5, h6, ?_⟩⟩
    rw [← h7, List.take_take]
    congr 1
    omega
theorem HeapAt.shrink {w : World} {p g n cap : Nat} {o : Od} {X : List It} {c : Int} (h : HeapAt w p o (.slice (some ⟨g, 0, none⟩) (n + 1) cap) X c) (hX : X.length = n + 1) :
    HeapAt (w.setCell ⟨p, 1, none⟩ (.slice (some ⟨g, 0, none⟩) n cap)) p o (.slice (some ⟨g, 0, none⟩) n cap) (X.take n) c ∧ Moves p (.slice (some ⟨g, 0, none⟩) (n + 1) cap) (.slice (some ⟨g, 0, none⟩) n cap) w (w.setCell ⟨p, 1, none⟩ (.slice (some ⟨g, 0, none⟩) n cap)) := by
  have hl : (X.take n).length = n := by rw [List.length_take]; omega
  refine ⟨⟨?_, ?_, ?_⟩, ⟨Turn.setCell _ (.inl rfl) _, fun b hb => .inl (hb.imp id fun hb => hb)⟩⟩
  · simp [World.setCell, Array.getElem?_modify, h.blk]
  · rw [hl, flat_take]
    have h1 := h.row
    rw [hX] at h1
    refine own_keep (own_shrink h1) fun g' hg' => heap_setCell_other _ _ _ _ fun he => ?_
    subst he
    exact h.apart hg'.symm
  · exact h.ordT (Turn.setCell _ (by left; rfl) _)

set_option maxRecDepth 100000 in
set_option maxHeartbeats 3000000 in
theorem down_nil {p : Nat} {o : Od} {v : Value} {c : Int} (w : World) (h : HeapAt w p o v [] c) : Calls Try.prog 37 #[.pointer (some ⟨p, 0, none⟩), .int .i64 0] w fun e w' => e = .returned (.tuple #[]) ∧ w = w' := by
  obtain ⟨A, cap, rfl, _⟩ := h.val
  obtain ⟨c0, c1, _⟩ := h.cell
  have hp := h.lt
  clear h
  go_enter Try.func37, Try.ntmps37
  go_wp2_with fail
  refine wp_loop_rounds 1 ?_
  rw [rounds_succ]
  go_wp2_with fail
  refine wp_loop_rounds 1 ?_
  rw [rounds_succ]
  go_wp2_with fail
  refine bodyPost_ret (results_none rfl _ _ _) rfl ⟨rfl, rfl⟩
set_option maxRecDepth 100000 in
set_option maxHeartbeats 3000000 in
theorem take_nil {p : Nat} {o : Od} {v : Value} {c : Int} (w : World) (h : HeapAt w p o v [] c) : Calls Try.prog 29 #[.pointer (some ⟨p, 0, none⟩)] w fun e w' => e = .returned (.tuple #[.agg #[.int .i64 0, .int .i64 0, .int .i64 0, .int .i64 0, .int .i64 0], .bool false]) ∧ Ext w w' := by
  have hp := h.lt
  have HL := Lib.hid (fun w1 g1 => least_any (p := p) (o := o) (v := v) (X := []) (c := c) w1 g1)
  unfold agD at HL
  have H := Lib.hid h
  clear h
  go_enter Try.func29, Try.ntmps29
  go_wp2_with (first | (go_at_call 19; refine (HL.out _ (H.out.ext (by repeat (first | exact Ext.refl _ | refine Ext.alloc ?_ _ | refine Ext.more ?_ _ _ | refine Ext.drew ?_ | refine Ext.drewN ?_ _ | refine Ext.setCell ?_ (by simp <;> omega) _)))).mono ?_; rintro e w1 ⟨rfl, os1, k1, rfl⟩))
  go_returns
  exact ⟨rfl, (by repeat (first | exact Ext.refl _ | refine Ext.alloc ?_ _ | refine Ext.more ?_ _ _ | refine Ext.drew ?_ | refine Ext.drewN ?_ _ | refine Ext.setCell ?_ (by simp <;> omega) _))⟩
set_option maxRecDepth 100000 in
set_option maxHeartbeats 3000000 in
theorem take_any {p : Nat} {o : Od} {v : Value} {X : List It} {c : Int} (w : World) (h0 : 0 < X.length) (hX : X.length ≤ 200000) (h : HeapAt w p o v X c) : Calls Try.prog 29 #[.pointer (some ⟨p, 0, none⟩)] w fun e w' => e = .returned (.tuple #[agD (X.getD 0 z6).2, .bool true]) ∧ Becomes p o v (takeL o.k X) c w w' := by
  have hp := h.lt
  unfold agD
  obtain ⟨n, hn⟩ : ∃ n, X.length = n + 1 := ⟨X.length - 1, by omega⟩
  have HL := Lib.hid (fun w1 g1 => least_any (p := p) (o := o) (v := v) (X := X) (c := c) w1 g1)
  unfold agD at HL
  have H := Lib.hid h
  obtain ⟨g, cap, hv, hpg, hg, hlc, hcm⟩ := h.form h0
  obtain ⟨x0, hx0⟩ : ∃ x0, X.getD 0 z6 = x0 := ⟨_, rfl⟩
  obtain ⟨xl, hxl⟩ : ∃ x0, X.getD n z6 = x0 := ⟨_, rfl⟩
  have b0 : decide (0 < X.length) = true := by simp [h0]
  rw [b0, hx0] at HL
  rw [hx0]
  rw [hn] at hv hlc
  subst hv
  have HN := Lib.hid hn
  have HX0 := Lib.hid hx0
  have HXL := Lib.hid hxl
  have hn2 : n ≤ 200000 := by omega
  have c1 := h.cell.2.1
  clear h hn hx0 hxl b0 h0 hX
  go_enter Try.func29, Try.ntmps29
  go_wp2_with (first | (go_at_call 19; refine (HL.out _ (H.out.ext (by repeat (first | exact Ext.refl _ | refine Ext.alloc ?_ _ | refine Ext.more ?_ _ _ | refine Ext.drew ?_ | refine Ext.drewN ?_ _ | refine Ext.setCell ?_ (by simp <;> omega) _)))).mono ?_; rintro e w1 ⟨rfl, os1, k1, rfl⟩))
  have hE : Ext w (more (w.alloc (Obj.cells #[Value.int IntKind.i64 x0.snd.slot, Value.int IntKind.i64 x0.snd.lo, Value.int IntKind.i64 x0.snd.hi, Value.int IntKind.i64 x0.snd.age, Value.int IntKind.i64 x0.snd.lev] 31)) os1 k1) := (by repeat (first | exact Ext.refl _ | refine Ext.alloc ?_ _ | refine Ext.more ?_ _ _ | refine Ext.drew ?_ | refine Ext.drewN ?_ _ | refine Ext.setCell ?_ (by simp <;> omega) _))
  have hB : (more (w.alloc (Obj.cells #[Value.int IntKind.i64 x0.snd.slot, Value.int IntKind.i64 x0.snd.lo, Value.int IntKind.i64 x0.snd.hi, Value.int IntKind.i64 x0.snd.age, Value.int IntKind.i64 x0.snd.lev] 31)) os1 k1).heap[w.heap.size]? = some (.cells #[Value.int IntKind.i64 x0.snd.slot, Value.int IntKind.i64 x0.snd.lo, Value.int IntKind.i64 x0.snd.hi, Value.int IntKind.i64 x0.snd.age, Value.int IntKind.i64 x0.snd.lev] 31) :=
    (more_heap _ _ _ _ (by simp)).trans (heap_alloc_new w _)
  generalize hW : more (w.alloc (Obj.cells #[Value.int IntKind.i64 x0.snd.slot, Value.int IntKind.i64 x0.snd.lo, Value.int IntKind.i64 x0.snd.hi, Value.int IntKind.i64 x0.snd.age, Value.int IntKind.i64 x0.snd.lev] 31)) os1 k1 = W at *
  clear hW c1
  have H1 := H.out.ext hE
  have H1' : HeapAt W p o (Value.slice (some ⟨g, 0, none⟩) X.length cap) X c := by rw [HN.out]; exact H1
  obtain ⟨i0, i1, i2, i3, i4, i5⟩ := H1'.item n (by rw [HN.out]; omega)
  obtain ⟨j0, j1, j2, j3, j4, j5⟩ := H1'.item 0 (by rw [HN.out]; omega)
  rw [HXL.out] at i0 i1 i2 i3 i4 i5
  simp only [Nat.zero_mul, Nat.zero_add] at j0 j1 j2 j3 j4 j5
  have z0 := H1'.row.frozenAt 0
  have z1 := H1'.row.frozenAt 1
  have z2 := H1'.row.frozenAt 2
  have z3 := H1'.row.frozenAt 3
  have z4 := H1'.row.frozenAt 4
  have z5 := H1'.row.frozenAt 5
  have c1 := H1.cell.2.1
  have hg1 : g < W.heap.size := Nat.lt_of_lt_of_le hg hE.size
  have hp1 := H1.lt
  have n1 : (0 : Int) ≤ (n : Int) := by omega
  have n2 : (n : Int) < (n : Int) + 1 := by omega
  have HE := Lib.hid hE
  have HB := Lib.hid hB
  have HH := Lib.hid H1'
  clear hE hB H1 H1'
  go_region
  go_wp2_with fail
  obtain ⟨W1, hW1⟩ : ∃ W1, W1 = ((((((W.setCell ⟨g, 0, none⟩ (.int .i64 xl.1)).setCell ⟨g, 1, none⟩ (.int .i64 xl.2.slot)).setCell ⟨g, 2, none⟩ (.int .i64 xl.2.lo)).setCell ⟨g, 3, none⟩ (.int .i64 xl.2.hi)).setCell ⟨g, 4, none⟩ (.int .i64 xl.2.age)).setCell ⟨g, 5, none⟩ (.int .i64 xl.2.lev)).drew := ⟨_, rfl⟩
  rw [← hW1]
  obtain ⟨l1, t1⟩ := HH.out.lay 0 xl
  replace l1 := l1.ext ((Ext.refl _).drew)
  replace t1 := t1.trans (Turn.of_ext ((Ext.refl _).drew))
  unfold lay6 at l1 t1
  rw [Nat.zero_mul, Nat.zero_add, Nat.zero_add, Nat.zero_add, Nat.zero_add, Nat.zero_add, ← hW1] at l1
  rw [Nat.zero_mul, Nat.zero_add, Nat.zero_add, Nat.zero_add, Nat.zero_add, Nat.zero_add, ← hW1] at t1
  clear hW1
  have l1' : HeapAt W1 p o (.slice (some ⟨g, 0, none⟩) (X.set 0 xl).length cap) (X.set 0 xl) c := by rw [List.length_set]; exact l1
  have hYn : n < (X.set 0 xl).length := by rw [List.length_set, HN.out]; omega
  refine (delete_last g n cap hlc hcm W1 ?_ ?_).mono ?_
  · intro j hj
    obtain ⟨a0, a1, a2, a3, a4, a5⟩ := l1'.item n hYn
    rcases (show j = 0 ∨ j = 1 ∨ j = 2 ∨ j = 3 ∨ j = 4 ∨ j = 5 by omega) with rfl | rfl | rfl | rfl | rfl | rfl
    · rw [Nat.add_zero, a0]; rfl
    · rw [a1]; rfl
    · rw [a2]; rfl
    · rw [a3]; rfl
    · rw [a4]; rfl
    · rw [a5]; rfl
  · exact fun j _ => l1'.row.frozenAt _
  rintro e w2 ⟨rfl, hw2⟩
  obtain ⟨l2, t2⟩ := (l1'.ext ((Ext.refl _).drew)).lay n z6
  have e2 : lay6 W1.drew g n z6 = w2 := hw2.symm
  rw [e2] at l2 t2
  clear e2 hw2
  rw [List.length_set, HN.out] at l2 t2
  have hYl : ((X.set 0 xl).set n z6).length = n + 1 := by rw [List.length_set, List.length_set, HN.out]
  obtain ⟨l3, t3⟩ := l2.shrink hYl
  have hYt : ((X.set 0 xl).set n z6).take n = (X.set 0 xl).take n := by rw [List.take_set_of_le (Nat.le_refl _)]
  rw [hYt] at l3
  have c12 := l2.cell.2.1
  have f12 := l2.frozen 1
  have hp2 := l2.lt
  have M1 : Moves p (.slice (some ⟨g, 0, none⟩) (n + 1) cap) (.slice (some ⟨g, 0, none⟩) n cap) w (w2.setCell ⟨p, 1, none⟩ (.slice (some ⟨g, 0, none⟩) n cap)) := by
    rw [HN.out] at t1
    exact (Moves.of_ext HE.out).trans ((Moves.of_turn ((t1.trans (Turn.of_ext ((Ext.refl _).drew))).trans t2)).trans t3)
  have B3 : (w2.setCell ⟨p, 1, none⟩ (.slice (some ⟨g, 0, none⟩) n cap)).heap[w.heap.size]? = some (.cells #[Value.int IntKind.i64 x0.snd.slot, Value.int IntKind.i64 x0.snd.lo, Value.int IntKind.i64 x0.snd.hi, Value.int IntKind.i64 x0.snd.age, Value.int IntKind.i64 x0.snd.lev] 31) := by
    rw [HN.out] at t1
    have hlt : w.heap.size < W.heap.size := by
      rcases Nat.lt_or_ge w.heap.size W.heap.size with h | h
      · exact h
      · have := HB.out
        rw [Array.getElem?_eq_none h] at this
        cases this
    refine Eq.trans (Turn.block (((t1.trans (Turn.of_ext ((Ext.refl _).drew))).trans t2).trans t3.turn) _ hlt ?_) HB.out
    rintro (hh | hh)
    · omega
    · simp [Value.ownBlock] at hh; omega
  have hgs : (w2.setCell ⟨p, 1, none⟩ (.slice (some ⟨g, 0, none⟩) n cap)).heap.size = w2.heap.size := by simp [World.setCell]
  have L3 := Lib.hid l3
  have MM := Lib.hid M1
  have BB := Lib.hid B3
  clear l1 t1 l1' l2 t2 l3 t3 hYl hYt M1 B3 hgs
  go_wp2_with fail
  obtain ⟨W3, hW3⟩ : ∃ W3, W3 = w2.setCell ⟨p, 1, none⟩ (.slice (some ⟨g, 0, none⟩) n cap) := ⟨_, rfl⟩
  rw [← hW3] at L3 MM BB ⊢
  clear hW3 c12 f12 hp2
  have hD : Calls Try.prog 37 #[.pointer (some ⟨p, 0, none⟩), .int .i64 0] W3 fun e w' => e = .returned (.tuple #[]) ∧ HeapAt w' p o (.slice (some ⟨g, 0, none⟩) n cap) (takeL o.k X) c ∧ Turn (mine p (.slice (some ⟨g, 0, none⟩) n cap)) W3 w' := by
    have htl : takeL o.k X = downL o.k n ((X.set 0 xl).take n) 0 := by
      unfold takeL
      rw [HN.out, Nat.add_sub_cancel, HXL.out]
    have hlen : ((X.set 0 xl).take n).length = n := by rw [List.length_take]; omega
    rw [htl]
    rcases Nat.eq_zero_or_pos n with rfl | hn0
    · rw [List.take_zero] at L3 ⊢
      refine (down_nil W3 L3.out).mono ?_
      rintro e w' ⟨rfl, rfl⟩
      exact ⟨rfl, L3.out, Turn.refl _⟩
    · have := down_any 0 (by rw [hlen]; exact hn0) (by rw [hlen]; exact hn2) W3 L3.out
      rw [hlen] at this
      exact this
  refine hD.mono ?_
  rintro e w4 ⟨rfl, l4, t4⟩
  have B4 : w4.heap[w.heap.size]? = some (.cells #[Value.int IntKind.i64 x0.snd.slot, Value.int IntKind.i64 x0.snd.lo, Value.int IntKind.i64 x0.snd.hi, Value.int IntKind.i64 x0.snd.age, Value.int IntKind.i64 x0.snd.lev] 31) := by
    refine Eq.trans (t4.block _ ?_ ?_) BB.out
    · rcases Nat.lt_or_ge w.heap.size W3.heap.size with h | h
      · exact h
      · have := BB.out
        rw [Array.getElem?_eq_none h] at this
        cases this
    · rintro (hh | hh)
      · omega
      · simp [Value.ownBlock] at hh; omega
  have bc0 := cell_of_row w4 w.heap.size 0 _ _ _ B4
  have bc1 := cell_of_row w4 w.heap.size 1 _ _ _ B4
  have bc2 := cell_of_row w4 w.heap.size 2 _ _ _ B4
  have bc3 := cell_of_row w4 w.heap.size 3 _ _ _ B4
  have bc4 := cell_of_row w4 w.heap.size 4 _ _ _ B4
  simp at bc0 bc1 bc2 bc3 bc4
  have L4 := Lib.hid l4
  have T4 := Lib.hid t4
  have B4' := Lib.hid B4
  have bf : ∀ j, w4.frozen? ⟨w.heap.size, j, none⟩ = false := fun j => by simp [World.frozen?, B4]
  have bf0 := bf 0
  have bf1 := bf 1
  have bf2 := bf 2
  have bf3 := bf 3
  have bf4 := bf 4
  have s0 := setCell_id w4 w.heap.size 0 _ _ _ _ B4 (show _ = some (Value.int IntKind.i64 x0.snd.slot) from rfl)
  have s1 := setCell_id w4 w.heap.size 1 _ _ _ _ B4 (show _ = some (Value.int IntKind.i64 x0.snd.lo) from rfl)
  have s2 := setCell_id w4 w.heap.size 2 _ _ _ _ B4 (show _ = some (Value.int IntKind.i64 x0.snd.hi) from rfl)
  have s3 := setCell_id w4 w.heap.size 3 _ _ _ _ B4 (show _ = some (Value.int IntKind.i64 x0.snd.age) from rfl)
  have s4 := setCell_id w4 w.heap.size 4 _ _ _ _ B4 (show _ = some (Value.int IntKind.i64 x0.snd.lev) from rfl)
  clear l4 t4 B4 bf hD
  go_wp2_with fail
  refine bodyPost_ret (v := .tuple #[.agg #[.int .i64 x0.2.slot, .int .i64 x0.2.lo, .int .i64 x0.2.hi, .int .i64 x0.2.age, .int .i64 x0.2.lev], .bool true]) (by simp [results, Try.results29, go_sem, bc0, bc1, bc2, bc3, bc4]) rfl ?_
  exact ⟨rfl, _, L4.out, MM.out.trans (Moves.of_turn T4.out)⟩
end Go.Proofs.Ytmgpofdmfmeljaa
