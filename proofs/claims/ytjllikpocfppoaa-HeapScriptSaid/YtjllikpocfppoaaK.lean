/- Take. -/
import Derived.Test.YtjllikpocfppoaaJ
import Derived.WalkSpells
import Derived.WalkLawsBesides
import Derived.BigRegion
import Derived.Deep.RegionWith
import Derived.Deep.QuietTactic
import Derived.Deep.DeepCutAuto
import Derived.Deep.RegionHeld3
import Derived.Deep.RegionLaw
import Derived.BigQuiet
import Derived.Lib.Hide
namespace Go.Proofs.Ytjllikpocfppoaa
open Go.RowKit
attribute [local go_sem] more_drew more_drewN more_size more_cell more_frozen more_setCell drew_more drewN_more lt_add_r lt_add_r2 lt_add_r3 lt_add_r4 lt_add_r5 lt_add_r6 lt_add_r7 lt_add_r8 lt_add_r9 lt_add_r10 lt_self_r lt_self_r2

/-- what a Take leaves -/
def takeL (X : List It) : List It := downL (X.length - 1) ((X.set 0 (X.getD (X.length - 1) (0, 0, 0))).take (X.length - 1)) 0
theorem own_shrink {w : World} {base : Nat} {e : TypeId} {g cap n : Nat} {xs : List Value} (h : w.ownsRow base e 3 (.slice (some ⟨g, 0, none⟩) (n + 1) cap) (n + 1) xs) : w.ownsRow base e 3 (.slice (some ⟨g, 0, none⟩) n cap) n (xs.take (n * 3)) := by
  rcases h.2 with ⟨h1, _⟩ | ⟨g', cap', cur, h1, h2, h3, h4, h5, h6, h7⟩
  · cases h1
  · injection h1 with h1 _ h9
    injection h1 with h1
    injection h1 with h1
    subst h1
    subst h9
    refine ⟨by rw [List.length_take, h.1]; omega, .inr ⟨g, cap, cur, rfl, h2, h3, by omega, h5, h6, ?_⟩⟩
    rw [← h7, List.take_take]
    congr 1
    omega
theorem HeapAt.shrink {w : World} {p g n cap : Nat} {F : Value} {X : List It} {c : Int} (h : HeapAt w p F (.slice (some ⟨g, 0, none⟩) (n + 1) cap) X c) (hX : X.length = n + 1) :
    HeapAt (w.setCell ⟨p, 1, none⟩ (.slice (some ⟨g, 0, none⟩) n cap)) p F (.slice (some ⟨g, 0, none⟩) n cap) (X.take n) c ∧ Moves p (.slice (some ⟨g, 0, none⟩) (n + 1) cap) (.slice (some ⟨g, 0, none⟩) n cap) w (w.setCell ⟨p, 1, none⟩ (.slice (some ⟨g, 0, none⟩) n cap)) := by
  have hl : (X.take n).length = n := by rw [List.length_take]; omega
  refine ⟨⟨?_, ?_⟩, ⟨Turn.setCell _ (.inl rfl) _, fun b hb => .inl (hb.imp id fun hb => hb)⟩⟩
  · simp [World.setCell, Array.getElem?_modify, h.blk]
  · rw [hl, flat_take]
    have h1 := h.row
    rw [hX] at h1
    refine own_keep (own_shrink h1) fun g' hg' => heap_setCell_other _ _ _ _ fun he => ?_
    subst he
    exact h.apart hg'.symm

set_option maxRecDepth 100000 in
set_option maxHeartbeats 3000000 in
theorem down_nil (p : Nat) (v : Value) (c : Int) (w : World) (h : HeapAt w p byKeyV v [] c) : Calls Try.prog 28 #[.pointer (some ⟨p, 0, none⟩), .int .i64 0] w fun e w' => e = .returned (.tuple #[]) ∧ w = w' := by
  obtain ⟨A, cap, rfl, _⟩ := h.val
  obtain ⟨c0, c1, _⟩ := h.cell
  have hp := h.lt
  clear h
  go_enter Try.func28, Try.ntmps28
  go_wp2_with fail
  refine wp_loop_rounds 1 ?_
  rw [rounds_succ]
  go_wp2_with fail
  refine wp_loop_rounds 1 ?_
  rw [rounds_succ]
  go_wp2_with fail
  refine bodyPost_ret (results_none rfl _ _ _) rfl ⟨rfl, rfl⟩
set_option maxRecDepth 100000 in
set_option maxHeartbeats 3000000 in
theorem take_nil (p : Nat) (v : Value) (c : Int) (w : World) (h : HeapAt w p byKeyV v [] c) : Calls Try.prog 13 #[.pointer (some ⟨p, 0, none⟩)] w fun e w' => e = .returned (.tuple #[.agg #[.int .i64 0, .int .i64 0], .bool false]) ∧ Ext w w' := by
  have hp := h.lt
  have HL := Lib.hid (fun w1 g1 => least_any p v [] c w1 g1)
  have H := Lib.hid h
  clear h
  go_enter Try.func13, Try.ntmps13
  go_wp2_with (first | (go_at_call 15; refine (HL.out _ (H.out.ext (by repeat (first | exact Ext.refl _ | refine Ext.alloc ?_ _ | refine Ext.more ?_ _ _ | refine Ext.drew ?_ | refine Ext.drewN ?_ _ | refine Ext.setCell ?_ (by simp <;> omega) _)))).mono ?_; rintro e w1 ⟨rfl, os1, k1, rfl⟩))
  go_returns
  exact ⟨rfl, (by repeat (first | exact Ext.refl _ | refine Ext.alloc ?_ _ | refine Ext.more ?_ _ _ | refine Ext.drew ?_ | refine Ext.drewN ?_ _ | refine Ext.setCell ?_ (by simp <;> omega) _))⟩
set_option maxRecDepth 100000 in
set_option maxHeartbeats 3000000 in
theorem take_any (p : Nat) (v : Value) (X : List It) (c : Int) (w : World) (h0 : 0 < X.length) (hX : X.length ≤ 200000) (h : HeapAt w p byKeyV v X c) : Calls Try.prog 13 #[.pointer (some ⟨p, 0, none⟩)] w fun e w' => e = .returned (.tuple #[.agg #[.int .i64 (X.getD 0 (0, 0, 0)).2.1, .int .i64 (X.getD 0 (0, 0, 0)).2.2], .bool true]) ∧ Becomes p v (takeL X) c w w' := by
  have hp := h.lt
  obtain ⟨n, hn⟩ : ∃ n, X.length = n + 1 := ⟨X.length - 1, by omega⟩
  have HL := Lib.hid (fun w1 g1 => least_any p v X c w1 g1)
  have H := Lib.hid h
  obtain ⟨g, cap, hv, hpg, hg, hlc, hcm⟩ := h.form h0
  obtain ⟨x0, hx0⟩ : ∃ x0, X.getD 0 (0, 0, 0) = x0 := ⟨_, rfl⟩
  obtain ⟨xl, hxl⟩ : ∃ x0, X.getD n (0, 0, 0) = x0 := ⟨_, rfl⟩
  have b0 : decide (0 < X.length) = true := by simp [h0]
  rw [b0, hx0] at HL
  rw [hx0]
  rw [hn] at hv hlc
  subst hv
  have HN := Lib.hid hn
  have HX0 := Lib.hid hx0
  have HXL := Lib.hid hxl
  have hn2 : n ≤ 200000 := by omega
  have c1 := h.cell.2.1
  clear h hn hx0 hxl b0 h0 hX
  go_enter Try.func13, Try.ntmps13
  go_wp2_with (first | (go_at_call 15; refine (HL.out _ (H.out.ext (by repeat (first | exact Ext.refl _ | refine Ext.alloc ?_ _ | refine Ext.more ?_ _ _ | refine Ext.drew ?_ | refine Ext.drewN ?_ _ | refine Ext.setCell ?_ (by simp <;> omega) _)))).mono ?_; rintro e w1 ⟨rfl, os1, k1, rfl⟩))
  have hE : Ext w (more (w.alloc (Obj.cells #[Value.int IntKind.i64 x0.snd.fst, Value.int IntKind.i64 x0.snd.snd] 27)) os1 k1) := (by repeat (first | exact Ext.refl _ | refine Ext.alloc ?_ _ | refine Ext.more ?_ _ _ | refine Ext.drew ?_ | refine Ext.drewN ?_ _ | refine Ext.setCell ?_ (by simp <;> omega) _))
  have hB : (more (w.alloc (Obj.cells #[Value.int IntKind.i64 x0.snd.fst, Value.int IntKind.i64 x0.snd.snd] 27)) os1 k1).heap[w.heap.size]? = some (.cells #[Value.int IntKind.i64 x0.snd.fst, Value.int IntKind.i64 x0.snd.snd] 27) :=
    (more_heap _ _ _ _ (by simp)).trans (heap_alloc_new w _)
  generalize hW : more (w.alloc (Obj.cells #[Value.int IntKind.i64 x0.snd.fst, Value.int IntKind.i64 x0.snd.snd] 27)) os1 k1 = W at *
  clear hW c1
  have H1 := H.out.ext hE
  have H1' : HeapAt W p byKeyV (Value.slice (some ⟨g, 0, none⟩) X.length cap) X c := by rw [HN.out]; exact H1
  obtain ⟨i0, i1, i2⟩ := H1'.item n (by rw [HN.out]; omega)
  obtain ⟨k0, k1', k2⟩ := H1'.item 0 (by rw [HN.out]; omega)
  rw [HXL.out] at i0 i1 i2
  simp only [Nat.zero_mul, Nat.zero_add] at k0 k1' k2
  have z0 := H1'.row.frozenAt 0
  have z1 := H1'.row.frozenAt 1
  have z2 := H1'.row.frozenAt 2
  have c1 := H1.cell.2.1
  have hg1 : g < W.heap.size := Nat.lt_of_lt_of_le hg hE.size
  have hp1 := H1.lt
  have n1 : (0 : Int) ≤ (n : Int) := by omega
  have n2 : (n : Int) < (n : Int) + 1 := by omega
  have HE := Lib.hid hE
  have HB := Lib.hid hB
  have HH := Lib.hid H1'
  clear hE hB H1 H1'
  go_region
  go_wp2_with fail
  obtain ⟨W1, hW1⟩ : ∃ W1, W1 = (((W.setCell ⟨g, 0, none⟩ (.int .i64 xl.1)).setCell ⟨g, 1, none⟩ (.int .i64 xl.2.1)).setCell ⟨g, 2, none⟩ (.int .i64 xl.2.2)).drew := ⟨_, rfl⟩
  rw [← hW1]
  obtain ⟨l1, t1⟩ := HH.out.lay 0 xl
  replace l1 := l1.ext ((Ext.refl _).drew)
  replace t1 := t1.trans (Turn.of_ext ((Ext.refl _).drew))
  unfold lay3 at l1 t1
  rw [Nat.zero_mul, Nat.zero_add, Nat.zero_add, ← hW1] at l1
  rw [Nat.zero_mul, Nat.zero_add, Nat.zero_add, ← hW1] at t1
  clear hW1
  have l1' : HeapAt W1 p byKeyV (.slice (some ⟨g, 0, none⟩) (X.set 0 xl).length cap) (X.set 0 xl) c := by rw [List.length_set]; exact l1
  have hYn : n < (X.set 0 xl).length := by rw [List.length_set, HN.out]; omega
  refine (delete_last g n cap hlc hcm W1 ?_ ?_).mono ?_
  · intro j hj
    obtain ⟨a0, a1, a2⟩ := l1'.item n hYn
    rcases (show j = 0 ∨ j = 1 ∨ j = 2 by omega) with rfl | rfl | rfl
    · rw [Nat.add_zero, a0]; rfl
    · rw [a1]; rfl
    · rw [a2]; rfl
  · exact fun j _ => l1'.row.frozenAt _
  rintro e w2 ⟨rfl, hw2⟩
  obtain ⟨l2, t2⟩ := (l1'.ext ((Ext.refl _).drew)).lay n (0, 0, 0)
  have e2 : lay3 W1.drew g n (0, 0, 0) = w2 := hw2.symm
  rw [e2] at l2 t2
  clear e2 hw2
  rw [List.length_set, HN.out] at l2 t2
  have hYl : ((X.set 0 xl).set n (0, 0, 0)).length = n + 1 := by rw [List.length_set, List.length_set, HN.out]
  obtain ⟨l3, t3⟩ := l2.shrink hYl
  have hYt : ((X.set 0 xl).set n (0, 0, 0)).take n = (X.set 0 xl).take n := by rw [List.take_set_of_le (Nat.le_refl _)]
  rw [hYt] at l3
  have c12 := l2.cell.2.1
  have f12 := l2.frozen 1
  have hp2 := l2.lt
  have M1 : Moves p (.slice (some ⟨g, 0, none⟩) (n + 1) cap) (.slice (some ⟨g, 0, none⟩) n cap) w (w2.setCell ⟨p, 1, none⟩ (.slice (some ⟨g, 0, none⟩) n cap)) := by
    rw [HN.out] at t1
    exact (Moves.of_ext HE.out).trans ((Moves.of_turn ((t1.trans (Turn.of_ext ((Ext.refl _).drew))).trans t2)).trans t3)
  have B3 : (w2.setCell ⟨p, 1, none⟩ (.slice (some ⟨g, 0, none⟩) n cap)).heap[w.heap.size]? = some (.cells #[Value.int IntKind.i64 x0.snd.fst, Value.int IntKind.i64 x0.snd.snd] 27) := by
    rw [HN.out] at t1
    have hlt : w.heap.size < W.heap.size := by
      rcases Nat.lt_or_ge w.heap.size W.heap.size with h | h
      · exact h
      · have := HB.out
        rw [Array.getElem?_eq_none h] at this
        cases this
    refine Eq.trans (Turn.block (((t1.trans (Turn.of_ext ((Ext.refl _).drew))).trans t2).trans t3.turn) _ hlt ?_) HB.out
    rintro (hh | hh)
    · omega
    · simp [Value.ownBlock] at hh; omega
  have hgs : (w2.setCell ⟨p, 1, none⟩ (.slice (some ⟨g, 0, none⟩) n cap)).heap.size = w2.heap.size := by simp [World.setCell]
  have L3 := Lib.hid l3
  have MM := Lib.hid M1
  have BB := Lib.hid B3
  clear l1 t1 l1' l2 t2 l3 t3 hYl hYt M1 B3 hgs
  go_wp2_with fail
  obtain ⟨W3, hW3⟩ : ∃ W3, W3 = w2.setCell ⟨p, 1, none⟩ (.slice (some ⟨g, 0, none⟩) n cap) := ⟨_, rfl⟩
  rw [← hW3] at L3 MM BB ⊢
  clear hW3 c12 f12 hp2
  have hD : Calls Try.prog 28 #[.pointer (some ⟨p, 0, none⟩), .int .i64 0] W3 fun e w' => e = .returned (.tuple #[]) ∧ HeapAt w' p byKeyV (.slice (some ⟨g, 0, none⟩) n cap) (takeL X) c ∧ Turn (mine p (.slice (some ⟨g, 0, none⟩) n cap)) W3 w' := by
    have htl : takeL X = downL n ((X.set 0 xl).take n) 0 := by
      unfold takeL
      rw [HN.out, Nat.add_sub_cancel, HXL.out]
    have hlen : ((X.set 0 xl).take n).length = n := by rw [List.length_take]; omega
    rw [htl]
    rcases Nat.eq_zero_or_pos n with rfl | hn0
    · rw [List.take_zero] at L3 ⊢
      refine (down_nil p _ c W3 L3.out).mono ?_
      rintro e w' ⟨rfl, rfl⟩
      exact ⟨rfl, L3.out, Turn.refl _⟩
    · have := down_any p _ _ c 0 (by rw [hlen]; exact hn0) (by rw [hlen]; exact hn2) W3 L3.out
      rw [hlen] at this
      exact this
  refine hD.mono ?_
  rintro e w4 ⟨rfl, l4, t4⟩
  have B4 : w4.heap[w.heap.size]? = some (.cells #[Value.int IntKind.i64 x0.snd.fst, Value.int IntKind.i64 x0.snd.snd] 27) := by
    refine Eq.trans (t4.block _ ?_ ?_) BB.out
    · rcases Nat.lt_or_ge w.heap.size W3.heap.size with h | h
      · exact h
      · have := BB.out
        rw [Array.getElem?_eq_none h] at this
        cases this
    · rintro (hh | hh)
      · omega
      · simp [Value.ownBlock] at hh; omega
  have bc0 := cell_of_row w4 w.heap.size 0 _ _ _ B4
  have bc1 := cell_of_row w4 w.heap.size 1 _ _ _ B4
  simp at bc0 bc1
  have L4 := Lib.hid l4
  have T4 := Lib.hid t4
  have B4' := Lib.hid B4
  have bf : ∀ j, w4.frozen? ⟨w.heap.size, j, none⟩ = false := fun j => by simp [World.frozen?, B4]
  have bf0 := bf 0
  have bf1 := bf 1
  have s0 := setCell_id w4 w.heap.size 0 _ _ _ _ B4 (show _ = some (Value.int IntKind.i64 x0.snd.fst) from rfl)
  have s1 := setCell_id w4 w.heap.size 1 _ _ _ _ B4 (show _ = some (Value.int IntKind.i64 x0.snd.snd) from rfl)
  clear l4 t4 B4 bf hD
  go_wp2_with fail
  refine bodyPost_ret (v := .tuple #[.agg #[.int .i64 x0.2.1, .int .i64 x0.2.2], .bool true]) (by simp [results, Try.results13, go_sem, bc0, bc1]) rfl ?_
  exact ⟨rfl, _, L4.out, MM.out.trans (Moves.of_turn T4.out)⟩
end Go.Proofs.Ytjllikpocfppoaa
