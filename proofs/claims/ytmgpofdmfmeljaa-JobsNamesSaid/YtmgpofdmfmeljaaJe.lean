/- The heap's Least, New, Put. -/
import Derived.Test.YtmgpofdmfmeljaaJd
import Derived.WalkSpells
import Derived.WalkLawsBesides
import Derived.BigRegion
import Derived.Deep.RegionWith
import Derived.Deep.QuietTactic
import Derived.Deep.DeepCutAuto
import Derived.Deep.RegionHeld3
import Derived.Deep.RegionLaw
import Derived.BigQuiet
import Derived.Lib.Hide
namespace Go.Proofs.Ytmgpofdmfmeljaa
open Go.RowKit
attribute [local go_sem] more_drew more_drewN more_size more_cell more_frozen more_setCell drew_more drewN_more lt_add_r lt_add_r2 lt_add_r3 lt_add_r4 lt_add_r5 lt_add_r6 lt_add_r7 lt_add_r8 lt_add_r9 lt_add_r10 lt_self_r lt_self_r2

theorem HeapAt.val {w : World} {p : Nat} {o : Od} {v : Value} {X : List It} {c : Int} (h : HeapAt w p o v X c) : ∃ A cap, v = .slice A X.length cap ∧ X.length ≤ cap ∧ cap ≤ maxLen ∧ (A = none → X = [] ∧ cap = 0) := by
  rcases h.row.2 with ⟨h1, h2⟩ | ⟨g, cap, cur, h1, h2, h3, h4, h5, _⟩
  · refine ⟨none, 0, by rw [h2]; exact h1, by omega, by unfold maxLen; omega, fun _ => ⟨List.eq_nil_of_length_eq_zero h2, rfl⟩⟩
  · exact ⟨_, cap, h1, h4, h5, fun h => by cases h⟩

set_option maxRecDepth 100000 in
set_option maxHeartbeats 3000000 in
theorem least_any {p : Nat} {o : Od} {v : Value} {X : List It} {c : Int} (w : World) (h : HeapAt w p o v X c) : Calls Try.prog 19 #[.pointer (some ⟨p, 0, none⟩)] w fun e w' => e = .returned (.tuple #[agD (X.getD 0 z6).2, .bool (decide (0 < X.length))]) ∧ Ext w w' := by
  unfold agD
  have NO := Lib.hid (fun w1 g1 => none_any (p := p) (o := o) (v := v) (X := X) (c := c) w1 g1)
  have H := Lib.hid h
  obtain ⟨_, c1, _⟩ := h.cell
  have hp := h.lt
  rcases Nat.eq_zero_or_pos X.length with h0 | h0
  · obtain rfl : X = [] := List.eq_nil_of_length_eq_zero h0
    obtain ⟨A, cap, rfl, _⟩ := h.val
    clear h
    go_enter Try.func19, Try.ntmps19
    go_wp2_with (first | (go_at_call 26; refine (NO.out _ (H.out.ext (by repeat (first | exact Ext.refl _ | refine Ext.alloc ?_ _ | refine Ext.more ?_ _ _ | refine Ext.drew ?_ | refine Ext.drewN ?_ _ | refine Ext.setCell ?_ (by simp <;> omega) _)))).mono ?_; rintro e w1 ⟨rfl, os1, k1, rfl⟩))
    go_returns
    exact ⟨rfl, (by repeat (first | exact Ext.refl _ | refine Ext.alloc ?_ _ | refine Ext.more ?_ _ _ | refine Ext.drew ?_ | refine Ext.drewN ?_ _ | refine Ext.setCell ?_ (by simp <;> omega) _))⟩
  · obtain ⟨g, cap, rfl, hpg, hg, hlc, hcm⟩ := h.form h0
    obtain ⟨i0, i1, i2, i3, i4, i5⟩ := h.item 0 h0
    have hm : X.length ≤ 9223372036854775807 := by unfold maxLen at hcm; omega
    clear h
    obtain ⟨x, hx⟩ : ∃ x, X.getD 0 z6 = x := ⟨_, rfl⟩
    rw [hx] at i0 i1 i2 i3 i4 i5 ⊢
    simp only [Nat.zero_mul, Nat.zero_add] at i0 i1 i2 i3 i4 i5
    clear hx
    have b0 : decide (0 < X.length) = true := by simp [h0]
    have b2 : (0 : Int) < (X.length : Int) := by omega
    go_enter Try.func19, Try.ntmps19
    go_wp2_with (first | (go_at_call 26; refine (NO.out _ (H.out.ext (by repeat (first | exact Ext.refl _ | refine Ext.alloc ?_ _ | refine Ext.more ?_ _ _ | refine Ext.drew ?_ | refine Ext.drewN ?_ _ | refine Ext.setCell ?_ (by simp <;> omega) _)))).mono ?_; rintro e w1 ⟨rfl, os1, k1, rfl⟩))
    go_returns
    exact ⟨by rw [b0], (by repeat (first | exact Ext.refl _ | refine Ext.alloc ?_ _ | refine Ext.more ?_ _ _ | refine Ext.drew ?_ | refine Ext.drewN ?_ _ | refine Ext.setCell ?_ (by simp <;> omega) _))⟩
/-- from a heap's row v to its row v', whatever else lies in w is as it was -/
structure Moves (p : Nat) (v v' : Value) (w w' : World) : Prop where
  turn : Turn (mine p v) w w'
  own : ∀ b, mine p v' b → mine p v b ∨ w.heap.size ≤ b
theorem Moves.of_turn {p : Nat} {v : Value} {w w' : World} (h : Turn (mine p v) w w') : Moves p v v w w' := ⟨h, fun _ hb => .inl hb⟩
theorem Moves.of_ext {p : Nat} {v : Value} {w w' : World} (h : Ext w w') : Moves p v v w w' := .of_turn (Turn.of_ext h)
theorem Moves.trans {p : Nat} {v v1 v2 : Value} {w w1 w2 : World} (h : Moves p v v1 w w1) (h' : Moves p v1 v2 w1 w2) : Moves p v v2 w w2 :=
  ⟨⟨h'.turn.os.trans h.turn.os, h'.turn.tape.trans h.turn.tape, h'.turn.output.trans h.turn.output, Nat.le_trans h.turn.size h'.turn.size, fun b hb hS =>
      (h'.turn.block b (Nat.lt_of_lt_of_le hb h.turn.size) fun hm => (h.own b hm).elim hS fun hle => absurd hb (Nat.not_lt.2 hle)).trans (h.turn.block b hb hS)⟩,
    fun b hb => (h'.own b hb).elim (fun hm => h.own b hm) fun hle => .inr (Nat.le_trans h.turn.size hle)⟩

set_option maxRecDepth 100000 in
set_option maxHeartbeats 3000000 in
theorem new_any (o : Od) (w : World) : Calls Try.prog 22 #[o.V] w fun e w' => e = .returned (.pointer (some ⟨w.heap.size, 0, none⟩)) ∧ w' = w.alloc (.cells #[o.V, .slice none 0 0, .int .i64 0] 59) := by
  unfold Od.V ordV
  go_enter Try.func22, Try.ntmps22
  go_wp2
  go_ret
  exact ⟨rfl, rfl⟩
theorem new_heap (o : Od) (w : World) (h : o.At w) : HeapAt (w.alloc (.cells #[o.V, .slice none 0 0, .int .i64 0] 59)) w.heap.size o (.slice none 0 0) [] 0 :=
  ⟨heap_alloc_new w _, World.ownsRow_nil _ _ _ _, OrdAt.ext h (by repeat (first | exact Ext.refl _ | refine Ext.alloc ?_ _ | refine Ext.more ?_ _ _ | refine Ext.drew ?_ | refine Ext.drewN ?_ _ | refine Ext.setCell ?_ (by simp <;> omega) _))⟩
def putL (kv : Kv) (X : List It) (x : It) : List It := upL kv X.length (X ++ [x]) X.length
def Becomes (p : Nat) (o : Od) (v : Value) (Y : List It) (c : Int) (w w' : World) : Prop := ∃ v', HeapAt w' p o v' Y c ∧ Moves p v v' w w'
theorem HeapAt.apart {w : World} {p : Nat} {o : Od} {v : Value} {X : List It} {c : Int} (h : HeapAt w p o v X c) : some p ≠ v.ownBlock := by
  rcases h.row.2 with ⟨rfl, _⟩ | ⟨g, cap, cur, rfl, h2, h3, _⟩
  · intro h; cases h
  · intro he
    have : p = g := by simpa [Value.ownBlock] using he
    subst this
    rw [h.blk] at h3
    injection h3 with h3
    injection h3 with _ h3
    cases h3
theorem HeapAt.fresh {w : World} {p : Nat} {o : Od} {v : Value} {X : List It} {c : Int} (h : HeapAt w p o v X c) : some w.heap.size ≠ v.ownBlock := by
  rcases h.row.2 with ⟨rfl, _⟩ | ⟨g, cap, cur, rfl, h2, h3, _⟩
  · intro h; cases h
  · intro h
    have : w.heap.size = g := by simpa [Value.ownBlock] using h
    rw [Array.getElem?_eq_none (by omega)] at h3
    cases h3
theorem grow_state {W w1 : World} {p : Nat} {o : Od} {v : Value} {X : List It} {c c' : Int} {x : It} {ob : Obj} {A1 : Option Addr} {cap1 : Nat} (h : HeapAt W p o v X c) (hown : w1.ownsRow 0 63 6 (.slice A1 (X.length + 1) cap1) (X.length + 1) (flat X ++ enc6 x))
    (hg : (W.alloc ob).drew.grownBy w1 v.ownBlock) (hat : (Value.slice A1 (X.length + 1) cap1).ownBlock = v.ownBlock ∨ (Value.slice A1 (X.length + 1) cap1).ownBlock = some (W.alloc ob).drew.heap.size) :
    HeapAt ((w1.setCell ⟨p, 1, none⟩ (.slice A1 (X.length + 1) cap1)).setCell ⟨p, 2, none⟩ (.int .i64 c')) p o (.slice A1 (X.length + 1) cap1) (X ++ [x]) c' ∧
      Moves p v (.slice A1 (X.length + 1) cap1) W ((w1.setCell ⟨p, 1, none⟩ (.slice A1 (X.length + 1) cap1)).setCell ⟨p, 2, none⟩ (.int .i64 c')) := by
  have hE : Ext W (W.alloc ob).drew := (by repeat (first | exact Ext.refl _ | refine Ext.alloc ?_ _ | refine Ext.more ?_ _ _ | refine Ext.drew ?_ | refine Ext.drewN ?_ _ | refine Ext.setCell ?_ (by simp <;> omega) _))
  have h1 := h.ext hE
  have hb1 : w1.heap[p]? = some (.cells #[o.V, v, .int .i64 c] 59) := (hg.block p h1.lt h1.apart).trans h1.blk
  have hp1 : p < w1.heap.size := Nat.lt_of_lt_of_le h1.lt hg.size
  have hs : W.heap.size ≤ (W.alloc ob).drew.heap.size := hE.size
  have T1 : Turn (mine p v) W w1 := (Turn.of_ext hE).trans (Turn.grown hg fun g hg' _ => .inr hg')
  have T2 : Turn (mine p v) w1 ((w1.setCell ⟨p, 1, none⟩ (.slice A1 (X.length + 1) cap1)).setCell ⟨p, 2, none⟩ (.int .i64 c')) :=
    (Turn.setCell w1 (p := ⟨p, 1, none⟩) (.inl rfl) _).trans (Turn.setCell _ (p := ⟨p, 2, none⟩) (.inl rfl) _)
  refine ⟨⟨?_, ?_, h.ordT (T1.trans T2)⟩, ⟨T1.trans T2, fun b hb => ?_⟩⟩
  · simp [World.setCell, Array.getElem?_modify, hb1]
  · have hl : (X ++ [x]).length = X.length + 1 := by simp
    rw [hl, flat_append, show flat [x] = enc6 x by simp [flat]]
    have hne : ∀ g, (Value.slice A1 (X.length + 1) cap1).ownBlock = some g → g ≠ p := fun g hg' he => by
      subst he
      rcases hat with e | e
      · rw [e] at hg'
        exact h.apart hg'.symm
      · rw [e] at hg'
        injection hg' with hg'
        have := h.lt
        omega
    exact own_keep hown fun g hg' => (heap_setCell_other _ ⟨p, 2, none⟩ g _ (hne g hg')).trans (heap_setCell_other _ ⟨p, 1, none⟩ g _ (hne g hg'))
  · rcases hb with hb | hb
    · exact .inl (.inl hb)
    · rcases hat with e | e
      · exact .inl (.inr (by rw [← e]; exact hb))
      · rw [e] at hb
        injection hb with hb
        right
        omega
theorem infoIt : (Try.prog.info? 63).map (fun i => (i.zero, i.size, i.bytes)) = some (some (.agg #[.int .i64 0, .int .i64 0, .int .i64 0, .int .i64 0, .int .i64 0, .int .i64 0]), 6, 48) := by kernel_rfl
set_option maxRecDepth 100000 in
set_option maxHeartbeats 3000000 in
theorem put_any {p : Nat} {o : Od} {v : Value} {X : List It} {c : Int} (d : Dt) (hX : X.length ≤ 100000) (hc0 : 0 ≤ c) (hc1 : c ≤ 100000) (w : World) (h : HeapAt w p o v X c) :
    Calls Try.prog 25 #[.pointer (some ⟨p, 0, none⟩), agD d] w fun e w' => e = .returned (.tuple #[]) ∧ Becomes p o v (putL o.k X (c, d)) (c + 1) w w' := by
  unfold agD
  have NO := Lib.hid (fun w1 g1 => none_any (p := p) (o := o) (v := v) (X := X) (c := c) w1 g1)
  obtain ⟨i60, hi, hz0, hz1, hz2⟩ := info_parts infoIt
  have H := Lib.hid h
  have hp := h.lt
  clear h
  go_enter Try.func25, Try.ntmps25
  go_wp2_with (first | (go_at_call 26; refine (NO.out _ (H.out.ext (by repeat (first | exact Ext.refl _ | refine Ext.alloc ?_ _ | refine Ext.more ?_ _ _ | refine Ext.drew ?_ | refine Ext.drewN ?_ _ | refine Ext.setCell ?_ (by simp <;> omega) _)))).mono ?_; rintro e w1 ⟨rfl, os1, k1, rfl⟩))
  have hE : Ext w (more (w.alloc (Obj.cells #[Value.int IntKind.i64 d.slot, Value.int IntKind.i64 d.lo, Value.int IntKind.i64 d.hi, Value.int IntKind.i64 d.age, Value.int IntKind.i64 d.lev] 31)) os1 k1) := (by repeat (first | exact Ext.refl _ | refine Ext.alloc ?_ _ | refine Ext.more ?_ _ _ | refine Ext.drew ?_ | refine Ext.drewN ?_ _ | refine Ext.setCell ?_ (by simp <;> omega) _))
  have H1 := H.out.ext hE
  have hs1 : w.heap.size < (more (w.alloc (Obj.cells #[Value.int IntKind.i64 d.slot, Value.int IntKind.i64 d.lo, Value.int IntKind.i64 d.hi, Value.int IntKind.i64 d.age, Value.int IntKind.i64 d.lev] 31)) os1 k1).heap.size := by simp [more_size]; omega
  have b0 : (more (w.alloc (Obj.cells #[Value.int IntKind.i64 d.slot, Value.int IntKind.i64 d.lo, Value.int IntKind.i64 d.hi, Value.int IntKind.i64 d.age, Value.int IntKind.i64 d.lev] 31)) os1 k1).cell? ⟨w.heap.size, 0, none⟩ = some (.int .i64 d.slot) := by
    exact (more_cell _ _ _ _ _ (by simp)).trans (cell_of_row _ _ _ _ _ (0, 0) (heap_alloc_new w _))
  have b1 : (more (w.alloc (Obj.cells #[Value.int IntKind.i64 d.slot, Value.int IntKind.i64 d.lo, Value.int IntKind.i64 d.hi, Value.int IntKind.i64 d.age, Value.int IntKind.i64 d.lev] 31)) os1 k1).cell? ⟨w.heap.size, 1, none⟩ = some (.int .i64 d.lo) := by
    exact (more_cell _ _ _ _ _ (by simp)).trans (cell_of_row _ _ _ _ _ (0, 0) (heap_alloc_new w _))
  have b2 : (more (w.alloc (Obj.cells #[Value.int IntKind.i64 d.slot, Value.int IntKind.i64 d.lo, Value.int IntKind.i64 d.hi, Value.int IntKind.i64 d.age, Value.int IntKind.i64 d.lev] 31)) os1 k1).cell? ⟨w.heap.size, 2, none⟩ = some (.int .i64 d.hi) := by
    exact (more_cell _ _ _ _ _ (by simp)).trans (cell_of_row _ _ _ _ _ (0, 0) (heap_alloc_new w _))
  have b3 : (more (w.alloc (Obj.cells #[Value.int IntKind.i64 d.slot, Value.int IntKind.i64 d.lo, Value.int IntKind.i64 d.hi, Value.int IntKind.i64 d.age, Value.int IntKind.i64 d.lev] 31)) os1 k1).cell? ⟨w.heap.size, 3, none⟩ = some (.int .i64 d.age) := by
    exact (more_cell _ _ _ _ _ (by simp)).trans (cell_of_row _ _ _ _ _ (0, 0) (heap_alloc_new w _))
  have b4 : (more (w.alloc (Obj.cells #[Value.int IntKind.i64 d.slot, Value.int IntKind.i64 d.lo, Value.int IntKind.i64 d.hi, Value.int IntKind.i64 d.age, Value.int IntKind.i64 d.lev] 31)) os1 k1).cell? ⟨w.heap.size, 4, none⟩ = some (.int .i64 d.lev) := by
    exact (more_cell _ _ _ _ _ (by simp)).trans (cell_of_row _ _ _ _ _ (0, 0) (heap_alloc_new w _))
  generalize hW : more (w.alloc (Obj.cells #[Value.int IntKind.i64 d.slot, Value.int IntKind.i64 d.lo, Value.int IntKind.i64 d.hi, Value.int IntKind.i64 d.age, Value.int IntKind.i64 d.lev] 31)) os1 k1 = W at *
  clear hW
  have hT := Lib.hid hE
  have HH := Lib.hid H1
  obtain ⟨c0, c1, c2⟩ := H1.cell
  have f1 := H1.frozen 1
  have f2 := H1.frozen 2
  have hpW := H1.lt
  clear hE H1
  have hsz : w.heap.size < W.heap.size := hs1
  have HN1 := Lib.hid (HH.out.apart)
  have HN2 := Lib.hid (H.out.fresh)
  go_region_law ((refine step_append_cells _ (by rfl) _ _ 57 (by rfl) 0 63 i60 _ 6 48 Try.underlying57 hi hz0 hz1 hz2 rfl (by omega) v X.length (flat X) (by rfl) (HH.out.ext (by repeat (first | exact Ext.refl _ | refine Ext.alloc ?_ _ | refine Ext.more ?_ _ _ | refine Ext.drew ?_ | refine Ext.drewN ?_ _ | refine Ext.setCell ?_ (by simp <;> omega) _))).row _ 1 1 (enc6 (c, d)) (by rfl) (by intro h; cases h) rfl (by first | exact cells_new _ _ _ | exact (cells_new W _ _).ext (by repeat (first | exact Ext.refl _ | refine Ext.alloc ?_ _ | refine Ext.more ?_ _ _ | refine Ext.drew ?_ | refine Ext.drewN ?_ _ | refine Ext.setCell ?_ (by simp <;> omega) _)) | exact cells_new W.drew _ _) (by simp [enc6, dCells, Value.oneCell']) (by unfold maxLen; omega) (by omega) (by simp [go_sem] <;> omega) ?_; intro v1 w1 hown1 hg1 hat1; obtain ⟨A1, cap1, rfl, _, hcp1, hcp2, _⟩ := own_cells hown1; have fz : w1.frozen? ⟨p, 1, none⟩ = false := (World.grownBy.frozen_far hg1 ⟨p, 1, none⟩ (by simp [go_sem]; omega) HN1.out).trans ((HH.out.ext (by repeat (first | exact Ext.refl _ | refine Ext.alloc ?_ _ | refine Ext.more ?_ _ _ | refine Ext.drew ?_ | refine Ext.drewN ?_ _ | refine Ext.setCell ?_ (by simp <;> omega) _))).frozen 1); have cz : w1.cell? ⟨p, 1, none⟩ = some v := (World.grownBy.cell_far hg1 ⟨p, 1, none⟩ (by simp [go_sem]; omega) HN1.out).trans ((HH.out.ext (by repeat (first | exact Ext.refl _ | refine Ext.alloc ?_ _ | refine Ext.more ?_ _ _ | refine Ext.drew ?_ | refine Ext.drewN ?_ _ | refine Ext.setCell ?_ (by simp <;> omega) _))).cell.2.1); have cz2 : w1.cell? ⟨p, 2, none⟩ = some (.int .i64 c) := (World.grownBy.cell_far hg1 ⟨p, 2, none⟩ (by simp [go_sem]; omega) HN1.out).trans ((HH.out.ext (by repeat (first | exact Ext.refl _ | refine Ext.alloc ?_ _ | refine Ext.more ?_ _ _ | refine Ext.drew ?_ | refine Ext.drewN ?_ _ | refine Ext.setCell ?_ (by simp <;> omega) _))).cell.2.2); have fz2 : w1.frozen? ⟨p, 2, none⟩ = false := (World.grownBy.frozen_far hg1 ⟨p, 2, none⟩ (by simp [go_sem]; omega) HN1.out).trans ((HH.out.ext (by repeat (first | exact Ext.refl _ | refine Ext.alloc ?_ _ | refine Ext.more ?_ _ _ | refine Ext.drew ?_ | refine Ext.drewN ?_ _ | refine Ext.setCell ?_ (by simp <;> omega) _))).frozen 2); have HO1 := Lib.hid hown1; have HG1 := Lib.hid hg1; have HA1 := Lib.hid hat1; have lz : p < w1.heap.size := Nat.lt_of_lt_of_le (by simp [go_sem]; omega) hg1.size; have lz1 : w.heap.size < w1.heap.size := Nat.lt_of_lt_of_le (by simp [go_sem]; omega) hg1.size; clear hown1 hg1 hat1))
  all_goals go_wp2_with fail
  all_goals
    obtain ⟨G1, G2⟩ := grow_state (c' := c + 1) HH.out HO1.out HG1.out HA1.out
    refine (up_any X.length (by simp) _ G1).mono ?_
    rintro e w2 ⟨rfl, h2, t2⟩
    go_wp2_with fail
    go_end0
    exact ⟨rfl, _, h2, (Moves.of_ext hT.out).trans (G2.trans (Moves.of_turn t2))⟩
end Go.Proofs.Ytmgpofdmfmeljaa
