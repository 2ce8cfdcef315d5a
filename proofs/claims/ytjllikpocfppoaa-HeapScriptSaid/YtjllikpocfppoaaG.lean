/- The heap's Put. -/
import Derived.Test.YtjllikpocfppoaaF
import Derived.WalkSpells
import Derived.WalkLawsBesides
import Derived.BigRegion
import Derived.Deep.RegionWith
import Derived.Deep.QuietTactic
import Derived.Deep.DeepCutAuto
import Derived.Deep.RegionHeld3
import Derived.Deep.RegionLaw
import Derived.BigQuiet
import Derived.Lib.Hide
namespace Go.Proofs.Ytjllikpocfppoaa
open Go.RowKit
attribute [local go_sem] more_drew more_drewN more_size more_cell more_frozen more_setCell drew_more drewN_more lt_add_r lt_add_r2 lt_add_r3 lt_add_r4 lt_add_r5 lt_add_r6 lt_add_r7 lt_add_r8 lt_add_r9 lt_add_r10 lt_self_r lt_self_r2

def putL (X : List It) (c k d : Int) : List It := upL X.length (X ++ [(c, k, d)]) X.length
def Becomes (p : Nat) (v : Value) (Y : List It) (c : Int) (w w' : World) : Prop := ∃ v', HeapAt w' p byKeyV v' Y c ∧ Moves p v v' w w'
theorem HeapAt.apart {w : World} {p : Nat} {F v : Value} {X : List It} {c : Int} (h : HeapAt w p F v X c) : some p ≠ v.ownBlock := by
  rcases h.row.2 with ⟨rfl, _⟩ | ⟨g, cap, cur, rfl, h2, h3, _⟩
  · intro h; cases h
  · intro he
    have : p = g := by simpa [Value.ownBlock] using he
    subst this
    rw [h.blk] at h3
    injection h3 with h3
    injection h3 with _ h3
    cases h3
theorem HeapAt.fresh {w : World} {p : Nat} {F v : Value} {X : List It} {c : Int} (h : HeapAt w p F v X c) : some w.heap.size ≠ v.ownBlock := by
  rcases h.row.2 with ⟨rfl, _⟩ | ⟨g, cap, cur, rfl, h2, h3, _⟩
  · intro h; cases h
  · intro h
    have : w.heap.size = g := by simpa [Value.ownBlock] using h
    rw [Array.getElem?_eq_none (by omega)] at h3
    cases h3
theorem grow_state {W w1 : World} {p : Nat} {F v : Value} {X : List It} {c c' : Int} {x : It} {o : Obj} {A1 : Option Addr} {cap1 : Nat} (h : HeapAt W p F v X c) (hown : w1.ownsRow 0 60 3 (.slice A1 (X.length + 1) cap1) (X.length + 1) (flat X ++ enc3 x))
    (hg : (W.alloc o).drew.grownBy w1 v.ownBlock) (hat : (Value.slice A1 (X.length + 1) cap1).ownBlock = v.ownBlock ∨ (Value.slice A1 (X.length + 1) cap1).ownBlock = some (W.alloc o).drew.heap.size) :
    HeapAt ((w1.setCell ⟨p, 1, none⟩ (.slice A1 (X.length + 1) cap1)).setCell ⟨p, 2, none⟩ (.int .i64 c')) p F (.slice A1 (X.length + 1) cap1) (X ++ [x]) c' ∧
      Moves p v (.slice A1 (X.length + 1) cap1) W ((w1.setCell ⟨p, 1, none⟩ (.slice A1 (X.length + 1) cap1)).setCell ⟨p, 2, none⟩ (.int .i64 c')) := by
  have hE : Ext W (W.alloc o).drew := (by repeat (first | exact Ext.refl _ | refine Ext.alloc ?_ _ | refine Ext.more ?_ _ _ | refine Ext.drew ?_ | refine Ext.drewN ?_ _ | refine Ext.setCell ?_ (by simp <;> omega) _))
  have h1 := h.ext hE
  have hb1 : w1.heap[p]? = some (.cells #[F, v, .int .i64 c] 56) := (hg.block p h1.lt h1.apart).trans h1.blk
  have hp1 : p < w1.heap.size := Nat.lt_of_lt_of_le h1.lt hg.size
  have hs : W.heap.size ≤ (W.alloc o).drew.heap.size := hE.size
  have T1 : Turn (mine p v) W w1 := (Turn.of_ext hE).trans (Turn.grown hg fun g hg' _ => .inr hg')
  have T2 : Turn (mine p v) w1 ((w1.setCell ⟨p, 1, none⟩ (.slice A1 (X.length + 1) cap1)).setCell ⟨p, 2, none⟩ (.int .i64 c')) :=
    (Turn.setCell w1 (p := ⟨p, 1, none⟩) (.inl rfl) _).trans (Turn.setCell _ (p := ⟨p, 2, none⟩) (.inl rfl) _)
  refine ⟨⟨?_, ?_⟩, ⟨T1.trans T2, fun b hb => ?_⟩⟩
  · simp [World.setCell, Array.getElem?_modify, hb1]
  · have hl : (X ++ [x]).length = X.length + 1 := by simp
    rw [hl, flat_append, show flat [x] = enc3 x by simp [flat]]
    have hne : ∀ g, (Value.slice A1 (X.length + 1) cap1).ownBlock = some g → g ≠ p := fun g hg' he => by
      subst he
      rcases hat with e | e
      · rw [e] at hg'
        exact h.apart hg'.symm
      · rw [e] at hg'
        injection hg' with hg'
        have := h.lt
        omega
    exact own_keep hown fun g hg' => (heap_setCell_other _ ⟨p, 2, none⟩ g _ (hne g hg')).trans (heap_setCell_other _ ⟨p, 1, none⟩ g _ (hne g hg'))
  · rcases hb with hb | hb
    · exact .inl (.inl hb)
    · rcases hat with e | e
      · exact .inl (.inr (by rw [← e]; exact hb))
      · rw [e] at hb
        injection hb with hb
        right
        omega
theorem info60 : (Try.prog.info? 60).map (fun i => (i.zero, i.size, i.bytes)) = some (some (.agg #[.int .i64 0, .int .i64 0, .int .i64 0]), 3, 24) := by kernel_rfl
set_option maxRecDepth 100000 in
set_option maxHeartbeats 3000000 in
theorem put_any (p : Nat) (v : Value) (X : List It) (c k d : Int) (hX : X.length ≤ 100000) (hc0 : 0 ≤ c) (hc1 : c ≤ 100000) (w : World) (h : HeapAt w p byKeyV v X c) :
    Calls Try.prog 10 #[.pointer (some ⟨p, 0, none⟩), .agg #[.int .i64 k, .int .i64 d]] w fun e w' => e = .returned (.tuple #[]) ∧ Becomes p v (putL X c k d) (c + 1) w w' := by
  have NO := Lib.hid (fun w1 g1 => none_any p v X c w1 g1)
  obtain ⟨i60, hi, hz0, hz1, hz2⟩ := info_parts info60
  have H := Lib.hid h
  have hp := h.lt
  clear h
  go_enter Try.func10, Try.ntmps10
  go_wp2_with (first | (go_at_call 25; refine (NO.out _ (H.out.ext (by repeat (first | exact Ext.refl _ | refine Ext.alloc ?_ _ | refine Ext.more ?_ _ _ | refine Ext.drew ?_ | refine Ext.drewN ?_ _ | refine Ext.setCell ?_ (by simp <;> omega) _)))).mono ?_; rintro e w1 ⟨rfl, os1, k1, rfl⟩))
  have hE : Ext w (more (w.alloc (Obj.cells #[Value.int IntKind.i64 k, Value.int IntKind.i64 d] 27)) os1 k1) := (by repeat (first | exact Ext.refl _ | refine Ext.alloc ?_ _ | refine Ext.more ?_ _ _ | refine Ext.drew ?_ | refine Ext.drewN ?_ _ | refine Ext.setCell ?_ (by simp <;> omega) _))
  have H1 := H.out.ext hE
  have hs1 : w.heap.size < (more (w.alloc (Obj.cells #[Value.int IntKind.i64 k, Value.int IntKind.i64 d] 27)) os1 k1).heap.size := by simp [more_size]; omega
  have b0 : (more (w.alloc (Obj.cells #[Value.int IntKind.i64 k, Value.int IntKind.i64 d] 27)) os1 k1).cell? ⟨w.heap.size, 0, none⟩ = some (.int .i64 k) := by
    exact (more_cell _ _ _ _ _ (by simp)).trans (cell_of_row _ _ _ _ _ (0, 0) (heap_alloc_new w _))
  have b1 : (more (w.alloc (Obj.cells #[Value.int IntKind.i64 k, Value.int IntKind.i64 d] 27)) os1 k1).cell? ⟨w.heap.size, 1, none⟩ = some (.int .i64 d) := by
    exact (more_cell _ _ _ _ _ (by simp)).trans (cell_of_row _ _ _ _ _ (0, 0) (heap_alloc_new w _))
  generalize hW : more (w.alloc (Obj.cells #[Value.int IntKind.i64 k, Value.int IntKind.i64 d] 27)) os1 k1 = W at *
  clear hW
  have hT := Lib.hid hE
  have HH := Lib.hid H1
  obtain ⟨c0, c1, c2⟩ := H1.cell
  have f1 := H1.frozen 1
  have f2 := H1.frozen 2
  have hpW := H1.lt
  clear hE H1
  have hsz : w.heap.size < W.heap.size := hs1
  have HN1 := Lib.hid (HH.out.apart)
  have HN2 := Lib.hid (H.out.fresh)
  go_region_law ((refine step_append_cells _ (by rfl) _ _ 54 (by rfl) 0 60 i60 _ 3 24 Try.underlying54 hi hz0 hz1 hz2 rfl (by omega) v X.length (flat X) (by rfl) (HH.out.ext (by repeat (first | exact Ext.refl _ | refine Ext.alloc ?_ _ | refine Ext.more ?_ _ _ | refine Ext.drew ?_ | refine Ext.drewN ?_ _ | refine Ext.setCell ?_ (by simp <;> omega) _))).row _ 1 1 (enc3 (c, k, d)) (by rfl) (by intro h; cases h) rfl (by first | exact cells_new _ _ _ | exact (cells_new W _ _).ext (by repeat (first | exact Ext.refl _ | refine Ext.alloc ?_ _ | refine Ext.more ?_ _ _ | refine Ext.drew ?_ | refine Ext.drewN ?_ _ | refine Ext.setCell ?_ (by simp <;> omega) _)) | exact cells_new W.drew _ _) (by simp [enc3, Value.oneCell']) (by unfold maxLen; omega) (by omega) (by simp [go_sem] <;> omega) ?_; intro v1 w1 hown1 hg1 hat1; obtain ⟨A1, cap1, rfl, _, hcp1, hcp2, _⟩ := own_cells hown1; have fz : w1.frozen? ⟨p, 1, none⟩ = false := (World.grownBy.frozen_far hg1 ⟨p, 1, none⟩ (by simp [go_sem]; omega) HN1.out).trans ((HH.out.ext (by repeat (first | exact Ext.refl _ | refine Ext.alloc ?_ _ | refine Ext.more ?_ _ _ | refine Ext.drew ?_ | refine Ext.drewN ?_ _ | refine Ext.setCell ?_ (by simp <;> omega) _))).frozen 1); have cz : w1.cell? ⟨p, 1, none⟩ = some v := (World.grownBy.cell_far hg1 ⟨p, 1, none⟩ (by simp [go_sem]; omega) HN1.out).trans ((HH.out.ext (by repeat (first | exact Ext.refl _ | refine Ext.alloc ?_ _ | refine Ext.more ?_ _ _ | refine Ext.drew ?_ | refine Ext.drewN ?_ _ | refine Ext.setCell ?_ (by simp <;> omega) _))).cell.2.1); have cz2 : w1.cell? ⟨p, 2, none⟩ = some (.int .i64 c) := (World.grownBy.cell_far hg1 ⟨p, 2, none⟩ (by simp [go_sem]; omega) HN1.out).trans ((HH.out.ext (by repeat (first | exact Ext.refl _ | refine Ext.alloc ?_ _ | refine Ext.more ?_ _ _ | refine Ext.drew ?_ | refine Ext.drewN ?_ _ | refine Ext.setCell ?_ (by simp <;> omega) _))).cell.2.2); have fz2 : w1.frozen? ⟨p, 2, none⟩ = false := (World.grownBy.frozen_far hg1 ⟨p, 2, none⟩ (by simp [go_sem]; omega) HN1.out).trans ((HH.out.ext (by repeat (first | exact Ext.refl _ | refine Ext.alloc ?_ _ | refine Ext.more ?_ _ _ | refine Ext.drew ?_ | refine Ext.drewN ?_ _ | refine Ext.setCell ?_ (by simp <;> omega) _))).frozen 2); have HO1 := Lib.hid hown1; have HG1 := Lib.hid hg1; have HA1 := Lib.hid hat1; have lz : p < w1.heap.size := Nat.lt_of_lt_of_le (by simp [go_sem]; omega) hg1.size; have lz1 : w.heap.size < w1.heap.size := Nat.lt_of_lt_of_le (by simp [go_sem]; omega) hg1.size; clear hown1 hg1 hat1))
  all_goals go_wp2_with fail
  all_goals
    obtain ⟨G1, G2⟩ := grow_state (c' := c + 1) HH.out HO1.out HG1.out HA1.out
    refine (up_any p _ _ (c + 1) X.length (by simp) _ G1).mono ?_
    rintro e w2 ⟨rfl, h2, t2⟩
    go_wp2_with fail
    go_end0
    exact ⟨rfl, _, h2, (Moves.of_ext hT.out).trans (G2.trans (Moves.of_turn t2))⟩
end Go.Proofs.Ytjllikpocfppoaa
