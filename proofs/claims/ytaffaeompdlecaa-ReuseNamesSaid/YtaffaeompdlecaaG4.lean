/- The contract of tree.Stale. -/
import Derived.Test.YtaffaeompdlecaaG3
import Derived.Test.YtaffaeompdlecaaB4
import Derived.WalkSpells
import Derived.WalkLawsBesides
import Derived.BigRegion
import Derived.Deep.RegionWith
import Derived.Deep.QuietTactic
import Derived.Deep.DeepCutAuto
import Derived.Deep.RegionHeld3
import Derived.Deep.RegionLaw
import Derived.BigQuiet
import Derived.Lib.Hide
namespace Go.Proofs.Ytaffaeompdlecaa
open Go.RowKit
attribute [local go_sem] more_drew more_drewN more_size more_cell more_frozen more_setCell drew_more drewN_more lt_add_r lt_add_r2 lt_add_r3 lt_add_r4 lt_add_r5 lt_add_r6 lt_add_r7 lt_add_r8 lt_add_r9 lt_add_r10 lt_self_r lt_self_r2
attribute [local go_sem] Oper.semAt_some

/-- what of stale is told from k on -/
structure StaleTo (l : List Nd) (k : Nat) (bs : List Bool) : Prop where
  len : bs.length = l.length
  behind : ∀ (j : Nat) (p : Nd), l[j]? = some p → k ≤ j → bs[j]? = some (decide (p.met ≠ 0) || p.kids.any fun x => (bs[x.toNat]?).getD false)
theorem StaleTo.first {l : List Nd} {bs : List Bool} (h : bs.length = l.length) : StaleTo l l.length bs := ⟨h, fun j p hp hj => absurd (lt_of_get hp) (Nat.not_lt.2 hj)⟩
theorem StaleTo.last {l : List Nd} {bs : List Bool} (h : StaleTo l 0 bs) : StaleOk l bs := ⟨h.len, fun j p hp => h.behind j p hp (Nat.zero_le _)⟩
theorem stale_set {l : List Nd} {bs : List Bool} (T : Tree l) {k j : Nat} {p : Nd} {v : Bool} (hp : l[j]? = some p) (hj : k ≤ j) : (p.kids.any fun x => ((bs.set k v)[x.toNat]?).getD false) = p.kids.any fun x => (bs[x.toNat]?).getD false :=
  any_congr' fun x hx => by
    obtain ⟨c, rfl, h1, h2⟩ := T.kid_behind hp x hx
    rw [Int.toNat_natCast, List.getElem?_set_ne (by omega)]
theorem StaleTo.step {l : List Nd} {bs : List Bool} (T : Tree l) {k : Nat} (h : StaleTo l (k + 1) bs) {p : Nd} (hp : l[k]? = some p) : StaleTo l k (bs.set k (decide (p.met ≠ 0) || p.kids.any fun x => (bs[x.toNat]?).getD false)) := by
  have hk := lt_of_get hp
  refine ⟨by rw [List.length_set]; exact h.len, fun j q hq hj => ?_⟩
  rw [stale_set T hq hj]
  rcases Nat.eq_or_lt_of_le hj with rfl | hj
  · rw [hp] at hq
    injection hq with hq
    subst hq
    rw [List.getElem?_set_self (by rw [h.len]; exact hk)]
  · rw [List.getElem?_set_ne (by omega)]
    exact h.behind j q hq hj
/-- a block of bools -/
def MadeB (w : World) (g : Nat) (bs : List Bool) : Prop := w.heap[g]? = some (.cells (bs.map Value.bool).toArray 4)
theorem MadeB.new (w : World) (n : Nat) : MadeB (w.alloc (.cells (madeCells #[.bool false] n) 4)) w.heap.size (List.replicate n false) := by
  unfold MadeB
  rw [heap_alloc_new, made_cells, List.map_replicate]
theorem MadeB.cell {w : World} {g : Nat} {bs : List Bool} (h : MadeB w g bs) {k : Nat} {v : Bool} (hk : bs[k]? = some v) : w.cell? ⟨g, k, none⟩ = some (.bool v) ∧ w.frozen? ⟨g, k, none⟩ = false ∧ g < w.heap.size := by
  unfold MadeB at h
  refine ⟨?_, by simp [World.frozen?, h], lt_of_heap h⟩
  rw [cell_of_row _ _ _ _ _ _ h]
  simp [hk]
theorem MadeB.store {w : World} {g : Nat} {bs : List Bool} (h : MadeB w g bs) (k : Nat) (v : Bool) : MadeB (w.setCell ⟨g, k, none⟩ (.bool v)) g (bs.set k v) := by
  unfold MadeB at *
  simp [World.setCell, Array.getElem?_modify, h, List.map_set]
theorem MadeB.below {w w' : World} {g : Nat} {bs : List Bool} (h : MadeB w g bs) (e : Below w.heap.size w w') : MadeB w' g bs := (e.block g (lt_of_heap h)).trans h
theorem MadeB.ext {w w' : World} {g : Nat} {bs : List Bool} (h : MadeB w g bs) (e : Ext w w') : MadeB w' g bs := h.below e.below
theorem infoBool : (Try.prog.info? 4).map (fun i => (i.zero, i.size, i.bytes)) = some (some (.bool false), 1, 1) := by kernel_rfl
/-- a call's result that is a row of bools -/
def BoolsRet (w : World) (bs : List Bool) (e : Ending) (w' : World) : Prop := ∃ g, e = .returned (.slice (some ⟨g, 0, none⟩) bs.length bs.length) ∧ MadeB w' g bs ∧ w.heap.size ≤ g ∧ Ext w w'
/-- where a round of Stale is -/
structure StV (w W2 : World) (n0 m g d3 n : Nat) (p : Prt) (bs : List Bool) (V : World) : Prop where
  low : Low n0 V (fun U => MadeB U g bs ∧ U.heap[d3]? = some (.cells #[.slice (some ⟨g, 0, none⟩) n n] 49) ∧ Below w.heap.size w U)
  part : V.heap[m]? = some (.cells (prtCells p).toArray 35)
  turn : Turn (fun k => ((k = g ∨ n0 ≤ k) ∧ k < n0) ∨ m ≤ k) W2 V
  hm : n0 ≤ m
  hg : g < n0
  hd : d3 ≠ g
section
variable {w W2 V V' : World} {n0 m g d3 n : Nat} {p : Prt} {bs : List Bool}
theorem StV.ext (h : StV w W2 n0 m g d3 n p bs V) (e : Ext V V') : StV w W2 n0 m g d3 n p bs V' := ⟨h.low.below (e.below.mono h.low.size), ext_block h.part e, h.turn.trans (Turn.of_ext e), h.hm, h.hg, h.hd⟩
theorem StV.made (h : StV w W2 n0 m g d3 n p bs V) : MadeB V g bs := Low.up (Φ := fun U => MadeB U g bs) (h.low.imp fun _ h => h.1) fun U h e => h.below e
theorem StV.out (h : StV w W2 n0 m g d3 n p bs V) : V.heap[d3]? = some (.cells #[.slice (some ⟨g, 0, none⟩) n n] 49) := Low.up (Φ := fun U => U.heap[d3]? = some (.cells #[.slice (some ⟨g, 0, none⟩) n n] 49)) (h.low.imp fun _ h => h.2.1) fun U h e => (e.block _ (lt_of_heap h)).trans h
theorem StV.below (h : StV w W2 n0 m g d3 n p bs V) : Below w.heap.size w V := Low.up (Φ := Below w.heap.size w) (h.low.imp fun _ h => h.2.2) fun U h e => h.trans (e.mono h.size)
theorem StV.store (h : StV w W2 n0 m g d3 n p bs V) (hwg : w.heap.size ≤ g) (k : Nat) (v : Bool) : StV w W2 n0 m g d3 n p (bs.set k v) (V.setCell ⟨g, k, none⟩ (.bool v)) := by
  have hmg : ¬ g = m := by have := h.hm; have := h.hg; omega
  refine ⟨h.low.store fun U hU => ⟨hU.1.store k v, ?_, hU.2.2.setCell hwg _⟩, ?_, h.turn.trans (Turn.setCell V (p := ⟨g, k, none⟩) (.inl ⟨.inl rfl, h.hg⟩) _), h.hm, h.hg, h.hd⟩
  · have := hU.2.1
    have h3 := h.hd
    simp [World.setCell, Array.getElem?_modify, Ne.symm h3, this]
  · have := h.part
    simp [World.setCell, Array.getElem?_modify, hmg, this]
end
/-- what Stale has done before it comes to a part -/
def StI (w : World) (n0 g d3 n : Nat) (ps : List Prt) (k : Nat) (W : World) : Prop :=
  ∃ bs : List Bool, Low n0 W (fun U => MadeB U g bs ∧ U.heap[d3]? = some (.cells #[.slice (some ⟨g, 0, none⟩) n n] 49) ∧ Below w.heap.size w U) ∧ StaleTo (nds ps) k bs
set_option maxRecDepth 100000 in
set_option maxHeartbeats 1000000 in
theorem stale1_any (x : Int) (c g d3 n : Nat) (bs : List Bool) (w : World) (hx : x = (c : Int)) (hc : c < bs.length) (hn : bs.length = n) (hn2 : n ≤ 1000000) (hM : MadeB w g bs) (hd : w.heap[d3]? = some (.cells #[.slice (some ⟨g, 0, none⟩) n n] 49)) :
    Calls Try.prog 113 #[.int .i64 x, pt d3] w fun e w' => e = .returned (.bool ((bs[x.toNat]?).getD false)) ∧ Ext w w' := by
  subst hx
  obtain ⟨v, hv⟩ : ∃ v, bs[c]? = some v := ⟨_, List.getElem?_eq_getElem hc⟩
  obtain ⟨d1, d2, d4⟩ := hM.cell hv
  have HV : Hid ((bs[(c : Int).toNat]?).getD false = v) := Lib.hid (by rw [Int.toNat_natCast, hv]; rfl)
  have k0 := cell_of_row _ _ 0 _ _ _ hd
  simp at k0
  have l0 := lt_of_heap hd
  rw [hn] at hc
  clear hM hd hv
  go_enter Try.func113, Try.ntmps113
  go_wp2_with fail
  go_ret
  exact ⟨ret_bool HV.out.symm, Ext.refl _⟩
end Go.Proofs.Ytaffaeompdlecaa
