/- Parts that lie in a row of cells; the example, lives, light of chapter 16. -/
import Derived.Test.YtaffaeompdlecaaB3
import Derived.Test.YtaffaeompdlecaaB6
import Derived.WalkSpells
import Derived.WalkLawsBesides
import Derived.BigRegion
import Derived.Deep.RegionWith
import Derived.Deep.QuietTactic
import Derived.Deep.DeepCutAuto
import Derived.Deep.RegionHeld3
import Derived.Deep.RegionLaw
import Derived.BigQuiet
import Derived.Lib.Hide
namespace Go.Proofs.Ytaffaeompdlecaa
open Go.RowKit
attribute [local go_sem] more_drew more_drewN more_size more_cell more_frozen more_setCell drew_more drewN_more lt_add_r lt_add_r2 lt_add_r3 lt_add_r4 lt_add_r5 lt_add_r6 lt_add_r7 lt_add_r8 lt_add_r9 lt_add_r10 lt_self_r lt_self_r2

/-- the cells of parts -/
def pv (ps : List Prt) : List Value := ps.flatMap prtCells
theorem pv_length (ps : List Prt) : (pv ps).length = ps.length * 8 := by
  induction ps with
  | nil => rfl
  | cons p ps ih => simp only [pv, List.flatMap_cons, List.length_append, List.length_cons] at *; rw [ih]; simp [prtCells]; omega
theorem pv_append (ps qs : List Prt) : pv (ps ++ qs) = pv ps ++ pv qs := List.flatMap_append
theorem pv_get : ∀ {ps : List Prt} {k : Nat} {p : Prt} (r : Nat), ps[k]? = some p → r < 8 → (pv ps)[k * 8 + r]? = (prtCells p)[r]?
  | [], k, p, r, h, _ => by simp at h
  | q :: ps, 0, p, r, h, hr => by
    simp at h
    subst h
    simp only [pv, List.flatMap_cons, Nat.zero_mul, Nat.zero_add]
    rw [List.getElem?_append_left (by simp [prtCells]; omega)]
  | q :: ps, k + 1, p, r, h, hr => by
    simp only [pv, List.flatMap_cons]
    rw [List.getElem?_append_right (by simp [prtCells]; omega)]
    have := pv_get (ps := ps) (k := k) r (by simpa using h) hr
    rw [← this]
    congr 1
    simp [prtCells]
    omega
theorem Prts.of_cells {w : World} {A : Option Addr} {ps : List Prt} (h : CellsAt w A (pv ps)) : Prts w A ps := fun h0 => by
  obtain ⟨b, off, hA, hb, hc⟩ := h (by rw [pv_length]; omega)
  refine ⟨b, off, hA, hb, fun k p hk => ?_⟩
  have key : ∀ r v, r < 8 → (prtCells p)[r]? = some v → w.cell? ⟨b, off + k * 8 + r, none⟩ = some v := fun r v hr hv => by
    rw [Nat.add_assoc]
    exact hc _ _ ((pv_get r hk hr).trans hv)
  exact ⟨by have := key 0 _ (by omega) rfl; simpa using this, key 1 _ (by omega) rfl, key 2 _ (by omega) rfl, key 3 _ (by omega) rfl, key 4 _ (by omega) rfl, key 5 _ (by omega) rfl, key 6 _ (by omega) rfl, key 7 _ (by omega) rfl⟩
theorem CellsAt.of_prts {w : World} {A : Option Addr} {ps : List Prt} (h : Prts w A ps) : CellsAt w A (pv ps) := fun h0 => by
  rw [pv_length] at h0
  obtain ⟨b, off, hA, hb, hc⟩ := h (by omega)
  refine ⟨b, off, hA, hb, fun j u hu => ?_⟩
  have hj : j < ps.length * 8 := by rw [← pv_length]; exact (List.getElem?_eq_some_iff.1 hu).1
  obtain ⟨k, r, rfl, hr⟩ : ∃ k r, j = k * 8 + r ∧ r < 8 := ⟨j / 8, j % 8, by omega, by omega⟩
  obtain ⟨p, hp⟩ : ∃ p, ps[k]? = some p := ⟨_, List.getElem?_eq_getElem (by omega)⟩
  obtain ⟨c0, c1, c2, c3, c4, c5, c6, c7⟩ := hc k p hp
  rw [pv_get r hp hr] at hu
  rw [← Nat.add_assoc]
  rcases (show r = 0 ∨ r = 1 ∨ r = 2 ∨ r = 3 ∨ r = 4 ∨ r = 5 ∨ r = 6 ∨ r = 7 by omega) with rfl | rfl | rfl | rfl | rfl | rfl | rfl | rfl <;> (cases hu; first | assumption | (simpa using c0))
theorem pv_one (ps : List Prt) : ∀ u ∈ pv ps, u.oneCell' = true := by
  intro u hu
  obtain ⟨x, _, hx⟩ := List.mem_flatMap.1 hu
  simp only [prtCells, List.mem_cons, List.not_mem_nil, or_false] at hx
  rcases hx with rfl | rfl | rfl | rfl | rfl | rfl | rfl | rfl <;> rfl
theorem Prts.of_block {w : World} {g : Nat} {cs : Array Value} {t : TypeId} {ps : List Prt} (h : w.heap[g]? = some (.cells cs t)) (hc : cs.toList = pv ps) : Prts w (some ⟨g, 0, none⟩) ps := by
  refine Prts.of_cells fun _ => ⟨g, 0, rfl, lt_of_heap h, fun k u hu => ?_⟩
  rw [← hc, Array.getElem?_toList] at hu
  rw [Nat.zero_add, cell_of_row _ _ _ _ _ (0, 0) h]
  exact hu
theorem Ints.of_block {w : World} {g : Nat} {cs : Array Value} {t : TypeId} {xs : List Int} (h : w.heap[g]? = some (.cells cs t)) (hc : cs.toList = iv xs) : Ints w (some ⟨g, 0, none⟩) xs := fun h0 => by
  refine ⟨g, 0, rfl, lt_of_heap h, fun k hk => ?_⟩
  have := iv_get hk
  rw [← hc, Array.getElem?_toList] at this
  rw [Nat.zero_add, cell_of_row _ _ _ _ _ (0, 0) h]
  exact this
def smI (x : Int) : Bool := decide (-1000000 ≤ x) && decide (x ≤ 1000000)
theorem smI_ok {x : Int} (h : smI x = true) : I64 x := by
  unfold smI at h
  simp only [Bool.and_eq_true, decide_eq_true_eq] at h
  unfold I64
  omega
def smallB (p : Nd) : Bool := smI p.sym && smI p.kind && smI p.lo && smI p.inn && smI p.hi && smI p.look && (decide (0 ≤ p.met) && decide (p.met ≤ 1000000)) && p.kids.all smI
theorem PrtOk.lit {w : World} {p : Prt} (hk : Ints w p.kA p.nd.kids) (hc : p.nd.kids.length ≤ p.kc) (ht : p.kc ≤ 1000) (hn : p.kA = .none → p.kc = 0) (hs : smallB p.nd = true) : PrtOk w p := by
  unfold smallB at hs
  simp only [Bool.and_eq_true, decide_eq_true_eq] at hs
  obtain ⟨⟨⟨⟨⟨⟨⟨s1, s2⟩, s3⟩, s4⟩, s5⟩, s6⟩, s7⟩, s8⟩ := hs
  exact ⟨hk, hc, by omega, hn, smI_ok s1, smI_ok s2, smI_ok s3, smI_ok s4, smI_ok s5, smI_ok s6, by omega, fun k hk => smI_ok (List.all_eq_true.1 s8 k hk)⟩

/-- the chapter's tree -/
def exN : List Nd := [⟨-3, 1, 0, 0, 2, 1, [1, 3], 0⟩, ⟨1, 2, 0, 0, 2, 3, [2], 0⟩, ⟨0, 3, 0, 0, 2, 3, [], 0⟩, ⟨-2, 6, 2, 2, 2, 3, [], 0⟩]
def exP (b : Nat) : List Prt := [⟨⟨-3, 1, 0, 0, 2, 1, [1, 3], 0⟩, some ⟨b, 0, none⟩, 2⟩, ⟨⟨1, 2, 0, 0, 2, 3, [2], 0⟩, some ⟨b + 1, 0, none⟩, 1⟩, ⟨⟨0, 3, 0, 0, 2, 3, [], 0⟩, none, 0⟩, ⟨⟨-2, 6, 2, 2, 2, 3, [], 0⟩, none, 0⟩]
theorem exP_nds (b : Nat) : nds (exP b) = exN := rfl
theorem exN_kc (j : Nat) : kc exN 0 j ≤ 1000000 := Nat.le_trans (kc_all exN j) (by decide)
theorem get4 {α : Type} {a b c d x : α} {i : Nat} (h : [a, b, c, d][i]? = some x) : (i = 0 ∧ x = a) ∨ (i = 1 ∧ x = b) ∨ (i = 2 ∧ x = c) ∨ (i = 3 ∧ x = d) := by
  match i, h with
  | 0, h => simp at h; exact .inl ⟨rfl, h.symm⟩
  | 1, h => simp at h; exact .inr (.inl ⟨rfl, h.symm⟩)
  | 2, h => simp at h; exact .inr (.inr (.inl ⟨rfl, h.symm⟩))
  | 3, h => simp at h; exact .inr (.inr (.inr ⟨rfl, h.symm⟩))
  | i + 4, h => simp at h
theorem exN_tree : Tree exN := by
  refine ⟨fun i p h => ?_, ?_, fun p hp => ?_⟩
  · rcases get4 h with ⟨rfl, rfl⟩ | ⟨rfl, rfl⟩ | ⟨rfl, rfl⟩ | ⟨rfl, rfl⟩ <;> exact ⟨by decide, by decide⟩
  · refine Trek.one (p := ⟨-3, 1, 0, 0, 2, 1, [1, 3], 0⟩) rfl ?_
    refine Trek.cons (l := exN) ⟨1, 2, 0, 0, 2, 3, [2], 0⟩ [3] 1 3 true 4 rfl ?_ ?_
    · exact Trek.one (l := exN) (n := 2) (p := ⟨0, 3, 0, 0, 2, 3, [], 0⟩) rfl (.nil 3)
    · exact Trek.one (l := exN) (n := 3) (p := ⟨-2, 6, 2, 2, 2, 3, [], 0⟩) rfl (.nil 4)
  · have : ∀ p ∈ exN, liesB exN p.hi p.lo p.kids = true := by decide
    exact this p hp
theorem exN_leaves : leavesF 0 exN = [2, 3] := by decide
def ExRet (w : World) (e : Ending) (w' : World) : Prop :=
  e = .returned (.slice (some ⟨w.heap.size + 1 + 1, 0, none⟩) 4 4) ∧ w'.heap[w.heap.size + 1 + 1]? = some (.cells (pv (exP w.heap.size)).toArray 35) ∧ PS w' (some ⟨w.heap.size + 1 + 1, 0, none⟩) 4 (exP w.heap.size) ∧ Ext w w'
set_option maxRecDepth 100000 in
set_option maxHeartbeats 2000000 in
theorem example16_any (w : World) : Calls Try.prog 39 #[] w (ExRet w) := by
  go_enter Try.func39, Try.ntmps39
  go_wp2_with fail
  go_ret
  have G0 : (((w.alloc (.cells #[.int .i64 1, .int .i64 3] 3)).alloc (.cells #[.int .i64 2] 3)).alloc (.cells (pv (exP w.heap.size)).toArray 35)).heap[w.heap.size]? = some (.cells #[.int .i64 1, .int .i64 3] 3) := (by simp only [heap_alloc_get, World.size_alloc]; (repeat (split; (first | rfl | (exfalso; omega)))); (try (first | (exfalso; omega) | simp_all)))
  have G1 : (((w.alloc (.cells #[.int .i64 1, .int .i64 3] 3)).alloc (.cells #[.int .i64 2] 3)).alloc (.cells (pv (exP w.heap.size)).toArray 35)).heap[w.heap.size + 1]? = some (.cells #[.int .i64 2] 3) := (by simp only [heap_alloc_get, World.size_alloc]; (repeat (split; (first | rfl | (exfalso; omega)))); (try (first | (exfalso; omega) | simp_all)))
  have G2 : (((w.alloc (.cells #[.int .i64 1, .int .i64 3] 3)).alloc (.cells #[.int .i64 2] 3)).alloc (.cells (pv (exP w.heap.size)).toArray 35)).heap[w.heap.size + 1 + 1]? = some (.cells (pv (exP w.heap.size)).toArray 35) := (by simp only [heap_alloc_get, World.size_alloc]; (repeat (split; (first | rfl | (exfalso; omega)))); (try (first | (exfalso; omega) | simp_all)))
  refine ⟨rfl, G2, ⟨Prts.of_block G2 (by simp), ?_, ⟨Nat.le_of_ble_eq_true rfl, exN_kc⟩, Nat.le_refl _, by omega, nofun⟩, (by repeat (first | exact Ext.refl _ | refine Ext.alloc ?_ _ | refine Ext.more ?_ _ _ | refine Ext.drew ?_ | refine Ext.drewN ?_ _ | refine Ext.setCell ?_ (by simp <;> omega) _))⟩
  · intro p hp
    simp only [exP, List.mem_cons, List.not_mem_nil, or_false] at hp
    rcases hp with rfl | rfl | rfl | rfl
    · exact PrtOk.lit (Ints.of_block G0 rfl) (Nat.le_of_ble_eq_true rfl) (Nat.le_of_ble_eq_true rfl) nofun rfl
    · exact PrtOk.lit (Ints.of_block G1 rfl) (Nat.le_of_ble_eq_true rfl) (Nat.le_of_ble_eq_true rfl) nofun rfl
    · exact PrtOk.lit Ints.nil (Nat.le_of_ble_eq_true rfl) (Nat.le_of_ble_eq_true rfl) (fun _ => rfl) rfl
    · exact PrtOk.lit Ints.nil (Nat.le_of_ble_eq_true rfl) (Nat.le_of_ble_eq_true rfl) (fun _ => rfl) rfl
end Go.Proofs.Ytaffaeompdlecaa
