/- W: 3 texts in one. -/
import Derived.WalkKit
import Derived.Handy
import Derived.Deep.Draws
import Derived.BigQuiet
import Derived.Lib.Hide
/- The world that a call leaves which only makes new memory and draws: 'w.more os k': the blocks 'os' behind w's own, k draws. No program is named here. -/
namespace Go.Proofs.Ytmgpofdmfmeljaa
open Go.RowKit

/-- w with the blocks os laid behind, and its count of draws k. -/
def more (w : World) (os : List Obj) (k : Nat) : World := { w with heap := w.heap ++ os.toArray, drawn := k }

section
variable (w : World) (os : List Obj) (k : Nat)
theorem more_size : (more w os k).heap.size = w.heap.size + os.length := by simp [more]
theorem more_heap (b : Nat) (h : b < w.heap.size) : (more w os k).heap[b]? = w.heap[b]? := by
  show (w.heap ++ os.toArray)[b]? = _
  rw [Array.getElem?_append_left h]
theorem more_cell (b o : Nat) (h : b < w.heap.size) : (more w os k).cell? ⟨b, o, none⟩ = w.cell? ⟨b, o, none⟩ :=
  World.cell?_of_block (more_heap w os k b h)
theorem more_frozen (b o : Nat) (h : b < w.heap.size) : (more w os k).frozen? ⟨b, o, none⟩ = w.frozen? ⟨b, o, none⟩ :=
  World.frozen?_of_block (more_heap w os k b h)
theorem more_setCell (b o : Nat) (v : Value) (h : b < w.heap.size) : (more w os k).setCell ⟨b, o, none⟩ v = more (w.setCell ⟨b, o, none⟩ v) os k := by
  unfold more World.setCell
  congr 1
  apply Array.ext_getElem?
  intro j
  simp only [Array.getElem?_modify, Array.getElem?_append, Array.size_modify]
  by_cases hj : j < w.heap.size
  · simp [hj]
  · have hne : ¬ b = j := by omega
    simp [hj, hne]
theorem more_nil : more w [] w.drawn = w := by simp [more]
theorem more_drew : (more w os k).drew = more w os (k + 1) := rfl
theorem more_drewN (n : Nat) : (more w os k).drewN n = more w os (k + n) := rfl
theorem drew_more : more w.drew os k = more w os k := rfl
theorem drewN_more (n : Nat) : more (w.drewN n) os k = more w os k := rfl
theorem more_alloc (o : Obj) : (more w os k).alloc o = more w (os ++ [o]) k := by
  show World.mk _ _ _ _ _ = World.mk _ _ _ _ _
  congr 1
  show (w.heap ++ os.toArray).push o = w.heap ++ (os ++ [o]).toArray
  simp
theorem more_more (os' : List Obj) (k' : Nat) : more (more w os k) os' k' = more w (os ++ os') k' := by
  show World.mk _ _ _ _ _ = World.mk _ _ _ _ _
  congr 1
  show (w.heap ++ os.toArray) ++ os'.toArray = w.heap ++ (os ++ os').toArray
  simp
theorem lt_add_r {a b c : Nat} (h : a < b) : a < b + c := Nat.lt_of_lt_of_le h (Nat.le_add_right _ _)
theorem lt_add_r2 {a b c d : Nat} (h : a < b) : a < b + c + d := by omega
theorem lt_add_r3 {a b c d e : Nat} (h : a < b) : a < b + c + d + e := by omega
theorem lt_add_r4 {a b c d e f : Nat} (h : a < b) : a < b + c + d + e + f := by omega
theorem lt_add_r5 {a b c d e f g : Nat} (h : a < b) : a < b + c + d + e + f + g := by omega
theorem lt_add_r6 {a b c d e f g i : Nat} (h : a < b) : a < b + c + d + e + f + g + i := by omega
theorem lt_add_r7 {a b c d e f g i j : Nat} (h : a < b) : a < b + c + d + e + f + g + i + j := by omega
theorem lt_add_r8 {a b c d e f g i j k : Nat} (h : a < b) : a < b + c + d + e + f + g + i + j + k := by omega
theorem lt_add_r9 {a b c d e f g i j k l : Nat} (h : a < b) : a < b + c + d + e + f + g + i + j + k + l := by omega
theorem lt_add_r10 {a b c d e f g i j k l m : Nat} (h : a < b) : a < b + c + d + e + f + g + i + j + k + l + m := by omega
theorem lt_self_r {a b : Nat} : a < a + b + 1 := by omega
theorem lt_self_r2 {a b c : Nat} : a < a + b + c + 1 := by omega
theorem more_tape : (more w os k).tape = w.tape := rfl
end

/-- w' is w with new blocks behind it and draws made. -/
def Ext (w w' : World) : Prop := ∃ os k, w' = more w os k
theorem Ext.refl (w : World) : Ext w w := ⟨[], w.drawn, (more_nil w).symm⟩
theorem Ext.alloc {w w' : World} (h : Ext w w') (o : Obj) : Ext w (w'.alloc o) := by
  obtain ⟨os, k, rfl⟩ := h
  exact ⟨_, _, more_alloc w os k o⟩
theorem Ext.drew {w w' : World} (h : Ext w w') : Ext w w'.drew := by
  obtain ⟨os, k, rfl⟩ := h
  exact ⟨_, _, more_drew w os k⟩
theorem Ext.drewN {w w' : World} (h : Ext w w') (n : Nat) : Ext w (w'.drewN n) := by
  obtain ⟨os, k, rfl⟩ := h
  exact ⟨_, _, more_drewN w os k n⟩
theorem Ext.trans {a b c : World} (h : Ext a b) (h' : Ext b c) : Ext a c := by
  obtain ⟨os, k, rfl⟩ := h
  obtain ⟨os', k', rfl⟩ := h'
  exact ⟨_, _, more_more a os k os' k'⟩
theorem Ext.more {w w' : World} (h : Ext w w') (os : List Obj) (k : Nat) : Ext w (more w' os k) := h.trans ⟨os, k, rfl⟩
theorem Ext.below {w w' : World} (h : Ext w w') : Below w.heap.size w w' := by
  obtain ⟨os, k, rfl⟩ := h
  exact ⟨rfl, rfl, rfl, by rw [more_size]; omega, fun b hb => more_heap w os k b hb⟩
theorem Ext.of_below {w w' : World} (h : Below w.heap.size w w') : Ext w w' := by
  refine ⟨(w'.heap.extract w.heap.size w'.heap.size).toList, w'.drawn, ?_⟩
  obtain ⟨heap, tape, drawn, os, output⟩ := w
  obtain ⟨heap', tape', drawn', os', output'⟩ := w'
  obtain ⟨h1, h2, h3, h4, h5⟩ := h
  simp only at h1 h2 h3 h4 h5
  subst h1 h2 h3
  show World.mk _ _ _ _ _ = World.mk _ _ _ _ _
  congr 1
  apply Array.ext_getElem?
  intro j
  rw [Array.getElem?_append]
  split
  · rename_i hj
    exact h5 j hj
  · rename_i hj
    have hj' : ¬ j < heap.size := hj
    show heap'[j]? = (heap'.extract heap.size heap'.size).toList.toArray[j - heap.size]?
    rw [List.getElem?_toArray, Array.getElem?_toList, Array.getElem?_extract]
    by_cases hl : j < heap'.size
    · rw [if_pos (by simp only [Nat.min_self]; omega)]
      congr 1
      omega
    · rw [if_neg (by simp only [Nat.min_self]; omega), Array.getElem?_eq_none (by omega)]
theorem Ext.size {w w' : World} (h : Ext w w') : w.heap.size ≤ w'.heap.size := h.below.size
/-- behind an append onto a row of the call's own, which lies behind w's blocks -/
theorem Ext.grown {w w1 w' : World} (h : Ext w w1) {row : Option Nat} (hg : w1.grownBy w' row) (hr : ∀ g, row = some g → w.heap.size ≤ g) : Ext w w' :=
  Ext.of_below (h.below.grown hg h.size hr)
theorem Ext.setCell {w w' : World} (h : Ext w w') {p : Addr} (hp : w.heap.size ≤ p.block) (u : Value) : Ext w (w'.setCell p u) :=
  Ext.of_below (h.below.setCell hp u)

theorem ret_int {k : IntKind} {a b : Int} (h : a = b) : Ending.returned (.int k a) = .returned (.int k b) := by rw [h]
theorem ret_bool {a b : Bool} (h : a = b) : Ending.returned (.bool a) = .returned (.bool b) := by rw [h]

end Go.Proofs.Ytmgpofdmfmeljaa

/- A region that draws its order, whose operations only read and whose callees only make new memory: one walk of the text's order serves every order. No program is named here. -/
namespace Go.Proofs.Ytmgpofdmfmeljaa
open Go.RowKit

/-- new blocks and draws -/
structure Lay where
  os : List Obj
  k : Nat
instance layNonempty : Nonempty Lay := ⟨⟨[], 0⟩⟩

theorem wp_region_ext {P : Program} {id : Nat} {Q : Exit → Act → World → Prop} {a : Act} {w : World} {l : List Oper} (hm : P.follows .mixedOrders = true) (hB : Region.lexB .any l.toArray = true)
    (h : wpQuiet P l.toArray (fun w' => ∃ x : Lay, w' = more w x.os x.k) (fun a' => ∀ w', (∃ x : Lay, w' = more w x.os x.k) → Q .normal a' w') l a) : (Code.region id l.toArray true).wp P Q a w :=
  wp_region_quiet (C := fun w' => ∃ x : Lay, w' = more w x.os x.k) hm hB ⟨⟨[], w.drawn + 1⟩, by simp [more]⟩ (by simpa using h)

theorem calls_ext {P : Program} {f : FuncId} {args : Array Value} {w : World} {x : Lay} {v : Value}
    (h : Calls P f args (more w x.os x.k) fun e w' => e = .returned v ∧ Ext (more w x.os x.k) w') : Calls P f args (more w x.os x.k) fun e w'' => e = .returned v ∧ ∃ y : Lay, w'' = more w y.os y.k :=
  h.mono fun _ _ ⟨he, os, k, hw⟩ => ⟨he, ⟨x.os ++ os, k⟩, by rw [hw, more_more]⟩

theorem calls_ext_same {P : Program} {f : FuncId} {args : Array Value} {w : World} {x : Lay} {v : Value}
    (h : Calls P f args (more w x.os x.k) fun e w' => e = .returned v ∧ more w x.os x.k = w') : Calls P f args (more w x.os x.k) fun e w'' => e = .returned v ∧ ∃ y : Lay, w'' = more w y.os y.k :=
  h.mono fun _ _ ⟨he, hw⟩ => ⟨he, x, hw.symm⟩

end Go.Proofs.Ytmgpofdmfmeljaa

/- Slices of ints as lists. No program is named here. -/
namespace Go.Proofs.Ytmgpofdmfmeljaa
open Go.RowKit

/-- the slice that begins at A reads as the numbers xs in w -/
def Ints (w : World) (A : Option Addr) (xs : List Int) : Prop :=
  0 < xs.length → ∃ b off, A = some ⟨b, off, none⟩ ∧ b < w.heap.size ∧ ∀ k, k < xs.length → w.cell? ⟨b, off + k, none⟩ = some (.int .i64 (xs.getD k 0))

theorem Ints.nil {w : World} {A : Option Addr} : Ints w A [] := fun h => by simp at h
theorem Ints.ext {w w' : World} {A : Option Addr} {xs : List Int} (h : Ints w A xs) (e : Ext w w') : Ints w' A xs := fun h0 => by
  obtain ⟨b, off, hA, hb, hc⟩ := h h0
  obtain ⟨os, k, rfl⟩ := e
  exact ⟨b, off, hA, by rw [more_size]; omega, fun j hj => by rw [more_cell _ _ _ _ _ hb]; exact hc j hj⟩
theorem Ints.below {w w' : World} {A : Option Addr} {xs : List Int} (h : Ints w A xs) (e : Below w.heap.size w w') : Ints w' A xs := fun h0 => by
  obtain ⟨b, off, hA, hb, hc⟩ := h h0
  exact ⟨b, off, hA, by have := e.size; omega, fun j hj => by rw [e.cell (p := ⟨b, off + j, none⟩) hb]; exact hc j hj⟩
theorem Ints.empty_or {w : World} {A : Option Addr} {xs : List Int} (h : Ints w A xs) : xs = [] ∨ (0 < xs.length ∧ ∃ b off, A = some ⟨b, off, none⟩ ∧ b < w.heap.size ∧ ∀ k, k < xs.length → w.cell? ⟨b, off + k, none⟩ = some (.int .i64 (xs.getD k 0))) := by
  cases xs with
  | nil => exact .inl rfl
  | cons x l => exact .inr ⟨by simp, h (by simp)⟩
/-- a slice's end: 's[k:]' -/
theorem Ints.drop {w : World} {A : Option Addr} {xs : List Int} (h : Ints w A xs) (k c : Nat) (hc : xs.length ≤ c) : Ints w (if c = k then A else A.map (·.add k)) (xs.drop k) := fun h0 => by
  rw [List.length_drop] at h0
  obtain ⟨b, off, rfl, hb, hcell⟩ := h (by omega)
  rw [if_neg (by omega)]
  refine ⟨b, off + k, ?_, hb, fun j hj => ?_⟩
  · simp only [Option.map_some, Addr.add]
    split <;> rename_i hk <;> simp_all
  · rw [List.length_drop] at hj
    have := hcell (k + j) (by omega)
    rw [Nat.add_assoc, this]
    simp [List.getD_eq_getElem?_getD, List.getElem?_drop]
end Go.Proofs.Ytmgpofdmfmeljaa
