/- Slices of ints as lists. No program is named here. -/
import Derived.Test.YtaffaeompdlecaaW
import Derived.Test.YtaffaeompdlecaaV
namespace Go.Proofs.Ytaffaeompdlecaa
open Go.RowKit

/-- the slice that begins at A reads as the numbers xs in w -/
def Ints (w : World) (A : Option Addr) (xs : List Int) : Prop :=
  0 < xs.length → ∃ b off, A = some ⟨b, off, none⟩ ∧ b < w.heap.size ∧ ∀ k, k < xs.length → w.cell? ⟨b, off + k, none⟩ = some (.int .i64 (xs.getD k 0))

theorem Ints.nil {w : World} {A : Option Addr} : Ints w A [] := fun h => by simp at h
theorem Ints.ext {w w' : World} {A : Option Addr} {xs : List Int} (h : Ints w A xs) (e : Ext w w') : Ints w' A xs := fun h0 => by
  obtain ⟨b, off, hA, hb, hc⟩ := h h0
  obtain ⟨os, k, rfl⟩ := e
  exact ⟨b, off, hA, by rw [more_size]; omega, fun j hj => by rw [more_cell _ _ _ _ _ hb]; exact hc j hj⟩
theorem Ints.below {w w' : World} {A : Option Addr} {xs : List Int} (h : Ints w A xs) (e : Below w.heap.size w w') : Ints w' A xs := fun h0 => by
  obtain ⟨b, off, hA, hb, hc⟩ := h h0
  exact ⟨b, off, hA, by have := e.size; omega, fun j hj => by rw [e.cell (p := ⟨b, off + j, none⟩) hb]; exact hc j hj⟩
theorem Ints.empty_or {w : World} {A : Option Addr} {xs : List Int} (h : Ints w A xs) : xs = [] ∨ (0 < xs.length ∧ ∃ b off, A = some ⟨b, off, none⟩ ∧ b < w.heap.size ∧ ∀ k, k < xs.length → w.cell? ⟨b, off + k, none⟩ = some (.int .i64 (xs.getD k 0))) := by
  cases xs with
  | nil => exact .inl rfl
  | cons x l => exact .inr ⟨by simp, h (by simp)⟩
/-- a slice's end: 's[k:]' -/
theorem Ints.drop {w : World} {A : Option Addr} {xs : List Int} (h : Ints w A xs) (k c : Nat) (hc : xs.length ≤ c) : Ints w (if c = k then A else A.map (·.add k)) (xs.drop k) := fun h0 => by
  rw [List.length_drop] at h0
  obtain ⟨b, off, rfl, hb, hcell⟩ := h (by omega)
  rw [if_neg (by omega)]
  refine ⟨b, off + k, ?_, hb, fun j hj => ?_⟩
  · simp only [Option.map_some, Addr.add]
    split <;> rename_i hk <;> simp_all
  · rw [List.length_drop] at hj
    have := hcell (k + j) (by omega)
    rw [Nat.add_assoc, this]
    simp [List.getD_eq_getElem?_getD, List.getElem?_drop]
end Go.Proofs.Ytaffaeompdlecaa
