/- Worlds that turn in some blocks alone; rows of a call's own that stay. No program is named here. -/
import Derived.Test.YtaffaeompdlecaaW
import Derived.Test.YtaffaeompdlecaaP
import Derived.Laws.OwnMore
namespace Go.Proofs.Ytaffaeompdlecaa
open Go.RowKit

/-- everything that w has is as it was, but for the blocks in S -/
structure Turn (S : Nat → Prop) (w w' : World) : Prop where
  os : w'.os = w.os
  tape : w'.tape = w.tape
  output : w'.output = w.output
  size : w.heap.size ≤ w'.heap.size
  block : ∀ b, b < w.heap.size → ¬ S b → w'.heap[b]? = w.heap[b]?
section
variable {S : Nat → Prop}
theorem Turn.refl (w : World) : Turn S w w := ⟨rfl, rfl, rfl, Nat.le_refl _, fun _ _ _ => rfl⟩
theorem Turn.of_ext {w w' : World} (h : Ext w w') : Turn S w w' :=
  ⟨h.below.os, h.below.tape, h.below.output, h.below.size, fun b hb _ => h.below.block b hb⟩
theorem Turn.trans {a b c : World} (h : Turn S a b) (h' : Turn S b c) : Turn S a c :=
  ⟨h'.os.trans h.os, h'.tape.trans h.tape, h'.output.trans h.output, Nat.le_trans h.size h'.size, fun k hk hS => (h'.block k (Nat.lt_of_lt_of_le hk h.size) hS).trans (h.block k hk hS)⟩
theorem Turn.mono {S' : Nat → Prop} {a b : World} (h : Turn S a b) (hs : ∀ k, k < a.heap.size → S k → S' k) : Turn S' a b :=
  ⟨h.os, h.tape, h.output, h.size, fun k hk hS => h.block k hk fun hk' => hS (hs k hk hk')⟩
/-- what is written may lie beyond what the first world had -/
theorem Turn.andThen {S' S'' : Nat → Prop} {a b c : World} (h : Turn S a b) (h' : Turn S' b c) (h1 : ∀ k, k < a.heap.size → S k → S'' k) (h2 : ∀ k, k < a.heap.size → S' k → S'' k) : Turn S'' a c :=
  ⟨h'.os.trans h.os, h'.tape.trans h.tape, h'.output.trans h.output, Nat.le_trans h.size h'.size, fun k hk hS =>
    (h'.block k (Nat.lt_of_lt_of_le hk h.size) fun hk' => hS (h2 k hk hk')).trans (h.block k hk fun hk' => hS (h1 k hk hk'))⟩
theorem Turn.grown {a b : World} {row : Option Nat} (h : a.grownBy b row) (hs : ∀ g, row = some g → g < a.heap.size → S g) : Turn S a b :=
  ⟨h.os, h.tape, h.output, h.size, fun k hk hS => h.block k hk fun he => hS (hs k he.symm hk)⟩
theorem Turn.setCell (w : World) {p : Addr} (hp : S p.block) (u : Value) : Turn S w (w.setCell p u) :=
  ⟨rfl, rfl, rfl, by simp [World.setCell], fun k _ hS => heap_setCell_other w p k u fun he => hS (he ▸ hp)⟩
theorem Turn.putBlock (w : World) {b : Nat} (hp : S b) (o : Obj) : Turn S w { w with heap := w.heap.setIfInBounds b o } :=
  ⟨rfl, rfl, rfl, by simp, fun k _ hS => by
    have hne : b ≠ k := fun he => hS (he ▸ hp)
    show (w.heap.setIfInBounds b o)[k]? = _
    rw [Array.getElem?_setIfInBounds_ne hne]⟩
/-- what lies below a block count that no block of S reaches is as it was -/
theorem Turn.below {a b : World} (h : Turn S a b) {n : Nat} (hn : n ≤ a.heap.size) (hs : ∀ k, S k → n ≤ k) : Below n a b :=
  ⟨h.os, h.tape, h.output, h.size, fun k hk => h.block k (Nat.lt_of_lt_of_le hk hn) fun hS => Nat.lt_irrefl _ (Nat.lt_of_lt_of_le hk (hs k hS))⟩
theorem Turn.of_below {a b : World} {n : Nat} (h : Below n a b) (hsz : a.heap.size ≤ b.heap.size) (hs : ∀ k, n ≤ k → k < a.heap.size → S k) : Turn S a b :=
  ⟨h.os, h.tape, h.output, hsz, fun k hk hS => h.block k (Nat.lt_of_not_le fun hle => hS (hs k hle hk))⟩
end
theorem lt_of_heap {w : World} {b : Nat} {o : Obj} (h : w.heap[b]? = some o) : b < w.heap.size := by
  rcases Nat.lt_or_ge b w.heap.size with hlt | hge
  · exact hlt
  · rw [Array.getElem?_eq_none hge] at h
    cases h
/-- a store of what lies there turns nothing -/
theorem setCell_id (w : World) (b i : Nat) (cs : Array Value) (t : TypeId) (fr : Nat × Nat) (v : Value) (h : w.heap[b]? = some (.cells cs t fr)) (hv : cs[i]? = some v) : w.setCell ⟨b, i, none⟩ v = w := by
  have hb := lt_of_heap h
  obtain ⟨heap, a2, a3, a4, a5⟩ := w
  simp only [World.setCell]
  congr 1
  apply Array.ext_getElem?
  intro j
  rw [Array.getElem?_modify]
  split
  · rename_i he
    subst he
    simp only at h
    rw [h]
    have hs : cs.setIfInBounds i v = cs := by
      apply Array.ext_getElem?
      intro k
      rw [Array.getElem?_setIfInBounds]
      split
      · rename_i hk
        subst hk
        rw [hv]
        simp [(Array.getElem?_eq_some_iff.1 hv).1]
      · rfl
    simp [hs]
  · rfl
theorem own_ext {w w' : World} {base : Nat} {e : TypeId} {size : Nat} {v : Value} {n : Nat} {xs : List Value} (h : w.ownsRow base e size v n xs) (x : Ext w w') : w'.ownsRow base e size v n xs :=
  own_keep h fun g hg => x.below.block g (own_old h g hg)
theorem own_obj {w : World} {base : Nat} {e : TypeId} {size : Nat} {v : Value} {n : Nat} {xs : List Value} (h : w.ownsRow base e size v n xs) : ∀ g, v.ownBlock = some g → ∃ cur, w.heap[g]? = some (.cells cur e) := by
  intro g hg
  rcases h.2 with ⟨rfl, _⟩ | ⟨g', cap, cur, rfl, hb, hh, _⟩
  · cases hg
  · have : g' = g := by simpa [Value.ownBlock] using hg
    subst this
    exact ⟨cur, hh⟩
end Go.Proofs.Ytaffaeompdlecaa
