/- The heap's state: one block of three fields, one row of items of three cells. No program is named here. -/
import Derived.Test.YtjllikpocfppoaaW
import Derived.Test.YtjllikpocfppoaaTt
import Derived.Laws.OwnMore
namespace Go.Proofs.Ytjllikpocfppoaa
open Go.RowKit

/-- an item: its number, its key, its id -/
abbrev It := Int × Int × Int
def enc3 (x : It) : List Value := [.int .i64 x.1, .int .i64 x.2.1, .int .i64 x.2.2]
def flat (X : List It) : List Value := X.flatMap enc3
theorem flat_nil : flat [] = [] := rfl
theorem flat_cons (x : It) (X : List It) : flat (x :: X) = .int .i64 x.1 :: .int .i64 x.2.1 :: .int .i64 x.2.2 :: flat X := rfl
theorem flat_length (X : List It) : (flat X).length = X.length * 3 := by
  induction X with
  | nil => rfl
  | cons x X ih => rw [flat_cons]; simp only [List.length_cons, ih]; omega
theorem flat_append (X Y : List It) : flat (X ++ Y) = flat X ++ flat Y := by simp [flat]
theorem flat_one (X : List It) (j : Nat) (hj : j < X.length) : (flat X)[j * 3]? = some (.int .i64 (X.getD j (0, 0, 0)).1) ∧ (flat X)[j * 3 + 1]? = some (.int .i64 (X.getD j (0, 0, 0)).2.1) ∧ (flat X)[j * 3 + 2]? = some (.int .i64 (X.getD j (0, 0, 0)).2.2) := by
  induction X generalizing j with
  | nil => simp at hj
  | cons x X ih =>
    rw [flat_cons]
    cases j with
    | zero => simp
    | succ j =>
      have := ih j (by simpa using hj)
      rw [show (j + 1) * 3 = j * 3 + 1 + 1 + 1 by omega, show j * 3 + 1 + 1 + 1 + 1 = j * 3 + 1 + 1 + 1 + 1 from rfl]
      simpa using this
theorem flat_set (X : List It) (j : Nat) (x : It) : flat (X.set j x) = (((flat X).set (j * 3) (.int .i64 x.1)).set (j * 3 + 1) (.int .i64 x.2.1)).set (j * 3 + 2) (.int .i64 x.2.2) := by
  induction X generalizing j with
  | nil => rfl
  | cons y X ih =>
    cases j with
    | zero => rfl
    | succ j =>
      rw [List.set_cons_succ, flat_cons, flat_cons, ih, show (j + 1) * 3 = j * 3 + 1 + 1 + 1 by omega]
      rfl
theorem flat_take (X : List It) (j : Nat) : flat (X.take j) = (flat X).take (j * 3) := by
  induction X generalizing j with
  | nil => simp [flat]
  | cons y X ih =>
    cases j with
    | zero => rfl
    | succ j =>
      rw [List.take_succ_cons, flat_cons, flat_cons, ih, show (j + 1) * 3 = j * 3 + 1 + 1 + 1 by omega]
      rfl

/-- the heap object at block p: its order F, its row v of the items X, its count c -/
structure HeapAt (w : World) (p : Nat) (F v : Value) (X : List It) (c : Int) : Prop where
  blk : w.heap[p]? = some (.cells #[F, v, .int .i64 c] 56)
  row : w.ownsRow 0 60 3 v X.length (flat X)
/-- the blocks that a heap object is -/
def mine (p : Nat) (v : Value) (k : Nat) : Prop := k = p ∨ v.ownBlock = some k
section
variable {w w' : World} {p : Nat} {F v : Value} {X : List It} {c : Int}
theorem HeapAt.lt (h : HeapAt w p F v X c) : p < w.heap.size := by
  rcases Nat.lt_or_ge p w.heap.size with hlt | hge
  · exact hlt
  · have := h.blk
    rw [Array.getElem?_eq_none hge] at this
    cases this
theorem HeapAt.cell (h : HeapAt w p F v X c) : w.cell? ⟨p, 0, none⟩ = some F ∧ w.cell? ⟨p, 1, none⟩ = some v ∧ w.cell? ⟨p, 2, none⟩ = some (.int .i64 c) := by
  simp [World.cell?, h.blk]
theorem HeapAt.frozen (h : HeapAt w p F v X c) (o : Nat) : w.frozen? ⟨p, o, none⟩ = false := by
  simp [World.frozen?, h.blk]
theorem HeapAt.turn {S : Nat → Prop} (h : HeapAt w p F v X c) (t : Turn S w w') (hp : ¬ S p) (hg : ∀ g, v.ownBlock = some g → ¬ S g) : HeapAt w' p F v X c := by
  refine ⟨(t.block p h.lt hp).trans h.blk, h.row.1, ?_⟩
  rcases h.row.2 with ⟨h1, h2⟩ | ⟨g, cap, cur, h1, h2, h3, h4⟩
  · exact .inl ⟨h1, h2⟩
  · refine .inr ⟨g, cap, cur, h1, h2, ?_, h4⟩
    have hgl : g < w.heap.size := by
      rcases Nat.lt_or_ge g w.heap.size with hlt | hge
      · exact hlt
      · rw [Array.getElem?_eq_none hge] at h3
        cases h3
    rw [t.block g hgl (hg g (by rw [h1]; rfl))]
    exact h3
theorem HeapAt.ext (h : HeapAt w p F v X c) (e : Ext w w') : HeapAt w' p F v X c :=
  h.turn (S := fun _ => False) (Turn.of_ext e) (fun h => h) (fun _ _ h => h)
/-- the row's form, where there is an item -/
theorem HeapAt.form (h : HeapAt w p F v X c) (h0 : 0 < X.length) : ∃ g cap, v = .slice (some ⟨g, 0, none⟩) X.length cap ∧ g ≠ p ∧ g < w.heap.size ∧ X.length ≤ cap ∧ cap ≤ maxLen := by
  rcases h.row.2 with ⟨_, h2⟩ | ⟨g, cap, cur, h1, h2, h3, h4, h5, _⟩
  · omega
  · refine ⟨g, cap, h1, ?_, ?_, h4, h5⟩
    · rintro rfl
      rw [h.blk] at h3
      injection h3 with h3
      injection h3 with _ h3
      cases h3
    · rcases Nat.lt_or_ge g w.heap.size with hlt | hge
      · exact hlt
      · rw [Array.getElem?_eq_none hge] at h3
        cases h3
theorem HeapAt.item {g cap : Nat} (h : HeapAt w p F (.slice (some ⟨g, 0, none⟩) X.length cap) X c) (j : Nat) (hj : j < X.length) :
    w.cell? ⟨g, j * 3, none⟩ = some (.int .i64 (X.getD j (0, 0, 0)).1) ∧ w.cell? ⟨g, j * 3 + 1, none⟩ = some (.int .i64 (X.getD j (0, 0, 0)).2.1) ∧ w.cell? ⟨g, j * 3 + 2, none⟩ = some (.int .i64 (X.getD j (0, 0, 0)).2.2) := by
  obtain ⟨a, b, d⟩ := flat_one X j hj
  exact ⟨(h.row.cellAt _ (by omega)).trans a, (h.row.cellAt _ (by omega)).trans b, (h.row.cellAt _ (by omega)).trans d⟩
/-- an item laid at its place -/
def lay3 (w : World) (g j : Nat) (x : It) : World := ((w.setCell ⟨g, j * 3, none⟩ (.int .i64 x.1)).setCell ⟨g, j * 3 + 1, none⟩ (.int .i64 x.2.1)).setCell ⟨g, j * 3 + 2, none⟩ (.int .i64 x.2.2)
theorem HeapAt.lay {g cap : Nat} (h : HeapAt w p F (.slice (some ⟨g, 0, none⟩) X.length cap) X c) (j : Nat) (x : It) :
    HeapAt (lay3 w g j x) p F (.slice (some ⟨g, 0, none⟩) X.length cap) (X.set j x) c ∧ Turn (mine p (.slice (some ⟨g, 0, none⟩) X.length cap)) w (lay3 w g j x) := by
  have r0 := h.row
  obtain ⟨r1, t1⟩ := r0.stored (j * 3) (.int .i64 x.1)
  obtain ⟨r2, t2⟩ := r1.stored (j * 3 + 1) (.int .i64 x.2.1)
  obtain ⟨r3, t3⟩ := r2.stored (j * 3 + 2) (.int .i64 x.2.2)
  have hg : g ≠ p := by
    rcases r0.2 with ⟨h1, _⟩ | ⟨g', cap', cur, h1, h2, h3, _⟩
    · cases h1
    · injection h1 with h1; injection h1 with h1; injection h1 with h1
      subst h1
      rintro rfl
      rw [h.blk] at h3
      injection h3 with h3
      injection h3 with _ h3
      cases h3
  have own : (Value.slice (some ⟨g, 0, none⟩) X.length cap).ownBlock = some g := rfl
  have T : ∀ {a b : World}, a.grownBy b (some g) → Turn (mine p (.slice (some ⟨g, 0, none⟩) X.length cap)) a b := fun t => Turn.grown t fun k hk _ => .inr (by rw [own, hk])
  have T' : ∀ {a b : World}, a.grownBy b (some g) → Turn (fun k => k = g) a b := fun t => Turn.grown t fun k hk _ => by injection hk with hk; exact hk.symm
  refine ⟨⟨((((T' t1).trans (T' t2)).trans (T' t3)).block p h.lt (by omega)).trans h.blk, ?_⟩, (((T t1).trans (T t2)).trans (T t3))⟩
  rw [flat_set, List.length_set]
  exact r3
end
end Go.Proofs.Ytjllikpocfppoaa
