/- Plain laws of the best style; the cells of styles. -/
import Derived.Test.YteclpmdhllmloaaE
import Derived.Test.YteclpmdhllmloaaP
namespace Go.Proofs.Yteclpmdhllmloaa
open Go.RowKit

def styCells (s : Sty) : List Value := [.int .i64 s.kind, .slice s.pA s.path.length s.pc, .int .i64 s.st, .int .i64 s.prio]
def sCells : List Sty → List Value
  | [] => []
  | s :: ss => styCells s ++ sCells ss
theorem sCells_length : ∀ ss : List Sty, (sCells ss).length = ss.length * 4
  | [] => rfl
  | s :: ss => by simp only [sCells, List.length_append, sCells_length ss, styCells, List.length_cons, List.length_nil]; omega
theorem sCells_append : ∀ ss tt : List Sty, sCells (ss ++ tt) = sCells ss ++ sCells tt
  | [], _ => rfl
  | s :: ss, tt => by simp [sCells, sCells_append ss tt]
theorem sCells_get : ∀ (ss : List Sty) (k r : Nat) (s : Sty), ss[k]? = some s → r < 4 → (sCells ss)[k * 4 + r]? = (styCells s)[r]?
  | [], k, r, s, h, _ => by simp at h
  | t :: ss, 0, r, s, h, hr => by
    obtain rfl : t = s := by simpa using h
    rw [sCells, Nat.zero_mul, Nat.zero_add, List.getElem?_append_left (by simpa [styCells] using hr)]
  | t :: ss, k + 1, r, s, h, hr => by
    have h' : ss[k]? = some s := by simpa using h
    rw [sCells, List.getElem?_append_right (by simp [styCells]; omega), ← sCells_get ss k r s h' hr]
    congr 1
    simp [styCells]
    omega
theorem sCells_of : ∀ (ss : List Sty) (j : Nat) (u : Value), (sCells ss)[j]? = some u → ∃ k s r, ss[k]? = some s ∧ r < 4 ∧ j = k * 4 + r ∧ (styCells s)[r]? = some u
  | [], j, u, h => by simp [sCells] at h
  | t :: ss, j, u, h => by
    rw [sCells, List.getElem?_append] at h
    split at h
    · rename_i hj
      exact ⟨0, t, j, rfl, by simpa [styCells] using hj, by omega, h⟩
    · rename_i hj
      obtain ⟨k, s, r, h1, h2, h3, h4⟩ := sCells_of ss _ u h
      have : 4 ≤ j := by simpa [styCells] using hj
      have h3' : j - 4 = k * 4 + r := by simpa [styCells] using h3
      exact ⟨k + 1, s, r, by simpa using h1, h2, by omega, h4⟩
theorem sCells_one (ss : List Sty) : ∀ u ∈ sCells ss, u.oneCell' = true := by
  intro u hu
  obtain ⟨j, hj, rfl⟩ := List.getElem_of_mem hu
  obtain ⟨k, s, r, h1, h2, h3, h4⟩ := sCells_of ss j _ (List.getElem?_eq_getElem hj)
  match r, h2, h4 with
  | 0, _, h4 => simp [styCells] at h4; rw [← h4]; rfl
  | 1, _, h4 => simp [styCells] at h4; rw [← h4]; rfl
  | 2, _, h4 => simp [styCells] at h4; rw [← h4]; rfl
  | 3, _, h4 => simp [styCells] at h4; rw [← h4]; rfl
theorem cells_of_styles {w : World} {A : Option Addr} {ss : List Sty} (h : Styles w A ss) : CellsAt w A (sCells ss) := fun h0 => by
  rw [sCells_length] at h0
  obtain ⟨b, off, hA, hb, hc⟩ := h (by omega)
  refine ⟨b, off, hA, hb, fun j u hj => ?_⟩
  obtain ⟨k, s, r, h1, h2, rfl, h4⟩ := sCells_of ss j u hj
  obtain ⟨c0, c1, c2, c3⟩ := hc k s h1
  match r, h2, h4 with
  | 0, _, h4 => simp [styCells] at h4; rw [← h4]; exact c0
  | 1, _, h4 => simp [styCells] at h4; rw [← h4]; exact c1
  | 2, _, h4 => simp [styCells] at h4; rw [← h4]; exact c2
  | 3, _, h4 => simp [styCells] at h4; rw [← h4]; exact c3
theorem styles_of_cells {w : World} {A : Option Addr} {ss : List Sty} (h : CellsAt w A (sCells ss)) : Styles w A ss := fun h0 => by
  obtain ⟨b, off, hA, hb, hc⟩ := h (by rw [sCells_length]; omega)
  refine ⟨b, off, hA, hb, fun k s hs => ⟨?_, ?_, ?_, ?_⟩⟩
  · exact hc (k * 4 + 0) _ (by rw [sCells_get ss k 0 s hs (by omega)]; rfl)
  · exact hc (k * 4 + 1) _ (by rw [sCells_get ss k 1 s hs (by omega)]; rfl)
  · exact hc (k * 4 + 2) _ (by rw [sCells_get ss k 2 s hs (by omega)]; rfl)
  · exact hc (k * 4 + 3) _ (by rw [sCells_get ss k 3 s hs (by omega)]; rfl)

def iCells (xs : List Int) : List Value := xs.map (Value.int .i64)
theorem cells_of_ints {w : World} {A : Option Addr} {xs : List Int} (h : Ints w A xs) : CellsAt w A (iCells xs) := fun h0 => by
  rw [iCells, List.length_map] at h0
  obtain ⟨b, off, hA, hb, hc⟩ := h h0
  refine ⟨b, off, hA, hb, fun k u hk => ?_⟩
  rw [iCells, List.getElem?_map] at hk
  cases hx : xs[k]? with
  | none => rw [hx] at hk; cases hk
  | some x =>
    rw [hx] at hk
    obtain rfl : Value.int .i64 x = u := by simpa using hk
    rw [hc k (List.getElem?_eq_some_iff.1 hx).1, List.getD_eq_getElem?_getD, hx]
    rfl
theorem ints_of_cells {w : World} {A : Option Addr} {xs : List Int} (h : CellsAt w A (iCells xs)) : Ints w A xs := fun h0 => by
  obtain ⟨b, off, hA, hb, hc⟩ := h (by rw [iCells, List.length_map]; exact h0)
  refine ⟨b, off, hA, hb, fun k hk => hc k _ ?_⟩
  rw [iCells, List.getElem?_map, List.getElem?_eq_getElem hk]
  simp [List.getD_eq_getElem?_getD, hk]
theorem iCells_one (xs : List Int) : ∀ u ∈ iCells xs, u.oneCell' = true := by
  intro u hu
  obtain ⟨x, _, rfl⟩ := List.mem_map.1 hu
  rfl

/-! the best style, as a fold -/
def stepO (kind : Int) (way : List Int) (o : Option Sty) (s : Sty) : Option Sty :=
  if matchB s kind way && (o.all fun t => decide (t.prio < s.prio)) then some s else o
def bestL (kind : Int) (way : List Int) (ss : List Sty) : Option Sty := ss.foldl (stepO kind way) none
theorem bestIx_fold (ss : List Sty) (kind : Int) (way : List Int) : ∀ k, k ≤ ss.length → (bestIx ss kind way k).bind (ss[·]?) = bestL kind way (ss.take k)
  | 0, _ => by simp [bestIx, bestL]
  | k + 1, hk => by
    have ih := bestIx_fold ss kind way k (by omega)
    have hlt : k < ss.length := by omega
    have hlt2 := bestIx_lt ss kind way k
    have e : bestL kind way (ss.take (k + 1)) = stepO kind way (bestL kind way (ss.take k)) ss[k] := by
      unfold bestL
      rw [List.take_succ_eq_append_getElem hlt, List.foldl_append]
      rfl
    rw [e, ← ih, bestIx, List.getElem?_eq_getElem hlt]
    simp only
    generalize bestIx ss kind way k = o at *
    unfold stepO
    have hb : betterB ss ss[k] o = ((o.bind (ss[·]?)).all fun t => decide (t.prio < ss[k].prio)) := by
      cases o with
      | none => rfl
      | some j =>
        obtain ⟨_, hj⟩ := hlt2 j rfl
        simp [betterB, prioAt, List.getElem?_eq_getElem hj]
    rw [hb]
    split
    · simp
    · rfl
def stO : Option Sty → Int
  | none => 0
  | some t => t.st
theorem styleF_fold (ss : List Sty) (kind : Int) (way : List Int) : styleF ss kind way = stO (bestL kind way ss) := by
  have h := bestIx_fold ss kind way ss.length (Nat.le_refl _)
  rw [List.take_length] at h
  rw [styleF, ← h]
  have hlt := bestIx_lt ss kind way ss.length
  generalize bestIx ss kind way ss.length = o at *
  cases o with
  | none => rfl
  | some j =>
    obtain ⟨_, hj⟩ := hlt j rfl
    simp [stOf, stAt, stO, List.getElem?_eq_getElem hj]

theorem fold_best (kind : Int) (way : List Int) : ∀ (ss : List Sty) (o : Option Sty),
    (∀ s ∈ ss, matchB s kind way = true → ∃ t, ss.foldl (stepO kind way) o = some t ∧ s.prio ≤ t.prio) ∧ (∀ t0, o = some t0 → ∃ t, ss.foldl (stepO kind way) o = some t ∧ t0.prio ≤ t.prio)
  | [], o => ⟨by simp, fun t0 h => ⟨t0, h, Int.le_refl _⟩⟩
  | a :: ss, o => by
    obtain ⟨i1, i2⟩ := fold_best kind way ss (stepO kind way o a)
    have hstep : (matchB a kind way = true → ∃ t, stepO kind way o a = some t ∧ a.prio ≤ t.prio) ∧ (∀ t0, o = some t0 → ∃ t, stepO kind way o a = some t ∧ t0.prio ≤ t.prio) := by
      unfold stepO
      cases o with
      | none =>
        constructor
        · intro hm
          exact ⟨a, by simp [hm], Int.le_refl _⟩
        · intro t0 h
          cases h
      | some t =>
        by_cases hp : t.prio < a.prio
        · cases hm : matchB a kind way
          · exact ⟨fun h => (by cases h), fun t0 h => ⟨t, by simp, by injection h with h; rw [h]; exact Int.le_refl _⟩⟩
          · exact ⟨fun _ => ⟨a, by simp [hp], Int.le_refl _⟩, fun t0 h => ⟨a, by simp [hp], by injection h with h; rw [← h]; omega⟩⟩
        · exact ⟨fun _ => ⟨t, by simp [hp], by omega⟩, fun t0 h => ⟨t, by simp [hp], by injection h with h; rw [h]; exact Int.le_refl _⟩⟩
    constructor
    · intro s hs hm
      rcases List.mem_cons.1 hs with rfl | hs
      · obtain ⟨t, ht, hp⟩ := hstep.1 hm
        obtain ⟨t', ht', hp'⟩ := i2 t ht
        exact ⟨t', ht', by omega⟩
      · exact i1 s hs hm
    · intro t0 h0
      obtain ⟨t, ht, hp⟩ := hstep.2 t0 h0
      obtain ⟨t', ht', hp'⟩ := i2 t ht
      exact ⟨t', ht', by omega⟩

theorem style_ahead (o : Sty) (ss : List Sty) (kind : Int) (way : List Int) (h : o.kind ≠ kind) : styleF (o :: ss) kind way = styleF ss kind way := by
  rw [styleF_fold, styleF_fold]
  simp [bestL, stepO, matchB, h]
theorem style_behind (ss : List Sty) (a s : Sty) (kind : Int) (way : List Int) (hs : s ∈ ss) (h1 : a.kind = s.kind) (h2 : a.path = s.path) (h3 : a.prio = s.prio) : styleF (ss ++ [a]) kind way = styleF ss kind way := by
  rw [styleF_fold, styleF_fold]
  have hm : matchB a kind way = matchB s kind way := by simp [matchB, h1, h2]
  have e : bestL kind way (ss ++ [a]) = stepO kind way (bestL kind way ss) a := by simp [bestL, List.foldl_append]
  rw [e]
  unfold stepO
  cases hc : matchB a kind way
  · simp
  · obtain ⟨t, ht, hp⟩ := (fold_best kind way ss none).1 s hs (by rw [← hm]; exact hc)
    have ht' : bestL kind way ss = some t := ht
    have hp' : ¬ t.prio < a.prio := by omega
    rw [ht']
    simp [hp']
theorem ends_more (ahead way path : List Int) (h : path.length ≤ way.length) : endsB (ahead ++ way) path = endsB way path := by
  unfold endsB
  rw [List.length_append, decide_eq_true h, decide_eq_true (show path.length ≤ ahead.length + way.length by omega)]
  congr 2
  rw [List.drop_append, List.drop_eq_nil_of_le (by omega), List.nil_append]
  congr 2
  omega
theorem style_more (ss : List Sty) (kind : Int) (ahead way : List Int) (h : ∀ s ∈ ss, s.path.length ≤ way.length) : styleF ss kind (ahead ++ way) = styleF ss kind way := by
  rw [styleF_fold, styleF_fold]
  congr 1
  unfold bestL
  generalize (none : Option Sty) = o
  induction ss generalizing o with
  | nil => rfl
  | cons s ss ih =>
    rw [List.foldl_cons, List.foldl_cons]
    have e : stepO kind (ahead ++ way) o s = stepO kind way o s := by
      unfold stepO matchB
      rw [ends_more ahead way s.path (h s (by simp))]
    rw [e]
    exact ih (fun t ht => h t (by simp [ht])) _
end Go.Proofs.Yteclpmdhllmloaa
