/- Plain laws of the best style; the cells of styles. -/
import Derived.Test.YtaffaeompdlecaaY2
import Derived.Test.YtaffaeompdlecaaTr
namespace Go.Proofs.Ytaffaeompdlecaa
open Go.RowKit

def styCells (s : Sty) : List Value := [.int .i64 s.kind, .slice s.pA s.path.length s.pc, .int .i64 s.st, .int .i64 s.prio]
def sCells : List Sty → List Value
  | [] => []
  | s :: ss => styCells s ++ sCells ss
theorem sCells_length : ∀ ss : List Sty, (sCells ss).length = ss.length * 4
  | [] => rfl
  | s :: ss => by simp only [sCells, List.length_append, sCells_length ss, styCells, List.length_cons, List.length_nil]; omega
theorem sCells_append : ∀ ss tt : List Sty, sCells (ss ++ tt) = sCells ss ++ sCells tt
  | [], _ => rfl
  | s :: ss, tt => by simp [sCells, sCells_append ss tt]
theorem sCells_get : ∀ (ss : List Sty) (k r : Nat) (s : Sty), ss[k]? = some s → r < 4 → (sCells ss)[k * 4 + r]? = (styCells s)[r]?
  | [], k, r, s, h, _ => by simp at h
  | t :: ss, 0, r, s, h, hr => by
    obtain rfl : t = s := by simpa using h
    rw [sCells, Nat.zero_mul, Nat.zero_add, List.getElem?_append_left (by simpa [styCells] using hr)]
  | t :: ss, k + 1, r, s, h, hr => by
    have h' : ss[k]? = some s := by simpa using h
    rw [sCells, List.getElem?_append_right (by simp [styCells]; omega), ← sCells_get ss k r s h' hr]
    congr 1
    simp [styCells]
    omega
theorem sCells_of : ∀ (ss : List Sty) (j : Nat) (u : Value), (sCells ss)[j]? = some u → ∃ k s r, ss[k]? = some s ∧ r < 4 ∧ j = k * 4 + r ∧ (styCells s)[r]? = some u
  | [], j, u, h => by simp [sCells] at h
  | t :: ss, j, u, h => by
    rw [sCells, List.getElem?_append] at h
    split at h
    · rename_i hj
      exact ⟨0, t, j, rfl, by simpa [styCells] using hj, by omega, h⟩
    · rename_i hj
      obtain ⟨k, s, r, h1, h2, h3, h4⟩ := sCells_of ss _ u h
      have : 4 ≤ j := by simpa [styCells] using hj
      have h3' : j - 4 = k * 4 + r := by simpa [styCells] using h3
      exact ⟨k + 1, s, r, by simpa using h1, h2, by omega, h4⟩
theorem sCells_one (ss : List Sty) : ∀ u ∈ sCells ss, u.oneCell' = true := by
  intro u hu
  obtain ⟨j, hj, rfl⟩ := List.getElem_of_mem hu
  obtain ⟨k, s, r, h1, h2, h3, h4⟩ := sCells_of ss j _ (List.getElem?_eq_getElem hj)
  match r, h2, h4 with
  | 0, _, h4 => simp [styCells] at h4; rw [← h4]; rfl
  | 1, _, h4 => simp [styCells] at h4; rw [← h4]; rfl
  | 2, _, h4 => simp [styCells] at h4; rw [← h4]; rfl
  | 3, _, h4 => simp [styCells] at h4; rw [← h4]; rfl
theorem cells_of_styles {w : World} {A : Option Addr} {ss : List Sty} (h : Styles w A ss) : CellsAt w A (sCells ss) := fun h0 => by
  rw [sCells_length] at h0
  obtain ⟨b, off, hA, hb, hc⟩ := h (by omega)
  refine ⟨b, off, hA, hb, fun j u hj => ?_⟩
  obtain ⟨k, s, r, h1, h2, rfl, h4⟩ := sCells_of ss j u hj
  obtain ⟨c0, c1, c2, c3⟩ := hc k s h1
  match r, h2, h4 with
  | 0, _, h4 => simp [styCells] at h4; rw [← h4]; exact c0
  | 1, _, h4 => simp [styCells] at h4; rw [← h4]; exact c1
  | 2, _, h4 => simp [styCells] at h4; rw [← h4]; exact c2
  | 3, _, h4 => simp [styCells] at h4; rw [← h4]; exact c3
theorem styles_of_cells {w : World} {A : Option Addr} {ss : List Sty} (h : CellsAt w A (sCells ss)) : Styles w A ss := fun h0 => by
  obtain ⟨b, off, hA, hb, hc⟩ := h (by rw [sCells_length]; omega)
  refine ⟨b, off, hA, hb, fun k s hs => ⟨?_, ?_, ?_, ?_⟩⟩
  · exact hc (k * 4 + 0) _ (by rw [sCells_get ss k 0 s hs (by omega)]; rfl)
  · exact hc (k * 4 + 1) _ (by rw [sCells_get ss k 1 s hs (by omega)]; rfl)
  · exact hc (k * 4 + 2) _ (by rw [sCells_get ss k 2 s hs (by omega)]; rfl)
  · exact hc (k * 4 + 3) _ (by rw [sCells_get ss k 3 s hs (by omega)]; rfl)


def stepO (kind : Int) (way : List Int) (o : Option Sty) (s : Sty) : Option Sty :=
  if matchB s kind way && (o.all fun t => decide (t.prio < s.prio)) then some s else o
def bestL (kind : Int) (way : List Int) (ss : List Sty) : Option Sty := ss.foldl (stepO kind way) none
theorem bestIx_fold (ss : List Sty) (kind : Int) (way : List Int) : ∀ k, k ≤ ss.length → (bestIx ss kind way k).bind (ss[·]?) = bestL kind way (ss.take k)
  | 0, _ => by simp [bestIx, bestL]
  | k + 1, hk => by
    have ih := bestIx_fold ss kind way k (by omega)
    have hlt : k < ss.length := by omega
    have hlt2 := bestIx_lt ss kind way k
    have e : bestL kind way (ss.take (k + 1)) = stepO kind way (bestL kind way (ss.take k)) ss[k] := by
      unfold bestL
      rw [List.take_succ_eq_append_getElem hlt, List.foldl_append]
      rfl
    rw [e, ← ih, bestIx, List.getElem?_eq_getElem hlt]
    simp only
    generalize bestIx ss kind way k = o at *
    unfold stepO
    have hb : betterB ss ss[k] o = ((o.bind (ss[·]?)).all fun t => decide (t.prio < ss[k].prio)) := by
      cases o with
      | none => rfl
      | some j =>
        obtain ⟨_, hj⟩ := hlt2 j rfl
        simp [betterB, prioAt, List.getElem?_eq_getElem hj]
    rw [hb]
    split
    · simp
    · rfl
def stO : Option Sty → Int
  | none => 0
  | some t => t.st
theorem styleF_fold (ss : List Sty) (kind : Int) (way : List Int) : styleF ss kind way = stO (bestL kind way ss) := by
  have h := bestIx_fold ss kind way ss.length (Nat.le_refl _)
  rw [List.take_length] at h
  rw [styleF, ← h]
  have hlt := bestIx_lt ss kind way ss.length
  generalize bestIx ss kind way ss.length = o at *
  cases o with
  | none => rfl
  | some j =>
    obtain ⟨_, hj⟩ := hlt j rfl
    simp [stOf, stAt, stO, List.getElem?_eq_getElem hj]

theorem fold_best (kind : Int) (way : List Int) : ∀ (ss : List Sty) (o : Option Sty),
    (∀ s ∈ ss, matchB s kind way = true → ∃ t, ss.foldl (stepO kind way) o = some t ∧ s.prio ≤ t.prio) ∧ (∀ t0, o = some t0 → ∃ t, ss.foldl (stepO kind way) o = some t ∧ t0.prio ≤ t.prio)
  | [], o => ⟨by simp, fun t0 h => ⟨t0, h, Int.le_refl _⟩⟩
  | a :: ss, o => by
    obtain ⟨i1, i2⟩ := fold_best kind way ss (stepO kind way o a)
    have hstep : (matchB a kind way = true → ∃ t, stepO kind way o a = some t ∧ a.prio ≤ t.prio) ∧ (∀ t0, o = some t0 → ∃ t, stepO kind way o a = some t ∧ t0.prio ≤ t.prio) := by
      unfold stepO
      cases o with
      | none =>
        constructor
        · intro hm
          exact ⟨a, by simp [hm], Int.le_refl _⟩
        · intro t0 h
          cases h
      | some t =>
        by_cases hp : t.prio < a.prio
        · cases hm : matchB a kind way
          · exact ⟨fun h => (by cases h), fun t0 h => ⟨t, by simp, by injection h with h; rw [h]; exact Int.le_refl _⟩⟩
          · exact ⟨fun _ => ⟨a, by simp [hp], Int.le_refl _⟩, fun t0 h => ⟨a, by simp [hp], by injection h with h; rw [← h]; omega⟩⟩
        · exact ⟨fun _ => ⟨t, by simp [hp], by omega⟩, fun t0 h => ⟨t, by simp [hp], by injection h with h; rw [h]; exact Int.le_refl _⟩⟩
    constructor
    · intro s hs hm
      rcases List.mem_cons.1 hs with rfl | hs
      · obtain ⟨t, ht, hp⟩ := hstep.1 hm
        obtain ⟨t', ht', hp'⟩ := i2 t ht
        exact ⟨t', ht', by omega⟩
      · exact i1 s hs hm
    · intro t0 h0
      obtain ⟨t, ht, hp⟩ := hstep.2 t0 h0
      obtain ⟨t', ht', hp'⟩ := i2 t ht
      exact ⟨t', ht', by omega⟩

theorem style_ahead (o : Sty) (ss : List Sty) (kind : Int) (way : List Int) (h : o.kind ≠ kind) : styleF (o :: ss) kind way = styleF ss kind way := by
  rw [styleF_fold, styleF_fold]
  simp [bestL, stepO, matchB, h]
theorem style_behind (ss : List Sty) (a s : Sty) (kind : Int) (way : List Int) (hs : s ∈ ss) (h1 : a.kind = s.kind) (h2 : a.path = s.path) (h3 : a.prio = s.prio) : styleF (ss ++ [a]) kind way = styleF ss kind way := by
  rw [styleF_fold, styleF_fold]
  have hm : matchB a kind way = matchB s kind way := by simp [matchB, h1, h2]
  have e : bestL kind way (ss ++ [a]) = stepO kind way (bestL kind way ss) a := by simp [bestL, List.foldl_append]
  rw [e]
  unfold stepO
  cases hc : matchB a kind way
  · simp
  · obtain ⟨t, ht, hp⟩ := (fold_best kind way ss none).1 s hs (by rw [← hm]; exact hc)
    have ht' : bestL kind way ss = some t := ht
    have hp' : ¬ t.prio < a.prio := by omega
    rw [ht']
    simp [hp']
theorem ends_more (ahead way path : List Int) (h : path.length ≤ way.length) : endsB (ahead ++ way) path = endsB way path := by
  unfold endsB
  rw [List.length_append, decide_eq_true h, decide_eq_true (show path.length ≤ ahead.length + way.length by omega)]
  congr 2
  rw [List.drop_append, List.drop_eq_nil_of_le (by omega), List.nil_append]
  congr 2
  omega
theorem style_more (ss : List Sty) (kind : Int) (ahead way : List Int) (h : ∀ s ∈ ss, s.path.length ≤ way.length) : styleF ss kind (ahead ++ way) = styleF ss kind way := by
  rw [styleF_fold, styleF_fold]
  congr 1
  unfold bestL
  generalize (none : Option Sty) = o
  induction ss generalizing o with
  | nil => rfl
  | cons s ss ih =>
    rw [List.foldl_cons, List.foldl_cons]
    have e : stepO kind (ahead ++ way) o s = stepO kind way o s := by
      unfold stepO matchB
      rw [ends_more ahead way s.path (h s (by simp))]
    rw [e]
    exact ih (fun t ht => h t (by simp [ht])) _
theorem bestL_mem (kind : Int) (way : List Int) : ∀ (ss : List Sty) (o : Option Sty) (t : Sty), ss.foldl (stepO kind way) o = some t → t ∈ ss ∨ o = some t
  | [], _, _, h => .inr h
  | a :: ss, o, t, h => by
    rcases bestL_mem kind way ss _ t h with h1 | h1
    · exact .inl (List.mem_cons_of_mem _ h1)
    · unfold stepO at h1
      split at h1
      · injection h1 with h1
        exact .inl (h1 ▸ List.mem_cons_self ..)
      · exact .inr h1
/-- one behind that matches, and counts more than all -/
theorem style_last (ss : List Sty) (s : Sty) (kind : Int) (way : List Int) (hm : matchB s kind way = true) (hp : ∀ t ∈ ss, t.prio < s.prio) : styleF (ss ++ [s]) kind way = s.st := by
  rw [styleF_fold]
  have e : bestL kind way (ss ++ [s]) = stepO kind way (bestL kind way ss) s := by simp [bestL, List.foldl_append]
  rw [e]
  unfold stepO
  have h : ((bestL kind way ss).all fun t => decide (t.prio < s.prio)) = true := by
    cases ho : bestL kind way ss with
    | none => rfl
    | some t =>
      rcases bestL_mem kind way ss none t ho with h1 | h1
      · simpa using hp t h1
      · cases h1
  rw [hm, h]
  rfl
theorem ends_self (us : List Int) (k : Nat) : endsB us (us.drop k) = true := by
  unfold endsB
  rw [List.length_drop, decide_eq_true (by omega), Bool.true_and, decide_eq_true_eq]
  rcases Nat.lt_or_ge k us.length with h | h
  · congr 1
    omega
  · rw [List.drop_eq_nil_of_le (by omega), List.drop_eq_nil_of_le h]
end Go.Proofs.Ytaffaeompdlecaa
