/- Trees as lists: what is cut out is a tree; what is put together is one. No program is named here. -/
import Derived.Test.YtaffaeompdlecaaNp
namespace Go.Proofs.Ytaffaeompdlecaa

theorem liesB_map {l l' : List Nd} {f : Int → Int} {hi : Int} : ∀ (ks : List Int) (a : Int), (∀ k ∈ ks, ∀ q, l[k.toNat]? = some q → ∃ q', l'[(f k).toNat]? = some q' ∧ q'.lo = q.lo ∧ q'.hi = q.hi) →
    liesB l hi a ks = true → liesB l' hi a (ks.map f) = true
  | [], a, _, h => h
  | k :: ks, a, hc, h => by
    rw [List.map_cons]
    unfold liesB at h ⊢
    cases hq : l[k.toNat]? with
    | none => rw [hq] at h; cases h
    | some q =>
      rw [hq] at h
      obtain ⟨q', h1, h2, h3⟩ := hc k (List.mem_cons_self ..) q hq
      rw [h1]
      simp only [Bool.and_eq_true] at h ⊢
      rw [h2, h3]
      exact ⟨h.1, liesB_map ks q.hi (fun k hk => hc k (List.mem_cons_of_mem _ hk)) h.2⟩

/-- a part's place in a tree: its walk ends at m -/
structure Part (l : List Nd) (i m : Nat) : Prop where
  lt : i < l.length
  trek : Trek l [(i : Int)] i true m
  le : m ≤ l.length
theorem Tree.part {l : List Nd} (h : Tree l) {i : Nat} (hi : i < l.length) : ∃ m, Part l i m := by
  obtain ⟨p, m, a, b, c⟩ := h.at hi
  exact ⟨m, hi, Trek.one a b, c⟩
theorem Part.lt_end {l : List Nd} {i m : Nat} (h : Part l i m) : i < m := by
  obtain ⟨p, m1, a, b, c, _⟩ := h.trek.nest (List.mem_singleton.2 rfl)
  have := b.le.1
  omega
/-- the kids of the parts in a part lie in it, and behind its own place -/
theorem Part.kid_in {l : List Nd} {i m : Nat} (h : Part l i m) {j : Nat} (h1 : i ≤ j) (h2 : j < m) {p : Nd} (hp : l[j]? = some p) : ∀ k ∈ p.kids, ∃ c : Nat, k = (c : Int) ∧ j < c ∧ c < m := by
  intro k hk
  obtain ⟨q, m1, a, b, c⟩ := h.trek.inside rfl j h1 h2
  rw [hp] at a
  cases a
  obtain ⟨c', e1, e2, e3⟩ := b.kid rfl k hk
  exact ⟨c', e1, by omega, by omega⟩
/-- the kids of a part ahead of a part's place are not in it, but for the part itself -/
theorem Part.kid_ahead {l : List Nd} (T : Tree l) {i m : Nat} (h : Part l i m) {j : Nat} (h1 : j < i) {p : Nd} (hp : l[j]? = some p) : ∀ k ∈ p.kids, ∃ c : Nat, k = (c : Int) ∧ j < c ∧ c < l.length ∧ (c ≤ i ∨ m ≤ c) := by
  intro k hk
  obtain ⟨q, m1, a, b, c⟩ := T.at (lt_of_get hp)
  rw [hp] at a
  cases a
  obtain ⟨c', e1, e2, e3⟩ := b.kid rfl k hk
  refine ⟨c', e1, by omega, by omega, ?_⟩
  rcases Nat.lt_or_ge i c' with hlt | hge
  · rcases Nat.lt_or_ge c' m with hm | hm
    · exfalso
      rcases h.trek.whose rfl c' (by omega) hm with he | ⟨j', p', f1, f2, f3, f4⟩
      · have := List.mem_singleton.1 he
        omega
      · have := T.up_one (i := c') (j := j) (j' := j') ⟨p, hp, by rw [← e1]; exact hk⟩ ⟨p', f3, f4⟩
        omega
    · exact .inr hm
  · exact .inl hge
/-- the kids of a part behind a part lie behind it -/
theorem Tree.kid_behind {l : List Nd} (T : Tree l) {j : Nat} {p : Nd} (hp : l[j]? = some p) : ∀ k ∈ p.kids, ∃ c : Nat, k = (c : Int) ∧ j < c ∧ c < l.length := by
  intro k hk
  obtain ⟨q, m1, a, b, c⟩ := T.at (lt_of_get hp)
  rw [hp] at a
  cases a
  obtain ⟨c', e1, e2, e3⟩ := b.kid rfl k hk
  exact ⟨c', e1, by omega, by omega⟩

theorem Tree.sub {l : List Nd} (T : Tree l) {i m : Nat} (h : Part l i m) : Tree (subF l i m) := by
  have hlen := len_sub (i := i) h.le
  have hlt := h.lt_end
  have hget : ∀ j q, (subF l i m)[j]? = some q → j < m - i ∧ ∃ p, l[i + j]? = some p ∧ q = p.by (· + -(i : Int)) := by
    intro j q hq
    have hj := lt_of_get hq
    rw [hlen] at hj
    rw [get_sub hj] at hq
    cases hp : l[i + j]? with
    | none => rw [hp] at hq; cases hq
    | some p => rw [hp] at hq; exact ⟨hj, p, rfl, by injection hq with hq; exact hq.symm⟩
  refine ⟨?_, ?_, ?_⟩
  · intro j q hq
    obtain ⟨hj, p, hp, rfl⟩ := hget j q hq
    obtain ⟨a, b⟩ := T.bare _ _ hp
    exact ⟨a.by _, fun h0 => b (by omega)⟩
  · have := h.trek.shift (l' := subF l i m) (d := -(i : Int)) rfl 0 (m - i) (by omega) (by omega) (by
      intro j j' a b c
      obtain ⟨p, m1, hp, _⟩ := h.trek.inside rfl j a b
      refine ⟨p, hp, p.by (· + -(i : Int)), ?_, rfl⟩
      rw [get_sub (by omega), show i + j' = j by omega, hp]
      rfl)
    rw [hlen]
    have e : [(i : Int)].map (· + -(i : Int)) = [0] := by
      simp only [List.map_cons, List.map_nil]
      congr 1
      omega
    rw [e] at this
    exact this
  · intro q hq
    obtain ⟨j, hj, hjq⟩ := List.getElem_of_mem hq
    obtain ⟨hj', p, hp, rfl⟩ := hget j q (by rw [List.getElem?_eq_getElem hj, hjq])
    refine liesB_map (l := l) p.kids p.lo ?_ (T.lies p (List.mem_of_getElem? hp))
    intro k hk q hq
    obtain ⟨c, rfl, h1, h2⟩ := h.kid_in (by omega) (by omega) hp k hk
    rw [Int.toNat_natCast] at hq
    refine ⟨q.by (· + -(i : Int)), ?_, rfl, rfl⟩
    rw [show ((c : Int) + -(i : Int)).toNat = c - i by omega, get_sub (by omega), show i + (c - i) = c by omega, hq]
    rfl

section
variable {l s : List Nd} {i m : Nat}
theorem get_put_ahead (hi : i ≤ l.length) {j : Nat} (hj : j < i) : (putF l i m s)[j]? = (l[j]?).map (Nd.by (aheadK i ((s.length : Int) - ((m : Int) - i)))) := by
  unfold putF
  rw [List.getElem?_append_left (by rw [List.length_map, List.length_take]; omega), List.getElem?_map, List.getElem?_take_of_lt hj]
theorem get_put_in (hi : i ≤ l.length) {j : Nat} (hj : j < s.length) : (putF l i m s)[i + j]? = (s[j]?).map (Nd.by (· + (i : Int))) := by
  unfold putF
  rw [List.getElem?_append_right (by rw [List.length_map, List.length_take]; omega), List.length_map, List.length_take, List.getElem?_append_left (by unfold movedF; rw [List.length_map]; omega),
    show i + j - min i l.length = j by omega, get_moved]
theorem get_put_behind (hi : i ≤ l.length) (j : Nat) : (putF l i m s)[i + s.length + j]? = (l[m + j]?).map (Nd.by (· + ((s.length : Int) - ((m : Int) - i)))) := by
  unfold putF
  rw [List.getElem?_append_right (by rw [List.length_map, List.length_take]; omega), List.length_map, List.length_take, List.getElem?_append_right (by unfold movedF; rw [List.length_map]; omega)]
  have : (movedF (i : Int) s).length = s.length := by unfold movedF; rw [List.length_map]
  rw [this, show i + s.length + j - min i l.length - s.length = j by omega, get_moved, List.getElem?_drop]
theorem len_put (hi : i ≤ l.length) (hm : m ≤ l.length) : (putF l i m s).length = i + s.length + (l.length - m) := by
  unfold putF movedF
  simp only [List.length_append, List.length_map, List.length_take, List.length_drop]
  omega
/-- where a part of what was put together comes from -/
theorem put_cases (hi : i ≤ l.length) {j : Nat} {q : Nd} (hq : (putF l i m s)[j]? = some q) :
    (j < i ∧ ∃ p, l[j]? = some p ∧ q = p.by (aheadK i ((s.length : Int) - ((m : Int) - i)))) ∨
    (∃ c, j = i + c ∧ c < s.length ∧ ∃ p, s[c]? = some p ∧ q = p.by (· + (i : Int))) ∨
    (∃ c, j = i + s.length + c ∧ ∃ p, l[m + c]? = some p ∧ q = p.by (· + ((s.length : Int) - ((m : Int) - i)))) := by
  have key : ∀ {o : Option Nd} {f : Int → Int}, o.map (Nd.by f) = some q → ∃ p, o = some p ∧ q = p.by f := by
    intro o f h
    cases o with
    | none => cases h
    | some p => exact ⟨p, rfl, by injection h with h; exact h.symm⟩
  rcases Nat.lt_or_ge j i with h | h
  · rw [get_put_ahead hi h] at hq
    exact .inl ⟨h, key hq⟩
  · rcases Nat.lt_or_ge j (i + s.length) with h' | h'
    · obtain ⟨c, rfl⟩ : ∃ c, j = i + c := ⟨j - i, by omega⟩
      rw [get_put_in hi (by omega)] at hq
      exact .inr (.inl ⟨c, rfl, by omega, key hq⟩)
    · obtain ⟨c, rfl⟩ : ∃ c, j = i + s.length + c := ⟨j - (i + s.length), by omega⟩
      rw [get_put_behind hi] at hq
      exact .inr (.inr ⟨c, rfl, key hq⟩)
theorem Part.of_put (h : Part l i m) (S : Tree s) : Part (putF l i m s) i (i + s.length) := by
  have hp := S.pos
  have hl := len_put (s := s) (Nat.le_of_lt h.lt) h.le
  refine ⟨by omega, ?_, by omega⟩
  have := S.trek.shift (l' := putF l i m s) (d := (i : Int)) rfl i (i + s.length) (by omega) (by omega) (by
    intro j j' a b c
    obtain ⟨p, m1, hp, _⟩ := S.trek.inside rfl j a b
    refine ⟨p, hp, p.by (· + (i : Int)), ?_, rfl⟩
    rw [show j' = i + j by omega, get_put_in (Nat.le_of_lt h.lt) b, hp]
    rfl)
  simpa using this
theorem Tree.put (T : Tree l) (h : Part l i m) (S : Tree s) {p q : Nd} (hp : l[i]? = some p) (hq : s[0]? = some q) (e1 : q.kind = p.kind) (e2 : q.lo = p.lo) (e3 : q.hi = p.hi) : Tree (putF l i m s) := by
  have hi := Nat.le_of_lt h.lt
  have hlt := h.lt_end
  have hl := len_put (s := s) hi h.le
  have hle := h.le
  have hs := S.pos
  refine ⟨?_, ?_, ?_⟩
  · intro j x hx
    rcases put_cases hi hx with ⟨hj, y, hy, rfl⟩ | ⟨c, rfl, hc, y, hy, rfl⟩ | ⟨c, rfl, y, hy, rfl⟩
    · obtain ⟨a, b⟩ := T.bare _ _ hy
      exact ⟨a.by _, b⟩
    · obtain ⟨a, b⟩ := S.bare _ _ hy
      refine ⟨a.by _, fun h0 => ?_⟩
      rcases Nat.eq_zero_or_pos c with rfl | hc0
      · rw [hq] at hy
        cases hy
        rw [Nd.by_kind, e1]
        exact (T.bare i p hp).2 (by omega)
      · exact b hc0
    · obtain ⟨a, b⟩ := T.bare _ _ hy
      exact ⟨a.by _, fun _ => b (by omega)⟩
  · have := Trek.put (l := l) (l' := putF l i m s) (m' := i + s.length) (d := (s.length : Int) - ((m : Int) - i)) (by omega) h.trek (h.of_put S).trek
      (by
        intro j hj y hy
        refine ⟨_, (get_put_ahead hi hj).trans (by rw [hy]; rfl), rfl⟩)
      (by
        intro j j' hj hj' y hy
        obtain ⟨c, rfl⟩ : ∃ c, j = m + c := ⟨j - m, by omega⟩
        refine ⟨_, (by rw [show j' = i + s.length + c by omega]; exact (get_put_behind hi c).trans (by rw [hy]; rfl)), rfl⟩)
      T.trek rfl (Nat.zero_le _) h.lt (putF l i m s).length (by omega)
    have e : [(0 : Int)].map (aheadK (i : Int) ((s.length : Int) - ((m : Int) - i))) = [0] := by
      simp only [List.map_cons, List.map_nil, aheadK]
      rw [if_neg (by omega)]
    rw [e] at this
    exact this
  · intro x hx
    obtain ⟨j, hj, hjx⟩ := List.getElem_of_mem hx
    have hx' : (putF l i m s)[j]? = some x := by rw [List.getElem?_eq_getElem hj, hjx]
    rcases put_cases hi hx' with ⟨hj, y, hy, rfl⟩ | ⟨c, rfl, hc, y, hy, rfl⟩ | ⟨c, rfl, y, hy, rfl⟩
    · refine liesB_map (l := l) y.kids y.lo ?_ (T.lies y (List.mem_of_getElem? hy))
      intro k hk z hz
      obtain ⟨c, rfl, c1, c2, c3⟩ := h.kid_ahead T hj hy k hk
      rw [Int.toNat_natCast] at hz
      simp only [aheadK]
      rcases c3 with c3 | c3
      · rw [if_neg (by omega), Int.toNat_natCast]
        rcases Nat.eq_or_lt_of_le c3 with rfl | c4
        · rw [hp] at hz
          cases hz
          have g := get_put_in (l := l) (s := s) (m := m) hi hs
          rw [Nat.add_zero, hq] at g
          exact ⟨_, g, e2, e3⟩
        · refine ⟨z.by _, (get_put_ahead hi c4).trans (by rw [hz]; rfl), rfl, rfl⟩
      · rw [if_pos (by omega)]
        obtain ⟨c', rfl⟩ : ∃ c', c = m + c' := ⟨c - m, by omega⟩
        refine ⟨z.by _, (by rw [show ((m + c' : Nat) + ((s.length : Int) - ((m : Int) - i)) : Int).toNat = i + s.length + c' by omega]; exact (get_put_behind hi c').trans (by rw [hz]; rfl)), rfl, rfl⟩
    · refine liesB_map (l := s) y.kids y.lo ?_ (S.lies y (List.mem_of_getElem? hy))
      intro k hk z hz
      obtain ⟨c', rfl, c1, c2⟩ := S.kid_behind hy k hk
      rw [Int.toNat_natCast] at hz
      refine ⟨z.by _, (by rw [show ((c' : Int) + (i : Int)).toNat = i + c' by omega]; exact (get_put_in hi c2).trans (by rw [hz]; rfl)), rfl, rfl⟩
    · refine liesB_map (l := l) y.kids y.lo ?_ (T.lies y (List.mem_of_getElem? hy))
      intro k hk z hz
      obtain ⟨c', rfl, c1, c2⟩ := T.kid_behind hy k hk
      rw [Int.toNat_natCast] at hz
      obtain ⟨c2', rfl⟩ : ∃ c2', c' = m + c2' := ⟨c' - m, by omega⟩
      refine ⟨z.by _, (by rw [show ((m + c2' : Nat) + ((s.length : Int) - ((m : Int) - i)) : Int).toNat = i + s.length + c2' by omega]; exact (get_put_behind hi c2').trans (by rw [hz]; rfl)), rfl, rfl⟩
/-- cut out of what was put it is what was put -/
theorem sub_put (hi : i ≤ l.length) (hm : m ≤ l.length) : subF (putF l i m s) i (i + s.length) = s := by
  apply List.ext_getElem?
  intro j
  have hl := len_put (s := s) hi hm
  have hls : (subF (putF l i m s) i (i + s.length)).length = s.length := by rw [len_sub (by omega)]; omega
  rcases Nat.lt_or_ge j s.length with hj | hj
  · rw [get_sub (by omega), get_put_in hi hj, Option.map_map]
    cases s[j]? with
    | none => rfl
    | some p =>
      simp only [Option.map_some, Function.comp_apply, Nd.by_by]
      congr 1
      exact Nd.by_id fun k _ => by omega
  · rw [List.getElem?_eq_none (by omega), List.getElem?_eq_none hj]
/-- put back it is as it was -/
theorem put_put (T : Tree l) (h : Part l i m) (hs : 0 < s.length) : putF (putF l i m s) i (i + s.length) (subF l i m) = l := by
  apply List.ext_getElem?
  intro j
  have hi := Nat.le_of_lt h.lt
  have hlt := h.lt_end
  have hle := h.le
  have hl := len_put (s := s) hi h.le
  have hsub := len_sub (i := i) h.le
  have hl2 := len_put (l := putF l i m s) (s := subF l i m) (i := i) (m := i + s.length) (by omega) (by omega)
  rcases Nat.lt_or_ge j i with hj | hj
  · rw [get_put_ahead (by omega) hj, get_put_ahead hi hj, Option.map_map]
    cases hp : l[j]? with
    | none => rfl
    | some p =>
      simp only [Option.map_some, Function.comp_apply, Nd.by_by]
      congr 1
      refine Nd.by_id fun k hk => ?_
      obtain ⟨c, rfl, c1, c2, c3⟩ := h.kid_ahead T hj hp k hk
      rw [hsub]
      rcases c3 with c3 | c3
      · have e : aheadK (i : Int) ((s.length : Int) - ((m : Int) - i)) (c : Int) = (c : Int) := if_neg (by omega)
        rw [e]
        exact if_neg (by omega)
      · have e : aheadK (i : Int) ((s.length : Int) - ((m : Int) - i)) (c : Int) = (c : Int) + ((s.length : Int) - ((m : Int) - i)) := if_pos (by omega)
        rw [e]
        refine (if_pos (by omega)).trans ?_
        omega
  · rcases Nat.lt_or_ge j m with hm | hm
    · obtain ⟨c, rfl⟩ : ∃ c, j = i + c := ⟨j - i, by omega⟩
      rw [get_put_in (by omega) (by omega), get_sub (by omega), Option.map_map]
      cases l[i + c]? with
      | none => rfl
      | some p =>
        simp only [Option.map_some, Function.comp_apply, Nd.by_by]
        congr 1
        exact Nd.by_id fun k _ => by omega
    · obtain ⟨c, rfl⟩ : ∃ c, j = m + c := ⟨j - m, by omega⟩
      have g := get_put_behind (l := putF l i m s) (s := subF l i m) (i := i) (m := i + s.length) (by omega) c
      rw [hsub, show i + (m - i) + c = m + c by omega, get_put_behind hi, Option.map_map] at g
      rw [g]
      cases l[m + c]? with
      | none => rfl
      | some p =>
        simp only [Option.map_some, Function.comp_apply, Nd.by_by]
        congr 1
        exact Nd.by_id fun k _ => by omega
/-- put of what was cut out changes nothing -/
theorem put_sub (h : Part l i m) : putF l i m (subF l i m) = l := by
  apply List.ext_getElem?
  intro j
  have hi := Nat.le_of_lt h.lt
  have hlt := h.lt_end
  have hle := h.le
  have hsub := len_sub (i := i) h.le
  have hid : ∀ {f : Int → Int} (o : Option Nd), (∀ k, f k = k) → o.map (Nd.by f) = o := by
    intro f o hf
    cases o with
    | none => rfl
    | some p => exact congrArg some (Nd.by_id fun k _ => hf k)
  rcases Nat.lt_or_ge j i with hj | hj
  · rw [get_put_ahead hi hj]
    refine hid _ fun k => ?_
    rw [hsub]
    simp only [aheadK]
    split <;> omega
  · rcases Nat.lt_or_ge j m with hm | hm
    · obtain ⟨c, rfl⟩ : ∃ c, j = i + c := ⟨j - i, by omega⟩
      rw [get_put_in hi (by omega), get_sub (by omega), Option.map_map]
      cases l[i + c]? with
      | none => rfl
      | some p =>
        simp only [Option.map_some, Function.comp_apply, Nd.by_by]
        congr 1
        exact Nd.by_id fun k _ => by omega
    · obtain ⟨c, rfl⟩ : ∃ c, j = m + c := ⟨j - m, by omega⟩
      have g := get_put_behind (l := l) (s := subF l i m) (i := i) (m := m) hi c
      rw [hsub, show i + (m - i) + c = m + c by omega] at g
      rw [g]
      exact hid _ fun k => by omega
end
end Go.Proofs.Ytaffaeompdlecaa
