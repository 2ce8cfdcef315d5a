/- Trees as lists: whose a part is, its way, what is stale. No program is named here. -/
import Derived.Test.YtaffaeompdlecaaNe
namespace Go.Proofs.Ytaffaeompdlecaa

def ParOk (l : List Nd) (us : List Int) : Prop := us.length = l.length ∧ us[0]? = some (-1) ∧ ∀ i j : Nat, Up l i j → us[i]? = some (j : Int)
theorem Tree.up' {l : List Nd} (T : Tree l) {i : Nat} (h0 : 0 < i) (hi : i < l.length) : ∃ j, Up l i j ∧ j < i := by
  obtain ⟨j, p, a, b, c⟩ := T.up h0 hi
  exact ⟨j, ⟨p, b, c⟩, a⟩
theorem ParOk.one {l : List Nd} {a b : List Int} (T : Tree l) (ha : ParOk l a) (hb : ParOk l b) : a = b := by
  apply List.ext_getElem?
  intro i
  rcases Nat.lt_or_ge i l.length with h | h
  · rcases Nat.eq_zero_or_pos i with rfl | h0
    · rw [ha.2.1, hb.2.1]
    · obtain ⟨j, hu, _⟩ := T.up' h0 h
      rw [ha.2.2 i j hu, hb.2.2 i j hu]
  · rw [List.getElem?_eq_none (by have := ha.1; omega), List.getElem?_eq_none (by have := hb.1; omega)]
/-- the symbols on the way to a part -/
inductive Way (l : List Nd) : Nat → List Int → Prop
  | root (p : Nd) : l[0]? = some p → Way l 0 [p.sym]
  | step (i j : Nat) (p : Nd) (ws : List Int) : Up l i j → l[i]? = some p → Way l j ws → Way l i (ws ++ [p.sym])
theorem Way.all {l : List Nd} (T : Tree l) : ∀ (n i : Nat), i ≤ n → i < l.length → ∃ ws, Way l i ws := by
  intro n
  induction n with
  | zero =>
    intro i hi hl
    obtain rfl : i = 0 := by omega
    exact ⟨_, .root _ (List.getElem?_eq_getElem hl)⟩
  | succ n ih =>
    intro i hi hl
    rcases Nat.eq_zero_or_pos i with rfl | h0
    · exact ⟨_, .root _ (List.getElem?_eq_getElem hl)⟩
    · obtain ⟨j, hu, hj⟩ := T.up' h0 hl
      obtain ⟨ws, hw⟩ := ih j (by omega) (by omega)
      exact ⟨_, .step i j _ ws hu (List.getElem?_eq_getElem hl) hw⟩
theorem Way.det {l : List Nd} (T : Tree l) {i : Nat} {a : List Int} (h : Way l i a) : ∀ {b : List Int}, Way l i b → b = a := by
  induction h with
  | root p hp =>
    intro b hb
    cases hb with
    | root q hq => rw [hp] at hq; cases hq; rfl
    | step _ j q ws hu _ _ => have := T.up_lt hu; omega
  | step i j p ws hu hp _ ih =>
    intro b hb
    cases hb with
    | root q hq => have := T.up_lt hu; omega
    | step _ j' q ws' hu' hq hw' =>
      have := T.up_one hu hu'
      subst this
      rw [hp] at hq
      cases hq
      rw [ih hw']
theorem Way.ends {l : List Nd} {i : Nat} {ws : List Int} (h : Way l i ws) : ∃ p us, l[i]? = some p ∧ ws = us ++ [p.sym] := by
  cases h with
  | root p hp => exact ⟨p, [], hp, rfl⟩
  | step _ j p us hu hp _ => exact ⟨p, us, hp, rfl⟩
theorem Way.length {l : List Nd} (T : Tree l) {i : Nat} {ws : List Int} (h : Way l i ws) : ws.length ≤ i + 1 := by
  induction h with
  | root p hp => simp
  | step i j p ws hu hp _ ih =>
    have := T.up_lt hu
    rw [List.length_append]
    simp only [List.length_singleton]
    omega
/-- what is behind a part ends in whose it is -/
theorem Part.nest {l : List Nd} {i j m m' : Nat} (h : Part l i m) (h' : Part l j m') (hu : Up l i j) : m ≤ m' := by
  obtain ⟨p, hp, hk⟩ := hu
  have t := Trek.ofOne hp h'.trek
  obtain ⟨q, m2, a, b, c, _⟩ := t.nest hk
  have := (h.trek.det (Trek.one a b)).2
  omega
theorem Part.det {l : List Nd} {i m m' : Nat} (h : Part l i m) (h' : Part l i m') : m' = m := (h.trek.det h'.trek).2
/-- down by the last kids: the end is the same -/
theorem Part.last {l : List Nd} {i m : Nat} (h : Part l i m) {p : Nd} (hp : l[i]? = some p) {k : Int} (hk : p.kids.getLast? = some k) : ∃ c : Nat, k = (c : Int) ∧ i < c ∧ Part l c m := by
  have t := Trek.ofOne hp h.trek
  obtain ⟨ks, e⟩ : ∃ ks, p.kids = ks ++ [k] := ⟨p.kids.dropLast, by
    have hne : p.kids ≠ [] := by intro h0; rw [h0] at hk; cases hk
    rw [List.getLast?_eq_some_getLast hne] at hk
    injection hk with hk
    rw [← hk]
    exact (List.dropLast_concat_getLast hne).symm⟩
  rw [e] at t
  obtain ⟨m1, t1, t2⟩ := t.split ks
  obtain ⟨rfl, hl⟩ := t2.first
  have := t1.le.1
  exact ⟨m1, rfl, by omega, hl, t2, h.le⟩
theorem Part.leaf {l : List Nd} {i m : Nat} (h : Part l i m) {p : Nd} (hp : l[i]? = some p) (hk : p.kids = []) : m = i + 1 := by
  have t := Trek.ofOne hp h.trek
  rw [hk] at t
  cases t
  rfl

/-- of each part, is it stale -/
def StaleOk (l : List Nd) (st : List Bool) : Prop := st.length = l.length ∧ ∀ (j : Nat) (p : Nd), l[j]? = some p → st[j]? = some (decide (p.met ≠ 0) || p.kids.any fun k => (st[k.toNat]?).getD false)
theorem any_congr' {ks : List Int} {f g : Int → Bool} (h : ∀ k ∈ ks, f k = g k) : ks.any f = ks.any g := by
  induction ks with
  | nil => rfl
  | cons k ks ih => rw [List.any_cons, List.any_cons, h k (List.mem_cons_self ..), ih fun k hk => h k (List.mem_cons_of_mem _ hk)]
theorem StaleOk.one {l : List Nd} {a b : List Bool} (T : Tree l) (ha : StaleOk l a) (hb : StaleOk l b) : a = b := by
  have key : ∀ (n j : Nat), l.length - j ≤ n → a[j]? = b[j]? := by
    intro n
    induction n with
    | zero => intro j hj; rw [List.getElem?_eq_none (by have := ha.1; omega), List.getElem?_eq_none (by have := hb.1; omega)]
    | succ n ih =>
      intro j hj
      rcases Nat.lt_or_ge j l.length with hlt | hge
      · obtain ⟨p, hp⟩ : ∃ p, l[j]? = some p := ⟨_, List.getElem?_eq_getElem hlt⟩
        rw [ha.2 j p hp, hb.2 j p hp]
        congr 2
        refine any_congr' fun k hk => ?_
        obtain ⟨c, rfl, h1, h2⟩ := T.kid_behind hp k hk
        rw [Int.toNat_natCast, ih c (by omega)]
      · rw [List.getElem?_eq_none (by have := ha.1; omega), List.getElem?_eq_none (by have := hb.1; omega)]
  exact List.ext_getElem? fun j => key (l.length - j) j (Nat.le_refl _)
theorem StaleOk.met {l : List Nd} {st : List Bool} (h : StaleOk l st) {j : Nat} {p : Nd} (hp : l[j]? = some p) (hs : st[j]? = some false) : p.met = 0 := by
  rw [h.2 j p hp] at hs
  injection hs with hs
  simp only [Bool.or_eq_false_iff, decide_eq_false_iff_not, ne_eq, Decidable.not_not] at hs
  exact hs.1
/-- without bits nothing is stale -/
theorem StaleOk.none {l : List Nd} {st : List Bool} (T : Tree l) (h : StaleOk l st) (h0 : ∀ p ∈ l, p.met = 0) : ∀ (j : Nat), j < l.length → st[j]? = some false := by
  have key : ∀ (n j : Nat), l.length - j ≤ n → j < l.length → st[j]? = some false := by
    intro n
    induction n with
    | zero => intro j hj; omega
    | succ n ih =>
      intro j hj hlt
      obtain ⟨p, hp⟩ : ∃ p, l[j]? = some p := ⟨_, List.getElem?_eq_getElem hlt⟩
      rw [h.2 j p hp]
      congr 1
      rw [Bool.or_eq_false_iff]
      refine ⟨decide_eq_false fun hc => hc (h0 p (List.mem_of_getElem? hp)), ?_⟩
      rw [List.any_eq_false]
      intro k hk
      obtain ⟨c, rfl, h1, h2⟩ := T.kid_behind hp k hk
      rw [Int.toNat_natCast, ih c (by omega) h2]
      simp
  exact fun j => key (l.length - j) j (Nat.le_refl _)
end Go.Proofs.Ytaffaeompdlecaa
