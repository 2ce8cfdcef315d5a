/- Trees as lists. No program is named here. -/
import Derived.WalkKit
namespace Go.Proofs.Ytaffaeompdlecaa

/-- a part, its kids as a list -/
structure Nd where
  sym : Int
  kind : Int
  lo : Int
  inn : Int
  hi : Int
  look : Int
  kids : List Int
  met : Int

def LeafK (k : Int) : Prop := k ≠ 1 ∧ k ≠ 2
instance (k : Int) : Decidable (LeafK k) := inferInstanceAs (Decidable (_ ∧ _))
def TokK (k : Int) : Prop := k = 3 ∨ k = 5 ∨ k = 6
instance (k : Int) : Decidable (TokK k) := inferInstanceAs (Decidable (_ ∨ _))
/-- a part may be, its kids aside -/
def Bare (p : Nd) : Prop := 1 ≤ p.kind ∧ p.kind ≤ 6 ∧ 0 ≤ p.lo ∧ p.lo ≤ p.hi ∧ p.lo < p.look ∧ (TokK p.kind → p.lo ≤ p.inn ∧ p.inn ≤ p.hi) ∧ (¬ TokK p.kind → p.inn = p.lo) ∧ (p.kind = 4 → p.lo = p.hi) ∧ (LeafK p.kind → p.kids.length = 0)
instance (p : Nd) : Decidable (Bare p) := inferInstanceAs (Decidable (_ ∧ _))

/-- the places of some parts and all in them, as they should be: where the walk ends, and whether all was as it should -/
inductive Trek (l : List Nd) : List Int → Nat → Bool → Nat → Prop
  | nil (n : Nat) : Trek l [] n true n
  | bad (k : Int) (ks : List Int) (n : Nat) : (k ≠ (n : Int) ∨ l.length ≤ n) → Trek l (k :: ks) n false n
  | sub (p : Nd) (ks : List Int) (n m : Nat) : l[n]? = some p → Trek l p.kids (n + 1) false m → Trek l ((n : Int) :: ks) n false m
  | cons (p : Nd) (ks : List Int) (n m : Nat) (ok : Bool) (e : Nat) : l[n]? = some p → Trek l p.kids (n + 1) true m → Trek l ks m ok e → Trek l ((n : Int) :: ks) n ok e

theorem lt_of_get {α : Type} {l : List α} {n : Nat} {p : α} (h : l[n]? = some p) : n < l.length := (List.getElem?_eq_some_iff.1 h).1
theorem Trek.le {l : List Nd} {ks : List Int} {n m : Nat} {ok : Bool} (h : Trek l ks n ok m) : n ≤ m ∧ (n ≤ l.length → m ≤ l.length) := by
  induction h with
  | nil n => exact ⟨Nat.le_refl _, id⟩
  | bad k ks n _ => exact ⟨Nat.le_refl _, id⟩
  | sub p ks n m hp _ ih => have := lt_of_get hp; exact ⟨by omega, fun _ => ih.2 (by omega)⟩
  | cons p ks n m ok e hp _ _ ih1 ih2 => have := lt_of_get hp; exact ⟨by omega, fun _ => ih2.2 (ih1.2 (by omega))⟩
theorem trek_all (l : List Nd) : ∀ (d : Nat) (ks : List Int) (n : Nat), l.length - n ≤ d → ∃ ok m, Trek l ks n ok m := by
  intro d
  induction d with
  | zero =>
    intro ks n hd
    cases ks with
    | nil => exact ⟨_, _, .nil n⟩
    | cons k ks => exact ⟨_, _, .bad k ks n (.inr (by omega))⟩
  | succ d ih =>
    intro ks n hd
    cases ks with
    | nil => exact ⟨_, _, .nil n⟩
    | cons k ks =>
      by_cases h : k ≠ (n : Int) ∨ l.length ≤ n
      · exact ⟨_, _, .bad k ks n h⟩
      · have hk : k = (n : Int) := Decidable.byContradiction fun hc => h (.inl hc)
        have hn : n < l.length := Nat.lt_of_not_le fun hc => h (.inr hc)
        subst hk
        obtain ⟨p, hp⟩ : ∃ p, l[n]? = some p := ⟨_, List.getElem?_eq_getElem hn⟩
        obtain ⟨ok, m, h1⟩ := ih p.kids (n + 1) (by omega)
        cases ok with
        | false => exact ⟨_, _, .sub p ks n m hp h1⟩
        | true =>
          obtain ⟨ok, e, h2⟩ := ih ks m (by have := h1.le.1; omega)
          exact ⟨_, _, .cons p ks n m ok e hp h1 h2⟩
theorem Trek.det {l : List Nd} {ks : List Int} {n m : Nat} {ok : Bool} (h : Trek l ks n ok m) : ∀ {ok' : Bool} {m' : Nat}, Trek l ks n ok' m' → ok' = ok ∧ m' = m := by
  induction h with
  | nil n => intro ok' m' h'; cases h'; exact ⟨rfl, rfl⟩
  | bad k ks n hb =>
    intro ok' m' h'
    cases h' with
    | bad _ _ _ _ => exact ⟨rfl, rfl⟩
    | sub p _ _ _ hp _ => have := lt_of_get hp; omega
    | cons p _ _ _ _ _ hp _ _ => have := lt_of_get hp; omega
  | sub p ks n m hp h1 ih =>
    intro ok' m' h'
    have hl := lt_of_get hp
    cases h' with
    | bad _ _ _ hb => omega
    | sub p' _ _ _ hp' h1' => rw [hp] at hp'; cases hp'; exact ih h1'
    | cons p' _ _ m1 _ _ hp' h1' _ => rw [hp] at hp'; cases hp'; have := (ih h1').1; cases this
  | cons p ks n m ok e hp h1 h2 ih1 ih2 =>
    intro ok' m' h'
    have hl := lt_of_get hp
    cases h' with
    | bad _ _ _ hb => omega
    | sub p' _ _ _ hp' h1' => rw [hp] at hp'; cases hp'; have := (ih1 h1').1; cases this
    | cons p' _ _ m1 _ _ hp' h1' h2' =>
      rw [hp] at hp'; cases hp'
      obtain ⟨_, rfl⟩ := ih1 h1'
      exact ih2 h2'
/-- what a walk's first step is -/
theorem Trek.head {l : List Nd} {k : Int} {ks : List Int} {n m : Nat} {ok : Bool} (h : Trek l (k :: ks) n ok m) (hk : k = (n : Int)) {p : Nd} (hp : l[n]? = some p) :
    (ok = false ∧ Trek l p.kids (n + 1) false m) ∨ ∃ m1, Trek l p.kids (n + 1) true m1 ∧ Trek l ks m1 ok m := by
  have hl := lt_of_get hp
  cases h with
  | bad _ _ _ hb => omega
  | sub p' _ _ _ hp' h1' => rw [hp] at hp'; cases hp'; exact .inl ⟨rfl, h1'⟩
  | cons p' _ _ m1 _ _ hp' h1' h2' => rw [hp] at hp'; cases hp'; exact .inr ⟨m1, h1', h2'⟩
theorem Trek.stop {l : List Nd} {k : Int} {ks : List Int} {n m : Nat} {ok : Bool} (h : Trek l (k :: ks) n ok m) (hb : k ≠ (n : Int) ∨ l.length ≤ n) : ok = false ∧ m = n :=
  (Trek.bad k ks n hb).det h
theorem Trek.one {l : List Nd} {n m : Nat} {p : Nd} {ok : Bool} (hp : l[n]? = some p) (h : Trek l p.kids (n + 1) ok m) : Trek l [(n : Int)] n ok m := by
  cases ok with
  | false => exact .sub p _ n m hp h
  | true => exact .cons p _ n m true m hp h (.nil m)
theorem Trek.ofOne {l : List Nd} {n m : Nat} {p : Nd} {ok : Bool} (hp : l[n]? = some p) (h : Trek l [(n : Int)] n ok m) : Trek l p.kids (n + 1) ok m := by
  rcases h.head rfl hp with ⟨rfl, h1⟩ | ⟨m1, h1, h2⟩
  · exact h1
  · cases h2; exact h1

/-- how many kids the parts from n to m have -/
def kc (l : List Nd) (n m : Nat) : Nat := (((l.take m).drop n).map (fun p => p.kids.length)).sum
theorem kc_add (l : List Nd) {a b c : Nat} (h1 : a ≤ b) (h2 : b ≤ c) : kc l a c = kc l a b + kc l b c := by
  unfold kc
  have : (l.take c).drop a = (l.take b).drop a ++ (l.take c).drop b := by
    have e : l.take b = (l.take c).take b := by rw [List.take_take, Nat.min_eq_left h2]
    rw [e]
    conv => lhs; rw [← List.take_append_drop b (l.take c)]
    rw [List.drop_append]
    by_cases hb : b ≤ (l.take c).length
    · have : a - ((l.take c).take b).length = 0 := by rw [List.length_take]; omega
      rw [this, List.drop_zero]
    · have : (l.take c).drop b = [] := List.drop_eq_nil_of_le (by omega)
      rw [this]
      simp
  rw [this, List.map_append, List.sum_append]
theorem kc_one {l : List Nd} {n : Nat} {p : Nd} (hp : l[n]? = some p) : kc l n (n + 1) = p.kids.length := by
  unfold kc
  have hl := lt_of_get hp
  rw [List.take_succ_eq_append_getElem hl, List.drop_append]
  have : (l.take n).drop n = [] := List.drop_eq_nil_of_le (by rw [List.length_take]; omega)
  rw [this]
  have h2 : n - (l.take n).length = 0 := by rw [List.length_take]; omega
  rw [h2]
  have h3 : l[n] = p := by rw [List.getElem?_eq_getElem hl] at hp; injection hp
  simp [h3]
theorem kc_self (l : List Nd) (n : Nat) : kc l n n = 0 := by
  unfold kc
  rw [List.drop_eq_nil_of_le (by rw [List.length_take]; omega)]
  rfl
theorem Trek.count {l : List Nd} {ks : List Int} {n m : Nat} {ok : Bool} (h : Trek l ks n ok m) : (ok = true → kc l n m + ks.length = m - n) ∧ (ok = false → m - n + 1 ≤ kc l n m + ks.length) := by
  induction h with
  | nil n => exact ⟨fun _ => by rw [kc_self]; simp, fun h => by cases h⟩
  | bad k ks n _ => exact ⟨fun h => (by cases h), fun _ => by rw [List.length_cons]; omega⟩
  | sub p ks n m hp h1 ih =>
    refine ⟨fun h => (by cases h), fun _ => ?_⟩
    have := ih.2 rfl
    have hle := h1.le.1
    rw [kc_add l (show n ≤ n + 1 by omega) hle, kc_one hp, List.length_cons]
    omega
  | cons p ks n m ok e hp h1 h2 ih1 ih2 =>
    have a1 := ih1.1 rfl
    have hle := h1.le.1
    have hle2 := h2.le.1
    have hk : kc l n e = p.kids.length + kc l (n + 1) m + kc l m e := by
      rw [kc_add l (show n ≤ n + 1 by omega) (show n + 1 ≤ e by omega), kc_one hp, kc_add l hle hle2]; omega
    rw [hk, List.length_cons]
    exact ⟨fun h => by have := ih2.1 h; omega, fun h => by have := ih2.2 h; omega⟩
/-- a part that a walk comes by -/
theorem Trek.inside {l : List Nd} {ks : List Int} {n e : Nat} {ok : Bool} (h : Trek l ks n ok e) : ok = true → ∀ i, n ≤ i → i < e → ∃ p m, l[i]? = some p ∧ Trek l p.kids (i + 1) true m ∧ m ≤ e := by
  induction h with
  | nil n => intro _ i h1 h2; omega
  | bad k ks n _ => intro h; cases h
  | sub p ks n m hp h1 ih => intro h; cases h
  | cons p ks n m ok e hp h1 h2 ih1 ih2 =>
    intro hok i hi1 hi2
    have hle2 := h2.le.1
    rcases Nat.eq_or_lt_of_le hi1 with rfl | hlt
    · exact ⟨p, m, hp, h1, hle2⟩
    · rcases Nat.lt_or_ge i m with hm | hm
      · obtain ⟨q, m', a, b, c⟩ := ih1 rfl i hlt hm
        exact ⟨q, m', a, b, by omega⟩
      · exact ih2 hok i hm hi2
/-- the kids lie in it -/
theorem Trek.kid {l : List Nd} {ks : List Int} {n e : Nat} {ok : Bool} (h : Trek l ks n ok e) : ok = true → ∀ k ∈ ks, ∃ i : Nat, k = (i : Int) ∧ n ≤ i ∧ i < e := by
  induction h with
  | nil n => intro _ k hk; cases hk
  | bad k ks n _ => intro h; cases h
  | sub p ks n m hp h1 ih => intro h; cases h
  | cons p ks n m ok e hp h1 h2 ih1 ih2 =>
    intro hok k hk
    have hle := h1.le.1
    have hle2 := h2.le.1
    rcases List.mem_cons.1 hk with rfl | hk
    · exact ⟨n, rfl, Nat.le_refl _, by omega⟩
    · obtain ⟨i, a, b, c⟩ := ih2 hok k hk
      exact ⟨i, a, by omega, c⟩
/-- whoever lies in it is one of the kids, or a kid's -/
theorem Trek.whose {l : List Nd} {ks : List Int} {n e : Nat} {ok : Bool} (h : Trek l ks n ok e) : ok = true → ∀ i : Nat, n ≤ i → i < e → (i : Int) ∈ ks ∨ ∃ j p, n ≤ j ∧ j < i ∧ l[j]? = some p ∧ (i : Int) ∈ p.kids := by
  induction h with
  | nil n => intro _ i h1 h2; omega
  | bad k ks n _ => intro h; cases h
  | sub p ks n m hp h1 ih => intro h; cases h
  | cons p ks n m ok e hp h1 h2 ih1 ih2 =>
    intro hok i hi1 hi2
    have hle := h1.le.1
    rcases Nat.eq_or_lt_of_le hi1 with rfl | hlt
    · exact .inl (List.mem_cons_self ..)
    · rcases Nat.lt_or_ge i m with hm | hm
      · rcases ih1 rfl i hlt hm with hk | ⟨j, q, a, b, c, d⟩
        · exact .inr ⟨n, p, Nat.le_refl _, hlt, hp, hk⟩
        · exact .inr ⟨j, q, by omega, b, c, d⟩
      · rcases ih2 hok i hm hi2 with hk | ⟨j, q, a, b, c, d⟩
        · exact .inl (List.mem_cons_of_mem _ hk)
        · exact .inr ⟨j, q, by omega, b, c, d⟩
theorem Trek.append {l : List Nd} {ks ks' : List Int} {n m e : Nat} {ok ok' : Bool} (h : Trek l ks n ok m) : ok = true → Trek l ks' m ok' e → Trek l (ks ++ ks') n ok' e := by
  induction h with
  | nil n => intro _ h'; exact h'
  | bad k ks n _ => intro h; cases h
  | sub p ks n m hp h1 ih => intro h; cases h
  | cons p ks n m ok e hp h1 h2 ih1 ih2 => intro hok h'; exact .cons p _ n m ok' _ hp h1 (ih2 hok h')
theorem Trek.split {l : List Nd} {ks' : List Int} {e : Nat} : ∀ (ks : List Int) {n : Nat}, Trek l (ks ++ ks') n true e → ∃ m, Trek l ks n true m ∧ Trek l ks' m true e
  | [], n, h => ⟨n, .nil n, h⟩
  | k :: ks, n, h => by
    cases h with
    | cons p _ _ m _ _ hp h1 h2 =>
      obtain ⟨m', a, b⟩ := Trek.split ks h2
      exact ⟨m', .cons p ks n m true m' hp h1 a, b⟩
theorem Trek.first {l : List Nd} {k : Int} {ks : List Int} {n e : Nat} (h : Trek l (k :: ks) n true e) : k = (n : Int) ∧ n < l.length := by
  cases h with
  | cons p _ _ m _ _ hp _ _ => exact ⟨rfl, lt_of_get hp⟩

/-- kids lie one behind the other -/
def liesB (l : List Nd) (hi : Int) : Int → List Int → Bool
  | a, [] => decide (a ≤ hi)
  | a, k :: ks => match l[k.toNat]? with
    | some q => decide (a ≤ q.lo) && liesB l hi q.hi ks
    | none => false
/-- a tree may be -/
structure Tree (l : List Nd) : Prop where
  bare : ∀ i p, l[i]? = some p → Bare p ∧ (0 < i → p.kind ≠ 1)
  trek : Trek l [0] 0 true l.length
  lies : ∀ p ∈ l, liesB l p.hi p.lo p.kids = true
theorem Tree.pos {l : List Nd} (h : Tree l) : 0 < l.length := h.trek.first.2
open Classical in
noncomputable def checkF (l : List Nd) : Int := if l.length > 524288 then 3 else if Tree l then 0 else 2

/-- a part that lies in a tree: its own walk -/
theorem Tree.at {l : List Nd} (h : Tree l) {i : Nat} (hi : i < l.length) : ∃ p m, l[i]? = some p ∧ Trek l p.kids (i + 1) true m ∧ m ≤ l.length :=
  h.trek.inside rfl i (Nat.zero_le _) hi
theorem Tree.up {l : List Nd} (h : Tree l) {i : Nat} (h0 : 0 < i) (hi : i < l.length) : ∃ j p, j < i ∧ l[j]? = some p ∧ (i : Int) ∈ p.kids := by
  rcases h.trek.whose rfl i (Nat.zero_le _) hi with hk | ⟨j, p, _, a, b, c⟩
  · simp at hk; omega
  · exact ⟨j, p, a, b, c⟩
/-- a kid's walk ends in it -/
theorem Trek.nest {l : List Nd} {ks : List Int} {n e : Nat} (h : Trek l ks n true e) {i : Nat} (hk : (i : Int) ∈ ks) : ∃ p m, l[i]? = some p ∧ Trek l p.kids (i + 1) true m ∧ m ≤ e ∧ n ≤ i := by
  obtain ⟨i', hi, h1, h2⟩ := h.kid rfl _ hk
  have : i = i' := by omega
  subst this
  obtain ⟨p, m, a, b, c⟩ := h.inside rfl i h1 h2
  exact ⟨p, m, a, b, c, h1⟩
/-- each part is a kid of one at most -/
theorem Trek.once {l : List Nd} {ks : List Int} {n e : Nat} {ok : Bool} (h : Trek l ks n ok e) : ok = true →
    (∀ (i j : Nat) p, n ≤ j → j < e → l[j]? = some p → (i : Int) ∈ p.kids → (i : Int) ∉ ks) ∧
    (∀ (i j j' : Nat) p q, n ≤ j → j < e → n ≤ j' → j' < e → l[j]? = some p → l[j']? = some q → (i : Int) ∈ p.kids → (i : Int) ∈ q.kids → j = j') := by
  induction h with
  | nil n => intro _; exact ⟨fun i j p h1 h2 => by omega, fun i j j' p q h1 h2 => by omega⟩
  | bad k ks n _ => intro h; cases h
  | sub p ks n m hp h1 ih => intro h; cases h
  | cons p ks n m ok e hp h1 h2 ih1 ih2 =>
    intro hok
    subst hok
    have hle := h1.le.1
    have hle2 := h2.le.1
    obtain ⟨a1, a2⟩ := ih1 rfl
    obtain ⟨b1, b2⟩ := ih2 rfl
    -- where the kids of a part of [n, e) lie
    have own : ∀ (i j : Nat) q, n ≤ j → j < e → l[j]? = some q → (i : Int) ∈ q.kids → (j = n ∧ n + 1 ≤ i ∧ i < m) ∨ (n + 1 ≤ j ∧ j < m ∧ n + 1 ≤ i ∧ i < m) ∨ (m ≤ j ∧ m ≤ i ∧ i < e) := by
      intro i j q hj1 hj2 hq hi
      rcases Nat.eq_or_lt_of_le hj1 with rfl | hlt
      · rw [hp] at hq; cases hq
        obtain ⟨i', e1, e2, e3⟩ := h1.kid rfl _ hi
        exact .inl ⟨rfl, by omega, by omega⟩
      · rcases Nat.lt_or_ge j m with hm | hm
        · obtain ⟨q', m', e1, e2, e3⟩ := h1.inside rfl j hlt hm
          rw [hq] at e1; cases e1
          obtain ⟨i', f1, f2, f3⟩ := e2.kid rfl _ hi
          exact .inr (.inl ⟨hlt, hm, by omega, by omega⟩)
        · obtain ⟨q', m', e1, e2, e3⟩ := h2.inside rfl j hm hj2
          rw [hq] at e1; cases e1
          obtain ⟨i', f1, f2, f3⟩ := e2.kid rfl _ hi
          exact .inr (.inr ⟨hm, by omega, by omega⟩)
    refine ⟨?_, ?_⟩
    · intro i j q hj1 hj2 hq hi hmem
      rcases List.mem_cons.1 hmem with he | hmem
      · rcases own i j q hj1 hj2 hq hi with h | h | h <;> omega
      · obtain ⟨i', f1, f2, f3⟩ := h2.kid rfl _ hmem
        rcases own i j q hj1 hj2 hq hi with h | h | h
        · omega
        · omega
        · exact b1 i j q h.1 hj2 hq hi hmem
    · intro i j j' q q' hj1 hj2 hj1' hj2' hq hq' hi hi'
      rcases own i j q hj1 hj2 hq hi with h | h | h <;> rcases own i j' q' hj1' hj2' hq' hi' with h' | h' | h'
      · omega
      · exfalso
        rw [h.1] at hq
        rw [hp] at hq
        cases hq
        exact a1 i j' q' h'.1 h'.2.1 hq' hi' hi
      · omega
      · exfalso
        rw [h'.1] at hq'
        rw [hp] at hq'
        cases hq'
        exact a1 i j q h.1 h.2.1 hq hi hi'
      · exact a2 i j j' q q' h.1 h.2.1 h'.1 h'.2.1 hq hq' hi hi'
      · omega
      · omega
      · omega
      · exact b2 i j j' q q' h.1 hj2 h'.1 hj2' hq hq' hi hi'
/-- whose a part is: told of one -/
def Up (l : List Nd) (i j : Nat) : Prop := ∃ p, l[j]? = some p ∧ (i : Int) ∈ p.kids
theorem Tree.up_lt {l : List Nd} (h : Tree l) {i j : Nat} (hu : Up l i j) : j < i ∧ i < l.length := by
  obtain ⟨p, hp, hk⟩ := hu
  obtain ⟨q, m, a, b, c⟩ := h.at (lt_of_get hp)
  rw [hp] at a; cases a
  obtain ⟨i', e1, e2, e3⟩ := b.kid rfl _ hk
  omega
theorem Tree.up_one {l : List Nd} (h : Tree l) {i j j' : Nat} (hu : Up l i j) (hu' : Up l i j') : j = j' := by
  obtain ⟨p, hp, hk⟩ := hu
  obtain ⟨q, hq, hk'⟩ := hu'
  exact (h.trek.once rfl).2 i j j' p q (Nat.zero_le _) (lt_of_get hp) (Nat.zero_le _) (lt_of_get hq) hp hq hk hk'
end Go.Proofs.Ytaffaeompdlecaa
