/- Nd: 6 texts in one. -/
import Derived.WalkKit
/- Trees as lists. No program is named here. -/
namespace Go.Proofs.Ytggmljookcmnkaa

/-- a part, its kids as a list -/
structure Nd where
  sym : Int
  kind : Int
  lo : Int
  inn : Int
  hi : Int
  look : Int
  kids : List Int
  met : Int

def LeafK (k : Int) : Prop := k ≠ 1 ∧ k ≠ 2
instance (k : Int) : Decidable (LeafK k) := inferInstanceAs (Decidable (_ ∧ _))
def TokK (k : Int) : Prop := k = 3 ∨ k = 5 ∨ k = 6
instance (k : Int) : Decidable (TokK k) := inferInstanceAs (Decidable (_ ∨ _))
/-- a part may be, its kids aside -/
def Bare (p : Nd) : Prop := 1 ≤ p.kind ∧ p.kind ≤ 6 ∧ 0 ≤ p.lo ∧ p.lo ≤ p.hi ∧ p.lo < p.look ∧ (TokK p.kind → p.lo ≤ p.inn ∧ p.inn ≤ p.hi) ∧ (¬ TokK p.kind → p.inn = p.lo) ∧ (p.kind = 4 → p.lo = p.hi) ∧ (LeafK p.kind → p.kids.length = 0)
instance (p : Nd) : Decidable (Bare p) := inferInstanceAs (Decidable (_ ∧ _))

/-- the places of some parts and all in them, as they should be: where the walk ends, and whether all was as it should -/
inductive Trek (l : List Nd) : List Int → Nat → Bool → Nat → Prop
  | nil (n : Nat) : Trek l [] n true n
  | bad (k : Int) (ks : List Int) (n : Nat) : (k ≠ (n : Int) ∨ l.length ≤ n) → Trek l (k :: ks) n false n
  | sub (p : Nd) (ks : List Int) (n m : Nat) : l[n]? = some p → Trek l p.kids (n + 1) false m → Trek l ((n : Int) :: ks) n false m
  | cons (p : Nd) (ks : List Int) (n m : Nat) (ok : Bool) (e : Nat) : l[n]? = some p → Trek l p.kids (n + 1) true m → Trek l ks m ok e → Trek l ((n : Int) :: ks) n ok e

theorem lt_of_get {α : Type} {l : List α} {n : Nat} {p : α} (h : l[n]? = some p) : n < l.length := (List.getElem?_eq_some_iff.1 h).1
theorem Trek.le {l : List Nd} {ks : List Int} {n m : Nat} {ok : Bool} (h : Trek l ks n ok m) : n ≤ m ∧ (n ≤ l.length → m ≤ l.length) := by
  induction h with
  | nil n => exact ⟨Nat.le_refl _, id⟩
  | bad k ks n _ => exact ⟨Nat.le_refl _, id⟩
  | sub p ks n m hp _ ih => have := lt_of_get hp; exact ⟨by omega, fun _ => ih.2 (by omega)⟩
  | cons p ks n m ok e hp _ _ ih1 ih2 => have := lt_of_get hp; exact ⟨by omega, fun _ => ih2.2 (ih1.2 (by omega))⟩
theorem trek_all (l : List Nd) : ∀ (d : Nat) (ks : List Int) (n : Nat), l.length - n ≤ d → ∃ ok m, Trek l ks n ok m := by
  intro d
  induction d with
  | zero =>
    intro ks n hd
    cases ks with
    | nil => exact ⟨_, _, .nil n⟩
    | cons k ks => exact ⟨_, _, .bad k ks n (.inr (by omega))⟩
  | succ d ih =>
    intro ks n hd
    cases ks with
    | nil => exact ⟨_, _, .nil n⟩
    | cons k ks =>
      by_cases h : k ≠ (n : Int) ∨ l.length ≤ n
      · exact ⟨_, _, .bad k ks n h⟩
      · have hk : k = (n : Int) := Decidable.byContradiction fun hc => h (.inl hc)
        have hn : n < l.length := Nat.lt_of_not_le fun hc => h (.inr hc)
        subst hk
        obtain ⟨p, hp⟩ : ∃ p, l[n]? = some p := ⟨_, List.getElem?_eq_getElem hn⟩
        obtain ⟨ok, m, h1⟩ := ih p.kids (n + 1) (by omega)
        cases ok with
        | false => exact ⟨_, _, .sub p ks n m hp h1⟩
        | true =>
          obtain ⟨ok, e, h2⟩ := ih ks m (by have := h1.le.1; omega)
          exact ⟨_, _, .cons p ks n m ok e hp h1 h2⟩
theorem Trek.det {l : List Nd} {ks : List Int} {n m : Nat} {ok : Bool} (h : Trek l ks n ok m) : ∀ {ok' : Bool} {m' : Nat}, Trek l ks n ok' m' → ok' = ok ∧ m' = m := by
  induction h with
  | nil n => intro ok' m' h'; cases h'; exact ⟨rfl, rfl⟩
  | bad k ks n hb =>
    intro ok' m' h'
    cases h' with
    | bad _ _ _ _ => exact ⟨rfl, rfl⟩
    | sub p _ _ _ hp _ => have := lt_of_get hp; omega
    | cons p _ _ _ _ _ hp _ _ => have := lt_of_get hp; omega
  | sub p ks n m hp h1 ih =>
    intro ok' m' h'
    have hl := lt_of_get hp
    cases h' with
    | bad _ _ _ hb => omega
    | sub p' _ _ _ hp' h1' => rw [hp] at hp'; cases hp'; exact ih h1'
    | cons p' _ _ m1 _ _ hp' h1' _ => rw [hp] at hp'; cases hp'; have := (ih h1').1; cases this
  | cons p ks n m ok e hp h1 h2 ih1 ih2 =>
    intro ok' m' h'
    have hl := lt_of_get hp
    cases h' with
    | bad _ _ _ hb => omega
    | sub p' _ _ _ hp' h1' => rw [hp] at hp'; cases hp'; have := (ih1 h1').1; cases this
    | cons p' _ _ m1 _ _ hp' h1' h2' =>
      rw [hp] at hp'; cases hp'
      obtain ⟨_, rfl⟩ := ih1 h1'
      exact ih2 h2'
/-- what a walk's first step is -/
theorem Trek.head {l : List Nd} {k : Int} {ks : List Int} {n m : Nat} {ok : Bool} (h : Trek l (k :: ks) n ok m) (hk : k = (n : Int)) {p : Nd} (hp : l[n]? = some p) :
    (ok = false ∧ Trek l p.kids (n + 1) false m) ∨ ∃ m1, Trek l p.kids (n + 1) true m1 ∧ Trek l ks m1 ok m := by
  have hl := lt_of_get hp
  cases h with
  | bad _ _ _ hb => omega
  | sub p' _ _ _ hp' h1' => rw [hp] at hp'; cases hp'; exact .inl ⟨rfl, h1'⟩
  | cons p' _ _ m1 _ _ hp' h1' h2' => rw [hp] at hp'; cases hp'; exact .inr ⟨m1, h1', h2'⟩
theorem Trek.stop {l : List Nd} {k : Int} {ks : List Int} {n m : Nat} {ok : Bool} (h : Trek l (k :: ks) n ok m) (hb : k ≠ (n : Int) ∨ l.length ≤ n) : ok = false ∧ m = n :=
  (Trek.bad k ks n hb).det h
theorem Trek.one {l : List Nd} {n m : Nat} {p : Nd} {ok : Bool} (hp : l[n]? = some p) (h : Trek l p.kids (n + 1) ok m) : Trek l [(n : Int)] n ok m := by
  cases ok with
  | false => exact .sub p _ n m hp h
  | true => exact .cons p _ n m true m hp h (.nil m)
theorem Trek.ofOne {l : List Nd} {n m : Nat} {p : Nd} {ok : Bool} (hp : l[n]? = some p) (h : Trek l [(n : Int)] n ok m) : Trek l p.kids (n + 1) ok m := by
  rcases h.head rfl hp with ⟨rfl, h1⟩ | ⟨m1, h1, h2⟩
  · exact h1
  · cases h2; exact h1

/-- how many kids the parts from n to m have -/
def kc (l : List Nd) (n m : Nat) : Nat := (((l.take m).drop n).map (fun p => p.kids.length)).sum
theorem kc_add (l : List Nd) {a b c : Nat} (h1 : a ≤ b) (h2 : b ≤ c) : kc l a c = kc l a b + kc l b c := by
  unfold kc
  have : (l.take c).drop a = (l.take b).drop a ++ (l.take c).drop b := by
    have e : l.take b = (l.take c).take b := by rw [List.take_take, Nat.min_eq_left h2]
    rw [e]
    conv => lhs; rw [← List.take_append_drop b (l.take c)]
    rw [List.drop_append]
    by_cases hb : b ≤ (l.take c).length
    · have : a - ((l.take c).take b).length = 0 := by rw [List.length_take]; omega
      rw [this, List.drop_zero]
    · have : (l.take c).drop b = [] := List.drop_eq_nil_of_le (by omega)
      rw [this]
      simp
  rw [this, List.map_append, List.sum_append]
theorem kc_one {l : List Nd} {n : Nat} {p : Nd} (hp : l[n]? = some p) : kc l n (n + 1) = p.kids.length := by
  unfold kc
  have hl := lt_of_get hp
  rw [List.take_succ_eq_append_getElem hl, List.drop_append]
  have : (l.take n).drop n = [] := List.drop_eq_nil_of_le (by rw [List.length_take]; omega)
  rw [this]
  have h2 : n - (l.take n).length = 0 := by rw [List.length_take]; omega
  rw [h2]
  have h3 : l[n] = p := by rw [List.getElem?_eq_getElem hl] at hp; injection hp
  simp [h3]
theorem kc_self (l : List Nd) (n : Nat) : kc l n n = 0 := by
  unfold kc
  rw [List.drop_eq_nil_of_le (by rw [List.length_take]; omega)]
  rfl
theorem Trek.count {l : List Nd} {ks : List Int} {n m : Nat} {ok : Bool} (h : Trek l ks n ok m) : (ok = true → kc l n m + ks.length = m - n) ∧ (ok = false → m - n + 1 ≤ kc l n m + ks.length) := by
  induction h with
  | nil n => exact ⟨fun _ => by rw [kc_self]; simp, fun h => by cases h⟩
  | bad k ks n _ => exact ⟨fun h => (by cases h), fun _ => by rw [List.length_cons]; omega⟩
  | sub p ks n m hp h1 ih =>
    refine ⟨fun h => (by cases h), fun _ => ?_⟩
    have := ih.2 rfl
    have hle := h1.le.1
    rw [kc_add l (show n ≤ n + 1 by omega) hle, kc_one hp, List.length_cons]
    omega
  | cons p ks n m ok e hp h1 h2 ih1 ih2 =>
    have a1 := ih1.1 rfl
    have hle := h1.le.1
    have hle2 := h2.le.1
    have hk : kc l n e = p.kids.length + kc l (n + 1) m + kc l m e := by
      rw [kc_add l (show n ≤ n + 1 by omega) (show n + 1 ≤ e by omega), kc_one hp, kc_add l hle hle2]; omega
    rw [hk, List.length_cons]
    exact ⟨fun h => by have := ih2.1 h; omega, fun h => by have := ih2.2 h; omega⟩
/-- a part that a walk comes by -/
theorem Trek.inside {l : List Nd} {ks : List Int} {n e : Nat} {ok : Bool} (h : Trek l ks n ok e) : ok = true → ∀ i, n ≤ i → i < e → ∃ p m, l[i]? = some p ∧ Trek l p.kids (i + 1) true m ∧ m ≤ e := by
  induction h with
  | nil n => intro _ i h1 h2; omega
  | bad k ks n _ => intro h; cases h
  | sub p ks n m hp h1 ih => intro h; cases h
  | cons p ks n m ok e hp h1 h2 ih1 ih2 =>
    intro hok i hi1 hi2
    have hle2 := h2.le.1
    rcases Nat.eq_or_lt_of_le hi1 with rfl | hlt
    · exact ⟨p, m, hp, h1, hle2⟩
    · rcases Nat.lt_or_ge i m with hm | hm
      · obtain ⟨q, m', a, b, c⟩ := ih1 rfl i hlt hm
        exact ⟨q, m', a, b, by omega⟩
      · exact ih2 hok i hm hi2
/-- the kids lie in it -/
theorem Trek.kid {l : List Nd} {ks : List Int} {n e : Nat} {ok : Bool} (h : Trek l ks n ok e) : ok = true → ∀ k ∈ ks, ∃ i : Nat, k = (i : Int) ∧ n ≤ i ∧ i < e := by
  induction h with
  | nil n => intro _ k hk; cases hk
  | bad k ks n _ => intro h; cases h
  | sub p ks n m hp h1 ih => intro h; cases h
  | cons p ks n m ok e hp h1 h2 ih1 ih2 =>
    intro hok k hk
    have hle := h1.le.1
    have hle2 := h2.le.1
    rcases List.mem_cons.1 hk with rfl | hk
    · exact ⟨n, rfl, Nat.le_refl _, by omega⟩
    · obtain ⟨i, a, b, c⟩ := ih2 hok k hk
      exact ⟨i, a, by omega, c⟩
/-- whoever lies in it is one of the kids, or a kid's -/
theorem Trek.whose {l : List Nd} {ks : List Int} {n e : Nat} {ok : Bool} (h : Trek l ks n ok e) : ok = true → ∀ i : Nat, n ≤ i → i < e → (i : Int) ∈ ks ∨ ∃ j p, n ≤ j ∧ j < i ∧ l[j]? = some p ∧ (i : Int) ∈ p.kids := by
  induction h with
  | nil n => intro _ i h1 h2; omega
  | bad k ks n _ => intro h; cases h
  | sub p ks n m hp h1 ih => intro h; cases h
  | cons p ks n m ok e hp h1 h2 ih1 ih2 =>
    intro hok i hi1 hi2
    have hle := h1.le.1
    rcases Nat.eq_or_lt_of_le hi1 with rfl | hlt
    · exact .inl (List.mem_cons_self ..)
    · rcases Nat.lt_or_ge i m with hm | hm
      · rcases ih1 rfl i hlt hm with hk | ⟨j, q, a, b, c, d⟩
        · exact .inr ⟨n, p, Nat.le_refl _, hlt, hp, hk⟩
        · exact .inr ⟨j, q, by omega, b, c, d⟩
      · rcases ih2 hok i hm hi2 with hk | ⟨j, q, a, b, c, d⟩
        · exact .inl (List.mem_cons_of_mem _ hk)
        · exact .inr ⟨j, q, by omega, b, c, d⟩
theorem Trek.append {l : List Nd} {ks ks' : List Int} {n m e : Nat} {ok ok' : Bool} (h : Trek l ks n ok m) : ok = true → Trek l ks' m ok' e → Trek l (ks ++ ks') n ok' e := by
  induction h with
  | nil n => intro _ h'; exact h'
  | bad k ks n _ => intro h; cases h
  | sub p ks n m hp h1 ih => intro h; cases h
  | cons p ks n m ok e hp h1 h2 ih1 ih2 => intro hok h'; exact .cons p _ n m ok' _ hp h1 (ih2 hok h')
theorem Trek.split {l : List Nd} {ks' : List Int} {e : Nat} : ∀ (ks : List Int) {n : Nat}, Trek l (ks ++ ks') n true e → ∃ m, Trek l ks n true m ∧ Trek l ks' m true e
  | [], n, h => ⟨n, .nil n, h⟩
  | k :: ks, n, h => by
    cases h with
    | cons p _ _ m _ _ hp h1 h2 =>
      obtain ⟨m', a, b⟩ := Trek.split ks h2
      exact ⟨m', .cons p ks n m true m' hp h1 a, b⟩
theorem Trek.first {l : List Nd} {k : Int} {ks : List Int} {n e : Nat} (h : Trek l (k :: ks) n true e) : k = (n : Int) ∧ n < l.length := by
  cases h with
  | cons p _ _ m _ _ hp _ _ => exact ⟨rfl, lt_of_get hp⟩

/-- kids lie one behind the other -/
def liesB (l : List Nd) (hi : Int) : Int → List Int → Bool
  | a, [] => decide (a ≤ hi)
  | a, k :: ks => match l[k.toNat]? with
    | some q => decide (a ≤ q.lo) && liesB l hi q.hi ks
    | none => false
/-- a tree may be -/
structure Tree (l : List Nd) : Prop where
  bare : ∀ i p, l[i]? = some p → Bare p ∧ (0 < i → p.kind ≠ 1)
  trek : Trek l [0] 0 true l.length
  lies : ∀ p ∈ l, liesB l p.hi p.lo p.kids = true
theorem Tree.pos {l : List Nd} (h : Tree l) : 0 < l.length := h.trek.first.2
open Classical in
noncomputable def checkF (l : List Nd) : Int := if l.length > 524288 then 3 else if Tree l then 0 else 2

/-- a part that lies in a tree: its own walk -/
theorem Tree.at {l : List Nd} (h : Tree l) {i : Nat} (hi : i < l.length) : ∃ p m, l[i]? = some p ∧ Trek l p.kids (i + 1) true m ∧ m ≤ l.length :=
  h.trek.inside rfl i (Nat.zero_le _) hi
theorem Tree.up {l : List Nd} (h : Tree l) {i : Nat} (h0 : 0 < i) (hi : i < l.length) : ∃ j p, j < i ∧ l[j]? = some p ∧ (i : Int) ∈ p.kids := by
  rcases h.trek.whose rfl i (Nat.zero_le _) hi with hk | ⟨j, p, _, a, b, c⟩
  · simp at hk; omega
  · exact ⟨j, p, a, b, c⟩
/-- a kid's walk ends in it -/
theorem Trek.nest {l : List Nd} {ks : List Int} {n e : Nat} (h : Trek l ks n true e) {i : Nat} (hk : (i : Int) ∈ ks) : ∃ p m, l[i]? = some p ∧ Trek l p.kids (i + 1) true m ∧ m ≤ e ∧ n ≤ i := by
  obtain ⟨i', hi, h1, h2⟩ := h.kid rfl _ hk
  have : i = i' := by omega
  subst this
  obtain ⟨p, m, a, b, c⟩ := h.inside rfl i h1 h2
  exact ⟨p, m, a, b, c, h1⟩
/-- each part is a kid of one at most -/
theorem Trek.once {l : List Nd} {ks : List Int} {n e : Nat} {ok : Bool} (h : Trek l ks n ok e) : ok = true →
    (∀ (i j : Nat) p, n ≤ j → j < e → l[j]? = some p → (i : Int) ∈ p.kids → (i : Int) ∉ ks) ∧
    (∀ (i j j' : Nat) p q, n ≤ j → j < e → n ≤ j' → j' < e → l[j]? = some p → l[j']? = some q → (i : Int) ∈ p.kids → (i : Int) ∈ q.kids → j = j') := by
  induction h with
  | nil n => intro _; exact ⟨fun i j p h1 h2 => by omega, fun i j j' p q h1 h2 => by omega⟩
  | bad k ks n _ => intro h; cases h
  | sub p ks n m hp h1 ih => intro h; cases h
  | cons p ks n m ok e hp h1 h2 ih1 ih2 =>
    intro hok
    subst hok
    have hle := h1.le.1
    have hle2 := h2.le.1
    obtain ⟨a1, a2⟩ := ih1 rfl
    obtain ⟨b1, b2⟩ := ih2 rfl
    -- where the kids of a part of [n, e) lie
    have own : ∀ (i j : Nat) q, n ≤ j → j < e → l[j]? = some q → (i : Int) ∈ q.kids → (j = n ∧ n + 1 ≤ i ∧ i < m) ∨ (n + 1 ≤ j ∧ j < m ∧ n + 1 ≤ i ∧ i < m) ∨ (m ≤ j ∧ m ≤ i ∧ i < e) := by
      intro i j q hj1 hj2 hq hi
      rcases Nat.eq_or_lt_of_le hj1 with rfl | hlt
      · rw [hp] at hq; cases hq
        obtain ⟨i', e1, e2, e3⟩ := h1.kid rfl _ hi
        exact .inl ⟨rfl, by omega, by omega⟩
      · rcases Nat.lt_or_ge j m with hm | hm
        · obtain ⟨q', m', e1, e2, e3⟩ := h1.inside rfl j hlt hm
          rw [hq] at e1; cases e1
          obtain ⟨i', f1, f2, f3⟩ := e2.kid rfl _ hi
          exact .inr (.inl ⟨hlt, hm, by omega, by omega⟩)
        · obtain ⟨q', m', e1, e2, e3⟩ := h2.inside rfl j hm hj2
          rw [hq] at e1; cases e1
          obtain ⟨i', f1, f2, f3⟩ := e2.kid rfl _ hi
          exact .inr (.inr ⟨hm, by omega, by omega⟩)
    refine ⟨?_, ?_⟩
    · intro i j q hj1 hj2 hq hi hmem
      rcases List.mem_cons.1 hmem with he | hmem
      · rcases own i j q hj1 hj2 hq hi with h | h | h <;> omega
      · obtain ⟨i', f1, f2, f3⟩ := h2.kid rfl _ hmem
        rcases own i j q hj1 hj2 hq hi with h | h | h
        · omega
        · omega
        · exact b1 i j q h.1 hj2 hq hi hmem
    · intro i j j' q q' hj1 hj2 hj1' hj2' hq hq' hi hi'
      rcases own i j q hj1 hj2 hq hi with h | h | h <;> rcases own i j' q' hj1' hj2' hq' hi' with h' | h' | h'
      · omega
      · exfalso
        rw [h.1] at hq
        rw [hp] at hq
        cases hq
        exact a1 i j' q' h'.1 h'.2.1 hq' hi' hi
      · omega
      · exfalso
        rw [h'.1] at hq'
        rw [hp] at hq'
        cases hq'
        exact a1 i j q h.1 h.2.1 hq hi hi'
      · exact a2 i j j' q q' h.1 h.2.1 h'.1 h'.2.1 hq hq' hi hi'
      · omega
      · omega
      · omega
      · exact b2 i j j' q q' h.1 hj2 h'.1 hj2' hq hq' hi hi'
/-- whose a part is: told of one -/
def Up (l : List Nd) (i j : Nat) : Prop := ∃ p, l[j]? = some p ∧ (i : Int) ∈ p.kids
theorem Tree.up_lt {l : List Nd} (h : Tree l) {i j : Nat} (hu : Up l i j) : j < i ∧ i < l.length := by
  obtain ⟨p, hp, hk⟩ := hu
  obtain ⟨q, m, a, b, c⟩ := h.at (lt_of_get hp)
  rw [hp] at a; cases a
  obtain ⟨i', e1, e2, e3⟩ := b.kid rfl _ hk
  omega
theorem Tree.up_one {l : List Nd} (h : Tree l) {i j j' : Nat} (hu : Up l i j) (hu' : Up l i j') : j = j' := by
  obtain ⟨p, hp, hk⟩ := hu
  obtain ⟨q, hq, hk'⟩ := hu'
  exact (h.trek.once rfl).2 i j j' p q (Nat.zero_le _) (lt_of_get hp) (Nat.zero_le _) (lt_of_get hq) hp hq hk hk'
end Go.Proofs.Ytggmljookcmnkaa

/- Trees as lists: a part cut out, a tree put in a part's place. No program is named here. -/
namespace Go.Proofs.Ytggmljookcmnkaa

/-- a part whose kids' places are moved -/
def Nd.by (f : Int → Int) (p : Nd) : Nd := { p with kids := p.kids.map f }
@[simp] theorem Nd.by_kids (f : Int → Int) (p : Nd) : (p.by f).kids = p.kids.map f := rfl
@[simp] theorem Nd.by_lo (f : Int → Int) (p : Nd) : (p.by f).lo = p.lo := rfl
@[simp] theorem Nd.by_hi (f : Int → Int) (p : Nd) : (p.by f).hi = p.hi := rfl
@[simp] theorem Nd.by_kind (f : Int → Int) (p : Nd) : (p.by f).kind = p.kind := rfl
@[simp] theorem Nd.by_sym (f : Int → Int) (p : Nd) : (p.by f).sym = p.sym := rfl
theorem Nd.by_by (f g : Int → Int) (p : Nd) : (p.by f).by g = p.by (fun x => g (f x)) := by
  simp only [Nd.by, List.map_map, Function.comp_def]
theorem Nd.by_id {f : Int → Int} {p : Nd} (h : ∀ k ∈ p.kids, f k = k) : p.by f = p := by
  simp only [Nd.by, List.map_congr_left h, List.map_id']
theorem Nd.by_congr {f g : Int → Int} {p : Nd} (h : ∀ k ∈ p.kids, f k = g k) : p.by f = p.by g := by
  simp only [Nd.by, List.map_congr_left h]
theorem Bare.by {p : Nd} (h : Bare p) (f : Int → Int) : Bare (p.by f) := by
  unfold Bare at h ⊢
  simpa [Nd.by] using h
def movedF (d : Int) (l : List Nd) : List Nd := l.map (Nd.by (· + d))
/-- a part, and all in it: the parts from i to m -/
def subF (l : List Nd) (i m : Nat) : List Nd := movedF (-(i : Int)) ((l.drop i).take (m - i))
def aheadK (i by_ : Int) (k : Int) : Int := if i < k then k + by_ else k
/-- a tree in the place of the part from i to m -/
def putF (l : List Nd) (i m : Nat) (s : List Nd) : List Nd :=
  (l.take i).map (Nd.by (aheadK i ((s.length : Int) - ((m : Int) - i)))) ++ (movedF i s ++ movedF ((s.length : Int) - ((m : Int) - i)) (l.drop m))

theorem get_moved {d : Int} {l : List Nd} (j : Nat) : (movedF d l)[j]? = (l[j]?).map (Nd.by (· + d)) := by
  unfold movedF
  rw [List.getElem?_map]
theorem get_sub {l : List Nd} {i m j : Nat} (hj : j < m - i) : (subF l i m)[j]? = (l[i + j]?).map (Nd.by (· + -(i : Int))) := by
  unfold subF
  rw [get_moved, List.getElem?_take_of_lt hj, List.getElem?_drop]
theorem len_sub {l : List Nd} {i m : Nat} (hm : m ≤ l.length) : (subF l i m).length = m - i := by
  unfold subF movedF
  rw [List.length_map, List.length_take, List.length_drop]
  omega

/-- a walk through parts that are moved as a whole -/
theorem Trek.shift {l l' : List Nd} {d : Int} {ks : List Int} {n m : Nat} {ok : Bool} (h : Trek l ks n ok m) : ok = true → ∀ n' m' : Nat, (n' : Int) = n + d → (m' : Int) = m + d →
    (∀ j j' : Nat, n ≤ j → j < m → (j' : Int) = j + d → ∃ p, l[j]? = some p ∧ ∃ q, l'[j']? = some q ∧ q.kids = p.kids.map (· + d)) → Trek l' (ks.map (· + d)) n' true m' := by
  induction h with
  | nil n =>
    intro _ n' m' h1 h2 _
    have : n' = m' := by omega
    subst this
    exact .nil n'
  | bad k ks n _ => intro h; cases h
  | sub p ks n m hp h1 ih => intro h; cases h
  | cons p ks n m ok e hp h1 h2 ih1 ih2 =>
    intro hok n' e' hn he hc
    have hle := h1.le.1
    have hle2 := h2.le.1
    obtain ⟨m', hm⟩ : ∃ m' : Nat, (m' : Int) = m + d := ⟨(m + d).toNat, by omega⟩
    obtain ⟨p', hp', q, hq, hk⟩ := hc n n' (Nat.le_refl _) (by omega) hn
    rw [hp] at hp'
    cases hp'
    rw [List.map_cons, ← hn]
    refine .cons q _ n' m' true e' hq ?_ (ih2 hok m' e' hm he fun j j' a b c => hc j j' (by omega) b c)
    rw [hk]
    exact ih1 rfl (n' + 1) m' (by omega) hm fun j j' a b c => hc j j' (by omega) (by omega) c
/-- a walk through parts of which one is replaced: what lies behind it moves -/
theorem Trek.put {l l' : List Nd} {i m m' : Nat} {d : Int} (hd : (m' : Int) = m + d) (him : Trek l [(i : Int)] i true m) (him' : Trek l' [(i : Int)] i true m')
    (h1 : ∀ j : Nat, j < i → ∀ p, l[j]? = some p → ∃ q, l'[j]? = some q ∧ q.kids = p.kids.map (aheadK i d))
    (h2 : ∀ j j' : Nat, m ≤ j → (j' : Int) = j + d → ∀ p, l[j]? = some p → ∃ q, l'[j']? = some q ∧ q.kids = p.kids.map (· + d))
    {ks : List Int} {n e : Nat} {ok : Bool} (h : Trek l ks n ok e) : ok = true → n ≤ i → i < e → ∀ e' : Nat, (e' : Int) = e + d → Trek l' (ks.map (aheadK i d)) n true e' := by
  -- parts behind the place move
  have far : ∀ {ks : List Int} {n e : Nat}, Trek l ks n true e → m ≤ n → ∀ n' e' : Nat, (n' : Int) = n + d → (e' : Int) = e + d → Trek l' (ks.map (aheadK i d)) n' true e' := by
    intro ks n e h hn n' e' hn' he'
    have hlt : i < m := by
      obtain ⟨p, m1, a, b, c, _⟩ := him.nest (List.mem_singleton.2 rfl)
      have := b.le.1
      omega
    have he : ks.map (aheadK i d) = ks.map (· + d) := by
      refine List.map_congr_left fun k hk => ?_
      obtain ⟨j, rfl, hj, _⟩ := h.kid rfl k hk
      simp only [aheadK]
      rw [if_pos (by omega)]
    rw [he]
    refine h.shift rfl n' e' hn' he' fun j j' a b c => ?_
    obtain ⟨p, m1, hp, _⟩ := h.inside rfl j a b
    obtain ⟨q, hq, hk⟩ := h2 j j' (by omega) c p hp
    exact ⟨p, hp, q, hq, hk⟩
  induction h with
  | nil n => intro _ a b; omega
  | bad k ks n _ => intro h; cases h
  | sub p ks n m hp h1 ih => intro h; cases h
  | cons p ks n m1 ok e hp t1 t2 ih1 ih2 =>
    intro hok hni hie e' he'
    subst hok
    have hle := t1.le.1
    have hle2 := t2.le.1
    have hlt' := him'.le.1
    rw [List.map_cons]
    rcases Nat.eq_or_lt_of_le hni with rfl | hlt
    · -- the part itself
      have hm : m1 = m := (him.det (Trek.one hp t1)).2
      subst hm
      have hk : aheadK (n : Int) d (n : Int) = (n : Int) := by simp [aheadK]
      rw [hk]
      exact him'.append rfl (far t2 (Nat.le_refl _) m' e' hd he')
    · have hk : aheadK (i : Int) d (n : Int) = (n : Int) := by simp only [aheadK]; rw [if_neg (by omega)]
      rw [hk]
      obtain ⟨q, hq, hqk⟩ := h1 n hlt p hp
      rcases Nat.lt_or_ge i m1 with hm | hm
      · -- it lies in the first
        have hmm : m ≤ m1 := by
          obtain ⟨p2, m2, a, b, c⟩ := t1.inside rfl i hlt hm
          have := (him.det (Trek.one a b)).2
          omega
        obtain ⟨m1', hm1'⟩ : ∃ m1' : Nat, (m1' : Int) = m1 + d := ⟨(m1 + d).toNat, by omega⟩
        refine .cons q _ n m1' true e' hq ?_ (far t2 hmm m1' e' hm1' he')
        rw [hqk]
        exact ih1 rfl hlt hm m1' hm1'
      · -- it lies behind the first
        refine .cons q _ n m1 true e' hq ?_ (ih2 rfl hm hie e' he')
        rw [hqk]
        have he : p.kids.map (aheadK i d) = p.kids.map (· + 0) := by
          refine List.map_congr_left fun k hk => ?_
          obtain ⟨j, rfl, hj, hj2⟩ := t1.kid rfl k hk
          simp only [aheadK]
          rw [if_neg (by omega)]
          omega
        rw [he]
        refine t1.shift rfl (n + 1) m1 (by omega) (by omega) fun j j' a b c => ?_
        obtain rfl : j' = j := by omega
        obtain ⟨p2, m2, hp2, t3, hm2⟩ := t1.inside rfl j' a b
        obtain ⟨q2, hq2, hk2⟩ := h1 j' (by omega) p2 hp2
        refine ⟨p2, hp2, q2, hq2, ?_⟩
        rw [hk2]
        refine List.map_congr_left fun k hk => ?_
        obtain ⟨j2, rfl, hj, hj2⟩ := t3.kid rfl k hk
        simp only [aheadK]
        rw [if_neg (by omega)]
        omega
end Go.Proofs.Ytggmljookcmnkaa

/- Trees as lists: what is cut out is a tree; what is put together is one. No program is named here. -/
namespace Go.Proofs.Ytggmljookcmnkaa

theorem liesB_map {l l' : List Nd} {f : Int → Int} {hi : Int} : ∀ (ks : List Int) (a : Int), (∀ k ∈ ks, ∀ q, l[k.toNat]? = some q → ∃ q', l'[(f k).toNat]? = some q' ∧ q'.lo = q.lo ∧ q'.hi = q.hi) →
    liesB l hi a ks = true → liesB l' hi a (ks.map f) = true
  | [], a, _, h => h
  | k :: ks, a, hc, h => by
    rw [List.map_cons]
    unfold liesB at h ⊢
    cases hq : l[k.toNat]? with
    | none => rw [hq] at h; cases h
    | some q =>
      rw [hq] at h
      obtain ⟨q', h1, h2, h3⟩ := hc k (List.mem_cons_self ..) q hq
      rw [h1]
      simp only [Bool.and_eq_true] at h ⊢
      rw [h2, h3]
      exact ⟨h.1, liesB_map ks q.hi (fun k hk => hc k (List.mem_cons_of_mem _ hk)) h.2⟩

/-- a part's place in a tree: its walk ends at m -/
structure Part (l : List Nd) (i m : Nat) : Prop where
  lt : i < l.length
  trek : Trek l [(i : Int)] i true m
  le : m ≤ l.length
theorem Tree.part {l : List Nd} (h : Tree l) {i : Nat} (hi : i < l.length) : ∃ m, Part l i m := by
  obtain ⟨p, m, a, b, c⟩ := h.at hi
  exact ⟨m, hi, Trek.one a b, c⟩
theorem Part.lt_end {l : List Nd} {i m : Nat} (h : Part l i m) : i < m := by
  obtain ⟨p, m1, a, b, c, _⟩ := h.trek.nest (List.mem_singleton.2 rfl)
  have := b.le.1
  omega
/-- the kids of the parts in a part lie in it, and behind its own place -/
theorem Part.kid_in {l : List Nd} {i m : Nat} (h : Part l i m) {j : Nat} (h1 : i ≤ j) (h2 : j < m) {p : Nd} (hp : l[j]? = some p) : ∀ k ∈ p.kids, ∃ c : Nat, k = (c : Int) ∧ j < c ∧ c < m := by
  intro k hk
  obtain ⟨q, m1, a, b, c⟩ := h.trek.inside rfl j h1 h2
  rw [hp] at a
  cases a
  obtain ⟨c', e1, e2, e3⟩ := b.kid rfl k hk
  exact ⟨c', e1, by omega, by omega⟩
/-- the kids of a part ahead of a part's place are not in it, but for the part itself -/
theorem Part.kid_ahead {l : List Nd} (T : Tree l) {i m : Nat} (h : Part l i m) {j : Nat} (h1 : j < i) {p : Nd} (hp : l[j]? = some p) : ∀ k ∈ p.kids, ∃ c : Nat, k = (c : Int) ∧ j < c ∧ c < l.length ∧ (c ≤ i ∨ m ≤ c) := by
  intro k hk
  obtain ⟨q, m1, a, b, c⟩ := T.at (lt_of_get hp)
  rw [hp] at a
  cases a
  obtain ⟨c', e1, e2, e3⟩ := b.kid rfl k hk
  refine ⟨c', e1, by omega, by omega, ?_⟩
  rcases Nat.lt_or_ge i c' with hlt | hge
  · rcases Nat.lt_or_ge c' m with hm | hm
    · exfalso
      rcases h.trek.whose rfl c' (by omega) hm with he | ⟨j', p', f1, f2, f3, f4⟩
      · have := List.mem_singleton.1 he
        omega
      · have := T.up_one (i := c') (j := j) (j' := j') ⟨p, hp, by rw [← e1]; exact hk⟩ ⟨p', f3, f4⟩
        omega
    · exact .inr hm
  · exact .inl hge
/-- the kids of a part behind a part lie behind it -/
theorem Tree.kid_behind {l : List Nd} (T : Tree l) {j : Nat} {p : Nd} (hp : l[j]? = some p) : ∀ k ∈ p.kids, ∃ c : Nat, k = (c : Int) ∧ j < c ∧ c < l.length := by
  intro k hk
  obtain ⟨q, m1, a, b, c⟩ := T.at (lt_of_get hp)
  rw [hp] at a
  cases a
  obtain ⟨c', e1, e2, e3⟩ := b.kid rfl k hk
  exact ⟨c', e1, by omega, by omega⟩

theorem Tree.sub {l : List Nd} (T : Tree l) {i m : Nat} (h : Part l i m) : Tree (subF l i m) := by
  have hlen := len_sub (i := i) h.le
  have hlt := h.lt_end
  have hget : ∀ j q, (subF l i m)[j]? = some q → j < m - i ∧ ∃ p, l[i + j]? = some p ∧ q = p.by (· + -(i : Int)) := by
    intro j q hq
    have hj := lt_of_get hq
    rw [hlen] at hj
    rw [get_sub hj] at hq
    cases hp : l[i + j]? with
    | none => rw [hp] at hq; cases hq
    | some p => rw [hp] at hq; exact ⟨hj, p, rfl, by injection hq with hq; exact hq.symm⟩
  refine ⟨?_, ?_, ?_⟩
  · intro j q hq
    obtain ⟨hj, p, hp, rfl⟩ := hget j q hq
    obtain ⟨a, b⟩ := T.bare _ _ hp
    exact ⟨a.by _, fun h0 => b (by omega)⟩
  · have := h.trek.shift (l' := subF l i m) (d := -(i : Int)) rfl 0 (m - i) (by omega) (by omega) (by
      intro j j' a b c
      obtain ⟨p, m1, hp, _⟩ := h.trek.inside rfl j a b
      refine ⟨p, hp, p.by (· + -(i : Int)), ?_, rfl⟩
      rw [get_sub (by omega), show i + j' = j by omega, hp]
      rfl)
    rw [hlen]
    have e : [(i : Int)].map (· + -(i : Int)) = [0] := by
      simp only [List.map_cons, List.map_nil]
      congr 1
      omega
    rw [e] at this
    exact this
  · intro q hq
    obtain ⟨j, hj, hjq⟩ := List.getElem_of_mem hq
    obtain ⟨hj', p, hp, rfl⟩ := hget j q (by rw [List.getElem?_eq_getElem hj, hjq])
    refine liesB_map (l := l) p.kids p.lo ?_ (T.lies p (List.mem_of_getElem? hp))
    intro k hk q hq
    obtain ⟨c, rfl, h1, h2⟩ := h.kid_in (by omega) (by omega) hp k hk
    rw [Int.toNat_natCast] at hq
    refine ⟨q.by (· + -(i : Int)), ?_, rfl, rfl⟩
    rw [show ((c : Int) + -(i : Int)).toNat = c - i by omega, get_sub (by omega), show i + (c - i) = c by omega, hq]
    rfl

section
variable {l s : List Nd} {i m : Nat}
theorem get_put_ahead (hi : i ≤ l.length) {j : Nat} (hj : j < i) : (putF l i m s)[j]? = (l[j]?).map (Nd.by (aheadK i ((s.length : Int) - ((m : Int) - i)))) := by
  unfold putF
  rw [List.getElem?_append_left (by rw [List.length_map, List.length_take]; omega), List.getElem?_map, List.getElem?_take_of_lt hj]
theorem get_put_in (hi : i ≤ l.length) {j : Nat} (hj : j < s.length) : (putF l i m s)[i + j]? = (s[j]?).map (Nd.by (· + (i : Int))) := by
  unfold putF
  rw [List.getElem?_append_right (by rw [List.length_map, List.length_take]; omega), List.length_map, List.length_take, List.getElem?_append_left (by unfold movedF; rw [List.length_map]; omega),
    show i + j - min i l.length = j by omega, get_moved]
theorem get_put_behind (hi : i ≤ l.length) (j : Nat) : (putF l i m s)[i + s.length + j]? = (l[m + j]?).map (Nd.by (· + ((s.length : Int) - ((m : Int) - i)))) := by
  unfold putF
  rw [List.getElem?_append_right (by rw [List.length_map, List.length_take]; omega), List.length_map, List.length_take, List.getElem?_append_right (by unfold movedF; rw [List.length_map]; omega)]
  have : (movedF (i : Int) s).length = s.length := by unfold movedF; rw [List.length_map]
  rw [this, show i + s.length + j - min i l.length - s.length = j by omega, get_moved, List.getElem?_drop]
theorem len_put (hi : i ≤ l.length) (hm : m ≤ l.length) : (putF l i m s).length = i + s.length + (l.length - m) := by
  unfold putF movedF
  simp only [List.length_append, List.length_map, List.length_take, List.length_drop]
  omega
/-- where a part of what was put together comes from -/
theorem put_cases (hi : i ≤ l.length) {j : Nat} {q : Nd} (hq : (putF l i m s)[j]? = some q) :
    (j < i ∧ ∃ p, l[j]? = some p ∧ q = p.by (aheadK i ((s.length : Int) - ((m : Int) - i)))) ∨
    (∃ c, j = i + c ∧ c < s.length ∧ ∃ p, s[c]? = some p ∧ q = p.by (· + (i : Int))) ∨
    (∃ c, j = i + s.length + c ∧ ∃ p, l[m + c]? = some p ∧ q = p.by (· + ((s.length : Int) - ((m : Int) - i)))) := by
  have key : ∀ {o : Option Nd} {f : Int → Int}, o.map (Nd.by f) = some q → ∃ p, o = some p ∧ q = p.by f := by
    intro o f h
    cases o with
    | none => cases h
    | some p => exact ⟨p, rfl, by injection h with h; exact h.symm⟩
  rcases Nat.lt_or_ge j i with h | h
  · rw [get_put_ahead hi h] at hq
    exact .inl ⟨h, key hq⟩
  · rcases Nat.lt_or_ge j (i + s.length) with h' | h'
    · obtain ⟨c, rfl⟩ : ∃ c, j = i + c := ⟨j - i, by omega⟩
      rw [get_put_in hi (by omega)] at hq
      exact .inr (.inl ⟨c, rfl, by omega, key hq⟩)
    · obtain ⟨c, rfl⟩ : ∃ c, j = i + s.length + c := ⟨j - (i + s.length), by omega⟩
      rw [get_put_behind hi] at hq
      exact .inr (.inr ⟨c, rfl, key hq⟩)
theorem Part.of_put (h : Part l i m) (S : Tree s) : Part (putF l i m s) i (i + s.length) := by
  have hp := S.pos
  have hl := len_put (s := s) (Nat.le_of_lt h.lt) h.le
  refine ⟨by omega, ?_, by omega⟩
  have := S.trek.shift (l' := putF l i m s) (d := (i : Int)) rfl i (i + s.length) (by omega) (by omega) (by
    intro j j' a b c
    obtain ⟨p, m1, hp, _⟩ := S.trek.inside rfl j a b
    refine ⟨p, hp, p.by (· + (i : Int)), ?_, rfl⟩
    rw [show j' = i + j by omega, get_put_in (Nat.le_of_lt h.lt) b, hp]
    rfl)
  simpa using this
theorem Tree.put (T : Tree l) (h : Part l i m) (S : Tree s) {p q : Nd} (hp : l[i]? = some p) (hq : s[0]? = some q) (e1 : q.kind = p.kind) (e2 : q.lo = p.lo) (e3 : q.hi = p.hi) : Tree (putF l i m s) := by
  have hi := Nat.le_of_lt h.lt
  have hlt := h.lt_end
  have hl := len_put (s := s) hi h.le
  have hle := h.le
  have hs := S.pos
  refine ⟨?_, ?_, ?_⟩
  · intro j x hx
    rcases put_cases hi hx with ⟨hj, y, hy, rfl⟩ | ⟨c, rfl, hc, y, hy, rfl⟩ | ⟨c, rfl, y, hy, rfl⟩
    · obtain ⟨a, b⟩ := T.bare _ _ hy
      exact ⟨a.by _, b⟩
    · obtain ⟨a, b⟩ := S.bare _ _ hy
      refine ⟨a.by _, fun h0 => ?_⟩
      rcases Nat.eq_zero_or_pos c with rfl | hc0
      · rw [hq] at hy
        cases hy
        rw [Nd.by_kind, e1]
        exact (T.bare i p hp).2 (by omega)
      · exact b hc0
    · obtain ⟨a, b⟩ := T.bare _ _ hy
      exact ⟨a.by _, fun _ => b (by omega)⟩
  · have := Trek.put (l := l) (l' := putF l i m s) (m' := i + s.length) (d := (s.length : Int) - ((m : Int) - i)) (by omega) h.trek (h.of_put S).trek
      (by
        intro j hj y hy
        refine ⟨_, (get_put_ahead hi hj).trans (by rw [hy]; rfl), rfl⟩)
      (by
        intro j j' hj hj' y hy
        obtain ⟨c, rfl⟩ : ∃ c, j = m + c := ⟨j - m, by omega⟩
        refine ⟨_, (by rw [show j' = i + s.length + c by omega]; exact (get_put_behind hi c).trans (by rw [hy]; rfl)), rfl⟩)
      T.trek rfl (Nat.zero_le _) h.lt (putF l i m s).length (by omega)
    have e : [(0 : Int)].map (aheadK (i : Int) ((s.length : Int) - ((m : Int) - i))) = [0] := by
      simp only [List.map_cons, List.map_nil, aheadK]
      rw [if_neg (by omega)]
    rw [e] at this
    exact this
  · intro x hx
    obtain ⟨j, hj, hjx⟩ := List.getElem_of_mem hx
    have hx' : (putF l i m s)[j]? = some x := by rw [List.getElem?_eq_getElem hj, hjx]
    rcases put_cases hi hx' with ⟨hj, y, hy, rfl⟩ | ⟨c, rfl, hc, y, hy, rfl⟩ | ⟨c, rfl, y, hy, rfl⟩
    · refine liesB_map (l := l) y.kids y.lo ?_ (T.lies y (List.mem_of_getElem? hy))
      intro k hk z hz
      obtain ⟨c, rfl, c1, c2, c3⟩ := h.kid_ahead T hj hy k hk
      rw [Int.toNat_natCast] at hz
      simp only [aheadK]
      rcases c3 with c3 | c3
      · rw [if_neg (by omega), Int.toNat_natCast]
        rcases Nat.eq_or_lt_of_le c3 with rfl | c4
        · rw [hp] at hz
          cases hz
          have g := get_put_in (l := l) (s := s) (m := m) hi hs
          rw [Nat.add_zero, hq] at g
          exact ⟨_, g, e2, e3⟩
        · refine ⟨z.by _, (get_put_ahead hi c4).trans (by rw [hz]; rfl), rfl, rfl⟩
      · rw [if_pos (by omega)]
        obtain ⟨c', rfl⟩ : ∃ c', c = m + c' := ⟨c - m, by omega⟩
        refine ⟨z.by _, (by rw [show ((m + c' : Nat) + ((s.length : Int) - ((m : Int) - i)) : Int).toNat = i + s.length + c' by omega]; exact (get_put_behind hi c').trans (by rw [hz]; rfl)), rfl, rfl⟩
    · refine liesB_map (l := s) y.kids y.lo ?_ (S.lies y (List.mem_of_getElem? hy))
      intro k hk z hz
      obtain ⟨c', rfl, c1, c2⟩ := S.kid_behind hy k hk
      rw [Int.toNat_natCast] at hz
      refine ⟨z.by _, (by rw [show ((c' : Int) + (i : Int)).toNat = i + c' by omega]; exact (get_put_in hi c2).trans (by rw [hz]; rfl)), rfl, rfl⟩
    · refine liesB_map (l := l) y.kids y.lo ?_ (T.lies y (List.mem_of_getElem? hy))
      intro k hk z hz
      obtain ⟨c', rfl, c1, c2⟩ := T.kid_behind hy k hk
      rw [Int.toNat_natCast] at hz
      obtain ⟨c2', rfl⟩ : ∃ c2', c' = m + c2' := ⟨c' - m, by omega⟩
      refine ⟨z.by _, (by rw [show ((m + c2' : Nat) + ((s.length : Int) - ((m : Int) - i)) : Int).toNat = i + s.length + c2' by omega]; exact (get_put_behind hi c2').trans (by rw [hz]; rfl)), rfl, rfl⟩
/-- cut out of what was put it is what was put -/
theorem sub_put (hi : i ≤ l.length) (hm : m ≤ l.length) : subF (putF l i m s) i (i + s.length) = s := by
  apply List.ext_getElem?
  intro j
  have hl := len_put (s := s) hi hm
  have hls : (subF (putF l i m s) i (i + s.length)).length = s.length := by rw [len_sub (by omega)]; omega
  rcases Nat.lt_or_ge j s.length with hj | hj
  · rw [get_sub (by omega), get_put_in hi hj, Option.map_map]
    cases s[j]? with
    | none => rfl
    | some p =>
      simp only [Option.map_some, Function.comp_apply, Nd.by_by]
      congr 1
      exact Nd.by_id fun k _ => by omega
  · rw [List.getElem?_eq_none (by omega), List.getElem?_eq_none hj]
/-- put back it is as it was -/
theorem put_put (T : Tree l) (h : Part l i m) (hs : 0 < s.length) : putF (putF l i m s) i (i + s.length) (subF l i m) = l := by
  apply List.ext_getElem?
  intro j
  have hi := Nat.le_of_lt h.lt
  have hlt := h.lt_end
  have hle := h.le
  have hl := len_put (s := s) hi h.le
  have hsub := len_sub (i := i) h.le
  have hl2 := len_put (l := putF l i m s) (s := subF l i m) (i := i) (m := i + s.length) (by omega) (by omega)
  rcases Nat.lt_or_ge j i with hj | hj
  · rw [get_put_ahead (by omega) hj, get_put_ahead hi hj, Option.map_map]
    cases hp : l[j]? with
    | none => rfl
    | some p =>
      simp only [Option.map_some, Function.comp_apply, Nd.by_by]
      congr 1
      refine Nd.by_id fun k hk => ?_
      obtain ⟨c, rfl, c1, c2, c3⟩ := h.kid_ahead T hj hp k hk
      rw [hsub]
      rcases c3 with c3 | c3
      · have e : aheadK (i : Int) ((s.length : Int) - ((m : Int) - i)) (c : Int) = (c : Int) := if_neg (by omega)
        rw [e]
        exact if_neg (by omega)
      · have e : aheadK (i : Int) ((s.length : Int) - ((m : Int) - i)) (c : Int) = (c : Int) + ((s.length : Int) - ((m : Int) - i)) := if_pos (by omega)
        rw [e]
        refine (if_pos (by omega)).trans ?_
        omega
  · rcases Nat.lt_or_ge j m with hm | hm
    · obtain ⟨c, rfl⟩ : ∃ c, j = i + c := ⟨j - i, by omega⟩
      rw [get_put_in (by omega) (by omega), get_sub (by omega), Option.map_map]
      cases l[i + c]? with
      | none => rfl
      | some p =>
        simp only [Option.map_some, Function.comp_apply, Nd.by_by]
        congr 1
        exact Nd.by_id fun k _ => by omega
    · obtain ⟨c, rfl⟩ : ∃ c, j = m + c := ⟨j - m, by omega⟩
      have g := get_put_behind (l := putF l i m s) (s := subF l i m) (i := i) (m := i + s.length) (by omega) c
      rw [hsub, show i + (m - i) + c = m + c by omega, get_put_behind hi, Option.map_map] at g
      rw [g]
      cases l[m + c]? with
      | none => rfl
      | some p =>
        simp only [Option.map_some, Function.comp_apply, Nd.by_by]
        congr 1
        exact Nd.by_id fun k _ => by omega
/-- put of what was cut out changes nothing -/
theorem put_sub (h : Part l i m) : putF l i m (subF l i m) = l := by
  apply List.ext_getElem?
  intro j
  have hi := Nat.le_of_lt h.lt
  have hlt := h.lt_end
  have hle := h.le
  have hsub := len_sub (i := i) h.le
  have hid : ∀ {f : Int → Int} (o : Option Nd), (∀ k, f k = k) → o.map (Nd.by f) = o := by
    intro f o hf
    cases o with
    | none => rfl
    | some p => exact congrArg some (Nd.by_id fun k _ => hf k)
  rcases Nat.lt_or_ge j i with hj | hj
  · rw [get_put_ahead hi hj]
    refine hid _ fun k => ?_
    rw [hsub]
    simp only [aheadK]
    split <;> omega
  · rcases Nat.lt_or_ge j m with hm | hm
    · obtain ⟨c, rfl⟩ : ∃ c, j = i + c := ⟨j - i, by omega⟩
      rw [get_put_in hi (by omega), get_sub (by omega), Option.map_map]
      cases l[i + c]? with
      | none => rfl
      | some p =>
        simp only [Option.map_some, Function.comp_apply, Nd.by_by]
        congr 1
        exact Nd.by_id fun k _ => by omega
    · obtain ⟨c, rfl⟩ : ∃ c, j = m + c := ⟨j - m, by omega⟩
      have g := get_put_behind (l := l) (s := subF l i m) (i := i) (m := m) hi c
      rw [hsub, show i + (m - i) + c = m + c by omega] at g
      rw [g]
      exact hid _ fun k => by omega
end
end Go.Proofs.Ytggmljookcmnkaa

/- Trees as lists: what an edit makes of one. No program is named here. -/
namespace Go.Proofs.Ytggmljookcmnkaa

/-- an edit, and what it does to the bits of a part that it meets -/
structure Ed where
  a : Int
  d : Int
  i : Int
  om : Int → Int
/-- where a beginning, an end moves -/
def stF (x : Int) (E : Ed) : Int := if x < E.a then x else if E.a + E.d ≤ x then x - E.d + E.i else E.a + E.i
def enF (x : Int) (E : Ed) : Int := if x ≤ E.a then x else if E.a + E.d ≤ x then x - E.d + E.i else E.a
/-- an edit meets a span -/
def Meet (f t : Int) (E : Ed) : Prop := (0 < E.d ∧ E.a < t ∧ f < E.a + E.d) ∨ (0 < E.i ∧ f < E.a ∧ E.a < t)
instance (f t : Int) (E : Ed) : Decidable (Meet f t E) := inferInstanceAs (Decidable (_ ∨ _))
def ownLo (p : Nd) : Int := if p.kind = 1 then -1 else p.lo
def loE (E : Ed) (p : Nd) : Int := if p.kind = 1 then 0 else stF p.lo E
def hiE (E : Ed) (to : Int) (p : Nd) : Int := if p.kind = 1 then max 0 (max to (p.hi - E.d + E.i)) else max (loE E p) (max to (enF p.hi E))
def lookE (E : Ed) (p : Nd) : Int := if p.kind = 1 then 1 else if Meet (ownLo p) p.look E then max (max (loE E p + 1) (enF p.look E)) (E.a + 1) else max (loE E p + 1) (enF p.look E)
def innE (E : Ed) (to : Int) (p : Nd) : Int := if p.inn = p.lo then loE E p else min (max (loE E p) (stF p.inn E)) (hiE E to p)
def metE (E : Ed) (p : Nd) : Int := if Meet (ownLo p) p.look E then E.om p.met else p.met
/-- a part behind an edit; to: how far its kids go then -/
def editedF (E : Ed) (to : Int) (p : Nd) : Nd := { sym := p.sym, kind := p.kind, lo := loE E p, inn := innE E to p, hi := hiE E to p, look := lookE E p, kids := p.kids, met := metE E p }
def hiAt (l : List Nd) (k : Int) : Int := ((l[k.toNat]?).map (·.hi)).getD 0
def maxTo (l : List Nd) (ks : List Int) : Int := ks.foldl (fun t k => max t (hiAt l k)) 0
/-- a tree's parts behind an edit -/
def EditedR (E : Ed) (l out : List Nd) : Prop := out.length = l.length ∧ ∀ (j : Nat) (p : Nd), l[j]? = some p → out[j]? = some (editedF E (maxTo out p.kids) p)

theorem foldl_max (f : Int → Int) : ∀ (ks : List Int) (t : Int), t ≤ ks.foldl (fun t k => max t (f k)) t ∧ (∀ k ∈ ks, f k ≤ ks.foldl (fun t k => max t (f k)) t) ∧ ∀ B, t ≤ B → (∀ k ∈ ks, f k ≤ B) → ks.foldl (fun t k => max t (f k)) t ≤ B
  | [], t => ⟨Int.le_refl _, fun k hk => (by cases hk), fun B h _ => h⟩
  | k :: ks, t => by
    obtain ⟨h1, h2, h3⟩ := foldl_max f ks (max t (f k))
    rw [List.foldl_cons]
    refine ⟨by omega, fun k' hk' => ?_, fun B hB hk' => h3 B ?_ fun k'' hk'' => hk' k'' (List.mem_cons_of_mem _ hk'')⟩
    · rcases List.mem_cons.1 hk' with rfl | hk'
      · omega
      · exact h2 k' hk'
    · have := hk' k (List.mem_cons_self ..)
      omega
theorem maxTo_nonneg (l : List Nd) (ks : List Int) : 0 ≤ maxTo l ks := (foldl_max (hiAt l) ks 0).1
theorem maxTo_ge (l : List Nd) {ks : List Int} {k : Int} (hk : k ∈ ks) : hiAt l k ≤ maxTo l ks := (foldl_max (hiAt l) ks 0).2.1 k hk
theorem maxTo_le (l : List Nd) {ks : List Int} {B : Int} (h0 : 0 ≤ B) (h : ∀ k ∈ ks, hiAt l k ≤ B) : maxTo l ks ≤ B := (foldl_max (hiAt l) ks 0).2.2 B h0 h

theorem maxTo_congr {l l' : List Nd} {ks : List Int} (h : ∀ k ∈ ks, hiAt l k = hiAt l' k) : maxTo l ks = maxTo l' ks := by
  unfold maxTo
  suffices ∀ t, ks.foldl (fun t k => max t (hiAt l k)) t = ks.foldl (fun t k => max t (hiAt l' k)) t from this 0
  induction ks with
  | nil => intro t; rfl
  | cons k ks ih =>
    intro t
    rw [List.foldl_cons, List.foldl_cons, h k (List.mem_cons_self ..)]
    exact ih (fun k hk => h k (List.mem_cons_of_mem _ hk)) _
/-- there is one at most -/
theorem EditedR.one {E : Ed} {l a b : List Nd} (T : Tree l) (ha : EditedR E l a) (hb : EditedR E l b) : a = b := by
  have key : ∀ (n j : Nat), l.length - j ≤ n → a[j]? = b[j]? := by
    intro n
    induction n with
    | zero => intro j hj; rw [List.getElem?_eq_none (by have := ha.1; omega), List.getElem?_eq_none (by have := hb.1; omega)]
    | succ n ih =>
      intro j hj
      rcases Nat.lt_or_ge j l.length with hlt | hge
      · obtain ⟨p, hp⟩ : ∃ p, l[j]? = some p := ⟨_, List.getElem?_eq_getElem hlt⟩
        rw [ha.2 j p hp, hb.2 j p hp]
        congr 2
        refine maxTo_congr fun k hk => ?_
        obtain ⟨c, rfl, h1, h2⟩ := T.kid_behind hp k hk
        simp only [hiAt, Int.toNat_natCast]
        rw [ih c (by omega)]
      · rw [List.getElem?_eq_none (by have := ha.1; omega), List.getElem?_eq_none (by have := hb.1; omega)]
  exact List.ext_getElem? fun j => key (l.length - j) j (Nat.le_refl _)

theorem stF_mono {E : Ed} (_ha : 0 ≤ E.a) (_hd : 0 ≤ E.d) (hi : 0 ≤ E.i) {x y : Int} (h : x ≤ y) : stF x E ≤ stF y E := by
  unfold stF
  split <;> split <;> first | omega | (split <;> first | omega | (split <;> omega))
theorem en_le_st {E : Ed} (_ha : 0 ≤ E.a) (hd : 0 ≤ E.d) (hi : 0 ≤ E.i) (x : Int) : enF x E ≤ stF x E := by
  unfold stF enF
  split <;> split <;> first | omega | (split <;> first | omega | (split <;> omega))
theorem stF_nonneg {E : Ed} (ha : 0 ≤ E.a) (hi : 0 ≤ E.i) (_hd : 0 ≤ E.d) {x : Int} (h : 0 ≤ x) : 0 ≤ stF x E := by
  unfold stF
  split <;> first | omega | (split <;> omega)

theorem liesB_mem {l : List Nd} {hi : Int} (hb : ∀ q ∈ l, q.lo ≤ q.hi) : ∀ (ks : List Int) (a : Int), liesB l hi a ks = true → a ≤ hi ∧ ∀ k ∈ ks, ∃ q, l[k.toNat]? = some q ∧ a ≤ q.lo ∧ q.hi ≤ hi
  | [], a, h => ⟨by unfold liesB at h; exact of_decide_eq_true h, fun k hk => (by cases hk)⟩
  | k :: ks, a, h => by
    unfold liesB at h
    cases hq : l[k.toNat]? with
    | none => rw [hq] at h; cases h
    | some q =>
      rw [hq] at h
      simp only [Bool.and_eq_true, decide_eq_true_eq] at h
      obtain ⟨h1, h2⟩ := liesB_mem hb ks q.hi h.2
      have hqb := hb q (List.mem_of_getElem? hq)
      refine ⟨by omega, fun k' hk' => ?_⟩
      rcases List.mem_cons.1 hk' with rfl | hk'
      · exact ⟨q, hq, h.1, h1⟩
      · obtain ⟨q', a1, a2, a3⟩ := h2 k' hk'
        exact ⟨q', a1, by omega, a3⟩
/-- kids lie one behind the other behind an edit, too -/
theorem lies_edited {E : Ed} (ha : 0 ≤ E.a) (hd : 0 ≤ E.d) (hi0 : 0 ≤ E.i) {l out : List Nd} {hi hi' : Int} : ∀ (ks : List Int) (a a' : Int), a' ≤ stF a E → a' ≤ hi' →
    (∀ k ∈ ks, ∀ q, l[k.toNat]? = some q → ∃ q', out[k.toNat]? = some q' ∧ q'.lo = stF q.lo E ∧ q'.hi ≤ stF q.hi E ∧ q'.hi ≤ hi') → liesB l hi a ks = true → liesB out hi' a' ks = true
  | [], a, a', _, h, _, _ => by unfold liesB; exact decide_eq_true h
  | k :: ks, a, a', h1, h2, hc, h => by
    unfold liesB at h ⊢
    cases hq : l[k.toNat]? with
    | none => rw [hq] at h; cases h
    | some q =>
      rw [hq] at h
      simp only [Bool.and_eq_true, decide_eq_true_eq] at h
      obtain ⟨q', g1, g2, g3, g4⟩ := hc k (List.mem_cons_self ..) q hq
      rw [g1]
      simp only [Bool.and_eq_true, decide_eq_true_eq]
      refine ⟨?_, lies_edited ha hd hi0 ks q.hi q'.hi g3 g4 (fun k hk => hc k (List.mem_cons_of_mem _ hk)) h.2⟩
      have := stF_mono (E := E) ha hd hi0 h.1
      omega

theorem Trek.congr {l l' : List Nd} {ks : List Int} {n m : Nat} {ok : Bool} (h : Trek l ks n ok m) (hl : l'.length = l.length) (hc : ∀ (j : Nat) (p : Nd), l[j]? = some p → ∃ q, l'[j]? = some q ∧ q.kids = p.kids) : Trek l' ks n ok m := by
  induction h with
  | nil n => exact .nil n
  | bad k ks n hb => exact .bad k ks n (by rw [hl]; exact hb)
  | sub p ks n m hp h1 ih =>
    obtain ⟨q, hq, hk⟩ := hc n p hp
    exact .sub q ks n m hq (by rw [hk]; exact ih)
  | cons p ks n m ok e hp h1 h2 ih1 ih2 =>
    obtain ⟨q, hq, hk⟩ := hc n p hp
    exact .cons q ks n m ok e hq (by rw [hk]; exact ih1) ih2

theorem Tree.ord {l : List Nd} (T : Tree l) : ∀ q ∈ l, q.lo ≤ q.hi := by
  intro q hq
  obtain ⟨j, hj, rfl⟩ := List.getElem_of_mem hq
  have := (T.bare j _ (List.getElem?_eq_getElem hj)).1
  unfold Bare at this
  omega
section
variable {E : Ed} {l out : List Nd}
/-- where an inner part lies behind an edit -/
theorem edited_key (T : Tree l) (ha : 0 ≤ E.a) (hd : 0 ≤ E.d) (hi : 0 ≤ E.i) (h : EditedR E l out) : ∀ (n j : Nat), l.length - j ≤ n → ∀ p q, l[j]? = some p → out[j]? = some q → p.kind ≠ 1 → q.lo = stF p.lo E ∧ q.hi ≤ stF p.hi E := by
  intro n
  induction n with
  | zero => intro j hj p q hp; have := lt_of_get hp; omega
  | succ n ih =>
    intro j hj p q hp hq hk
    have e := h.2 j p hp
    rw [hq] at e
    injection e with e
    subst e
    have hlo : loE E p = stF p.lo E := by unfold loE; rw [if_neg hk]
    refine ⟨hlo, ?_⟩
    show hiE E _ p ≤ _
    unfold hiE
    rw [if_neg hk, hlo]
    have hb := (T.bare j p hp).1
    have h1 : stF p.lo E ≤ stF p.hi E := stF_mono ha hd hi (by unfold Bare at hb; omega)
    have h2 := en_le_st ha hd hi p.hi
    have h0 : 0 ≤ stF p.hi E := stF_nonneg ha hi hd (by unfold Bare at hb; omega)
    have h3 : maxTo out p.kids ≤ stF p.hi E := by
      refine maxTo_le out h0 fun k hk' => ?_
      obtain ⟨c, rfl, c1, c2⟩ := T.kid_behind hp k hk'
      obtain ⟨y, hy, y1, y2⟩ := (liesB_mem T.ord p.kids p.lo (T.lies p (List.mem_of_getElem? hp))).2 _ hk'
      rw [Int.toNat_natCast] at hy
      have hk2 := (T.bare c y hy).2 (by omega)
      have hz := h.2 c y hy
      have := (ih c (by omega) y _ hy hz hk2).2
      simp only [hiAt, Int.toNat_natCast]
      rw [hz]
      have := stF_mono (E := E) ha hd hi y2
      simp only [Option.map_some, Option.getD_some]
      omega
    omega
theorem edited_tree (T : Tree l) (ha : 0 ≤ E.a) (hd : 0 ≤ E.d) (hi : 0 ≤ E.i) (h : EditedR E l out) : Tree out := by
  have hget : ∀ (j : Nat) (q : Nd), out[j]? = some q → ∃ p, l[j]? = some p ∧ q = editedF E (maxTo out p.kids) p := by
    intro j q hq
    have hj := lt_of_get hq
    rw [h.1] at hj
    have e := h.2 j _ (List.getElem?_eq_getElem hj)
    rw [hq] at e
    injection e with e
    exact ⟨_, List.getElem?_eq_getElem hj, e⟩
  refine ⟨?_, ?_, ?_⟩
  · intro j q hq
    obtain ⟨p, hp, rfl⟩ := hget j q hq
    obtain ⟨b, r⟩ := T.bare j p hp
    refine ⟨?_, r⟩
    have hto := maxTo_nonneg out p.kids
    have hlo : 0 ≤ loE E p := by
      unfold loE
      split
      · omega
      · exact stF_nonneg ha hi hd (by unfold Bare at b; omega)
    have hlh : loE E p ≤ hiE E (maxTo out p.kids) p := by
      unfold hiE
      split
      · rename_i hk; unfold loE; rw [if_pos hk]; omega
      · omega
    have hlk : loE E p < lookE E p := by
      unfold lookE
      split
      · rename_i hk; unfold loE; rw [if_pos hk]; omega
      · split <;> omega
    obtain ⟨b1, b2, b3, b4, b5, b6, b7, b8, b9⟩ := b
    refine ⟨b1, b2, hlo, hlh, hlk, fun _ => ?_, fun ht => ?_, fun hk => ?_, b9⟩
    · show loE E p ≤ innE E _ p ∧ innE E _ p ≤ hiE E _ p
      unfold innE
      split <;> omega
    · show innE E _ p = loE E p
      unfold innE
      rw [if_pos (b7 ht)]
    · show loE E p = hiE E _ p
      have hk' : p.kind = 4 := hk
      have h9 : p.kids.length = 0 := b9 (show LeafK p.kind by unfold LeafK; omega)
      have h90 : p.kids = [] := List.eq_nil_of_length_eq_zero h9
      have e8 := b8 hk'
      unfold hiE
      rw [if_neg (by omega), h90]
      have : maxTo out [] = 0 := rfl
      rw [this]
      have h2 := en_le_st (E := E) ha hd hi p.hi
      have hl : loE E p = stF p.hi E := by unfold loE; rw [if_neg (by omega), e8]
      omega
  · rw [h.1]
    exact T.trek.congr h.1 fun j p hp => ⟨_, h.2 j p hp, rfl⟩
  · intro q hq
    obtain ⟨j, hj, hjq⟩ := List.getElem_of_mem hq
    obtain ⟨p, hp, rfl⟩ := hget j q (by rw [List.getElem?_eq_getElem hj, hjq])
    obtain ⟨b, r⟩ := T.bare j p hp
    have hl := T.lies p (List.mem_of_getElem? hp)
    refine lies_edited (E := E) (l := l) ha hd hi p.kids p.lo _ ?_ ?_ ?_ hl
    · show loE E p ≤ _
      unfold loE
      split
      · exact stF_nonneg ha hi hd (by unfold Bare at b; omega)
      · omega
    · show loE E p ≤ hiE E _ p
      unfold hiE
      split
      · rename_i hk; unfold loE; rw [if_pos hk]; omega
      · omega
    · intro k hk y hy
      obtain ⟨c, rfl, c1, c2⟩ := T.kid_behind hp k hk
      rw [Int.toNat_natCast] at hy ⊢
      have hz := h.2 c y hy
      obtain ⟨z1, z2⟩ := edited_key T ha hd hi h _ c (Nat.le_refl _) y _ hy hz ((T.bare c y hy).2 (by omega))
      refine ⟨_, hz, z1, z2, ?_⟩
      have := maxTo_ge out hk
      simp only [hiAt, Int.toNat_natCast] at this
      rw [hz] at this
      simp only [Option.map_some, Option.getD_some] at this
      refine Int.le_trans this ?_
      show maxTo out p.kids ≤ hiE E _ p
      unfold hiE
      split <;> omega
/-- how far the root goes -/
theorem edited_root (T : Tree l) (ha : 0 ≤ E.a) (hd : 0 ≤ E.d) (hi : 0 ≤ E.i) (h : EditedR E l out) {p q : Nd} (hp : l[0]? = some p) (hq : out[0]? = some q) (hk : p.kind = 1) (hin : E.a + E.d ≤ p.hi) : q.lo = 0 ∧ q.hi = p.hi - E.d + E.i := by
  have e := h.2 0 p hp
  rw [hq] at e
  injection e with e
  subst e
  refine ⟨by show loE E p = 0; unfold loE; rw [if_pos hk], ?_⟩
  show hiE E _ p = _
  unfold hiE
  rw [if_pos hk]
  have hs : stF p.hi E = p.hi - E.d + E.i := by
    unfold stF
    rw [if_neg (by omega), if_pos (by omega)]
  have : maxTo out p.kids ≤ p.hi - E.d + E.i := by
    refine maxTo_le out (by omega) fun k hk' => ?_
    obtain ⟨c, rfl, c1, c2⟩ := T.kid_behind hp k hk'
    obtain ⟨y, hy, y1, y2⟩ := (liesB_mem T.ord p.kids p.lo (T.lies p (List.mem_of_getElem? hp))).2 _ hk'
    rw [Int.toNat_natCast] at hy
    have hz := h.2 c y hy
    have h2 := (edited_key T ha hd hi h _ c (Nat.le_refl _) y _ hy hz ((T.bare c y hy).2 (by omega))).2
    simp only [hiAt, Int.toNat_natCast]
    rw [hz]
    have := stF_mono (E := E) ha hd hi y2
    simp only [Option.map_some, Option.getD_some]
    omega
  omega
/-- what is not met keeps its shape -/
theorem edited_shape (T : Tree l) (ha : 0 ≤ E.a) (hd : 0 ≤ E.d) (hi : 0 ≤ E.i) (h : EditedR E l out) {j : Nat} {p q : Nd} (hp : l[j]? = some p) (hq : out[j]? = some q) (hk : p.kind ≠ 1) (hm : ¬ Meet (ownLo p) p.look E)
    (hl : p.hi < p.look) (hx : p.hi ≠ E.a ∨ p.lo = p.hi) : q.hi - p.hi = q.lo - p.lo := by
  have e := h.2 j p hp
  rw [hq] at e
  injection e with e
  subst e
  show hiE E _ p - p.hi = loE E p - p.lo
  have ho : ownLo p = p.lo := by unfold ownLo; rw [if_neg hk]
  rw [ho] at hm
  have hlo : loE E p = stF p.lo E := by unfold loE; rw [if_neg hk]
  have hb := (T.bare j p hp).1
  have h1 : 0 ≤ p.lo ∧ p.lo ≤ p.hi := by unfold Bare at hb; omega
  have hto : maxTo out p.kids ≤ stF p.hi E := by
    refine maxTo_le out (stF_nonneg ha hi hd (by omega)) fun k hk' => ?_
    obtain ⟨c, rfl, c1, c2⟩ := T.kid_behind hp k hk'
    obtain ⟨y, hy, y1, y2⟩ := (liesB_mem T.ord p.kids p.lo (T.lies p (List.mem_of_getElem? hp))).2 _ hk'
    rw [Int.toNat_natCast] at hy
    have hz := h.2 c y hy
    have h2 := (edited_key T ha hd hi h _ c (Nat.le_refl _) y _ hy hz ((T.bare c y hy).2 (by omega))).2
    simp only [hiAt, Int.toNat_natCast]
    rw [hz]
    have := stF_mono (E := E) ha hd hi y2
    simp only [Option.map_some, Option.getD_some]
    omega
  have h0 := maxTo_nonneg out p.kids
  unfold hiE
  rw [if_neg hk, hlo]
  unfold Meet at hm
  generalize maxTo out p.kids = to at *
  unfold stF enF at *
  split <;> split <;> (try split) <;> (try split) <;> (split at hto) <;> (try split at hto) <;> omega
end
end Go.Proofs.Ytggmljookcmnkaa

/- Trees as lists: whose a part is, its way, what is stale. No program is named here. -/
namespace Go.Proofs.Ytggmljookcmnkaa

def ParOk (l : List Nd) (us : List Int) : Prop := us.length = l.length ∧ us[0]? = some (-1) ∧ ∀ i j : Nat, Up l i j → us[i]? = some (j : Int)
theorem Tree.up' {l : List Nd} (T : Tree l) {i : Nat} (h0 : 0 < i) (hi : i < l.length) : ∃ j, Up l i j ∧ j < i := by
  obtain ⟨j, p, a, b, c⟩ := T.up h0 hi
  exact ⟨j, ⟨p, b, c⟩, a⟩
theorem ParOk.one {l : List Nd} {a b : List Int} (T : Tree l) (ha : ParOk l a) (hb : ParOk l b) : a = b := by
  apply List.ext_getElem?
  intro i
  rcases Nat.lt_or_ge i l.length with h | h
  · rcases Nat.eq_zero_or_pos i with rfl | h0
    · rw [ha.2.1, hb.2.1]
    · obtain ⟨j, hu, _⟩ := T.up' h0 h
      rw [ha.2.2 i j hu, hb.2.2 i j hu]
  · rw [List.getElem?_eq_none (by have := ha.1; omega), List.getElem?_eq_none (by have := hb.1; omega)]
/-- the symbols on the way to a part -/
inductive Way (l : List Nd) : Nat → List Int → Prop
  | root (p : Nd) : l[0]? = some p → Way l 0 [p.sym]
  | step (i j : Nat) (p : Nd) (ws : List Int) : Up l i j → l[i]? = some p → Way l j ws → Way l i (ws ++ [p.sym])
theorem Way.all {l : List Nd} (T : Tree l) : ∀ (n i : Nat), i ≤ n → i < l.length → ∃ ws, Way l i ws := by
  intro n
  induction n with
  | zero =>
    intro i hi hl
    obtain rfl : i = 0 := by omega
    exact ⟨_, .root _ (List.getElem?_eq_getElem hl)⟩
  | succ n ih =>
    intro i hi hl
    rcases Nat.eq_zero_or_pos i with rfl | h0
    · exact ⟨_, .root _ (List.getElem?_eq_getElem hl)⟩
    · obtain ⟨j, hu, hj⟩ := T.up' h0 hl
      obtain ⟨ws, hw⟩ := ih j (by omega) (by omega)
      exact ⟨_, .step i j _ ws hu (List.getElem?_eq_getElem hl) hw⟩
theorem Way.det {l : List Nd} (T : Tree l) {i : Nat} {a : List Int} (h : Way l i a) : ∀ {b : List Int}, Way l i b → b = a := by
  induction h with
  | root p hp =>
    intro b hb
    cases hb with
    | root q hq => rw [hp] at hq; cases hq; rfl
    | step _ j q ws hu _ _ => have := T.up_lt hu; omega
  | step i j p ws hu hp _ ih =>
    intro b hb
    cases hb with
    | root q hq => have := T.up_lt hu; omega
    | step _ j' q ws' hu' hq hw' =>
      have := T.up_one hu hu'
      subst this
      rw [hp] at hq
      cases hq
      rw [ih hw']
theorem Way.ends {l : List Nd} {i : Nat} {ws : List Int} (h : Way l i ws) : ∃ p us, l[i]? = some p ∧ ws = us ++ [p.sym] := by
  cases h with
  | root p hp => exact ⟨p, [], hp, rfl⟩
  | step _ j p us hu hp _ => exact ⟨p, us, hp, rfl⟩
theorem Way.length {l : List Nd} (T : Tree l) {i : Nat} {ws : List Int} (h : Way l i ws) : ws.length ≤ i + 1 := by
  induction h with
  | root p hp => simp
  | step i j p ws hu hp _ ih =>
    have := T.up_lt hu
    rw [List.length_append]
    simp only [List.length_singleton]
    omega
/-- what is behind a part ends in whose it is -/
theorem Part.nest {l : List Nd} {i j m m' : Nat} (h : Part l i m) (h' : Part l j m') (hu : Up l i j) : m ≤ m' := by
  obtain ⟨p, hp, hk⟩ := hu
  have t := Trek.ofOne hp h'.trek
  obtain ⟨q, m2, a, b, c, _⟩ := t.nest hk
  have := (h.trek.det (Trek.one a b)).2
  omega
theorem Part.det {l : List Nd} {i m m' : Nat} (h : Part l i m) (h' : Part l i m') : m' = m := (h.trek.det h'.trek).2
/-- down by the last kids: the end is the same -/
theorem Part.last {l : List Nd} {i m : Nat} (h : Part l i m) {p : Nd} (hp : l[i]? = some p) {k : Int} (hk : p.kids.getLast? = some k) : ∃ c : Nat, k = (c : Int) ∧ i < c ∧ Part l c m := by
  have t := Trek.ofOne hp h.trek
  obtain ⟨ks, e⟩ : ∃ ks, p.kids = ks ++ [k] := ⟨p.kids.dropLast, by
    have hne : p.kids ≠ [] := by intro h0; rw [h0] at hk; cases hk
    rw [List.getLast?_eq_some_getLast hne] at hk
    injection hk with hk
    rw [← hk]
    exact (List.dropLast_concat_getLast hne).symm⟩
  rw [e] at t
  obtain ⟨m1, t1, t2⟩ := t.split ks
  obtain ⟨rfl, hl⟩ := t2.first
  have := t1.le.1
  exact ⟨m1, rfl, by omega, hl, t2, h.le⟩
theorem Part.leaf {l : List Nd} {i m : Nat} (h : Part l i m) {p : Nd} (hp : l[i]? = some p) (hk : p.kids = []) : m = i + 1 := by
  have t := Trek.ofOne hp h.trek
  rw [hk] at t
  cases t
  rfl

/-- of each part, is it stale -/
def StaleOk (l : List Nd) (st : List Bool) : Prop := st.length = l.length ∧ ∀ (j : Nat) (p : Nd), l[j]? = some p → st[j]? = some (decide (p.met ≠ 0) || p.kids.any fun k => (st[k.toNat]?).getD false)
theorem any_congr' {ks : List Int} {f g : Int → Bool} (h : ∀ k ∈ ks, f k = g k) : ks.any f = ks.any g := by
  induction ks with
  | nil => rfl
  | cons k ks ih => rw [List.any_cons, List.any_cons, h k (List.mem_cons_self ..), ih fun k hk => h k (List.mem_cons_of_mem _ hk)]
theorem StaleOk.one {l : List Nd} {a b : List Bool} (T : Tree l) (ha : StaleOk l a) (hb : StaleOk l b) : a = b := by
  have key : ∀ (n j : Nat), l.length - j ≤ n → a[j]? = b[j]? := by
    intro n
    induction n with
    | zero => intro j hj; rw [List.getElem?_eq_none (by have := ha.1; omega), List.getElem?_eq_none (by have := hb.1; omega)]
    | succ n ih =>
      intro j hj
      rcases Nat.lt_or_ge j l.length with hlt | hge
      · obtain ⟨p, hp⟩ : ∃ p, l[j]? = some p := ⟨_, List.getElem?_eq_getElem hlt⟩
        rw [ha.2 j p hp, hb.2 j p hp]
        congr 2
        refine any_congr' fun k hk => ?_
        obtain ⟨c, rfl, h1, h2⟩ := T.kid_behind hp k hk
        rw [Int.toNat_natCast, ih c (by omega)]
      · rw [List.getElem?_eq_none (by have := ha.1; omega), List.getElem?_eq_none (by have := hb.1; omega)]
  exact List.ext_getElem? fun j => key (l.length - j) j (Nat.le_refl _)
theorem StaleOk.met {l : List Nd} {st : List Bool} (h : StaleOk l st) {j : Nat} {p : Nd} (hp : l[j]? = some p) (hs : st[j]? = some false) : p.met = 0 := by
  rw [h.2 j p hp] at hs
  injection hs with hs
  simp only [Bool.or_eq_false_iff, decide_eq_false_iff_not, ne_eq, Decidable.not_not] at hs
  exact hs.1
/-- without bits nothing is stale -/
theorem StaleOk.none {l : List Nd} {st : List Bool} (T : Tree l) (h : StaleOk l st) (h0 : ∀ p ∈ l, p.met = 0) : ∀ (j : Nat), j < l.length → st[j]? = some false := by
  have key : ∀ (n j : Nat), l.length - j ≤ n → j < l.length → st[j]? = some false := by
    intro n
    induction n with
    | zero => intro j hj; omega
    | succ n ih =>
      intro j hj hlt
      obtain ⟨p, hp⟩ : ∃ p, l[j]? = some p := ⟨_, List.getElem?_eq_getElem hlt⟩
      rw [h.2 j p hp]
      congr 1
      rw [Bool.or_eq_false_iff]
      refine ⟨decide_eq_false fun hc => hc (h0 p (List.mem_of_getElem? hp)), ?_⟩
      rw [List.any_eq_false]
      intro k hk
      obtain ⟨c, rfl, h1, h2⟩ := T.kid_behind hp k hk
      rw [Int.toNat_natCast, ih c (by omega) h2]
      simp
  exact fun j => key (l.length - j) j (Nat.le_refl _)
end Go.Proofs.Ytggmljookcmnkaa

/- What the document's 'end' tells of a tree. No program is named here. -/
namespace Go.Proofs.Ytggmljookcmnkaa

/-- the kids of all parts from n to m lie one behind the other -/
def LiesIn (l : List Nd) (n m : Nat) : Prop := ∀ (j : Nat) (q : Nd), n ≤ j → j < m → l[j]? = some q → liesB l q.hi q.lo q.kids = true
theorem LiesIn.split {l : List Nd} {a b c : Nat} (h1 : a ≤ b) (h2 : b ≤ c) : LiesIn l a c ↔ LiesIn l a b ∧ LiesIn l b c := by
  refine ⟨fun h => ⟨fun j q hj hj2 => h j q hj (by omega), fun j q hj hj2 => h j q (by omega) hj2⟩, fun ⟨h, h'⟩ j q hj hj2 hq => ?_⟩
  rcases Nat.lt_or_ge j b with hb | hb
  · exact h j q hj hb hq
  · exact h' j q hb hj2 hq
open Classical in
/-- the end of what lies in kids that a walk went through, -1 where they do not lie as they should -/
noncomputable def endR (l : List Nd) (n m : Nat) (ok : Bool) (hi at' : Int) (ks : List Int) : Int :=
  if ok = true ∧ LiesIn l n m ∧ liesB l hi at' ks = true then (m : Int) else -1
theorem endR_nil {l : List Nd} {n m : Nat} {ok : Bool} {hi at' : Int} (h : Trek l [] n ok m) : endR l n m ok hi at' [] = if at' ≤ hi then (n : Int) else -1 := by
  cases h
  have h0 : LiesIn l n n := fun j q h1 h2 => by omega
  have h1 : liesB l hi at' [] = decide (at' ≤ hi) := by rw [liesB]
  unfold endR
  by_cases hx : at' ≤ hi
  · rw [if_pos hx, if_pos ⟨rfl, h0, by rw [h1]; exact decide_eq_true hx⟩]
  · rw [if_neg hx, if_neg (fun hc => hx (of_decide_eq_true (h1 ▸ hc.2.2)))]
theorem endR_bad {l : List Nd} {n m : Nat} {ok : Bool} {hi at' k : Int} {ks : List Int} (h : Trek l (k :: ks) n ok m) (hb : k ≠ (n : Int) ∨ l.length ≤ n) : endR l n m ok hi at' (k :: ks) = -1 := by
  obtain ⟨rfl, _⟩ := h.stop hb
  unfold endR
  simp
theorem endR_ahead {l : List Nd} {n m : Nat} {ok : Bool} {hi at' : Int} {ks : List Int} {q : Nd} (hq : l[n]? = some q) (hb : q.lo < at') : endR l n m ok hi at' ((n : Int) :: ks) = -1 := by
  unfold endR
  rw [if_neg]
  rintro ⟨_, _, h⟩
  unfold liesB at h
  rw [Int.toNat_natCast, hq] at h
  simp only [Bool.and_eq_true, decide_eq_true_eq] at h
  omega
theorem liesB_cons {l : List Nd} {n : Nat} {q : Nd} {hi at' : Int} {ks : List Int} (hq : l[n]? = some q) (hb : at' ≤ q.lo) : (liesB l hi at' ((n : Int) :: ks) = true) ↔ liesB l hi q.hi ks = true := by
  have : liesB l hi at' ((n : Int) :: ks) = (decide (at' ≤ q.lo) && liesB l hi q.hi ks) := by
    conv => lhs; unfold liesB
    rw [Int.toNat_natCast, hq]
  rw [this]
  simp [hb]
/-- a kid that ends nowhere -/
theorem endR_sub_bad {l : List Nd} {n m m' : Nat} {ok ok' : Bool} {hi at' : Int} {ks : List Int} {q : Nd} (hq : l[n]? = some q) (h : Trek l ((n : Int) :: ks) n ok m) (h' : Trek l q.kids (n + 1) ok' m') (he : endR l (n + 1) m' ok' q.hi q.lo q.kids < 0) : endR l n m ok hi at' ((n : Int) :: ks) = -1 := by
  unfold endR at he ⊢
  rw [if_neg]
  rintro ⟨h1, h2, h3⟩
  subst h1
  rw [if_pos] at he
  · omega
  · rcases h.head rfl hq with ⟨hf, _⟩ | ⟨m1, t1, t2⟩
    · cases hf
    · obtain ⟨rfl, rfl⟩ := t1.det h'
      have l1 := t1.le.1
      have l2 := t2.le.1
      exact ⟨rfl, fun j p hj hj2 => h2 j p (by omega) (by omega), h2 n q (Nat.le_refl _) (by omega) hq⟩
/-- a kid that ends somewhere -/
theorem endR_sub_ok {l : List Nd} {n m m' : Nat} {ok ok' : Bool} {hi at' : Int} {ks : List Int} {q : Nd} (hq : l[n]? = some q) (hb : at' ≤ q.lo) (h : Trek l ((n : Int) :: ks) n ok m) (h' : Trek l q.kids (n + 1) ok' m') (he : ¬ endR l (n + 1) m' ok' q.hi q.lo q.kids < 0) :
    endR l (n + 1) m' ok' q.hi q.lo q.kids = (m' : Int) ∧ n < m' ∧ Trek l ks m' ok m ∧ endR l n m ok hi at' ((n : Int) :: ks) = endR l m' m ok hi q.hi ks := by
  have l0 := h'.le.1
  by_cases hc : ok' = true ∧ LiesIn l (n + 1) m' ∧ liesB l q.hi q.lo q.kids = true
  · have e1 : endR l (n + 1) m' ok' q.hi q.lo q.kids = (m' : Int) := if_pos hc
    obtain ⟨rfl, c2, c3⟩ := hc
    rcases h.head rfl hq with ⟨rfl, t1⟩ | ⟨m1, t1, t2⟩
    · have := (t1.det h').1; cases this
    · obtain ⟨_, rfl⟩ := t1.det h'
      refine ⟨e1, by omega, t2, ?_⟩
      have l2 := t2.le.1
      have hin : LiesIn l n m' := fun j p hj hj2 hp => by
        rcases Nat.eq_or_lt_of_le hj with rfl | hlt
        · rw [hq] at hp; cases hp; exact c3
        · exact c2 j p hlt hj2 hp
      unfold endR
      have : (ok = true ∧ LiesIn l n m ∧ liesB l hi at' ((n : Int) :: ks) = true) ↔ (ok = true ∧ LiesIn l m' m ∧ liesB l hi q.hi ks = true) := by
        rw [LiesIn.split (by omega : n ≤ m') l2, liesB_cons hq hb]
        exact ⟨fun ⟨a, ⟨_, b⟩, c⟩ => ⟨a, b, c⟩, fun ⟨a, b, c⟩ => ⟨a, ⟨hin, b⟩, c⟩⟩
      by_cases hx : ok = true ∧ LiesIn l m' m ∧ liesB l hi q.hi ks = true
      · rw [if_pos hx, if_pos (this.2 hx)]
      · rw [if_neg hx, if_neg (fun hc => hx (this.1 hc))]
  · exfalso
    apply he
    unfold endR
    rw [if_neg hc]
    omega
/-- what Check asks -/
theorem tree_iff {l : List Nd} {ok : Bool} {m : Nat} {p : Nd} (hp : l[0]? = some p) (ht : Trek l p.kids 1 ok m) : Tree l ↔ (∀ i q, l[i]? = some q → Bare q ∧ (0 < i → q.kind ≠ 1)) ∧ endR l 1 m ok p.hi p.lo p.kids = (l.length : Int) := by
  have hl := lt_of_get hp
  constructor
  · intro T
    refine ⟨T.bare, ?_⟩
    have t := Trek.ofOne (n := 0) hp T.trek
    obtain ⟨rfl, rfl⟩ := t.det ht
    unfold endR
    rw [if_pos ⟨rfl, fun j q _ _ hq => T.lies q (List.mem_of_getElem? hq), T.lies p (List.mem_of_getElem? hp)⟩]
  · rintro ⟨h1, h2⟩
    unfold endR at h2
    split at h2
    · rename_i hc
      obtain ⟨rfl, c2, c3⟩ := hc
      have hm : m = l.length := by omega
      subst hm
      refine ⟨h1, Trek.one (n := 0) hp ht, fun q hq => ?_⟩
      obtain ⟨j, hj, rfl⟩ := List.getElem_of_mem hq
      rcases Nat.eq_zero_or_pos j with rfl | h0
      · rw [List.getElem?_eq_getElem hj] at hp
        injection hp with hp
        rw [hp]
        exact c3
      · exact c2 j _ h0 hj (List.getElem?_eq_getElem hj)
    · omega
/-- what is in a part of a tree -/
theorem endR_tree {l : List Nd} (T : Tree l) {i m : Nat} {p : Nd} (hp : l[i]? = some p) (h : Part l i m) {ok : Bool} {m' : Nat} (ht : Trek l p.kids (i + 1) ok m') : endR l (i + 1) m' ok p.hi p.lo p.kids = (m : Int) := by
  obtain ⟨rfl, rfl⟩ := (Trek.ofOne hp h.trek).det ht
  unfold endR
  rw [if_pos ⟨rfl, fun j q _ _ hq => T.lies q (List.mem_of_getElem? hq), T.lies p (List.mem_of_getElem? hp)⟩]
end Go.Proofs.Ytggmljookcmnkaa
