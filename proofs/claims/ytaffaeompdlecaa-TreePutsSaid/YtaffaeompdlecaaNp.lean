/- Trees as lists: a part cut out, a tree put in a part's place. No program is named here. -/
import Derived.Test.YtaffaeompdlecaaNd
namespace Go.Proofs.Ytaffaeompdlecaa

/-- a part whose kids' places are moved -/
def Nd.by (f : Int → Int) (p : Nd) : Nd := { p with kids := p.kids.map f }
@[simp] theorem Nd.by_kids (f : Int → Int) (p : Nd) : (p.by f).kids = p.kids.map f := rfl
@[simp] theorem Nd.by_lo (f : Int → Int) (p : Nd) : (p.by f).lo = p.lo := rfl
@[simp] theorem Nd.by_hi (f : Int → Int) (p : Nd) : (p.by f).hi = p.hi := rfl
@[simp] theorem Nd.by_kind (f : Int → Int) (p : Nd) : (p.by f).kind = p.kind := rfl
@[simp] theorem Nd.by_sym (f : Int → Int) (p : Nd) : (p.by f).sym = p.sym := rfl
theorem Nd.by_by (f g : Int → Int) (p : Nd) : (p.by f).by g = p.by (fun x => g (f x)) := by
  simp only [Nd.by, List.map_map, Function.comp_def]
theorem Nd.by_id {f : Int → Int} {p : Nd} (h : ∀ k ∈ p.kids, f k = k) : p.by f = p := by
  simp only [Nd.by, List.map_congr_left h, List.map_id']
theorem Nd.by_congr {f g : Int → Int} {p : Nd} (h : ∀ k ∈ p.kids, f k = g k) : p.by f = p.by g := by
  simp only [Nd.by, List.map_congr_left h]
theorem Bare.by {p : Nd} (h : Bare p) (f : Int → Int) : Bare (p.by f) := by
  unfold Bare at h ⊢
  simpa [Nd.by] using h
def movedF (d : Int) (l : List Nd) : List Nd := l.map (Nd.by (· + d))
/-- a part, and all in it: the parts from i to m -/
def subF (l : List Nd) (i m : Nat) : List Nd := movedF (-(i : Int)) ((l.drop i).take (m - i))
def aheadK (i by_ : Int) (k : Int) : Int := if i < k then k + by_ else k
/-- a tree in the place of the part from i to m -/
def putF (l : List Nd) (i m : Nat) (s : List Nd) : List Nd :=
  (l.take i).map (Nd.by (aheadK i ((s.length : Int) - ((m : Int) - i)))) ++ (movedF i s ++ movedF ((s.length : Int) - ((m : Int) - i)) (l.drop m))

theorem get_moved {d : Int} {l : List Nd} (j : Nat) : (movedF d l)[j]? = (l[j]?).map (Nd.by (· + d)) := by
  unfold movedF
  rw [List.getElem?_map]
theorem get_sub {l : List Nd} {i m j : Nat} (hj : j < m - i) : (subF l i m)[j]? = (l[i + j]?).map (Nd.by (· + -(i : Int))) := by
  unfold subF
  rw [get_moved, List.getElem?_take_of_lt hj, List.getElem?_drop]
theorem len_sub {l : List Nd} {i m : Nat} (hm : m ≤ l.length) : (subF l i m).length = m - i := by
  unfold subF movedF
  rw [List.length_map, List.length_take, List.length_drop]
  omega

/-- a walk through parts that are moved as a whole -/
theorem Trek.shift {l l' : List Nd} {d : Int} {ks : List Int} {n m : Nat} {ok : Bool} (h : Trek l ks n ok m) : ok = true → ∀ n' m' : Nat, (n' : Int) = n + d → (m' : Int) = m + d →
    (∀ j j' : Nat, n ≤ j → j < m → (j' : Int) = j + d → ∃ p, l[j]? = some p ∧ ∃ q, l'[j']? = some q ∧ q.kids = p.kids.map (· + d)) → Trek l' (ks.map (· + d)) n' true m' := by
  induction h with
  | nil n =>
    intro _ n' m' h1 h2 _
    have : n' = m' := by omega
    subst this
    exact .nil n'
  | bad k ks n _ => intro h; cases h
  | sub p ks n m hp h1 ih => intro h; cases h
  | cons p ks n m ok e hp h1 h2 ih1 ih2 =>
    intro hok n' e' hn he hc
    have hle := h1.le.1
    have hle2 := h2.le.1
    obtain ⟨m', hm⟩ : ∃ m' : Nat, (m' : Int) = m + d := ⟨(m + d).toNat, by omega⟩
    obtain ⟨p', hp', q, hq, hk⟩ := hc n n' (Nat.le_refl _) (by omega) hn
    rw [hp] at hp'
    cases hp'
    rw [List.map_cons, ← hn]
    refine .cons q _ n' m' true e' hq ?_ (ih2 hok m' e' hm he fun j j' a b c => hc j j' (by omega) b c)
    rw [hk]
    exact ih1 rfl (n' + 1) m' (by omega) hm fun j j' a b c => hc j j' (by omega) (by omega) c
/-- a walk through parts of which one is replaced: what lies behind it moves -/
theorem Trek.put {l l' : List Nd} {i m m' : Nat} {d : Int} (hd : (m' : Int) = m + d) (him : Trek l [(i : Int)] i true m) (him' : Trek l' [(i : Int)] i true m')
    (h1 : ∀ j : Nat, j < i → ∀ p, l[j]? = some p → ∃ q, l'[j]? = some q ∧ q.kids = p.kids.map (aheadK i d))
    (h2 : ∀ j j' : Nat, m ≤ j → (j' : Int) = j + d → ∀ p, l[j]? = some p → ∃ q, l'[j']? = some q ∧ q.kids = p.kids.map (· + d))
    {ks : List Int} {n e : Nat} {ok : Bool} (h : Trek l ks n ok e) : ok = true → n ≤ i → i < e → ∀ e' : Nat, (e' : Int) = e + d → Trek l' (ks.map (aheadK i d)) n true e' := by
  -- parts behind the place move
  have far : ∀ {ks : List Int} {n e : Nat}, Trek l ks n true e → m ≤ n → ∀ n' e' : Nat, (n' : Int) = n + d → (e' : Int) = e + d → Trek l' (ks.map (aheadK i d)) n' true e' := by
    intro ks n e h hn n' e' hn' he'
    have hlt : i < m := by
      obtain ⟨p, m1, a, b, c, _⟩ := him.nest (List.mem_singleton.2 rfl)
      have := b.le.1
      omega
    have he : ks.map (aheadK i d) = ks.map (· + d) := by
      refine List.map_congr_left fun k hk => ?_
      obtain ⟨j, rfl, hj, _⟩ := h.kid rfl k hk
      simp only [aheadK]
      rw [if_pos (by omega)]
    rw [he]
    refine h.shift rfl n' e' hn' he' fun j j' a b c => ?_
    obtain ⟨p, m1, hp, _⟩ := h.inside rfl j a b
    obtain ⟨q, hq, hk⟩ := h2 j j' (by omega) c p hp
    exact ⟨p, hp, q, hq, hk⟩
  induction h with
  | nil n => intro _ a b; omega
  | bad k ks n _ => intro h; cases h
  | sub p ks n m hp h1 ih => intro h; cases h
  | cons p ks n m1 ok e hp t1 t2 ih1 ih2 =>
    intro hok hni hie e' he'
    subst hok
    have hle := t1.le.1
    have hle2 := t2.le.1
    have hlt' := him'.le.1
    rw [List.map_cons]
    rcases Nat.eq_or_lt_of_le hni with rfl | hlt
    · -- the part itself
      have hm : m1 = m := (him.det (Trek.one hp t1)).2
      subst hm
      have hk : aheadK (n : Int) d (n : Int) = (n : Int) := by simp [aheadK]
      rw [hk]
      exact him'.append rfl (far t2 (Nat.le_refl _) m' e' hd he')
    · have hk : aheadK (i : Int) d (n : Int) = (n : Int) := by simp only [aheadK]; rw [if_neg (by omega)]
      rw [hk]
      obtain ⟨q, hq, hqk⟩ := h1 n hlt p hp
      rcases Nat.lt_or_ge i m1 with hm | hm
      · -- it lies in the first
        have hmm : m ≤ m1 := by
          obtain ⟨p2, m2, a, b, c⟩ := t1.inside rfl i hlt hm
          have := (him.det (Trek.one a b)).2
          omega
        obtain ⟨m1', hm1'⟩ : ∃ m1' : Nat, (m1' : Int) = m1 + d := ⟨(m1 + d).toNat, by omega⟩
        refine .cons q _ n m1' true e' hq ?_ (far t2 hmm m1' e' hm1' he')
        rw [hqk]
        exact ih1 rfl hlt hm m1' hm1'
      · -- it lies behind the first
        refine .cons q _ n m1 true e' hq ?_ (ih2 rfl hm hie e' he')
        rw [hqk]
        have he : p.kids.map (aheadK i d) = p.kids.map (· + 0) := by
          refine List.map_congr_left fun k hk => ?_
          obtain ⟨j, rfl, hj, hj2⟩ := t1.kid rfl k hk
          simp only [aheadK]
          rw [if_neg (by omega)]
          omega
        rw [he]
        refine t1.shift rfl (n + 1) m1 (by omega) (by omega) fun j j' a b c => ?_
        obtain rfl : j' = j := by omega
        obtain ⟨p2, m2, hp2, t3, hm2⟩ := t1.inside rfl j' a b
        obtain ⟨q2, hq2, hk2⟩ := h1 j' (by omega) p2 hp2
        refine ⟨p2, hp2, q2, hq2, ?_⟩
        rw [hk2]
        refine List.map_congr_left fun k hk => ?_
        obtain ⟨j2, rfl, hj, hj2⟩ := t3.kid rfl k hk
        simp only [aheadK]
        rw [if_neg (by omega)]
        omega
end Go.Proofs.Ytaffaeompdlecaa
