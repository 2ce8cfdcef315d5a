/- The greatest parts that can be taken: plain; operations of a round that are plain operations. No program is named here. -/
import Derived.Test.YtggmljookcmnkaaNd
import Derived.Test.YtggmljookcmnkaaTr
namespace Go.Proofs.Ytggmljookcmnkaa
open Go.RowKit

/-- the places of the greatest parts from a place on that are inner ones and not stale -/
inductive Gs (l : List Nd) (st : List Bool) : Nat → List Nat → Prop
  | done (i : Nat) : l.length ≤ i → Gs l st i []
  | skip (i : Nat) (p : Nd) (xs : List Nat) : l[i]? = some p → (p.kind ≠ 2 ∨ st[i]? = some true) → Gs l st (i + 1) xs → Gs l st i xs
  | take (i : Nat) (p : Nd) (m : Nat) (xs : List Nat) : l[i]? = some p → p.kind = 2 → st[i]? = some false → Part l i m → Gs l st m xs → Gs l st i (i :: xs)
theorem gs_all {l : List Nd} {st : List Bool} (T : Tree l) (hs : st.length = l.length) : ∀ (n i : Nat), l.length - i ≤ n → ∃ xs, Gs l st i xs := by
  intro n
  induction n with
  | zero => intro i hi; exact ⟨[], .done i (by omega)⟩
  | succ n ih =>
    intro i hi
    rcases Nat.lt_or_ge i l.length with h | h
    · obtain ⟨p, hp⟩ : ∃ p, l[i]? = some p := ⟨_, List.getElem?_eq_getElem h⟩
      obtain ⟨v, hv⟩ : ∃ v, st[i]? = some v := ⟨_, List.getElem?_eq_getElem (by omega)⟩
      by_cases hk : p.kind = 2
      · cases v with
        | true =>
          obtain ⟨xs, hx⟩ := ih (i + 1) (by omega)
          exact ⟨xs, .skip i p xs hp (.inr hv) hx⟩
        | false =>
          obtain ⟨m, hm⟩ := T.part h
          obtain ⟨xs, hx⟩ := ih m (by have := hm.lt_end; omega)
          exact ⟨i :: xs, .take i p m xs hp hk hv hm hx⟩
      · obtain ⟨xs, hx⟩ := ih (i + 1) (by omega)
        exact ⟨xs, .skip i p xs hp (.inl hk) hx⟩
    · exact ⟨[], .done i h⟩
theorem Gs.det {l : List Nd} {st : List Bool} {i : Nat} {xs : List Nat} (h : Gs l st i xs) : ∀ {ys : List Nat}, Gs l st i ys → ys = xs := by
  induction h with
  | done i hi =>
    intro ys h'
    cases h' with
    | done _ _ => rfl
    | skip _ p _ hp _ _ => have := lt_of_get hp; omega
    | take _ p _ _ hp _ _ _ _ => have := lt_of_get hp; omega
  | skip i p xs hp hc _ ih =>
    intro ys h'
    cases h' with
    | done _ hi => have := lt_of_get hp; omega
    | skip _ p' _ _ _ h2 => exact ih h2
    | take _ p' m _ hp' hk hs _ _ =>
      rw [hp] at hp'
      cases hp'
      rcases hc with hc | hc
      · exact absurd hk hc
      · rw [hs] at hc; cases hc
  | take i p m xs hp hk hs hm _ ih =>
    intro ys h'
    cases h' with
    | done _ hi => have := lt_of_get hp; omega
    | skip _ p' _ hp' hc _ =>
      rw [hp] at hp'
      cases hp'
      rcases hc with hc | hc
      · exact absurd hk hc
      · rw [hs] at hc; cases hc
    | take _ p' m' _ hp' _ _ hm' h2 =>
      have := hm.det hm'
      subst this
      rw [ih h2]
/-- what is told: places that rise, of inner parts that are not stale, one behind the other -/
theorem Gs.mem {l : List Nd} {st : List Bool} {i : Nat} {xs : List Nat} (h : Gs l st i xs) : ∀ x ∈ xs, i ≤ x ∧ x < l.length ∧ st[x]? = some false ∧ ∃ p, l[x]? = some p ∧ p.kind = 2 := by
  induction h with
  | done i hi => intro x hx; cases hx
  | skip i p xs hp hc _ ih =>
    intro x hx
    obtain ⟨h1, h2⟩ := ih x hx
    exact ⟨by omega, h2⟩
  | take i p m xs hp hk hs hm _ ih =>
    intro x hx
    rcases List.mem_cons.1 hx with rfl | hx
    · exact ⟨Nat.le_refl _, lt_of_get hp, hs, p, hp, hk⟩
    · obtain ⟨h1, h2⟩ := ih x hx
      have := hm.lt_end
      exact ⟨by omega, h2⟩
/-- a part that can be taken lies in one of them -/
theorem Gs.covers {l : List Nd} {st : List Bool} {i : Nat} {xs : List Nat} (h : Gs l st i xs) : ∀ (k : Nat) (p : Nd), i ≤ k → l[k]? = some p → p.kind = 2 → st[k]? = some false → ∃ x m, x ∈ xs ∧ Part l x m ∧ x ≤ k ∧ k < m := by
  induction h with
  | done i hi => intro k p hik hp; have := lt_of_get hp; omega
  | skip i p xs hp hc _ ih =>
    intro k q hik hq hk hs
    rcases Nat.eq_or_lt_of_le hik with rfl | hlt
    · rw [hp] at hq
      cases hq
      rcases hc with hc | hc
      · exact absurd hk hc
      · rw [hs] at hc; cases hc
    · exact ih k q hlt hq hk hs
  | take i p m xs hp hk hs hm _ ih =>
    intro k q hik hq hk' hs'
    rcases Nat.lt_or_ge k m with hkm | hkm
    · exact ⟨i, m, List.mem_cons_self .., hm, hik, hkm⟩
    · obtain ⟨x, m', h1, h2⟩ := ih k q hkm hq hk' hs'
      exact ⟨x, m', List.mem_cons_of_mem _ h1, h2⟩

section
variable {P : Program}
/-- only what goes on -/
def onlyN (Q : Act → World → Prop) : Exit → Act → World → Prop
  | .normal, a, w => Q a w
  | _, _, _ => False
theorem no_lets {Q : Act → World → Prop} : ¬ LetsOut (onlyN Q) := fun ⟨_, _, h⟩ => h
theorem wpListIn_of_plain {l0 n : Nat} {ops : Array Oper} {Q : Act → World → Prop} {Q' : Exit → Act → World → Prop} (hQ : ∀ a w, Q a w → Q' .normal a w) : ∀ (l : List Oper) (a : Act) (w : World), noDefer l = true →
    wpList P ops (onlyN Q) l a w → wpListIn (Fence.wide.inRound l0) n P ops Q' l a w
  | [], a, w, _, h => hQ _ _ h
  | o :: l, a, w, hnd, h => by
    unfold noDefer at hnd
    rw [List.all_cons, Bool.and_eq_true] at hnd
    have hno : ∀ c : Call, o.op ≠ Op.defer c := fun c hc => by
      have := hnd.1
      rw [hc] at this
      cases this
    have ih := fun a w => wpListIn_of_plain (l0 := l0) (n := n) (ops := ops) hQ l a w hnd.2
    unfold wpList at h
    unfold wpListIn
    split
    · rename_i hw
      rw [if_pos hw] at h
      rcases h with h | ⟨_, h⟩
      · exact opIn_of_plain hno (wp_monoQ (Q' := QN) (fun a w hh => ih a w hh) (fun _ _ _ h => h) (fun h => by first | exact absurd h (no_lets (Q := Q)) | exact absurd h no_letsOut) h)
      · exact absurd h no_lets
    · rename_i hw
      rw [if_neg hw] at h
      exact ⟨fun _ _ => trivial, ih _ _ h⟩
theorem wpIn_region_plain {id l0 n : Nat} {ops : Array Oper} {Q' : Exit → Act → World → Prop} {a : Act} {w : World} (hnd : noDefer ops.toList = true) (h : wpList P ops (onlyN fun a w => Q' .normal a w) ops.toList a w) :
    (Code.region id ops false).wpIn (Fence.wide.inRound l0) n P Q' a w :=
  wpIn_region_list (wpListIn_of_plain (fun _ _ h => h) _ _ _ hnd h)
theorem onlyN_mk {Q : Act → World → Prop} {a : Act} {w : World} (h : Q a w) : onlyN Q .normal a w := h
end
end Go.Proofs.Ytggmljookcmnkaa
