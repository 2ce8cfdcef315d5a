/- What an edit does, bits aside. -/
import Derived.Test.YtaffaeompdlecaaF1
namespace Go.Proofs.Ytaffaeompdlecaa

theorem liesB_unmet (l : List Nd) (hi : Int) : ∀ (ks : List Int) (a : Int), liesB (l.map Nd.unmet) hi a ks = liesB l hi a ks
  | [], a => by rw [liesB, liesB]
  | k :: ks, a => by
    have h1 : (l.map Nd.unmet)[k.toNat]? = (l[k.toNat]?).map Nd.unmet := List.getElem?_map ..
    rw [liesB, liesB, h1]
    cases l[k.toNat]? with
    | none => rfl
    | some q => show (decide (a ≤ q.lo) && _) = (decide (a ≤ q.lo) && _); rw [← liesB_unmet l hi ks q.hi]; rfl
theorem Tree.unmet {l : List Nd} (T : Tree l) : Tree (l.map Nd.unmet) := by
  have hget : ∀ (i : Nat) (q : Nd), (l.map Nd.unmet)[i]? = some q → ∃ p, l[i]? = some p ∧ q = p.unmet := fun i q h => by
    rw [List.getElem?_map] at h
    cases hp : l[i]? with
    | none => rw [hp] at h; cases h
    | some p => rw [hp] at h; injection h with h; exact ⟨p, rfl, h.symm⟩
  refine ⟨fun i q hq => ?_, ?_, fun q hq => ?_⟩
  · obtain ⟨p, hp, rfl⟩ := hget i q hq
    exact T.bare i p hp
  · rw [List.length_map]
    exact T.trek.congr (List.length_map ..) fun j p hp => ⟨p.unmet, by rw [List.getElem?_map, hp]; rfl, rfl⟩
  · obtain ⟨p, hp, rfl⟩ := List.mem_map.1 hq
    rw [liesB_unmet]
    exact T.lies p hp
theorem maxTo_unmet (l : List Nd) (ks : List Int) : maxTo (l.map Nd.unmet) ks = maxTo l ks := maxTo_congr fun k _ => by
  unfold hiAt
  rw [List.getElem?_map]
  cases l[k.toNat]? <;> rfl
def Ed.none (E : Ed) : Ed := ⟨E.a, E.d, E.i, fun _ => 0⟩
theorem editedF_unmet (E : Ed) (t : Int) (p : Nd) : (editedF E t p).unmet = editedF E.none t p.unmet := by
  have : metE E.none p.unmet = 0 := by unfold metE; split <;> rfl
  show Nd.mk _ _ _ _ _ _ _ _ = Nd.mk _ _ _ _ _ _ _ _
  rw [this]
  rfl
theorem EditedR.unmet {E : Ed} {l out : List Nd} (h : EditedR E l out) : EditedR E.none (l.map Nd.unmet) (out.map Nd.unmet) := by
  refine ⟨by rw [List.length_map, List.length_map, h.1], fun j p hp => ?_⟩
  rw [List.getElem?_map] at hp ⊢
  cases hq : l[j]? with
  | none => rw [hq] at hp; cases hp
  | some q =>
    rw [hq] at hp
    injection hp with hp
    subst hp
    rw [h.2 j q hq, maxTo_unmet, Option.map_some, editedF_unmet]
    rfl
/-- bits aside it is the same, whatever bits come -/
theorem EditedR.same {E E' : Ed} {l a b : List Nd} (T : Tree l) (ha : EditedR E l a) (hb : EditedR E' l b) (h1 : E.a = E'.a) (h2 : E.d = E'.d) (h3 : E.i = E'.i) : a.map Nd.unmet = b.map Nd.unmet := by
  have e : E.none = E'.none := by unfold Ed.none; rw [h1, h2, h3]
  exact EditedR.one T.unmet ha.unmet (e ▸ hb.unmet)
theorem EditedR.met {E : Ed} {l out : List Nd} (h : EditedR E l out) {j : Nat} {p q : Nd} (hp : l[j]? = some p) (hq : out[j]? = some q) : q.met = if Meet (ownLo p) p.look E then E.om p.met else p.met := by
  rw [h.2 j p hp] at hq
  injection hq with hq
  rw [← hq]
  rfl
/-- the rest of a part behind an edit knows no bits -/
theorem EditedR.of_unmet {E : Ed} {l out : List Nd} (h : EditedR E (l.map Nd.unmet) out) {j : Nat} {p q : Nd} (hp : l[j]? = some p) (hq : out[j]? = some q) : q.met = if Meet (ownLo p) p.look E then E.om 0 else 0 :=
  h.met (p := p.unmet) (by rw [List.getElem?_map, hp]; rfl) hq
end Go.Proofs.Ytaffaeompdlecaa
