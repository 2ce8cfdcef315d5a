/- Plain laws of bits that are given and cleared; parts whose bits are changed. No program is named here. -/
import Derived.Test.YtaffaeompdlecaaV1
import Derived.Test.YtaffaeompdlecaaG1
namespace Go.Proofs.Ytaffaeompdlecaa
open Go.RowKit

theorem and_zero {a b : Int} (ha : U64 a) (hb : U64 b) : bits .and .u64 a b = 0 ↔ ∀ k, k < 64 → (tb a k && tb b k) = false := by
  constructor
  · intro h k _
    rw [← tb_and ha hb, h, tb_zero]
  · intro h
    refine tb_ext (bits_u64 ..) ⟨by omega, by omega⟩ fun k hk => ?_
    rw [tb_and ha hb, h k hk, tb_zero]
theorem clear_eq {n b : Int} (h : SlotN n) : clearF n b = bits .andNot .u64 b (bitN n) := if_pos h
theorem tb_give {n m b : Int} (hn : SlotN n) (hm : SlotN m) (hb : U64 b) (k : Nat) : tb (giveF n m b) k = if tb b n.toNat then ((tb b k && !decide (n.toNat = k)) || decide (m.toNat = k)) else tb b k := by
  unfold giveF
  cases ht : tb b n.toNat with
  | true =>
    rw [if_pos ⟨hn, hm, rfl⟩, tb_or (bits_u64 ..) (bitN_u64 m), tb_andNot hb (bitN_u64 n), tb_bitN hn, tb_bitN hm]
    rfl
  | false =>
    rw [if_neg (fun h => by cases h.2.2)]
    rfl
section
variable {n m b : Int} (hn : SlotN n) (hm : SlotN m) (hb : U64 b)
include hn hm hb
theorem give_same (h : n = m) : giveF n m b = b := by
  subst h
  refine tb_ext (giveF_u64 hb) hb fun k _ => ?_
  rw [tb_give hn hn hb]
  cases ht : tb b n.toNat with
  | false => rfl
  | true =>
    by_cases hk : n.toNat = k
    · subst hk; simp [ht]
    · simp [hk]
theorem give_from (h : n ≠ m) : bits .and .u64 (giveF n m b) (bitN n) = 0 := by
  rw [and_zero (giveF_u64 hb) (bitN_u64 n)]
  intro k _
  have hne : m.toNat ≠ n.toNat := by obtain ⟨h1, _⟩ := hn; obtain ⟨h2, _⟩ := hm; omega
  rw [tb_give hn hm hb, tb_bitN hn]
  by_cases hk : n.toNat = k
  · subst hk
    cases ht : tb b n.toNat with
    | false => simp
    | true => simp [hne]
  · simp [hk]
theorem give_to (h : n ≠ m) : bits .and .u64 (giveF n m b) (bitN m) = 0 ↔ bits .and .u64 b (bits .or .u64 (bitN n) (bitN m)) = 0 := by
  have hne : m.toNat ≠ n.toNat := by obtain ⟨h1, _⟩ := hn; obtain ⟨h2, _⟩ := hm; omega
  have hs1 : n.toNat < 64 := by obtain ⟨h1, h2⟩ := hn; omega
  have hs2 : m.toNat < 64 := by obtain ⟨h1, h2⟩ := hm; omega
  rw [and_zero (giveF_u64 hb) (bitN_u64 m), and_zero hb (bits_u64 ..)]
  constructor
  · intro hh k hk
    have h1 := hh m.toNat hs2
    rw [tb_give hn hm hb, tb_bitN hm] at h1
    rw [tb_or (bitN_u64 n) (bitN_u64 m), tb_bitN hn, tb_bitN hm]
    cases ht : tb b n.toNat with
    | true => simp [ht] at h1
    | false =>
      simp [ht] at h1
      by_cases h3 : n.toNat = k
      · subst h3; simp [ht]
      · by_cases h4 : m.toNat = k
        · subst h4; simp [h1]
        · simp [h3, h4]
  · intro hh k hk
    have h1 := hh n.toNat hs1
    have h2 := hh m.toNat hs2
    rw [tb_or (bitN_u64 n) (bitN_u64 m), tb_bitN hn, tb_bitN hm] at h1 h2
    simp at h1 h2
    rw [tb_give hn hm hb, tb_bitN hm, h1]
    by_cases h4 : m.toNat = k
    · subst h4; simp [h2]
    · simp [h4]
theorem give_rest : bits .andNot .u64 (giveF n m b) (bits .or .u64 (bitN n) (bitN m)) = bits .andNot .u64 b (bits .or .u64 (bitN n) (bitN m)) := by
  refine tb_ext (bits_u64 ..) (bits_u64 ..) fun k _ => ?_
  rw [tb_andNot (giveF_u64 hb) (bits_u64 ..), tb_andNot hb (bits_u64 ..), tb_or (bitN_u64 n) (bitN_u64 m), tb_bitN hn, tb_bitN hm, tb_give hn hm hb]
  by_cases h3 : n.toNat = k
  · simp [h3]
  · by_cases h4 : m.toNat = k
    · simp [h4]
    · cases tb b n.toNat <;> simp [h3, h4]
end
theorem mets_get' (f : Int → Int) (l : List Nd) (i : Nat) : (l.map (Nd.mets f))[i]? = (l[i]?).map (Nd.mets f) := List.getElem?_map ..
theorem liesB_mets (f : Int → Int) (l : List Nd) (hi : Int) : ∀ (ks : List Int) (a : Int), liesB (l.map (Nd.mets f)) hi a ks = liesB l hi a ks
  | [], a => by rw [liesB, liesB]
  | k :: ks, a => by
    have h1 : (l.map (Nd.mets f))[k.toNat]? = (l[k.toNat]?).map (Nd.mets f) := List.getElem?_map ..
    rw [liesB, liesB, h1]
    cases l[k.toNat]? with
    | none => rfl
    | some q => show (decide (a ≤ q.lo) && _) = (decide (a ≤ q.lo) && _); rw [← liesB_mets f l hi ks q.hi]; rfl
theorem Tree.mets (f : Int → Int) {l : List Nd} (T : Tree l) : Tree (l.map (Nd.mets f)) := by
  have hget : ∀ (i : Nat) (q : Nd), (l.map (Nd.mets f))[i]? = some q → ∃ p, l[i]? = some p ∧ q = p.mets f := fun i q h => by
    rw [List.getElem?_map] at h
    cases hp : l[i]? with
    | none => rw [hp] at h; cases h
    | some p => rw [hp] at h; injection h with h; exact ⟨p, rfl, h.symm⟩
  refine ⟨fun i q hq => ?_, ?_, fun q hq => ?_⟩
  · obtain ⟨p, hp, rfl⟩ := hget i q hq
    exact T.bare i p hp
  · rw [List.length_map]
    exact T.trek.congr (List.length_map ..) fun j p hp => ⟨p.mets f, by rw [List.getElem?_map, hp]; rfl, rfl⟩
  · obtain ⟨p, hp, rfl⟩ := List.mem_map.1 hq
    rw [liesB_mets]
    exact T.lies p hp
theorem mets_unmet (f : Int → Int) (l : List Nd) : (l.map (Nd.mets f)).map Nd.unmet = l.map Nd.unmet := by
  rw [List.map_map]
  rfl
theorem mets_lens (f : Int → Int) (l : List Nd) : (l.map (Nd.mets f)).map (fun p => p.kids.length) = l.map (fun p => p.kids.length) := by
  rw [List.map_map]
  rfl
end Go.Proofs.Ytaffaeompdlecaa
