/- Plain laws of bits of 64. No program is named here. -/
import Derived.Test.YtaffaeompdlecaaW
import Derived.Laws.BitsAllLaws
import Derived.Laws.Closers25b
namespace Go.Proofs.Ytaffaeompdlecaa
open Go.RowKit

def U64 (x : Int) : Prop := 0 ≤ x ∧ x ≤ 18446744073709551615
theorem bits_u64 (op : BinOp) (a b : Int) : U64 (bits op .u64 a b) := ⟨bits_lo_u64 op a b, bits_hi_u64 op a b⟩
/-- a bit -/
def tb (m : Int) (k : Nat) : Bool := m.toNat.testBit k
theorem tb_or {a b : Int} (ha : U64 a) (hb : U64 b) (k : Nat) : tb (bits .or .u64 a b) k = (tb a k || tb b k) := by
  obtain ⟨h1, h2⟩ := ha
  obtain ⟨h3, h4⟩ := hb
  rw [u64_or a b h1 (by omega) h3 (by omega)]
  simp [tb]
theorem tb_and {a b : Int} (ha : U64 a) (hb : U64 b) (k : Nat) : tb (bits .and .u64 a b) k = (tb a k && tb b k) := by
  obtain ⟨h1, h2⟩ := ha
  obtain ⟨h3, h4⟩ := hb
  rw [u64_and a b h1 (by omega) h3 (by omega)]
  simp [tb]
theorem tb_top {a : Int} (ha : U64 a) {k : Nat} (hk : 64 ≤ k) : tb a k = false := by
  obtain ⟨h1, h2⟩ := ha
  exact Nat.testBit_lt_two_pow (Nat.lt_of_lt_of_le (show a.toNat < 2 ^ 64 by omega) (Nat.pow_le_pow_right (by decide) hk))
theorem tb_andNot {a b : Int} (ha : U64 a) (hb : U64 b) (k : Nat) : tb (bits .andNot .u64 a b) k = (tb a k && !tb b k) := by
  have ht := tb_top ha (k := k)
  obtain ⟨h1, h2⟩ := ha
  obtain ⟨h3, h4⟩ := hb
  rw [u64_andNot a b h1 (by omega) h3 (by omega)]
  unfold tb at *
  rw [Int.toNat_natCast, Nat.testBit_and, show 18446744073709551615 - b.toNat = 2 ^ 64 - (b.toNat + 1) by omega, Nat.testBit_two_pow_sub_succ (by omega)]
  by_cases hk : k < 64
  · simp [hk]
  · simp [hk, ht (by omega)]
theorem tb_ext {a b : Int} (ha : U64 a) (hb : U64 b) (h : ∀ k, k < 64 → tb a k = tb b k) : a = b := by
  obtain ⟨h1, h2⟩ := ha
  obtain ⟨h3, h4⟩ := hb
  have : a.toNat = b.toNat := Nat.eq_of_testBit_eq fun k => by
    by_cases hk : k < 64
    · exact h k hk
    · exact (tb_top ⟨h1, h2⟩ (by omega)).trans (tb_top ⟨h3, h4⟩ (by omega)).symm
  omega
theorem tb_zero (k : Nat) : tb 0 k = false := by simp [tb]
theorem tb_one (k : Nat) : tb 1 k = decide (k = 0) := by
  unfold tb
  rw [show (1 : Int).toNat = 2 ^ 0 by decide, Nat.testBit_two_pow]
  simp [eq_comm]
def SlotN (n : Int) : Prop := 0 ≤ n ∧ n < 64
instance (n : Int) : Decidable (SlotN n) := inferInstanceAs (Decidable (_ ∧ _))
/-- a slot's bit -/
def bitN (n : Int) : Int := IntKind.u64.wrap (2 ^ n.toNat)
theorem bitN_eq {n : Int} (h : SlotN n) : bitN n = 2 ^ n.toNat := by
  obtain ⟨h1, h2⟩ := h
  have h3 : (2 : Int) ^ n.toNat < 2 ^ 64 := Int.pow_lt_pow_of_lt (by decide) (by omega)
  unfold bitN
  rw [IntKind.wrap_u64]
  exact Int.emod_eq_of_lt (Int.le_of_lt (Int.pow_pos (by decide))) (by simpa using h3)
theorem bitN_u64 (n : Int) : U64 (bitN n) := by
  unfold bitN U64
  rw [IntKind.wrap_u64]
  omega
theorem tb_bitN {n : Int} (h : SlotN n) (k : Nat) : tb (bitN n) k = decide (n.toNat = k) := by
  rw [bitN_eq h]
  unfold tb
  have : ((2 : Int) ^ n.toNat).toNat = 2 ^ n.toNat := by
    have : ((2 : Int) ^ n.toNat) = ((2 ^ n.toNat : Nat) : Int) := by simp
    rw [this, Int.toNat_natCast]
  rw [this, Nat.testBit_two_pow]
/-- the last bit of what was shifted -/
theorem last_bit {b : Int} (hb : U64 b) (n : Nat) : bits .and .u64 (b / 2 ^ n) 1 = if tb b n then 1 else 0 := by
  obtain ⟨h1, h2⟩ := hb
  obtain ⟨B, rfl⟩ := Int.eq_ofNat_of_zero_le h1
  have e : ((B : Int) / 2 ^ n) = ((B / 2 ^ n : Nat) : Int) := by simp
  have hl : B / 2 ^ n ≤ B := Nat.div_le_self _ _
  rw [e]
  rw [u64_and _ _ (Int.natCast_nonneg _) (by have : ((B / 2 ^ n : Nat) : Int) ≤ (B : Int) := Int.ofNat_le.2 hl; omega) (by decide) (by decide)]
  have : ((B / 2 ^ n : Nat) : Int).toNat &&& (1 : Int).toNat = B / 2 ^ n % 2 := by
    rw [Int.toNat_natCast]
    exact Nat.and_one_is_mod _
  rw [this]
  unfold tb
  rw [Int.toNat_natCast, Nat.testBit_eq_decide_div_mod_eq]
  rcases Nat.mod_two_eq_zero_or_one (B / 2 ^ n) with h | h <;> rw [h] <;> simp
/-- without a slot's bit -/
def clearF (n b : Int) : Int := if SlotN n then bits .andNot .u64 b (bitN n) else b
/-- a slot's bit given to another one -/
def giveF (n m b : Int) : Int := if SlotN n ∧ SlotN m ∧ tb b n.toNat = true then bits .or .u64 (bits .andNot .u64 b (bitN n)) (bitN m) else b
theorem clearF_u64 {n b : Int} (h : U64 b) : U64 (clearF n b) := by
  unfold clearF
  split
  · exact bits_u64 ..
  · exact h
theorem giveF_u64 {n m b : Int} (h : U64 b) : U64 (giveF n m b) := by
  unfold giveF
  split
  · exact bits_u64 ..
  · exact h
end Go.Proofs.Ytaffaeompdlecaa
