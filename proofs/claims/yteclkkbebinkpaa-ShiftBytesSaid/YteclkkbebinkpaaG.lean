/- What Check's OK says, and the law of Meets: plain numbers. -/
import Derived.Test.YteclkkbebinkpaaC
import Derived.Test.YteclkkbebinkpaaD
import Derived.Test.YteclkkbebinkpaaE
namespace Go.Proofs.Yteclkkbebinkpaa
open Go.RowKit
theorem check_bd {a d i n : Int} (h : checkF a d i n = 0) :
    (0 ≤ n ∧ n ≤ 65536) ∧ (0 ≤ a ∧ a ≤ 65536) ∧ (0 ≤ d ∧ d ≤ 65536) ∧ (0 ≤ i ∧ i ≤ 131072) ∧ a + d ≤ n ∧ n - d + i ≤ 65536 := by
  unfold checkF at h
  split at h
  · omega
  · split at h
    · omega
    · unfold clamp at *
      omega
theorem clamp_in {a : Int} (h : -1099511627776 ≤ a) (h2 : a ≤ 1099511627776) : clamp a = a := by unfold clamp; omega
theorem meets_in {f t a d i : Int} (hf : -1099511627776 ≤ f ∧ f ≤ 1099511627776) (ht : -1099511627776 ≤ t ∧ t ≤ 1099511627776) (ha : -1099511627776 ≤ a ∧ a ≤ 1099511627776) (hd : -1099511627776 ≤ d ∧ d ≤ 1099511627776) (hi : -1099511627776 ≤ i ∧ i ≤ 1099511627776) :
    meetsF f t a d i = decide ((0 < d ∧ a < t ∧ f < a + d) ∨ (0 < i ∧ f < a ∧ a < t)) := by
  unfold meetsF
  rw [clamp_in hf.1 hf.2, clamp_in ht.1 ht.2, clamp_in ha.1 ha.2, clamp_in hd.1 hd.2, clamp_in hi.1 hi.2]
  rw [Bool.eq_iff_iff]
  simp [and_assoc]
/-- the law of Meets at places lo <= k <= hi -/
theorem meets_law {a d i lo hi k b : Int} (ha : 0 ≤ a ∧ a ≤ 65536) (hd : 0 ≤ d ∧ d ≤ 65536) (hi' : 0 ≤ i ∧ i ≤ 131072) (hlo : 0 ≤ lo) (h1 : lo ≤ k) (h2 : k ≤ hi) (h3 : hi ≤ 65536) (hb : 0 ≤ b ∧ b < 1000) :
    (meetsF lo hi a d i = true → meetsF (lo - b) hi a d i = true ∧ meetsF lo (hi + b) a d i = true) ∧
    (meetsF lo hi a d i = true ↔ (meetsF lo k a d i = true ∨ meetsF k hi a d i = true ∨ (0 < i ∧ a = k ∧ lo < k ∧ k < hi))) := by
  rw [meets_in (by omega) (by omega) (by omega) (by omega) (by omega), meets_in (by omega) (by omega) (by omega) (by omega) (by omega), meets_in (by omega) (by omega) (by omega) (by omega) (by omega), meets_in (by omega) (by omega) (by omega) (by omega) (by omega), meets_in (by omega) (by omega) (by omega) (by omega) (by omega)]
  simp only [decide_eq_true_eq]
  constructor
  · omega
  · omega
end Go.Proofs.Yteclkkbebinkpaa
