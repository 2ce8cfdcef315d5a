/- The laws of Start and End: plain numbers. -/
import Derived.Test.YteclkkbebinkpaaG
namespace Go.Proofs.Yteclkkbebinkpaa
open Go.RowKit

theorem start_in {x a d i : Int} (hx : 0 ≤ x ∧ x ≤ 262144) (ha : 0 ≤ a ∧ a ≤ 262144) (hd : 0 ≤ d ∧ d ≤ 262144) (hi : 0 ≤ i ∧ i ≤ 262144) :
    startF x a d i = if x < a then x else if a + d ≤ x then x - d + i else a + i := by
  unfold startF behindF
  rw [clamp_in (by omega) (by omega), clamp_in (by omega) (by omega), clamp_in (by omega) (by omega), clamp_in (by omega) (by omega)]
theorem end_in {x a d i : Int} (hx : 0 ≤ x ∧ x ≤ 262144) (ha : 0 ≤ a ∧ a ≤ 262144) (hd : 0 ≤ d ∧ d ≤ 262144) (hi : 0 ≤ i ∧ i ≤ 262144) :
    endF x a d i = if x ≤ a then x else if a + d ≤ x then x - d + i else a := by
  unfold endF behindF
  rw [clamp_in (by omega) (by omega), clamp_in (by omega) (by omega), clamp_in (by omega) (by omega), clamp_in (by omega) (by omega)]

theorem order_law {a d i n lo hi : Int} (ha : 0 ≤ a ∧ a ≤ 65536) (hd : 0 ≤ d ∧ d ≤ 65536) (hi' : 0 ≤ i ∧ i ≤ 131072) (hn : 0 ≤ n ∧ n ≤ 65536) (hs : a + d ≤ n) (hlo : 0 ≤ lo) (h1 : lo ≤ hi) (h2 : hi ≤ n) :
    (startF lo a d i ≤ startF hi a d i ∧ endF lo a d i ≤ endF hi a d i ∧ endF lo a d i ≤ startF lo a d i ∧ 0 ≤ startF lo a d i ∧ startF hi a d i ≤ clamp n - clamp d + clamp i ∧ 0 ≤ endF lo a d i ∧ endF hi a d i ≤ clamp n - clamp d + clamp i) ∧
    (lo < a → startF lo a d i = lo ∧ endF lo a d i = lo) ∧
    (a + d < lo → clamp n - clamp d + clamp i - startF lo a d i = n - lo ∧ clamp n - clamp d + clamp i - endF lo a d i = n - lo) ∧
    startF n a d i = clamp n - clamp d + clamp i ∧ 0 ≤ clamp n - clamp d + clamp i ∧ clamp n - clamp d + clamp i ≤ 262144 := by
  rw [start_in (by omega) (by omega) (by omega) (by omega), start_in (by omega) (by omega) (by omega) (by omega), start_in (by omega) (by omega) (by omega) (by omega), end_in (by omega) (by omega) (by omega) (by omega), end_in (by omega) (by omega) (by omega) (by omega), clamp_in (by omega) (by omega), clamp_in (by omega) (by omega), clamp_in (by omega) (by omega)]
  repeat' (first | omega | split | refine ⟨?_, ?_⟩ | intro _)

theorem back_law {a d i n f t : Int} (ha : 0 ≤ a ∧ a ≤ 65536) (hd : 0 ≤ d ∧ d ≤ 65536) (hi' : 0 ≤ i ∧ i ≤ 131072) (hn : 0 ≤ n ∧ n ≤ 65536) (hs : a + d ≤ n) (hm : n - d + i ≤ 65536) (hf : 0 ≤ f) (h1 : f < t) (h2 : t ≤ n) (hno : meetsF f t a d i = false) :
    ∃ x y : Int, startF f a d i = x ∧ max (startF f a d i) (endF t a d i) = y ∧ 0 ≤ x ∧ x ≤ y ∧ y ≤ 65536 ∧ y - x = t - f ∧ checkF a i d (clamp n - clamp d + clamp i) = 0 ∧
      ((f < a ∧ a < t) → x = f ∧ y = t) ∧
      (¬ (f < a ∧ a < t) → meetsF x y a i d = false ∧ startF x a i d = f ∧ max (startF x a i d) (endF y a i d) = t) := by
  rw [meets_in (by omega) (by omega) (by omega) (by omega) (by omega), decide_eq_false_iff_not] at hno
  refine ⟨_, _, rfl, rfl, ?_⟩
  have hc : checkF a i d (clamp n - clamp d + clamp i) = 0 := by
    rw [clamp_in (show -1099511627776 ≤ n by omega) (by omega), clamp_in (show -1099511627776 ≤ d by omega) (by omega), clamp_in (show -1099511627776 ≤ i by omega) (by omega)]
    unfold checkF
    rw [clamp_in (by omega) (by omega), clamp_in (show -1099511627776 ≤ a by omega) (by omega), clamp_in (show -1099511627776 ≤ d by omega) (by omega), clamp_in (show -1099511627776 ≤ i by omega) (by omega)]
    rw [if_neg (by omega), if_neg (by omega)]
  rw [start_in (x := f) (by omega) (by omega) (by omega) (by omega), end_in (x := t) (by omega) (by omega) (by omega) (by omega)]
  refine ⟨?_, ?_, ?_, ?_, hc, ?_, ?_⟩
  · repeat' (first | omega | split)
  · repeat' (first | omega | split)
  · repeat' (first | omega | split)
  · repeat' (first | omega | split)
  · repeat' (first | omega | split | refine ⟨?_, ?_⟩ | intro _)
  · intro hb
    have key : ∀ x y : Int, x = (if f < a then f else if a + d ≤ f then f - d + i else a + i) → y = max x (if t ≤ a then t else if a + d ≤ t then t - d + i else a) →
        meetsF x y a i d = false ∧ startF x a i d = f ∧ max (startF x a i d) (endF y a i d) = t := by
      intro x y hx hy
      have bx : 0 ≤ x ∧ x ≤ 65536 := by rw [hx]; repeat' (first | omega | split)
      have by' : 0 ≤ y ∧ y ≤ 65536 := by rw [hy, hx]; repeat' (first | omega | split)
      rw [meets_in (by omega) (by omega) (by omega) (by omega) (by omega), decide_eq_false_iff_not, start_in (by omega) (by omega) (by omega) (by omega), end_in (by omega) (by omega) (by omega) (by omega)]
      split at hx <;> (try split at hx) <;> (split at hy <;> (try split at hy)) <;> (refine ⟨?_, ?_, ?_⟩ <;> repeat' (first | omega | split))
    exact key _ _ rfl rfl
end Go.Proofs.Yteclkkbebinkpaa
