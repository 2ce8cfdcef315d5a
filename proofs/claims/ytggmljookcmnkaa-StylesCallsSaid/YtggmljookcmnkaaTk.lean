/- The kit's Pick. -/
import Derived.Test.YtggmljookcmnkaaChecked
import Derived.Test.YtggmljookcmnkaaW
import Derived.Lib.Hide
import Derived.Deep.QuietTactic
namespace Go.Proofs.Ytggmljookcmnkaa
open Go.RowKit

def pickF (n m : Int) : Int := if m < 1 then 0 else n % m
theorem pickF_bd (n m : Int) (h : 1 ≤ m) : 0 ≤ pickF n m ∧ pickF n m < m := by
  unfold pickF
  rw [if_neg (by omega)]
  exact ⟨Int.emod_nonneg _ (by omega), Int.emod_lt_of_pos _ (by omega)⟩
theorem tmod_neg (n m : Int) (hm : 1 ≤ m) (h : n.tmod m < 0) : n.tmod m + m = n % m := by
  rw [Int.tmod_eq_emod] at h ⊢
  split at h <;> rename_i hc
  · have := Int.emod_nonneg n (show m ≠ 0 by omega); omega
  · rw [if_neg hc]; omega
theorem tmod_pos (n m : Int) (hm : 1 ≤ m) (h : ¬ n.tmod m < 0) : n.tmod m = n % m := by
  rw [Int.tmod_eq_emod] at h ⊢
  split at h <;> rename_i hc
  · rw [if_pos hc]; omega
  · have := Int.emod_lt_of_pos n (show 0 < m by omega); omega
theorem tmod_bd (n m : Int) (hm : 1 ≤ m) : -m < n.tmod m ∧ n.tmod m < m := by
  have h1 := Int.emod_nonneg n (show m ≠ 0 by omega)
  have h2 := Int.emod_lt_of_pos n (show 0 < m by omega)
  rw [Int.tmod_eq_emod]
  split <;> omega

set_option maxHeartbeats 400000 in
theorem pick_any (n m : Int) (w : World) (hm : m ≤ 4611686018427387904) (hn : -9223372036854775808 ≤ n ∧ n ≤ 9223372036854775807) :
    Calls Try.prog 11 #[.int .i64 n, .int .i64 m] w fun e w' => e = .returned (.int .i64 (pickF n m)) ∧ w = w' := by
  by_cases h1 : m < 1
  · have H : Hid (pickF n m = 0) := if_pos h1
    go_enter Try.func11, Try.ntmps11
    go_wp2
    go_ret
    exact ⟨ret_int H.out.symm, rfl⟩
  · have H : Hid (pickF n m = n % m) := if_neg h1
    by_cases h0 : 0 ≤ n
    · have h2 : 0 ≤ n % m := Int.emod_nonneg _ (by omega)
      go_enter Try.func11, Try.ntmps11
      go_wp2
      go_ret
      exact ⟨ret_int H.out.symm, rfl⟩
    · have hb := tmod_bd n m (by omega)
      by_cases h3 : n.tmod m < 0
      · have H2 : Hid _ := tmod_neg n m (by omega) h3
        go_enter Try.func11, Try.ntmps11
        go_wp2
        go_ret
        exact ⟨ret_int (H2.out.trans H.out.symm), rfl⟩
      · have H2 : Hid _ := tmod_pos n m (by omega) h3
        go_enter Try.func11, Try.ntmps11
        go_wp2
        go_ret
        exact ⟨ret_int (H2.out.trans H.out.symm), rfl⟩

end Go.Proofs.Ytggmljookcmnkaa
