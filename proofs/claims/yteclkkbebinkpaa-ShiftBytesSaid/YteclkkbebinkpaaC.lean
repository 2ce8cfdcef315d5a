/- The contracts of Check, Len, Pick. -/
import Derived.Test.YteclkkbebinkpaaA
import Derived.Deep.RegionWith
import Derived.Deep.QuietTactic
import Derived.Deep.DeepCutAuto
import Derived.BigQuiet
namespace Go.Proofs.Yteclkkbebinkpaa
open Go.RowKit
attribute [local go_sem] more_size more_cell more_frozen more_setCell drew_more drewN_more lt_add_r lt_add_r2 lt_add_r3 lt_add_r4 lt_add_r5 lt_add_r6 lt_self_r lt_self_r2

def checkF (a d i n : Int) : Int :=
  if clamp n < 0 ∨ 65536 < clamp n ∨ clamp a < 0 ∨ clamp d < 0 ∨ clamp i < 0 ∨ clamp n < clamp a + clamp d then 2 else if 65536 < clamp n - clamp d + clamp i then 3 else 0
set_option maxHeartbeats 400000 in
theorem check_any (a d i n : Int) (w : World) :
    Calls Try.prog 11 #[.agg #[.int .i64 a, .int .i64 d, .int .i64 i], .int .i64 n] w fun e w' => e = .returned (.int .i64 (checkF a d i n)) ∧ Ext w w' := by
  have ha := clamp_bd a
  have hd := clamp_bd d
  have hi := clamp_bd i
  have hn := clamp_bd n
  go_enter Try.func11, Try.ntmps11
  go_wp2_with (first | (go_at_call 25; refine (put_any _ _ _ _).mono ?_; rintro e w1 ⟨rfl, os1, k1, rfl⟩) | (go_at_call 34; refine (within_any _ _).mono ?_; rintro e w' ⟨rfl, rfl⟩) | go_in)
  refine wp_loop_rounds 2 ?_
  iterate 2
    rw [rounds_succ]
    go_wp2_with (first | (go_at_call 34; refine (within_any _ _).mono ?_; rintro e w' ⟨rfl, rfl⟩) | go_in)
  all_goals go_ret
  all_goals exact ⟨ret_int (by unfold checkF; repeat (first | omega | split)), by repeat (first | exact Ext.refl _ | refine Ext.alloc ?_ _ | refine Ext.more ?_ _ _ | refine Ext.drew ?_ | refine Ext.drewN ?_ _)⟩

set_option maxHeartbeats 400000 in
theorem len_any (a d i n : Int) (w : World) :
    Calls Try.prog 16 #[.agg #[.int .i64 a, .int .i64 d, .int .i64 i], .int .i64 n] w fun e w' => e = .returned (.int .i64 (clamp n - clamp d + clamp i)) ∧ Ext w w' := by
  have ha := clamp_bd a
  have hd := clamp_bd d
  have hi := clamp_bd i
  have hn := clamp_bd n
  go_enter Try.func16, Try.ntmps16
  go_wp2_with (first | (go_at_call 25; refine (put_any _ _ _ _).mono ?_; rintro e w1 ⟨rfl, os1, k1, rfl⟩) | (go_at_call 34; refine (within_any _ _).mono ?_; rintro e w' ⟨rfl, rfl⟩) | go_in)
  refine wp_loop_rounds 2 ?_
  iterate 2
    rw [rounds_succ]
    go_wp2_with (first | (go_at_call 34; refine (within_any _ _).mono ?_; rintro e w' ⟨rfl, rfl⟩) | go_in)
  go_ret
  exact ⟨rfl, by repeat (first | exact Ext.refl _ | refine Ext.alloc ?_ _ | refine Ext.more ?_ _ _ | refine Ext.drew ?_ | refine Ext.drewN ?_ _)⟩

def pickF (n m : Int) : Int := if m < 1 then 0 else n % m
theorem pickF_bd (n m : Int) (h : 1 ≤ m) : 0 ≤ pickF n m ∧ pickF n m < m := by
  unfold pickF
  rw [if_neg (by omega)]
  exact ⟨Int.emod_nonneg _ (by omega), Int.emod_lt_of_pos _ (by omega)⟩
end Go.Proofs.Yteclkkbebinkpaa
