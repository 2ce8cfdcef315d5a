/- The contracts of leaf, token, bare. -/
import Derived.Test.YtaffaeompdlecaaRows
import Derived.Test.YtaffaeompdlecaaNt
import Derived.Test.YtaffaeompdlecaaV
import Derived.WalkSpells
import Derived.WalkLawsBesides
import Derived.Deep.RegionWith
import Derived.Deep.QuietTactic
import Derived.BigQuiet
import Derived.Lib.Hide
namespace Go.Proofs.Ytaffaeompdlecaa
open Go.RowKit
attribute [local go_sem] more_drew more_drewN more_size more_cell more_frozen more_setCell drew_more drewN_more lt_add_r lt_add_r2 lt_add_r3 lt_add_r4 lt_add_r5 lt_add_r6 lt_self_r lt_self_r2

theorem leaf_any (k : Int) (w : World) : Calls Try.prog 96 #[.int .i64 k] w fun e w' => e = .returned (.bool (decide (LeafK k))) ∧ w = w' := by
  have H : decide (LeafK k) = ((k != 1) && (k != 2)) := by
    rw [Bool.eq_iff_iff, decide_eq_true_iff]
    unfold LeafK
    simp
  replace H := Lib.hid H
  go_enter Try.func96, Try.ntmps96
  go_wp2
  all_goals go_ret
  all_goals exact ⟨ret_bool (by rw [H.out] <;> simp [*]), rfl⟩
theorem token_any (k : Int) (w : World) : Calls Try.prog 145 #[.int .i64 k] w fun e w' => e = .returned (.bool (decide (TokK k))) ∧ w = w' := by
  have H : decide (TokK k) = (((k == 3) || (k == 5)) || (k == 6)) := by
    rw [Bool.eq_iff_iff, decide_eq_true_iff]
    unfold TokK
    simp [or_assoc]
  replace H := Lib.hid H
  go_enter Try.func145, Try.ntmps145
  go_wp2
  all_goals go_ret
  all_goals exact ⟨ret_bool (by rw [H.out] <;> simp [*]), rfl⟩
end Go.Proofs.Ytaffaeompdlecaa
