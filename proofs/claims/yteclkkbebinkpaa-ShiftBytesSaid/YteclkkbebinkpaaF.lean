/- The contract of lives; how the walk of ShiftMeets goes. -/
import Derived.Test.YteclkkbebinkpaaC
import Derived.Test.YteclkkbebinkpaaD
import Derived.Test.YteclkkbebinkpaaE
import Derived.Test.YteclkkbebinkpaaA
import Derived.Deep.RegionWith
import Derived.Deep.QuietTactic
import Derived.Deep.DeepCutAuto
import Derived.BigQuiet
namespace Go.Proofs.Yteclkkbebinkpaa
open Go.RowKit
attribute [local go_sem] more_size more_cell more_frozen more_setCell drew_more drewN_more lt_add_r lt_add_r2 lt_add_r3 lt_add_r4 lt_add_r5 lt_add_r6 lt_self_r lt_self_r2

theorem move1 (w : World) : Calls Try.prog 15 #[.agg #[.int .i64 0, .int .i64 2], .agg #[.int .i64 2, .int .i64 1, .int .i64 3]] w fun e w' => e = .returned (.agg #[.int .i64 0, .int .i64 2]) ∧ Ext w w' :=
  move_any 0 2 2 1 3 w
theorem move2 (w : World) : Calls Try.prog 15 #[.agg #[.int .i64 3, .int .i64 5], .agg #[.int .i64 2, .int .i64 1, .int .i64 3]] w fun e w' => e = .returned (.agg #[.int .i64 5, .int .i64 7]) ∧ Ext w w' :=
  move_any 3 5 2 1 3 w
theorem meets1 (w : World) : Calls Try.prog 13 #[.agg #[.int .i64 1, .int .i64 3], .agg #[.int .i64 2, .int .i64 1, .int .i64 3]] w fun e w' => e = .returned (.bool true) ∧ Ext w w' :=
  meets_any 1 3 2 1 3 w
set_option maxHeartbeats 400000 in
theorem lives_any (w : World) :
    Calls Try.prog 10 #[] w fun e w' => e = .returned (.bool true) ∧ Ext w w' := by
  go_enter Try.func10, Try.ntmps10
  go_wp2_with (first | (go_at_call_of 15 (Value.agg #[Value.int IntKind.i64 0, Value.int IntKind.i64 2]); refine (move1 _).mono ?_; rintro e w1 ⟨rfl, os1, k1, rfl⟩) | (go_at_call_of 15 (Value.agg #[Value.int IntKind.i64 3, Value.int IntKind.i64 5]); refine (move2 _).mono ?_; rintro e w2 ⟨rfl, os2, k2, rfl⟩) | (go_at_call 13; refine (meets1 _).mono ?_; rintro e w3 ⟨rfl, os3, k3, rfl⟩))
  go_ret
  exact ⟨rfl, by repeat (first | exact Ext.refl _ | refine Ext.alloc ?_ _ | refine Ext.more ?_ _ _ | refine Ext.drew ?_ | refine Ext.drewN ?_ _)⟩
end Go.Proofs.Yteclkkbebinkpaa
