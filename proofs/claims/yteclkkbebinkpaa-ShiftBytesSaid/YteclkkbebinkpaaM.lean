/- ShiftBytes: edited. -/
import Derived.Test.YteclkkbebinkpaaF
import Derived.Test.YteclkkbebinkpaaI
import Derived.Deep.RegionWith
import Derived.Deep.QuietTactic
import Derived.Deep.DeepCutAuto
import Derived.Deep.RegionHeld3
import Derived.BigQuiet
import Derived.Lib.Hide
namespace Go.Proofs.Yteclkkbebinkpaa
open Go.RowKit
attribute [local go_sem] more_size more_cell more_frozen more_setCell drew_more drewN_more lt_add_r lt_add_r2 lt_add_r3 lt_add_r4 lt_add_r5 lt_add_r6 lt_self_r lt_self_r2

set_option maxHeartbeats 400000 in
theorem edited_any (s ins : ByteArray) (a d i : Nat) (w : World) (hs : s.size ≤ 300) (hins : ins.size ≤ 300) (hd : a + d ≤ s.size) :
    Calls Try.prog 14 #[.string s, .agg #[.int .i64 a, .int .i64 d, .int .i64 i], .string ins] w fun e w' => e = .returned (.string (s.extract 0 a ++ ins ++ s.extract (a + d) s.size)) ∧ Ext w w' := by
  have h1 : a ≤ s.size := by omega
  have h2 : (0 : Int) ≤ a := by omega
  have h3 : (a : Int) ≤ s.size := by omega
  have h4 : (0 : Int) ≤ (a : Int) + d := by omega
  have h5 : (a : Int) + d ≤ s.size := by omega
  have e1 : IntKind.i64.wrap ((a : Int) + d) = ((a + d : Nat) : Int) := by rw [IntWalk.i64_in _ (by omega)]; omega
  go_enter Try.func14, Try.ntmps14
  go_wp2_with fail
  go_quiet (fail)
  go_wp2
  go_ret
  exact ⟨rfl, by repeat (first | exact Ext.refl _ | refine Ext.alloc ?_ _ | refine Ext.more ?_ _ _ | refine Ext.drew ?_ | refine Ext.drewN ?_ _)⟩
end Go.Proofs.Yteclkkbebinkpaa
