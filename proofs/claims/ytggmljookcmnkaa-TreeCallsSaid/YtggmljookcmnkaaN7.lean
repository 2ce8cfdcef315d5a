/- The contracts of viewportref10.Start, End. -/
import Derived.Test.YtggmljookcmnkaaR1
import Derived.Test.YtggmljookcmnkaaTz
import Derived.WalkSpells
import Derived.WalkLawsBesides
import Derived.BigRegion
import Derived.Deep.RegionWith
import Derived.Deep.QuietTactic
import Derived.Deep.DeepCutAuto
import Derived.Deep.RegionHeld3
import Derived.Deep.RegionLaw
import Derived.BigQuiet
import Derived.Lib.Hide
namespace Go.Proofs.Ytggmljookcmnkaa
open Go.RowKit
attribute [local go_sem] more_drew more_drewN more_size more_cell more_frozen more_setCell drew_more drewN_more lt_add_r lt_add_r2 lt_add_r3 lt_add_r4 lt_add_r5 lt_add_r6 lt_add_r7 lt_add_r8 lt_add_r9 lt_add_r10 lt_self_r lt_self_r2

set_option maxRecDepth 100000 in
set_option maxHeartbeats 1000000 in
theorem rstart10 (x a d i : Int) (w : World) :
    Calls Try.prog 113 #[.int .i64 x, .agg #[.int .i64 a, .int .i64 d, .int .i64 i]] w fun e w' => e = .returned (.int .i64 (startF x a d i)) ∧ Ext w w' := by
  have ha := clamp_bd a
  have hd := clamp_bd d
  have hi := clamp_bd i
  have hx := clamp_bd x
  go_enter Try.func113, Try.ntmps113
  go_upto_region 1 with fail
  refine wp_region_bt (5) (softs_bt [0, 2] (.step 1 (.step 3 (softs_bt [4] (.step 5 .fin))))) (by kernel_rfl) (by kernel_rfl) ?_
  (refine bt_softs _ fun K hK => ?_); (simp only [pick, nthC]); (repeat (go_big_quiet_step (fail))); (refine wpQuiet_nil (hK _ ?_)); (clear hK K)
  (refine bt_step fun next hn => ?_); (simp only [pick, nthC])
  go_wp2_with fail
  refine (rput_any _ _).mono ?_
  rintro e w1 ⟨rfl, rfl⟩
  go_wp2_with fail
  refine segQ_mk (fun _ => laid (by repeat (first | exact Ext.refl _ | refine Ext.alloc ?_ _ | refine Ext.more ?_ _ _ | refine Ext.drew ?_ | refine Ext.drewN ?_ _ | refine Ext.setCell ?_ (by simp <;> omega) _))) (hn _ _ ?_)
  clear hn next
  (refine bt_step fun next hn => ?_); (simp only [pick, nthC])
  go_wp2_with fail
  refine (redit_any _ _ _ _).mono ?_
  rintro e w2 ⟨rfl, os2, k2, rfl⟩
  go_wp2_with fail
  refine segQ_mk (fun _ => laid (by repeat (first | exact Ext.refl _ | refine Ext.alloc ?_ _ | refine Ext.more ?_ _ _ | refine Ext.drew ?_ | refine Ext.drewN ?_ _ | refine Ext.setCell ?_ (by simp <;> omega) _))) (hn _ _ ?_)
  clear hn next
  (refine bt_softs _ fun K hK => ?_); (simp only [pick, nthC]); (repeat (go_big_quiet_step (fail))); (refine wpQuiet_nil (hK _ ?_)); (clear hK K)
  (refine bt_step fun next hn => ?_); (simp only [pick, nthC])
  go_wp2_with fail
  refine segQ_mk (fun h => absurd rfl h) (hn _ _ ?_)
  clear hn next
  (refine bt_fin ?_)
  go_wp2
  all_goals go_ret
  all_goals exact ⟨ret_int (by unfold startF behindF; repeat (first | omega | split)), (by repeat (first | exact Ext.refl _ | refine Ext.alloc ?_ _ | refine Ext.more ?_ _ _ | refine Ext.drew ?_ | refine Ext.drewN ?_ _ | refine Ext.setCell ?_ (by simp <;> omega) _))⟩
set_option maxRecDepth 100000 in
set_option maxHeartbeats 1000000 in
theorem rend10 (x a d i : Int) (w : World) :
    Calls Try.prog 114 #[.int .i64 x, .agg #[.int .i64 a, .int .i64 d, .int .i64 i]] w fun e w' => e = .returned (.int .i64 (endF x a d i)) ∧ Ext w w' := by
  have ha := clamp_bd a
  have hd := clamp_bd d
  have hi := clamp_bd i
  have hx := clamp_bd x
  go_enter Try.func114, Try.ntmps114
  go_upto_region 1 with fail
  refine wp_region_bt (5) (softs_bt [0, 2] (.step 1 (.step 3 (softs_bt [4] (.step 5 .fin))))) (by kernel_rfl) (by kernel_rfl) ?_
  (refine bt_softs _ fun K hK => ?_); (simp only [pick, nthC]); (repeat (go_big_quiet_step (fail))); (refine wpQuiet_nil (hK _ ?_)); (clear hK K)
  (refine bt_step fun next hn => ?_); (simp only [pick, nthC])
  go_wp2_with fail
  refine (rput_any _ _).mono ?_
  rintro e w1 ⟨rfl, rfl⟩
  go_wp2_with fail
  refine segQ_mk (fun _ => laid (by repeat (first | exact Ext.refl _ | refine Ext.alloc ?_ _ | refine Ext.more ?_ _ _ | refine Ext.drew ?_ | refine Ext.drewN ?_ _ | refine Ext.setCell ?_ (by simp <;> omega) _))) (hn _ _ ?_)
  clear hn next
  (refine bt_step fun next hn => ?_); (simp only [pick, nthC])
  go_wp2_with fail
  refine (redit_any _ _ _ _).mono ?_
  rintro e w2 ⟨rfl, os2, k2, rfl⟩
  go_wp2_with fail
  refine segQ_mk (fun _ => laid (by repeat (first | exact Ext.refl _ | refine Ext.alloc ?_ _ | refine Ext.more ?_ _ _ | refine Ext.drew ?_ | refine Ext.drewN ?_ _ | refine Ext.setCell ?_ (by simp <;> omega) _))) (hn _ _ ?_)
  clear hn next
  (refine bt_softs _ fun K hK => ?_); (simp only [pick, nthC]); (repeat (go_big_quiet_step (fail))); (refine wpQuiet_nil (hK _ ?_)); (clear hK K)
  (refine bt_step fun next hn => ?_); (simp only [pick, nthC])
  go_wp2_with fail
  refine segQ_mk (fun h => absurd rfl h) (hn _ _ ?_)
  clear hn next
  (refine bt_fin ?_)
  go_wp2
  all_goals go_ret
  all_goals exact ⟨ret_int (by unfold endF behindF; repeat (first | omega | split)), (by repeat (first | exact Ext.refl _ | refine Ext.alloc ?_ _ | refine Ext.more ?_ _ _ | refine Ext.drew ?_ | refine Ext.drewN ?_ _ | refine Ext.setCell ?_ (by simp <;> omega) _))⟩
end Go.Proofs.Ytggmljookcmnkaa
