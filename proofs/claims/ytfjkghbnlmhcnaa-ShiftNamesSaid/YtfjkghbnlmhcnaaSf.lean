/- Slices of spans that are the same. -/
import Derived.Test.YtfjkghbnlmhcnaaSb
import Derived.WalkSpells
import Derived.WalkLawsBesides
import Derived.BigRegion
import Derived.Deep.RegionWith
import Derived.Deep.QuietTactic
import Derived.Deep.DeepCutAuto
import Derived.Deep.RegionHeld3
import Derived.Deep.RegionLaw
import Derived.BigQuiet
import Derived.Lib.Hide
namespace Go.Proofs.Ytfjkghbnlmhcnaa
open Go.RowKit
attribute [local go_sem] more_drew more_drewN more_size more_cell more_frozen more_setCell drew_more drewN_more lt_add_r lt_add_r2 lt_add_r3 lt_add_r4 lt_add_r5 lt_add_r6 lt_add_r7 lt_add_r8 lt_add_r9 lt_add_r10 lt_self_r lt_self_r2

set_option maxRecDepth 100000 in
set_option maxHeartbeats 1000000 in
theorem same_spans (A B : Option Addr) (ss : List Sn) (c d : Nat) (w : World) (hA : Spns w A ss) (hB : Spns w B ss) (hl : ss.length ≤ 1000000) :
    Calls Try.prog 30 #[.slice A ss.length c, .slice B ss.length d] w fun e w' => e = .returned (.bool true) ∧ Ext w w' := by
  have HP := Lib.hid hA
  have HQ := Lib.hid hB
  clear hA hB
  go_enter Try.func30, Try.ntmps30
  go_wp2_with fail
  go_loopw [5] (fun i wr => ∃ k : Nat, k ≤ ss.length ∧ i = .int .i64 k ∧ Hid (Ext w wr)) (fun i _ => ss.length - (intOf i).toNat)
  case atStart => exact ⟨0, by omega, rfl, Lib.hid (by repeat (first | exact Ext.refl _ | refine Ext.alloc ?_ _ | refine Ext.more ?_ _ _ | refine Ext.drew ?_ | refine Ext.drewN ?_ _ | refine Ext.setCell ?_ (by simp <;> omega) _))⟩
  case round =>
    obtain ⟨k, hk, rfl, hx⟩ := hrel
    by_cases hlt : k < ss.length
    · obtain ⟨p, hp⟩ : ∃ p, ss[k]? = some p := ⟨_, List.getElem?_eq_getElem hlt⟩
      obtain ⟨b1, o1, rfl, hb1, hc1⟩ := (HP.out.ext hx.out) (by omega)
      obtain ⟨b2, o2, rfl, hb2, hc2⟩ := (HQ.out.ext hx.out) (by omega)
      obtain ⟨x0, x1⟩ := hc1 k p hp
      obtain ⟨y0, y1⟩ := hc2 k p hp
      clear hc1 hc2 hp
      go_upto_region 6 with fail
      refine wp_region_bt (9) (softs_bt [0, 1, 2, 3, 4, 5, 6, 7, 8] .fin) (by kernel_rfl) (by kernel_rfl) ?_
      (refine bt_softs _ fun K hK => ?_); (simp only [pick, nthC]); (repeat (go_big_quiet_step (fail))); (refine wpQuiet_nil (hK _ ?_)); (clear hK K)
      (refine bt_fin ?_)
      go_wp2_with fail
      go_roundw
      case rel => exact ⟨k + 1, by omega, by go_num, Lib.hid (hx.out.trans (by repeat (first | exact Ext.refl _ | refine Ext.alloc ?_ _ | refine Ext.more ?_ _ _ | refine Ext.drew ?_ | refine Ext.drewN ?_ _ | refine Ext.setCell ?_ (by simp <;> omega) _)))⟩
      case measure => simp [intOf]; omega
    · obtain rfl : k = ss.length := by omega
      go_wp2_with fail
      go_ret
      exact ⟨rfl, hx.out⟩
end Go.Proofs.Ytfjkghbnlmhcnaa
