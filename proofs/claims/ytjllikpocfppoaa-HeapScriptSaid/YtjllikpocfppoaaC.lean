/- The heap's comparison of two places. -/
import Derived.Test.YtjllikpocfppoaaB
import Derived.WalkSpells
import Derived.WalkLawsBesides
import Derived.BigRegion
import Derived.Deep.RegionWith
import Derived.Deep.QuietTactic
import Derived.Deep.DeepCutAuto
import Derived.Deep.RegionHeld3
import Derived.Deep.RegionLaw
import Derived.BigQuiet
import Derived.Lib.Hide
namespace Go.Proofs.Ytjllikpocfppoaa
open Go.RowKit
attribute [local go_sem] more_drew more_drewN more_size more_cell more_frozen more_setCell drew_more drewN_more lt_add_r lt_add_r2 lt_add_r3 lt_add_r4 lt_add_r5 lt_add_r6 lt_add_r7 lt_add_r8 lt_add_r9 lt_add_r10 lt_self_r lt_self_r2

set_option maxRecDepth 100000 in
set_option maxHeartbeats 3000000 in
theorem less_any (p : Nat) (v : Value) (X : List It) (c : Int) (i k : Nat) (hi : i < X.length) (hk : k < X.length) (w : World) (h : HeapAt w p byKeyV v X c) : Calls Try.prog 36 #[.pointer (some ⟨p, 0, none⟩), .int .i64 (i : Int), .int .i64 (k : Int)] w fun e w' => e = .returned (.bool (ltI (X.getD i (0, 0, 0)) (X.getD k (0, 0, 0)))) ∧ Ext w w' := by
  obtain ⟨g, cap, rfl, hpg, hg, hlc, hcm⟩ := h.form (by omega)
  obtain ⟨i0, i1, i2⟩ := h.item i hi
  obtain ⟨k0, k1, k2⟩ := h.item k hk
  obtain ⟨c0, c1, _⟩ := h.cell
  have hp := h.lt
  have hm : X.length ≤ 9223372036854775807 := by unfold maxLen at hcm; omega
  have bi : (i : Int) < (X.length : Int) := by omega
  have bk : (k : Int) < (X.length : Int) := by omega
  have bi0 : (0 : Int) ≤ (i : Int) := by omega
  have bk0 : (0 : Int) ≤ (k : Int) := by omega
  clear h
  unfold byKeyV at c0
  generalize X.getD i (0, 0, 0) = a at *
  generalize X.getD k (0, 0, 0) = b at *
  obtain ⟨an, ak, ai⟩ := a
  obtain ⟨bn, bk', bi'⟩ := b
  generalize X.length = L at *
  simp only at i0 i1 i2 k0 k1 k2
  obtain ⟨r, hr⟩ : ∃ r, cmpK ak bk' = r := ⟨_, rfl⟩
  have BY := Lib.hid (fun w1 => byKey_any ak ai bk' bi' w1)
  go_enter Try.func36, Try.ntmps36
  go_wp2_with (first | (go_at_call 9; refine (BY.out _).mono ?_; rintro e w1 ⟨rfl, os1, k1, rfl⟩))
  go_region
  all_goals go_wp2_with fail
  all_goals
    refine wp_region_ext (by kernel_rfl) (by kernel_rfl) ?_
    repeat (go_big_quiet_step ((go_at_call 9; exact calls_ext (BY.out _))))
    refine wpQuiet_nil ?_
    intro _ hw'
    obtain ⟨x9, rfl⟩ := hw'
    go_wp2
  all_goals go_ret
  all_goals refine ⟨ret_bool ?_, (by repeat (first | exact Ext.refl _ | refine Ext.alloc ?_ _ | refine Ext.more ?_ _ _ | refine Ext.drew ?_ | refine Ext.drewN ?_ _ | refine Ext.setCell ?_ (by simp <;> omega) _))⟩
  all_goals (unfold ltI; simp_all)
end Go.Proofs.Ytjllikpocfppoaa
