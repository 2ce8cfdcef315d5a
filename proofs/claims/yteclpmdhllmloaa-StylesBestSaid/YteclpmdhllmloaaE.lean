/- The contract of lives. -/
import Derived.Test.YteclpmdhllmloaaD
import Derived.WalkSpells
import Derived.WalkLawsBesides
import Derived.Deep.RegionWith
import Derived.Deep.QuietTactic
import Derived.Deep.DeepCutAuto
import Derived.Deep.RegionHeld3
import Derived.BigQuiet
import Derived.Lib.Hide
namespace Go.Proofs.Yteclpmdhllmloaa
open Go.RowKit
attribute [local go_sem] more_drew more_drewN more_size more_cell more_frozen more_setCell drew_more drewN_more lt_add_r lt_add_r2 lt_add_r3 lt_add_r4 lt_add_r5 lt_add_r6 lt_add_r7 lt_add_r8 lt_add_r9 lt_add_r10 lt_self_r lt_self_r2

theorem ext_of_more (w : World) (os : List Obj) (k : Nat) : Ext w (more w os k) := ⟨os, k, rfl⟩
theorem lives_any (w : World) : Calls Try.prog 5 #[] w fun e w' => e = .returned (.bool true) ∧ Ext w w' := by
  go_enter Try.func5, Try.ntmps5
  go_wp2_with fail
  refine (example_any _).mono ?_
  rintro e w1 ⟨g, p, rfl, ⟨os1, k1, rfl⟩, hg, hS, hO⟩
  have S1 := Lib.hid hS
  have O1 := Lib.hid hO
  clear hS hO
  go_wp2_with fail
  refine (style_any _ _ 2 0 _ [-3] 1 _ (S1.out.ext (by repeat (first | exact Ext.refl _ | refine Ext.alloc ?_ _ | refine Ext.more ?_ _ _ | refine Ext.drew ?_ | refine Ext.drewN ?_ _))) (O1.out.ext (by repeat (first | exact Ext.refl _ | refine Ext.alloc ?_ _ | refine Ext.more ?_ _ _ | refine Ext.drew ?_ | refine Ext.drewN ?_ _))) (by simp) (fun _ => ⟨_, _, rfl, by simp [more_size] <;> omega, fun k hk => ?_⟩) (by simp) (by simp)).mono ?_
  · match k, hk with
    | 0, _ => simp [go_sem]
  rintro e w2 ⟨rfl, os2, k2, rfl⟩
  have e1 : styleF [⟨0, none, 0, [], 1, 0⟩, ⟨0, some ⟨p, 0, none⟩, 1, [1], 2, 1⟩] 0 [-3] = 1 := by rfl
  rw [e1]
  go_wp2_with fail
  clear S1 O1 hg
  refine (example_any _).mono ?_
  rintro e w1 ⟨g, p, rfl, ⟨os1, k1, rfl⟩, hg, hS, hO⟩
  have S1 := Lib.hid hS
  have O1 := Lib.hid hO
  clear hS hO
  go_wp2_with fail
  refine (style_any _ _ 2 0 _ [-3, 1] 2 _ (S1.out.ext (by repeat (first | exact Ext.refl _ | refine Ext.alloc ?_ _ | refine Ext.more ?_ _ _ | refine Ext.drew ?_ | refine Ext.drewN ?_ _))) (O1.out.ext (by repeat (first | exact Ext.refl _ | refine Ext.alloc ?_ _ | refine Ext.more ?_ _ _ | refine Ext.drew ?_ | refine Ext.drewN ?_ _))) (by simp) (fun _ => ⟨_, _, rfl, by simp [more_size] <;> omega, fun k hk => ?_⟩) (by simp) (by simp)).mono ?_
  · match k, hk with
    | 0, _ => simp [go_sem]
    | 1, _ => simp [go_sem]
  rintro e w2 ⟨rfl, os2, k2, rfl⟩
  have e1 : styleF [⟨0, none, 0, [], 1, 0⟩, ⟨0, some ⟨p, 0, none⟩, 1, [1], 2, 1⟩] 0 [-3, 1] = 2 := by rfl
  rw [e1]
  go_wp2_with fail
  go_ret
  exact ⟨rfl, by repeat (first | exact Ext.refl _ | refine Ext.alloc ?_ _ | refine Ext.more ?_ _ _ | refine Ext.drew ?_ | refine Ext.drewN ?_ _)⟩
end Go.Proofs.Yteclpmdhllmloaa
