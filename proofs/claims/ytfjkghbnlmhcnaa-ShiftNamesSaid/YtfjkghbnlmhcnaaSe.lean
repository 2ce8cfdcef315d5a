/- slices.SortStableFunc of at most 20 spans: the walk. -/
import Derived.Test.YtfjkghbnlmhcnaaSd
import Derived.WalkSpells
import Derived.WalkLawsBesides
import Derived.BigRegion
import Derived.Deep.RegionWith
import Derived.Deep.QuietTactic
import Derived.Deep.DeepCutAuto
import Derived.Deep.RegionHeld3
import Derived.Deep.RegionLaw
import Derived.BigQuiet
import Derived.Lib.Hide
namespace Go.Proofs.Ytfjkghbnlmhcnaa
open Go.RowKit
attribute [local go_sem] more_drew more_drewN more_size more_cell more_frozen more_setCell drew_more drewN_more lt_add_r lt_add_r2 lt_add_r3 lt_add_r4 lt_add_r5 lt_add_r6 lt_add_r7 lt_add_r8 lt_add_r9 lt_add_r10 lt_self_r lt_self_r2

theorem sort_none (A : Option Addr) (m c : Nat) (w : World) (v : Value) :
    Calls Try.prog 64 #[.slice A m c, .int .i64 20, .int .i64 20, v] w fun e w' => e = .returned (.tuple #[]) ∧ Ext w w' := by
  go_enter Try.func64, Try.ntmps64
  go_wp2_with fail
  refine wp_loop_rounds 1 ?_
  rw [rounds_succ]
  go_wp2_with fail
  go_end0
  exact ⟨rfl, (by repeat (first | exact Ext.refl _ | refine Ext.alloc ?_ _ | refine Ext.more ?_ _ _ | refine Ext.drew ?_ | refine Ext.drewN ?_ _ | refine Ext.setCell ?_ (by simp <;> omega) _))⟩
set_option maxRecDepth 100000 in
set_option maxHeartbeats 2000000 in
theorem stable_in (base g c : Nat) (ss : List Sn) (w : World) (hO : OwnS w base (some ⟨g, 0, none⟩) c ss) (h0 : 0 < ss.length) (hl : ss.length ≤ 20) :
    Calls Try.prog 60 #[.slice (some ⟨g, 0, none⟩) ss.length c, .int .i64 ss.length, .func (.func 49) #[] #[]] w
      fun e w' => e = .returned (.tuple #[]) ∧ OwnS w' base (some ⟨g, 0, none⟩) c (insAll ss) ∧ Turn (· = g) w w' := by
  have C := Lib.hid (fun (w1 : World) (x : Ext w w1) => sort_in base g c ss w1 (hO.ext x) h0 (by omega))
  obtain ⟨n, hn⟩ : ∃ n, ss.length = n := ⟨_, rfl⟩
  rw [hn] at C h0 hl ⊢
  clear hO hn
  by_cases h20 : n = 20
  · subst h20
    clear h0 hl
    go_enter Try.func60, Try.ntmps60
    go_wp2_with fail
    refine wp_loop_rounds 2 ?_
    rw [rounds_succ]
    go_wp2_with fail
    refine (C.out _ (by repeat (first | exact Ext.refl _ | refine Ext.alloc ?_ _ | refine Ext.more ?_ _ _ | refine Ext.drew ?_ | refine Ext.drewN ?_ _ | refine Ext.setCell ?_ (by simp <;> omega) _))).mono ?_
    rintro e w1 ⟨rfl, ho1, ht1⟩
    have HO1 := Lib.hid ho1
    have HT1 := Lib.hid ht1
    clear ho1 ht1
    go_wp2_with fail
    rw [rounds_succ]
    go_wp2_with fail
    refine (sort_none _ _ _ _ _).mono ?_
    rintro e w2 ⟨rfl, os2, k2, rfl⟩
    go_wp2_with fail
    refine wp_loop_rounds 1 ?_
    rw [rounds_succ]
    go_wp2_with fail
    go_end0
    exact ⟨rfl, HO1.out.ext (by repeat (first | exact Ext.refl _ | refine Ext.alloc ?_ _ | refine Ext.more ?_ _ _ | refine Ext.drew ?_ | refine Ext.drewN ?_ _ | refine Ext.setCell ?_ (by simp <;> omega) _)), HT1.out.trans (Turn.of_ext (by repeat (first | exact Ext.refl _ | refine Ext.alloc ?_ _ | refine Ext.more ?_ _ _ | refine Ext.drew ?_ | refine Ext.drewN ?_ _ | refine Ext.setCell ?_ (by simp <;> omega) _)))⟩
  · have q1 : decide ((20 : Int) ≤ (n : Int)) = false := decide_eq_false (by omega)
    have q2 : decide ((20 : Int) < (n : Int)) = false := decide_eq_false (by omega)
    go_enter Try.func60, Try.ntmps60
    go_wp2_with fail
    refine wp_loop_rounds 1 ?_
    rw [rounds_succ]
    go_wp2_with fail
    refine (C.out _ (by repeat (first | exact Ext.refl _ | refine Ext.alloc ?_ _ | refine Ext.more ?_ _ _ | refine Ext.drew ?_ | refine Ext.drewN ?_ _ | refine Ext.setCell ?_ (by simp <;> omega) _))).mono ?_
    rintro e w1 ⟨rfl, ho1, ht1⟩
    have HO1 := Lib.hid ho1
    have HT1 := Lib.hid ht1
    clear ho1 ht1
    go_wp2_with fail
    refine wp_loop_rounds 1 ?_
    rw [rounds_succ]
    go_wp2_with fail
    go_end0
    exact ⟨rfl, HO1.out.ext (by repeat (first | exact Ext.refl _ | refine Ext.alloc ?_ _ | refine Ext.more ?_ _ _ | refine Ext.drew ?_ | refine Ext.drewN ?_ _ | refine Ext.setCell ?_ (by simp <;> omega) _)), HT1.out.trans (Turn.of_ext (by repeat (first | exact Ext.refl _ | refine Ext.alloc ?_ _ | refine Ext.more ?_ _ _ | refine Ext.drew ?_ | refine Ext.drewN ?_ _ | refine Ext.setCell ?_ (by simp <;> omega) _)))⟩
set_option maxHeartbeats 1000000 in
theorem sortS_in (base g c : Nat) (ss : List Sn) (w : World) (hO : OwnS w base (some ⟨g, 0, none⟩) c ss) (h0 : 0 < ss.length) (hl : ss.length ≤ 20) :
    Calls Try.prog 48 #[.slice (some ⟨g, 0, none⟩) ss.length c, .func (.func 49) #[] #[]] w
      fun e w' => e = .returned (.tuple #[]) ∧ OwnS w' base (some ⟨g, 0, none⟩) c (insAll ss) ∧ Turn (· = g) w w' := by
  have C := Lib.hid (fun (w1 : World) (x : Ext w w1) => stable_in base g c ss w1 (hO.ext x) h0 hl)
  obtain ⟨n, hn⟩ : ∃ n, ss.length = n := ⟨_, rfl⟩
  rw [hn] at C ⊢
  clear hO hn h0 hl
  go_enter Try.func48, Try.ntmps48
  go_wp2_with fail
  refine (C.out _ (by repeat (first | exact Ext.refl _ | refine Ext.alloc ?_ _ | refine Ext.more ?_ _ _ | refine Ext.drew ?_ | refine Ext.drewN ?_ _ | refine Ext.setCell ?_ (by simp <;> omega) _))).mono ?_
  rintro e w1 ⟨rfl, ho1, ht1⟩
  have HO1 := Lib.hid ho1
  have HT1 := Lib.hid ht1
  clear ho1 ht1
  go_wp2_with fail
  go_end0
  exact ⟨rfl, HO1.out.ext (by repeat (first | exact Ext.refl _ | refine Ext.alloc ?_ _ | refine Ext.more ?_ _ _ | refine Ext.drew ?_ | refine Ext.drewN ?_ _ | refine Ext.setCell ?_ (by simp <;> omega) _)), HT1.out.trans (Turn.of_ext (by repeat (first | exact Ext.refl _ | refine Ext.alloc ?_ _ | refine Ext.more ?_ _ _ | refine Ext.drew ?_ | refine Ext.drewN ?_ _ | refine Ext.setCell ?_ (by simp <;> omega) _)))⟩
end Go.Proofs.Ytfjkghbnlmhcnaa
