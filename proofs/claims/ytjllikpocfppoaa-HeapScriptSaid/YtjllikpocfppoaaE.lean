/- The heap's Len, Least, New. -/
import Derived.Test.YtjllikpocfppoaaC
import Derived.WalkSpells
import Derived.WalkLawsBesides
import Derived.BigRegion
import Derived.Deep.RegionWith
import Derived.Deep.QuietTactic
import Derived.Deep.DeepCutAuto
import Derived.Deep.RegionHeld3
import Derived.Deep.RegionLaw
import Derived.BigQuiet
import Derived.Lib.Hide
namespace Go.Proofs.Ytjllikpocfppoaa
open Go.RowKit
attribute [local go_sem] more_drew more_drewN more_size more_cell more_frozen more_setCell drew_more drewN_more lt_add_r lt_add_r2 lt_add_r3 lt_add_r4 lt_add_r5 lt_add_r6 lt_add_r7 lt_add_r8 lt_add_r9 lt_add_r10 lt_self_r lt_self_r2

theorem HeapAt.val {w : World} {p : Nat} {F v : Value} {X : List It} {c : Int} (h : HeapAt w p F v X c) : ∃ A cap, v = .slice A X.length cap ∧ X.length ≤ cap ∧ cap ≤ maxLen ∧ (A = none → X = [] ∧ cap = 0) := by
  rcases h.row.2 with ⟨h1, h2⟩ | ⟨g, cap, cur, h1, h2, h3, h4, h5, _⟩
  · refine ⟨none, 0, by rw [h2]; exact h1, by omega, by unfold maxLen; omega, fun _ => ⟨List.eq_nil_of_length_eq_zero h2, rfl⟩⟩
  · exact ⟨_, cap, h1, h4, h5, fun h => by cases h⟩

set_option maxRecDepth 100000 in
set_option maxHeartbeats 3000000 in
theorem len_any (p : Nat) (v : Value) (X : List It) (c : Int) (w : World) (h : HeapAt w p byKeyV v X c) : Calls Try.prog 14 #[.pointer (some ⟨p, 0, none⟩)] w fun e w' => e = .returned (.int .i64 X.length) ∧ Ext w w' := by
  have NO := Lib.hid (fun w1 g1 => none_any p v X c w1 g1)
  have H := Lib.hid h
  obtain ⟨_, c1, _⟩ := h.cell
  have hp := h.lt
  obtain ⟨A, cap, rfl, _⟩ := h.val
  clear h
  go_enter Try.func14, Try.ntmps14
  go_wp2_with (first | (go_at_call 25; refine (NO.out _ H.out).mono ?_; rintro e w1 ⟨rfl, os1, k1, rfl⟩))
  go_ret
  exact ⟨rfl, (by repeat (first | exact Ext.refl _ | refine Ext.alloc ?_ _ | refine Ext.more ?_ _ _ | refine Ext.drew ?_ | refine Ext.drewN ?_ _ | refine Ext.setCell ?_ (by simp <;> omega) _))⟩

set_option maxRecDepth 100000 in
set_option maxHeartbeats 3000000 in
theorem least_any (p : Nat) (v : Value) (X : List It) (c : Int) (w : World) (h : HeapAt w p byKeyV v X c) : Calls Try.prog 15 #[.pointer (some ⟨p, 0, none⟩)] w fun e w' => e = .returned (.tuple #[.agg #[.int .i64 (X.getD 0 (0, 0, 0)).2.1, .int .i64 (X.getD 0 (0, 0, 0)).2.2], .bool (decide (0 < X.length))]) ∧ Ext w w' := by
  have NO := Lib.hid (fun w1 g1 => none_any p v X c w1 g1)
  have H := Lib.hid h
  obtain ⟨_, c1, _⟩ := h.cell
  have hp := h.lt
  rcases Nat.eq_zero_or_pos X.length with h0 | h0
  · obtain rfl : X = [] := List.eq_nil_of_length_eq_zero h0
    obtain ⟨A, cap, rfl, _⟩ := h.val
    clear h
    go_enter Try.func15, Try.ntmps15
    go_wp2_with (first | (go_at_call 25; refine (NO.out _ (H.out.ext (by repeat (first | exact Ext.refl _ | refine Ext.alloc ?_ _ | refine Ext.more ?_ _ _ | refine Ext.drew ?_ | refine Ext.drewN ?_ _ | refine Ext.setCell ?_ (by simp <;> omega) _)))).mono ?_; rintro e w1 ⟨rfl, os1, k1, rfl⟩))
    go_returns
    exact ⟨rfl, (by repeat (first | exact Ext.refl _ | refine Ext.alloc ?_ _ | refine Ext.more ?_ _ _ | refine Ext.drew ?_ | refine Ext.drewN ?_ _ | refine Ext.setCell ?_ (by simp <;> omega) _))⟩
  · obtain ⟨g, cap, rfl, hpg, hg, hlc, hcm⟩ := h.form h0
    obtain ⟨i0, i1, i2⟩ := h.item 0 h0
    have hm : X.length ≤ 9223372036854775807 := by unfold maxLen at hcm; omega
    clear h
    obtain ⟨x, hx⟩ : ∃ x, X.getD 0 (0, 0, 0) = x := ⟨_, rfl⟩
    rw [hx] at i0 i1 i2 ⊢
    clear hx
    have b0 : decide (0 < X.length) = true := by simp [h0]
    have b2 : (0 : Int) < (X.length : Int) := by omega
    go_enter Try.func15, Try.ntmps15
    go_wp2_with (first | (go_at_call 25; refine (NO.out _ (H.out.ext (by repeat (first | exact Ext.refl _ | refine Ext.alloc ?_ _ | refine Ext.more ?_ _ _ | refine Ext.drew ?_ | refine Ext.drewN ?_ _ | refine Ext.setCell ?_ (by simp <;> omega) _)))).mono ?_; rintro e w1 ⟨rfl, os1, k1, rfl⟩))
    go_returns
    exact ⟨by rw [b0], (by repeat (first | exact Ext.refl _ | refine Ext.alloc ?_ _ | refine Ext.more ?_ _ _ | refine Ext.drew ?_ | refine Ext.drewN ?_ _ | refine Ext.setCell ?_ (by simp <;> omega) _))⟩
end Go.Proofs.Ytjllikpocfppoaa
