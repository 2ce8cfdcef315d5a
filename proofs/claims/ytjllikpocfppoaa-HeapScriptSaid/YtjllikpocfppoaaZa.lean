/- The reference heap. -/
import Derived.Test.YtjllikpocfppoaaO
import Derived.Test.YtjllikpocfppoaaTs
import Derived.WalkSpells
import Derived.WalkLawsBesides
import Derived.BigRegion
import Derived.Deep.RegionWith
import Derived.Deep.QuietTactic
import Derived.Deep.DeepCutAuto
import Derived.Deep.RegionHeld3
import Derived.Deep.RegionLaw
import Derived.BigQuiet
import Derived.Lib.Hide
namespace Go.Proofs.Ytjllikpocfppoaa
open Go.RowKit
attribute [local go_sem] more_drew more_drewN more_size more_cell more_frozen more_setCell drew_more drewN_more lt_add_r lt_add_r2 lt_add_r3 lt_add_r4 lt_add_r5 lt_add_r6 lt_add_r7 lt_add_r8 lt_add_r9 lt_add_r10 lt_self_r lt_self_r2

theorem ext_heap {w w' : World} {o : Nat} {ob : Obj} (h : w.heap[o]? = some ob) (e : Ext w w') : w'.heap[o]? = some ob := (e.below.block o (lt_of_heap h)).trans h
def refC (R : List It) : List Value := R.flatMap fun r => [.int .i64 r.2.1, .int .i64 r.2.2]
theorem refC_length (R : List It) : (refC R).length = R.length * 2 := by
  induction R with
  | nil => rfl
  | cons x R ih => show (_ :: _ :: refC R).length = _; simp [ih]; omega
theorem refC_append (R S : List It) : refC (R ++ S) = refC R ++ refC S := by simp [refC]
theorem refC_get (R : List It) (j : Nat) (hj : j < R.length) : (refC R)[j * 2]? = some (.int .i64 (R.getD j z3).2.1) ∧ (refC R)[j * 2 + 1]? = some (.int .i64 (R.getD j z3).2.2) := by
  induction R generalizing j with
  | nil => simp at hj
  | cons x R ih =>
    show (_ :: _ :: refC R)[j * 2]? = _ ∧ (_ :: _ :: refC R)[j * 2 + 1]? = _
    cases j with
    | zero => simp
    | succ j =>
      have := ih j (by simpa using hj)
      rw [show (j + 1) * 2 = j * 2 + 1 + 1 by omega]
      simpa using this
theorem refC_take (R : List It) (j : Nat) : refC (R.take j) = (refC R).take (j * 2) := by
  induction R generalizing j with
  | nil => simp [refC]
  | cons x R ih =>
    cases j with
    | zero => rfl
    | succ j =>
      show (_ :: _ :: refC (R.take j)) = (_ :: _ :: refC R).take ((j + 1) * 2)
      rw [ih, show (j + 1) * 2 = j * 2 + 1 + 1 by omega]
      rfl
theorem refC_drop (R : List It) (j : Nat) : refC (R.drop j) = (refC R).drop (j * 2) := by
  induction R generalizing j with
  | nil => simp [refC]
  | cons x R ih =>
    cases j with
    | zero => rfl
    | succ j =>
      show refC (R.drop j) = (_ :: _ :: refC R).drop ((j + 1) * 2)
      rw [ih, show (j + 1) * 2 = j * 2 + 1 + 1 by omega]
      rfl
theorem refC_one (R : List It) : ∀ u ∈ refC R, u.oneCell' = true := by
  intro u hu
  obtain ⟨x, _, hx⟩ := List.mem_flatMap.1 hu
  simp only [List.mem_cons, List.not_mem_nil, or_false] at hx
  rcases hx with rfl | rfl <;> rfl
/-- a value that reads as the things R, in a block of theirs -/
def RefVal (w : World) (v : Value) (R : List It) : Prop :=
  ∃ A cap, v = .slice A R.length cap ∧ R.length ≤ cap ∧ cap ≤ maxLen ∧ (A = none → cap = 0) ∧
    (0 < R.length → ∃ g off cs, A = some ⟨g, off, none⟩ ∧ w.heap[g]? = some (.cells cs 27) ∧ ∀ k u, (refC R)[k]? = some u → cs[off + k]? = some u)
structure RefAt (w : World) (p : Nat) (v : Value) (R : List It) : Prop where
  blk : w.heap[p]? = some (.cells #[v] 49)
  val : RefVal w v R
theorem RefVal.keep {w w' : World} {v : Value} {R : List It} (h : RefVal w v R) (hk : ∀ (g : Nat) (cs : Array Value), w.heap[g]? = some (.cells cs 27) → w'.heap[g]? = some (.cells cs 27)) : RefVal w' v R := by
  obtain ⟨A, cap, h1, h2, h3, h4, h5⟩ := h
  refine ⟨A, cap, h1, h2, h3, h4, fun h0 => ?_⟩
  obtain ⟨g, off, cs, a, b, c⟩ := h5 h0
  exact ⟨g, off, cs, a, hk g cs b, c⟩
theorem RefVal.ext {w w' : World} {v : Value} {R : List It} (h : RefVal w v R) (e : Ext w w') : RefVal w' v R := h.keep fun g cs hg => (e.below.block g (lt_of_heap hg)).trans hg
theorem RefVal.cells {w : World} {A : Option Addr} {cap n : Nat} {R : List It} (h : RefVal w (.slice A n cap) R) : CellsAt w A (refC R) := by
  obtain ⟨A', cap', h1, h2, h3, h4, h5⟩ := h
  injection h1 with h1
  subst h1
  intro h0
  obtain ⟨g, off, cs, rfl, hg, hc⟩ := h5 (by rw [refC_length] at h0; omega)
  exact ⟨g, off, rfl, lt_of_heap hg, fun k u hk => (cell_of_row _ _ _ _ _ _ hg).trans (hc k u hk)⟩
theorem RefVal.of_own {w : World} {base : Nat} {v : Value} {R : List It} (h : w.ownsRow base 27 2 v R.length (refC R)) : RefVal w v R := by
  rcases h.2 with ⟨rfl, h2⟩ | ⟨g, cap, cur, rfl, h2, h3, h4, h5, h6, h7⟩
  · exact ⟨none, 0, by rw [h2], by omega, by unfold maxLen; omega, fun _ => rfl, fun h0 => by omega⟩
  · refine ⟨_, cap, rfl, h4, h5, (fun h => by cases h), fun _ => ⟨g, 0, cur, rfl, h3, fun k u hk => ?_⟩⟩
    rw [← h7, List.getElem?_take] at hk
    split at hk
    · rw [Nat.zero_add]
      rw [Array.getElem?_toList] at hk
      exact hk
    · cases hk

theorem RefVal.cut1 {w : World} {A : Option Addr} {R : List It} (h : RefVal w (.slice A R.length 1) R) (h0 : 0 < R.length) : RefVal w (.slice A (R.length - 1) 0) (R.drop 1) := by
  obtain ⟨A', cap', h1, h2, h3, h4, h5⟩ := h
  injection h1 with h1 _ h6
  subst h6
  have hl : (R.drop 1).length = R.length - 1 := List.length_drop
  refine ⟨A, 0, by rw [hl], by omega, by unfold maxLen; omega, fun _ => rfl, fun h => by omega⟩
theorem RefVal.cut {w : World} {A : Option Addr} {R : List It} {cap : Nat} (h : RefVal w (.slice A R.length cap) R) (h0 : 0 < R.length) (hc : ¬ cap = 1) : RefVal w (.slice (A.map (fun x => { block := x.block, off := x.off + 2 })) (R.length - 1) (cap - 1)) (R.drop 1) := by
  obtain ⟨A', cap', h1, h2, h3, h4, h5⟩ := h
  injection h1 with h1 _ h6
  subst h6
  subst h1
  have hl : (R.drop 1).length = R.length - 1 := List.length_drop
  refine ⟨_, cap - 1, by rw [hl], by omega, by omega, fun hn => ?_, fun h => ?_⟩
  · cases A with
    | none => have := h4 rfl; omega
    | some a => cases hn
  · obtain ⟨g, off, cs, rfl, hg, hcs⟩ := h5 h0
    refine ⟨g, off + 2, cs, rfl, hg, fun k u hk => ?_⟩
    rw [refC_drop, List.getElem?_drop] at hk
    have := hcs _ _ hk
    rw [show off + 2 + k = off + (1 * 2 + k) by omega]
    exact this
set_option maxRecDepth 100000 in
set_option maxHeartbeats 3000000 in
theorem refLeast (p : Nat) (v : Value) (R : List It) (w : World) (h : RefAt w p v R) : Calls Try.prog 23 #[.pointer (some ⟨p, 0, none⟩)] w fun e w' => e = .returned (.tuple #[.agg #[.int .i64 (R.getD 0 z3).2.1, .int .i64 (R.getD 0 z3).2.2], .bool (decide (0 < R.length))]) ∧ Ext w w' := by
  have c0 := cell_of_row _ _ 0 _ _ _ h.blk
  simp at c0
  have hp := lt_of_heap h.blk
  have hcl := h.val
  obtain ⟨A, cap, rfl, hc1, hc2, hc3, hc4⟩ := h.val
  have hcm : cap ≤ 9223372036854775807 := by unfold maxLen at hc2; omega
  rcases Nat.eq_zero_or_pos R.length with h0 | h0
  · obtain rfl : R = [] := List.eq_nil_of_length_eq_zero h0
    clear h hc4 hcl
    go_enter Try.func23, Try.ntmps23
    go_wp2_with fail
    go_returns
    exact ⟨rfl, (by repeat (first | exact Ext.refl _ | refine Ext.alloc ?_ _ | refine Ext.more ?_ _ _ | refine Ext.drew ?_ | refine Ext.drewN ?_ _ | refine Ext.setCell ?_ (by simp <;> omega) _))⟩
  · obtain ⟨b, off, rfl, hb, hcell⟩ := hcl.cells (by rw [refC_length]; omega)
    obtain ⟨g0, g1⟩ := refC_get R 0 h0
    have d0 := hcell _ _ g0
    have d1 := hcell _ _ g1
    obtain ⟨r, hr⟩ : ∃ r, R.getD 0 z3 = r := ⟨_, rfl⟩
    rw [hr] at d0 d1
    rw [hr]
    simp only [Nat.zero_mul, Nat.zero_add, Nat.add_zero] at d0 d1
    have b0 : decide (0 < R.length) = true := by simp [h0]
    have b2 : (0 : Int) < (R.length : Int) := by omega
    clear hcell h hcl hr g0 g1 hc4
    go_enter Try.func23, Try.ntmps23
    go_wp2_with fail
    go_returns
    exact ⟨by rw [b0], (by repeat (first | exact Ext.refl _ | refine Ext.alloc ?_ _ | refine Ext.more ?_ _ _ | refine Ext.drew ?_ | refine Ext.drewN ?_ _ | refine Ext.setCell ?_ (by simp <;> omega) _))⟩
/-- what the reference's Take leaves -/
def RefNext (p : Nat) (R : List It) (w w' : World) : Prop := ∃ v', RefAt w' p v' R ∧ Turn (fun b => b = p) w w'
set_option maxRecDepth 100000 in
set_option maxHeartbeats 3000000 in
theorem refTake (p : Nat) (v : Value) (R : List It) (w : World) (h : RefAt w p v R) : Calls Try.prog 22 #[.pointer (some ⟨p, 0, none⟩)] w fun e w' => e = .returned (.tuple #[.agg #[.int .i64 (R.getD 0 z3).2.1, .int .i64 (R.getD 0 z3).2.2], .bool (decide (0 < R.length))]) ∧ RefNext p (R.drop 1) w w' := by
  have hcm : ∀ A cap, v = .slice A R.length cap → cap ≤ 9223372036854775807 := by
    rintro A cap rfl
    obtain ⟨A', cap', h1, h2, h3, _⟩ := h.val
    injection h1 with _ _ h1
    unfold maxLen at h3
    omega
  have LE := Lib.hid (fun w1 g1 => refLeast p v R w1 g1)
  have H := Lib.hid h
  have c0 := cell_of_row _ _ 0 _ _ _ h.blk
  simp at c0
  have hp := lt_of_heap h.blk
  have f0 : w.frozen? ⟨p, 0, none⟩ = false := by simp [World.frozen?, h.blk]
  have hEx : ∀ w', Ext w w' → RefAt w' p v R := fun w' e => ⟨(e.below.block p hp).trans h.blk, h.val.ext e⟩
  have HE := Lib.hid hEx
  obtain ⟨k, d, hkd⟩ : ∃ k d, (R.getD 0 z3).2 = (k, d) := ⟨_, _, rfl⟩
  have hk1 : (R.getD 0 z3).2.1 = k := by rw [hkd]
  have hk2 : (R.getD 0 z3).2.2 = d := by rw [hkd]
  rw [hk1, hk2] at LE ⊢
  rcases Nat.eq_zero_or_pos R.length with h0 | h0
  · obtain rfl : R = [] := List.eq_nil_of_length_eq_zero h0
    have b0 : decide (0 < ([] : List It).length) = false := by simp
    rw [b0] at LE ⊢
    clear h c0 f0 hEx hcm hkd hk1 hk2
    go_enter Try.func22, Try.ntmps22
    go_wp2_with (first | (go_at_call 23; refine (LE.out _ (HE.out _ (by repeat (first | exact Ext.refl _ | refine Ext.alloc ?_ _ | refine Ext.more ?_ _ _ | refine Ext.drew ?_ | refine Ext.drewN ?_ _ | refine Ext.setCell ?_ (by simp <;> omega) _)))).mono ?_; rintro e w1 ⟨rfl, os1, k1, rfl⟩))
    go_returns
    exact ⟨rfl, v, HE.out _ (by repeat (first | exact Ext.refl _ | refine Ext.alloc ?_ _ | refine Ext.more ?_ _ _ | refine Ext.drew ?_ | refine Ext.drewN ?_ _ | refine Ext.setCell ?_ (by simp <;> omega) _)), Turn.of_ext (by repeat (first | exact Ext.refl _ | refine Ext.alloc ?_ _ | refine Ext.more ?_ _ _ | refine Ext.drew ?_ | refine Ext.drewN ?_ _ | refine Ext.setCell ?_ (by simp <;> omega) _))⟩
  · have b0 : decide (0 < R.length) = true := by simp [h0]
    rw [b0] at LE ⊢
    obtain ⟨A, cap, hv, hc1, hc2, hc3, hc4⟩ := h.val
    subst hv
    have hcm' := hcm A cap rfl
    have b2 : (1 : Int) ≤ (R.length : Int) := by omega
    have b3 : (R.length : Int) ≤ (cap : Int) := by omega
    have b4 : 1 ≤ R.length := h0
    obtain ⟨A2, hA2⟩ : ∃ A2, (if cap = 1 then A else A.map (fun x => x.add 2)) = A2 := ⟨_, rfl⟩
    obtain ⟨R1, hR1⟩ : ∃ R1, R.drop 1 = R1 := ⟨_, rfl⟩
    rw [hR1]
    have HR1 := Lib.hid hR1
    have HC4 := Lib.hid hc4
    clear hR1
    have HA2 := Lib.hid hA2
    clear h hEx hcm hkd hk1 hk2 hc4
    go_enter Try.func22, Try.ntmps22
    go_wp2_with (first | (go_at_call 23; refine (LE.out _ (HE.out _ (by repeat (first | exact Ext.refl _ | refine Ext.alloc ?_ _ | refine Ext.more ?_ _ _ | refine Ext.drew ?_ | refine Ext.drewN ?_ _ | refine Ext.setCell ?_ (by simp <;> omega) _)))).mono ?_; rintro e w1 ⟨rfl, os1, k1, rfl⟩))
    all_goals go_returns
    all_goals
      have FIN : ∀ v' w', RefVal w v' R1 → Ext (w.setCell ⟨p, 0, none⟩ v') w' → RefNext p R1 w w' := fun v' w' hv e => by
        have T := Turn.setCell (S := fun b => b = p) w (p := ⟨p, 0, none⟩) rfl v'
        have hb : (w.setCell ⟨p, 0, none⟩ v').heap[p]? = some (.cells #[v'] 49) := by simp [World.setCell, Array.getElem?_modify, H.out.blk]
        refine ⟨v', ⟨(e.below.block p (by rw [World.size_setCell]; exact hp)).trans hb, (hv.keep fun g cs hg => (T.block g (lt_of_heap hg) ?_).trans hg).ext e⟩, T.trans (Turn.of_ext e)⟩
        rintro rfl
        rw [H.out.blk] at hg
        injection hg with hg
        injection hg with _ hg
        cases hg
      refine ⟨rfl, FIN _ _ ?_ (Ext.alloc (Ext.more (Ext.alloc (Ext.refl _) _) _ _) _)⟩
      rw [← HR1.out]
      first
        | exact H.out.val.cut h0 (by assumption)
        | exact RefVal.cut1 (by have hcap : cap = 1 := by assumption
                                have := H.out.val
                                rw [hcap] at this
                                exact this) h0
end Go.Proofs.Ytjllikpocfppoaa
