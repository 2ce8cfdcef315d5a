/- The contracts of package shift: Start, End, Meets. -/
import Derived.Test.YtggmljookcmnkaaRows
import Derived.Test.YtggmljookcmnkaaW
import Derived.Test.YtggmljookcmnkaaNd
import Derived.WalkSpells
import Derived.WalkLawsBesides
import Derived.Deep.RegionWith
import Derived.Deep.QuietTactic
import Derived.Deep.DeepCutAuto
import Derived.BigQuiet
import Derived.Lib.Hide
namespace Go.Proofs.Ytggmljookcmnkaa
open Go.RowKit
attribute [local go_sem] more_drew more_drewN more_size more_cell more_frozen more_setCell drew_more drewN_more lt_add_r lt_add_r2 lt_add_r3 lt_add_r4 lt_add_r5 lt_add_r6 lt_self_r lt_self_r2

def clamp (a : Int) : Int := min (max a (-1099511627776)) 1099511627776
theorem clamp_bd (a : Int) : -1099511627776 ≤ clamp a ∧ clamp a ≤ 1099511627776 := by unfold clamp; omega

set_option maxHeartbeats 400000 in
theorem within_any (n : Int) (w : World) :
    Calls Try.prog 142 #[.int .i64 n, .int .i64 (-1099511627776), .int .i64 1099511627776] w fun e w' => e = .returned (.int .i64 (clamp n)) ∧ w = w' := by
  go_enter Try.func142, Try.ntmps142
  go_wp2
  all_goals go_ret
  all_goals exact ⟨ret_int (by unfold clamp; omega), rfl⟩

/-- 'put' sets each number within bounds. -/
theorem put_any (a d i : Int) (w : World) :
    Calls Try.prog 131 #[.agg #[.int .i64 a, .int .i64 d, .int .i64 i]] w fun e w' => e = .returned (.agg #[.int .i64 (clamp a), .int .i64 (clamp d), .int .i64 (clamp i)]) ∧ Ext w w' := by
  go_enter Try.func131, Try.ntmps131
  go_wp2_with (first | (go_at_call 142; refine (within_any _ _).mono ?_; rintro e w' ⟨rfl, rfl⟩) | go_in)
  refine wp_loop_rounds 4 ?_
  iterate 4
    rw [rounds_succ]
    go_wp2_with (first | (go_at_call 142; refine (within_any _ _).mono ?_; rintro e w' ⟨rfl, rfl⟩) | go_in)
  go_returns
  exact ⟨rfl, (((Ext.refl _).alloc _).alloc _).alloc _⟩

theorem span_any (a d : Int) (w : World) :
    Calls Try.prog 130 #[.agg #[.int .i64 a, .int .i64 d]] w fun e w' => e = .returned (.agg #[.int .i64 (clamp a), .int .i64 (clamp d)]) ∧ Ext w w' := by
  go_enter Try.func130, Try.ntmps130
  go_wp2_with (first | (go_at_call 142; refine (within_any _ _).mono ?_; rintro e w' ⟨rfl, rfl⟩) | go_in)
  refine wp_loop_rounds 3 ?_
  iterate 3
    rw [rounds_succ]
    go_wp2_with (first | (go_at_call 142; refine (within_any _ _).mono ?_; rintro e w' ⟨rfl, rfl⟩) | go_in)
  go_returns
  exact ⟨rfl, (((Ext.refl _).alloc _).alloc _).alloc _⟩

/-- 'behind' within bounds. -/
def behindF (at_ a d i inn : Int) : Int := if a + d ≤ at_ then at_ - d + i else inn
theorem behind_any (at_ a d i inn : Int) (w : World) (h1 : -2199023255552 ≤ at_ ∧ at_ ≤ 2199023255552) (h2 : -2199023255552 ≤ a ∧ a ≤ 2199023255552) (h3 : -2199023255552 ≤ d ∧ d ≤ 2199023255552) (h4 : -2199023255552 ≤ i ∧ i ≤ 2199023255552) :
    Calls Try.prog 141 #[.int .i64 at_, .agg #[.int .i64 a, .int .i64 d, .int .i64 i], .int .i64 inn] w fun e w' => e = .returned (.int .i64 (behindF at_ a d i inn)) ∧ Ext w w' := by
  by_cases hc : a + d ≤ at_
  · have H : Hid (behindF at_ a d i inn = at_ - d + i) := if_pos hc
    go_enter Try.func141, Try.ntmps141
    go_wp2
    go_ret
    exact ⟨ret_int H.out.symm, (Ext.refl _).alloc _⟩
  · have H : Hid (behindF at_ a d i inn = inn) := if_neg hc
    go_enter Try.func141, Try.ntmps141
    go_wp2
    go_ret
    exact ⟨ret_int H.out.symm, (Ext.refl _).alloc _⟩

def meetsF (f t a d i : Int) : Bool :=
  (decide (0 < clamp d) && decide (clamp a < clamp t) && decide (clamp f < clamp a + clamp d)) || (decide (0 < clamp i) && decide (clamp f < clamp a) && decide (clamp a < clamp t))
set_option maxHeartbeats 400000 in
theorem meets_any (f t a d i : Int) (w : World) :
    Calls Try.prog 94 #[.agg #[.int .i64 f, .int .i64 t], .agg #[.int .i64 a, .int .i64 d, .int .i64 i]] w fun e w' => e = .returned (.bool (meetsF f t a d i)) ∧ Ext w w' := by
  have ha := clamp_bd a
  have hd := clamp_bd d
  have hi := clamp_bd i
  have hf := clamp_bd f
  have ht := clamp_bd t
  go_enter Try.func94, Try.ntmps94
  go_wp2_with fail
  go_upto_region 1 with fail
  go_cut [] (fun wx => Ext ((w.alloc (.cells #[.int .i64 (clamp f), .int .i64 (clamp t)] 102)).alloc (.cells #[.int .i64 (clamp a), .int .i64 (clamp d), .int .i64 (clamp i)] 63)) wx)
  case first =>
    go_region_with (first | (go_at_call 130; refine (span_any _ _ _).mono ?_; rintro e w1 ⟨rfl, os1, k1, rfl⟩) | (go_at_call 131; refine (put_any _ _ _ _).mono ?_; rintro e w2 ⟨rfl, os2, k2, rfl⟩))
    all_goals (go_wp2_with fail; go_meet; exact (by repeat (first | exact Ext.refl _ | refine Ext.alloc ?_ _ | refine Ext.more ?_ _ _ | refine Ext.drew ?_ | refine Ext.drewN ?_ _)))
  case rest =>
    obtain ⟨os, k, rfl⟩ := hcut
    go_wp2
    all_goals go_ret
    all_goals exact ⟨ret_bool (by unfold meetsF; simp [*]; try omega), by repeat (first | exact Ext.refl _ | refine Ext.alloc ?_ _ | refine Ext.more ?_ _ _ | refine Ext.drew ?_ | refine Ext.drewN ?_ _)⟩
def startF (x a d i : Int) : Int := if clamp x < clamp a then clamp x else behindF (clamp x) (clamp a) (clamp d) (clamp i) (clamp a + clamp i)
def endF (x a d i : Int) : Int := if clamp x ≤ clamp a then clamp x else behindF (clamp x) (clamp a) (clamp d) (clamp i) (clamp a)

set_option maxHeartbeats 400000 in
theorem start_any (x a d i : Int) (w : World) :
    Calls Try.prog 128 #[.int .i64 x, .agg #[.int .i64 a, .int .i64 d, .int .i64 i]] w fun e w' => e = .returned (.int .i64 (startF x a d i)) ∧ Ext w w' := by
  have ha := clamp_bd a
  have hd := clamp_bd d
  have hi := clamp_bd i
  have hx := clamp_bd x
  go_enter Try.func128, Try.ntmps128
  go_wp2_with (first | (go_at_call 131; refine (put_any _ _ _ _).mono ?_; rintro e w1 ⟨rfl, os1, k1, rfl⟩) | (go_at_call 142; refine (within_any _ _).mono ?_; rintro e w' ⟨rfl, rfl⟩) | go_in)
  refine wp_loop_rounds 2 ?_
  iterate 2
    rw [rounds_succ]
    go_wp2_with (first | (go_at_call 141; refine (behind_any _ _ _ _ _ _ (by omega) (by omega) (by omega) (by omega)).mono ?_; rintro e w2 ⟨rfl, os2, k2, rfl⟩) | (go_at_call 142; refine (within_any _ _).mono ?_; rintro e w' ⟨rfl, rfl⟩) | go_in)
  all_goals go_ret
  · exact ⟨ret_int (by unfold startF; rw [if_pos (by assumption)]), by repeat (first | exact Ext.refl _ | refine Ext.alloc ?_ _ | refine Ext.more ?_ _ _ | refine Ext.drew ?_ | refine Ext.drewN ?_ _)⟩
  · exact ⟨ret_int (by unfold startF; rw [if_neg (by omega)]), by repeat (first | exact Ext.refl _ | refine Ext.alloc ?_ _ | refine Ext.more ?_ _ _ | refine Ext.drew ?_ | refine Ext.drewN ?_ _)⟩

set_option maxHeartbeats 400000 in
theorem end_any (x a d i : Int) (w : World) :
    Calls Try.prog 129 #[.int .i64 x, .agg #[.int .i64 a, .int .i64 d, .int .i64 i]] w fun e w' => e = .returned (.int .i64 (endF x a d i)) ∧ Ext w w' := by
  have ha := clamp_bd a
  have hd := clamp_bd d
  have hi := clamp_bd i
  have hx := clamp_bd x
  go_enter Try.func129, Try.ntmps129
  go_wp2_with (first | (go_at_call 131; refine (put_any _ _ _ _).mono ?_; rintro e w1 ⟨rfl, os1, k1, rfl⟩) | (go_at_call 142; refine (within_any _ _).mono ?_; rintro e w' ⟨rfl, rfl⟩) | go_in)
  refine wp_loop_rounds 2 ?_
  iterate 2
    rw [rounds_succ]
    go_wp2_with (first | (go_at_call 141; refine (behind_any _ _ _ _ _ _ (by omega) (by omega) (by omega) (by omega)).mono ?_; rintro e w2 ⟨rfl, os2, k2, rfl⟩) | (go_at_call 142; refine (within_any _ _).mono ?_; rintro e w' ⟨rfl, rfl⟩) | go_in)
  all_goals go_ret
  · exact ⟨ret_int (by unfold endF; rw [if_pos (by assumption)]), by repeat (first | exact Ext.refl _ | refine Ext.alloc ?_ _ | refine Ext.more ?_ _ _ | refine Ext.drew ?_ | refine Ext.drewN ?_ _)⟩
  · exact ⟨ret_int (by unfold endF; rw [if_neg (by omega)]), by repeat (first | exact Ext.refl _ | refine Ext.alloc ?_ _ | refine Ext.more ?_ _ _ | refine Ext.drew ?_ | refine Ext.drewN ?_ _)⟩

theorem clamp_in {a : Int} (h : -1099511627776 ≤ a) (h2 : a ≤ 1099511627776) : clamp a = a := by unfold clamp; omega
/-- numbers up to 2^30 -/
def Lt30 (x : Int) : Prop := -1073741824 ≤ x ∧ x ≤ 1073741824
theorem start_in {x a d i : Int} {om : Int → Int} (hx : Lt30 x) (ha : Lt30 a) (hd : Lt30 d) (hi : Lt30 i) : startF x a d i = stF x ⟨a, d, i, om⟩ := by
  unfold Lt30 at hx ha hd hi
  unfold startF behindF stF
  rw [clamp_in (by omega) (by omega), clamp_in (by omega) (by omega), clamp_in (by omega) (by omega), clamp_in (by omega) (by omega)]
theorem end_in {x a d i : Int} {om : Int → Int} (hx : Lt30 x) (ha : Lt30 a) (hd : Lt30 d) (hi : Lt30 i) : endF x a d i = enF x ⟨a, d, i, om⟩ := by
  unfold Lt30 at hx ha hd hi
  unfold endF behindF enF
  rw [clamp_in (by omega) (by omega), clamp_in (by omega) (by omega), clamp_in (by omega) (by omega), clamp_in (by omega) (by omega)]
theorem meets_in {f t a d i : Int} {om : Int → Int} (hf : Lt30 f) (ht : Lt30 t) (ha : Lt30 a) (hd : Lt30 d) (hi : Lt30 i) : meetsF f t a d i = decide (Meet f t ⟨a, d, i, om⟩) := by
  unfold Lt30 at hf ht ha hd hi
  unfold meetsF
  rw [clamp_in (a := f) (by omega) (by omega), clamp_in (a := t) (by omega) (by omega), clamp_in (a := a) (by omega) (by omega), clamp_in (a := d) (by omega) (by omega), clamp_in (a := i) (by omega) (by omega)]
  rw [Bool.eq_iff_iff, decide_eq_true_iff]
  unfold Meet
  simp only [Bool.or_eq_true, Bool.and_eq_true, decide_eq_true_eq]
  constructor <;> intro h <;> omega
end Go.Proofs.Ytggmljookcmnkaa
