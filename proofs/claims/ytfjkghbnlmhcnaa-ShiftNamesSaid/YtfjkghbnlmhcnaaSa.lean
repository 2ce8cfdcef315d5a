/- The contracts of the small functions of package shift. -/
import Derived.Test.YtfjkghbnlmhcnaaRows
import Derived.Test.YtfjkghbnlmhcnaaSp
import Derived.WalkSpells
import Derived.WalkLawsBesides
import Derived.Deep.RegionWith
import Derived.Deep.QuietTactic
import Derived.Deep.DeepCutAuto
import Derived.BigQuiet
import Derived.Lib.Hide
namespace Go.Proofs.Ytfjkghbnlmhcnaa
open Go.RowKit
attribute [local go_sem] more_drew more_drewN more_size more_cell more_frozen more_setCell drew_more drewN_more lt_add_r lt_add_r2 lt_add_r3 lt_add_r4 lt_add_r5 lt_add_r6 lt_self_r lt_self_r2

def clamp (a : Int) : Int := min (max a (-1099511627776)) 1099511627776
theorem clamp_bd (a : Int) : -1099511627776 ≤ clamp a ∧ clamp a ≤ 1099511627776 := by unfold clamp; omega

set_option maxHeartbeats 400000 in
theorem within_any (n : Int) (w : World) :
    Calls Try.prog 62 #[.int .i64 n, .int .i64 (-1099511627776), .int .i64 1099511627776] w fun e w' => e = .returned (.int .i64 (clamp n)) ∧ w = w' := by
  go_enter Try.func62, Try.ntmps62
  go_wp2
  all_goals go_ret
  all_goals exact ⟨ret_int (by unfold clamp; omega), rfl⟩

/-- 'put' sets each number within bounds. -/
theorem put_any (a d i : Int) (w : World) :
    Calls Try.prog 51 #[.agg #[.int .i64 a, .int .i64 d, .int .i64 i]] w fun e w' => e = .returned (.agg #[.int .i64 (clamp a), .int .i64 (clamp d), .int .i64 (clamp i)]) ∧ Ext w w' := by
  go_enter Try.func51, Try.ntmps51
  go_wp2_with (first | (go_at_call 62; refine (within_any _ _).mono ?_; rintro e w' ⟨rfl, rfl⟩) | go_in)
  refine wp_loop_rounds 4 ?_
  iterate 4
    rw [rounds_succ]
    go_wp2_with (first | (go_at_call 62; refine (within_any _ _).mono ?_; rintro e w' ⟨rfl, rfl⟩) | go_in)
  go_returns
  exact ⟨rfl, (((Ext.refl _).alloc _).alloc _).alloc _⟩

theorem span_any (a d : Int) (w : World) :
    Calls Try.prog 44 #[.agg #[.int .i64 a, .int .i64 d]] w fun e w' => e = .returned (.agg #[.int .i64 (clamp a), .int .i64 (clamp d)]) ∧ Ext w w' := by
  go_enter Try.func44, Try.ntmps44
  go_wp2_with (first | (go_at_call 62; refine (within_any _ _).mono ?_; rintro e w' ⟨rfl, rfl⟩) | go_in)
  refine wp_loop_rounds 3 ?_
  iterate 3
    rw [rounds_succ]
    go_wp2_with (first | (go_at_call 62; refine (within_any _ _).mono ?_; rintro e w' ⟨rfl, rfl⟩) | go_in)
  go_returns
  exact ⟨rfl, (((Ext.refl _).alloc _).alloc _).alloc _⟩

/-- 'behind' within bounds. -/
def behindF (at_ a d i inn : Int) : Int := if a + d ≤ at_ then at_ - d + i else inn
theorem behind_any (at_ a d i inn : Int) (w : World) (h1 : -2199023255552 ≤ at_ ∧ at_ ≤ 2199023255552) (h2 : -2199023255552 ≤ a ∧ a ≤ 2199023255552) (h3 : -2199023255552 ≤ d ∧ d ≤ 2199023255552) (h4 : -2199023255552 ≤ i ∧ i ≤ 2199023255552) :
    Calls Try.prog 53 #[.int .i64 at_, .agg #[.int .i64 a, .int .i64 d, .int .i64 i], .int .i64 inn] w fun e w' => e = .returned (.int .i64 (behindF at_ a d i inn)) ∧ Ext w w' := by
  by_cases hc : a + d ≤ at_
  · have H : Hid (behindF at_ a d i inn = at_ - d + i) := if_pos hc
    go_enter Try.func53, Try.ntmps53
    go_wp2
    go_ret
    exact ⟨ret_int H.out.symm, (Ext.refl _).alloc _⟩
  · have H : Hid (behindF at_ a d i inn = inn) := if_neg hc
    go_enter Try.func53, Try.ntmps53
    go_wp2
    go_ret
    exact ⟨ret_int H.out.symm, (Ext.refl _).alloc _⟩

theorem new_any (a d i : Int) (w : World) :
    Calls Try.prog 37 #[.agg #[.int .i64 a, .int .i64 d, .int .i64 i]] w fun e w' => e = .returned (.agg #[.int .i64 (clamp a), .int .i64 (clamp a + clamp i)]) ∧ Ext w w' := by
  have ha := clamp_bd a
  have hi := clamp_bd i
  go_enter Try.func37, Try.ntmps37
  go_wp2_with (first | (go_at_call 51; refine (put_any _ _ _ _).mono ?_; rintro e w1 ⟨rfl, os, k, rfl⟩))
  go_returns
  exact ⟨rfl, ((((Ext.refl _).alloc _).alloc _).more _ _)⟩

def touchF (a b c d : Int) : Bool := decide (clamp a ≤ clamp d) && decide (clamp c ≤ clamp b)
set_option maxHeartbeats 400000 in
theorem touch_any (a b c d : Int) (w : World) :
    Calls Try.prog 39 #[.agg #[.int .i64 a, .int .i64 b], .agg #[.int .i64 c, .int .i64 d]] w fun e w' => e = .returned (.bool (touchF a b c d)) ∧ Ext w w' := by
  go_enter Try.func39, Try.ntmps39
  go_wp2_with fail
  go_upto_region 1 with fail
  go_cut [] (fun wx => Ext ((w.alloc (.cells #[.int .i64 (clamp a), .int .i64 (clamp b)] 54)).alloc (.cells #[.int .i64 (clamp c), .int .i64 (clamp d)] 54)) wx)
  case first =>
    go_region_with (first | (go_at_call_of 44 (Value.agg #[Value.int IntKind.i64 a, Value.int IntKind.i64 b]); refine (span_any _ _ _).mono ?_; rintro e w1 ⟨rfl, os1, k1, rfl⟩) | (go_at_call_of 44 (Value.agg #[Value.int IntKind.i64 c, Value.int IntKind.i64 d]); refine (span_any _ _ _).mono ?_; rintro e w2 ⟨rfl, os2, k2, rfl⟩))
    all_goals (go_wp2_with fail; go_meet; exact (by repeat (first | exact Ext.refl _ | refine Ext.alloc ?_ _ | refine Ext.more ?_ _ _ | refine Ext.drew ?_ | refine Ext.drewN ?_ _)))
  case rest =>
    obtain ⟨os, k, rfl⟩ := hcut
    go_wp2
    all_goals go_ret
    all_goals exact ⟨ret_bool (by unfold touchF; simp; try omega), by repeat (first | exact Ext.refl _ | refine Ext.alloc ?_ _ | refine Ext.more ?_ _ _ | refine Ext.drew ?_ | refine Ext.drewN ?_ _)⟩

def farF (a b c d : Int) : Int := if clamp b < clamp c then clamp c - clamp b else if clamp d < clamp a then clamp a - clamp d else 0
set_option maxHeartbeats 400000 in
theorem far_any (a b c d : Int) (w : World) :
    Calls Try.prog 38 #[.agg #[.int .i64 a, .int .i64 b], .agg #[.int .i64 c, .int .i64 d]] w fun e w' => e = .returned (.int .i64 (farF a b c d)) ∧ Ext w w' := by
  have ha := clamp_bd a
  have hb := clamp_bd b
  have hc := clamp_bd c
  have hd := clamp_bd d
  go_enter Try.func38, Try.ntmps38
  go_wp2_with fail
  go_upto_region 1 with fail
  go_cut [] (fun wx => Ext ((w.alloc (.cells #[.int .i64 (clamp a), .int .i64 (clamp b)] 54)).alloc (.cells #[.int .i64 (clamp c), .int .i64 (clamp d)] 54)) wx)
  case first =>
    go_region_with (first | (go_at_call_of 44 (Value.agg #[Value.int IntKind.i64 a, Value.int IntKind.i64 b]); refine (span_any _ _ _).mono ?_; rintro e w1 ⟨rfl, os1, k1, rfl⟩) | (go_at_call_of 44 (Value.agg #[Value.int IntKind.i64 c, Value.int IntKind.i64 d]); refine (span_any _ _ _).mono ?_; rintro e w2 ⟨rfl, os2, k2, rfl⟩))
    all_goals (go_wp2_with fail; go_meet; exact (by repeat (first | exact Ext.refl _ | refine Ext.alloc ?_ _ | refine Ext.more ?_ _ _ | refine Ext.drew ?_ | refine Ext.drewN ?_ _)))
  case rest =>
    obtain ⟨os, k, rfl⟩ := hcut
    go_wp2
    all_goals go_ret
    all_goals exact ⟨ret_int (by unfold farF; repeat (first | omega | split)), by repeat (first | exact Ext.refl _ | refine Ext.alloc ?_ _ | refine Ext.more ?_ _ _ | refine Ext.drew ?_ | refine Ext.drewN ?_ _)⟩

theorem ret_agg2 {a b c d : Int} (h : a = c) (h2 : b = d) : Ending.returned (.agg #[.int .i64 a, .int .i64 b]) = .returned (.agg #[.int .i64 c, .int .i64 d]) := by rw [h, h2]
set_option maxHeartbeats 400000 in
theorem join_any (a b c d : Int) (w : World) :
    Calls Try.prog 47 #[.agg #[.int .i64 a, .int .i64 b], .agg #[.int .i64 c, .int .i64 d]] w fun e w' => e = .returned (.agg #[.int .i64 (min (clamp a) (clamp c)), .int .i64 (max (clamp b) (clamp d))]) ∧ Ext w w' := by
  go_enter Try.func47, Try.ntmps47
  go_wp2_with fail
  go_upto_region 1 with fail
  go_cut [] (fun wx => Ext (((w.alloc (.cells #[.int .i64 (clamp a), .int .i64 (clamp b)] 54)).alloc (.cells #[.int .i64 (clamp c), .int .i64 (clamp d)] 54)).alloc (.cells #[.int .i64 (0), .int .i64 (0)] 54)) wx)
  case first =>
    go_region_with (first | (go_at_call_of 44 (Value.agg #[Value.int IntKind.i64 a, Value.int IntKind.i64 b]); refine (span_any _ _ _).mono ?_; rintro e w1 ⟨rfl, os1, k1, rfl⟩) | (go_at_call_of 44 (Value.agg #[Value.int IntKind.i64 c, Value.int IntKind.i64 d]); refine (span_any _ _ _).mono ?_; rintro e w2 ⟨rfl, os2, k2, rfl⟩))
    all_goals (go_wp2_with fail; go_meet; exact (by repeat (first | exact Ext.refl _ | refine Ext.alloc ?_ _ | refine Ext.more ?_ _ _ | refine Ext.drew ?_ | refine Ext.drewN ?_ _)))
  case rest =>
    obtain ⟨os, k, rfl⟩ := hcut
    go_wp2
    all_goals go_returns
    all_goals exact ⟨ret_agg2 (by omega) (by omega), by repeat (first | exact Ext.refl _ | refine Ext.alloc ?_ _ | refine Ext.more ?_ _ _ | refine Ext.drew ?_ | refine Ext.drewN ?_ _)⟩

def checkF (a d i n : Int) : Int :=
  if clamp n < 0 ∨ 65536 < clamp n ∨ clamp a < 0 ∨ clamp d < 0 ∨ clamp i < 0 ∨ clamp n < clamp a + clamp d then 2 else if 65536 < clamp n - clamp d + clamp i then 3 else 0
set_option maxHeartbeats 400000 in
theorem check_any (a d i n : Int) (w : World) :
    Calls Try.prog 31 #[.agg #[.int .i64 a, .int .i64 d, .int .i64 i], .int .i64 n] w fun e w' => e = .returned (.int .i64 (checkF a d i n)) ∧ Ext w w' := by
  have ha := clamp_bd a
  have hd := clamp_bd d
  have hi := clamp_bd i
  have hn := clamp_bd n
  go_enter Try.func31, Try.ntmps31
  go_wp2_with (first | (go_at_call 51; refine (put_any _ _ _ _).mono ?_; rintro e w1 ⟨rfl, os1, k1, rfl⟩) | (go_at_call 62; refine (within_any _ _).mono ?_; rintro e w' ⟨rfl, rfl⟩) | go_in)
  refine wp_loop_rounds 2 ?_
  iterate 2
    rw [rounds_succ]
    go_wp2_with (first | (go_at_call 62; refine (within_any _ _).mono ?_; rintro e w' ⟨rfl, rfl⟩) | go_in)
  all_goals go_ret
  all_goals exact ⟨ret_int (by unfold checkF; repeat (first | omega | split)), by repeat (first | exact Ext.refl _ | refine Ext.alloc ?_ _ | refine Ext.more ?_ _ _ | refine Ext.drew ?_ | refine Ext.drewN ?_ _)⟩

set_option maxHeartbeats 400000 in
theorem len_any (a d i n : Int) (w : World) :
    Calls Try.prog 32 #[.agg #[.int .i64 a, .int .i64 d, .int .i64 i], .int .i64 n] w fun e w' => e = .returned (.int .i64 (clamp n - clamp d + clamp i)) ∧ Ext w w' := by
  have ha := clamp_bd a
  have hd := clamp_bd d
  have hi := clamp_bd i
  have hn := clamp_bd n
  go_enter Try.func32, Try.ntmps32
  go_wp2_with (first | (go_at_call 51; refine (put_any _ _ _ _).mono ?_; rintro e w1 ⟨rfl, os1, k1, rfl⟩) | (go_at_call 62; refine (within_any _ _).mono ?_; rintro e w' ⟨rfl, rfl⟩) | go_in)
  refine wp_loop_rounds 2 ?_
  iterate 2
    rw [rounds_succ]
    go_wp2_with (first | (go_at_call 62; refine (within_any _ _).mono ?_; rintro e w' ⟨rfl, rfl⟩) | go_in)
  go_ret
  exact ⟨rfl, by repeat (first | exact Ext.refl _ | refine Ext.alloc ?_ _ | refine Ext.more ?_ _ _ | refine Ext.drew ?_ | refine Ext.drewN ?_ _)⟩


def meetsF (f t a d i : Int) : Bool :=
  (decide (0 < clamp d) && decide (clamp a < clamp t) && decide (clamp f < clamp a + clamp d)) || (decide (0 < clamp i) && decide (clamp f < clamp a) && decide (clamp a < clamp t))
set_option maxHeartbeats 400000 in
theorem meets_any (f t a d i : Int) (w : World) :
    Calls Try.prog 33 #[.agg #[.int .i64 f, .int .i64 t], .agg #[.int .i64 a, .int .i64 d, .int .i64 i]] w fun e w' => e = .returned (.bool (meetsF f t a d i)) ∧ Ext w w' := by
  have ha := clamp_bd a
  have hd := clamp_bd d
  have hi := clamp_bd i
  have hf := clamp_bd f
  have ht := clamp_bd t
  go_enter Try.func33, Try.ntmps33
  go_wp2_with fail
  go_upto_region 1 with fail
  go_cut [] (fun wx => Ext ((w.alloc (.cells #[.int .i64 (clamp f), .int .i64 (clamp t)] 54)).alloc (.cells #[.int .i64 (clamp a), .int .i64 (clamp d), .int .i64 (clamp i)] 34)) wx)
  case first =>
    go_region_with (first | (go_at_call 44; refine (span_any _ _ _).mono ?_; rintro e w1 ⟨rfl, os1, k1, rfl⟩) | (go_at_call 51; refine (put_any _ _ _ _).mono ?_; rintro e w2 ⟨rfl, os2, k2, rfl⟩))
    all_goals (go_wp2_with fail; go_meet; exact (by repeat (first | exact Ext.refl _ | refine Ext.alloc ?_ _ | refine Ext.more ?_ _ _ | refine Ext.drew ?_ | refine Ext.drewN ?_ _)))
  case rest =>
    obtain ⟨os, k, rfl⟩ := hcut
    go_wp2
    all_goals go_ret
    all_goals exact ⟨ret_bool (by unfold meetsF; simp [*]; try omega), by repeat (first | exact Ext.refl _ | refine Ext.alloc ?_ _ | refine Ext.more ?_ _ _ | refine Ext.drew ?_ | refine Ext.drewN ?_ _)⟩

def startF (x a d i : Int) : Int := if clamp x < clamp a then clamp x else behindF (clamp x) (clamp a) (clamp d) (clamp i) (clamp a + clamp i)
def endF (x a d i : Int) : Int := if clamp x ≤ clamp a then clamp x else behindF (clamp x) (clamp a) (clamp d) (clamp i) (clamp a)

set_option maxHeartbeats 400000 in
theorem start_any (x a d i : Int) (w : World) :
    Calls Try.prog 34 #[.int .i64 x, .agg #[.int .i64 a, .int .i64 d, .int .i64 i]] w fun e w' => e = .returned (.int .i64 (startF x a d i)) ∧ Ext w w' := by
  have ha := clamp_bd a
  have hd := clamp_bd d
  have hi := clamp_bd i
  have hx := clamp_bd x
  go_enter Try.func34, Try.ntmps34
  go_wp2_with (first | (go_at_call 51; refine (put_any _ _ _ _).mono ?_; rintro e w1 ⟨rfl, os1, k1, rfl⟩) | (go_at_call 62; refine (within_any _ _).mono ?_; rintro e w' ⟨rfl, rfl⟩) | go_in)
  refine wp_loop_rounds 2 ?_
  iterate 2
    rw [rounds_succ]
    go_wp2_with (first | (go_at_call 53; refine (behind_any _ _ _ _ _ _ (by omega) (by omega) (by omega) (by omega)).mono ?_; rintro e w2 ⟨rfl, os2, k2, rfl⟩) | (go_at_call 62; refine (within_any _ _).mono ?_; rintro e w' ⟨rfl, rfl⟩) | go_in)
  all_goals go_ret
  · exact ⟨ret_int (by unfold startF; rw [if_pos (by assumption)]), by repeat (first | exact Ext.refl _ | refine Ext.alloc ?_ _ | refine Ext.more ?_ _ _ | refine Ext.drew ?_ | refine Ext.drewN ?_ _)⟩
  · exact ⟨ret_int (by unfold startF; rw [if_neg (by omega)]), by repeat (first | exact Ext.refl _ | refine Ext.alloc ?_ _ | refine Ext.more ?_ _ _ | refine Ext.drew ?_ | refine Ext.drewN ?_ _)⟩

set_option maxHeartbeats 400000 in
theorem end_any (x a d i : Int) (w : World) :
    Calls Try.prog 35 #[.int .i64 x, .agg #[.int .i64 a, .int .i64 d, .int .i64 i]] w fun e w' => e = .returned (.int .i64 (endF x a d i)) ∧ Ext w w' := by
  have ha := clamp_bd a
  have hd := clamp_bd d
  have hi := clamp_bd i
  have hx := clamp_bd x
  go_enter Try.func35, Try.ntmps35
  go_wp2_with (first | (go_at_call 51; refine (put_any _ _ _ _).mono ?_; rintro e w1 ⟨rfl, os1, k1, rfl⟩) | (go_at_call 62; refine (within_any _ _).mono ?_; rintro e w' ⟨rfl, rfl⟩) | go_in)
  refine wp_loop_rounds 2 ?_
  iterate 2
    rw [rounds_succ]
    go_wp2_with (first | (go_at_call 53; refine (behind_any _ _ _ _ _ _ (by omega) (by omega) (by omega) (by omega)).mono ?_; rintro e w2 ⟨rfl, os2, k2, rfl⟩) | (go_at_call 62; refine (within_any _ _).mono ?_; rintro e w' ⟨rfl, rfl⟩) | go_in)
  all_goals go_ret
  · exact ⟨ret_int (by unfold endF; rw [if_pos (by assumption)]), by repeat (first | exact Ext.refl _ | refine Ext.alloc ?_ _ | refine Ext.more ?_ _ _ | refine Ext.drew ?_ | refine Ext.drewN ?_ _)⟩
  · exact ⟨ret_int (by unfold endF; rw [if_neg (by omega)]), by repeat (first | exact Ext.refl _ | refine Ext.alloc ?_ _ | refine Ext.more ?_ _ _ | refine Ext.drew ?_ | refine Ext.drewN ?_ _)⟩

set_option maxHeartbeats 400000 in
theorem move_any (f t a d i : Int) (w : World) :
    Calls Try.prog 36 #[.agg #[.int .i64 f, .int .i64 t], .agg #[.int .i64 a, .int .i64 d, .int .i64 i]] w fun e w' => e = .returned (.agg #[.int .i64 (startF f a d i), .int .i64 (max (startF f a d i) (endF t a d i))]) ∧ Ext w w' := by
  go_enter Try.func36, Try.ntmps36
  go_wp2_with (first | (go_at_call 34; refine (start_any _ _ _ _ _).mono ?_; rintro e w1 ⟨rfl, os1, k1, rfl⟩) | (go_at_call 35; refine (end_any _ _ _ _ _).mono ?_; rintro e w2 ⟨rfl, os2, k2, rfl⟩))
  all_goals go_returns
  all_goals exact ⟨ret_agg2 rfl (by omega), by repeat (first | exact Ext.refl _ | refine Ext.alloc ?_ _ | refine Ext.more ?_ _ _ | refine Ext.drew ?_ | refine Ext.drewN ?_ _)⟩

theorem move1 (w : World) : Calls Try.prog 36 #[.agg #[.int .i64 0, .int .i64 2], .agg #[.int .i64 2, .int .i64 1, .int .i64 3]] w fun e w' => e = .returned (.agg #[.int .i64 0, .int .i64 2]) ∧ Ext w w' :=
  move_any 0 2 2 1 3 w
theorem move2 (w : World) : Calls Try.prog 36 #[.agg #[.int .i64 3, .int .i64 5], .agg #[.int .i64 2, .int .i64 1, .int .i64 3]] w fun e w' => e = .returned (.agg #[.int .i64 5, .int .i64 7]) ∧ Ext w w' :=
  move_any 3 5 2 1 3 w
theorem meets1 (w : World) : Calls Try.prog 33 #[.agg #[.int .i64 1, .int .i64 3], .agg #[.int .i64 2, .int .i64 1, .int .i64 3]] w fun e w' => e = .returned (.bool true) ∧ Ext w w' :=
  meets_any 1 3 2 1 3 w
set_option maxHeartbeats 400000 in
theorem lives_any (w : World) :
    Calls Try.prog 28 #[] w fun e w' => e = .returned (.bool true) ∧ Ext w w' := by
  go_enter Try.func28, Try.ntmps28
  go_wp2_with (first | (go_at_call_of 36 (Value.agg #[Value.int IntKind.i64 0, Value.int IntKind.i64 2]); refine (move1 _).mono ?_; rintro e w1 ⟨rfl, os1, k1, rfl⟩) | (go_at_call_of 36 (Value.agg #[Value.int IntKind.i64 3, Value.int IntKind.i64 5]); refine (move2 _).mono ?_; rintro e w2 ⟨rfl, os2, k2, rfl⟩) | (go_at_call 33; refine (meets1 _).mono ?_; rintro e w3 ⟨rfl, os3, k3, rfl⟩))
  go_ret
  exact ⟨rfl, by repeat (first | exact Ext.refl _ | refine Ext.alloc ?_ _ | refine Ext.more ?_ _ _ | refine Ext.drew ?_ | refine Ext.drewN ?_ _)⟩

theorem clamp_in {a : Int} (h : -1099511627776 ≤ a) (h2 : a ≤ 1099511627776) : clamp a = a := by unfold clamp; omega
end Go.Proofs.Ytfjkghbnlmhcnaa
