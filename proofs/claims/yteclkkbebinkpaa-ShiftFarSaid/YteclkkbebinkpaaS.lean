/- ShiftFar: its plain law and the walk. -/
import Derived.Test.YteclkkbebinkpaaB
import Derived.Test.YteclkkbebinkpaaF
import Derived.Test.YteclkkbebinkpaaI
import Derived.Test.YteclkkbebinkpaaV
import Derived.Test.YteclkkbebinkpaaA
import Derived.Deep.RegionWith
import Derived.Deep.QuietTactic
import Derived.Deep.DeepCutAuto
import Derived.Deep.RegionHeld3
import Derived.BigQuiet
namespace Go.Proofs.Yteclkkbebinkpaa
open Go.RowKit
attribute [local go_sem] more_size more_cell more_frozen more_setCell drew_more drewN_more lt_add_r lt_add_r2 lt_add_r3 lt_add_r4 lt_add_r5 lt_add_r6 lt_self_r lt_self_r2

def FarGood (af at_ bf bt vf vt : Int) : Prop := af ≤ at_ ∧ bf ≤ bt ∧ vf ≤ vt ∧ -1000 ≤ af ∧ -1000 ≤ bf ∧ -1000 ≤ vf ∧ at_ ≤ 1000 ∧ bt ≤ 1000 ∧ vt ≤ 1000

theorem far_in {a b c d : Int} (ha : -1000 ≤ a ∧ a ≤ 1000) (hb : -1000 ≤ b ∧ b ≤ 1000) (hc : -1000 ≤ c ∧ c ≤ 1000) (hd : -1000 ≤ d ∧ d ≤ 1000) : farF a b c d = if b < c then c - b else if d < a then a - d else 0 := by
  unfold farF
  rw [clamp_in (by omega) (by omega), clamp_in (by omega) (by omega), clamp_in (by omega) (by omega), clamp_in (by omega) (by omega)]
theorem touch_in {a b c d : Int} (ha : -1000 ≤ a ∧ a ≤ 1000) (hb : -1000 ≤ b ∧ b ≤ 1000) (hc : -1000 ≤ c ∧ c ≤ 1000) (hd : -1000 ≤ d ∧ d ≤ 1000) : touchF a b c d = decide (a ≤ d ∧ c ≤ b) := by
  unfold touchF
  rw [clamp_in (by omega) (by omega), clamp_in (by omega) (by omega), clamp_in (by omega) (by omega), clamp_in (by omega) (by omega)]
  rw [Bool.eq_iff_iff]
  simp

def Fd (a b c d : Int) : Int := if b < c then c - b else if d < a then a - d else 0
theorem fd_or (a b c d : Int) : (b < c ∧ Fd a b c d = c - b) ∨ (c ≤ b ∧ d < a ∧ Fd a b c d = a - d) ∨ (c ≤ b ∧ a ≤ d ∧ Fd a b c d = 0) := by
  unfold Fd
  repeat' (first | omega | split)
/-- one span against another one -/
theorem fd_one {af at_ vf vt : Int} (h1 : af ≤ at_) (h3 : vf ≤ vt) (h4 : -1000 ≤ af) (h6 : -1000 ≤ vf) (h7 : at_ ≤ 1000) (h9 : vt ≤ 1000) :
    0 ≤ Fd af at_ vf vt ∧ Fd af at_ vf vt ≤ 2000 ∧ Fd vf vt af at_ = Fd af at_ vf vt ∧ ((af ≤ vt ∧ vf ≤ at_) ↔ Fd af at_ vf vt = 0) := by
  have x := fd_or af at_ vf vt
  have u := fd_or vf vt af at_
  generalize Fd af at_ vf vt = X at *
  generalize Fd vf vt af at_ = U at *
  rcases x with x | x | x <;> rcases u with u | u | u <;> omega
/-- a span that holds another one is no further -/
theorem fd_more {af at_ jf jt vf vt : Int} (h1 : af ≤ at_) (h3 : vf ≤ vt) (hj : jf ≤ af) (hk : at_ ≤ jt) : Fd jf jt vf vt ≤ Fd af at_ vf vt := by
  have x := fd_or af at_ vf vt
  have u := fd_or jf jt vf vt
  generalize Fd af at_ vf vt = X at *
  generalize Fd jf jt vf vt = U at *
  rcases x with x | x | x <;> rcases u with u | u | u <;> omega
theorem fd_join {af at_ bf bt jf jt vf vt : Int} (h1 : af ≤ at_) (h2 : bf ≤ bt) (h3 : vf ≤ vt) (hj : jf = af ∨ jf = bf) (hk : jt = at_ ∨ jt = bt) (hj1 : jf ≤ af) (hj2 : jf ≤ bf) (hk1 : at_ ≤ jt) (hk2 : bt ≤ jt) :
    Fd jf jt vf vt = Fd af at_ vf vt ∨ Fd jf jt vf vt = Fd bf bt vf vt ∨ (0 < Fd af at_ vf vt ∧ 0 < Fd bf bt vf vt ∧ jf ≤ vt ∧ vf ≤ jt) := by
  have x := fd_or af at_ vf vt
  have y := fd_or bf bt vf vt
  have u := fd_or jf jt vf vt
  generalize Fd af at_ vf vt = X at *
  generalize Fd bf bt vf vt = Y at *
  generalize Fd jf jt vf vt = U at *
  rcases x with x | x | x <;> rcases y with y | y | y <;> rcases u with u | u | u <;> omega

theorem far_law {af at_ bf bt vf vt : Int} (hg : FarGood af at_ bf bt vf vt) : ∃ jf jt x y z : Int,
    min (clamp af) (clamp bf) = jf ∧ max (clamp at_) (clamp bt) = jt ∧ min (clamp bf) (clamp af) = jf ∧ max (clamp bt) (clamp at_) = jt ∧
    farF af at_ vf vt = x ∧ farF bf bt vf vt = y ∧ farF jf jt vf vt = z ∧ farF vf vt af at_ = x ∧ touchF af at_ vf vt = decide (x = 0) ∧
    touchF af at_ jf jt = true ∧ touchF bf bt jf jt = true ∧ 0 ≤ x ∧ 0 ≤ y ∧ 0 ≤ z ∧ x ≤ 2000 ∧ y ≤ 2000 ∧ z ≤ 2000 ∧ z ≤ x ∧ z ≤ y ∧ (z = x ∨ z = y ∨ (0 < x ∧ 0 < y ∧ touchF jf jt vf vt = true)) := by
  unfold FarGood at hg
  obtain ⟨g1, g2, g3, g4, g5, g6, g7, g8, g9⟩ := hg
  have c1 : clamp af = af := clamp_in (by omega) (by omega)
  have c2 : clamp bf = bf := clamp_in (by omega) (by omega)
  have c3 : clamp at_ = at_ := clamp_in (by omega) (by omega)
  have c4 : clamp bt = bt := clamp_in (by omega) (by omega)
  obtain ⟨jf, hjf⟩ : ∃ jf, jf = min af bf := ⟨_, rfl⟩
  obtain ⟨jt, hjt⟩ : ∃ jt, jt = max at_ bt := ⟨_, rfl⟩
  have j1 : (jf = af ∨ jf = bf) ∧ jf ≤ af ∧ jf ≤ bf := by omega
  have j2 : (jt = at_ ∨ jt = bt) ∧ at_ ≤ jt ∧ bt ≤ jt := by omega
  have k1 : min (clamp af) (clamp bf) = jf := by rw [c1, c2, hjf]
  have k2 : max (clamp at_) (clamp bt) = jt := by rw [c3, c4, hjt]
  have k3 : min (clamp bf) (clamp af) = jf := by rw [Int.min_comm, k1]
  have k4 : max (clamp bt) (clamp at_) = jt := by rw [Int.max_comm, k2]
  clear hjf hjt c1 c2 c3 c4
  have f1 : farF af at_ vf vt = Fd af at_ vf vt := far_in (by omega) (by omega) (by omega) (by omega)
  have f2 : farF bf bt vf vt = Fd bf bt vf vt := far_in (by omega) (by omega) (by omega) (by omega)
  have f3 : farF jf jt vf vt = Fd jf jt vf vt := far_in (by omega) (by omega) (by omega) (by omega)
  have f4 : farF vf vt af at_ = Fd vf vt af at_ := far_in (by omega) (by omega) (by omega) (by omega)
  have t1 : touchF af at_ vf vt = decide (af ≤ vt ∧ vf ≤ at_) := touch_in (by omega) (by omega) (by omega) (by omega)
  have t2 : touchF af at_ jf jt = decide (af ≤ jt ∧ jf ≤ at_) := touch_in (by omega) (by omega) (by omega) (by omega)
  have t3 : touchF bf bt jf jt = decide (bf ≤ jt ∧ jf ≤ bt) := touch_in (by omega) (by omega) (by omega) (by omega)
  have t4 : touchF jf jt vf vt = decide (jf ≤ vt ∧ vf ≤ jt) := touch_in (by omega) (by omega) (by omega) (by omega)
  have o1 := fd_one (af := af) (at_ := at_) (vf := vf) (vt := vt) g1 g3 g4 g6 g7 g9
  have o2 := fd_one (af := bf) (at_ := bt) (vf := vf) (vt := vt) g2 g3 g5 g6 g8 g9
  have o3 := fd_one (af := jf) (at_ := jt) (vf := vf) (vt := vt) (by omega) g3 (by omega) g6 (by omega) g9
  have m1 := fd_more (vf := vf) (vt := vt) g1 g3 j1.2.1 j2.2.1
  have m2 := fd_more (vf := vf) (vt := vt) g2 g3 j1.2.2 j2.2.2
  have m3 := fd_join (vf := vf) (vt := vt) g1 g2 g3 j1.1 j2.1 j1.2.1 j1.2.2 j2.2.1 j2.2.2
  refine ⟨jf, jt, _, _, _, k1, k2, k3, k4, f1, f2, f3, f4.trans o1.2.2.1, ?_, ?_, ?_, o1.1, o2.1, o3.1, o1.2.1, o2.2.1, o3.2.1, m1, m2, ?_⟩
  · rw [t1, decide_eq_decide]
    exact o1.2.2.2
  · rw [t2, decide_eq_true_eq]
    omega
  · rw [t3, decide_eq_true_eq]
    omega
  · rw [t4, decide_eq_true_eq]
    exact m3

set_option maxRecDepth 100000 in
set_option maxHeartbeats 800000 in
theorem far_walk_no (af at_ bf bt vf vt : Int) (w : World) (hg : ¬ FarGood af at_ bf bt vf vt) :
    Calls Try.prog 7 #[.agg #[.int .i64 af, .int .i64 at_], .agg #[.int .i64 bf, .int .i64 bt], .agg #[.int .i64 vf, .int .i64 vt]] w fun e w' => e = .returned (.bool true) ∧ Below w.heap.size w w' := by
  unfold FarGood at hg
  go_enter Try.func7, Try.ntmps7
  go_wp2_with (first | (go_at_call 10; refine (lives_any _).mono ?_; rintro e w1 ⟨rfl, os1, k1, rfl⟩))
  all_goals go_ret
  all_goals exact ⟨rfl, Ext.below (by repeat (first | exact Ext.refl _ | refine Ext.alloc ?_ _ | refine Ext.more ?_ _ _ | refine Ext.drew ?_ | refine Ext.drewN ?_ _))⟩

set_option maxRecDepth 100000 in
set_option maxHeartbeats 1600000 in
theorem far_walk_yes (af at_ bf bt vf vt : Int) (w : World) (hg : FarGood af at_ bf bt vf vt) :
    Calls Try.prog 7 #[.agg #[.int .i64 af, .int .i64 at_], .agg #[.int .i64 bf, .int .i64 bt], .agg #[.int .i64 vf, .int .i64 vt]] w fun e w' => e = .returned (.bool true) ∧ Below w.heap.size w w' := by
  obtain ⟨jf, jt, x, y, z, e1, e2, e3, e4, e5, e6, e7, e8, e9, e10, e11, b1, b2, b3, b4, b5, b6, b7, b8, b9⟩ := far_law hg
  have jn := fun w1 => join_any af at_ bf bt w1
  rw [e1, e2] at jn
  have JN := Lib.hid jn
  have jb := fun w1 => join_any bf bt af at_ w1
  rw [e3, e4] at jb
  have JB := Lib.hid jb
  have fa := fun w1 => far_any af at_ vf vt w1
  rw [e5] at fa
  have FA := Lib.hid fa
  have fb := fun w1 => far_any bf bt vf vt w1
  rw [e6] at fb
  have FB := Lib.hid fb
  have fj := fun w1 => far_any jf jt vf vt w1
  rw [e7] at fj
  have FJ := Lib.hid fj
  have fv := fun w1 => far_any vf vt af at_ w1
  rw [e8] at fv
  have FV := Lib.hid fv
  have ta := fun w1 => touch_any af at_ vf vt w1
  have E9 := Lib.hid e9
  have TA0 := Lib.hid ta
  have ta := fun w1 => touch_any af at_ jf jt w1
  rw [e10] at ta
  have TAJ := Lib.hid ta
  have tb := fun w1 => touch_any bf bt jf jt w1
  rw [e11] at tb
  have TBJ := Lib.hid tb
  clear jn jb fa fb fj fv ta tb e1 e2 e3 e4 e5 e6 e7 e8 e9 e10 e11
  have HG := Lib.hid hg
  unfold FarGood at hg
  obtain ⟨g1, g2, g3, g4, g5, g6, g7, g8, g9⟩ := hg
  go_enter Try.func7, Try.ntmps7
  go_upto_region 6 with (first | (go_at_call 10; refine (lives_any _).mono ?_; rintro e w1 ⟨rfl, os1, k1, rfl⟩) | (go_at_call 19; refine (JN.out _).mono ?_; rintro e w2 ⟨rfl, os2, k2, rfl⟩))
  clear g1 g2 g3 g4 g5 g6 g7 g8 g9
  refine wp_region_ext (by kernel_rfl) (by kernel_rfl) ?_
  repeat (go_big_quiet_step ((first | (go_at_call_of 20 (Value.agg #[Value.int IntKind.i64 af, Value.int IntKind.i64 at_]); exact calls_ext (FA.out _)) | (go_at_call_of 20 (Value.agg #[Value.int IntKind.i64 bf, Value.int IntKind.i64 bt]); exact calls_ext (FB.out _)) | (go_at_call_of 20 (Value.agg #[Value.int IntKind.i64 jf, Value.int IntKind.i64 jt]); exact calls_ext (FJ.out _)))))
  refine wpQuiet_nil ?_
  intro _ hw'
  obtain ⟨x9, rfl⟩ := hw'
  go_upto_region 7 with fail
  rcases (show x = 0 ∨ 0 < x by omega) with q1 | q1
  · subst q1
    obtain rfl : z = 0 := by omega
    have TA : Hid (∀ w1 : World, Calls Try.prog 21 #[.agg #[.int .i64 af, .int .i64 at_], .agg #[.int .i64 vf, .int .i64 vt]] w1 fun e w' => e = .returned (.bool true) ∧ Ext w1 w') := by
      intro w1
      have h := TA0.out w1
      rw [E9.out] at h
      exact h
    clear b4 b5 b6 b7 b8 b9 E9 TA0 FA FB FJ
    have q2 : ¬ y < 0 := by omega
    refine wp_region_ext (by kernel_rfl) (by kernel_rfl) ?_
    repeat (go_big_quiet_step ((first | (go_at_call 20; exact calls_ext (FV.out _)) | (go_at_call 19; exact calls_ext (JB.out _)) | (go_at_call_of 21 (Value.agg #[Value.int IntKind.i64 vf, Value.int IntKind.i64 vt]); go_at_call_of 21 (Value.agg #[Value.int IntKind.i64 af, Value.int IntKind.i64 at_]); exact calls_ext (TA.out _)) | (go_at_call_of 21 (Value.agg #[Value.int IntKind.i64 vf, Value.int IntKind.i64 vt]); go_at_call_of 21 (Value.agg #[Value.int IntKind.i64 jf, Value.int IntKind.i64 jt]); exact calls_ext (TJ.out _)) | (go_at_call_of 21 (Value.agg #[Value.int IntKind.i64 af, Value.int IntKind.i64 at_]); exact calls_ext (TAJ.out _)) | (go_at_call_of 21 (Value.agg #[Value.int IntKind.i64 bf, Value.int IntKind.i64 bt]); exact calls_ext (TBJ.out _)))))
    refine wpQuiet_nil ?_
    intro _ hw'
    obtain ⟨x9, rfl⟩ := hw'
    go_wp2
    go_ret
    exact ⟨rfl, Ext.below (by repeat (first | exact Ext.refl _ | refine Ext.alloc ?_ _ | refine Ext.more ?_ _ _ | refine Ext.drew ?_ | refine Ext.drewN ?_ _))⟩
  · have TA : Hid (∀ w1 : World, Calls Try.prog 21 #[.agg #[.int .i64 af, .int .i64 at_], .agg #[.int .i64 vf, .int .i64 vt]] w1 fun e w' => e = .returned (.bool false) ∧ Ext w1 w') := by
      intro w1
      have h := TA0.out w1
      rw [E9.out, decide_eq_false (show ¬ x = 0 by omega)] at h
      exact h
    have q1' : (x == 0) = false := by simp; omega
    clear b4 b5 b6 E9 TA0 FA FB FJ
    rcases (show (x ≤ y ∧ z = x) ∨ (y < x ∧ z = y) ∨ (x ≤ y ∧ z < x) ∨ (y < x ∧ z < y) by omega) with ⟨q2, q3⟩ | ⟨q2, q3⟩ | ⟨q2, q3⟩ | ⟨q2, q3⟩
    · subst q3
      clear b7 b8 b9
      refine wp_region_ext (by kernel_rfl) (by kernel_rfl) ?_
      repeat (go_big_quiet_step ((first | (go_at_call 20; exact calls_ext (FV.out _)) | (go_at_call 19; exact calls_ext (JB.out _)) | (go_at_call_of 21 (Value.agg #[Value.int IntKind.i64 vf, Value.int IntKind.i64 vt]); go_at_call_of 21 (Value.agg #[Value.int IntKind.i64 af, Value.int IntKind.i64 at_]); exact calls_ext (TA.out _)) | (go_at_call_of 21 (Value.agg #[Value.int IntKind.i64 vf, Value.int IntKind.i64 vt]); go_at_call_of 21 (Value.agg #[Value.int IntKind.i64 jf, Value.int IntKind.i64 jt]); exact calls_ext (TJ.out _)) | (go_at_call_of 21 (Value.agg #[Value.int IntKind.i64 af, Value.int IntKind.i64 at_]); exact calls_ext (TAJ.out _)) | (go_at_call_of 21 (Value.agg #[Value.int IntKind.i64 bf, Value.int IntKind.i64 bt]); exact calls_ext (TBJ.out _)))))
      refine wpQuiet_nil ?_
      intro _ hw'
      obtain ⟨x9, rfl⟩ := hw'
      go_wp2
      go_ret
      exact ⟨rfl, Ext.below (by repeat (first | exact Ext.refl _ | refine Ext.alloc ?_ _ | refine Ext.more ?_ _ _ | refine Ext.drew ?_ | refine Ext.drewN ?_ _))⟩
    · subst q3
      clear b7 b8 b9
      refine wp_region_ext (by kernel_rfl) (by kernel_rfl) ?_
      repeat (go_big_quiet_step ((first | (go_at_call 20; exact calls_ext (FV.out _)) | (go_at_call 19; exact calls_ext (JB.out _)) | (go_at_call_of 21 (Value.agg #[Value.int IntKind.i64 vf, Value.int IntKind.i64 vt]); go_at_call_of 21 (Value.agg #[Value.int IntKind.i64 af, Value.int IntKind.i64 at_]); exact calls_ext (TA.out _)) | (go_at_call_of 21 (Value.agg #[Value.int IntKind.i64 vf, Value.int IntKind.i64 vt]); go_at_call_of 21 (Value.agg #[Value.int IntKind.i64 jf, Value.int IntKind.i64 jt]); exact calls_ext (TJ.out _)) | (go_at_call_of 21 (Value.agg #[Value.int IntKind.i64 af, Value.int IntKind.i64 at_]); exact calls_ext (TAJ.out _)) | (go_at_call_of 21 (Value.agg #[Value.int IntKind.i64 bf, Value.int IntKind.i64 bt]); exact calls_ext (TBJ.out _)))))
      refine wpQuiet_nil ?_
      intro _ hw'
      obtain ⟨x9, rfl⟩ := hw'
      go_wp2
      go_ret
      exact ⟨rfl, Ext.below (by repeat (first | exact Ext.refl _ | refine Ext.alloc ?_ _ | refine Ext.more ?_ _ _ | refine Ext.drew ?_ | refine Ext.drewN ?_ _))⟩
    · obtain ⟨r1, r2, r3⟩ : 0 < x ∧ 0 < y ∧ touchF jf jt vf vt = true := by
        rcases b9 with h | h | h
        · omega
        · omega
        · exact h
      have TJ : Hid (∀ w1 : World, Calls Try.prog 21 #[.agg #[.int .i64 jf, .int .i64 jt], .agg #[.int .i64 vf, .int .i64 vt]] w1 fun e w' => e = .returned (.bool true) ∧ Ext w1 w') := by
        intro w1
        have h := touch_any jf jt vf vt w1
        rw [r3] at h
        exact h
      clear b9 r3
      have q4 : (z == x) = false := by simp; omega
      refine wp_region_ext (by kernel_rfl) (by kernel_rfl) ?_
      repeat (go_big_quiet_step ((first | (go_at_call 20; exact calls_ext (FV.out _)) | (go_at_call 19; exact calls_ext (JB.out _)) | (go_at_call_of 21 (Value.agg #[Value.int IntKind.i64 vf, Value.int IntKind.i64 vt]); go_at_call_of 21 (Value.agg #[Value.int IntKind.i64 af, Value.int IntKind.i64 at_]); exact calls_ext (TA.out _)) | (go_at_call_of 21 (Value.agg #[Value.int IntKind.i64 vf, Value.int IntKind.i64 vt]); go_at_call_of 21 (Value.agg #[Value.int IntKind.i64 jf, Value.int IntKind.i64 jt]); exact calls_ext (TJ.out _)) | (go_at_call_of 21 (Value.agg #[Value.int IntKind.i64 af, Value.int IntKind.i64 at_]); exact calls_ext (TAJ.out _)) | (go_at_call_of 21 (Value.agg #[Value.int IntKind.i64 bf, Value.int IntKind.i64 bt]); exact calls_ext (TBJ.out _)))))
      refine wpQuiet_nil ?_
      intro _ hw'
      obtain ⟨x9, rfl⟩ := hw'
      go_wp2
      go_ret
      exact ⟨rfl, Ext.below (by repeat (first | exact Ext.refl _ | refine Ext.alloc ?_ _ | refine Ext.more ?_ _ _ | refine Ext.drew ?_ | refine Ext.drewN ?_ _))⟩
    · obtain ⟨r1, r2, r3⟩ : 0 < x ∧ 0 < y ∧ touchF jf jt vf vt = true := by
        rcases b9 with h | h | h
        · omega
        · omega
        · exact h
      have TJ : Hid (∀ w1 : World, Calls Try.prog 21 #[.agg #[.int .i64 jf, .int .i64 jt], .agg #[.int .i64 vf, .int .i64 vt]] w1 fun e w' => e = .returned (.bool true) ∧ Ext w1 w') := by
        intro w1
        have h := touch_any jf jt vf vt w1
        rw [r3] at h
        exact h
      clear b9 r3
      have q4 : (z == y) = false := by simp; omega
      refine wp_region_ext (by kernel_rfl) (by kernel_rfl) ?_
      repeat (go_big_quiet_step ((first | (go_at_call 20; exact calls_ext (FV.out _)) | (go_at_call 19; exact calls_ext (JB.out _)) | (go_at_call_of 21 (Value.agg #[Value.int IntKind.i64 vf, Value.int IntKind.i64 vt]); go_at_call_of 21 (Value.agg #[Value.int IntKind.i64 af, Value.int IntKind.i64 at_]); exact calls_ext (TA.out _)) | (go_at_call_of 21 (Value.agg #[Value.int IntKind.i64 vf, Value.int IntKind.i64 vt]); go_at_call_of 21 (Value.agg #[Value.int IntKind.i64 jf, Value.int IntKind.i64 jt]); exact calls_ext (TJ.out _)) | (go_at_call_of 21 (Value.agg #[Value.int IntKind.i64 af, Value.int IntKind.i64 at_]); exact calls_ext (TAJ.out _)) | (go_at_call_of 21 (Value.agg #[Value.int IntKind.i64 bf, Value.int IntKind.i64 bt]); exact calls_ext (TBJ.out _)))))
      refine wpQuiet_nil ?_
      intro _ hw'
      obtain ⟨x9, rfl⟩ := hw'
      go_wp2
      go_ret
      exact ⟨rfl, Ext.below (by repeat (first | exact Ext.refl _ | refine Ext.alloc ?_ _ | refine Ext.more ?_ _ _ | refine Ext.drew ?_ | refine Ext.drewN ?_ _))⟩
end Go.Proofs.Yteclkkbebinkpaa
