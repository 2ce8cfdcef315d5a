/- JobsNames: the walk. -/
import Derived.Test.YtmgpofdmfmeljaaJq
import Derived.WalkSpells
import Derived.WalkLawsBesides
import Derived.BigRegion
import Derived.Deep.RegionWith
import Derived.Deep.QuietTactic
import Derived.Deep.DeepCutAuto
import Derived.Deep.RegionHeld3
import Derived.Deep.RegionLaw
import Derived.BigQuiet
import Derived.Lib.Hide
namespace Go.Proofs.Ytmgpofdmfmeljaa
open Go.RowKit Go.Maps
attribute [local go_sem] more_drew more_drewN more_size more_cell more_frozen more_setCell drew_more drewN_more lt_add_r lt_add_r2 lt_add_r3 lt_add_r4 lt_add_r5 lt_add_r6 lt_add_r7 lt_add_r8 lt_add_r9 lt_add_r10 lt_self_r lt_self_r2

def nmL : List Dt := [⟨0, 2, 4, 7, 0⟩, ⟨1, 90, 95, 9, 0⟩, ⟨2, 0, 1, 9, 0⟩]
def nmT : List Dt := [⟨0, 2, 4, 8, 0⟩, ⟨1, 90, 95, 0, 0⟩, ⟨2, 0, 1, 10, 0⟩]
def nmS : List Dt := [⟨0, 2, 4, 7, 0⟩, ⟨1, 90, 95, 9, 0⟩, ⟨2, 0, 1, 0, 0⟩]
def nmB : List Dt := [⟨0, 0, 0, 1000000, 0⟩]
theorem nmL_check : CheckP nmL := by unfold CheckP OkD lastS nmL; decide
theorem nmT_eq : nmL.map (tickF fun y => decide (y ∈ [(1 : Int)])) = nmT := by simp [nmL, nmT, tickF]
theorem nmS_eq : nmL.map (serveF 2) = nmS := by simp [nmL, nmS, serveF]
theorem nmB_eq : nmB.map (tickF fun y => decide (y ∈ ([] : List Int))) = nmB := by simp [nmB, tickF]
theorem nm_o1 : slotsF (qR ⟨0, 0, 5⟩ nmL) = [1, 2, 0] := by decide
theorem nm_o2 : slotsF (qR ⟨3, 3, 50⟩ nmL) = [0, 2, 1] := by decide
set_option maxRecDepth 100000 in
set_option maxHeartbeats 4000000 in
theorem jobsNames_any (w : World) : Calls Try.prog 5 #[] w fun e w' => e = .returned (.bool true) ∧ Ext w w' := by
  have CN : Hid (Calls Try.prog 10 #[.slice none 0 0, .agg #[.int .i64 0, .int .i64 0], .int .i64 1] w fun e w' => e = .returned (.tuple #[.int .i64 0, .bool false]) ∧ Ext w w') :=
    Lib.hid (next_any ⟨0, 0, 1⟩ none 0 [] w Jobs.nil ⟨by decide, fun j hj => by simp at hj⟩)
  go_enter Try.func5, Try.ntmps5
  go_wp2_with fail
  refine CN.out.mono ?_
  rintro e w1 ⟨rfl, hx1⟩
  have HX1 := Lib.hid hx1
  clear hx1 CN
  go_wp2_with fail
  refine (job_any 0 2 4 7 w1).mono ?_
  rintro e w2 ⟨rfl, hx2⟩
  have HX2 := Lib.hid (HX1.out.trans hx2)
  clear hx2 HX1
  go_wp2_with fail
  refine (job_any 1 90 95 9 w2).mono ?_
  rintro e w3 ⟨rfl, hx3⟩
  have HX3 := Lib.hid (HX2.out.trans hx3)
  clear hx3 HX2
  go_wp2_with fail
  refine (job_any 2 0 1 9 w3).mono ?_
  rintro e w4 ⟨rfl, hx4⟩
  have HX4 := Lib.hid (HX3.out.trans hx4)
  clear hx4 HX3
  go_wp2_with fail
  obtain ⟨W5, hW5⟩ : ∃ W5, w4.alloc (.cells #[.int .i64 0, .int .i64 2, .int .i64 4, .int .i64 7, .int .i64 0, .int .i64 1, .int .i64 90, .int .i64 95, .int .i64 9, .int .i64 0, .int .i64 2, .int .i64 0, .int .i64 1, .int .i64 9, .int .i64 0] 31) = W5 := ⟨_, rfl⟩
  have JL : Hid (Jobs W5 (some ⟨w4.heap.size, 0, none⟩) nmL) := Lib.hid (by
    have h : OwnD W5 w4.heap.size (some ⟨w4.heap.size, 0, none⟩) 3 nmL := by rw [← hW5]; exact own_lit w4 w4.heap.size _ 5 _ 3 _ rfl (Nat.le_refl _) rfl (by unfold maxLen; omega)
    exact h.jobs.1)
  have HX5 : Hid (Ext w W5) := Lib.hid (by rw [← hW5]; exact HX4.out.alloc _)
  obtain ⟨g5, hg5⟩ : ∃ g5, w4.heap.size = g5 := ⟨_, rfl⟩
  have hs5 : W5.heap.size = g5 + 1 := by rw [← hW5, ← hg5]; simp
  rw [hg5] at JL
  simp only [hg5, hW5]
  have E6 : Ext W5 (W5.alloc (.cells #[.int .i64 1] 3)) := (by repeat (first | exact Ext.refl _ | refine Ext.alloc ?_ _ | refine Ext.more ?_ _ _ | refine Ext.drew ?_ | refine Ext.drewN ?_ _ | refine Ext.setCell ?_ (by simp <;> omega) _))
  have I6 : Ints (W5.alloc (.cells #[.int .i64 1] 3)) (some ⟨g5 + 1, 0, none⟩) [1] := by
    have h : OwnI (W5.alloc (.cells #[.int .i64 1] 3)) W5.heap.size (some ⟨W5.heap.size, 0, none⟩) 1 [1] := own_lit W5 W5.heap.size _ 1 _ 1 _ rfl (Nat.le_refl _) rfl (by unfold maxLen; omega)
    rw [← hs5]
    exact h.ints.1
  have CT := ticked_any (some ⟨g5, 0, none⟩) (some ⟨g5 + 1, 0, none⟩) 3 1 nmL [1] _ (JL.out.ext E6) (by intro h; cases h) (by decide) I6 (by decide) (by intro d hd; simp only [nmL, List.mem_cons, List.not_mem_nil, or_false] at hd; rcases hd with rfl | rfl | rfl <;> decide) (by intro x hx; obtain rfl := List.mem_singleton.1 hx; decide)
  rw [nmT_eq] at CT
  refine CT.mono ?_
  rintro e w7 ⟨A7, c7, rfl, ho7, hx7⟩
  have HX7 := Lib.hid ((HX5.out.trans E6).trans hx7)
  have JT := Lib.hid ho7.jobs.1
  have JL7 := Lib.hid (JL.out.ext (E6.trans hx7))
  clear ho7 hx7 CT I6 E6 hW5 JL HX5 HX4 hg5 hs5
  go_wp2_with fail
  have CS := serve_any (some ⟨g5, 0, none⟩) 3 nmL 2 w7 JL7.out (by intro h; cases h) (by decide)
  rw [nmS_eq] at CS
  refine CS.mono ?_
  rintro e w8 ⟨A8, c8, rfl, ho8, hx8⟩
  have HX8 := Lib.hid (HX7.out.trans hx8)
  have JS := Lib.hid ho8.jobs.1
  have JT8 := Lib.hid (JT.out.ext hx8)
  have JL8 := Lib.hid (JL7.out.ext hx8)
  clear ho8 hx8 CS HX7 JT JL7
  rw [show nmT.length = 3 from rfl, show nmS.length = 3 from rfl]
  go_wp2_with fail
  refine (lives24_any w8).mono ?_
  rintro e w9 ⟨rfl, hx9⟩
  have HX9 := Lib.hid (HX8.out.trans hx9)
  have JS9 := Lib.hid (JS.out.ext hx9)
  have JT9 := Lib.hid (JT8.out.ext hx9)
  have JL9 := Lib.hid (JL8.out.ext hx9)
  clear hx9 HX8 JS JT8 JL8
  go_wp2_with fail
  have CO := order_ints ⟨0, 0, 5⟩ (some ⟨g5, 0, none⟩) 3 nmL w9 JL9.out nmL_check
  rw [nm_o1] at CO
  refine CO.mono ?_
  rintro e w10 ⟨A10, c10, rfl, ho10, hx10⟩
  have HX10 := Lib.hid (HX9.out.trans hx10)
  have JS10 := Lib.hid (JS9.out.ext hx10)
  have JT10 := Lib.hid (JT9.out.ext hx10)
  have JL10 := Lib.hid (JL9.out.ext hx10)
  have I10 := Lib.hid ho10.ints.1
  clear hx10 HX9 JS9 JT9 JL9 ho10 CO
  go_wp2_with fail
  have E11 : Ext w10 (w10.alloc (.cells #[.int .i64 1, .int .i64 2, .int .i64 0] 3)) := (by repeat (first | exact Ext.refl _ | refine Ext.alloc ?_ _ | refine Ext.more ?_ _ _ | refine Ext.drew ?_ | refine Ext.drewN ?_ _ | refine Ext.setCell ?_ (by simp <;> omega) _))
  have K11 : Ints (w10.alloc (.cells #[.int .i64 1, .int .i64 2, .int .i64 0] 3)) (some ⟨w10.heap.size, 0, none⟩) [1, 2, 0] := by
    have h : OwnI (w10.alloc (.cells #[.int .i64 1, .int .i64 2, .int .i64 0] 3)) w10.heap.size (some ⟨w10.heap.size, 0, none⟩) 3 [1, 2, 0] := own_lit w10 w10.heap.size _ 1 _ 3 _ rfl (Nat.le_refl _) rfl (by unfold maxLen; omega)
    exact h.ints.1
  refine (same_any A10 (some ⟨w10.heap.size, 0, none⟩) [1, 2, 0] [1, 2, 0] c10 3 _ (I10.out.ext E11) K11 (by decide) (by decide)).mono ?_
  rintro e w11 ⟨rfl, hx11⟩
  rw [show decide (([1, 2, 0] : List Int) = [1, 2, 0]) = true from decide_eq_true rfl]
  have HX11 := Lib.hid ((HX10.out.trans E11).trans hx11)
  have JS11 := Lib.hid (JS10.out.ext (E11.trans hx11))
  have JT11 := Lib.hid (JT10.out.ext (E11.trans hx11))
  have JL11 := Lib.hid (JL10.out.ext (E11.trans hx11))
  clear hx11 E11 K11 HX10 JS10 JT10 JL10 I10
  go_wp2_with fail
  have CO := order_ints ⟨3, 3, 50⟩ (some ⟨g5, 0, none⟩) 3 nmL w11 JL11.out nmL_check
  rw [nm_o2] at CO
  refine CO.mono ?_
  rintro e w12 ⟨A12, c12, rfl, ho12, hx12⟩
  have HX12 := Lib.hid (HX11.out.trans hx12)
  have JS12 := Lib.hid (JS11.out.ext hx12)
  have JT12 := Lib.hid (JT11.out.ext hx12)
  have JL12 := Lib.hid (JL11.out.ext hx12)
  have I12 := Lib.hid ho12.ints.1
  clear hx12 HX11 JS11 JT11 JL11 ho12 CO
  go_wp2_with fail
  have E13 : Ext w12 (w12.alloc (.cells #[.int .i64 0, .int .i64 2, .int .i64 1] 3)) := (by repeat (first | exact Ext.refl _ | refine Ext.alloc ?_ _ | refine Ext.more ?_ _ _ | refine Ext.drew ?_ | refine Ext.drewN ?_ _ | refine Ext.setCell ?_ (by simp <;> omega) _))
  have K13 : Ints (w12.alloc (.cells #[.int .i64 0, .int .i64 2, .int .i64 1] 3)) (some ⟨w12.heap.size, 0, none⟩) [0, 2, 1] := by
    have h : OwnI (w12.alloc (.cells #[.int .i64 0, .int .i64 2, .int .i64 1] 3)) w12.heap.size (some ⟨w12.heap.size, 0, none⟩) 3 [0, 2, 1] := own_lit w12 w12.heap.size _ 1 _ 3 _ rfl (Nat.le_refl _) rfl (by unfold maxLen; omega)
    exact h.ints.1
  refine (same_any A12 (some ⟨w12.heap.size, 0, none⟩) [0, 2, 1] [0, 2, 1] c12 3 _ (I12.out.ext E13) K13 (by decide) (by decide)).mono ?_
  rintro e w13 ⟨rfl, hx13⟩
  rw [show decide (([0, 2, 1] : List Int) = [0, 2, 1]) = true from decide_eq_true rfl]
  have HX13 := Lib.hid ((HX12.out.trans E13).trans hx13)
  have JS13 := Lib.hid (JS12.out.ext (E13.trans hx13))
  have JT13 := Lib.hid (JT12.out.ext (E13.trans hx13))
  have JL13 := Lib.hid (JL12.out.ext (E13.trans hx13))
  clear hx13 E13 K13 HX12 JS12 JT12 JL12 I12
  obtain ⟨bt, ot, rfl, hbt, ct⟩ := JT13.out (by decide)
  obtain ⟨bs, os, rfl, hbs, cs⟩ := JS13.out (by decide)
  have t0 : w13.cell? ⟨bt, ot + 3, none⟩ = some (.int .i64 8) := (ct 0 (by decide)).2.2.2.1
  have t1 : w13.cell? ⟨bt, ot + 5 + 3, none⟩ = some (.int .i64 0) := (ct 1 (by decide)).2.2.2.1
  have t2 : w13.cell? ⟨bt, ot + 10 + 3, none⟩ = some (.int .i64 10) := (ct 2 (by decide)).2.2.2.1
  have s2 : w13.cell? ⟨bs, os + 10 + 3, none⟩ = some (.int .i64 0) := (cs 2 (by decide)).2.2.2.1
  have s1 : w13.cell? ⟨bs, os + 5 + 3, none⟩ = some (.int .i64 9) := (cs 1 (by decide)).2.2.2.1
  clear ct cs JT13 JS13 JL13
  go_wp2_with fail
  refine (job_any 0 0 0 1000000 w13).mono ?_
  rintro e w14 ⟨rfl, hx14⟩
  have HX14 := Lib.hid (HX13.out.trans hx14)
  clear hx14 HX13 t0 t1 t2 s1 s2
  go_wp2_with fail
  have E15 : Ext w14 (w14.alloc (.cells #[.int .i64 0, .int .i64 0, .int .i64 0, .int .i64 1000000, .int .i64 0] 31)) := (by repeat (first | exact Ext.refl _ | refine Ext.alloc ?_ _ | refine Ext.more ?_ _ _ | refine Ext.drew ?_ | refine Ext.drewN ?_ _ | refine Ext.setCell ?_ (by simp <;> omega) _))
  have J15 : Jobs (w14.alloc (.cells #[.int .i64 0, .int .i64 0, .int .i64 0, .int .i64 1000000, .int .i64 0] 31)) (some ⟨w14.heap.size, 0, none⟩) nmB := by
    have h : OwnD (w14.alloc (.cells #[.int .i64 0, .int .i64 0, .int .i64 0, .int .i64 1000000, .int .i64 0] 31)) w14.heap.size (some ⟨w14.heap.size, 0, none⟩) 1 nmB := own_lit w14 w14.heap.size _ 5 _ 1 _ rfl (Nat.le_refl _) rfl (by unfold maxLen; omega)
    exact h.jobs.1
  have CT := ticked_any (some ⟨w14.heap.size, 0, none⟩) none 1 0 nmB [] _ J15 (by intro h; cases h) (by decide) Ints.nil (by decide) (by intro d hd; simp only [nmB, List.mem_cons, List.not_mem_nil, or_false] at hd; rcases hd with rfl <;> decide) (by intro x hx; cases hx)
  rw [nmB_eq] at CT
  refine CT.mono ?_
  rintro e w16 ⟨A16, c16, rfl, ho16, hx16⟩
  have HX16 := Lib.hid ((HX14.out.trans E15).trans hx16)
  obtain ⟨bu, ou, rfl, hbu, cu⟩ := ho16.jobs.1 (by decide)
  have u0 : w16.cell? ⟨bu, ou + 3, none⟩ = some (.int .i64 1000000) := (cu 0 (by decide)).2.2.2.1
  rw [show nmB.length = 1 from rfl]
  clear cu ho16 hx16 E15 J15 CT HX14
  go_wp2_with fail
  go_ret
  exact ⟨rfl, HX16.out⟩
end Go.Proofs.Ytmgpofdmfmeljaa
