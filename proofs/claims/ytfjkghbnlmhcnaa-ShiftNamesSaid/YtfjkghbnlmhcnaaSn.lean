/- ShiftNames: the walk. -/
import Derived.Test.YtfjkghbnlmhcnaaSm
import Derived.Test.YtfjkghbnlmhcnaaSf
import Derived.WalkSpells
import Derived.WalkLawsBesides
import Derived.BigRegion
import Derived.Deep.RegionWith
import Derived.Deep.QuietTactic
import Derived.Deep.DeepCutAuto
import Derived.Deep.RegionHeld3
import Derived.Deep.RegionLaw
import Derived.BigQuiet
import Derived.Lib.Hide
namespace Go.Proofs.Ytfjkghbnlmhcnaa
open Go.RowKit
attribute [local go_sem] more_drew more_drewN more_size more_cell more_frozen more_setCell drew_more drewN_more lt_add_r lt_add_r2 lt_add_r3 lt_add_r4 lt_add_r5 lt_add_r6 lt_add_r7 lt_add_r8 lt_add_r9 lt_add_r10 lt_self_r lt_self_r2

theorem nm0 (w : World) : Calls Try.prog 31 #[.agg #[.int .i64 2, .int .i64 3, .int .i64 0], .int .i64 5] w fun e w' => e = .returned (.int .i64 0) ∧ Ext w w' :=
  check_any 2 3 0 5 w
theorem nm1 (w : World) : Calls Try.prog 31 #[.agg #[.int .i64 2, .int .i64 3, .int .i64 0], .int .i64 4] w fun e w' => e = .returned (.int .i64 2) ∧ Ext w w' :=
  check_any 2 3 0 4 w
theorem nm2 (w : World) : Calls Try.prog 31 #[.agg #[.int .i64 0, .int .i64 0, .int .i64 65537], .int .i64 0] w fun e w' => e = .returned (.int .i64 3) ∧ Ext w w' :=
  check_any 0 0 65537 0 w
theorem nm3 (w : World) : Calls Try.prog 31 #[.agg #[.int .i64 (-1), .int .i64 0, .int .i64 0], .int .i64 9] w fun e w' => e = .returned (.int .i64 2) ∧ Ext w w' :=
  check_any (-1) 0 0 9 w
theorem nm4 (w : World) : Calls Try.prog 32 #[.agg #[.int .i64 2, .int .i64 3, .int .i64 0], .int .i64 9] w fun e w' => e = .returned (.int .i64 6) ∧ Ext w w' :=
  len_any 2 3 0 9 w
theorem nm5 (w : World) : Calls Try.prog 33 #[.agg #[.int .i64 0, .int .i64 3], .agg #[.int .i64 3, .int .i64 0, .int .i64 2]] w fun e w' => e = .returned (.bool false) ∧ Ext w w' :=
  meets_any 0 3 3 0 2 w
theorem nm6 (w : World) : Calls Try.prog 33 #[.agg #[.int .i64 3, .int .i64 9], .agg #[.int .i64 3, .int .i64 0, .int .i64 2]] w fun e w' => e = .returned (.bool false) ∧ Ext w w' :=
  meets_any 3 9 3 0 2 w
theorem nm7 (w : World) : Calls Try.prog 33 #[.agg #[.int .i64 2, .int .i64 4], .agg #[.int .i64 3, .int .i64 0, .int .i64 2]] w fun e w' => e = .returned (.bool true) ∧ Ext w w' :=
  meets_any 2 4 3 0 2 w
theorem nm8 (w : World) : Calls Try.prog 33 #[.agg #[.int .i64 5, .int .i64 9], .agg #[.int .i64 2, .int .i64 3, .int .i64 0]] w fun e w' => e = .returned (.bool false) ∧ Ext w w' :=
  meets_any 5 9 2 3 0 w
theorem nm9 (w : World) : Calls Try.prog 33 #[.agg #[.int .i64 4, .int .i64 9], .agg #[.int .i64 2, .int .i64 3, .int .i64 0]] w fun e w' => e = .returned (.bool true) ∧ Ext w w' :=
  meets_any 4 9 2 3 0 w
theorem nm10 (w : World) : Calls Try.prog 34 #[.int .i64 3, .agg #[.int .i64 3, .int .i64 0, .int .i64 2]] w fun e w' => e = .returned (.int .i64 5) ∧ Ext w w' :=
  start_any 3 3 0 2 w
theorem nm11 (w : World) : Calls Try.prog 35 #[.int .i64 3, .agg #[.int .i64 3, .int .i64 0, .int .i64 2]] w fun e w' => e = .returned (.int .i64 3) ∧ Ext w w' :=
  end_any 3 3 0 2 w
theorem nm12 (w : World) : Calls Try.prog 34 #[.int .i64 4, .agg #[.int .i64 2, .int .i64 3, .int .i64 0]] w fun e w' => e = .returned (.int .i64 2) ∧ Ext w w' :=
  start_any 4 2 3 0 w
theorem nm13 (w : World) : Calls Try.prog 35 #[.int .i64 4, .agg #[.int .i64 2, .int .i64 3, .int .i64 0]] w fun e w' => e = .returned (.int .i64 2) ∧ Ext w w' :=
  end_any 4 2 3 0 w
theorem nm14 (w : World) : Calls Try.prog 36 #[.agg #[.int .i64 3, .int .i64 4], .agg #[.int .i64 2, .int .i64 3, .int .i64 1]] w fun e w' => e = .returned (.agg #[.int .i64 3, .int .i64 3]) ∧ Ext w w' :=
  move_any 3 4 2 3 1 w
theorem nm15 (w : World) : Calls Try.prog 37 #[.agg #[.int .i64 3, .int .i64 0, .int .i64 2]] w fun e w' => e = .returned (.agg #[.int .i64 3, .int .i64 5]) ∧ Ext w w' :=
  new_any 3 0 2 w
theorem nm17 (w : World) : Calls Try.prog 38 #[.agg #[.int .i64 0, .int .i64 2], .agg #[.int .i64 5, .int .i64 9]] w fun e w' => e = .returned (.int .i64 3) ∧ Ext w w' :=
  far_any 0 2 5 9 w
theorem nm18 (w : World) : Calls Try.prog 38 #[.agg #[.int .i64 9, .int .i64 9], .agg #[.int .i64 5, .int .i64 9]] w fun e w' => e = .returned (.int .i64 0) ∧ Ext w w' :=
  far_any 9 9 5 9 w
theorem nm19 (w : World) : Calls Try.prog 39 #[.agg #[.int .i64 1, .int .i64 2], .agg #[.int .i64 2, .int .i64 2]] w fun e w' => e = .returned (.bool true) ∧ Ext w w' :=
  touch_any 1 2 2 2 w
theorem nm20 (w : World) : Calls Try.prog 34 #[.int .i64 1152921504606846976, .agg #[.int .i64 0, .int .i64 0, .int .i64 0]] w fun e w' => e = .returned (.int .i64 1099511627776) ∧ Ext w w' :=
  start_any 1152921504606846976 0 0 0 w
theorem merged_ex : mergeP (([(5, 6), (0, 2), (2, 3), (9, 9)] : List Sn).map clampS) = [(0, 3), (5, 6), (9, 9)] := by decide
set_option maxRecDepth 100000 in
set_option maxHeartbeats 4000000 in
theorem shiftNames_any (w : World) : Calls Try.prog 10 #[] w fun e w' => e = .returned (.bool true) ∧ Ext w w' := by
  go_enter Try.func10, Try.ntmps10
  go_wp2_with (go_at_call 28; refine (lives_any _).mono ?_; rintro e w1 ⟨rfl, os1, k1, rfl⟩)
  obtain ⟨b1, hb1⟩ : ∃ b1, w.heap.size + os1.length = b1 := ⟨_, rfl⟩
  obtain ⟨W4, hW4⟩ : ∃ W4, ((((more w os1 k1).alloc (.cells #[.int .i64 3, .int .i64 0, .int .i64 2] 34)).alloc (.cells #[.int .i64 2, .int .i64 3, .int .i64 0] 34)).alloc (.cells #[.int .i64 5, .int .i64 6, .int .i64 0, .int .i64 2, .int .i64 2, .int .i64 3, .int .i64 9, .int .i64 9] 54)) = W4 := ⟨_, rfl⟩
  have hsz : (more w os1 k1).heap.size = b1 := by rw [more_size]; exact hb1
  have B1 : W4.heap[b1]? = some (.cells #[.int .i64 3, .int .i64 0, .int .i64 2] 34) := by rw [← hW4, ← hsz]; exact ext_block (heap_alloc_new _ _) (by repeat (first | exact Ext.refl _ | refine Ext.alloc ?_ _ | refine Ext.more ?_ _ _ | refine Ext.drew ?_ | refine Ext.drewN ?_ _ | refine Ext.setCell ?_ (by simp <;> omega) _))
  have B2 : W4.heap[b1 + 1]? = some (.cells #[.int .i64 2, .int .i64 3, .int .i64 0] 34) := by
    have h := heap_alloc_new ((more w os1 k1).alloc (.cells #[.int .i64 3, .int .i64 0, .int .i64 2] 34)) (.cells #[.int .i64 2, .int .i64 3, .int .i64 0] 34)
    rw [World.size_alloc, hsz] at h
    rw [← hW4]; exact ext_block h (by repeat (first | exact Ext.refl _ | refine Ext.alloc ?_ _ | refine Ext.more ?_ _ _ | refine Ext.drew ?_ | refine Ext.drewN ?_ _ | refine Ext.setCell ?_ (by simp <;> omega) _))
  have B3 : CellsAt W4 (some ⟨b1 + 1 + 1, 0, none⟩) (sv [(5, 6), (0, 2), (2, 3), (9, 9)]) := by
    rw [← hW4]
    refine cells_lit _ _ _ _ _ ?_ rfl
    rw [World.size_alloc, World.size_alloc, hsz]
  have XW : Hid (Ext w W4) := Lib.hid (by rw [← hW4]; exact (by repeat (first | exact Ext.refl _ | refine Ext.alloc ?_ _ | refine Ext.more ?_ _ _ | refine Ext.drew ?_ | refine Ext.drewN ?_ _ | refine Ext.setCell ?_ (by simp <;> omega) _)))
  have FX := Lib.hid (fun (V : World) (x : Ext W4 V) => (⟨by have := cell_of_row _ _ 0 _ _ _ (ext_block B1 x); simpa using this, by have := cell_of_row _ _ 1 _ _ _ (ext_block B1 x); simpa using this, by have := cell_of_row _ _ 2 _ _ _ (ext_block B1 x); simpa using this,
      by have := cell_of_row _ _ 0 _ _ _ (ext_block B2 x); simpa using this, by have := cell_of_row _ _ 1 _ _ _ (ext_block B2 x); simpa using this, by have := cell_of_row _ _ 2 _ _ _ (ext_block B2 x); simpa using this, lt_of_heap (ext_block B1 x), lt_of_heap (ext_block B2 x)⟩ :
    V.cell? ⟨b1, 0, none⟩ = some (.int .i64 3) ∧ V.cell? ⟨b1, 1, none⟩ = some (.int .i64 0) ∧ V.cell? ⟨b1, 2, none⟩ = some (.int .i64 2) ∧
    V.cell? ⟨b1 + 1, 0, none⟩ = some (.int .i64 2) ∧ V.cell? ⟨b1 + 1, 1, none⟩ = some (.int .i64 3) ∧ V.cell? ⟨b1 + 1, 2, none⟩ = some (.int .i64 0) ∧ b1 < V.heap.size ∧ b1 + 1 < V.heap.size))
  have C3 := Lib.hid (merge_any (some ⟨b1 + 1 + 1, 0, none⟩) 4 [(5, 6), (0, 2), (2, 3), (9, 9)] W4 (Spns.of_cells B3) (by decide))
  rw [merged_ex] at C3
  rw [hb1, hW4]
  clear B1 B2 B3 hsz hW4 hb1
  refine C3.out.mono ?_
  rintro e V ⟨A7, c7, rfl, ho7, hx⟩
  have HO7 := Lib.hid ho7
  have X0 := Lib.hid hx
  obtain ⟨e0, e1, e2, e3, e4, e5, e6, e7⟩ := FX.out V X0.out
  have X7 : Hid (Ext V V) := Lib.hid (Ext.refl _)
  rw [show ([(0, 3), (5, 6), (9, 9)] : List Sn).length = 3 from rfl]
  clear C3 ho7 hx
  go_wp2_with fail
  refine (nm0 _).mono ?_
  rintro e V0 ⟨rfl, hx⟩
  have X70 := Lib.hid ((X7.out.trans (by repeat (first | exact Ext.refl _ | refine Ext.alloc ?_ _ | refine Ext.more ?_ _ _ | refine Ext.drew ?_ | refine Ext.drewN ?_ _ | refine Ext.setCell ?_ (by simp <;> omega) _))).trans hx)
  clear hx e0 e1 e2 e3 e4 e5 e6 e7
  obtain ⟨e0, e1, e2, e3, e4, e5, e6, e7⟩ := FX.out V0 (X0.out.trans X70.out)
  go_wp2_with fail
  refine (nm1 _).mono ?_
  rintro e V1 ⟨rfl, hx⟩
  have X71 := Lib.hid ((X70.out.trans (by repeat (first | exact Ext.refl _ | refine Ext.alloc ?_ _ | refine Ext.more ?_ _ _ | refine Ext.drew ?_ | refine Ext.drewN ?_ _ | refine Ext.setCell ?_ (by simp <;> omega) _))).trans hx)
  clear hx e0 e1 e2 e3 e4 e5 e6 e7
  obtain ⟨e0, e1, e2, e3, e4, e5, e6, e7⟩ := FX.out V1 (X0.out.trans X71.out)
  go_wp2_with fail
  refine (nm2 _).mono ?_
  rintro e V2 ⟨rfl, hx⟩
  have X72 := Lib.hid ((X71.out.trans (by repeat (first | exact Ext.refl _ | refine Ext.alloc ?_ _ | refine Ext.more ?_ _ _ | refine Ext.drew ?_ | refine Ext.drewN ?_ _ | refine Ext.setCell ?_ (by simp <;> omega) _))).trans hx)
  clear hx e0 e1 e2 e3 e4 e5 e6 e7
  obtain ⟨e0, e1, e2, e3, e4, e5, e6, e7⟩ := FX.out V2 (X0.out.trans X72.out)
  go_wp2_with fail
  refine (nm3 _).mono ?_
  rintro e V3 ⟨rfl, hx⟩
  have X73 := Lib.hid ((X72.out.trans (by repeat (first | exact Ext.refl _ | refine Ext.alloc ?_ _ | refine Ext.more ?_ _ _ | refine Ext.drew ?_ | refine Ext.drewN ?_ _ | refine Ext.setCell ?_ (by simp <;> omega) _))).trans hx)
  clear hx e0 e1 e2 e3 e4 e5 e6 e7
  obtain ⟨e0, e1, e2, e3, e4, e5, e6, e7⟩ := FX.out V3 (X0.out.trans X73.out)
  go_wp2_with fail
  refine (nm4 _).mono ?_
  rintro e V4 ⟨rfl, hx⟩
  have X74 := Lib.hid ((X73.out.trans (by repeat (first | exact Ext.refl _ | refine Ext.alloc ?_ _ | refine Ext.more ?_ _ _ | refine Ext.drew ?_ | refine Ext.drewN ?_ _ | refine Ext.setCell ?_ (by simp <;> omega) _))).trans hx)
  clear hx e0 e1 e2 e3 e4 e5 e6 e7
  obtain ⟨e0, e1, e2, e3, e4, e5, e6, e7⟩ := FX.out V4 (X0.out.trans X74.out)
  go_wp2_with fail
  refine (nm5 _).mono ?_
  rintro e V5 ⟨rfl, hx⟩
  have X75 := Lib.hid ((X74.out.trans (by repeat (first | exact Ext.refl _ | refine Ext.alloc ?_ _ | refine Ext.more ?_ _ _ | refine Ext.drew ?_ | refine Ext.drewN ?_ _ | refine Ext.setCell ?_ (by simp <;> omega) _))).trans hx)
  clear hx e0 e1 e2 e3 e4 e5 e6 e7
  obtain ⟨e0, e1, e2, e3, e4, e5, e6, e7⟩ := FX.out V5 (X0.out.trans X75.out)
  go_wp2_with fail
  refine (nm6 _).mono ?_
  rintro e V6 ⟨rfl, hx⟩
  have X76 := Lib.hid ((X75.out.trans (by repeat (first | exact Ext.refl _ | refine Ext.alloc ?_ _ | refine Ext.more ?_ _ _ | refine Ext.drew ?_ | refine Ext.drewN ?_ _ | refine Ext.setCell ?_ (by simp <;> omega) _))).trans hx)
  clear hx e0 e1 e2 e3 e4 e5 e6 e7
  obtain ⟨e0, e1, e2, e3, e4, e5, e6, e7⟩ := FX.out V6 (X0.out.trans X76.out)
  go_wp2_with fail
  refine (nm7 _).mono ?_
  rintro e V7 ⟨rfl, hx⟩
  have X77 := Lib.hid ((X76.out.trans (by repeat (first | exact Ext.refl _ | refine Ext.alloc ?_ _ | refine Ext.more ?_ _ _ | refine Ext.drew ?_ | refine Ext.drewN ?_ _ | refine Ext.setCell ?_ (by simp <;> omega) _))).trans hx)
  clear hx e0 e1 e2 e3 e4 e5 e6 e7
  obtain ⟨e0, e1, e2, e3, e4, e5, e6, e7⟩ := FX.out V7 (X0.out.trans X77.out)
  go_wp2_with fail
  refine (nm8 _).mono ?_
  rintro e V8 ⟨rfl, hx⟩
  have X78 := Lib.hid ((X77.out.trans (by repeat (first | exact Ext.refl _ | refine Ext.alloc ?_ _ | refine Ext.more ?_ _ _ | refine Ext.drew ?_ | refine Ext.drewN ?_ _ | refine Ext.setCell ?_ (by simp <;> omega) _))).trans hx)
  clear hx e0 e1 e2 e3 e4 e5 e6 e7
  obtain ⟨e0, e1, e2, e3, e4, e5, e6, e7⟩ := FX.out V8 (X0.out.trans X78.out)
  go_wp2_with fail
  refine (nm9 _).mono ?_
  rintro e V9 ⟨rfl, hx⟩
  have X79 := Lib.hid ((X78.out.trans (by repeat (first | exact Ext.refl _ | refine Ext.alloc ?_ _ | refine Ext.more ?_ _ _ | refine Ext.drew ?_ | refine Ext.drewN ?_ _ | refine Ext.setCell ?_ (by simp <;> omega) _))).trans hx)
  clear hx e0 e1 e2 e3 e4 e5 e6 e7
  obtain ⟨e0, e1, e2, e3, e4, e5, e6, e7⟩ := FX.out V9 (X0.out.trans X79.out)
  go_wp2_with fail
  refine (nm10 _).mono ?_
  rintro e V10 ⟨rfl, hx⟩
  have X710 := Lib.hid ((X79.out.trans (by repeat (first | exact Ext.refl _ | refine Ext.alloc ?_ _ | refine Ext.more ?_ _ _ | refine Ext.drew ?_ | refine Ext.drewN ?_ _ | refine Ext.setCell ?_ (by simp <;> omega) _))).trans hx)
  clear hx e0 e1 e2 e3 e4 e5 e6 e7
  obtain ⟨e0, e1, e2, e3, e4, e5, e6, e7⟩ := FX.out V10 (X0.out.trans X710.out)
  go_wp2_with fail
  refine (nm11 _).mono ?_
  rintro e V11 ⟨rfl, hx⟩
  have X711 := Lib.hid ((X710.out.trans (by repeat (first | exact Ext.refl _ | refine Ext.alloc ?_ _ | refine Ext.more ?_ _ _ | refine Ext.drew ?_ | refine Ext.drewN ?_ _ | refine Ext.setCell ?_ (by simp <;> omega) _))).trans hx)
  clear hx e0 e1 e2 e3 e4 e5 e6 e7
  obtain ⟨e0, e1, e2, e3, e4, e5, e6, e7⟩ := FX.out V11 (X0.out.trans X711.out)
  go_wp2_with fail
  refine (nm12 _).mono ?_
  rintro e V12 ⟨rfl, hx⟩
  have X712 := Lib.hid ((X711.out.trans (by repeat (first | exact Ext.refl _ | refine Ext.alloc ?_ _ | refine Ext.more ?_ _ _ | refine Ext.drew ?_ | refine Ext.drewN ?_ _ | refine Ext.setCell ?_ (by simp <;> omega) _))).trans hx)
  clear hx e0 e1 e2 e3 e4 e5 e6 e7
  obtain ⟨e0, e1, e2, e3, e4, e5, e6, e7⟩ := FX.out V12 (X0.out.trans X712.out)
  go_wp2_with fail
  refine (nm13 _).mono ?_
  rintro e V13 ⟨rfl, hx⟩
  have X713 := Lib.hid ((X712.out.trans (by repeat (first | exact Ext.refl _ | refine Ext.alloc ?_ _ | refine Ext.more ?_ _ _ | refine Ext.drew ?_ | refine Ext.drewN ?_ _ | refine Ext.setCell ?_ (by simp <;> omega) _))).trans hx)
  clear hx e0 e1 e2 e3 e4 e5 e6 e7
  obtain ⟨e0, e1, e2, e3, e4, e5, e6, e7⟩ := FX.out V13 (X0.out.trans X713.out)
  go_wp2_with fail
  refine (nm14 _).mono ?_
  rintro e V14 ⟨rfl, hx⟩
  have X714 := Lib.hid ((X713.out.trans (by repeat (first | exact Ext.refl _ | refine Ext.alloc ?_ _ | refine Ext.more ?_ _ _ | refine Ext.drew ?_ | refine Ext.drewN ?_ _ | refine Ext.setCell ?_ (by simp <;> omega) _))).trans hx)
  clear hx e0 e1 e2 e3 e4 e5 e6 e7
  obtain ⟨e0, e1, e2, e3, e4, e5, e6, e7⟩ := FX.out V14 (X0.out.trans X714.out)
  go_wp2_with fail
  refine (nm15 _).mono ?_
  rintro e V15 ⟨rfl, hx⟩
  have X715 := Lib.hid ((X714.out.trans (by repeat (first | exact Ext.refl _ | refine Ext.alloc ?_ _ | refine Ext.more ?_ _ _ | refine Ext.drew ?_ | refine Ext.drewN ?_ _ | refine Ext.setCell ?_ (by simp <;> omega) _))).trans hx)
  clear hx e0 e1 e2 e3 e4 e5 e6 e7
  obtain ⟨e0, e1, e2, e3, e4, e5, e6, e7⟩ := FX.out V15 (X0.out.trans X715.out)
  go_wp2_with fail
  refine (same_spans A7 _ [(0, 3), (5, 6), (9, 9)] c7 3 _ ((HO7.out.ext (X715.out.trans (by repeat (first | exact Ext.refl _ | refine Ext.alloc ?_ _ | refine Ext.more ?_ _ _ | refine Ext.drew ?_ | refine Ext.drewN ?_ _ | refine Ext.setCell ?_ (by simp <;> omega) _)))).cells.1) (Spns.of_cells (cells_lit _ _ _ _ _ rfl rfl)) (by decide)).mono ?_
  rintro e V16 ⟨rfl, hx⟩
  have X716 := Lib.hid ((X715.out.trans (by repeat (first | exact Ext.refl _ | refine Ext.alloc ?_ _ | refine Ext.more ?_ _ _ | refine Ext.drew ?_ | refine Ext.drewN ?_ _ | refine Ext.setCell ?_ (by simp <;> omega) _))).trans hx)
  clear hx e0 e1 e2 e3 e4 e5 e6 e7
  obtain ⟨e0, e1, e2, e3, e4, e5, e6, e7⟩ := FX.out V16 (X0.out.trans X716.out)
  go_wp2_with fail
  refine (nm17 _).mono ?_
  rintro e V17 ⟨rfl, hx⟩
  have X717 := Lib.hid ((X716.out.trans (by repeat (first | exact Ext.refl _ | refine Ext.alloc ?_ _ | refine Ext.more ?_ _ _ | refine Ext.drew ?_ | refine Ext.drewN ?_ _ | refine Ext.setCell ?_ (by simp <;> omega) _))).trans hx)
  clear hx e0 e1 e2 e3 e4 e5 e6 e7
  obtain ⟨e0, e1, e2, e3, e4, e5, e6, e7⟩ := FX.out V17 (X0.out.trans X717.out)
  go_wp2_with fail
  refine (nm18 _).mono ?_
  rintro e V18 ⟨rfl, hx⟩
  have X718 := Lib.hid ((X717.out.trans (by repeat (first | exact Ext.refl _ | refine Ext.alloc ?_ _ | refine Ext.more ?_ _ _ | refine Ext.drew ?_ | refine Ext.drewN ?_ _ | refine Ext.setCell ?_ (by simp <;> omega) _))).trans hx)
  clear hx e0 e1 e2 e3 e4 e5 e6 e7
  obtain ⟨e0, e1, e2, e3, e4, e5, e6, e7⟩ := FX.out V18 (X0.out.trans X718.out)
  go_wp2_with fail
  refine (nm19 _).mono ?_
  rintro e V19 ⟨rfl, hx⟩
  have X719 := Lib.hid ((X718.out.trans (by repeat (first | exact Ext.refl _ | refine Ext.alloc ?_ _ | refine Ext.more ?_ _ _ | refine Ext.drew ?_ | refine Ext.drewN ?_ _ | refine Ext.setCell ?_ (by simp <;> omega) _))).trans hx)
  clear hx e0 e1 e2 e3 e4 e5 e6 e7
  obtain ⟨e0, e1, e2, e3, e4, e5, e6, e7⟩ := FX.out V19 (X0.out.trans X719.out)
  go_wp2_with fail
  refine (nm20 _).mono ?_
  rintro e V20 ⟨rfl, hx⟩
  have X720 := Lib.hid ((X719.out.trans (by repeat (first | exact Ext.refl _ | refine Ext.alloc ?_ _ | refine Ext.more ?_ _ _ | refine Ext.drew ?_ | refine Ext.drewN ?_ _ | refine Ext.setCell ?_ (by simp <;> omega) _))).trans hx)
  clear hx e0 e1 e2 e3 e4 e5 e6 e7
  obtain ⟨e0, e1, e2, e3, e4, e5, e6, e7⟩ := FX.out V20 (X0.out.trans X720.out)
  go_wp2_with fail
  go_ret
  exact ⟨rfl, ((XW.out.trans X0.out).trans X720.out).trans (by repeat (first | exact Ext.refl _ | refine Ext.alloc ?_ _ | refine Ext.more ?_ _ _ | refine Ext.drew ?_ | refine Ext.drewN ?_ _ | refine Ext.setCell ?_ (by simp <;> omega) _))⟩
end Go.Proofs.Ytfjkghbnlmhcnaa
