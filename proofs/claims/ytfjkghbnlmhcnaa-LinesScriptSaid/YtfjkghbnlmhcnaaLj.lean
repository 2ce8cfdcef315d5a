/- viewportref09: Edit: the walk. -/
import Derived.Test.YtfjkghbnlmhcnaaLi
import Derived.WalkSpells
import Derived.WalkLawsBesides
import Derived.BigRegion
import Derived.Deep.RegionWith
import Derived.Deep.QuietTactic
import Derived.Deep.DeepCutAuto
import Derived.Deep.RegionHeld3
import Derived.Deep.RegionLaw
import Derived.BigQuiet
import Derived.Lib.Hide
namespace Go.Proofs.Ytfjkghbnlmhcnaa
open Go.RowKit
attribute [local go_sem] more_drew more_drewN more_size more_cell more_frozen more_setCell drew_more drewN_more lt_add_r lt_add_r2 lt_add_r3 lt_add_r4 lt_add_r5 lt_add_r6 lt_add_r7 lt_add_r8 lt_add_r9 lt_add_r10 lt_self_r lt_self_r2

def REditYes (w : World) (g : Nat) (l : List UInt8) (n : Nat) (e : Ending) (w' : World) : Prop := e = .returned (.int .i64 0) ∧ (∃ ns, TxtAt w' g ns ∧ ns.data.toList = l ∧ ns.size = n) ∧ Turn (fun k => k = g ∨ w.heap.size ≤ k) w w'
set_option maxRecDepth 100000 in
set_option maxHeartbeats 2000000 in
theorem redit_yes {w : World} {g : Nat} {s0 : ByteArray} (a d : Nat) (s : ByteArray) (h : TxtAt w g s0) (hn : s0.size ≤ 30000) (hs : s.size ≤ 30000) (had : a + d ≤ s0.size) :
    Calls Try.prog 23 #[pt g, .agg #[.int .i64 a, .int .i64 d, .int .i64 s.size], .string s] w (REditYes w g (editL s0.data.toList a d s.data.toList) (s0.size - d + s.size)) := by
  have HG1 := Lib.hid h
  have HLT := Lib.hid (lt_of_heap h)
  have HSB : Hid (s0.data.toList.length = s0.size) := Lib.hid (by rw [Array.length_toList]; rfl)
  clear h
  go_enter Try.func23, Try.ntmps23
  go_upto_region 1 with fail
  obtain ⟨bx, hbx⟩ : ∃ bx, w.heap.size = bx := ⟨_, rfl⟩
  obtain ⟨W1, hW1⟩ : ∃ W1, w.alloc (.cells #[.int .i64 a, .int .i64 d, .int .i64 s.size] 34) = W1 := ⟨_, rfl⟩
  have X1 : Hid (Ext w W1) := Lib.hid (by rw [← hW1]; exact (by repeat (first | exact Ext.refl _ | refine Ext.alloc ?_ _ | refine Ext.more ?_ _ _ | refine Ext.drew ?_ | refine Ext.drewN ?_ _ | refine Ext.setCell ?_ (by simp <;> omega) _)))
  have B1 : W1.heap[bx]? = some (.cells #[.int .i64 a, .int .i64 d, .int .i64 s.size] 34) := by rw [← hW1, ← hbx]; exact heap_alloc_new _ _
  have HG2 := Lib.hid (HG1.out.ext X1.out)
  obtain ⟨k0, lg⟩ := HG2.out.cell
  obtain ⟨n, hnn⟩ : ∃ n, s0.size = n := ⟨_, rfl⟩
  rw [hW1, hbx]
  have e0 := cell_of_row _ _ 0 _ _ _ B1
  have e1 := cell_of_row _ _ 1 _ _ _ B1
  have e2 := cell_of_row _ _ 2 _ _ _ B1
  simp at e0 e1 e2
  have le := lt_of_heap B1
  have HNE : Hid (g ≠ bx) := Lib.hid (by have := HLT.out; omega)
  clear B1 hW1 hbx hnn
  have q0 : decide ((a : Int) < 0) = false := decide_eq_false (by omega)
  have q1 : decide ((d : Int) < 0) = false := decide_eq_false (by omega)
  have q2 : decide (s0.size < a) = false := decide_eq_false (by omega)
  have q3 : decide ((s0.size : Int) - a < d) = false := decide_eq_false (by omega)
  have w1 : IntKind.i64.wrap ((s0.size : Int) - a) = s0.size - a := IntWalk.i64_in _ (by omega)
  refine wp_region_bt (38) (softs_bt [0, 1, 2, 3, 4, 5, 6, 7, 8, 9, 10, 11, 12, 13, 14, 15, 16, 17, 18, 19, 20, 21, 22, 23, 24, 25, 26, 27, 28, 29, 30, 31, 32, 33, 34, 35, 36, 37] .fin) (by kernel_rfl) (by kernel_rfl) ?_
  (refine bt_softs _ fun K hK => ?_); (simp only [pick, nthC]); (repeat (go_big_quiet_step (fail))); (refine wpQuiet_nil (hK _ ?_)); (clear hK K)
  (refine bt_fin ?_)
  clear q0 q1 q2 q3 w1
  have w2 : IntKind.i64.wrap ((s0.size : Int) - d) = s0.size - d := IntWalk.i64_in _ (by omega)
  have w3 : IntKind.i64.wrap ((s0.size : Int) - d + s.size) = s0.size - d + s.size := IntWalk.i64_in _ (by omega)
  have q4 : decide ((65536 : Int) < (s0.size : Int) - d + s.size) = false := decide_eq_false (by omega)
  go_upto_region 3 with fail
  refine wp_region_bt (12) (softs_bt [0, 1, 2, 3, 4, 5, 6, 7, 8, 9, 10, 11] .fin) (by kernel_rfl) (by kernel_rfl) ?_
  (refine bt_softs _ fun K hK => ?_); (simp only [pick, nthC]); (repeat (go_big_quiet_step (fail))); (refine wpQuiet_nil (hK _ ?_)); (clear hK K)
  (refine bt_fin ?_)
  have w9 : IntKind.i64.wrap ((a : Int) + (d : Int)) = (a : Int) + (d : Int) := IntWalk.i64_in _ (by omega)
  have b1 : (a : Int) ≤ (s0.size : Int) := by omega
  have b2 : (0 : Int) ≤ (a : Int) + (d : Int) := by omega
  have b3 : ((a : Int) + (d : Int)).toNat = a + d := by omega
  have b4 : (a : Int) + (d : Int) ≤ (s0.size : Int) := by omega
  have z1 : (s0.extract 0 a).size ≤ 30000 := by rw [ByteArray.size_extract]; omega
  have z3 : (s0.extract 0 a ++ s).size ≤ 60000 := by rw [ByteArray.size_append, ByteArray.size_extract]; omega
  have z4 : (s0.extract (a + d) s0.size).size ≤ 30000 := by rw [ByteArray.size_extract]; omega
  have fz : W1.frozen? ⟨g, 0, none⟩ = false := by simp [World.frozen?, show W1.heap[g]? = _ from HG2.out]
  clear q4 w2 w3
  go_upto_region 5 with fail
  refine wp_region_bt (23) (softs_bt [0, 1, 2, 3, 4, 5, 6, 7, 8, 9, 10, 11, 12, 13, 14, 15, 16, 17, 18, 19, 20, 21, 22] (.step 23 .fin)) (by kernel_rfl) (by kernel_rfl) ?_
  (refine bt_softs _ fun K hK => ?_); (simp only [pick, nthC]); (repeat (go_big_quiet_step (fail))); (refine wpQuiet_nil (hK _ ?_)); (clear hK K)
  (refine bt_step fun next hn => ?_); (simp only [pick, nthC])
  go_wp2_with fail
  refine segQ_mk (fun h => absurd rfl h) (hn _ _ ?_)
  clear hn next
  (refine bt_fin ?_)
  go_wp2_with fail
  go_ret
  refine ⟨rfl, ⟨s0.extract 0 a ++ s ++ s0.extract (a + d) s0.size, ?_, ?_, ?_⟩, ?_⟩
  · show ((_ : World).setCell ⟨g, 0, none⟩ _).heap[g]? = _
    simp [World.setCell, Array.getElem?_modify, show W1.heap[g]? = _ from HG2.out]
  · rw [ByteArray.data_append, ByteArray.data_append, Array.toList_append, Array.toList_append, extract_list, extract_list]
    unfold editL
    rw [List.drop_zero, List.take_of_length_le (Nat.le_of_eq HSB.out)]
  · rw [ByteArray.size_append, ByteArray.size_append, ByteArray.size_extract, ByteArray.size_extract]
    omega
  · exact ((Turn.of_ext X1.out).trans (Turn.setCell (S := fun k => k = g ∨ w.heap.size ≤ k) W1 (p := ⟨g, 0, none⟩) (.inl rfl) _)).trans (Turn.of_ext (by repeat (first | exact Ext.refl _ | refine Ext.alloc ?_ _ | refine Ext.more ?_ _ _ | refine Ext.drew ?_ | refine Ext.drewN ?_ _ | refine Ext.setCell ?_ (by simp <;> omega) _)))
end Go.Proofs.Ytfjkghbnlmhcnaa
