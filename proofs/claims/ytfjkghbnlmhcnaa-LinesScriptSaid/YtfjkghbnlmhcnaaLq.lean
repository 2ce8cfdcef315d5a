/- slices.Replace at rows of the call's own, in general: the walk. -/
import Derived.Test.YtfjkghbnlmhcnaaLt
import Derived.WalkSpells
import Derived.WalkLawsBesides
import Derived.BigRegion
import Derived.Deep.RegionWith
import Derived.Deep.QuietTactic
import Derived.Deep.DeepCutAuto
import Derived.Deep.RegionHeld3
import Derived.Deep.RegionLaw
import Derived.BigQuiet
import Derived.Lib.Hide
namespace Go.Proofs.Ytfjkghbnlmhcnaa
open Go.RowKit
attribute [local go_sem] more_drew more_drewN more_size more_cell more_frozen more_setCell drew_more drewN_more lt_add_r lt_add_r2 lt_add_r3 lt_add_r4 lt_add_r5 lt_add_r6 lt_add_r7 lt_add_r8 lt_add_r9 lt_add_r10 lt_self_r lt_self_r2

set_option maxRecDepth 100000 in
set_option maxHeartbeats 1000000 in
/-- the end goes, fewer come -/
theorem rep_cut (base g c cb : Nat) (xs vs : List Int) (i : Nat) (B : Option Addr) (V : World) (hi : i + vs.length < xs.length) (hl : xs.length ≤ 1000000) (hA : OwnI V base (some ⟨g, 0, none⟩) c xs) (hB : OwnI V base B cb vs) :
    Calls Try.prog 43 #[.slice (some ⟨g, 0, none⟩) xs.length c, .int .i64 i, .int .i64 xs.length, .slice B vs.length cb] V (RepRet V base (some ⟨g, 0, none⟩) (xs.take i ++ vs)) := by
  have RA := OwnR.of hA
  have a1 := hA.ints.2.1
  have a2 := hA.ints.2.2.1
  unfold maxLen at a2
  obtain ⟨i3, hii, hz0, hz1, hz2⟩ := info_parts infoInt
  have hS : Src Try.prog i3.size 29 (.slice B vs.length cb) vs.length (iv vs) V := by rw [hz1]; exact src_of hB
  have hap := fun ty => run_append_room_src V 29 29 ty 3 i3 Try.underlying29 hii g 0 i c _ _ (iv vs) hS (by omega) (fun j hj => RA.here (by rw [hz1]; rw [iv_length] at hj; omega)) (fun j _ => RA.frozen _)
  rw [hz1, Nat.zero_add, Nat.mul_one] at hap
  have O1 := RA.put i (iv vs) (by rw [iv_length, iv_length]; omega)
  rw [iv_take, ← iv_append, iv_length] at O1
  have hpl : (xs.take i ++ vs).length = i + vs.length := by rw [List.length_append, List.length_take]; omega
  obtain ⟨ds, hds⟩ : ∃ ds, (iv xs).drop (i + vs.length) = ds := ⟨_, rfl⟩
  have hdl : ds.length = xs.length - (i + vs.length) := by rw [← hds, List.length_drop, iv_length]
  rw [hds] at O1
  have T1 : Turn (· = g) V (V.setCells g i (iv vs)) := Turn.setCells (S := (· = g)) rfl _ _ _
  obtain ⟨W1, hW1⟩ : ∃ W1, V.setCells g i (iv vs) = W1 := ⟨_, rfl⟩
  rw [hW1] at hap O1 T1
  obtain ⟨W2, hcl, O2, T2⟩ := clear_tail O1 0 (some ⟨g, (xs.take i ++ vs).length, none⟩) (fun _ => rfl) (c - (i + vs.length))
  have hcl := hcl (xs.length - (i + vs.length)) hdl.symm
  rw [hpl] at hcl
  have HO2 := Lib.hid O2
  have HT2 := Lib.hid (T1.trans T2)
  have HYL := Lib.hid hpl
  obtain ⟨n, hn⟩ : ∃ n, xs.length = n := ⟨_, rfl⟩
  obtain ⟨m, hm'⟩ : ∃ m, vs.length = m := ⟨_, rfl⟩
  rw [hm'] at hap hcl HYL hi ⊢
  rw [hn] at hcl hi a1 hl ⊢
  have q1 : ¬ ((i : Int) = (n : Int)) := by omega
  have q2 : (i : Int) + (m : Int) < n := by omega
  have q3 : ¬ (c = i + m) := by omega
  have q4 : ¬ (c = i) := by omega
  clear hA hB RA hS O1 hpl hds hdl T1 hW1 O2 T2 hn hm'
  go_enter Try.func43, Try.ntmps43
  go_wp2_with (first
    | (at_builtin; refine Lib.wpList_append_run _ rfl _ _ _ _ rfl _ _ rfl rfl _ _ (hap _) ?_)
    | (at_builtin; refine wpList_clear_runI _ rfl _ 29 rfl _ rfl hcl ?_))
  go_ret
  exact ⟨some ⟨g, 0, none⟩, c, by rw [HYL.out]; rfl, HO2.out.ints, HT2.out.mono fun k _ hk => .inl (by rw [hk]; rfl), fun b hb => .inl hb⟩
set_option maxRecDepth 100000 in
set_option maxHeartbeats 1000000 in
/-- within, where there is no room -/
theorem rep_grow (base g c b' cb : Nat) (xs vs : List Int) (i j : Nat) (V : World) (hij : i < j) (hj : j < xs.length) (hroom : c < i + vs.length + (xs.length - j)) (hl : xs.length ≤ 1000000) (hv : vs.length ≤ 1000000) (hA : OwnI V base (some ⟨g, 0, none⟩) c xs) (hB : OwnI V base (some ⟨b', 0, none⟩) cb vs) (hb : base ≤ V.heap.size) :
    Calls Try.prog 43 #[.slice (some ⟨g, 0, none⟩) xs.length c, .int .i64 i, .int .i64 j, .slice (some ⟨b', 0, none⟩) vs.length cb] V (RepRet V base (some ⟨g, 0, none⟩) (xs.take i ++ vs ++ xs.drop j)) := by
  have a1 := hA.ints.2.1
  have a2 := hA.ints.2.2.1
  unfold maxLen at a2
  obtain ⟨W0, hW0⟩ : ∃ W0, V.drew = W0 := ⟨_, rfl⟩
  have HW0 := Lib.hid hW0
  have X0 : Hid (Turn (fun _ => False) V W0) := Lib.hid (by rw [← hW0]; exact Turn.of_ext (by repeat (first | exact Ext.refl _ | refine Ext.alloc ?_ _ | refine Ext.more ?_ _ _ | refine Ext.drew ?_ | refine Ext.drewN ?_ _ | refine Ext.setCell ?_ (by simp <;> omega) _)))
  have hsz : V.heap.size = W0.heap.size := by rw [← hW0]; rfl
  obtain ⟨W1, W2, W3, G, F1, F2, F3, O3, T3, hG1, hG2⟩ := grow_facts W0 base g c b' cb xs vs i j (by omega) (by omega) (by omega) (by omega) (by omega) ((OwnR.of hA).keep X0.out id) ((OwnR.of hB).keep X0.out id) (by omega)
  have hyl : (xs.take i ++ vs ++ xs.drop j).length = i + (vs.length + (xs.length - j)) := by rw [List.length_append, List.length_append, List.length_take, List.length_drop]; omega
  have HO3 := Lib.hid O3
  have HT3 := Lib.hid T3
  have HYL := Lib.hid hyl
  obtain ⟨gN, hgN⟩ : ∃ gN, W0.heap.size = gN := ⟨_, rfl⟩
  rw [hgN] at F1 F2 F3 HO3 HT3 hsz
  have HSZ := Lib.hid hsz
  obtain ⟨m, hm'⟩ : ∃ m, vs.length = m := ⟨_, rfl⟩
  obtain ⟨r, hr⟩ : ∃ r, xs.length = j + r := ⟨xs.length - j, by omega⟩
  have hr2 : xs.length - j = r := by omega
  rw [hr2, hm'] at F1 HYL hG1 hroom
  rw [hr2] at F2 F3
  rw [hm'] at F2 F3 hv ⊢
  rw [hr] at hj a1 hl ⊢
  have q1 : ¬ ((i : Int) = (j : Int)) := by omega
  have q2 : ¬ ((j : Int) = (j : Int) + (r : Int)) := by omega
  have q3 : ¬ (c = i) := by omega
  have q4 : ¬ (c = j) := by omega
  have q5 : (c : Int) < (i : Int) + (m : Int) + (r : Int) := by omega
  have q6 : ¬ (G = i) := by omega
  have q7 : ¬ (G = i + m) := by omega
  have w1 : IntKind.i64.wrap ((i : Int) + (m : Int)) = (i : Int) + (m : Int) := by rw [IntKind.wrap_i64]; omega
  have w2 : IntKind.i64.wrap ((i : Int) + (m : Int) + (r : Int)) = (i : Int) + (m : Int) + (r : Int) := by rw [IntKind.wrap_i64]; omega
  have w3 : IntKind.i64.wrap ((i : Int) + (m : Int) + (r : Int) - (i : Int)) = (i : Int) + (m : Int) + (r : Int) - (i : Int) := by rw [IntKind.wrap_i64]; omega
  have b1 : (0 : Int) ≤ (i : Int) + (m : Int) := by omega
  have b2 : ((i : Int) + (m : Int)).toNat = i + m := by omega
  have b3 : (i : Int) + (m : Int) ≤ (i : Int) + ((m : Int) + (r : Int)) := by omega
  have b4 : (j : Int) ≤ (j : Int) + (r : Int) := by omega
  obtain ⟨ys, hys⟩ : ∃ ys, xs.take i ++ vs ++ xs.drop j = ys := ⟨_, rfl⟩
  rw [hys] at HO3 HYL ⊢
  have G1 := F1 ((i : Int) + (m : Int) + (r : Int) - (i : Int)) (by omega)
  have G2 := F2 _ rfl
  have G3 := F3 (i + (m + r) - (i + m)) (by omega)
  clear F1 F2 F3 hA hB hys hyl hm' hr hr2 O3 T3 hgN hsz hW0
  have mixed : Try.prog.follows Departure.mixedOrders = true := by kernel_rfl
  go_enter Try.func43, Try.ntmps43
  go_upto_region 9 with fail
  refine wp_region_bt (13) (softs_bt [0, 1, 2, 3, 4, 5, 6, 7, 8, 9, 10, 11, 12] .fin) (by kernel_rfl) (by kernel_rfl) ?_
  (refine bt_softs _ fun K hK => ?_); (simp only [pick, nthC]); (repeat (go_big_quiet_step (fail))); (refine wpQuiet_nil (hK _ ?_)); (clear hK K)
  (refine bt_fin ?_)
  rw [HW0.out]
  go_wp2_with (first
    | (at_builtin; refine Lib.wpList_append_run _ rfl _ _ _ _ rfl _ _ rfl rfl _ _ (G1 _) ?_)
    | (at_builtin; refine wpList_copy_runI _ rfl _ _ 29 29 rfl _ _ rfl rfl (G2 _ _) ?_))
  go_region_law_o (refine step_copy_runI rfl _ _ 29 29 rfl _ _ (by simp [Act.eval, Act.put]) (by simp [Act.eval, Act.put]) (G3 _ _ _) ?_)
  go_wp2_with fail
  go_ret
  exact ⟨some ⟨gN, 0, none⟩, G, by rw [HYL.out]; rfl, HO3.out.ints, Turn.andThen X0.out HT3.out (fun _ _ h => h.elim) (fun k _ hk => .inr (by rw [HSZ.out]; exact hk)), fun b hb => .inr (by cases hb; rw [HSZ.out]; exact Nat.le_refl _)⟩
end Go.Proofs.Ytfjkghbnlmhcnaa
