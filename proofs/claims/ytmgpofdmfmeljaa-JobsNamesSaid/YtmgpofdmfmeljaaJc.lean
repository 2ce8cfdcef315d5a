/- The heap's comparison of two places. -/
import Derived.Test.YtmgpofdmfmeljaaJb
import Derived.WalkSpells
import Derived.WalkLawsBesides
import Derived.BigRegion
import Derived.Deep.RegionWith
import Derived.Deep.QuietTactic
import Derived.Deep.DeepCutAuto
import Derived.Deep.RegionHeld3
import Derived.Deep.RegionLaw
import Derived.BigQuiet
import Derived.Lib.Hide
namespace Go.Proofs.Ytmgpofdmfmeljaa
open Go.RowKit
attribute [local go_sem] more_drew more_drewN more_size more_cell more_frozen more_setCell drew_more drewN_more lt_add_r lt_add_r2 lt_add_r3 lt_add_r4 lt_add_r5 lt_add_r6 lt_add_r7 lt_add_r8 lt_add_r9 lt_add_r10 lt_self_r lt_self_r2

theorem ext_cell {w w' : World} {b i : Nat} {v : Value} (h : w.cell? ⟨b, i, none⟩ = some v) (hb : b < w.heap.size) (e : Ext w w') : w'.cell? ⟨b, i, none⟩ = some v := (World.cell?_of_block (e.below.block b hb)).trans h
set_option maxRecDepth 100000 in
set_option maxHeartbeats 3000000 in
theorem less_any {p : Nat} {o : Od} {v : Value} {X : List It} {c : Int} (i k : Nat) (hi : i < X.length) (hk : k < X.length) (w : World) (h : HeapAt w p o v X c) :
    Calls Try.prog 40 #[.pointer (some ⟨p, 0, none⟩), .int .i64 (i : Int), .int .i64 (k : Int)] w fun e w' => e = .returned (.bool (ltI o.k (X.getD i z6) (X.getD k z6))) ∧ Ext w w' := by
  obtain ⟨g, cap, rfl, hpg, hg, hlc, hcm⟩ := h.form (by omega)
  obtain ⟨i0, i1, i2, i3, i4, i5⟩ := h.item i hi
  obtain ⟨m0, m1, m2, m3, m4, m5⟩ := h.item k hk
  obtain ⟨c0, c1, _⟩ := h.cell
  have hp := h.lt
  have hm : X.length ≤ 9223372036854775807 := by unfold maxLen at hcm; omega
  have bi : (i : Int) < (X.length : Int) := by omega
  have bk : (k : Int) < (X.length : Int) := by omega
  have bi0 : (0 : Int) ≤ (i : Int) := by omega
  have bk0 : (0 : Int) ≤ (k : Int) := by omega
  have HO := Lib.hid h.ord
  have HH := Lib.hid h
  clear h
  unfold Od.V ordV at c0
  obtain ⟨a, ha⟩ : ∃ a, X.getD i z6 = a := ⟨_, rfl⟩
  obtain ⟨b, hb⟩ : ∃ b, X.getD k z6 = b := ⟨_, rfl⟩
  rw [ha] at i0 i1 i2 i3 i4 i5 ⊢
  rw [hb] at m0 m1 m2 m3 m4 m5 ⊢
  obtain ⟨L, hL⟩ : ∃ L, X.length = L := ⟨_, rfl⟩
  rw [hL] at c1 hm bi bk
  clear ha hb hL hlc hcm hi hk
  go_enter Try.func40, Try.ntmps40
  go_upto_region 1 with fail
  refine wp_region_bt (17) (softs_bt [0, 1, 2, 3, 4, 5, 6, 7, 8, 9, 10, 11, 12, 13] (.two (.step 14 (.step 15 (.step 16 (.step 17 .fin)))) (.step 15 (.step 14 (.step 16 (.step 17 .fin)))))) (by kernel_rfl) (by kernel_rfl) ?_
  (refine bt_softs _ fun K hK => ?_); (simp only [pick, nthC]); (repeat (go_big_quiet_step (fail))); (refine wpQuiet_nil (hK _ ?_)); (clear hK K)
  refine And.intro ?_ ?_
  all_goals
    iterate 3
      (refine bt_step fun next hn => ?_); (simp only [pick, nthC])
      go_wp2_with fail
      refine segQ_mk (fun _ => laid (by repeat (first | exact Ext.refl _ | refine Ext.alloc ?_ _ | refine Ext.more ?_ _ _ | refine Ext.drew ?_ | refine Ext.drewN ?_ _ | refine Ext.setCell ?_ (by simp <;> omega) _))) (hn _ _ ?_)
      clear hn next
    (refine bt_step fun next hn => ?_); (simp only [pick, nthC])
    go_wp2_with fail
    refine segQ_mk (fun h => absurd rfl h) (hn _ _ ?_)
    clear hn next
    (refine bt_fin ?_)
  · obtain ⟨W9, hW9⟩ : ∃ W9, ((w.alloc (.cells #[.int .i64 a.1, .int .i64 a.2.slot, .int .i64 a.2.lo, .int .i64 a.2.hi, .int .i64 a.2.age, .int .i64 a.2.lev] 63)).alloc (.cells #[.int .i64 b.1, .int .i64 b.2.slot, .int .i64 b.2.lo, .int .i64 b.2.hi, .int .i64 b.2.age, .int .i64 b.2.lev] 63)).drew = W9 := ⟨_, rfl⟩
    have X9 : Hid (Ext w W9) := Lib.hid (by rw [← hW9]; exact (by repeat (first | exact Ext.refl _ | refine Ext.alloc ?_ _ | refine Ext.more ?_ _ _ | refine Ext.drew ?_ | refine Ext.drewN ?_ _ | refine Ext.setCell ?_ (by simp <;> omega) _)))
    have GA : W9.heap[w.heap.size]? = some (.cells #[.int .i64 a.1, .int .i64 a.2.slot, .int .i64 a.2.lo, .int .i64 a.2.hi, .int .i64 a.2.age, .int .i64 a.2.lev] 63) := by rw [← hW9]; show (World.alloc (World.alloc _ _) _).heap[_]? = _; exact (by simp only [heap_alloc_get, World.size_alloc]; (repeat (split; (first | rfl | (exfalso; omega)))); (try (first | (exfalso; omega) | simp_all)))
    have GB : W9.heap[w.heap.size + 1]? = some (.cells #[.int .i64 b.1, .int .i64 b.2.slot, .int .i64 b.2.lo, .int .i64 b.2.hi, .int .i64 b.2.age, .int .i64 b.2.lev] 63) := by rw [← hW9]; show (World.alloc (World.alloc _ _) _).heap[_]? = _; exact (by simp only [heap_alloc_get, World.size_alloc]; (repeat (split; (first | rfl | (exfalso; omega)))); (try (first | (exfalso; omega) | simp_all)))
    have d0 := (HH.out.ext X9.out).cell.1
    have dp := (HH.out.ext X9.out).lt
    unfold Od.V ordV at d0
    have a0 := cell_of_row _ _ 0 _ _ _ GA
    have a1 := cell_of_row _ _ 1 _ _ _ GA
    have a2 := cell_of_row _ _ 2 _ _ _ GA
    have a3 := cell_of_row _ _ 3 _ _ _ GA
    have a4 := cell_of_row _ _ 4 _ _ _ GA
    have a5 := cell_of_row _ _ 5 _ _ _ GA
    have b0 := cell_of_row _ _ 0 _ _ _ GB
    have b1 := cell_of_row _ _ 1 _ _ _ GB
    have b2 := cell_of_row _ _ 2 _ _ _ GB
    have b3 := cell_of_row _ _ 3 _ _ _ GB
    have b4 := cell_of_row _ _ 4 _ _ _ GB
    have b5 := cell_of_row _ _ 5 _ _ _ GB
    have la := lt_of_heap GA
    have lb := lt_of_heap GB
    simp at a0 a1 a2 a3 a4 a5 b0 b1 b2 b3 b4 b5
    obtain ⟨r, hr⟩ : ∃ r, cmpD o.k a.2 b.2 = r := ⟨_, rfl⟩
    have C := fun V (x : Ext W9 V) => cmpD_any o.k a.2 b.2 o.bl o.bv o.bw V (OrdAt.ext (OrdAt.ext HO.out X9.out) x)
    rw [hr] at C
    unfold agD at C
    have HC := Lib.hid C
    have HR : Hid (ltI o.k a b = if r = 0 then decide (a.1 < b.1) else decide (r < 0)) := Lib.hid (by unfold ltI; rw [hr])
    clear C hr
    rw [hW9]
    clear hW9 GA GB c0 c1 hp i0 i1 i2 i3 i4 i5 m0 m1 m2 m3 m4 m5 hg
    go_upto_region 2 with fail
    refine wp_region_bt (10) (softs_bt [0, 1, 2, 3, 4, 5, 6, 7] (.step 8 (softs_bt [9] .fin))) (by kernel_rfl) (by kernel_rfl) ?_
    (refine bt_softs _ fun K hK => ?_); (simp only [pick, nthC]); (repeat (go_big_quiet_step (fail))); (refine wpQuiet_nil (hK _ ?_)); (clear hK K)
    (refine bt_step fun next hn => ?_); (simp only [pick, nthC])
    go_wp2_with fail
    refine (HC.out _ (by repeat (first | exact Ext.refl _ | refine Ext.alloc ?_ _ | refine Ext.more ?_ _ _ | refine Ext.drew ?_ | refine Ext.drewN ?_ _ | refine Ext.setCell ?_ (by simp <;> omega) _))).mono ?_
    rintro e V1 ⟨rfl, hv1⟩
    have Y1 : Hid (Ext W9 V1) := Lib.hid (Ext.trans (by repeat (first | exact Ext.refl _ | refine Ext.alloc ?_ _ | refine Ext.more ?_ _ _ | refine Ext.drew ?_ | refine Ext.drewN ?_ _ | refine Ext.setCell ?_ (by simp <;> omega) _)) hv1)
    have f0 := (ext_cell a0 la Y1.out)
    have f1 := (ext_cell b0 lb Y1.out)
    have l1 := Nat.lt_of_lt_of_le la Y1.out.size
    have l2 := Nat.lt_of_lt_of_le lb Y1.out.size
    clear hv1
    go_wp2_with fail
    refine segQ_mk (fun _ => laid Y1.out) (hn _ _ ?_)
    clear hn next
    (refine bt_softs _ fun K hK => ?_); (simp only [pick, nthC]); (repeat (go_big_quiet_step (fail))); (refine wpQuiet_nil (hK _ ?_)); (clear hK K)
    (refine bt_fin ?_)
    rcases (show r = 0 ∨ (r ≠ 0 ∧ r < 0) ∨ (r ≠ 0 ∧ ¬ r < 0) by omega) with rfl | ⟨h1, h2⟩ | ⟨h1, h2⟩
    · rw [if_pos rfl] at HR
      go_wp2_with fail
      go_ret
      exact ⟨ret_bool HR.out.symm, X9.out.trans Y1.out⟩
    · have z1 : (r == 0) = false := by simpa using h1
      have z2 : decide (r < 0) = true := decide_eq_true h2
      rw [if_neg h1, z2] at HR
      clear h1 h2
      go_wp2_with fail
      go_ret
      exact ⟨ret_bool HR.out.symm, X9.out.trans Y1.out⟩
    · have z1 : (r == 0) = false := by simpa using h1
      have z2 : decide (r < 0) = false := decide_eq_false h2
      rw [if_neg h1, z2] at HR
      clear h1 h2
      go_wp2_with fail
      go_ret
      exact ⟨ret_bool HR.out.symm, X9.out.trans Y1.out⟩
  · obtain ⟨W9, hW9⟩ : ∃ W9, ((w.alloc (.cells #[.int .i64 b.1, .int .i64 b.2.slot, .int .i64 b.2.lo, .int .i64 b.2.hi, .int .i64 b.2.age, .int .i64 b.2.lev] 63)).alloc (.cells #[.int .i64 a.1, .int .i64 a.2.slot, .int .i64 a.2.lo, .int .i64 a.2.hi, .int .i64 a.2.age, .int .i64 a.2.lev] 63)).drew = W9 := ⟨_, rfl⟩
    have X9 : Hid (Ext w W9) := Lib.hid (by rw [← hW9]; exact (by repeat (first | exact Ext.refl _ | refine Ext.alloc ?_ _ | refine Ext.more ?_ _ _ | refine Ext.drew ?_ | refine Ext.drewN ?_ _ | refine Ext.setCell ?_ (by simp <;> omega) _)))
    have GA : W9.heap[w.heap.size + 1]? = some (.cells #[.int .i64 a.1, .int .i64 a.2.slot, .int .i64 a.2.lo, .int .i64 a.2.hi, .int .i64 a.2.age, .int .i64 a.2.lev] 63) := by rw [← hW9]; show (World.alloc (World.alloc _ _) _).heap[_]? = _; exact (by simp only [heap_alloc_get, World.size_alloc]; (repeat (split; (first | rfl | (exfalso; omega)))); (try (first | (exfalso; omega) | simp_all)))
    have GB : W9.heap[w.heap.size]? = some (.cells #[.int .i64 b.1, .int .i64 b.2.slot, .int .i64 b.2.lo, .int .i64 b.2.hi, .int .i64 b.2.age, .int .i64 b.2.lev] 63) := by rw [← hW9]; show (World.alloc (World.alloc _ _) _).heap[_]? = _; exact (by simp only [heap_alloc_get, World.size_alloc]; (repeat (split; (first | rfl | (exfalso; omega)))); (try (first | (exfalso; omega) | simp_all)))
    have d0 := (HH.out.ext X9.out).cell.1
    have dp := (HH.out.ext X9.out).lt
    unfold Od.V ordV at d0
    have a0 := cell_of_row _ _ 0 _ _ _ GA
    have a1 := cell_of_row _ _ 1 _ _ _ GA
    have a2 := cell_of_row _ _ 2 _ _ _ GA
    have a3 := cell_of_row _ _ 3 _ _ _ GA
    have a4 := cell_of_row _ _ 4 _ _ _ GA
    have a5 := cell_of_row _ _ 5 _ _ _ GA
    have b0 := cell_of_row _ _ 0 _ _ _ GB
    have b1 := cell_of_row _ _ 1 _ _ _ GB
    have b2 := cell_of_row _ _ 2 _ _ _ GB
    have b3 := cell_of_row _ _ 3 _ _ _ GB
    have b4 := cell_of_row _ _ 4 _ _ _ GB
    have b5 := cell_of_row _ _ 5 _ _ _ GB
    have la := lt_of_heap GA
    have lb := lt_of_heap GB
    simp at a0 a1 a2 a3 a4 a5 b0 b1 b2 b3 b4 b5
    obtain ⟨r, hr⟩ : ∃ r, cmpD o.k a.2 b.2 = r := ⟨_, rfl⟩
    have C := fun V (x : Ext W9 V) => cmpD_any o.k a.2 b.2 o.bl o.bv o.bw V (OrdAt.ext (OrdAt.ext HO.out X9.out) x)
    rw [hr] at C
    unfold agD at C
    have HC := Lib.hid C
    have HR : Hid (ltI o.k a b = if r = 0 then decide (a.1 < b.1) else decide (r < 0)) := Lib.hid (by unfold ltI; rw [hr])
    clear C hr
    rw [hW9]
    clear hW9 GA GB c0 c1 hp i0 i1 i2 i3 i4 i5 m0 m1 m2 m3 m4 m5 hg
    go_upto_region 2 with fail
    refine wp_region_bt (10) (softs_bt [0, 1, 2, 3, 4, 5, 6, 7] (.step 8 (softs_bt [9] .fin))) (by kernel_rfl) (by kernel_rfl) ?_
    (refine bt_softs _ fun K hK => ?_); (simp only [pick, nthC]); (repeat (go_big_quiet_step (fail))); (refine wpQuiet_nil (hK _ ?_)); (clear hK K)
    (refine bt_step fun next hn => ?_); (simp only [pick, nthC])
    go_wp2_with fail
    refine (HC.out _ (by repeat (first | exact Ext.refl _ | refine Ext.alloc ?_ _ | refine Ext.more ?_ _ _ | refine Ext.drew ?_ | refine Ext.drewN ?_ _ | refine Ext.setCell ?_ (by simp <;> omega) _))).mono ?_
    rintro e V1 ⟨rfl, hv1⟩
    have Y1 : Hid (Ext W9 V1) := Lib.hid (Ext.trans (by repeat (first | exact Ext.refl _ | refine Ext.alloc ?_ _ | refine Ext.more ?_ _ _ | refine Ext.drew ?_ | refine Ext.drewN ?_ _ | refine Ext.setCell ?_ (by simp <;> omega) _)) hv1)
    have f0 := (ext_cell a0 la Y1.out)
    have f1 := (ext_cell b0 lb Y1.out)
    have l1 := Nat.lt_of_lt_of_le la Y1.out.size
    have l2 := Nat.lt_of_lt_of_le lb Y1.out.size
    clear hv1
    go_wp2_with fail
    refine segQ_mk (fun _ => laid Y1.out) (hn _ _ ?_)
    clear hn next
    (refine bt_softs _ fun K hK => ?_); (simp only [pick, nthC]); (repeat (go_big_quiet_step (fail))); (refine wpQuiet_nil (hK _ ?_)); (clear hK K)
    (refine bt_fin ?_)
    rcases (show r = 0 ∨ (r ≠ 0 ∧ r < 0) ∨ (r ≠ 0 ∧ ¬ r < 0) by omega) with rfl | ⟨h1, h2⟩ | ⟨h1, h2⟩
    · rw [if_pos rfl] at HR
      go_wp2_with fail
      go_ret
      exact ⟨ret_bool HR.out.symm, X9.out.trans Y1.out⟩
    · have z1 : (r == 0) = false := by simpa using h1
      have z2 : decide (r < 0) = true := decide_eq_true h2
      rw [if_neg h1, z2] at HR
      clear h1 h2
      go_wp2_with fail
      go_ret
      exact ⟨ret_bool HR.out.symm, X9.out.trans Y1.out⟩
    · have z1 : (r == 0) = false := by simpa using h1
      have z2 : decide (r < 0) = false := decide_eq_false h2
      rw [if_neg h1, z2] at HR
      clear h1 h2
      go_wp2_with fail
      go_ret
      exact ⟨ret_bool HR.out.symm, X9.out.trans Y1.out⟩
end Go.Proofs.Ytmgpofdmfmeljaa
