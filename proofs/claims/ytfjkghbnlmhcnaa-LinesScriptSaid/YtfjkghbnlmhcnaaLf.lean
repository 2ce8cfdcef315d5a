/- The contract of an index's Edit, given that of slices.Replace: the walk. -/
import Derived.Test.YtfjkghbnlmhcnaaLe
import Derived.WalkSpells
import Derived.WalkLawsBesides
import Derived.BigRegion
import Derived.Deep.RegionWith
import Derived.Deep.QuietTactic
import Derived.Deep.DeepCutAuto
import Derived.Deep.RegionHeld3
import Derived.Deep.RegionLaw
import Derived.BigQuiet
import Derived.Lib.Hide
namespace Go.Proofs.Ytfjkghbnlmhcnaa
open Go.RowKit
attribute [local go_sem] more_drew more_drewN more_size more_cell more_frozen more_setCell drew_more drewN_more lt_add_r lt_add_r2 lt_add_r3 lt_add_r4 lt_add_r5 lt_add_r6 lt_add_r7 lt_add_r8 lt_add_r9 lt_add_r10 lt_self_r lt_self_r2

theorem blk_own {A : Option Addr} {n c b : Nat} (h : blkOf A = some b) : (Value.slice A n c).ownBlock = some b := by
  cases A with
  | none => cases h
  | some a => exact h
theorem OwnI.frozen {w : World} {base g c : Nat} {xs : List Int} (h : OwnI w base (some ⟨g, 0, none⟩) c xs) (k : Nat) : w.frozen? ⟨g, k, none⟩ = false := by
  obtain ⟨cur, h2⟩ := own_obj h g rfl
  simp [World.frozen?, h2]
theorem idx_not_row {w : World} {base g c : Nat} {A : Option Addr} {xs : List Int} {cs : Array Value} (h : OwnI w base A c xs) (hg : w.heap[g]? = some (.cells cs 68)) : blkOf A ≠ some g := fun he => by
  obtain ⟨cur, h2⟩ := own_obj h g (blk_own he)
  rw [hg] at h2
  injection h2 with h2
  injection h2 with _ h2
  exact absurd h2 (by decide)
section
variable {w : World} {base g : Nat} {xs ys : List Int} {n : Nat}
set_option maxRecDepth 100000 in
set_option maxHeartbeats 2000000 in
theorem edit_ok (a d i j : Nat) (f1 f2 : Bool) (s : ByteArray) (h : IdxAt w base g xs n) (hb : base ≤ w.heap.size) (hm : Mono xs) (hn : n ≤ 65536) (hl : xs.length ≤ 1000000) (had : a + d ≤ n) (hs : s.size ≤ 65536) (hns : n - d + s.size ≤ 65536)
    (hi : FoundAt xs ((a : Int) + 1) i f1) (hj : FoundAt xs ((a : Int) + d + 1) j f2) (hr : RepOk base xs (behF a s.data.toList) ys i j) (hm2 : i + (behF 0 s.data.toList).length ≤ ys.length) (hyl : ys.length ≤ 1000000) (hyb : ∀ y ∈ ys, 0 ≤ y ∧ y ≤ 1000000) :
    Calls Try.prog 15 #[pt g, .agg #[.int .i64 a, .int .i64 d, .int .i64 s.size], .string s] w (EditRet w base g ys (i + (behF 0 s.data.toList).length) ((s.size : Int) - d) (n - d + s.size)) := by
  obtain ⟨bl, hbl⟩ : ∃ bl, (behF 0 s.data.toList).length = bl := ⟨_, rfl⟩
  rw [hbl] at hm2 ⊢
  have HBL := Lib.hid hbl
  clear hbl
  have H := Lib.hid h
  have HM := Lib.hid hm
  have HI := Lib.hid hi
  have HJ := Lib.hid hj
  have HR := Lib.hid hr
  have HYB := Lib.hid hyb
  clear h hm hi hj hr hyb
  obtain ⟨A, c, h1, h2, h3⟩ := H.out
  have HG1 := Lib.hid h1
  have HO1 := Lib.hid h2
  have HGB := Lib.hid h3
  obtain ⟨i1, i2, i3, i4⟩ := h2.ints
  unfold maxLen at i3
  have HI1 := Lib.hid i1
  have k0 := cell_of_row _ _ 0 _ _ _ h1
  have k1 := cell_of_row _ _ 1 _ _ _ h1
  simp at k0 k1
  have lg := lt_of_heap h1
  clear h1 h2 h3 i1 i4
  go_enter Try.func15, Try.ntmps15
  go_upto_region 3 with fail
  obtain ⟨bx, hbx⟩ : ∃ bx, w.heap.size = bx := ⟨_, rfl⟩
  obtain ⟨W1, hW1⟩ : ∃ W1, w.alloc (.cells #[.int .i64 a, .int .i64 d, .int .i64 s.size] 34) = W1 := ⟨_, rfl⟩
  have X1 : Hid (Ext w W1) := Lib.hid (by rw [← hW1]; exact (by repeat (first | exact Ext.refl _ | refine Ext.alloc ?_ _ | refine Ext.more ?_ _ _ | refine Ext.drew ?_ | refine Ext.drewN ?_ _ | refine Ext.setCell ?_ (by simp <;> omega) _)))
  have B1 : W1.heap[bx]? = some (.cells #[.int .i64 a, .int .i64 d, .int .i64 s.size] 34) := by rw [← hW1, ← hbx]; exact heap_alloc_new _ _
  have G1 := ext_block HG1.out X1.out
  have HB1 := Lib.hid B1
  have HG2 := Lib.hid G1
  have HBX := Lib.hid hbx
  rw [hW1, hbx]
  have e0 := cell_of_row _ _ 0 _ _ _ B1
  have e1 := cell_of_row _ _ 1 _ _ _ B1
  have e2 := cell_of_row _ _ 2 _ _ _ B1
  simp at e0 e1 e2
  have le := lt_of_heap B1
  clear k0 k1 lg
  have k0 := cell_of_row _ _ 0 _ _ _ G1
  have k1 := cell_of_row _ _ 1 _ _ _ G1
  simp at k0 k1
  have lg := lt_of_heap G1
  clear B1 G1 hW1 hbx
  have q0 : decide ((a : Int) < 0) = false := decide_eq_false (by omega)
  have q1 : decide ((d : Int) < 0) = false := decide_eq_false (by omega)
  have q2 : decide (n < a) = false := decide_eq_false (by omega)
  have q3 : decide ((n : Int) - a < d) = false := decide_eq_false (by omega)
  have w1 : IntKind.i64.wrap ((n : Int) - a) = n - a := IntWalk.i64_in _ (by omega)
  refine wp_region_bt (37) (softs_bt [0, 1, 2, 3, 4, 5, 6, 7, 8, 9, 10, 11, 12, 13, 14, 15, 16, 17, 18, 19, 20, 21, 22, 23, 24, 25, 26, 27, 28, 29, 30, 31, 32, 33, 34, 35, 36] .fin) (by kernel_rfl) (by kernel_rfl) ?_
  (refine bt_softs _ fun K hK => ?_); (simp only [pick, nthC]); (repeat (go_big_quiet_step (fail))); (refine wpQuiet_nil (hK _ ?_)); (clear hK K)
  (refine bt_fin ?_)
  clear q0 q1 q2 q3 w1
  have w2 : IntKind.i64.wrap ((n : Int) - d) = n - d := IntWalk.i64_in _ (by omega)
  have w3 : IntKind.i64.wrap ((n : Int) - d + s.size) = n - d + s.size := IntWalk.i64_in _ (by omega)
  have q4 : decide ((65536 : Int) < (n : Int) - d + s.size) = false := decide_eq_false (by omega)
  go_upto_region 5 with fail
  refine wp_region_bt (12) (softs_bt [0, 1, 2, 3, 4, 5, 6, 7, 8, 9, 10, 11] .fin) (by kernel_rfl) (by kernel_rfl) ?_
  (refine bt_softs _ fun K hK => ?_); (simp only [pick, nthC]); (repeat (go_big_quiet_step (fail))); (refine wpQuiet_nil (hK _ ?_)); (clear hK K)
  (refine bt_fin ?_)
  clear w2 w3 q4
  go_upto_region 7 with fail
  have w4 : IntKind.i64.wrap ((a : Int) + 1) = a + 1 := IntWalk.i64_in _ (by omega)
  have CS := Lib.hid (fun (x : Lay) => search_fix A c (more W1.drew.drew x.os x.k) (HI1.out.ext (X1.out.trans ⟨x.os, x.k, by rw [drew_more, drew_more]⟩)) hl i2 HM.out HI.out)
  refine wp_region_ext (by kernel_rfl) (by kernel_rfl) ?_
  repeat (go_big_quiet_step ((go_at_call 42; exact calls_ext_same (CS.out _))))
  refine wpQuiet_nil ?_
  intro _ hw'
  obtain ⟨x9, rfl⟩ := hw'
  have HX2 : Hid (Ext W1 (more W1.drew.drew x9.os x9.k)) := Lib.hid ⟨x9.os, x9.k, by rw [drew_more, drew_more]⟩
  obtain ⟨W2, hW2⟩ : ∃ W2, more W1.drew.drew x9.os x9.k = W2 := ⟨_, rfl⟩
  rw [hW2] at HX2 ⊢
  clear hW2 w4 CS k0 k1 lg e0 e1 e2 le
  have B2 := ext_block HB1.out HX2.out
  have G2 := ext_block HG2.out HX2.out
  have e0 := cell_of_row _ _ 0 _ _ _ B2
  have e1 := cell_of_row _ _ 1 _ _ _ B2
  have e2 := cell_of_row _ _ 2 _ _ _ B2
  have k0 := cell_of_row _ _ 0 _ _ _ G2
  have k1 := cell_of_row _ _ 1 _ _ _ G2
  simp at e0 e1 e2 k0 k1
  have le := lt_of_heap B2
  have lg := lt_of_heap G2
  have HB2 := Lib.hid B2
  have HG3 := Lib.hid G2
  clear B2 G2
  have w4 : IntKind.i64.wrap ((a : Int) + d) = a + d := IntWalk.i64_in _ (by omega)
  have w5 : IntKind.i64.wrap ((a : Int) + d + 1) = a + d + 1 := IntWalk.i64_in _ (by omega)
  have CS := Lib.hid (fun (x : Lay) => search_fix A c (more W2 x.os x.k) (HI1.out.ext (X1.out.trans (HX2.out.trans ⟨x.os, x.k, rfl⟩))) hl i2 HM.out HJ.out)
  go_upto_region 8 with fail
  refine wp_region_ext (by kernel_rfl) (by kernel_rfl) ?_
  repeat (go_big_quiet_step ((go_at_call 42; exact calls_ext_same (CS.out _))))
  refine wpQuiet_nil ?_
  intro _ hw'
  obtain ⟨x10, rfl⟩ := hw'
  have HX3 : Hid (Ext W1 (more W2 x10.os x10.k)) := Lib.hid (HX2.out.trans ⟨x10.os, x10.k, rfl⟩)
  obtain ⟨W3, hW3⟩ : ∃ W3, more W2 x10.os x10.k = W3 := ⟨_, rfl⟩
  rw [hW3] at HX3 ⊢
  clear hW3 w4 w5 CS k0 k1 lg e0 e1 e2 le
  have HB3 := Lib.hid (ext_block HB1.out HX3.out)
  have HG4 := Lib.hid (ext_block HG2.out HX3.out)
  go_upto_region 9 with fail
  have KX : Hid (∀ x : EdS W3 g bx, x.V.cell? ⟨g, 0, none⟩ = some (.slice A xs.length c) ∧ g < x.V.heap.size ∧ x.V.cell? ⟨bx, 0, none⟩ = some (.int .i64 a) ∧ bx < x.V.heap.size) := Lib.hid fun x => by
    have h1 := x.idx.trans HG4.out
    have h2 := x.box.trans HB3.out
    exact ⟨by simpa using cell_of_row _ _ 0 _ _ _ h1, lt_of_heap h1, by simpa using cell_of_row _ _ 0 _ _ _ h2, lt_of_heap h2⟩
  have kx0 := fun x => (KX.out x).1
  have kx1 := fun x => (KX.out x).2.1
  have kx2 := fun x => (KX.out x).2.2.1
  have kx3 := fun x => (KX.out x).2.2.2
  refine wp_region_btC (T := EdS W3 g bx) EdS.V (14) (softs_bt [0, 1, 2, 3, 4, 5, 6, 7, 8, 9] (.step 10 (.step 11 (softs_bt [12, 13] (.step 14 .fin))))) (by kernel_rfl) (by kernel_rfl) ⟨⟨W3.drew, rfl, rfl⟩, rfl⟩ ?_
  (refine bt_softs _ fun K hK => ?_); (simp only [pick, nthC]); (repeat (go_big_quiet_step (fail))); (refine wpQuiet_nil (hK _ ?_)); (clear hK K)
  clear kx0 kx1 kx2 kx3
  (refine bt_step fun next hn => ?_); (simp only [pick, nthC])
  go_wp2_with fail
  refine (behind_any s a _ (by omega) (by omega)).mono ?_
  rintro e W4 ⟨B4, c4, rfl, ho4, hx4⟩
  have HX4 : Hid (Ext W3 W4) := Lib.hid (Ext.trans (by repeat (first | exact Ext.refl _ | refine Ext.alloc ?_ _ | refine Ext.more ?_ _ _ | refine Ext.drew ?_ | refine Ext.drewN ?_ _ | refine Ext.setCell ?_ (by simp <;> omega) _)) hx4)
  have HO4 : Hid (OwnI W4 base B4 c4 (behF a s.data.toList)) := Lib.hid (ho4.base (by have := (X1.out.trans HX3.out).size; show base ≤ W3.heap.size; omega))
  have HSEP : Hid (∀ b, blkOf A = some b → blkOf B4 ≠ some b) := Lib.hid fun b h1 h2 => by
    have a1 := own_old HO1.out b (blk_own h1)
    have a2 := own_block ho4 b (blk_own h2)
    have a3 := (X1.out.trans HX3.out).size
    have a4 : W3.heap.size ≤ b := a2
    omega
  have HG5 := Lib.hid (ext_block HG4.out HX4.out)
  have HB5 := Lib.hid (ext_block HB3.out HX4.out)
  have HO5 := Lib.hid (HO1.out.ext (X1.out.trans (HX3.out.trans HX4.out)))
  clear ho4 hx4
  go_wp2_with fail
  refine segQ_mk (fun _ => ⟨⟨W4, HG5.out.trans HG4.out.symm, HB5.out.trans HB3.out.symm⟩, rfl⟩) (hn _ _ ?_)
  clear hn next
  (refine bt_step fun next hn => ?_); (simp only [pick, nthC])
  go_wp2_with fail
  refine (HR.out W4 A c B4 c4 HO5.out HO4.out HSEP.out (by have := (X1.out.trans (HX3.out.trans HX4.out)).size; omega)).mono ?_
  rintro e W6 ⟨A6, c6, rfl, ho6, ht6, hb6⟩
  have HBK := Lib.hid hb6
  clear hb6
  have hgW4 := lt_of_heap HG5.out
  have hbW4 := lt_of_heap HB5.out
  have HG6 : Hid (W6.heap[g]? = some (.cells #[.slice A xs.length c, .int .i64 n] 68)) := Lib.hid ((ht6.block g hgW4 (fun h => h.elim (idx_not_row HO5.out HG5.out) (by omega))).trans HG5.out)
  have HB6 : Hid (W6.heap[bx]? = some (.cells #[.int .i64 a, .int .i64 d, .int .i64 s.size] 34)) := Lib.hid ((ht6.block bx hbW4 (fun h => h.elim (fun h => by
    have := own_old HO1.out bx (blk_own h)
    have := HBX.out
    omega) (by omega))).trans HB5.out)
  have HT6 := Lib.hid ht6
  have HO6 := Lib.hid ho6
  clear ho6 ht6 hgW4 hbW4
  go_wp2_with fail
  refine segQ_mk (fun _ => ⟨⟨W6, HG6.out.trans HG4.out.symm, HB6.out.trans HB3.out.symm⟩, rfl⟩) (hn _ _ ?_)
  clear hn next
  (refine bt_softs _ fun K hK => ?_); (simp only [pick, nthC]); (repeat (go_big_quiet_step (fail))); (refine wpQuiet_nil (hK _ ?_)); (clear hK K)
  (refine bt_step fun next hn => ?_); (simp only [pick, nthC])
  have lg := lt_of_heap HG6.out
  have f0 : W6.frozen? ⟨g, 0, none⟩ = false := by simp [World.frozen?, HG6.out]
  have k0 := cell_of_row _ _ 0 _ _ _ HG6.out
  simp at k0
  go_wp2_with fail
  refine segQ_mk (fun h => absurd rfl h) (hn _ _ ?_)
  clear hn next k0 f0 lg
  (refine bt_fin ?_)
  obtain ⟨W7, hW7⟩ : ∃ W7, W6.setCell ⟨g, 0, none⟩ (.slice A6 ys.length c6) = W7 := ⟨_, rfl⟩
  have hg6 := lt_of_heap HG6.out
  have hb6 := lt_of_heap HB6.out
  have hgb : bx ≠ g := by
    rintro rfl
    have := HG6.out.symm.trans HB6.out
    injection this with this
    injection this with _ this
    exact absurd this (by decide)
  have hg7 : W7.heap[g]? = some (.cells #[.slice A6 ys.length c6, .int .i64 n] 68) := by rw [← hW7]; simp [World.setCell, Array.getElem?_modify, HG6.out]
  have hb7 : W7.heap[bx]? = some (.cells #[.int .i64 a, .int .i64 d, .int .i64 s.size] 34) := by rw [← hW7]; simp [World.setCell, Array.getElem?_modify, HB6.out, Ne.symm hgb]
  have ho7 : OwnI W7 base A6 c6 ys := own_keep HO6.out fun b hb => by
    have hne : g ≠ b := fun e => by
      obtain ⟨cur, h2⟩ := own_obj HO6.out b hb
      rw [← e, HG6.out] at h2
      injection h2 with h2
      injection h2 with _ h2
      exact absurd h2 (by decide)
    rw [← hW7]
    simp [World.setCell, Array.getElem?_modify, hne]
  have HS : Hid (∀ k, blkOf A = some k → RowAt w g k) := Lib.hid fun k hk => ⟨A, _, c, _, _, HG1.out, hk⟩
  have ht7 : Turn (fun k => k = g ∨ RowAt w g k ∨ w.heap.size ≤ k) w W7 := by
    have X4 := X1.out.trans (HX3.out.trans HX4.out)
    have s4 := X4.size
    rw [← hW7]
    exact (((Turn.of_ext X4).trans (HT6.out.mono fun k _ hk => hk.elim (fun h => .inr (.inl (HS.out k h))) (fun h => .inr (.inr (by omega))))).trans (Turn.setCell W6 (p := ⟨g, 0, none⟩) (.inl rfl) _))
  have HRR : Hid (∀ b, RowAt W7 g b → RowAt w g b ∨ w.heap.size ≤ b) := Lib.hid fun b hb => by
    have s4 := (X1.out.trans (HX3.out.trans HX4.out)).size
    exact (HBK.out b (RowAt.of hg7 hb)).elim (fun h => .inl (HS.out b h)) (fun h => .inr (by omega))
  have HI7 : Hid (IdxAt W7 base g ys n) := Lib.hid ⟨A6, c6, hg7, ho7, HGB.out⟩
  have HT7 := Lib.hid ht7
  have HB7 := Lib.hid hb7
  rw [hW7]
  clear hW7 hg6 hb6 hg7 hb7 ho7 ht7 HG6 HB6 HO6 HT6 HG5 HB5 HO5 HO4 HSEP HX4 KX
  go_wp2_with fail
  refine (behind_any s 0 _ (by omega) (by omega)).mono ?_
  rintro e W8 ⟨B8, c8, rfl, ho8, hx8⟩
  rw [HBL.out]
  have HI8 := Lib.hid (HI7.out.ext hx8)
  have HT8 := Lib.hid (HT7.out.trans (Turn.of_ext hx8))
  have HB8 := Lib.hid (ext_block HB7.out hx8)
  have HR8 : Hid (∀ b, RowAt W8 g b → RowAt w g b ∨ w.heap.size ≤ b) := Lib.hid fun b hb => by
    obtain ⟨A9, c9, g9, _⟩ := HI7.out
    exact HRR.out b ⟨A9, _, c9, _, _, g9, RowAt.of (ext_block g9 hx8) hb⟩
  clear ho8 hx8 HI7 HT7 HB7
  go_wp2_with fail
  go_loopw [11] (fun v wr => ∃ (k : Nat) (zs : List Int), i + bl ≤ k ∧ k ≤ ys.length ∧ v = .int .i64 k ∧ Hid (ShiftTo ys (i + bl) k ((s.size : Int) - d) zs) ∧ Hid (IdxAt wr base g zs n) ∧ Hid (wr.heap[bx]? = some (.cells #[.int .i64 a, .int .i64 d, .int .i64 s.size] 34)) ∧ Hid (Turn (fun k => k = g ∨ RowAt w g k ∨ w.heap.size ≤ k) w wr) ∧ Hid (∀ b, RowAt wr g b → RowAt w g b ∨ w.heap.size ≤ b)) (fun v _ => ys.length - (intOf v).toNat)
  case atStart => exact ⟨i + bl, ys, Nat.le_refl _, hm2, by go_num, Lib.hid (ShiftTo.start _ _ _), HI8, HB8, HT8, HR8⟩
  case round =>
    obtain ⟨k, zs, hk1, hk2, rfl, hs2, hid, hbd, htt, hrr⟩ := hrel
    obtain ⟨A9, c9, g9, o9, _⟩ := hid.out
    have HG9 := Lib.hid g9
    have HO9 := Lib.hid o9
    have hzl := hs2.out.1
    obtain ⟨_, z1, z2, _⟩ := o9.ints
    unfold maxLen at z2
    have k0 := cell_of_row _ _ 0 _ _ _ g9
    have k1 := cell_of_row _ _ 1 _ _ _ g9
    have e0 := cell_of_row _ _ 0 _ _ _ hbd.out
    have e1 := cell_of_row _ _ 1 _ _ _ hbd.out
    have e2 := cell_of_row _ _ 2 _ _ _ hbd.out
    simp at k0 k1 e0 e1 e2
    have lg := lt_of_heap g9
    have le := lt_of_heap hbd.out
    have f1 : wr.frozen? ⟨g, 1, none⟩ = false := by simp [World.frozen?, g9]
    rw [hzl] at k0 z1
    have HZL := Lib.hid hzl
    clear g9 o9 hzl
    have w1 : IntKind.i64.wrap ((s.size : Int) - d) = s.size - d := IntWalk.i64_in _ (by omega)
    by_cases hlt : k < ys.length
    · obtain ⟨y, hy⟩ : ∃ y, ys[k]? = some y := ⟨_, List.getElem?_eq_getElem hlt⟩
      obtain ⟨hzk, hst⟩ := hs2.out.step hy hk1
      have HST := Lib.hid hst
      have hyb := HYB.out y (List.mem_of_getElem? hy)
      obtain ⟨b, off, rfl, hb9, hcell⟩ := HO9.out.ints.1 (by rw [HZL.out]; omega)
      obtain ⟨hof⟩ : off = 0 ∧ True := by
        obtain ⟨_, h2⟩ := HO9.out
        rcases h2 with ⟨h2, _⟩ | ⟨g', cap, cur, h2, _⟩
        · cases h2
        · injection h2 with a1
          injection a1 with a1
          injection a1 with _ a2
          exact ⟨a2, trivial⟩
      subst hof
      have d0 := hcell k (by rw [HZL.out]; exact hlt)
      rw [List.getD_eq_getElem?_getD, hzk, Nat.zero_add] at d0
      dsimp only [Option.getD_some] at d0
      have fz := HO9.out.frozen k
      have w2 : IntKind.i64.wrap (y + ((s.size : Int) - d)) = y + (s.size - d) := IntWalk.i64_in _ (by omega)
      have hne : b ≠ g := fun e => idx_not_row HO9.out HG9.out (by rw [e]; rfl)
      have HNE := Lib.hid hne
      clear hcell hy hzk hst hne
      go_upto_region 13 with fail
      refine wp_region_bt (14) (softs_bt [0, 1, 2, 3, 4, 5, 6, 7, 8, 9, 10, 11, 12, 13] (.step 14 .fin)) (by kernel_rfl) (by kernel_rfl) ?_
      (refine bt_softs _ fun K hK => ?_); (simp only [pick, nthC]); (repeat (go_big_quiet_step (fail))); (refine wpQuiet_nil (hK _ ?_)); (clear hK K)
      (refine bt_step fun next hn => ?_); (simp only [pick, nthC])
      go_wp2_with fail
      refine segQ_mk (fun h => absurd rfl h) (hn _ _ ?_)
      clear hn next
      (refine bt_fin ?_)
      go_wp2_with fail
      go_roundw
      case rel =>
        have hr : RowAt w g b ∨ w.heap.size ≤ b := hrr.out b ⟨_, _, c9, _, _, HG9.out, rfl⟩
        have hgn : (wr.setCell ⟨b, k, none⟩ (.int .i64 (y + ((s.size : Int) - d)))).heap[g]? = some (.cells #[.slice (some ⟨b, 0, none⟩) zs.length c9, .int .i64 n] 68) := by simp [World.setCell, Array.getElem?_modify, HG9.out, HNE.out]
        refine ⟨k + 1, zs.set k (y + (s.size - d)), by omega, by omega, by go_num, HST, Lib.hid ⟨some ⟨b, 0, none⟩, c9, ?_, (HO9.out.ext (Ext.refl wr).drew).set k _, HGB.out⟩, Lib.hid ?_, Lib.hid ((htt.out.trans (Turn.of_ext (Ext.refl wr).drew)).trans (Turn.setCell wr.drew (p := ⟨b, k, none⟩) (.inr hr) _)), Lib.hid fun b' hb' => hrr.out b' ⟨_, _, c9, _, _, HG9.out, RowAt.of hgn hb'⟩⟩
        · rw [List.length_set]
          exact hgn
        · have hne : b ≠ bx := fun e => by
            obtain ⟨cur, h2⟩ := own_obj HO9.out b rfl
            rw [e, hbd.out] at h2
            injection h2 with h2
            injection h2 with _ h2
            exact absurd h2 (by decide)
          show (wr.setCell ⟨b, k, none⟩ (.int .i64 (y + ((s.size : Int) - d)))).heap[bx]? = _
          simp [World.setCell, Array.getElem?_modify, hbd.out, hne]
      case measure => simp [intOf]; omega
    · obtain rfl : k = ys.length := by omega
      have w3 : IntKind.i64.wrap ((n : Int) + ((s.size : Int) - d)) = ((n - d + s.size : Nat) : Int) := (IntWalk.i64_in _ (by omega)).trans (by omega)
      clear e0
      go_upto_region 14 with fail
      refine wp_region_bt (12) (softs_bt [0, 1, 2, 3, 4, 5, 6, 7, 8, 9, 10, 11] (.step 12 .fin)) (by kernel_rfl) (by kernel_rfl) ?_
      (refine bt_softs _ fun K hK => ?_); (simp only [pick, nthC]); (repeat (go_big_quiet_step (fail))); (refine wpQuiet_nil (hK _ ?_)); (clear hK K)
      (refine bt_step fun next hn => ?_); (simp only [pick, nthC])
      go_wp2_with fail
      refine segQ_mk (fun h => absurd rfl h) (hn _ _ ?_)
      clear hn next
      (refine bt_fin ?_)
      go_wp2_with fail
      go_ret
      refine ⟨zs, rfl, hs2.out, ⟨A9, c9, ?_, own_keep HO9.out fun b hb => ?_, HGB.out⟩, (htt.out.trans (Turn.of_ext (Ext.refl wr).drew)).trans (Turn.setCell wr.drew (p := ⟨g, 1, none⟩) (.inl rfl) _)⟩
      · show (wr.setCell ⟨g, 1, none⟩ _).heap[g]? = _
        simp [World.setCell, Array.getElem?_modify, HG9.out]
      · have hne : g ≠ b := fun e => by
          obtain ⟨cur, h2⟩ := own_obj HO9.out b hb
          rw [← e, HG9.out] at h2
          injection h2 with h2
          injection h2 with _ h2
          exact absurd h2 (by decide)
        show (wr.setCell ⟨g, 1, none⟩ _).heap[b]? = _
        simp [World.setCell, Array.getElem?_modify, hne]
end
end Go.Proofs.Ytfjkghbnlmhcnaa
