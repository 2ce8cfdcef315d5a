/- ReuseNames: the walk. -/
import Derived.Test.YtaffaeompdlecaaH5
import Derived.WalkSpells
import Derived.WalkLawsBesides
import Derived.BigRegion
import Derived.Deep.RegionWith
import Derived.Deep.QuietTactic
import Derived.Deep.DeepCutAuto
import Derived.Deep.RegionHeld3
import Derived.Deep.RegionLaw
import Derived.BigQuiet
import Derived.Lib.Hide
namespace Go.Proofs.Ytaffaeompdlecaa
open Go.RowKit
attribute [local go_sem] more_drew more_drewN more_size more_cell more_frozen more_setCell drew_more drewN_more lt_add_r lt_add_r2 lt_add_r3 lt_add_r4 lt_add_r5 lt_add_r6 lt_add_r7 lt_add_r8 lt_add_r9 lt_add_r10 lt_self_r lt_self_r2

/-- the chapter's tree, its token met -/
def exM1 : List Nd := [⟨-3, 1, 0, 0, 2, 1, [1, 3], 0⟩, ⟨1, 2, 0, 0, 2, 3, [2], 0⟩, ⟨0, 3, 0, 0, 2, 4, [], 1⟩, ⟨-2, 6, 2, 2, 2, 3, [], 0⟩]
def exQ1 (b : Nat) : List Prt := [⟨⟨-3, 1, 0, 0, 2, 1, [1, 3], 0⟩, some ⟨b, 0, none⟩, 2⟩, ⟨⟨1, 2, 0, 0, 2, 3, [2], 0⟩, some ⟨b + 1, 0, none⟩, 1⟩, ⟨⟨0, 3, 0, 0, 2, 4, [], 1⟩, none, 0⟩, ⟨⟨-2, 6, 2, 2, 2, 3, [], 0⟩, none, 0⟩]
theorem exQ1_nds (b : Nat) : nds (exQ1 b) = exM1 := rfl
theorem exM1_kc (j : Nat) : kc exM1 0 j ≤ 1000000 := Nat.le_trans (kc_all exM1 j) (by decide)
theorem exM1_tree : Tree exM1 := by
  refine ⟨fun i p h => ?_, ?_, fun p hp => ?_⟩
  · rcases get4 h with ⟨rfl, rfl⟩ | ⟨rfl, rfl⟩ | ⟨rfl, rfl⟩ | ⟨rfl, rfl⟩ <;> exact ⟨by decide, by decide⟩
  · refine Trek.one (p := ⟨-3, 1, 0, 0, 2, 1, [1, 3], 0⟩) rfl ?_
    refine Trek.cons (l := exM1) ⟨1, 2, 0, 0, 2, 3, [2], 0⟩ [3] 1 3 true 4 rfl ?_ ?_
    · exact Trek.one (l := exM1) (n := 2) (p := ⟨0, 3, 0, 0, 2, 4, [], 1⟩) rfl (.nil 3)
    · exact Trek.one (l := exM1) (n := 3) (p := ⟨-2, 6, 2, 2, 2, 3, [], 0⟩) rfl (.nil 4)
  · have : ∀ p ∈ exM1, liesB exM1 p.hi p.lo p.kids = true := by decide
    exact this p hp
theorem exM1_stale : StaleOk exM1 [true, true, true, false] := by
  refine ⟨rfl, fun j p h => ?_⟩
  rcases get4 h with ⟨rfl, rfl⟩ | ⟨rfl, rfl⟩ | ⟨rfl, rfl⟩ | ⟨rfl, rfl⟩ <;> rfl
theorem exM1_gs : GsOk exM1 [] := ⟨fun _ => ⟨_, exM1_stale, .skip 0 ⟨-3, 1, 0, 0, 2, 1, [1, 3], 0⟩ _ rfl (.inl (by decide)) (.skip 1 ⟨1, 2, 0, 0, 2, 3, [2], 0⟩ _ rfl (.inr rfl) (.skip 2 ⟨0, 3, 0, 0, 2, 4, [], 1⟩ _ rfl (.inl (by decide)) (.skip 3 ⟨-2, 6, 2, 2, 2, 3, [], 0⟩ _ rfl (.inl (by decide)) (.done 4 (Nat.le_refl _)))))⟩, fun _ => rfl⟩
theorem exM1_no : ¬ ∃ k m, TakeOk exM1 1 0 k m := by
  rintro ⟨k, m, _, ⟨q, h1, h2, _⟩, _, _, st, hst, hs⟩
  rcases get4 h1 with ⟨rfl, rfl⟩ | ⟨rfl, rfl⟩ | ⟨rfl, rfl⟩ | ⟨rfl, rfl⟩
  · exact absurd h2 (by decide)
  · rw [StaleOk.one exM1_tree hst exM1_stale] at hs
    cases hs
  · exact absurd h2 (by decide)
  · exact absurd h2 (by decide)
theorem exM_take : TakeOk exM 1 0 1 3 := by
  refine ⟨exM_tree, ⟨⟨1, 2, 0, 0, 2, 3, [2], 0⟩, rfl, by decide, rfl⟩, fun i q hi hq => ?_, exM_part, _, exM_stale, rfl⟩
  obtain rfl : i = 0 := by omega
  injection hq with hq
  subst hq
  decide
theorem exM_no : ¬ ∃ k m, TakeOk exM (-3) 0 k m := by
  rintro ⟨k, m, _, ⟨q, h1, h2, h3⟩, _⟩
  rcases get4 h1 with ⟨rfl, rfl⟩ | ⟨rfl, rfl⟩ | ⟨rfl, rfl⟩ | ⟨rfl, rfl⟩
  · exact absurd h3 (by decide)
  · exact absurd h2 (by decide)
  · exact absurd h2 (by decide)
  · exact absurd h2 (by decide)
theorem not_tree_nil : ¬ Tree (nds []) := fun T => absurd T.pos (by decide)
theorem gs_nil : GsOk (nds []) [] := ⟨fun T => absurd T not_tree_nil, fun _ => rfl⟩
theorem ps_nil (w : World) : PS w none 0 [] := ⟨Prts.nil, fun p hp => (by cases hp), ⟨by decide, fun j => by unfold kc; simp [nds]⟩, Nat.le_refl _, by omega, fun _ => rfl⟩
def Light4 (ps : List Prt) : Prop := ps.length ≤ 120 ∧ kc (nds ps) 0 ps.length ≤ 240 ∧ ∀ p ∈ ps, Lt20 p.nd.lo ∧ Lt20 p.nd.hi ∧ Lt20 p.nd.look
theorem exQ_light (b : Nat) : LightP 120 (exQ b) := ⟨Nat.le_of_ble_eq_true rfl, by show kc exM 0 4 ≤ 2 * 120; decide, fun p hp => by
  simp only [exQ, List.mem_cons, List.not_mem_nil, or_false] at hp
  rcases hp with rfl | rfl | rfl | rfl <;> (unfold Lt20; dsimp only; omega)⟩
theorem exQ1_light (b : Nat) : LightP 120 (exQ1 b) := ⟨Nat.le_of_ble_eq_true rfl, by show kc exM1 0 4 ≤ 2 * 120; decide, fun p hp => by
  simp only [exQ1, List.mem_cons, List.not_mem_nil, or_false] at hp
  rcases hp with rfl | rfl | rfl | rfl <;> (unfold Lt20; dsimp only; omega)⟩
theorem nil_light : LightP 120 [] := ⟨by decide, by decide, fun p hp => by cases hp⟩
def ExAll21 (w : World) (e : Ending) (w' : World) : Prop :=
  e = .returned (.slice (some ⟨w.heap.size + 1 + 1, 0, none⟩) 4 4) ∧ w'.heap[w.heap.size + 1 + 1]? = some (.cells (pv (exQ w.heap.size)).toArray 35) ∧ w'.heap[w.heap.size]? = some (.cells #[.int .i64 1, .int .i64 3] 3) ∧ w'.heap[w.heap.size + 1]? = some (.cells #[.int .i64 2] 3) ∧ Ext w w'
set_option maxRecDepth 100000 in
set_option maxHeartbeats 2000000 in
theorem example21_all (w : World) : Calls Try.prog 66 #[] w (ExAll21 w) := by
  go_enter Try.func66, Try.ntmps66
  go_wp2_with fail
  go_ret
  have G0 : (((w.alloc (.cells #[.int .i64 1, .int .i64 3] 3)).alloc (.cells #[.int .i64 2] 3)).alloc (.cells (pv (exQ w.heap.size)).toArray 35)).heap[w.heap.size]? = some (.cells #[.int .i64 1, .int .i64 3] 3) := (by simp only [heap_alloc_get, World.size_alloc]; (repeat (split; (first | rfl | (exfalso; omega)))); (try (first | (exfalso; omega) | simp_all)))
  have G1 : (((w.alloc (.cells #[.int .i64 1, .int .i64 3] 3)).alloc (.cells #[.int .i64 2] 3)).alloc (.cells (pv (exQ w.heap.size)).toArray 35)).heap[w.heap.size + 1]? = some (.cells #[.int .i64 2] 3) := (by simp only [heap_alloc_get, World.size_alloc]; (repeat (split; (first | rfl | (exfalso; omega)))); (try (first | (exfalso; omega) | simp_all)))
  have G2 : (((w.alloc (.cells #[.int .i64 1, .int .i64 3] 3)).alloc (.cells #[.int .i64 2] 3)).alloc (.cells (pv (exQ w.heap.size)).toArray 35)).heap[w.heap.size + 1 + 1]? = some (.cells (pv (exQ w.heap.size)).toArray 35) := (by simp only [heap_alloc_get, World.size_alloc]; (repeat (split; (first | rfl | (exfalso; omega)))); (try (first | (exfalso; omega) | simp_all)))
  exact ⟨rfl, G2, G0, G1, (by repeat (first | exact Ext.refl _ | refine Ext.alloc ?_ _ | refine Ext.more ?_ _ _ | refine Ext.drew ?_ | refine Ext.drewN ?_ _ | refine Ext.setCell ?_ (by simp <;> omega) _))⟩
theorem exQ_ps {W : World} {b : Nat} (G2 : W.heap[b + 1 + 1]? = some (.cells (pv (exQ b)).toArray 35)) (G0 : W.heap[b]? = some (.cells #[.int .i64 1, .int .i64 3] 3)) (G1 : W.heap[b + 1]? = some (.cells #[.int .i64 2] 3)) : PS W (some ⟨b + 1 + 1, 0, none⟩) 4 (exQ b) := by
  refine ⟨Prts.of_block G2 (by simp), ?_, ⟨Nat.le_of_ble_eq_true rfl, exM_kc⟩, Nat.le_refl _, by omega, nofun⟩
  intro p hp
  simp only [exQ, List.mem_cons, List.not_mem_nil, or_false] at hp
  rcases hp with rfl | rfl | rfl | rfl
  · exact PrtOk.lit (Ints.of_block G0 rfl) (Nat.le_of_ble_eq_true rfl) (Nat.le_of_ble_eq_true rfl) nofun rfl
  · exact PrtOk.lit (Ints.of_block G1 rfl) (Nat.le_of_ble_eq_true rfl) (Nat.le_of_ble_eq_true rfl) nofun rfl
  · exact PrtOk.lit Ints.nil (Nat.le_of_ble_eq_true rfl) (Nat.le_of_ble_eq_true rfl) (fun _ => rfl) rfl
  · exact PrtOk.lit Ints.nil (Nat.le_of_ble_eq_true rfl) (Nat.le_of_ble_eq_true rfl) (fun _ => rfl) rfl
theorem exQ1_ps {W : World} {b : Nat} (G2 : W.heap[b + 1 + 1]? = some (.cells (pv (exQ1 b)).toArray 35)) (G0 : W.heap[b]? = some (.cells #[.int .i64 1, .int .i64 3] 3)) (G1 : W.heap[b + 1]? = some (.cells #[.int .i64 2] 3)) : PS W (some ⟨b + 1 + 1, 0, none⟩) 4 (exQ1 b) := by
  refine ⟨Prts.of_block G2 (by simp), ?_, ⟨Nat.le_of_ble_eq_true rfl, exM1_kc⟩, Nat.le_refl _, by omega, nofun⟩
  intro p hp
  simp only [exQ1, List.mem_cons, List.not_mem_nil, or_false] at hp
  rcases hp with rfl | rfl | rfl | rfl
  · exact PrtOk.lit (Ints.of_block G0 rfl) (Nat.le_of_ble_eq_true rfl) (Nat.le_of_ble_eq_true rfl) nofun rfl
  · exact PrtOk.lit (Ints.of_block G1 rfl) (Nat.le_of_ble_eq_true rfl) (Nat.le_of_ble_eq_true rfl) nofun rfl
  · exact PrtOk.lit Ints.nil (Nat.le_of_ble_eq_true rfl) (Nat.le_of_ble_eq_true rfl) (fun _ => rfl) rfl
  · exact PrtOk.lit Ints.nil (Nat.le_of_ble_eq_true rfl) (Nat.le_of_ble_eq_true rfl) (fun _ => rfl) rfl
set_option maxRecDepth 100000 in
set_option maxHeartbeats 2000000 in
theorem reuseNames_any (W : World) : Calls Try.prog 13 #[] W fun e w' => e = .returned (.bool true) ∧ Ext W w' := by
  go_enter Try.func13, Try.ntmps13
  go_wp2_with fail
  refine (example21_all W).mono ?_
  rintro e w1 ⟨rfl, G2, G0, G1, hx1⟩
  obtain ⟨b, hb⟩ : ∃ b, W.heap.size = b := ⟨_, rfl⟩
  rw [hb] at G0 G1 G2 ⊢
  have HG0 := Lib.hid G0
  have HG1 := Lib.hid G1
  have HG2 := Lib.hid G2
  have HX1 := Lib.hid hx1
  have HB := Lib.hid hb
  clear G0 G1 G2 hx1 hb
  go_wp2_with fail
  refine (take_any (ps := exQ b) 1 0 (exQ_ps HG2.out HG0.out HG1.out)).mono ?_
  rintro e w2 hret
  obtain ⟨k, m, A2, c2, qs, hTK, rfl, hn, ho, hx2⟩ : ∃ k m A c qs, TakeOk (nds (exQ b)) 1 0 k m ∧ e = .returned (.tuple #[.slice A (qs : List Prt).length c, .bool true]) ∧ nds qs = subF (nds (exQ b)) k m ∧ OwnP w2 w1.heap.size A c qs ∧ Ext w1 w2 := by
    rcases hret with h | ⟨hno, _, _⟩
    · exact h
    · exact absurd ⟨1, 3, exM_take⟩ hno
  obtain ⟨rfl, rfl⟩ := exM_take.det hTK
  have hql : qs.length = 2 := by rw [← nds_length, hn]; rfl
  have HN : Hid (nds qs = subF exM 1 3) := Lib.hid hn
  have HOW := Lib.hid ho
  have X2 := Lib.hid hx2
  have HQL := Lib.hid hql
  rw [hql]
  clear hTK hn ho hx2 hql
  have HG02 := Lib.hid (ext_block HG0.out X2.out)
  have HG12 := Lib.hid (ext_block HG1.out X2.out)
  have HG22 := Lib.hid (ext_block HG2.out X2.out)
  go_wp2_with fail
  refine (take_any (ps := exQ b) (-3) 0 (exQ_ps HG22.out HG02.out HG12.out)).mono ?_
  rintro e w3 hret
  rcases hret with ⟨k, m, _, _, _, hTK, _⟩ | ⟨_, rfl, hx3⟩
  · exact absurd ⟨k, m, hTK⟩ exM_no
  have X3 := Lib.hid hx3
  clear hx3
  have HG03 := Lib.hid (ext_block HG02.out X3.out)
  have HG13 := Lib.hid (ext_block HG12.out X3.out)
  have HG23 := Lib.hid (ext_block HG22.out X3.out)
  go_wp2_with fail
  refine (bytes_any _ 4 (exQ b) [1] w3 (exQ_ps HG23.out HG03.out HG13.out) (by rw [exQ_nds]; exact exM_gs) (exQ_light b) (by decide) (fun x hx => by rw [List.mem_singleton.1 hx]; show 1 < 4; omega)).mono ?_
  rintro e w4 ⟨rfl, hx4⟩
  have hb2 : [1].foldl (bytesF (nds (exQ b))) 0 = 2 := by rw [exQ_nds]; decide
  rw [hb2]
  have X4 := Lib.hid hx4
  clear hx4 hb2
  have TS : Hid (Tree (nds qs)) := Lib.hid (by rw [HN.out]; exact exM_tree.sub exM_part)
  have CL := look_yes A2 c2 qs w4 ((HOW.out.ext (X3.out.trans X4.out)).ps (Few.of_tree TS.out (by rw [HQL.out]; decide))) TS.out
  have hlk : qs.foldl (fun (n : Int) (p : Prt) => max n p.nd.look) 0 = 4 := by
    have : qs.foldl (fun (n : Int) (p : Prt) => max n p.nd.look) 0 = (nds qs).foldl (fun (n : Int) (p : Nd) => max n p.look) 0 := by unfold nds; rw [List.foldl_map]
    rw [this, HN.out]
    decide
  rw [HQL.out, hlk] at CL
  have HCL := Lib.hid CL
  clear CL hlk
  go_wp2_with fail
  refine HCL.out.mono ?_
  rintro e w5 ⟨rfl, hx5⟩
  have X5 := Lib.hid (X4.out.trans hx5)
  clear hx5
  have HG05 := Lib.hid (ext_block HG03.out X5.out)
  have HG15 := Lib.hid (ext_block HG13.out X5.out)
  have HG25 := Lib.hid (ext_block HG23.out X5.out)
  have k23 := cell_of_row _ _ 23 _ _ _ HG25.out
  have l23 := lt_of_heap HG25.out
  have f23 : w5.frozen? ⟨b + 1 + 1, 23, none⟩ = false := by simp [World.frozen?, HG25.out]
  simp [pv, exQ, prtCells] at k23
  clear HCL
  go_upto_region 6 with fail
  obtain ⟨w6, hw6⟩ : ∃ w6, w5.setCell ⟨b + 1 + 1, 23, none⟩ (.int .u64 1) = w6 := ⟨_, rfl⟩
  have HG06 : Hid (w6.heap[b]? = some (.cells #[.int .i64 1, .int .i64 3] 3)) := Lib.hid (by rw [← hw6]; simp [World.setCell, Array.getElem?_modify, HG05.out])
  have HG16 : Hid (w6.heap[b + 1]? = some (.cells #[.int .i64 2] 3)) := Lib.hid (by rw [← hw6]; simp [World.setCell, Array.getElem?_modify, HG15.out])
  have HG26 : Hid (w6.heap[b + 1 + 1]? = some (.cells (pv (exQ1 b)).toArray 35)) := Lib.hid (by rw [← hw6]; simp [World.setCell, Array.getElem?_modify, HG25.out]; rfl)
  have X6 : Hid (Ext W w6) := Lib.hid (by
    rw [← hw6]
    exact (((HX1.out.trans X2.out).trans X3.out).trans X5.out).setCell (by show _ ≤ b + 1 + 1; have := HB.out; omega) _)
  rw [hw6]
  clear hw6 k23 l23 f23
  go_wp2_with fail
  refine (take_any (ps := exQ1 b) 1 0 (exQ1_ps HG26.out HG06.out HG16.out)).mono ?_
  rintro e w7 hret
  rcases hret with ⟨k, m, _, _, _, hTK, _⟩ | ⟨_, rfl, hx7⟩
  · exact absurd ⟨k, m, hTK⟩ exM1_no
  have X7 := Lib.hid (X6.out.trans hx7)
  have HG07 := Lib.hid (ext_block HG06.out hx7)
  have HG17 := Lib.hid (ext_block HG16.out hx7)
  have HG27 := Lib.hid (ext_block HG26.out hx7)
  clear hx7
  go_wp2_with fail
  refine (lives21_any w7).mono ?_
  rintro e w8 ⟨rfl, hx8⟩
  have X8 := Lib.hid (X7.out.trans hx8)
  have HG08 := Lib.hid (ext_block HG07.out hx8)
  have HG18 := Lib.hid (ext_block HG17.out hx8)
  have HG28 := Lib.hid (ext_block HG27.out hx8)
  clear hx8
  go_wp2_with fail
  refine (all_any _ 4 (exQ1 b) [] w8 (exQ1_ps HG28.out HG08.out HG18.out) (by rw [exQ1_nds]; exact exM1_gs) (by decide)).mono ?_
  rintro e w9 ⟨A9, c9, rfl, _, hx9⟩
  have X9 := Lib.hid (X8.out.trans hx9)
  have HG09 := Lib.hid (ext_block HG08.out hx9)
  have HG19 := Lib.hid (ext_block HG18.out hx9)
  have HG29 := Lib.hid (ext_block HG28.out hx9)
  clear hx9
  go_wp2_with fail
  refine (bytes_any _ 4 (exQ1 b) [] w9 (exQ1_ps HG29.out HG09.out HG19.out) (by rw [exQ1_nds]; exact exM1_gs) (exQ1_light b) (by decide) (fun x hx => by cases hx)).mono ?_
  rintro e w10 ⟨rfl, hx10⟩
  have X10 := Lib.hid (X9.out.trans hx10)
  clear hx10
  go_wp2_with fail
  refine (look_no none 0 [] w10 (ps_nil w10) not_tree_nil).mono ?_
  rintro e w11 ⟨rfl, hx11⟩
  have X11 := Lib.hid (X10.out.trans hx11)
  clear hx11
  go_wp2_with fail
  refine (all_any none 0 [] [] w11 (ps_nil w11) gs_nil (by decide)).mono ?_
  rintro e w12 ⟨A12, c12, rfl, _, hx12⟩
  have X12 := Lib.hid (X11.out.trans hx12)
  clear hx12
  go_wp2_with fail
  go_ret
  exact ⟨rfl, X12.out⟩
end Go.Proofs.Ytaffaeompdlecaa
