/- The reference heap's Put. -/
import Derived.Test.YtjllikpocfppoaaZa
import Derived.Deep.LoopGhost
import Derived.IntWalk
import Derived.WalkSpells
import Derived.WalkLawsBesides
import Derived.BigRegion
import Derived.Deep.RegionWith
import Derived.Deep.QuietTactic
import Derived.Deep.DeepCutAuto
import Derived.Deep.RegionHeld3
import Derived.Deep.RegionLaw
import Derived.BigQuiet
import Derived.Lib.Hide
namespace Go.Proofs.Ytjllikpocfppoaa
open Go.RowKit
attribute [local go_sem] more_drew more_drewN more_size more_cell more_frozen more_setCell drew_more drewN_more lt_add_r lt_add_r2 lt_add_r3 lt_add_r4 lt_add_r5 lt_add_r6 lt_add_r7 lt_add_r8 lt_add_r9 lt_add_r10 lt_self_r lt_self_r2

theorem ins_at (x : It) : ∀ (R : List It) (k : Nat), k ≤ R.length → (∀ j, k ≤ j → j < R.length → x.2.1 < (R.getD j z3).2.1) → (∀ j, j < k → (R.getD j z3).2.1 ≤ x.2.1) → insL R x = R.take k ++ x :: R.drop k
  | [], k, hk, _, _ => by
    simp at hk
    subst hk
    rfl
  | r :: R, 0, _, h1, _ => by
    have := h1 0 (Nat.le_refl _) (by simp)
    simp only [insL]
    rw [if_pos (by simpa using this)]
    rfl
  | r :: R, k + 1, hk, h1, h2 => by
    have := h2 0 (by omega)
    simp only [insL]
    rw [if_neg (by simpa using this), ins_at x R k (by simpa using hk) (fun j hj hl => by
      have := h1 (j + 1) (by omega) (by simpa using hl)
      simpa using this) (fun j hj => by
      have := h2 (j + 1) (by omega)
      simpa using this)]
    rfl
theorem keys_le (R : List It) (hs : R.Pairwise fun a b => ltI a b = true) (i j : Nat) (hij : i < j) (hj : j < R.length) : (R.getD i z3).2.1 ≤ (R.getD j z3).2.1 := by
  rw [List.pairwise_iff_getElem] at hs
  have := hs i j (by omega) hj hij
  rw [ltI_iff] at this
  rw [List.getD_eq_getElem?_getD, List.getD_eq_getElem?_getD, List.getElem?_eq_getElem (by omega), List.getElem?_eq_getElem hj]
  simp only [Option.getD_some]
  omega

def PutInv (p n : Nat) (R : List It) (cap : Nat) (A1 A2 : Option Addr) (k d : Int) (W4 : World) (listed : Array Bool) (us : List Value) (w' : World) : Prop :=
  ∃ u28 u29 u30 u31 u32 u33 u34 u35 u36 u37 u38 u39 u40 u41 u42 u43 u44 u45 u46 u47 u48 : Value, us = [u28, u29, u30, u31, u32, u33, u34, u35, u36, u37, u38, u39, u40, u41, u42, u43, u44, u45, u46, u47, u48] ∧ (¬ Done listed 21 → Below W4.heap.size W4 w') ∧ (Done listed 0 → u28 = .pointer (some ⟨p, 0, none⟩)) ∧ (Done listed 1 → ¬ Done listed 8 → (∃ g, u29 = .slice (some ⟨g, 0, none⟩) 0 0) ∧ World.ownsRow w' W4.heap.size 27 2 u29 0 []) ∧ (Done listed 2 → u30 = .pointer (some ⟨p, 0, none⟩)) ∧ (Done listed 3 → u31 = .pointer (some ⟨p, 0, none⟩)) ∧ (Done listed 4 → u32 = .pointer (some ⟨p, 0, none⟩)) ∧ (Done listed 5 → u33 = .slice A1 R.length cap) ∧ (Done listed 6 → u34 = .int .i64 (n : Int)) ∧ (Done listed 7 → u35 = .slice A1 n cap) ∧ (Done listed 8 → ¬ Done listed 11 → World.ownsRow w' W4.heap.size 27 2 u36 n (refC (R.take n))) ∧ (Done listed 9 → u37 = .agg #[.int .i64 k, .int .i64 d]) ∧ (Done listed 10 → ¬ Done listed 11 → ∃ g, u38 = .slice (some ⟨g, 0, none⟩) 1 1 ∧ w'.heap[g]? = some (.cells #[.int .i64 k, .int .i64 d] 27) ∧ (Done listed 1 → ¬ Done listed 8 → u29.ownBlock ≠ some g) ∧ (Done listed 8 → u36.ownBlock ≠ some g)) ∧ (Done listed 11 → ¬ Done listed 18 → World.ownsRow w' W4.heap.size 27 2 u39 (n + 1) (refC (R.take n) ++ [.int .i64 k, .int .i64 d])) ∧ (Done listed 12 → u40 = .pointer (some ⟨p, 0, none⟩)) ∧ (Done listed 13 → u41 = .pointer (some ⟨p, 0, none⟩)) ∧ (Done listed 14 → u42 = .pointer (some ⟨p, 0, none⟩)) ∧ (Done listed 15 → u43 = .slice A1 R.length cap) ∧ (Done listed 16 → u44 = .int .i64 (n : Int)) ∧ (Done listed 17 → u45 = .slice A2 (R.length - n) (cap - n)) ∧ (Done listed 18 → World.ownsRow w' W4.heap.size 27 2 u46 (n + 1 + (R.length - n)) (refC (R.take n) ++ [.int .i64 k, .int .i64 d] ++ refC (R.drop n))) ∧ (Done listed 19 → u47 = .pointer (some ⟨p, 0, none⟩)) ∧ (Done listed 20 → u48 = .pointer (some ⟨p, 0, none⟩)) ∧ (Done listed 21 → w'.heap[p]? = some (.cells #[u46] 49) ∧ Turn (fun b => b = p) W4 w')
theorem putInv_start {p n : Nat} {R : List It} {cap : Nat} {A1 A2 : Option Addr} {k d : Int} {W4 : World} (us : List Value) (hus : us.length = 21) : PutInv p n R cap A1 A2 k d W4 (Array.replicate 22 false) us W4.drew :=
  match us, hus with
  | [u28, u29, u30, u31, u32, u33, u34, u35, u36, u37, u38, u39, u40, u41, u42, u43, u44, u45, u46, u47, u48], _ => ⟨u28, u29, u30, u31, u32, u33, u34, u35, u36, u37, u38, u39, u40, u41, u42, u43, u44, u45, u46, u47, u48, rfl, fun _ => ((Ext.refl W4).drew).below, fun h => absurd h (not_done_replicate _ _), fun h => absurd h (not_done_replicate _ _), fun h => absurd h (not_done_replicate _ _), fun h => absurd h (not_done_replicate _ _), fun h => absurd h (not_done_replicate _ _), fun h => absurd h (not_done_replicate _ _), fun h => absurd h (not_done_replicate _ _), fun h => absurd h (not_done_replicate _ _), fun h => absurd h (not_done_replicate _ _), fun h => absurd h (not_done_replicate _ _), fun h => absurd h (not_done_replicate _ _), fun h => absurd h (not_done_replicate _ _), fun h => absurd h (not_done_replicate _ _), fun h => absurd h (not_done_replicate _ _), fun h => absurd h (not_done_replicate _ _), fun h => absurd h (not_done_replicate _ _), fun h => absurd h (not_done_replicate _ _), fun h => absurd h (not_done_replicate _ _), fun h => absurd h (not_done_replicate _ _), fun h => absurd h (not_done_replicate _ _), fun h => absurd h (not_done_replicate _ _), fun h => absurd h (not_done_replicate _ _)⟩
theorem info27' : (Try.prog.info? 27).map (fun i => (i.zero, i.size, i.bytes)) = some (some (.agg #[.int .i64 0, .int .i64 0]), 2, 16) := by kernel_rfl
theorem cellsT {W w : World} {A : Option Addr} {R : List It} (h : CellsAt W A (refC R)) (hb : Below W.heap.size W w) (n : Nat) : CellsAt w A (refC (R.take n)) := by
  intro h0
  rw [refC_take] at h0 ⊢
  obtain ⟨b, off, hA, hbl, hc⟩ := h.ext (Ext.of_below hb) (by rw [List.length_take] at h0; omega)
  refine ⟨b, off, hA, hbl, fun k u hk => hc k u ?_⟩
  rw [List.getElem?_take] at hk
  split at hk
  · exact hk
  · cases hk
theorem cellsD {W w : World} {A A2 : Option Addr} {R : List It} (h : CellsAt W A (refC R)) (hb : Below W.heap.size W w) (n cap : Nat) (hc : R.length ≤ cap) (hA2 : (if cap = n then A else A.map (fun x => x.add (n * 2))) = A2) : CellsAt w A2 (refC (R.drop n)) := by
  intro h0
  rw [refC_drop] at h0 ⊢
  rw [List.length_drop, refC_length] at h0
  obtain ⟨b, off, hA, hbl, hcl⟩ := h.ext (Ext.of_below hb) (by rw [refC_length]; omega)
  rw [if_neg (by omega), hA] at hA2
  refine ⟨b, off + n * 2, by rw [← hA2]; simp [Go.WideShapes.add_plain], hbl, fun k u hk => ?_⟩
  rw [List.getElem?_drop] at hk
  rw [Nat.add_assoc]
  exact hcl _ _ hk
set_option maxRecDepth 100000 in
set_option maxHeartbeats 3000000 in
theorem refPut (p : Nat) (v : Value) (R : List It) (c k d : Int) (hR : R.length ≤ 100000) (w : World) (h : RefAt w p v R) (hs : R.Pairwise fun a b => ltI a b = true) :
    Calls Try.prog 21 #[.pointer (some ⟨p, 0, none⟩), .agg #[.int .i64 k, .int .i64 d]] w fun e w' => e = .returned (.tuple #[]) ∧ RefNext p (insL R (c, k, d)) w w' := by
  obtain ⟨A, cap, rfl, hc1, hc2, hc3, hc4⟩ := h.val
  have hcm : cap ≤ 9223372036854775807 := by unfold maxLen at hc2; omega
  obtain ⟨i27, hi27, hz0, hz1, hz2⟩ := info_parts info27'
  have H := Lib.hid h
  have hp := lt_of_heap h.blk
  have c0 := cell_of_row _ _ 0 _ _ _ h.blk
  simp at c0
  have HS := Lib.hid hs
  have hx := heap_alloc_new w (.cells #[.int .i64 k, .int .i64 d] 27)
  have HX := Lib.hid hx
  clear h hs hx hc4
  go_enter Try.func21, Try.ntmps21
  go_wp2_with fail
  have HE : Hid (Ext w (w.alloc (.cells #[.int .i64 k, .int .i64 d] 27))) := (Ext.refl w).alloc _
  obtain ⟨bx, hbx⟩ : ∃ bx, w.heap.size = bx := ⟨_, rfl⟩
  rw [hbx] at HX ⊢
  generalize hW : w.alloc (.cells #[.int .i64 k, .int .i64 d] 27) = W at *
  clear hW hbx
  have hpW := Nat.lt_of_lt_of_le hp HE.out.size
  go_loopw [4] (fun s wr => ∃ n : Nat, n ≤ R.length ∧ s = .int .i64 (n : Int) ∧ Hid (∀ j, n ≤ j → j < R.length → k < (R.getD j z3).2.1) ∧ Ext W wr) (fun s _ => (intOf s).toNat)
  case atStart => exact ⟨R.length, Nat.le_refl _, rfl, Lib.hid (fun j h1 h2 => by omega), Ext.refl _⟩
  case round =>
    obtain ⟨n, hn, rfl, hge, os, kk, rfl⟩ := hrel
    have hV := (H.out.val.ext HE.out).ext (w' := more W os kk) ⟨os, kk, rfl⟩
    have hB := ext_heap (ext_heap H.out.blk HE.out) (w' := more W os kk) ⟨os, kk, rfl⟩
    have hXB := ext_heap HX.out (w' := more W os kk) ⟨os, kk, rfl⟩
    have e0 := cell_of_row _ _ 0 _ _ _ hB
    have x0 := cell_of_row _ _ 0 _ _ _ hXB
    have x1 := cell_of_row _ _ 1 _ _ _ hXB
    have pl := lt_of_heap hB
    have xl := lt_of_heap hXB
    simp at e0 x0 x1
    have HV := Lib.hid hV
    have HB := Lib.hid hB
    have HXB := Lib.hid hXB
    have hEW : Ext W (more W os kk) := ⟨os, kk, rfl⟩
    generalize hW3 : more W os kk = W3 at *
    clear hV hB hXB hW3
    rcases (show (0 < n ∧ k < (R.getD (n - 1) z3).2.1) ∨ (n = 0 ∨ (0 < n ∧ (R.getD (n - 1) z3).2.1 ≤ k)) by omega) with ⟨hn0, hkey⟩ | hstop
    · obtain ⟨b, off, rfl, hb, hcell⟩ := HV.out.cells (by rw [refC_length]; omega)
      obtain ⟨m, rfl⟩ : ∃ m, n = m + 1 := ⟨n - 1, by omega⟩
      rw [Nat.add_sub_cancel] at hkey
      have hg := (refC_get R m (by omega)).1
      have d0 := hcell _ _ hg
      obtain ⟨rk, hrk⟩ : ∃ rk, (R.getD m z3).2.1 = rk := ⟨_, rfl⟩
      rw [hrk] at d0 hkey
      have HRK := Lib.hid hrk
      have t0 : decide ((0 : Int) < (m : Int) + 1) = true := by rw [decide_eq_true_iff]; omega
      have t1 : decide (k < rk) = true := by simp [hkey]
      have q0 : (0 : Int) ≤ (m : Int) := by omega
      have q1 : (m : Int) < (R.length : Int) := by omega
      clear hcell hg hrk
      go_wp2_with fail
      refine wp_region_ext (by kernel_rfl) (by kernel_rfl) ?_
      repeat (go_big_quiet_step (fail))
      refine wpQuiet_nil ?_
      intro _ hw'
      obtain ⟨x9, rfl⟩ := hw'
      go_wp2_with fail
      go_roundw
      case rel => exact ⟨m, by omega, rfl, Lib.hid (fun j h1 h2 => by
        rcases (show j = m ∨ m + 1 ≤ j by omega) with rfl | h3
        · rw [HRK.out]; exact hkey
        · exact hge.out j h3 h2), hEW.trans ⟨x9.os, x9.k, rfl⟩⟩
      case measure => simp [intOf]
    · have hbr : (n = 0 ∧ decide ((0 : Int) < (n : Int)) = false) ∨ (0 < n ∧ decide ((0 : Int) < (n : Int)) = true) := by
        rcases Nat.eq_zero_or_pos n with h0 | h0
        · exact .inl ⟨h0, by rw [h0]; rfl⟩
        · exact .inr ⟨h0, by rw [decide_eq_true_iff]; omega⟩
      have HST := Lib.hid hstop
      clear hstop
      go_upto_region 2 with fail
      go_cut [25] from 10 to 27 (fun s25 wx => s25 = .bool false ∧ Ext W3 wx)
      case first =>
        rcases hbr with ⟨_, t0⟩ | ⟨hn0, t0⟩
        · refine wp_region_ext (by kernel_rfl) (by kernel_rfl) ?_
          repeat (go_big_quiet_step (fail))
          refine wpQuiet_nil ?_
          intro _ hw'
          obtain ⟨x9, rfl⟩ := hw'
          go_wp2_with fail
          go_meet
          exact ⟨rfl, x9.os, x9.k, rfl⟩
        · obtain ⟨b, off, rfl, hb, hcell⟩ := HV.out.cells (by rw [refC_length]; omega)
          have hg := (refC_get R (n - 1) (by omega)).1
          have d0 := hcell _ _ hg
          have hkey : (R.getD (n - 1) z3).2.1 ≤ k := by rcases HST.out with h | h <;> omega
          obtain ⟨rk, hrk⟩ : ∃ rk, (R.getD (n - 1) z3).2.1 = rk := ⟨_, rfl⟩
          rw [hrk] at d0 hkey
          have t1 : decide (k < rk) = false := by rw [decide_eq_false_iff_not]; omega
          obtain ⟨m, hm⟩ : ∃ m, n - 1 = m := ⟨_, rfl⟩
          have hnm : (n : Int) - 1 = (m : Int) := by omega
          rw [hm] at d0
          have hw1 : IntKind.i64.wrap ((n : Int) - 1) = (m : Int) := by rw [IntWalk.i64_in _ (by omega)]; exact hnm
          have q0 : (0 : Int) ≤ (m : Int) := by omega
          have q1 : (m : Int) < (R.length : Int) := by omega
          clear hcell hg hrk hm hnm hkey
          refine wp_region_ext (by kernel_rfl) (by kernel_rfl) ?_
          repeat (go_big_quiet_step (fail))
          refine wpQuiet_nil ?_
          intro _ hw'
          obtain ⟨x9, rfl⟩ := hw'
          go_wp2_with fail
          go_meet
          exact ⟨rfl, x9.os, x9.k, rfl⟩
      case rest =>
        obtain ⟨rfl, os9, k9, rfl⟩ := hcut
        go_wp2_with fail
        have hE9 : Ext W3 (more W3 os9 k9) := ⟨os9, k9, rfl⟩
        obtain ⟨A1, HV4, HB4⟩ : ∃ A1, RefVal (more W3 os9 k9) (.slice A1 R.length cap) R ∧ (more W3 os9 k9).heap[p]? = some (.cells #[.slice A1 R.length cap] 49) := ⟨_, HV.out.ext hE9, ext_heap HB.out hE9⟩
        have HX4 := ext_heap HXB.out hE9
        have HE4 := Lib.hid ((HE.out.trans hEW).trans hE9)
        obtain ⟨A2, hA2⟩ : ∃ A2, (if cap = n then A1 else A1.map (fun x => x.add (n * 2))) = A2 := ⟨_, rfl⟩
        generalize hW4 : more W3 os9 k9 = W4 at *
        clear hW4 hE9 HV HB HXB hEW e0 x0 x1 pl xl
        have e0 := cell_of_row _ _ 0 _ _ _ HB4
        have x0 := cell_of_row _ _ 0 _ _ _ HX4
        have x1 := cell_of_row _ _ 1 _ _ _ HX4
        have pl := lt_of_heap HB4
        have xl := lt_of_heap HX4
        simp at e0 x0 x1
        have hnc : n ≤ cap := by omega
        have HC3 := Lib.hid (show A1 = none → cap = 0 from by obtain ⟨_, _, h1, _, _, h4, _⟩ := HV4; injection h1 with h1 _ h2; subst h1; subst h2; exact h4)
        have HC4 := Lib.hid (show A2 = none → cap - n = 0 from fun hn2 => by
          rw [← hA2] at hn2
          split at hn2
          · omega
          · have := HC3.out (by cases A1 with
              | none => rfl
              | some a => cases hn2)
            omega)
        have HCT := Lib.hid (fun (w5 : World) (hb : Below W4.heap.size W4 w5) => cellsT HV4.cells hb n)
        have HCD := Lib.hid (fun (w5 : World) (hb : Below W4.heap.size W4 w5) => cellsD HV4.cells hb n cap hc1 hA2)
        refine wp_region_inv2 28 21 (by simp) (by kernel_rfl) (by kernel_rfl) (PutInv p n R cap A1 A2 k d W4) ?_ ?_ ?_
        · intro us hus
          exact putInv_start us hus
        · rintro listed i o us w5 ho hus hnd hd hsz hcl ⟨u28, u29, u30, u31, u32, u33, u34, u35, u36, u37, u38, u39, u40, u41, u42, u43, u44, u45, u46, u47, u48, rfl, hJ, f0, f1, f2, f3, f4, f5, f6, f7, f8, f9, f10, f11, f12, f13, f14, f15, f16, f17, f18, f19, f20, f21⟩
          have hi : i < 22 := (List.getElem?_eq_some_iff.1 ho).1
          rcases (show i = 0 ∨ i = 1 ∨ i = 2 ∨ i = 3 ∨ i = 4 ∨ i = 5 ∨ i = 6 ∨ i = 7 ∨ i = 8 ∨ i = 9 ∨ i = 10 ∨ i = 11 ∨ i = 12 ∨ i = 13 ∨ i = 14 ∨ i = 15 ∨ i = 16 ∨ i = 17 ∨ i = 18 ∨ i = 19 ∨ i = 20 ∨ i = 21 by omega) with rfl | rfl | rfl | rfl | rfl | rfl | rfl | rfl | rfl | rfl | rfl | rfl | rfl | rfl | rfl | rfl | rfl | rfl | rfl | rfl | rfl | rfl
          · -- operation 0
            simp only [List.getElem?_cons_zero, List.getElem?_cons_succ, Option.some.injEq] at ho
            subst ho
            have n21 : ¬ Done listed 21 := fun h => hnd (done_of_waits (hcl 21 _ rfl h) (i := 0) (by kernel_rfl))
            have hb5 := hJ n21
            have e5 := (hb5.cell (p := ⟨p, 0, none⟩) pl).trans e0
            have y0 := (hb5.cell (p := ⟨bx, 0, none⟩) xl).trans x0
            have y1 := (hb5.cell (p := ⟨bx, 1, none⟩) xl).trans x1
            have hs5 := hb5.size
            have pl5 : p < w5.heap.size := by omega
            have xl5 : bx < w5.heap.size := by omega
            have hsl : 0 < listed.size := by rw [hsz]; decide
            simp only [frameOf, List.take_succ_cons, List.take_zero, List.drop_succ_cons, List.drop_zero, List.cons_append, List.nil_append, Nat.reduceAdd]
            refine wpOp_step rfl rfl (fun K hK => ?_)
            go_simp
            refine hK _ _ ⟨[.pointer (some ⟨p, 0, none⟩), u29, u30, u31, u32, u33, u34, u35, u36, u37, u38, u39, u40, u41, u42, u43, u44, u45, u46, u47, u48], rfl, rfl, .pointer (some ⟨p, 0, none⟩), u29, u30, u31, u32, u33, u34, u35, u36, u37, u38, u39, u40, u41, u42, u43, u44, u45, u46, u47, u48, rfl, ?_⟩
            exact ⟨fun h21 => hJ (fun h' => h21 (done_mono h')),
              fun _ => rfl,
              fun h h8 => f1 (done_other (by decide) h) (fun h' => h8 (done_mono h')),
              fun h => f2 (done_other (by decide) h),
              fun h => f3 (done_other (by decide) h),
              fun h => f4 (done_other (by decide) h),
              fun h => f5 (done_other (by decide) h),
              fun h => f6 (done_other (by decide) h),
              fun h => f7 (done_other (by decide) h),
              fun h h11 => f8 (done_other (by decide) h) (fun h' => h11 (done_mono h')),
              fun h => f9 (done_other (by decide) h),
              fun h h11 => by
                obtain ⟨g, g1, g2, g3, g4⟩ := f10 (done_other (by decide) h) (fun h' => h11 (done_mono h'))
                exact ⟨g, g1, g2, fun h1 h8 => g3 (done_other (by decide) h1) (fun h' => h8 (done_mono h')), fun h8 => g4 (done_other (by decide) h8)⟩,
              fun h h18 => f11 (done_other (by decide) h) (fun h' => h18 (done_mono h')),
              fun h => f12 (done_other (by decide) h),
              fun h => f13 (done_other (by decide) h),
              fun h => f14 (done_other (by decide) h),
              fun h => f15 (done_other (by decide) h),
              fun h => f16 (done_other (by decide) h),
              fun h => f17 (done_other (by decide) h),
              fun h => f18 (done_other (by decide) h),
              fun h => f19 (done_other (by decide) h),
              fun h => f20 (done_other (by decide) h),
              fun h => f21 (done_other (by decide) h)⟩
          · -- operation 1
            simp only [List.getElem?_cons_zero, List.getElem?_cons_succ, Option.some.injEq] at ho
            subst ho
            have n21 : ¬ Done listed 21 := fun h => hnd (done_of_waits (hcl 21 _ rfl h) (i := 1) (by kernel_rfl))
            have hb5 := hJ n21
            have e5 := (hb5.cell (p := ⟨p, 0, none⟩) pl).trans e0
            have y0 := (hb5.cell (p := ⟨bx, 0, none⟩) xl).trans x0
            have y1 := (hb5.cell (p := ⟨bx, 1, none⟩) xl).trans x1
            have hs5 := hb5.size
            have pl5 : p < w5.heap.size := by omega
            have xl5 : bx < w5.heap.size := by omega
            have hsl : 1 < listed.size := by rw [hsz]; decide
            simp only [frameOf, List.take_succ_cons, List.take_zero, List.drop_succ_cons, List.drop_zero, List.cons_append, List.nil_append, Nat.reduceAdd]
            refine wpOp_step rfl rfl (fun K hK => ?_)
            go_simp
            have hE : Ext w5 (w5.alloc (.cells #[] 27)) := (Ext.refl _).alloc _
            refine hK _ _ ⟨[u28, .slice (some ⟨w5.heap.size, 0, none⟩) 0 0, u30, u31, u32, u33, u34, u35, u36, u37, u38, u39, u40, u41, u42, u43, u44, u45, u46, u47, u48], rfl, rfl, u28, .slice (some ⟨w5.heap.size, 0, none⟩) 0 0, u30, u31, u32, u33, u34, u35, u36, u37, u38, u39, u40, u41, u42, u43, u44, u45, u46, u47, u48, rfl, ?_⟩
            exact ⟨fun h21 => (hJ n21).trans (hE.below.mono hs5),
              fun h => f0 (done_other (by decide) h),
              fun _ _ => ⟨⟨_, rfl⟩, own_lit w5 W4.heap.size 27 2 w5.heap.size 0 #[] rfl hs5 rfl (by unfold maxLen; omega)⟩,
              fun h => f2 (done_other (by decide) h),
              fun h => f3 (done_other (by decide) h),
              fun h => f4 (done_other (by decide) h),
              fun h => f5 (done_other (by decide) h),
              fun h => f6 (done_other (by decide) h),
              fun h => f7 (done_other (by decide) h),
              fun h h11 => own_ext (f8 (done_other (by decide) h) (fun h' => h11 (done_mono h'))) hE,
              fun h => f9 (done_other (by decide) h),
              fun h h11 => by
                obtain ⟨g, g1, g2, g3, g4⟩ := f10 (done_other (by decide) h) (fun h' => h11 (done_mono h'))
                exact ⟨g, g1, ext_heap g2 hE, fun _ _ he => by
                  have := lt_of_heap g2
                  simp [Value.ownBlock] at he
                  omega, fun h8 => g4 (done_other (by decide) h8)⟩,
              fun h h18 => own_ext (f11 (done_other (by decide) h) (fun h' => h18 (done_mono h'))) hE,
              fun h => f12 (done_other (by decide) h),
              fun h => f13 (done_other (by decide) h),
              fun h => f14 (done_other (by decide) h),
              fun h => f15 (done_other (by decide) h),
              fun h => f16 (done_other (by decide) h),
              fun h => f17 (done_other (by decide) h),
              fun h => own_ext (f18 (done_other (by decide) h)) hE,
              fun h => f19 (done_other (by decide) h),
              fun h => f20 (done_other (by decide) h),
              fun h => absurd (done_other (by decide) h) n21⟩
          · -- operation 2
            simp only [List.getElem?_cons_zero, List.getElem?_cons_succ, Option.some.injEq] at ho
            subst ho
            have n21 : ¬ Done listed 21 := fun h => hnd (done_of_waits (hcl 21 _ rfl h) (i := 2) (by kernel_rfl))
            have hb5 := hJ n21
            have e5 := (hb5.cell (p := ⟨p, 0, none⟩) pl).trans e0
            have y0 := (hb5.cell (p := ⟨bx, 0, none⟩) xl).trans x0
            have y1 := (hb5.cell (p := ⟨bx, 1, none⟩) xl).trans x1
            have hs5 := hb5.size
            have pl5 : p < w5.heap.size := by omega
            have xl5 : bx < w5.heap.size := by omega
            have hsl : 2 < listed.size := by rw [hsz]; decide
            simp only [frameOf, List.take_succ_cons, List.take_zero, List.drop_succ_cons, List.drop_zero, List.cons_append, List.nil_append, Nat.reduceAdd]
            refine wpOp_step rfl rfl (fun K hK => ?_)
            go_simp
            refine hK _ _ ⟨[u28, u29, .pointer (some ⟨p, 0, none⟩), u31, u32, u33, u34, u35, u36, u37, u38, u39, u40, u41, u42, u43, u44, u45, u46, u47, u48], rfl, rfl, u28, u29, .pointer (some ⟨p, 0, none⟩), u31, u32, u33, u34, u35, u36, u37, u38, u39, u40, u41, u42, u43, u44, u45, u46, u47, u48, rfl, ?_⟩
            exact ⟨fun h21 => hJ (fun h' => h21 (done_mono h')),
              fun h => f0 (done_other (by decide) h),
              fun h h8 => f1 (done_other (by decide) h) (fun h' => h8 (done_mono h')),
              fun _ => rfl,
              fun h => f3 (done_other (by decide) h),
              fun h => f4 (done_other (by decide) h),
              fun h => f5 (done_other (by decide) h),
              fun h => f6 (done_other (by decide) h),
              fun h => f7 (done_other (by decide) h),
              fun h h11 => f8 (done_other (by decide) h) (fun h' => h11 (done_mono h')),
              fun h => f9 (done_other (by decide) h),
              fun h h11 => by
                obtain ⟨g, g1, g2, g3, g4⟩ := f10 (done_other (by decide) h) (fun h' => h11 (done_mono h'))
                exact ⟨g, g1, g2, fun h1 h8 => g3 (done_other (by decide) h1) (fun h' => h8 (done_mono h')), fun h8 => g4 (done_other (by decide) h8)⟩,
              fun h h18 => f11 (done_other (by decide) h) (fun h' => h18 (done_mono h')),
              fun h => f12 (done_other (by decide) h),
              fun h => f13 (done_other (by decide) h),
              fun h => f14 (done_other (by decide) h),
              fun h => f15 (done_other (by decide) h),
              fun h => f16 (done_other (by decide) h),
              fun h => f17 (done_other (by decide) h),
              fun h => f18 (done_other (by decide) h),
              fun h => f19 (done_other (by decide) h),
              fun h => f20 (done_other (by decide) h),
              fun h => f21 (done_other (by decide) h)⟩
          · -- operation 3
            simp only [List.getElem?_cons_zero, List.getElem?_cons_succ, Option.some.injEq] at ho
            subst ho
            have n21 : ¬ Done listed 21 := fun h => hnd (done_of_waits (hcl 21 _ rfl h) (i := 3) (by kernel_rfl))
            have d2 := done_of_waits hd (i := 2) (by kernel_rfl)
            have hb5 := hJ n21
            have e5 := (hb5.cell (p := ⟨p, 0, none⟩) pl).trans e0
            have y0 := (hb5.cell (p := ⟨bx, 0, none⟩) xl).trans x0
            have y1 := (hb5.cell (p := ⟨bx, 1, none⟩) xl).trans x1
            have hs5 := hb5.size
            have pl5 : p < w5.heap.size := by omega
            have xl5 : bx < w5.heap.size := by omega
            have hsl : 3 < listed.size := by rw [hsz]; decide
            rw [f2 d2]
            simp only [frameOf, List.take_succ_cons, List.take_zero, List.drop_succ_cons, List.drop_zero, List.cons_append, List.nil_append, Nat.reduceAdd]
            refine wpOp_step rfl rfl (fun K hK => ?_)
            go_simp
            refine hK _ _ ⟨[u28, u29, .pointer (some ⟨p, 0, none⟩), .pointer (some ⟨p, 0, none⟩), u32, u33, u34, u35, u36, u37, u38, u39, u40, u41, u42, u43, u44, u45, u46, u47, u48], rfl, rfl, u28, u29, .pointer (some ⟨p, 0, none⟩), .pointer (some ⟨p, 0, none⟩), u32, u33, u34, u35, u36, u37, u38, u39, u40, u41, u42, u43, u44, u45, u46, u47, u48, rfl, ?_⟩
            exact ⟨fun h21 => hJ (fun h' => h21 (done_mono h')),
              fun h => f0 (done_other (by decide) h),
              fun h h8 => f1 (done_other (by decide) h) (fun h' => h8 (done_mono h')),
              fun _ => rfl,
              fun _ => rfl,
              fun h => f4 (done_other (by decide) h),
              fun h => f5 (done_other (by decide) h),
              fun h => f6 (done_other (by decide) h),
              fun h => f7 (done_other (by decide) h),
              fun h h11 => f8 (done_other (by decide) h) (fun h' => h11 (done_mono h')),
              fun h => f9 (done_other (by decide) h),
              fun h h11 => by
                obtain ⟨g, g1, g2, g3, g4⟩ := f10 (done_other (by decide) h) (fun h' => h11 (done_mono h'))
                exact ⟨g, g1, g2, fun h1 h8 => g3 (done_other (by decide) h1) (fun h' => h8 (done_mono h')), fun h8 => g4 (done_other (by decide) h8)⟩,
              fun h h18 => f11 (done_other (by decide) h) (fun h' => h18 (done_mono h')),
              fun h => f12 (done_other (by decide) h),
              fun h => f13 (done_other (by decide) h),
              fun h => f14 (done_other (by decide) h),
              fun h => f15 (done_other (by decide) h),
              fun h => f16 (done_other (by decide) h),
              fun h => f17 (done_other (by decide) h),
              fun h => f18 (done_other (by decide) h),
              fun h => f19 (done_other (by decide) h),
              fun h => f20 (done_other (by decide) h),
              fun h => f21 (done_other (by decide) h)⟩
          · -- operation 4
            simp only [List.getElem?_cons_zero, List.getElem?_cons_succ, Option.some.injEq] at ho
            subst ho
            have n21 : ¬ Done listed 21 := fun h => hnd (done_of_waits (hcl 21 _ rfl h) (i := 4) (by kernel_rfl))
            have d3 := done_of_waits hd (i := 3) (by kernel_rfl)
            have hb5 := hJ n21
            have e5 := (hb5.cell (p := ⟨p, 0, none⟩) pl).trans e0
            have y0 := (hb5.cell (p := ⟨bx, 0, none⟩) xl).trans x0
            have y1 := (hb5.cell (p := ⟨bx, 1, none⟩) xl).trans x1
            have hs5 := hb5.size
            have pl5 : p < w5.heap.size := by omega
            have xl5 : bx < w5.heap.size := by omega
            have hsl : 4 < listed.size := by rw [hsz]; decide
            rw [f3 d3]
            simp only [frameOf, List.take_succ_cons, List.take_zero, List.drop_succ_cons, List.drop_zero, List.cons_append, List.nil_append, Nat.reduceAdd]
            refine wpOp_step rfl rfl (fun K hK => ?_)
            go_simp
            refine hK _ _ ⟨[u28, u29, u30, .pointer (some ⟨p, 0, none⟩), .pointer (some ⟨p, 0, none⟩), u33, u34, u35, u36, u37, u38, u39, u40, u41, u42, u43, u44, u45, u46, u47, u48], rfl, rfl, u28, u29, u30, .pointer (some ⟨p, 0, none⟩), .pointer (some ⟨p, 0, none⟩), u33, u34, u35, u36, u37, u38, u39, u40, u41, u42, u43, u44, u45, u46, u47, u48, rfl, ?_⟩
            exact ⟨fun h21 => hJ (fun h' => h21 (done_mono h')),
              fun h => f0 (done_other (by decide) h),
              fun h h8 => f1 (done_other (by decide) h) (fun h' => h8 (done_mono h')),
              fun h => f2 (done_other (by decide) h),
              fun _ => rfl,
              fun _ => rfl,
              fun h => f5 (done_other (by decide) h),
              fun h => f6 (done_other (by decide) h),
              fun h => f7 (done_other (by decide) h),
              fun h h11 => f8 (done_other (by decide) h) (fun h' => h11 (done_mono h')),
              fun h => f9 (done_other (by decide) h),
              fun h h11 => by
                obtain ⟨g, g1, g2, g3, g4⟩ := f10 (done_other (by decide) h) (fun h' => h11 (done_mono h'))
                exact ⟨g, g1, g2, fun h1 h8 => g3 (done_other (by decide) h1) (fun h' => h8 (done_mono h')), fun h8 => g4 (done_other (by decide) h8)⟩,
              fun h h18 => f11 (done_other (by decide) h) (fun h' => h18 (done_mono h')),
              fun h => f12 (done_other (by decide) h),
              fun h => f13 (done_other (by decide) h),
              fun h => f14 (done_other (by decide) h),
              fun h => f15 (done_other (by decide) h),
              fun h => f16 (done_other (by decide) h),
              fun h => f17 (done_other (by decide) h),
              fun h => f18 (done_other (by decide) h),
              fun h => f19 (done_other (by decide) h),
              fun h => f20 (done_other (by decide) h),
              fun h => f21 (done_other (by decide) h)⟩
          · -- operation 5
            simp only [List.getElem?_cons_zero, List.getElem?_cons_succ, Option.some.injEq] at ho
            subst ho
            have n21 : ¬ Done listed 21 := fun h => hnd (done_of_waits (hcl 21 _ rfl h) (i := 5) (by kernel_rfl))
            have d4 := done_of_waits hd (i := 4) (by kernel_rfl)
            have hb5 := hJ n21
            have e5 := (hb5.cell (p := ⟨p, 0, none⟩) pl).trans e0
            have y0 := (hb5.cell (p := ⟨bx, 0, none⟩) xl).trans x0
            have y1 := (hb5.cell (p := ⟨bx, 1, none⟩) xl).trans x1
            have hs5 := hb5.size
            have pl5 : p < w5.heap.size := by omega
            have xl5 : bx < w5.heap.size := by omega
            have hsl : 5 < listed.size := by rw [hsz]; decide
            rw [f4 d4]
            simp only [frameOf, List.take_succ_cons, List.take_zero, List.drop_succ_cons, List.drop_zero, List.cons_append, List.nil_append, Nat.reduceAdd]
            refine wpOp_step rfl rfl (fun K hK => ?_)
            go_simp
            refine hK _ _ ⟨[u28, u29, u30, u31, .pointer (some ⟨p, 0, none⟩), .slice A1 R.length cap, u34, u35, u36, u37, u38, u39, u40, u41, u42, u43, u44, u45, u46, u47, u48], rfl, rfl, u28, u29, u30, u31, .pointer (some ⟨p, 0, none⟩), .slice A1 R.length cap, u34, u35, u36, u37, u38, u39, u40, u41, u42, u43, u44, u45, u46, u47, u48, rfl, ?_⟩
            exact ⟨fun h21 => hJ (fun h' => h21 (done_mono h')),
              fun h => f0 (done_other (by decide) h),
              fun h h8 => f1 (done_other (by decide) h) (fun h' => h8 (done_mono h')),
              fun h => f2 (done_other (by decide) h),
              fun h => f3 (done_other (by decide) h),
              fun _ => rfl,
              fun _ => rfl,
              fun h => f6 (done_other (by decide) h),
              fun h => f7 (done_other (by decide) h),
              fun h h11 => f8 (done_other (by decide) h) (fun h' => h11 (done_mono h')),
              fun h => f9 (done_other (by decide) h),
              fun h h11 => by
                obtain ⟨g, g1, g2, g3, g4⟩ := f10 (done_other (by decide) h) (fun h' => h11 (done_mono h'))
                exact ⟨g, g1, g2, fun h1 h8 => g3 (done_other (by decide) h1) (fun h' => h8 (done_mono h')), fun h8 => g4 (done_other (by decide) h8)⟩,
              fun h h18 => f11 (done_other (by decide) h) (fun h' => h18 (done_mono h')),
              fun h => f12 (done_other (by decide) h),
              fun h => f13 (done_other (by decide) h),
              fun h => f14 (done_other (by decide) h),
              fun h => f15 (done_other (by decide) h),
              fun h => f16 (done_other (by decide) h),
              fun h => f17 (done_other (by decide) h),
              fun h => f18 (done_other (by decide) h),
              fun h => f19 (done_other (by decide) h),
              fun h => f20 (done_other (by decide) h),
              fun h => f21 (done_other (by decide) h)⟩
          · -- operation 6
            simp only [List.getElem?_cons_zero, List.getElem?_cons_succ, Option.some.injEq] at ho
            subst ho
            have n21 : ¬ Done listed 21 := fun h => hnd (done_of_waits (hcl 21 _ rfl h) (i := 6) (by kernel_rfl))
            have hb5 := hJ n21
            have e5 := (hb5.cell (p := ⟨p, 0, none⟩) pl).trans e0
            have y0 := (hb5.cell (p := ⟨bx, 0, none⟩) xl).trans x0
            have y1 := (hb5.cell (p := ⟨bx, 1, none⟩) xl).trans x1
            have hs5 := hb5.size
            have pl5 : p < w5.heap.size := by omega
            have xl5 : bx < w5.heap.size := by omega
            have hsl : 6 < listed.size := by rw [hsz]; decide
            simp only [frameOf, List.take_succ_cons, List.take_zero, List.drop_succ_cons, List.drop_zero, List.cons_append, List.nil_append, Nat.reduceAdd]
            refine wpOp_step rfl rfl (fun K hK => ?_)
            go_simp
            refine hK _ _ ⟨[u28, u29, u30, u31, u32, u33, .int .i64 (n : Int), u35, u36, u37, u38, u39, u40, u41, u42, u43, u44, u45, u46, u47, u48], rfl, rfl, u28, u29, u30, u31, u32, u33, .int .i64 (n : Int), u35, u36, u37, u38, u39, u40, u41, u42, u43, u44, u45, u46, u47, u48, rfl, ?_⟩
            exact ⟨fun h21 => hJ (fun h' => h21 (done_mono h')),
              fun h => f0 (done_other (by decide) h),
              fun h h8 => f1 (done_other (by decide) h) (fun h' => h8 (done_mono h')),
              fun h => f2 (done_other (by decide) h),
              fun h => f3 (done_other (by decide) h),
              fun h => f4 (done_other (by decide) h),
              fun h => f5 (done_other (by decide) h),
              fun _ => rfl,
              fun h => f7 (done_other (by decide) h),
              fun h h11 => f8 (done_other (by decide) h) (fun h' => h11 (done_mono h')),
              fun h => f9 (done_other (by decide) h),
              fun h h11 => by
                obtain ⟨g, g1, g2, g3, g4⟩ := f10 (done_other (by decide) h) (fun h' => h11 (done_mono h'))
                exact ⟨g, g1, g2, fun h1 h8 => g3 (done_other (by decide) h1) (fun h' => h8 (done_mono h')), fun h8 => g4 (done_other (by decide) h8)⟩,
              fun h h18 => f11 (done_other (by decide) h) (fun h' => h18 (done_mono h')),
              fun h => f12 (done_other (by decide) h),
              fun h => f13 (done_other (by decide) h),
              fun h => f14 (done_other (by decide) h),
              fun h => f15 (done_other (by decide) h),
              fun h => f16 (done_other (by decide) h),
              fun h => f17 (done_other (by decide) h),
              fun h => f18 (done_other (by decide) h),
              fun h => f19 (done_other (by decide) h),
              fun h => f20 (done_other (by decide) h),
              fun h => f21 (done_other (by decide) h)⟩
          · -- operation 7
            simp only [List.getElem?_cons_zero, List.getElem?_cons_succ, Option.some.injEq] at ho
            subst ho
            have n21 : ¬ Done listed 21 := fun h => hnd (done_of_waits (hcl 21 _ rfl h) (i := 7) (by kernel_rfl))
            have d5 := done_of_waits hd (i := 5) (by kernel_rfl)
            have d6 := done_of_waits hd (i := 6) (by kernel_rfl)
            have hb5 := hJ n21
            have e5 := (hb5.cell (p := ⟨p, 0, none⟩) pl).trans e0
            have y0 := (hb5.cell (p := ⟨bx, 0, none⟩) xl).trans x0
            have y1 := (hb5.cell (p := ⟨bx, 1, none⟩) xl).trans x1
            have hs5 := hb5.size
            have pl5 : p < w5.heap.size := by omega
            have xl5 : bx < w5.heap.size := by omega
            have hsl : 7 < listed.size := by rw [hsz]; decide
            rw [f5 d5]
            rw [f6 d6]
            simp only [frameOf, List.take_succ_cons, List.take_zero, List.drop_succ_cons, List.drop_zero, List.cons_append, List.nil_append, Nat.reduceAdd]
            refine wpOp_step rfl rfl (fun K hK => ?_)
            go_simp
            refine hK _ _ ⟨[u28, u29, u30, u31, u32, .slice A1 R.length cap, .int .i64 (n : Int), .slice A1 n cap, u36, u37, u38, u39, u40, u41, u42, u43, u44, u45, u46, u47, u48], rfl, rfl, u28, u29, u30, u31, u32, .slice A1 R.length cap, .int .i64 (n : Int), .slice A1 n cap, u36, u37, u38, u39, u40, u41, u42, u43, u44, u45, u46, u47, u48, rfl, ?_⟩
            exact ⟨fun h21 => hJ (fun h' => h21 (done_mono h')),
              fun h => f0 (done_other (by decide) h),
              fun h h8 => f1 (done_other (by decide) h) (fun h' => h8 (done_mono h')),
              fun h => f2 (done_other (by decide) h),
              fun h => f3 (done_other (by decide) h),
              fun h => f4 (done_other (by decide) h),
              fun _ => rfl,
              fun _ => rfl,
              fun _ => rfl,
              fun h h11 => f8 (done_other (by decide) h) (fun h' => h11 (done_mono h')),
              fun h => f9 (done_other (by decide) h),
              fun h h11 => by
                obtain ⟨g, g1, g2, g3, g4⟩ := f10 (done_other (by decide) h) (fun h' => h11 (done_mono h'))
                exact ⟨g, g1, g2, fun h1 h8 => g3 (done_other (by decide) h1) (fun h' => h8 (done_mono h')), fun h8 => g4 (done_other (by decide) h8)⟩,
              fun h h18 => f11 (done_other (by decide) h) (fun h' => h18 (done_mono h')),
              fun h => f12 (done_other (by decide) h),
              fun h => f13 (done_other (by decide) h),
              fun h => f14 (done_other (by decide) h),
              fun h => f15 (done_other (by decide) h),
              fun h => f16 (done_other (by decide) h),
              fun h => f17 (done_other (by decide) h),
              fun h => f18 (done_other (by decide) h),
              fun h => f19 (done_other (by decide) h),
              fun h => f20 (done_other (by decide) h),
              fun h => f21 (done_other (by decide) h)⟩
          · -- operation 8
            simp only [List.getElem?_cons_zero, List.getElem?_cons_succ, Option.some.injEq] at ho
            subst ho
            have n21 : ¬ Done listed 21 := fun h => hnd (done_of_waits (hcl 21 _ rfl h) (i := 8) (by kernel_rfl))
            have d1 := done_of_waits hd (i := 1) (by kernel_rfl)
            have d7 := done_of_waits hd (i := 7) (by kernel_rfl)
            have n11 : ¬ Done listed 11 := fun h => hnd (done_of_waits (hcl 11 _ rfl h) (i := 8) (by kernel_rfl))
            have n18 : ¬ Done listed 18 := fun h => n11 (done_of_waits (hcl 18 _ rfl h) (i := 11) (by kernel_rfl))
            have hb5 := hJ n21
            have e5 := (hb5.cell (p := ⟨p, 0, none⟩) pl).trans e0
            have y0 := (hb5.cell (p := ⟨bx, 0, none⟩) xl).trans x0
            have y1 := (hb5.cell (p := ⟨bx, 1, none⟩) xl).trans x1
            have hs5 := hb5.size
            have pl5 : p < w5.heap.size := by omega
            have xl5 : bx < w5.heap.size := by omega
            have hsl : 8 < listed.size := by rw [hsz]; decide
            rw [f7 d7]
            obtain ⟨⟨g29, hg29⟩, hrow⟩ := f1 d1 hnd
            have f10' := f10
            rw [hg29] at hrow f10' ⊢
            simp only [frameOf, List.take_succ_cons, List.take_zero, List.drop_succ_cons, List.drop_zero, List.cons_append, List.nil_append, Nat.reduceAdd]
            refine wpOp_step rfl rfl (fun K hK => ?_)
            refine wp_append_cells w5 (.tmp 29) (.tmp 35) 32 rfl W4.heap.size 27 i27 _ 2 16 Try.underlying32 hi27 hz0 hz1 hz2 rfl (by omega) (.slice (some ⟨g29, 0, none⟩) 0 0) 0 [] rfl hrow A1 n cap (refC (R.take n)) rfl HC3.out (by rw [refC_length, List.length_take]; omega) (HCT.out w5 hb5) (refC_one _) (by unfold maxLen; omega) (by omega) hs5 ?_
            intro v8 w8 hown8 hg8 hat8
            simp only [Act.put, List.setIfInBounds_toArray, List.set_cons_zero, List.set_cons_succ]
            refine hK _ _ ⟨[u28, .slice (some ⟨g29, 0, none⟩) 0 0, u30, u31, u32, u33, u34, .slice A1 n cap, v8, u37, u38, u39, u40, u41, u42, u43, u44, u45, u46, u47, u48], rfl, rfl, u28, .slice (some ⟨g29, 0, none⟩) 0 0, u30, u31, u32, u33, u34, .slice A1 n cap, v8, u37, u38, u39, u40, u41, u42, u43, u44, u45, u46, u47, u48, rfl, ?_⟩
            exact ⟨fun h21 => (hJ n21).grown hg8 hs5 (fun g hg => own_block hrow g hg),
              fun h => f0 (done_other (by decide) h),
              fun _ h8 => absurd (done_same hsl) h8,
              fun h => f2 (done_other (by decide) h),
              fun h => f3 (done_other (by decide) h),
              fun h => f4 (done_other (by decide) h),
              fun h => f5 (done_other (by decide) h),
              fun h => f6 (done_other (by decide) h),
              fun _ => rfl,
              fun _ _ => by simpa using hown8,
              fun h => f9 (done_other (by decide) h),
              fun h h11 => by
                obtain ⟨g, g1, g2, g3, g4⟩ := f10' (done_other (by decide) h) (fun h' => h11 (done_mono h'))
                have hne := g3 d1 hnd
                have hgl := lt_of_heap g2
                refine ⟨g, g1, (hg8.block g hgl (fun e => hne e.symm)).trans g2, fun _ h8 => absurd (done_same hsl) h8, fun _ he => ?_⟩
                rcases hat8 with e | e
                · exact hne (e ▸ he)
                · rw [e] at he
                  injection he with he
                  omega,
              fun h => absurd (done_other (by decide) h) n11,
              fun h => f12 (done_other (by decide) h),
              fun h => f13 (done_other (by decide) h),
              fun h => f14 (done_other (by decide) h),
              fun h => f15 (done_other (by decide) h),
              fun h => f16 (done_other (by decide) h),
              fun h => f17 (done_other (by decide) h),
              fun h => absurd (done_other (by decide) h) n18,
              fun h => f19 (done_other (by decide) h),
              fun h => f20 (done_other (by decide) h),
              fun h => absurd (done_other (by decide) h) n21⟩
          · -- operation 9
            simp only [List.getElem?_cons_zero, List.getElem?_cons_succ, Option.some.injEq] at ho
            subst ho
            have n21 : ¬ Done listed 21 := fun h => hnd (done_of_waits (hcl 21 _ rfl h) (i := 9) (by kernel_rfl))
            have hb5 := hJ n21
            have e5 := (hb5.cell (p := ⟨p, 0, none⟩) pl).trans e0
            have y0 := (hb5.cell (p := ⟨bx, 0, none⟩) xl).trans x0
            have y1 := (hb5.cell (p := ⟨bx, 1, none⟩) xl).trans x1
            have hs5 := hb5.size
            have pl5 : p < w5.heap.size := by omega
            have xl5 : bx < w5.heap.size := by omega
            have hsl : 9 < listed.size := by rw [hsz]; decide
            simp only [frameOf, List.take_succ_cons, List.take_zero, List.drop_succ_cons, List.drop_zero, List.cons_append, List.nil_append, Nat.reduceAdd]
            refine wpOp_step rfl rfl (fun K hK => ?_)
            go_simp
            refine hK _ _ ⟨[u28, u29, u30, u31, u32, u33, u34, u35, u36, .agg #[.int .i64 k, .int .i64 d], u38, u39, u40, u41, u42, u43, u44, u45, u46, u47, u48], rfl, rfl, u28, u29, u30, u31, u32, u33, u34, u35, u36, .agg #[.int .i64 k, .int .i64 d], u38, u39, u40, u41, u42, u43, u44, u45, u46, u47, u48, rfl, ?_⟩
            exact ⟨fun h21 => hJ (fun h' => h21 (done_mono h')),
              fun h => f0 (done_other (by decide) h),
              fun h h8 => f1 (done_other (by decide) h) (fun h' => h8 (done_mono h')),
              fun h => f2 (done_other (by decide) h),
              fun h => f3 (done_other (by decide) h),
              fun h => f4 (done_other (by decide) h),
              fun h => f5 (done_other (by decide) h),
              fun h => f6 (done_other (by decide) h),
              fun h => f7 (done_other (by decide) h),
              fun h h11 => f8 (done_other (by decide) h) (fun h' => h11 (done_mono h')),
              fun _ => rfl,
              fun h h11 => by
                obtain ⟨g, g1, g2, g3, g4⟩ := f10 (done_other (by decide) h) (fun h' => h11 (done_mono h'))
                exact ⟨g, g1, g2, fun h1 h8 => g3 (done_other (by decide) h1) (fun h' => h8 (done_mono h')), fun h8 => g4 (done_other (by decide) h8)⟩,
              fun h h18 => f11 (done_other (by decide) h) (fun h' => h18 (done_mono h')),
              fun h => f12 (done_other (by decide) h),
              fun h => f13 (done_other (by decide) h),
              fun h => f14 (done_other (by decide) h),
              fun h => f15 (done_other (by decide) h),
              fun h => f16 (done_other (by decide) h),
              fun h => f17 (done_other (by decide) h),
              fun h => f18 (done_other (by decide) h),
              fun h => f19 (done_other (by decide) h),
              fun h => f20 (done_other (by decide) h),
              fun h => f21 (done_other (by decide) h)⟩
          · -- operation 10
            simp only [List.getElem?_cons_zero, List.getElem?_cons_succ, Option.some.injEq] at ho
            subst ho
            have n21 : ¬ Done listed 21 := fun h => hnd (done_of_waits (hcl 21 _ rfl h) (i := 10) (by kernel_rfl))
            have d9 := done_of_waits hd (i := 9) (by kernel_rfl)
            have n11 : ¬ Done listed 11 := fun h => hnd (done_of_waits (hcl 11 _ rfl h) (i := 10) (by kernel_rfl))
            have hb5 := hJ n21
            have e5 := (hb5.cell (p := ⟨p, 0, none⟩) pl).trans e0
            have y0 := (hb5.cell (p := ⟨bx, 0, none⟩) xl).trans x0
            have y1 := (hb5.cell (p := ⟨bx, 1, none⟩) xl).trans x1
            have hs5 := hb5.size
            have pl5 : p < w5.heap.size := by omega
            have xl5 : bx < w5.heap.size := by omega
            have hsl : 10 < listed.size := by rw [hsz]; decide
            rw [f9 d9]
            simp only [frameOf, List.take_succ_cons, List.take_zero, List.drop_succ_cons, List.drop_zero, List.cons_append, List.nil_append, Nat.reduceAdd]
            refine wpOp_step rfl rfl (fun K hK => ?_)
            go_simp
            have hE : Ext w5 (w5.alloc (.cells #[.int .i64 k, .int .i64 d] 27)) := (Ext.refl _).alloc _
            refine hK _ _ ⟨[u28, u29, u30, u31, u32, u33, u34, u35, u36, .agg #[.int .i64 k, .int .i64 d], .slice (some ⟨w5.heap.size, 0, none⟩) 1 1, u39, u40, u41, u42, u43, u44, u45, u46, u47, u48], rfl, rfl, u28, u29, u30, u31, u32, u33, u34, u35, u36, .agg #[.int .i64 k, .int .i64 d], .slice (some ⟨w5.heap.size, 0, none⟩) 1 1, u39, u40, u41, u42, u43, u44, u45, u46, u47, u48, rfl, ?_⟩
            exact ⟨fun h21 => (hJ n21).trans (hE.below.mono hs5),
              fun h => f0 (done_other (by decide) h),
              fun h h8 => ⟨(f1 (done_other (by decide) h) (fun h' => h8 (done_mono h'))).1, own_ext (f1 (done_other (by decide) h) (fun h' => h8 (done_mono h'))).2 hE⟩,
              fun h => f2 (done_other (by decide) h),
              fun h => f3 (done_other (by decide) h),
              fun h => f4 (done_other (by decide) h),
              fun h => f5 (done_other (by decide) h),
              fun h => f6 (done_other (by decide) h),
              fun h => f7 (done_other (by decide) h),
              fun h h11 => own_ext (f8 (done_other (by decide) h) (fun h' => h11 (done_mono h'))) hE,
              fun _ => rfl,
              fun _ _ => ⟨_, rfl, heap_alloc_new _ _, fun h1 h8 he => by
                  have := own_old (f1 (done_other (by decide) h1) (fun h' => h8 (done_mono h'))).2 _ he
                  omega, fun h8 he => by
                  have := own_old (f8 (done_other (by decide) h8) n11) _ he
                  omega⟩,
              fun h h18 => own_ext (f11 (done_other (by decide) h) (fun h' => h18 (done_mono h'))) hE,
              fun h => f12 (done_other (by decide) h),
              fun h => f13 (done_other (by decide) h),
              fun h => f14 (done_other (by decide) h),
              fun h => f15 (done_other (by decide) h),
              fun h => f16 (done_other (by decide) h),
              fun h => f17 (done_other (by decide) h),
              fun h => own_ext (f18 (done_other (by decide) h)) hE,
              fun h => f19 (done_other (by decide) h),
              fun h => f20 (done_other (by decide) h),
              fun h => absurd (done_other (by decide) h) n21⟩
          · -- operation 11
            simp only [List.getElem?_cons_zero, List.getElem?_cons_succ, Option.some.injEq] at ho
            subst ho
            have n21 : ¬ Done listed 21 := fun h => hnd (done_of_waits (hcl 21 _ rfl h) (i := 11) (by kernel_rfl))
            have d8 := done_of_waits hd (i := 8) (by kernel_rfl)
            have d10 := done_of_waits hd (i := 10) (by kernel_rfl)
            have n18 : ¬ Done listed 18 := fun h => hnd (done_of_waits (hcl 18 _ rfl h) (i := 11) (by kernel_rfl))
            have hb5 := hJ n21
            have e5 := (hb5.cell (p := ⟨p, 0, none⟩) pl).trans e0
            have y0 := (hb5.cell (p := ⟨bx, 0, none⟩) xl).trans x0
            have y1 := (hb5.cell (p := ⟨bx, 1, none⟩) xl).trans x1
            have hs5 := hb5.size
            have pl5 : p < w5.heap.size := by omega
            have xl5 : bx < w5.heap.size := by omega
            have hsl : 11 < listed.size := by rw [hsz]; decide
            have hrow := f8 d8 hnd
            obtain ⟨g38, hg38, hb38, _, hne38⟩ := f10 d10 hnd
            rw [hg38]
            simp only [frameOf, List.take_succ_cons, List.take_zero, List.drop_succ_cons, List.drop_zero, List.cons_append, List.nil_append, Nat.reduceAdd]
            refine wpOp_step rfl rfl (fun K hK => ?_)
            refine wp_append_cells w5 (.tmp 36) (.tmp 38) 32 rfl W4.heap.size 27 i27 _ 2 16 Try.underlying32 hi27 hz0 hz1 hz2 rfl (by omega) u36 n (refC (R.take n)) rfl hrow (some ⟨g38, 0, none⟩) 1 1 [.int .i64 k, .int .i64 d] rfl (by intro h; cases h) rfl (fun _ => ⟨g38, 0, rfl, lt_of_heap hb38, fun j u hj => by rw [cell_of_row _ _ _ _ _ _ hb38, Nat.zero_add]; simpa using hj⟩) (by simp [Value.oneCell']) (by unfold maxLen; omega) (by omega) hs5 ?_
            intro v8 w8 hown8 hg8 hat8
            simp only [Act.put, List.setIfInBounds_toArray, List.set_cons_zero, List.set_cons_succ]
            refine hK _ _ ⟨[u28, u29, u30, u31, u32, u33, u34, u35, u36, u37, .slice (some ⟨g38, 0, none⟩) 1 1, v8, u40, u41, u42, u43, u44, u45, u46, u47, u48], rfl, rfl, u28, u29, u30, u31, u32, u33, u34, u35, u36, u37, .slice (some ⟨g38, 0, none⟩) 1 1, v8, u40, u41, u42, u43, u44, u45, u46, u47, u48, rfl, ?_⟩
            exact ⟨fun h21 => (hJ n21).grown hg8 hs5 (fun g hg => own_block hrow g hg),
              fun h => f0 (done_other (by decide) h),
              fun _ h8 => absurd (done_mono d8) h8,
              fun h => f2 (done_other (by decide) h),
              fun h => f3 (done_other (by decide) h),
              fun h => f4 (done_other (by decide) h),
              fun h => f5 (done_other (by decide) h),
              fun h => f6 (done_other (by decide) h),
              fun h => f7 (done_other (by decide) h),
              fun _ h11 => absurd (done_same hsl) h11,
              fun h => f9 (done_other (by decide) h),
              fun _ h11 => absurd (done_same hsl) h11,
              fun _ _ => hown8,
              fun h => f12 (done_other (by decide) h),
              fun h => f13 (done_other (by decide) h),
              fun h => f14 (done_other (by decide) h),
              fun h => f15 (done_other (by decide) h),
              fun h => f16 (done_other (by decide) h),
              fun h => f17 (done_other (by decide) h),
              fun h => absurd (done_other (by decide) h) n18,
              fun h => f19 (done_other (by decide) h),
              fun h => f20 (done_other (by decide) h),
              fun h => absurd (done_other (by decide) h) n21⟩
          · -- operation 12
            simp only [List.getElem?_cons_zero, List.getElem?_cons_succ, Option.some.injEq] at ho
            subst ho
            have n21 : ¬ Done listed 21 := fun h => hnd (done_of_waits (hcl 21 _ rfl h) (i := 12) (by kernel_rfl))
            have hb5 := hJ n21
            have e5 := (hb5.cell (p := ⟨p, 0, none⟩) pl).trans e0
            have y0 := (hb5.cell (p := ⟨bx, 0, none⟩) xl).trans x0
            have y1 := (hb5.cell (p := ⟨bx, 1, none⟩) xl).trans x1
            have hs5 := hb5.size
            have pl5 : p < w5.heap.size := by omega
            have xl5 : bx < w5.heap.size := by omega
            have hsl : 12 < listed.size := by rw [hsz]; decide
            simp only [frameOf, List.take_succ_cons, List.take_zero, List.drop_succ_cons, List.drop_zero, List.cons_append, List.nil_append, Nat.reduceAdd]
            refine wpOp_step rfl rfl (fun K hK => ?_)
            go_simp
            refine hK _ _ ⟨[u28, u29, u30, u31, u32, u33, u34, u35, u36, u37, u38, u39, .pointer (some ⟨p, 0, none⟩), u41, u42, u43, u44, u45, u46, u47, u48], rfl, rfl, u28, u29, u30, u31, u32, u33, u34, u35, u36, u37, u38, u39, .pointer (some ⟨p, 0, none⟩), u41, u42, u43, u44, u45, u46, u47, u48, rfl, ?_⟩
            exact ⟨fun h21 => hJ (fun h' => h21 (done_mono h')),
              fun h => f0 (done_other (by decide) h),
              fun h h8 => f1 (done_other (by decide) h) (fun h' => h8 (done_mono h')),
              fun h => f2 (done_other (by decide) h),
              fun h => f3 (done_other (by decide) h),
              fun h => f4 (done_other (by decide) h),
              fun h => f5 (done_other (by decide) h),
              fun h => f6 (done_other (by decide) h),
              fun h => f7 (done_other (by decide) h),
              fun h h11 => f8 (done_other (by decide) h) (fun h' => h11 (done_mono h')),
              fun h => f9 (done_other (by decide) h),
              fun h h11 => by
                obtain ⟨g, g1, g2, g3, g4⟩ := f10 (done_other (by decide) h) (fun h' => h11 (done_mono h'))
                exact ⟨g, g1, g2, fun h1 h8 => g3 (done_other (by decide) h1) (fun h' => h8 (done_mono h')), fun h8 => g4 (done_other (by decide) h8)⟩,
              fun h h18 => f11 (done_other (by decide) h) (fun h' => h18 (done_mono h')),
              fun _ => rfl,
              fun h => f13 (done_other (by decide) h),
              fun h => f14 (done_other (by decide) h),
              fun h => f15 (done_other (by decide) h),
              fun h => f16 (done_other (by decide) h),
              fun h => f17 (done_other (by decide) h),
              fun h => f18 (done_other (by decide) h),
              fun h => f19 (done_other (by decide) h),
              fun h => f20 (done_other (by decide) h),
              fun h => f21 (done_other (by decide) h)⟩
          · -- operation 13
            simp only [List.getElem?_cons_zero, List.getElem?_cons_succ, Option.some.injEq] at ho
            subst ho
            have n21 : ¬ Done listed 21 := fun h => hnd (done_of_waits (hcl 21 _ rfl h) (i := 13) (by kernel_rfl))
            have d12 := done_of_waits hd (i := 12) (by kernel_rfl)
            have hb5 := hJ n21
            have e5 := (hb5.cell (p := ⟨p, 0, none⟩) pl).trans e0
            have y0 := (hb5.cell (p := ⟨bx, 0, none⟩) xl).trans x0
            have y1 := (hb5.cell (p := ⟨bx, 1, none⟩) xl).trans x1
            have hs5 := hb5.size
            have pl5 : p < w5.heap.size := by omega
            have xl5 : bx < w5.heap.size := by omega
            have hsl : 13 < listed.size := by rw [hsz]; decide
            rw [f12 d12]
            simp only [frameOf, List.take_succ_cons, List.take_zero, List.drop_succ_cons, List.drop_zero, List.cons_append, List.nil_append, Nat.reduceAdd]
            refine wpOp_step rfl rfl (fun K hK => ?_)
            go_simp
            refine hK _ _ ⟨[u28, u29, u30, u31, u32, u33, u34, u35, u36, u37, u38, u39, .pointer (some ⟨p, 0, none⟩), .pointer (some ⟨p, 0, none⟩), u42, u43, u44, u45, u46, u47, u48], rfl, rfl, u28, u29, u30, u31, u32, u33, u34, u35, u36, u37, u38, u39, .pointer (some ⟨p, 0, none⟩), .pointer (some ⟨p, 0, none⟩), u42, u43, u44, u45, u46, u47, u48, rfl, ?_⟩
            exact ⟨fun h21 => hJ (fun h' => h21 (done_mono h')),
              fun h => f0 (done_other (by decide) h),
              fun h h8 => f1 (done_other (by decide) h) (fun h' => h8 (done_mono h')),
              fun h => f2 (done_other (by decide) h),
              fun h => f3 (done_other (by decide) h),
              fun h => f4 (done_other (by decide) h),
              fun h => f5 (done_other (by decide) h),
              fun h => f6 (done_other (by decide) h),
              fun h => f7 (done_other (by decide) h),
              fun h h11 => f8 (done_other (by decide) h) (fun h' => h11 (done_mono h')),
              fun h => f9 (done_other (by decide) h),
              fun h h11 => by
                obtain ⟨g, g1, g2, g3, g4⟩ := f10 (done_other (by decide) h) (fun h' => h11 (done_mono h'))
                exact ⟨g, g1, g2, fun h1 h8 => g3 (done_other (by decide) h1) (fun h' => h8 (done_mono h')), fun h8 => g4 (done_other (by decide) h8)⟩,
              fun h h18 => f11 (done_other (by decide) h) (fun h' => h18 (done_mono h')),
              fun _ => rfl,
              fun _ => rfl,
              fun h => f14 (done_other (by decide) h),
              fun h => f15 (done_other (by decide) h),
              fun h => f16 (done_other (by decide) h),
              fun h => f17 (done_other (by decide) h),
              fun h => f18 (done_other (by decide) h),
              fun h => f19 (done_other (by decide) h),
              fun h => f20 (done_other (by decide) h),
              fun h => f21 (done_other (by decide) h)⟩
          · -- operation 14
            simp only [List.getElem?_cons_zero, List.getElem?_cons_succ, Option.some.injEq] at ho
            subst ho
            have n21 : ¬ Done listed 21 := fun h => hnd (done_of_waits (hcl 21 _ rfl h) (i := 14) (by kernel_rfl))
            have d13 := done_of_waits hd (i := 13) (by kernel_rfl)
            have hb5 := hJ n21
            have e5 := (hb5.cell (p := ⟨p, 0, none⟩) pl).trans e0
            have y0 := (hb5.cell (p := ⟨bx, 0, none⟩) xl).trans x0
            have y1 := (hb5.cell (p := ⟨bx, 1, none⟩) xl).trans x1
            have hs5 := hb5.size
            have pl5 : p < w5.heap.size := by omega
            have xl5 : bx < w5.heap.size := by omega
            have hsl : 14 < listed.size := by rw [hsz]; decide
            rw [f13 d13]
            simp only [frameOf, List.take_succ_cons, List.take_zero, List.drop_succ_cons, List.drop_zero, List.cons_append, List.nil_append, Nat.reduceAdd]
            refine wpOp_step rfl rfl (fun K hK => ?_)
            go_simp
            refine hK _ _ ⟨[u28, u29, u30, u31, u32, u33, u34, u35, u36, u37, u38, u39, u40, .pointer (some ⟨p, 0, none⟩), .pointer (some ⟨p, 0, none⟩), u43, u44, u45, u46, u47, u48], rfl, rfl, u28, u29, u30, u31, u32, u33, u34, u35, u36, u37, u38, u39, u40, .pointer (some ⟨p, 0, none⟩), .pointer (some ⟨p, 0, none⟩), u43, u44, u45, u46, u47, u48, rfl, ?_⟩
            exact ⟨fun h21 => hJ (fun h' => h21 (done_mono h')),
              fun h => f0 (done_other (by decide) h),
              fun h h8 => f1 (done_other (by decide) h) (fun h' => h8 (done_mono h')),
              fun h => f2 (done_other (by decide) h),
              fun h => f3 (done_other (by decide) h),
              fun h => f4 (done_other (by decide) h),
              fun h => f5 (done_other (by decide) h),
              fun h => f6 (done_other (by decide) h),
              fun h => f7 (done_other (by decide) h),
              fun h h11 => f8 (done_other (by decide) h) (fun h' => h11 (done_mono h')),
              fun h => f9 (done_other (by decide) h),
              fun h h11 => by
                obtain ⟨g, g1, g2, g3, g4⟩ := f10 (done_other (by decide) h) (fun h' => h11 (done_mono h'))
                exact ⟨g, g1, g2, fun h1 h8 => g3 (done_other (by decide) h1) (fun h' => h8 (done_mono h')), fun h8 => g4 (done_other (by decide) h8)⟩,
              fun h h18 => f11 (done_other (by decide) h) (fun h' => h18 (done_mono h')),
              fun h => f12 (done_other (by decide) h),
              fun _ => rfl,
              fun _ => rfl,
              fun h => f15 (done_other (by decide) h),
              fun h => f16 (done_other (by decide) h),
              fun h => f17 (done_other (by decide) h),
              fun h => f18 (done_other (by decide) h),
              fun h => f19 (done_other (by decide) h),
              fun h => f20 (done_other (by decide) h),
              fun h => f21 (done_other (by decide) h)⟩
          · -- operation 15
            simp only [List.getElem?_cons_zero, List.getElem?_cons_succ, Option.some.injEq] at ho
            subst ho
            have n21 : ¬ Done listed 21 := fun h => hnd (done_of_waits (hcl 21 _ rfl h) (i := 15) (by kernel_rfl))
            have d14 := done_of_waits hd (i := 14) (by kernel_rfl)
            have hb5 := hJ n21
            have e5 := (hb5.cell (p := ⟨p, 0, none⟩) pl).trans e0
            have y0 := (hb5.cell (p := ⟨bx, 0, none⟩) xl).trans x0
            have y1 := (hb5.cell (p := ⟨bx, 1, none⟩) xl).trans x1
            have hs5 := hb5.size
            have pl5 : p < w5.heap.size := by omega
            have xl5 : bx < w5.heap.size := by omega
            have hsl : 15 < listed.size := by rw [hsz]; decide
            rw [f14 d14]
            simp only [frameOf, List.take_succ_cons, List.take_zero, List.drop_succ_cons, List.drop_zero, List.cons_append, List.nil_append, Nat.reduceAdd]
            refine wpOp_step rfl rfl (fun K hK => ?_)
            go_simp
            refine hK _ _ ⟨[u28, u29, u30, u31, u32, u33, u34, u35, u36, u37, u38, u39, u40, u41, .pointer (some ⟨p, 0, none⟩), .slice A1 R.length cap, u44, u45, u46, u47, u48], rfl, rfl, u28, u29, u30, u31, u32, u33, u34, u35, u36, u37, u38, u39, u40, u41, .pointer (some ⟨p, 0, none⟩), .slice A1 R.length cap, u44, u45, u46, u47, u48, rfl, ?_⟩
            exact ⟨fun h21 => hJ (fun h' => h21 (done_mono h')),
              fun h => f0 (done_other (by decide) h),
              fun h h8 => f1 (done_other (by decide) h) (fun h' => h8 (done_mono h')),
              fun h => f2 (done_other (by decide) h),
              fun h => f3 (done_other (by decide) h),
              fun h => f4 (done_other (by decide) h),
              fun h => f5 (done_other (by decide) h),
              fun h => f6 (done_other (by decide) h),
              fun h => f7 (done_other (by decide) h),
              fun h h11 => f8 (done_other (by decide) h) (fun h' => h11 (done_mono h')),
              fun h => f9 (done_other (by decide) h),
              fun h h11 => by
                obtain ⟨g, g1, g2, g3, g4⟩ := f10 (done_other (by decide) h) (fun h' => h11 (done_mono h'))
                exact ⟨g, g1, g2, fun h1 h8 => g3 (done_other (by decide) h1) (fun h' => h8 (done_mono h')), fun h8 => g4 (done_other (by decide) h8)⟩,
              fun h h18 => f11 (done_other (by decide) h) (fun h' => h18 (done_mono h')),
              fun h => f12 (done_other (by decide) h),
              fun h => f13 (done_other (by decide) h),
              fun _ => rfl,
              fun _ => rfl,
              fun h => f16 (done_other (by decide) h),
              fun h => f17 (done_other (by decide) h),
              fun h => f18 (done_other (by decide) h),
              fun h => f19 (done_other (by decide) h),
              fun h => f20 (done_other (by decide) h),
              fun h => f21 (done_other (by decide) h)⟩
          · -- operation 16
            simp only [List.getElem?_cons_zero, List.getElem?_cons_succ, Option.some.injEq] at ho
            subst ho
            have n21 : ¬ Done listed 21 := fun h => hnd (done_of_waits (hcl 21 _ rfl h) (i := 16) (by kernel_rfl))
            have hb5 := hJ n21
            have e5 := (hb5.cell (p := ⟨p, 0, none⟩) pl).trans e0
            have y0 := (hb5.cell (p := ⟨bx, 0, none⟩) xl).trans x0
            have y1 := (hb5.cell (p := ⟨bx, 1, none⟩) xl).trans x1
            have hs5 := hb5.size
            have pl5 : p < w5.heap.size := by omega
            have xl5 : bx < w5.heap.size := by omega
            have hsl : 16 < listed.size := by rw [hsz]; decide
            simp only [frameOf, List.take_succ_cons, List.take_zero, List.drop_succ_cons, List.drop_zero, List.cons_append, List.nil_append, Nat.reduceAdd]
            refine wpOp_step rfl rfl (fun K hK => ?_)
            go_simp
            refine hK _ _ ⟨[u28, u29, u30, u31, u32, u33, u34, u35, u36, u37, u38, u39, u40, u41, u42, u43, .int .i64 (n : Int), u45, u46, u47, u48], rfl, rfl, u28, u29, u30, u31, u32, u33, u34, u35, u36, u37, u38, u39, u40, u41, u42, u43, .int .i64 (n : Int), u45, u46, u47, u48, rfl, ?_⟩
            exact ⟨fun h21 => hJ (fun h' => h21 (done_mono h')),
              fun h => f0 (done_other (by decide) h),
              fun h h8 => f1 (done_other (by decide) h) (fun h' => h8 (done_mono h')),
              fun h => f2 (done_other (by decide) h),
              fun h => f3 (done_other (by decide) h),
              fun h => f4 (done_other (by decide) h),
              fun h => f5 (done_other (by decide) h),
              fun h => f6 (done_other (by decide) h),
              fun h => f7 (done_other (by decide) h),
              fun h h11 => f8 (done_other (by decide) h) (fun h' => h11 (done_mono h')),
              fun h => f9 (done_other (by decide) h),
              fun h h11 => by
                obtain ⟨g, g1, g2, g3, g4⟩ := f10 (done_other (by decide) h) (fun h' => h11 (done_mono h'))
                exact ⟨g, g1, g2, fun h1 h8 => g3 (done_other (by decide) h1) (fun h' => h8 (done_mono h')), fun h8 => g4 (done_other (by decide) h8)⟩,
              fun h h18 => f11 (done_other (by decide) h) (fun h' => h18 (done_mono h')),
              fun h => f12 (done_other (by decide) h),
              fun h => f13 (done_other (by decide) h),
              fun h => f14 (done_other (by decide) h),
              fun h => f15 (done_other (by decide) h),
              fun _ => rfl,
              fun h => f17 (done_other (by decide) h),
              fun h => f18 (done_other (by decide) h),
              fun h => f19 (done_other (by decide) h),
              fun h => f20 (done_other (by decide) h),
              fun h => f21 (done_other (by decide) h)⟩
          · -- operation 17
            simp only [List.getElem?_cons_zero, List.getElem?_cons_succ, Option.some.injEq] at ho
            subst ho
            have n21 : ¬ Done listed 21 := fun h => hnd (done_of_waits (hcl 21 _ rfl h) (i := 17) (by kernel_rfl))
            have d15 := done_of_waits hd (i := 15) (by kernel_rfl)
            have d16 := done_of_waits hd (i := 16) (by kernel_rfl)
            have hb5 := hJ n21
            have e5 := (hb5.cell (p := ⟨p, 0, none⟩) pl).trans e0
            have y0 := (hb5.cell (p := ⟨bx, 0, none⟩) xl).trans x0
            have y1 := (hb5.cell (p := ⟨bx, 1, none⟩) xl).trans x1
            have hs5 := hb5.size
            have pl5 : p < w5.heap.size := by omega
            have xl5 : bx < w5.heap.size := by omega
            have hsl : 17 < listed.size := by rw [hsz]; decide
            rw [f15 d15]
            rw [f16 d16]
            simp only [frameOf, List.take_succ_cons, List.take_zero, List.drop_succ_cons, List.drop_zero, List.cons_append, List.nil_append, Nat.reduceAdd]
            refine wpOp_step rfl rfl (fun K hK => ?_)
            go_simp
            refine hK _ _ ⟨[u28, u29, u30, u31, u32, u33, u34, u35, u36, u37, u38, u39, u40, u41, u42, .slice A1 R.length cap, .int .i64 (n : Int), .slice A2 (R.length - n) (cap - n), u46, u47, u48], rfl, rfl, u28, u29, u30, u31, u32, u33, u34, u35, u36, u37, u38, u39, u40, u41, u42, .slice A1 R.length cap, .int .i64 (n : Int), .slice A2 (R.length - n) (cap - n), u46, u47, u48, rfl, ?_⟩
            exact ⟨fun h21 => hJ (fun h' => h21 (done_mono h')),
              fun h => f0 (done_other (by decide) h),
              fun h h8 => f1 (done_other (by decide) h) (fun h' => h8 (done_mono h')),
              fun h => f2 (done_other (by decide) h),
              fun h => f3 (done_other (by decide) h),
              fun h => f4 (done_other (by decide) h),
              fun h => f5 (done_other (by decide) h),
              fun h => f6 (done_other (by decide) h),
              fun h => f7 (done_other (by decide) h),
              fun h h11 => f8 (done_other (by decide) h) (fun h' => h11 (done_mono h')),
              fun h => f9 (done_other (by decide) h),
              fun h h11 => by
                obtain ⟨g, g1, g2, g3, g4⟩ := f10 (done_other (by decide) h) (fun h' => h11 (done_mono h'))
                exact ⟨g, g1, g2, fun h1 h8 => g3 (done_other (by decide) h1) (fun h' => h8 (done_mono h')), fun h8 => g4 (done_other (by decide) h8)⟩,
              fun h h18 => f11 (done_other (by decide) h) (fun h' => h18 (done_mono h')),
              fun h => f12 (done_other (by decide) h),
              fun h => f13 (done_other (by decide) h),
              fun h => f14 (done_other (by decide) h),
              fun _ => rfl,
              fun _ => rfl,
              fun _ => rfl,
              fun h => f18 (done_other (by decide) h),
              fun h => f19 (done_other (by decide) h),
              fun h => f20 (done_other (by decide) h),
              fun h => f21 (done_other (by decide) h)⟩
          · -- operation 18
            simp only [List.getElem?_cons_zero, List.getElem?_cons_succ, Option.some.injEq] at ho
            subst ho
            have n21 : ¬ Done listed 21 := fun h => hnd (done_of_waits (hcl 21 _ rfl h) (i := 18) (by kernel_rfl))
            have d11 := done_of_waits hd (i := 11) (by kernel_rfl)
            have d17 := done_of_waits hd (i := 17) (by kernel_rfl)
            have hb5 := hJ n21
            have e5 := (hb5.cell (p := ⟨p, 0, none⟩) pl).trans e0
            have y0 := (hb5.cell (p := ⟨bx, 0, none⟩) xl).trans x0
            have y1 := (hb5.cell (p := ⟨bx, 1, none⟩) xl).trans x1
            have hs5 := hb5.size
            have pl5 : p < w5.heap.size := by omega
            have xl5 : bx < w5.heap.size := by omega
            have hsl : 18 < listed.size := by rw [hsz]; decide
            have hrow := f11 d11 hnd
            have d8 := done_of_waits (hcl 11 _ rfl d11) (i := 8) (by kernel_rfl)
            rw [f17 d17]
            simp only [frameOf, List.take_succ_cons, List.take_zero, List.drop_succ_cons, List.drop_zero, List.cons_append, List.nil_append, Nat.reduceAdd]
            refine wpOp_step rfl rfl (fun K hK => ?_)
            refine wp_append_cells w5 (.tmp 39) (.tmp 45) 32 rfl W4.heap.size 27 i27 _ 2 16 Try.underlying32 hi27 hz0 hz1 hz2 rfl (by omega) u39 (n + 1) (refC (R.take n) ++ [.int .i64 k, .int .i64 d]) rfl hrow A2 (R.length - n) (cap - n) (refC (R.drop n)) rfl HC4.out (by rw [refC_length, List.length_drop]) (HCD.out w5 hb5) (refC_one _) (by unfold maxLen; omega) (by omega) hs5 ?_
            intro v8 w8 hown8 hg8 hat8
            simp only [Act.put, List.setIfInBounds_toArray, List.set_cons_zero, List.set_cons_succ]
            refine hK _ _ ⟨[u28, u29, u30, u31, u32, u33, u34, u35, u36, u37, u38, u39, u40, u41, u42, u43, u44, .slice A2 (R.length - n) (cap - n), v8, u47, u48], rfl, rfl, u28, u29, u30, u31, u32, u33, u34, u35, u36, u37, u38, u39, u40, u41, u42, u43, u44, .slice A2 (R.length - n) (cap - n), v8, u47, u48, rfl, ?_⟩
            exact ⟨fun h21 => (hJ n21).grown hg8 hs5 (fun g hg => own_block hrow g hg),
              fun h => f0 (done_other (by decide) h),
              fun _ h8 => absurd (done_mono d8) h8,
              fun h => f2 (done_other (by decide) h),
              fun h => f3 (done_other (by decide) h),
              fun h => f4 (done_other (by decide) h),
              fun h => f5 (done_other (by decide) h),
              fun h => f6 (done_other (by decide) h),
              fun h => f7 (done_other (by decide) h),
              fun _ h11 => absurd (done_mono d11) h11,
              fun h => f9 (done_other (by decide) h),
              fun _ h11 => absurd (done_mono d11) h11,
              fun _ h18 => absurd (done_same hsl) h18,
              fun h => f12 (done_other (by decide) h),
              fun h => f13 (done_other (by decide) h),
              fun h => f14 (done_other (by decide) h),
              fun h => f15 (done_other (by decide) h),
              fun h => f16 (done_other (by decide) h),
              fun _ => rfl,
              fun _ => hown8,
              fun h => f19 (done_other (by decide) h),
              fun h => f20 (done_other (by decide) h),
              fun h => absurd (done_other (by decide) h) n21⟩
          · -- operation 19
            simp only [List.getElem?_cons_zero, List.getElem?_cons_succ, Option.some.injEq] at ho
            subst ho
            have n21 : ¬ Done listed 21 := fun h => hnd (done_of_waits (hcl 20 _ rfl (done_of_waits (hcl 21 _ rfl h) (i := 20) (by kernel_rfl))) (i := 19) (by kernel_rfl))
            have d0 := done_of_waits hd (i := 0) (by kernel_rfl)
            have hb5 := hJ n21
            have e5 := (hb5.cell (p := ⟨p, 0, none⟩) pl).trans e0
            have y0 := (hb5.cell (p := ⟨bx, 0, none⟩) xl).trans x0
            have y1 := (hb5.cell (p := ⟨bx, 1, none⟩) xl).trans x1
            have hs5 := hb5.size
            have pl5 : p < w5.heap.size := by omega
            have xl5 : bx < w5.heap.size := by omega
            have hsl : 19 < listed.size := by rw [hsz]; decide
            rw [f0 d0]
            simp only [frameOf, List.take_succ_cons, List.take_zero, List.drop_succ_cons, List.drop_zero, List.cons_append, List.nil_append, Nat.reduceAdd]
            refine wpOp_step rfl rfl (fun K hK => ?_)
            go_simp
            refine hK _ _ ⟨[.pointer (some ⟨p, 0, none⟩), u29, u30, u31, u32, u33, u34, u35, u36, u37, u38, u39, u40, u41, u42, u43, u44, u45, u46, .pointer (some ⟨p, 0, none⟩), u48], rfl, rfl, .pointer (some ⟨p, 0, none⟩), u29, u30, u31, u32, u33, u34, u35, u36, u37, u38, u39, u40, u41, u42, u43, u44, u45, u46, .pointer (some ⟨p, 0, none⟩), u48, rfl, ?_⟩
            exact ⟨fun h21 => hJ (fun h' => h21 (done_mono h')),
              fun _ => rfl,
              fun h h8 => f1 (done_other (by decide) h) (fun h' => h8 (done_mono h')),
              fun h => f2 (done_other (by decide) h),
              fun h => f3 (done_other (by decide) h),
              fun h => f4 (done_other (by decide) h),
              fun h => f5 (done_other (by decide) h),
              fun h => f6 (done_other (by decide) h),
              fun h => f7 (done_other (by decide) h),
              fun h h11 => f8 (done_other (by decide) h) (fun h' => h11 (done_mono h')),
              fun h => f9 (done_other (by decide) h),
              fun h h11 => by
                obtain ⟨g, g1, g2, g3, g4⟩ := f10 (done_other (by decide) h) (fun h' => h11 (done_mono h'))
                exact ⟨g, g1, g2, fun h1 h8 => g3 (done_other (by decide) h1) (fun h' => h8 (done_mono h')), fun h8 => g4 (done_other (by decide) h8)⟩,
              fun h h18 => f11 (done_other (by decide) h) (fun h' => h18 (done_mono h')),
              fun h => f12 (done_other (by decide) h),
              fun h => f13 (done_other (by decide) h),
              fun h => f14 (done_other (by decide) h),
              fun h => f15 (done_other (by decide) h),
              fun h => f16 (done_other (by decide) h),
              fun h => f17 (done_other (by decide) h),
              fun h => f18 (done_other (by decide) h),
              fun _ => rfl,
              fun h => f20 (done_other (by decide) h),
              fun h => f21 (done_other (by decide) h)⟩
          · -- operation 20
            simp only [List.getElem?_cons_zero, List.getElem?_cons_succ, Option.some.injEq] at ho
            subst ho
            have n21 : ¬ Done listed 21 := fun h => hnd (done_of_waits (hcl 21 _ rfl h) (i := 20) (by kernel_rfl))
            have d19 := done_of_waits hd (i := 19) (by kernel_rfl)
            have hb5 := hJ n21
            have e5 := (hb5.cell (p := ⟨p, 0, none⟩) pl).trans e0
            have y0 := (hb5.cell (p := ⟨bx, 0, none⟩) xl).trans x0
            have y1 := (hb5.cell (p := ⟨bx, 1, none⟩) xl).trans x1
            have hs5 := hb5.size
            have pl5 : p < w5.heap.size := by omega
            have xl5 : bx < w5.heap.size := by omega
            have hsl : 20 < listed.size := by rw [hsz]; decide
            rw [f19 d19]
            simp only [frameOf, List.take_succ_cons, List.take_zero, List.drop_succ_cons, List.drop_zero, List.cons_append, List.nil_append, Nat.reduceAdd]
            refine wpOp_step rfl rfl (fun K hK => ?_)
            go_simp
            refine hK _ _ ⟨[u28, u29, u30, u31, u32, u33, u34, u35, u36, u37, u38, u39, u40, u41, u42, u43, u44, u45, u46, .pointer (some ⟨p, 0, none⟩), .pointer (some ⟨p, 0, none⟩)], rfl, rfl, u28, u29, u30, u31, u32, u33, u34, u35, u36, u37, u38, u39, u40, u41, u42, u43, u44, u45, u46, .pointer (some ⟨p, 0, none⟩), .pointer (some ⟨p, 0, none⟩), rfl, ?_⟩
            exact ⟨fun h21 => hJ (fun h' => h21 (done_mono h')),
              fun h => f0 (done_other (by decide) h),
              fun h h8 => f1 (done_other (by decide) h) (fun h' => h8 (done_mono h')),
              fun h => f2 (done_other (by decide) h),
              fun h => f3 (done_other (by decide) h),
              fun h => f4 (done_other (by decide) h),
              fun h => f5 (done_other (by decide) h),
              fun h => f6 (done_other (by decide) h),
              fun h => f7 (done_other (by decide) h),
              fun h h11 => f8 (done_other (by decide) h) (fun h' => h11 (done_mono h')),
              fun h => f9 (done_other (by decide) h),
              fun h h11 => by
                obtain ⟨g, g1, g2, g3, g4⟩ := f10 (done_other (by decide) h) (fun h' => h11 (done_mono h'))
                exact ⟨g, g1, g2, fun h1 h8 => g3 (done_other (by decide) h1) (fun h' => h8 (done_mono h')), fun h8 => g4 (done_other (by decide) h8)⟩,
              fun h h18 => f11 (done_other (by decide) h) (fun h' => h18 (done_mono h')),
              fun h => f12 (done_other (by decide) h),
              fun h => f13 (done_other (by decide) h),
              fun h => f14 (done_other (by decide) h),
              fun h => f15 (done_other (by decide) h),
              fun h => f16 (done_other (by decide) h),
              fun h => f17 (done_other (by decide) h),
              fun h => f18 (done_other (by decide) h),
              fun _ => rfl,
              fun _ => rfl,
              fun h => f21 (done_other (by decide) h)⟩
          · -- operation 21
            simp only [List.getElem?_cons_zero, List.getElem?_cons_succ, Option.some.injEq] at ho
            subst ho
            have n21 : ¬ Done listed 21 := hnd
            have d18 := done_of_waits hd (i := 18) (by kernel_rfl)
            have d20 := done_of_waits hd (i := 20) (by kernel_rfl)
            have hb5 := hJ n21
            have e5 := (hb5.cell (p := ⟨p, 0, none⟩) pl).trans e0
            have y0 := (hb5.cell (p := ⟨bx, 0, none⟩) xl).trans x0
            have y1 := (hb5.cell (p := ⟨bx, 1, none⟩) xl).trans x1
            have hs5 := hb5.size
            have pl5 : p < w5.heap.size := by omega
            have xl5 : bx < w5.heap.size := by omega
            have hsl : 21 < listed.size := by rw [hsz]; decide
            have hrow := f18 d18
            obtain ⟨A9, cap9, hv9, _⟩ := own_cells hrow
            have fz5 : w5.frozen? ⟨p, 0, none⟩ = false := by
              have : w5.heap[p]? = _ := (hb5.block p pl).trans HB4
              simp [World.frozen?, this]
            have hb5p : w5.heap[p]? = _ := (hb5.block p pl).trans HB4
            rw [f20 d20]
            rw [hv9] at hrow ⊢
            simp only [frameOf, List.take_succ_cons, List.take_zero, List.drop_succ_cons, List.drop_zero, List.cons_append, List.nil_append, Nat.reduceAdd]
            refine wpOp_step rfl rfl (fun K hK => ?_)
            go_simp
            have d11 := done_of_waits (hcl 18 _ rfl d18) (i := 11) (by kernel_rfl)
            have d8 := done_of_waits (hcl 11 _ rfl d11) (i := 8) (by kernel_rfl)
            have T := Turn.setCell (S := fun b => b = p) w5 (p := ⟨p, 0, none⟩) rfl (.slice A9 (n + 1 + (R.length - n)) cap9)
            refine hK _ _ ⟨[u28, u29, u30, u31, u32, u33, u34, u35, u36, u37, u38, u39, u40, u41, u42, u43, u44, u45, .slice A9 (n + 1 + (R.length - n)) cap9, u47, .pointer (some ⟨p, 0, none⟩)], rfl, rfl, u28, u29, u30, u31, u32, u33, u34, u35, u36, u37, u38, u39, u40, u41, u42, u43, u44, u45, .slice A9 (n + 1 + (R.length - n)) cap9, u47, .pointer (some ⟨p, 0, none⟩), rfl, ?_⟩
            exact ⟨fun h21 => absurd (done_same hsl) h21,
              fun h => f0 (done_other (by decide) h),
              fun _ h8 => absurd (done_mono d8) h8,
              fun h => f2 (done_other (by decide) h),
              fun h => f3 (done_other (by decide) h),
              fun h => f4 (done_other (by decide) h),
              fun h => f5 (done_other (by decide) h),
              fun h => f6 (done_other (by decide) h),
              fun h => f7 (done_other (by decide) h),
              fun _ h11 => absurd (done_mono d11) h11,
              fun h => f9 (done_other (by decide) h),
              fun _ h11 => absurd (done_mono d11) h11,
              fun _ h18 => absurd (done_mono d18) h18,
              fun h => f12 (done_other (by decide) h),
              fun h => f13 (done_other (by decide) h),
              fun h => f14 (done_other (by decide) h),
              fun h => f15 (done_other (by decide) h),
              fun h => f16 (done_other (by decide) h),
              fun h => f17 (done_other (by decide) h),
              fun _ => own_keep hrow fun g hg => heap_setCell_other _ _ _ _ (fun e => by have := own_block hrow g hg; have e' : p = g := e.symm; omega),
              fun h => f19 (done_other (by decide) h),
              fun _ => rfl,
              fun _ => ⟨by simp [World.setCell, Array.getElem?_modify, hb5p], (Turn.of_below hb5 hb5.size (fun k h1 h2 => absurd h2 (Nat.not_lt.2 h1))).trans T⟩⟩
        · rintro listed us w5 hus hall ⟨u28, u29, u30, u31, u32, u33, u34, u35, u36, u37, u38, u39, u40, u41, u42, u43, u44, u45, u46, u47, u48, rfl, hJ, f0, f1, f2, f3, f4, f5, f6, f7, f8, f9, f10, f11, f12, f13, f14, f15, f16, f17, f18, f19, f20, f21⟩
          obtain ⟨hb21, ht21⟩ := f21 (hall 21 (by simp))
          have h18 := f18 (hall 18 (by simp))
          simp only [frameOf, List.take_succ_cons, List.take_zero, List.drop_succ_cons, List.drop_zero, List.cons_append, List.nil_append, Nat.reduceAdd]
          clear hJ f0 f1 f2 f3 f4 f5 f6 f7 f8 f9 f10 f11 f12 f13 f14 f15 f16 f17 f18 f19 f20 f21
          have hR' : insL R (c, k, d) = R.take n ++ (c, k, d) :: R.drop n := by
            refine ins_at (c, k, d) R n hn hge.out (fun j hj => ?_)
            rcases HST.out with h0 | ⟨h0, h1⟩
            · omega
            · rcases (show j = n - 1 ∨ j < n - 1 by omega) with rfl | hlt
              · exact h1
              · exact Int.le_trans (keys_le R HS.out j (n - 1) hlt (by omega)) h1
          have hRC : refC (insL R (c, k, d)) = refC (R.take n) ++ [.int .i64 k, .int .i64 d] ++ refC (R.drop n) := by
            rw [hR', refC_append]
            show _ ++ (_ :: _ :: refC (R.drop n)) = _
            simp
          have hRL : (insL R (c, k, d)).length = n + 1 + (R.length - n) := by
            rw [(insL_perm _ _).length_eq, List.length_append]
            simp
            omega
          have FIN : RefNext p (insL R (c, k, d)) w w5 := by
            refine ⟨u46, ⟨hb21, RefVal.of_own (base := W4.heap.size) ?_⟩, (Turn.of_ext HE4.out).trans ht21⟩
            rw [hRL, hRC]
            exact h18
          clear hb21 ht21 h18 hR' hRC hRL
          have FIN' := Lib.hid FIN
          clear FIN
          go_wp2_with fail
          go_end0
          exact ⟨rfl, FIN'.out⟩
end Go.Proofs.Ytjllikpocfppoaa
