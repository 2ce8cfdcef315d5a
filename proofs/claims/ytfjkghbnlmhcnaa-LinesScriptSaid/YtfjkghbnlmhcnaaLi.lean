/- viewportref09: Place, Edit: the walk. -/
import Derived.Test.YtfjkghbnlmhcnaaLh
import Derived.Test.YtfjkghbnlmhcnaaLu
import Derived.WalkSpells
import Derived.WalkLawsBesides
import Derived.BigRegion
import Derived.Deep.RegionWith
import Derived.Deep.QuietTactic
import Derived.Deep.DeepCutAuto
import Derived.Deep.RegionHeld3
import Derived.Deep.RegionLaw
import Derived.BigQuiet
import Derived.Lib.Hide
namespace Go.Proofs.Ytfjkghbnlmhcnaa
open Go.RowKit
attribute [local go_sem] more_drew more_drewN more_size more_cell more_frozen more_setCell drew_more drewN_more lt_add_r lt_add_r2 lt_add_r3 lt_add_r4 lt_add_r5 lt_add_r6 lt_add_r7 lt_add_r8 lt_add_r9 lt_add_r10 lt_self_r lt_self_r2

theorem place_iff {xs : List Int} {n i : Nat} {t : Nat} {x line col : Int} (h : LineAt xs t i x) (ht : t ≤ n) : PlaceOk xs n line col t ↔ (line = (i : Int) ∧ col = (t : Int) - x) := by
  obtain ⟨h1, h2, h3⟩ := h
  constructor
  · rintro ⟨k, x', rfl, hk, hc, hn, hy, he⟩
    have hki := (h3 k x' hk).2 (by omega)
    rcases Nat.lt_or_eq_of_le hki with hlt | rfl
    · exfalso
      have hil := (List.getElem?_eq_some_iff.1 h1).1
      obtain ⟨y, hy'⟩ : ∃ y, xs[k + 1]? = some y := ⟨_, List.getElem?_eq_getElem (by omega)⟩
      have a := hy y hy'
      have b := (h3 (k + 1) y hy').1 hlt
      omega
    · rw [h1] at hk
      cases hk
      exact ⟨rfl, by omega⟩
  · rintro ⟨rfl, rfl⟩
    refine ⟨i, x, rfl, h1, by omega, by omega, fun y hy => ?_, by omega⟩
    rcases Int.lt_or_le (t : Int) y with h | h
    · omega
    · have := (h3 (i + 1) y hy).2 h
      omega
def RPlaceRet (w : World) (xs : List Int) (n : Nat) (line col : Int) (e : Ending) (w' : World) : Prop :=
  ((∃ p, PlaceOk xs n line col p ∧ e = .returned (.tuple #[.int .i64 p, .bool true])) ∨ ((¬ ∃ p, PlaceOk xs n line col p) ∧ e = .returned (.tuple #[.int .i64 0, .bool false]))) ∧ Ext w w'
section
variable {w : World} {g : Nat} {s s0 : ByteArray}
set_option maxRecDepth 100000 in
set_option maxHeartbeats 2000000 in
theorem rplace_any (line col : Int) (h : TxtAt w g s) (hs : s.size ≤ 900000) : Calls Try.prog 26 #[pt g, .int .i64 line, .int .i64 col] w (RPlaceRet w (startsF s.data.toList) s.size line col) := by
  have H := Lib.hid h
  have HW := Lib.hid (starts_within s.data.toList)
  have HLN : Hid (s.data.toList.length = s.size) := Lib.hid (by rw [Array.length_toList]; rfl)
  have CL := Lib.hid (fun (wr : World) (t : Nat) (hx : Ext w wr) (ht : t ≤ s.size) => rline_yes t (h.ext hx) hs ht)
  obtain ⟨xs, hxs⟩ : ∃ xs, startsF s.data.toList = xs := ⟨_, rfl⟩
  rw [hxs] at CL HW ⊢
  clear h hxs
  go_enter Try.func26, Try.ntmps26
  go_wp2_with fail
  go_loopw [8] (fun v wr => ∃ p : Nat, p ≤ s.size + 1 ∧ v = .int .i64 p ∧ Hid (∀ q : Nat, q < p → ¬ PlaceOk xs s.size line col q) ∧ Hid (Ext w wr)) (fun v _ => s.size + 1 - (intOf v).toNat)
  case atStart => exact ⟨0, Nat.zero_le _, rfl, Lib.hid fun q hq => absurd hq (Nat.not_lt_zero _), Lib.hid (Ext.refl _)⟩
  case round =>
    obtain ⟨p, hp, rfl, hno, hx⟩ := hrel
    obtain ⟨c0, l0⟩ := (H.out.ext hx.out).cell
    by_cases hlt : p ≤ s.size
    · go_wp2_with fail
      refine (CL.out wr p hx.out hlt).mono ?_
      rintro e w2 ⟨i, x, rfl, hla, hx2⟩
      have HX2 := Lib.hid (hx.out.trans hx2)
      have HIF := Lib.hid (place_iff (line := line) (col := col) (n := s.size) hla hlt)
      clear hla hx2
      by_cases h1 : (i : Int) = line
      · have q1 : ((i : Int) == line) = true := by rw [beq_iff_eq]; exact h1
        by_cases h2 : (p : Int) - x = col
        · have q2 : ((p : Int) - x == col) = true := by rw [beq_iff_eq]; exact h2
          have HOK := Lib.hid (HIF.out.2 ⟨h1.symm, h2.symm⟩)
          clear h1 h2
          go_wp2_with fail
          go_ret2
          exact ⟨.inl ⟨p, HOK.out, rfl⟩, HX2.out⟩
        · have q2 : ((p : Int) - x == col) = false := by rw [beq_eq_false_iff_ne]; exact h2
          have HNO : Hid (¬ PlaceOk xs s.size line col p) := Lib.hid fun hh => h2 (HIF.out.1 hh).2.symm
          clear h1 h2
          go_wp2_with fail
          go_roundw
          case rel =>
            refine ⟨p + 1, by omega, by go_num, Lib.hid fun q hq => ?_, HX2⟩
            rcases Nat.lt_or_ge q p with h | h
            · exact hno.out q h
            · obtain rfl : q = p := by omega
              exact HNO.out
          case measure => simp [intOf]; omega
      · have q1 : ((i : Int) == line) = false := by rw [beq_eq_false_iff_ne]; exact h1
        have HNO : Hid (¬ PlaceOk xs s.size line col p) := Lib.hid fun hh => h1 (HIF.out.1 hh).1.symm
        clear h1
        go_wp2_with fail
        go_roundw
        case rel =>
          refine ⟨p + 1, by omega, by go_num, Lib.hid fun q hq => ?_, HX2⟩
          rcases Nat.lt_or_ge q p with h | h
          · exact hno.out q h
          · obtain rfl : q = p := by omega
            exact HNO.out
        case measure => simp [intOf]; omega
    · go_wp2_with fail
      go_ret2
      refine ⟨.inr ⟨?_, rfl⟩, hx.out⟩
      rintro ⟨q, hq⟩
      obtain ⟨k, x, e1, hk, hc, hn, _, e2⟩ := hq
      have h0 := HW.out x (List.mem_of_getElem? hk)
      refine hno.out q.toNat (by omega) ?_
      have e : ((q.toNat : Nat) : Int) = q := by omega
      rw [e]
      exact ⟨k, x, e1, hk, hc, hn, by assumption, e2⟩
set_option maxRecDepth 100000 in
set_option maxHeartbeats 2000000 in
theorem redit_bad (a d i : Int) (s : ByteArray) (n : Nat) (h : TxtAt w g s0) (hs0 : s0.size = n) (hn : n ≤ 1000000) (bad : a < 0 ∨ d < 0 ∨ (n : Int) < a ∨ (n : Int) - a < d ∨ i ≠ s.size) :
    Calls Try.prog 23 #[pt g, .agg #[.int .i64 a, .int .i64 d, .int .i64 i], .string s] w fun e w' => e = .returned (.int .i64 2) ∧ Ext w w' := by
  have HG1 := Lib.hid h
  have HS0 := Lib.hid hs0
  clear h hs0
  go_enter Try.func23, Try.ntmps23
  go_upto_region 1 with fail
  obtain ⟨bx, hbx⟩ : ∃ bx, w.heap.size = bx := ⟨_, rfl⟩
  obtain ⟨W1, hW1⟩ : ∃ W1, w.alloc (.cells #[.int .i64 a, .int .i64 d, .int .i64 i] 34) = W1 := ⟨_, rfl⟩
  have X1 : Hid (Ext w W1) := Lib.hid (by rw [← hW1]; exact (by repeat (first | exact Ext.refl _ | refine Ext.alloc ?_ _ | refine Ext.more ?_ _ _ | refine Ext.drew ?_ | refine Ext.drewN ?_ _ | refine Ext.setCell ?_ (by simp <;> omega) _)))
  have B1 : W1.heap[bx]? = some (.cells #[.int .i64 a, .int .i64 d, .int .i64 i] 34) := by rw [← hW1, ← hbx]; exact heap_alloc_new _ _
  obtain ⟨k0, lg⟩ := (HG1.out.ext X1.out).cell
  obtain ⟨ln, hln⟩ : ∃ ln, s0.size = ln := ⟨_, rfl⟩
  obtain rfl : n = ln := HS0.out.symm.trans hln
  rw [hW1, hbx]
  have e0 := cell_of_row _ _ 0 _ _ _ B1
  have e1 := cell_of_row _ _ 1 _ _ _ B1
  have e2 := cell_of_row _ _ 2 _ _ _ B1
  simp at e0 e1 e2
  have le := lt_of_heap B1
  clear B1 hW1 hbx HS0
  by_cases c0 : a < 0
  · have q0 : decide (a < 0) = true := decide_eq_true c0
    clear c0 bad
    refine wp_region_bt (38) (softs_bt [0, 1, 2, 3, 4, 5, 6, 7, 8, 9, 10, 11, 12, 13, 14, 15, 16, 17, 18, 19, 20, 21, 22, 23, 24, 25, 26, 27, 28, 29, 30, 31, 32, 33, 34, 35, 36, 37] .fin) (by kernel_rfl) (by kernel_rfl) ?_
    (refine bt_softs _ fun K hK => ?_); (simp only [pick, nthC]); (repeat (go_big_quiet_step (fail))); (refine wpQuiet_nil (hK _ ?_)); (clear hK K)
    (refine bt_fin ?_)
    go_wp2_with fail
    go_ret
    exact ⟨rfl, X1.out.drew⟩
  · have q0 : decide (a < 0) = false := decide_eq_false c0
    by_cases c1 : d < 0
    · have q1 : decide (d < 0) = true := decide_eq_true c1
      clear c1 bad
      refine wp_region_bt (38) (softs_bt [0, 1, 2, 3, 4, 5, 6, 7, 8, 9, 10, 11, 12, 13, 14, 15, 16, 17, 18, 19, 20, 21, 22, 23, 24, 25, 26, 27, 28, 29, 30, 31, 32, 33, 34, 35, 36, 37] .fin) (by kernel_rfl) (by kernel_rfl) ?_
      (refine bt_softs _ fun K hK => ?_); (simp only [pick, nthC]); (repeat (go_big_quiet_step (fail))); (refine wpQuiet_nil (hK _ ?_)); (clear hK K)
      (refine bt_fin ?_)
      go_wp2_with fail
      go_ret
      exact ⟨rfl, X1.out.drew⟩
    · have q1 : decide (d < 0) = false := decide_eq_false c1
      by_cases c2 : (n : Int) < a
      · have q2 : decide ((n : Int) < a) = true := decide_eq_true c2
        clear c2 bad
        refine wp_region_bt (38) (softs_bt [0, 1, 2, 3, 4, 5, 6, 7, 8, 9, 10, 11, 12, 13, 14, 15, 16, 17, 18, 19, 20, 21, 22, 23, 24, 25, 26, 27, 28, 29, 30, 31, 32, 33, 34, 35, 36, 37] .fin) (by kernel_rfl) (by kernel_rfl) ?_
        (refine bt_softs _ fun K hK => ?_); (simp only [pick, nthC]); (repeat (go_big_quiet_step (fail))); (refine wpQuiet_nil (hK _ ?_)); (clear hK K)
        (refine bt_fin ?_)
        go_wp2_with fail
        go_ret
        exact ⟨rfl, X1.out.drew⟩
      · have q2 : decide ((n : Int) < a) = false := decide_eq_false c2
        have w1 : IntKind.i64.wrap ((n : Int) - a) = n - a := IntWalk.i64_in _ (by omega)
        by_cases c3 : (n : Int) - a < d
        · have q3 : decide ((n : Int) - a < d) = true := decide_eq_true c3
          clear c3 bad
          refine wp_region_bt (38) (softs_bt [0, 1, 2, 3, 4, 5, 6, 7, 8, 9, 10, 11, 12, 13, 14, 15, 16, 17, 18, 19, 20, 21, 22, 23, 24, 25, 26, 27, 28, 29, 30, 31, 32, 33, 34, 35, 36, 37] .fin) (by kernel_rfl) (by kernel_rfl) ?_
          (refine bt_softs _ fun K hK => ?_); (simp only [pick, nthC]); (repeat (go_big_quiet_step (fail))); (refine wpQuiet_nil (hK _ ?_)); (clear hK K)
          (refine bt_fin ?_)
          go_wp2_with fail
          go_ret
          exact ⟨rfl, X1.out.drew⟩
        · have q3 : decide ((n : Int) - a < d) = false := decide_eq_false c3
          have q4 : (i != (s.size : Int)) = true := by
            rw [bne_iff_ne]
            exact bad.elim (fun h => absurd h c0) (fun h => h.elim (fun h => absurd h c1) (fun h => h.elim (fun h => absurd h c2) (fun h => h.elim (fun h => absurd h c3) id)))
          clear c0 c1 c2 c3 bad
          refine wp_region_bt (38) (softs_bt [0, 1, 2, 3, 4, 5, 6, 7, 8, 9, 10, 11, 12, 13, 14, 15, 16, 17, 18, 19, 20, 21, 22, 23, 24, 25, 26, 27, 28, 29, 30, 31, 32, 33, 34, 35, 36, 37] .fin) (by kernel_rfl) (by kernel_rfl) ?_
          (refine bt_softs _ fun K hK => ?_); (simp only [pick, nthC]); (repeat (go_big_quiet_step (fail))); (refine wpQuiet_nil (hK _ ?_)); (clear hK K)
          (refine bt_fin ?_)
          go_wp2_with fail
          go_ret
          exact ⟨rfl, X1.out.drew⟩
end
end Go.Proofs.Ytfjkghbnlmhcnaa
