/- The contract of viewportref16.Leaves. -/
import Derived.Test.YtggmljookcmnkaaR5
import Derived.Test.YtggmljookcmnkaaB3
import Derived.WalkSpells
import Derived.WalkLawsBesides
import Derived.BigRegion
import Derived.Deep.RegionWith
import Derived.Deep.QuietTactic
import Derived.Deep.DeepCutAuto
import Derived.Deep.RegionHeld3
import Derived.Deep.RegionLaw
import Derived.BigQuiet
import Derived.Lib.Hide
namespace Go.Proofs.Ytggmljookcmnkaa
open Go.RowKit
attribute [local go_sem] more_drew more_drewN more_size more_cell more_frozen more_setCell drew_more drewN_more lt_add_r lt_add_r2 lt_add_r3 lt_add_r4 lt_add_r5 lt_add_r6 lt_add_r7 lt_add_r8 lt_add_r9 lt_add_r10 lt_self_r lt_self_r2

section
variable {A : Option Addr} {c : Nat} {ps : List Prt} {w : World}
set_option maxRecDepth 100000 in
set_option maxHeartbeats 1000000 in
theorem rLeaves_no (h : PS w A c ps) (T : ¬ Tree (nds ps)) : Calls Try.prog 58 #[.slice A ps.length c] w fun e w' => e = .returned (.slice none 0 0) ∧ Ext w w' := by
  have CH := Lib.hid (rcheck_no h T)
  have hl := h.few.len
  clear h T
  by_cases h0 : 0 < ps.length
  · have q0 : decide ((0 : Int) < (ps.length : Int)) = true := decide_eq_true (by omega)
    have q1 : decide (0 < ps.length) = true := decide_eq_true h0
    go_enter Try.func58, Try.ntmps58
    go_wp2_with fail
    refine wp_loop_rounds 1 ?_
    rw [rounds_succ]
    go_wp2_with fail
    refine CH.out.mono ?_
    rintro e w3 ⟨rfl, hx3⟩
    have HX3 := Lib.hid hx3
    clear hx3
    go_wp2_with fail
    go_ret
    exact ⟨rfl, HX3.out⟩
  · have h00 : ps.length = 0 := by omega
    rw [h00]
    go_enter Try.func58, Try.ntmps58
    go_wp2_with fail
    refine wp_loop_rounds 1 ?_
    rw [rounds_succ]
    go_wp2_with fail
    go_ret
    exact ⟨rfl, (by repeat (first | exact Ext.refl _ | refine Ext.alloc ?_ _ | refine Ext.more ?_ _ _ | refine Ext.drew ?_ | refine Ext.drewN ?_ _ | refine Ext.setCell ?_ (by simp <;> omega) _))⟩
set_option maxRecDepth 100000 in
set_option maxHeartbeats 2000000 in
theorem rLeaves_yes (h : PS w A c ps) (T : Tree (nds ps)) : Calls Try.prog 58 #[.slice A ps.length c] w (IntsRet w (leavesF 0 (nds ps))) := by
  have CH := Lib.hid (fun w1 (x : Ext w w1) => rcheck_ok (h.ext x) T)
  have HS := Lib.hid h
  have hl := h.few.len
  clear h T
  go_enter Try.func58, Try.ntmps58
  go_wp2_with fail
  go_loopw [3, 4] (fun v i wr => ∃ (j : Nat) (xs : List Int), j ≤ ps.length ∧ i = .int .i64 j ∧ Hid (RowI wr w.heap.size v xs) ∧ Hid (xs.length ≤ j ∧ leavesF 0 (nds ps) = xs ++ leavesF j ((nds ps).drop j)) ∧ Hid (Ext w wr)) (fun _ i _ => ps.length - (intOf i).toNat)
  case atStart => exact ⟨0, [], Nat.zero_le _, rfl, Lib.hid ⟨none, 0, rfl, OwnI.nil _ _⟩, Lib.hid ⟨Nat.le_refl _, rfl⟩, Lib.hid (by repeat (first | exact Ext.refl _ | refine Ext.alloc ?_ _ | refine Ext.more ?_ _ _ | refine Ext.drew ?_ | refine Ext.drewN ?_ _ | refine Ext.setCell ?_ (by simp <;> omega) _))⟩
  case round =>
    obtain ⟨j, xs, hj, rfl, hr, he, hx⟩ := hrel
    by_cases hlt : j < ps.length
    · obtain ⟨⟨q, kA, kcap⟩, hq⟩ : ∃ q, ps[j]? = some q := ⟨_, List.getElem?_eq_getElem hlt⟩
      have HE : Hid (leavesF j ((nds ps).drop j) = if LeafK q.kind then (j : Int) :: leavesF (j + 1) ((nds ps).drop (j + 1)) else leavesF (j + 1) ((nds ps).drop (j + 1))) := by
        rw [List.drop_eq_getElem_cons (by rw [nds_length]; exact hlt)]
        have := nds_get hq
        rw [List.getElem?_eq_getElem (by rw [nds_length]; exact hlt)] at this
        injection this with this
        rw [this]
        exact Lib.hid rfl
      have HL : Hid (xs.length ≤ 1000000) := Lib.hid (by have := he.out.1; omega)
      go_wp2_with fail
      refine (CH.out wr hx.out).mono ?_
      rintro e w3 ⟨rfl, hx3⟩
      obtain ⟨b, off, rfl, hb, hcell⟩ := (HS.out.ext (hx.out.trans hx3)).parts (by omega)
      have d1 := (hcell j _ hq).2.1
      dsimp only at d1
      have HR3 := Lib.hid (hr.out.ext hx3)
      have HX3 := Lib.hid (hx.out.trans hx3)
      skip
      clear hcell hq hx3 hr hx
      by_cases hk : LeafK q.kind
      · have hk1 : decide (LeafK q.kind) = true := decide_eq_true hk
        have HE' : Hid (leavesF j ((nds ps).drop j) = (j : Int) :: leavesF (j + 1) ((nds ps).drop (j + 1))) := Lib.hid (HE.out.trans (if_pos hk))
        clear hk HE
        go_wp2_with (first
          | (go_at_call 109; refine (leafR_any _ _).mono ?_; rintro e w' ⟨rfl, rfl⟩)
          | (at_builtin; refine app_int w (by rfl) (.tmp 22) (.tmp 24) rfl (HR3.out.ext (by repeat (first | exact Ext.refl _ | refine Ext.alloc ?_ _ | refine Ext.more ?_ _ _ | refine Ext.drew ?_ | refine Ext.drewN ?_ _ | refine Ext.setCell ?_ (by simp <;> omega) _))) j w3.heap.size rfl rfl (by simp) (by simp [go_sem]) HL.out (HX3.out.trans (by repeat (first | exact Ext.refl _ | refine Ext.alloc ?_ _ | refine Ext.more ?_ _ _ | refine Ext.drew ?_ | refine Ext.drewN ?_ _ | refine Ext.setCell ?_ (by simp <;> omega) _))) ?_; intro v7 w7 hr7 hg7 hx7))
        have HR7 := Lib.hid hr7
        have HX7 := Lib.hid hx7
        clear hr7 hx7 hg7
        go_roundw
        case rel => exact ⟨j + 1, xs ++ [(j : Int)], by omega, by go_num, HR7, Lib.hid ⟨by have := he.out.1; simp; omega, by rw [he.out.2, HE'.out]; simp⟩, HX7⟩
        case measure => simp [intOf]; omega
      · have hk1 : decide (LeafK q.kind) = false := decide_eq_false hk
        have HE' : Hid (leavesF j ((nds ps).drop j) = leavesF (j + 1) ((nds ps).drop (j + 1))) := Lib.hid (HE.out.trans (if_neg hk))
        clear hk HE
        go_wp2_with (go_at_call 109; refine (leafR_any _ _).mono ?_; rintro e w' ⟨rfl, rfl⟩)
        go_roundw
        case rel => exact ⟨j + 1, xs, by omega, by go_num, Lib.hid (HR3.out.ext (by repeat (first | exact Ext.refl _ | refine Ext.alloc ?_ _ | refine Ext.more ?_ _ _ | refine Ext.drew ?_ | refine Ext.drewN ?_ _ | refine Ext.setCell ?_ (by simp <;> omega) _))), Lib.hid ⟨by have := he.out.1; omega, by rw [he.out.2, HE'.out]⟩, Lib.hid (HX3.out.trans (by repeat (first | exact Ext.refl _ | refine Ext.alloc ?_ _ | refine Ext.more ?_ _ _ | refine Ext.drew ?_ | refine Ext.drewN ?_ _ | refine Ext.setCell ?_ (by simp <;> omega) _)))⟩
        case measure => simp [intOf]; omega
    · obtain rfl : j = ps.length := by omega
      obtain ⟨A1, c1, rfl, ho⟩ := hr.out
      have HO := Lib.hid ho
      have HEE : Hid (leavesF 0 (nds ps) = xs) := Lib.hid (by rw [he.out.2, List.drop_eq_nil_of_le (by rw [nds_length]; omega)]; simp [leavesF])
      clear ho
      go_wp2_with fail
      go_ret
      rw [HEE.out]
      exact ⟨A1, c1, rfl, HO.out, hx.out⟩
end
end Go.Proofs.Ytggmljookcmnkaa
