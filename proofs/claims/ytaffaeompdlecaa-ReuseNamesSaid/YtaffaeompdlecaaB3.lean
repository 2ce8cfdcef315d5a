/- The contract of Leaves. -/
import Derived.Test.YtaffaeompdlecaaB2
import Derived.WalkSpells
import Derived.WalkLawsBesides
import Derived.BigRegion
import Derived.Deep.RegionWith
import Derived.Deep.QuietTactic
import Derived.Deep.DeepCutAuto
import Derived.Deep.RegionHeld3
import Derived.Deep.RegionLaw
import Derived.BigQuiet
import Derived.Lib.Hide
namespace Go.Proofs.Ytaffaeompdlecaa
open Go.RowKit
attribute [local go_sem] more_drew more_drewN more_size more_cell more_frozen more_setCell drew_more drewN_more lt_add_r lt_add_r2 lt_add_r3 lt_add_r4 lt_add_r5 lt_add_r6 lt_add_r7 lt_add_r8 lt_add_r9 lt_add_r10 lt_self_r lt_self_r2

def leavesF : Nat → List Nd → List Int
  | _, [] => []
  | k, p :: l => if LeafK p.kind then (k : Int) :: leavesF (k + 1) l else leavesF (k + 1) l
theorem leavesF_len : ∀ (l : List Nd) (k : Nat), (leavesF k l).length ≤ l.length
  | [], _ => Nat.le_refl _
  | p :: l, k => by
    unfold leavesF
    have := leavesF_len l (k + 1)
    split <;> simp only [List.length_cons] <;> omega
theorem leavesF_mem : ∀ (l : List Nd) (k : Nat) (i : Nat), (i : Int) ∈ leavesF k l ↔ ∃ p, k ≤ i ∧ l[i - k]? = some p ∧ LeafK p.kind
  | [], k, i => by simp [leavesF]
  | p :: l, k, i => by
    have ih := leavesF_mem l (k + 1) i
    have key : (∃ q, k ≤ i ∧ (p :: l)[i - k]? = some q ∧ LeafK q.kind) ↔ (i = k ∧ LeafK p.kind) ∨ ∃ q, k + 1 ≤ i ∧ l[i - (k + 1)]? = some q ∧ LeafK q.kind := by
      constructor
      · rintro ⟨q, h1, h2, h3⟩
        rcases Nat.eq_or_lt_of_le h1 with rfl | hlt
        · rw [Nat.sub_self] at h2
          simp at h2
          subst h2
          exact .inl ⟨rfl, h3⟩
        · rw [show i - k = (i - (k + 1)) + 1 by omega, List.getElem?_cons_succ] at h2
          exact .inr ⟨q, hlt, h2, h3⟩
      · rintro (⟨rfl, h⟩ | ⟨q, h1, h2, h3⟩)
        · exact ⟨p, Nat.le_refl _, by simp, h⟩
        · refine ⟨q, by omega, ?_, h3⟩
          rw [show i - k = (i - (k + 1)) + 1 by omega, List.getElem?_cons_succ]
          exact h2
    rw [key]
    unfold leavesF
    split
    · rename_i hk
      rw [List.mem_cons, ih]
      constructor
      · rintro (h | h)
        · exact .inl ⟨by omega, hk⟩
        · exact .inr h
      · rintro (⟨rfl, _⟩ | h)
        · exact .inl rfl
        · exact .inr h
    · rename_i hk
      rw [ih]
      constructor
      · exact .inr
      · rintro (⟨rfl, h⟩ | h)
        · exact absurd h hk
        · exact h
section
variable {A : Option Addr} {c : Nat} {ps : List Prt} {w : World}
theorem Leaves_no (h : PS w A c ps) (T : ¬ Tree (nds ps)) : Calls Try.prog 28 #[.slice A ps.length c] w fun e w' => e = .returned (.slice none 0 0) ∧ Ext w w' := by
  have CH := Lib.hid (check_no h T)
  clear h T
  go_enter Try.func28, Try.ntmps28
  go_wp2_with fail
  refine CH.out.mono ?_
  rintro e w3 ⟨rfl, hx3⟩
  have HX3 := Lib.hid hx3
  clear hx3
  go_wp2_with fail
  go_ret
  exact ⟨rfl, HX3.out⟩
set_option maxRecDepth 100000 in
set_option maxHeartbeats 1000000 in
theorem Leaves_yes (h : PS w A c ps) (T : Tree (nds ps)) : Calls Try.prog 28 #[.slice A ps.length c] w (IntsRet w (leavesF 0 (nds ps))) := by
  have CH := Lib.hid (check_ok h T)
  have HS := Lib.hid h
  have hl := h.few.len
  clear h T
  go_enter Try.func28, Try.ntmps28
  go_wp2_with fail
  refine CH.out.mono ?_
  rintro e w3 ⟨rfl, hx3⟩
  have HX3 := Lib.hid hx3
  clear hx3
  go_wp2_with fail
  go_loopw [3, 11] (fun v i wr => ∃ (j : Nat) (xs : List Int), j ≤ ps.length ∧ i = .int .i64 j ∧ Hid (RowI wr w.heap.size v xs) ∧ Hid (xs.length ≤ j ∧ leavesF 0 (nds ps) = xs ++ leavesF j ((nds ps).drop j)) ∧ Hid (Ext w wr)) (fun _ i _ => ps.length - (intOf i).toNat)
  case atStart => exact ⟨0, [], Nat.zero_le _, rfl, Lib.hid ⟨none, 0, rfl, OwnI.nil _ _⟩, Lib.hid ⟨Nat.le_refl _, rfl⟩, HX3⟩
  case round =>
    obtain ⟨j, xs, hj, rfl, hr, he, hx⟩ := hrel
    by_cases hlt : j < ps.length
    · obtain ⟨⟨q, kA, kcap⟩, hq⟩ : ∃ q, ps[j]? = some q := ⟨_, List.getElem?_eq_getElem hlt⟩
      obtain ⟨b, off, rfl, hb, hcell⟩ := (HS.out.ext hx.out).parts (by omega)
      obtain ⟨d0, d1, d2, d3, d4, d5, d6, d7⟩ := hcell j _ hq
      dsimp only at d0 d1 d2 d3 d4 d5 d6 d7
      have HE : Hid (leavesF j ((nds ps).drop j) = if LeafK q.kind then (j : Int) :: leavesF (j + 1) ((nds ps).drop (j + 1)) else leavesF (j + 1) ((nds ps).drop (j + 1))) := by
        rw [List.drop_eq_getElem_cons (by rw [nds_length]; exact hlt)]
        have := nds_get hq
        rw [List.getElem?_eq_getElem (by rw [nds_length]; exact hlt)] at this
        injection this with this
        rw [this]
        exact Lib.hid rfl
      have HL : Hid (xs.length ≤ 1000000) := Lib.hid (by have := he.out.1; omega)
      clear hcell hq
      by_cases hk : LeafK q.kind
      · have hk1 : decide (LeafK q.kind) = true := decide_eq_true hk
        have HE' : Hid (leavesF j ((nds ps).drop j) = (j : Int) :: leavesF (j + 1) ((nds ps).drop (j + 1))) := Lib.hid (HE.out.trans (if_pos hk))
        clear hk HE
        go_wp2_with (first
          | (go_at_call 96; refine (leaf_any _ _).mono ?_; rintro e w' ⟨rfl, rfl⟩)
          | (at_builtin; refine app_int w (by rfl) (.tmp 19) (.tmp 21) rfl (hr.out.ext (by repeat (first | exact Ext.refl _ | refine Ext.alloc ?_ _ | refine Ext.more ?_ _ _ | refine Ext.drew ?_ | refine Ext.drewN ?_ _ | refine Ext.setCell ?_ (by simp <;> omega) _))) j (wr.heap.size + 1) rfl rfl (by simp) (by simp [go_sem]) HL.out (hx.out.trans (by repeat (first | exact Ext.refl _ | refine Ext.alloc ?_ _ | refine Ext.more ?_ _ _ | refine Ext.drew ?_ | refine Ext.drewN ?_ _ | refine Ext.setCell ?_ (by simp <;> omega) _))) ?_; intro v7 w7 hr7 hg7 hx7))
        have HR7 := Lib.hid hr7
        have HX7 := Lib.hid hx7
        clear hr7 hx7 hg7
        go_roundw
        case rel => exact ⟨j + 1, xs ++ [(j : Int)], by omega, by go_num, HR7, Lib.hid ⟨by have := he.out.1; simp; omega, by rw [he.out.2, HE'.out]; simp⟩, HX7⟩
        case measure => simp [intOf]; omega
      · have hk1 : decide (LeafK q.kind) = false := decide_eq_false hk
        have HE' : Hid (leavesF j ((nds ps).drop j) = leavesF (j + 1) ((nds ps).drop (j + 1))) := Lib.hid (HE.out.trans (if_neg hk))
        clear hk HE
        go_wp2_with (go_at_call 96; refine (leaf_any _ _).mono ?_; rintro e w' ⟨rfl, rfl⟩)
        go_roundw
        case rel => exact ⟨j + 1, xs, by omega, by go_num, Lib.hid (hr.out.ext (by repeat (first | exact Ext.refl _ | refine Ext.alloc ?_ _ | refine Ext.more ?_ _ _ | refine Ext.drew ?_ | refine Ext.drewN ?_ _ | refine Ext.setCell ?_ (by simp <;> omega) _))), Lib.hid ⟨by have := he.out.1; omega, by rw [he.out.2, HE'.out]⟩, Lib.hid (hx.out.trans (by repeat (first | exact Ext.refl _ | refine Ext.alloc ?_ _ | refine Ext.more ?_ _ _ | refine Ext.drew ?_ | refine Ext.drewN ?_ _ | refine Ext.setCell ?_ (by simp <;> omega) _)))⟩
        case measure => simp [intOf]; omega
    · obtain rfl : j = ps.length := by omega
      obtain ⟨A1, c1, rfl, ho⟩ := hr.out
      have HO := Lib.hid ho
      have HEE : Hid (leavesF 0 (nds ps) = xs) := Lib.hid (by rw [he.out.2, List.drop_eq_nil_of_le (by rw [nds_length]; omega)]; simp [leavesF])
      clear ho
      go_wp2_with fail
      go_ret
      rw [HEE.out]
      exact ⟨A1, c1, rfl, HO.out, hx.out⟩
end
end Go.Proofs.Ytaffaeompdlecaa
