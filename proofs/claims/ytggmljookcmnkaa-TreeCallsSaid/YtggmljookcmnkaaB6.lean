/- The contracts of the kit's Same, LightParts, LightEdit. -/
import Derived.Test.YtggmljookcmnkaaB1
import Derived.WalkSpells
import Derived.WalkLawsBesides
import Derived.BigRegion
import Derived.Deep.RegionWith
import Derived.Deep.QuietTactic
import Derived.Deep.DeepCutAuto
import Derived.Deep.RegionHeld3
import Derived.Deep.RegionLaw
import Derived.BigQuiet
import Derived.Lib.Hide
namespace Go.Proofs.Ytggmljookcmnkaa
open Go.RowKit
attribute [local go_sem] more_drew more_drewN more_size more_cell more_frozen more_setCell drew_more drewN_more lt_add_r lt_add_r2 lt_add_r3 lt_add_r4 lt_add_r5 lt_add_r6 lt_add_r7 lt_add_r8 lt_add_r9 lt_add_r10 lt_self_r lt_self_r2

theorem take_next {xs : List Int} {k : Nat} (h : k < xs.length) : xs.take (k + 1) = xs.take k ++ [xs.getD k 0] := by
  rw [List.take_succ_eq_append_getElem h, List.getD_eq_getElem?_getD, List.getElem?_eq_getElem h]
  rfl
set_option maxHeartbeats 1000000 in
/-- viewportkit.Same at int -/
theorem same_any (A B : Option Addr) (xs ys : List Int) (c d : Nat) (w : World) (hx : Ints w A xs) (hy : Ints w B ys) (bx : xs.length ≤ 9223372036854775807) (by_ : ys.length ≤ 9223372036854775807) :
    Calls Try.prog 28 #[.slice A xs.length c, .slice B ys.length d] w fun e w' => e = .returned (.bool (decide (xs = ys))) ∧ Ext w w' := by
  by_cases hl : xs.length = ys.length
  · rcases hx.empty_or with rfl | ⟨h0, b, off, rfl, hb, hc⟩
    · obtain rfl : ys = [] := List.eq_nil_of_length_eq_zero hl.symm
      go_enter Try.func28, Try.ntmps28
      go_wp2
      refine wp_loop_rounds 1 ?_
      rw [rounds_succ]
      go_wp2
      go_ret
      exact ⟨rfl, (by repeat (first | exact Ext.refl _ | refine Ext.alloc ?_ _ | refine Ext.more ?_ _ _ | refine Ext.drew ?_ | refine Ext.drewN ?_ _ | refine Ext.setCell ?_ (by simp <;> omega) _))⟩
    · rcases hy.empty_or with rfl | ⟨h1, b', off', rfl, hb', hc'⟩
      · simp only [List.length_nil] at hl; omega
      · have hl2 : ((xs.length : Int) != (ys.length : Int)) = false := by simp; omega
        have HC := Lib.hid hc
        have HC' := Lib.hid hc'
        have HL := Lib.hid hl
        clear hc hc' hl hx hy
        go_enter Try.func28, Try.ntmps28
        go_wp2
        go_loopw [5] (fun i wr => ∃ k : Nat, k ≤ xs.length ∧ i = .int .i64 k ∧ xs.take k = ys.take k ∧ Ext w wr) (fun i _ => xs.length - (intOf i).toNat)
        case atStart => exact ⟨0, by omega, rfl, by simp, (by repeat (first | exact Ext.refl _ | refine Ext.alloc ?_ _ | refine Ext.more ?_ _ _ | refine Ext.drew ?_ | refine Ext.drewN ?_ _ | refine Ext.setCell ?_ (by simp <;> omega) _))⟩
        case round =>
          obtain ⟨k, hk, rfl, ht, os, kk, rfl⟩ := hrel
          have HT := Lib.hid ht
          clear ht
          by_cases hlt : k < xs.length
          · have c1 := HC.out k hlt
            have c2 := HC'.out k (by rw [← HL.out]; exact hlt)
            have hlt' : k < ys.length := by have := HL.out; omega
            generalize hu : xs.getD k 0 = u at *
            generalize hv : ys.getD k 0 = v at *
            have HU := Lib.hid hu
            have HV := Lib.hid hv
            clear hu hv
            by_cases e : u = v
            · have e1 : (u != v) = false := by simp [e]
              have E := Lib.hid e
              clear e
              go_upto_region 5 with fail
              go_quiet (fail)
              go_wp2
              go_roundw
              case rel => exact ⟨k + 1, by omega, by go_num, by rw [take_next hlt, take_next hlt', HT.out, HU.out, HV.out, E.out], (by repeat (first | exact Ext.refl _ | refine Ext.alloc ?_ _ | refine Ext.more ?_ _ _ | refine Ext.drew ?_ | refine Ext.drewN ?_ _ | refine Ext.setCell ?_ (by simp <;> omega) _))⟩
              case measure => simp [intOf]; omega
            · have e1 : (u != v) = true := by simp [e]
              have E := Lib.hid e
              clear e
              go_upto_region 5 with fail
              go_quiet (fail)
              go_wp2
              go_ret
              refine ⟨ret_bool ?_, (by repeat (first | exact Ext.refl _ | refine Ext.alloc ?_ _ | refine Ext.more ?_ _ _ | refine Ext.drew ?_ | refine Ext.drewN ?_ _ | refine Ext.setCell ?_ (by simp <;> omega) _))⟩
              symm
              rw [decide_eq_false_iff_not]
              intro h
              apply E.out
              rw [← HU.out, ← HV.out, h]
          · go_wp2
            go_ret
            refine ⟨ret_bool ?_, (by repeat (first | exact Ext.refl _ | refine Ext.alloc ?_ _ | refine Ext.more ?_ _ _ | refine Ext.drew ?_ | refine Ext.drewN ?_ _ | refine Ext.setCell ?_ (by simp <;> omega) _))⟩
            symm
            rw [decide_eq_true_eq]
            have := HT.out
            have h2 := HL.out
            rwa [List.take_of_length_le (by omega), List.take_of_length_le (by omega)] at this
  · have hl2 : ((xs.length : Int) != (ys.length : Int)) = true := by simp; omega
    have hl3 : decide (xs = ys) = false := by
      rw [decide_eq_false_iff_not]
      intro h
      exact hl (by rw [h])
    have HL := Lib.hid hl3
    clear hl hl3
    go_enter Try.func28, Try.ntmps28
    go_wp2
    go_ret
    exact ⟨ret_bool HL.out.symm, (by repeat (first | exact Ext.refl _ | refine Ext.alloc ?_ _ | refine Ext.more ?_ _ _ | refine Ext.drew ?_ | refine Ext.drewN ?_ _ | refine Ext.setCell ?_ (by simp <;> omega) _))⟩

/-- places up to 2^20 -/
def Lt20 (x : Int) : Prop := -1048576 ≤ x ∧ x ≤ 1048576
/-- a tree that is gone through -/
structure LightP (most : Nat) (ps : List Prt) : Prop where
  len : ps.length ≤ most
  kids : kc (nds ps) 0 ps.length ≤ 2 * most
  places : ∀ p ∈ ps, Lt20 p.nd.lo ∧ Lt20 p.nd.hi ∧ Lt20 p.nd.look
theorem kc_all (l : List Nd) (j : Nat) : kc l 0 j ≤ kc l 0 l.length := by
  rcases Nat.le_total j l.length with h | h
  · rw [kc_add l (Nat.zero_le j) h]
    omega
  · unfold kc
    rw [List.take_of_length_le h, List.take_of_length_le (Nat.le_refl _)]
    exact Nat.le_refl _
theorem LightP.few {most : Nat} {ps : List Prt} (h : LightP most ps) (hm : most ≤ 1000) : Few ps :=
  ⟨by have := h.len; omega, fun j => by have := kc_all (nds ps) j; rw [nds_length] at this; have := h.kids; omega⟩
/-- kids that memory can hold -/
def KidsLt (ps : List Prt) : Prop := ∀ p ∈ ps, p.nd.kids.length ≤ 140737488355328
def LightRet (most : Nat) (ps : List Prt) (w : World) (e : Ending) (w' : World) : Prop := ∃ b : Bool, e = .returned (.bool b) ∧ (b = true → LightP most ps) ∧ Ext w w'
set_option maxRecDepth 100000 in
set_option maxHeartbeats 2000000 in
theorem lightParts_any (most : Nat) (A : Option Addr) (c : Nat) (ps : List Prt) (w : World) (hm : most ≤ 1000) (hP : Prts w A ps) (hl : ps.length ≤ 9223372036854775807) (hk : KidsLt ps) :
    Calls Try.prog 23 #[.slice A ps.length c, .int .i64 most] w (LightRet most ps w) := by
  have HP := Lib.hid hP
  have HK := Lib.hid hk
  clear hP hk
  go_enter Try.func23, Try.ntmps23
  go_wp2_with fail
  go_loopw [5, 6] (fun s i wr => ∃ j n : Nat, j ≤ ps.length ∧ j ≤ most + 1 ∧ i = .int .i64 j ∧ s = .int .i64 n ∧ Hid (n = kc (nds ps) 0 j) ∧ n ≤ 140737488355328 * j ∧ Hid (∀ i p, i < j → ps[i]? = some p → Lt20 p.nd.lo ∧ Lt20 p.nd.hi ∧ Lt20 p.nd.look) ∧ Hid (Ext w wr)) (fun _ i _ => ps.length - (intOf i).toNat)
  case atStart => exact ⟨0, 0, Nat.zero_le _, Nat.zero_le _, rfl, rfl, Lib.hid (kc_self _ _).symm, by omega, Lib.hid fun i p h => by omega, Lib.hid (by repeat (first | exact Ext.refl _ | refine Ext.alloc ?_ _ | refine Ext.more ?_ _ _ | refine Ext.drew ?_ | refine Ext.drewN ?_ _ | refine Ext.setCell ?_ (by simp <;> omega) _))⟩
  case round =>
    obtain ⟨j, n, hj, hjm, rfl, rfl, hn, hn2, hpl, hx⟩ := hrel
    by_cases hlt : j < ps.length
    · by_cases hle : j ≤ most
      · obtain ⟨p, hp⟩ : ∃ p, ps[j]? = some p := ⟨_, List.getElem?_eq_getElem hlt⟩
        obtain ⟨bA, off, rfl, hbA, hcell⟩ := (HP.out.ext hx.out) (by omega)
        obtain ⟨d0, d1, d2, d3, d4, d5, d6, d7⟩ := hcell j p hp
        have hkl := HK.out p (List.mem_of_getElem? hp)
        have HN : Hid (n + p.nd.kids.length = kc (nds ps) 0 (j + 1)) := by rw [kc_add _ (Nat.zero_le j) (show j ≤ j + 1 by omega), kc_one (nds_get hp), ← hn.out]; exact Lib.hid rfl
        have HPJ := Lib.hid hp
        clear hcell hp
        by_cases hg : (Lt20 p.nd.lo ∧ Lt20 p.nd.hi ∧ Lt20 p.nd.look)
        · obtain ⟨⟨g1, g2⟩, ⟨g3, g4⟩, ⟨g5, g6⟩⟩ := hg
          go_wp2_with fail
          go_roundw
          case rel =>
            refine ⟨j + 1, n + p.nd.kids.length, by omega, by omega, by go_num, by go_num, HN, by omega, Lib.hid fun i q hi hq => ?_, Lib.hid (hx.out.trans (by repeat (first | exact Ext.refl _ | refine Ext.alloc ?_ _ | refine Ext.more ?_ _ _ | refine Ext.drew ?_ | refine Ext.drewN ?_ _ | refine Ext.setCell ?_ (by simp <;> omega) _)))⟩
            rcases (show i < j ∨ i = j by omega) with h | rfl
            · exact hpl.out i q h hq
            · rw [HPJ.out] at hq
              injection hq with hq
              subst hq
              exact ⟨⟨g1, g2⟩, ⟨g3, g4⟩, ⟨g5, g6⟩⟩
          case measure => simp [intOf]; omega
        · have HG := Lib.hid hg
          clear hg
          go_wp2_with fail
          all_goals first
            | (go_ret; exact ⟨false, rfl, (fun h => (by cases h)), hx.out.trans (by repeat (first | exact Ext.refl _ | refine Ext.alloc ?_ _ | refine Ext.more ?_ _ _ | refine Ext.drew ?_ | refine Ext.drewN ?_ _ | refine Ext.setCell ?_ (by simp <;> omega) _))⟩)
            | (exfalso; have := HG.out; unfold Lt20 at this; omega)
      · obtain rfl : j = most + 1 := by omega
        have g1 : decide (most + 1 ≤ most) = false := by simp
        go_wp2_with fail
        all_goals first
          | (go_ret; exact ⟨false, rfl, (fun h => (by cases h)), hx.out⟩)
          | (exfalso; omega)
    · obtain rfl : j = ps.length := by omega
      have g1 : decide (ps.length < ps.length) = false := by simp
      by_cases hle : ps.length ≤ most
      · by_cases hks : n ≤ 2 * most
        · have hL : LightP most ps := ⟨hle, by rw [← hn.out]; exact hks, fun p hp => by
            obtain ⟨i, hi, rfl⟩ := List.getElem_of_mem hp
            exact hpl.out i _ hi (List.getElem?_eq_getElem hi)⟩
          have HL := Lib.hid hL
          clear hL
          go_wp2_with fail
          go_ret
          exact ⟨_, rfl, fun _ => HL.out, hx.out⟩
        · have hd : decide ((n : Int) ≤ 2 * (most : Int)) = false := decide_eq_false (by omega)
          go_wp2_with fail
          go_ret
          exact ⟨false, ret_bool (by first | rfl | exact hd | (simp; omega)), (fun h => (by cases h)), hx.out⟩
      · have g2 : decide (ps.length ≤ most) = false := decide_eq_false hle
        go_wp2_with fail
        go_ret
        exact ⟨false, rfl, (fun h => (by cases h)), hx.out⟩
/-- an edit that is gone through -/
def LightEd (a d i : Int) : Prop := Lt20 a ∧ Lt20 d ∧ Lt20 i
def LightEdRet (a d i : Int) (w : World) (e : Ending) (w' : World) : Prop := ∃ b : Bool, e = .returned (.bool b) ∧ (b = true → LightEd a d i) ∧ Ext w w'
set_option maxRecDepth 100000 in
set_option maxHeartbeats 2000000 in
theorem lightEdit_any (a d i : Int) (w : World) : Calls Try.prog 107 #[.agg #[.int .i64 a, .int .i64 d, .int .i64 i]] w (LightEdRet a d i w) := by
  by_cases hg : LightEd a d i
  · have HG := Lib.hid hg
    obtain ⟨⟨g1, g2⟩, ⟨g3, g4⟩, ⟨g5, g6⟩⟩ := hg
    go_enter Try.func107, Try.ntmps107
    go_wp2_with fail
    go_ret
    exact ⟨_, rfl, fun _ => HG.out, (by repeat (first | exact Ext.refl _ | refine Ext.alloc ?_ _ | refine Ext.more ?_ _ _ | refine Ext.drew ?_ | refine Ext.drewN ?_ _ | refine Ext.setCell ?_ (by simp <;> omega) _))⟩
  · have HG := Lib.hid hg
    clear hg
    go_enter Try.func107, Try.ntmps107
    go_wp2_with fail
    all_goals go_ret
    all_goals refine ⟨_, rfl, fun h => ?_, (by repeat (first | exact Ext.refl _ | refine Ext.alloc ?_ _ | refine Ext.more ?_ _ _ | refine Ext.drew ?_ | refine Ext.drewN ?_ _ | refine Ext.setCell ?_ (by simp <;> omega) _))⟩
    all_goals first
      | (cases h; done)
      | (exfalso; have := HG.out; unfold LightEd Lt20 at this; simp at h; omega)
end Go.Proofs.Ytggmljookcmnkaa
