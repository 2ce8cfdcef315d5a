/- The contracts of slices.IndexFunc, slices.ContainsFunc: parts, ints. -/
import Derived.Test.YtggmljookcmnkaaA1
import Derived.Laws.EntriesVeiled
import Derived.Shelf.Abstract
import Derived.WalkSpells
import Derived.WalkLawsBesides
import Derived.BigRegion
import Derived.Deep.RegionWith
import Derived.Deep.QuietTactic
import Derived.Deep.DeepCutAuto
import Derived.Deep.RegionHeld3
import Derived.Deep.RegionLaw
import Derived.BigQuiet
import Derived.Lib.Hide
namespace Go.Proofs.Ytggmljookcmnkaa
open Go.RowKit
attribute [local go_sem] more_drew more_drewN more_size more_cell more_frozen more_setCell drew_more drewN_more lt_add_r lt_add_r2 lt_add_r3 lt_add_r4 lt_add_r5 lt_add_r6 lt_add_r7 lt_add_r8 lt_add_r9 lt_add_r10 lt_self_r lt_self_r2

/-- the place of the first that is so, -1: none -/
def firstF {α : Type} (f : α → Bool) : Nat → List α → Int
  | _, [] => -1
  | k, p :: l => if f p then (k : Int) else firstF f (k + 1) l
theorem firstF_any {α : Type} (f : α → Bool) : ∀ (l : List α) (k : Nat), decide (0 ≤ firstF f k l) = l.any f
  | [], k => rfl
  | p :: l, k => by
    unfold firstF
    rw [List.any_cons]
    split
    · rename_i h; rw [h]; simp
    · rename_i h; rw [firstF_any f l (k + 1)]; simp [h]
theorem firstF_bd {α : Type} (f : α → Bool) : ∀ (l : List α) (k : Nat), -1 ≤ firstF f k l ∧ firstF f k l < (k : Int) + l.length + 1
  | [], k => by unfold firstF; simp only [List.length_nil]; omega
  | p :: l, k => by
    unfold firstF
    have := firstF_bd f l (k + 1)
    rw [List.length_cons]
    split <;> omega
theorem firstF_cases {α : Type} (f : α → Bool) : ∀ (l : List α) (k0 : Nat), (firstF f k0 l = -1 ∧ ∀ p ∈ l, f p = false) ∨ ∃ k p, firstF f k0 l = ((k0 + k : Nat) : Int) ∧ l[k]? = some p ∧ f p = true ∧ ∀ i q, i < k → l[i]? = some q → f q = false
  | [], _ => .inl ⟨rfl, fun p hp => (by cases hp)⟩
  | p :: l, k0 => by
    unfold firstF
    by_cases h : f p = true
    · exact .inr ⟨0, p, by rw [if_pos h]; rfl, rfl, h, fun i q hi => by omega⟩
    · rw [if_neg h]
      rcases firstF_cases f l (k0 + 1) with ⟨h1, h2⟩ | ⟨k, q, h1, h2, h3, h4⟩
      · refine .inl ⟨h1, fun x hx => ?_⟩
        rcases List.mem_cons.1 hx with rfl | hx
        · simpa using h
        · exact h2 x hx
      · refine .inr ⟨k + 1, q, by rw [h1]; congr 1; omega, by simpa using h2, h3, fun i x hi hx => ?_⟩
        cases i with
        | zero => simp at hx; subst hx; simpa using h
        | succ i => exact h4 i x (by omega) (by simpa using hx)
set_option maxRecDepth 100000 in
set_option maxHeartbeats 1000000 in
theorem idxParts (F : Nat) (lb : Array Value) (f : Prt → Bool) (A : Option Addr) (c : Nat) (ps : List Prt) (w : World) (hP : Prts w A ps) (hl : ps.length ≤ 9223372036854775807) (eg : Enters Try.prog F)
    (hf : ∀ (wr : World) (p : Prt), Ext w wr → p ∈ ps → Calls Try.prog F (#[aggV p] ++ lb) wr fun e w' => e = .returned (.bool (f p)) ∧ Ext wr w') :
    Calls Try.prog 83 #[.slice A ps.length c, .func (.func F) #[] lb] w fun e w' => e = .returned (.int .i64 (firstF f 0 ps)) ∧ Ext w w' := by
  have HP := Lib.hid hP
  have HF := Lib.hid hf
  unfold Enters at eg
  clear hP hf
  go_enter Try.func83, Try.ntmps83
  go_wp2
  go_loopw [8] (fun i wr => ∃ j : Nat, j ≤ ps.length ∧ i = .int .i64 j ∧ Hid (firstF f 0 ps = firstF f j (ps.drop j)) ∧ Ext w wr) (fun i _ => ps.length - (intOf i).toNat)
  case atStart => exact ⟨0, Nat.zero_le _, rfl, Lib.hid rfl, (by repeat (first | exact Ext.refl _ | refine Ext.alloc ?_ _ | refine Ext.more ?_ _ _ | refine Ext.drew ?_ | refine Ext.drewN ?_ _ | refine Ext.setCell ?_ (by simp <;> omega) _))⟩
  case round =>
    obtain ⟨j, hj, rfl, he, hx⟩ := hrel
    by_cases hlt : j < ps.length
    · obtain ⟨p, hp⟩ : ∃ p, ps[j]? = some p := ⟨_, List.getElem?_eq_getElem hlt⟩
      obtain ⟨b, off, rfl, hb, hcell⟩ := (HP.out.ext hx) (by omega)
      obtain ⟨d0, d1, d2, d3, d4, d5, d6, d7⟩ := hcell j p hp
      have CF := Lib.hid (HF.out wr p hx (List.mem_of_getElem? hp))
      have HS : Hid (firstF f j (ps.drop j) = if f p then (j : Int) else firstF f (j + 1) (ps.drop (j + 1))) := by
        rw [List.drop_eq_getElem_cons hlt]
        rw [List.getElem?_eq_getElem hlt] at hp
        injection hp with hp
        rw [hp]
        exact Lib.hid rfl
      have HX := Lib.hid hx
      clear hcell hp hx
      go_wp2_with fail
      refine CF.out.mono ?_
      rintro e w2 ⟨rfl, hx2⟩
      have HX2 := Lib.hid (HX.out.trans hx2)
      clear hx2
      cases hfp : f p with
      | true =>
        rw [hfp] at HS
        have HS' := Lib.hid HS.out
        clear hfp HS
        go_wp2_with fail
        go_ret
        exact ⟨ret_int (by rw [he.out, HS'.out]; rfl), HX2.out⟩
      | false =>
        rw [hfp] at HS
        have HS' := Lib.hid HS.out
        clear hfp HS
        go_wp2_with fail
        go_roundw
        case rel => exact ⟨j + 1, by omega, by go_num, Lib.hid (by rw [he.out, HS'.out]; rfl), HX2.out⟩
        case measure => simp [intOf]; omega
    · obtain rfl : j = ps.length := by omega
      have HX := Lib.hid hx
      clear hx
      go_wp2_with fail
      go_ret
      exact ⟨ret_int (by rw [he.out, List.drop_eq_nil_of_le (Nat.le_refl _)]; rfl), HX.out⟩
theorem hasParts (F : Nat) (lb : Array Value) (f : Prt → Bool) (A : Option Addr) (c : Nat) (ps : List Prt) (w : World) (hP : Prts w A ps) (hl : ps.length ≤ 9223372036854775000) (eg : Enters Try.prog F)
    (hf : ∀ (wr : World) (p : Prt), Ext w wr → p ∈ ps → Calls Try.prog F (#[aggV p] ++ lb) wr fun e w' => e = .returned (.bool (f p)) ∧ Ext wr w') :
    Calls Try.prog 98 #[.slice A ps.length c, .func (.func F) #[] lb] w fun e w' => e = .returned (.bool (ps.any f)) ∧ Ext w w' := by
  have CF := Lib.hid (idxParts F lb f A c ps w hP (by omega) eg hf)
  have HB := firstF_bd f ps 0
  have HA := Lib.hid (firstF_any f ps 0)
  clear hP hf eg
  go_enter Try.func98, Try.ntmps98
  go_wp2_with fail
  refine CF.out.mono ?_
  rintro e w2 ⟨rfl, hx2⟩
  have HX2 := Lib.hid hx2
  clear hx2
  go_wp2_with fail
  go_ret
  exact ⟨ret_bool HA.out, HX2.out⟩
set_option maxRecDepth 100000 in
set_option maxHeartbeats 1000000 in
theorem idxInts (F : Nat) (lb : Array Value) (f : Int → Bool) (A : Option Addr) (c : Nat) (xs : List Int) (w : World) (hP : Ints w A xs) (hl : xs.length ≤ 9223372036854775807) (eg : Enters Try.prog F)
    (hf : ∀ (wr : World) (x : Int), Ext w wr → x ∈ xs → Calls Try.prog F (#[.int .i64 x] ++ lb) wr fun e w' => e = .returned (.bool (f x)) ∧ Ext wr w') :
    Calls Try.prog 135 #[.slice A xs.length c, .func (.func F) #[] lb] w fun e w' => e = .returned (.int .i64 (firstF f 0 xs)) ∧ Ext w w' := by
  have HP := Lib.hid hP
  have HF := Lib.hid hf
  unfold Enters at eg
  clear hP hf
  go_enter Try.func135, Try.ntmps135
  go_wp2
  go_loopw [8] (fun i wr => ∃ j : Nat, j ≤ xs.length ∧ i = .int .i64 j ∧ Hid (firstF f 0 xs = firstF f j (xs.drop j)) ∧ Ext w wr) (fun i _ => xs.length - (intOf i).toNat)
  case atStart => exact ⟨0, Nat.zero_le _, rfl, Lib.hid rfl, (by repeat (first | exact Ext.refl _ | refine Ext.alloc ?_ _ | refine Ext.more ?_ _ _ | refine Ext.drew ?_ | refine Ext.drewN ?_ _ | refine Ext.setCell ?_ (by simp <;> omega) _))⟩
  case round =>
    obtain ⟨j, hj, rfl, he, hx⟩ := hrel
    by_cases hlt : j < xs.length
    · obtain ⟨b, off, rfl, hb, hcell⟩ := (HP.out.ext hx) (by omega)
      have d0 := hcell j hlt
      obtain ⟨x, hxe⟩ : ∃ x, xs.getD j 0 = x := ⟨_, rfl⟩
      have hxm : xs[j] = x := by rw [← hxe, List.getD_eq_getElem?_getD, List.getElem?_eq_getElem hlt]; rfl
      rw [hxe] at d0
      have CF := Lib.hid (HF.out wr x hx (hxm ▸ List.getElem_mem hlt))
      have HS : Hid (firstF f j (xs.drop j) = if f x then (j : Int) else firstF f (j + 1) (xs.drop (j + 1))) := by
        rw [List.drop_eq_getElem_cons hlt, hxm]
        exact Lib.hid rfl
      have HX := Lib.hid hx
      clear hcell hx hxe hxm
      go_wp2_with fail
      refine CF.out.mono ?_
      rintro e w2 ⟨rfl, hx2⟩
      have HX2 := Lib.hid (HX.out.trans hx2)
      clear hx2
      cases hfp : f x with
      | true =>
        rw [hfp] at HS
        have HS' := Lib.hid HS.out
        clear hfp HS
        go_wp2_with fail
        go_ret
        exact ⟨ret_int (by rw [he.out, HS'.out]; rfl), HX2.out⟩
      | false =>
        rw [hfp] at HS
        have HS' := Lib.hid HS.out
        clear hfp HS
        go_wp2_with fail
        go_roundw
        case rel => exact ⟨j + 1, by omega, by go_num, Lib.hid (by rw [he.out, HS'.out]; rfl), HX2.out⟩
        case measure => simp [intOf]; omega
    · obtain rfl : j = xs.length := by omega
      have HX := Lib.hid hx
      clear hx
      go_wp2_with fail
      go_ret
      exact ⟨ret_int (by rw [he.out, List.drop_eq_nil_of_le (Nat.le_refl _)]; rfl), HX.out⟩
theorem hasInts (F : Nat) (lb : Array Value) (f : Int → Bool) (A : Option Addr) (c : Nat) (xs : List Int) (w : World) (hP : Ints w A xs) (hl : xs.length ≤ 9223372036854775000) (eg : Enters Try.prog F)
    (hf : ∀ (wr : World) (x : Int), Ext w wr → x ∈ xs → Calls Try.prog F (#[.int .i64 x] ++ lb) wr fun e w' => e = .returned (.bool (f x)) ∧ Ext wr w') :
    Calls Try.prog 105 #[.slice A xs.length c, .func (.func F) #[] lb] w fun e w' => e = .returned (.bool (xs.any f)) ∧ Ext w w' := by
  have CF := Lib.hid (idxInts F lb f A c xs w hP (by omega) eg hf)
  have HB := firstF_bd f xs 0
  have HA := Lib.hid (firstF_any f xs 0)
  clear hP hf eg
  go_enter Try.func105, Try.ntmps105
  go_wp2_with fail
  refine CF.out.mono ?_
  rintro e w2 ⟨rfl, hx2⟩
  have HX2 := Lib.hid hx2
  clear hx2
  go_wp2_with fail
  go_ret
  exact ⟨ret_bool HA.out, HX2.out⟩
end Go.Proofs.Ytggmljookcmnkaa
