/- The contracts of LightStyles; the example and lives of chapter 26. -/
import Derived.Test.YtggmljookcmnkaaY1
import Derived.WalkSpells
import Derived.WalkLawsBesides
import Derived.BigRegion
import Derived.Deep.RegionWith
import Derived.Deep.QuietTactic
import Derived.Deep.DeepCutAuto
import Derived.Deep.RegionHeld3
import Derived.Deep.RegionLaw
import Derived.BigQuiet
import Derived.Lib.Hide
namespace Go.Proofs.Ytggmljookcmnkaa
open Go.RowKit
attribute [local go_sem] more_drew more_drewN more_size more_cell more_frozen more_setCell drew_more drewN_more lt_add_r lt_add_r2 lt_add_r3 lt_add_r4 lt_add_r5 lt_add_r6 lt_add_r7 lt_add_r8 lt_add_r9 lt_add_r10 lt_self_r lt_self_r2

def shortB (ss : List Sty) : Bool := ss.all (fun s => decide (s.path.length ≤ 20))
set_option maxRecDepth 100000 in
set_option maxHeartbeats 1000000 in
theorem lightStyles_any (B : Option Addr) (ss : List Sty) (c : Nat) (w : World) (hS : Styles w B ss) (hO : StylesOk w ss) (bs : ss.length ≤ 9223372036854775807) :
    Calls Try.prog 64 #[.slice B ss.length c] w fun e w' => e = .returned (.bool (shortB ss && decide (ss.length ≤ 70))) ∧ Ext w w' := by
  rcases (show ss.length = 0 ∨ 0 < ss.length by omega) with h0 | h0
  · obtain rfl := List.eq_nil_of_length_eq_zero h0
    go_enter Try.func64, Try.ntmps64
    go_wp2
    refine wp_loop_rounds 1 ?_
    rw [rounds_succ]
    go_wp2
    go_ret
    exact ⟨rfl, (by repeat (first | exact Ext.refl _ | refine Ext.alloc ?_ _ | refine Ext.more ?_ _ _ | refine Ext.drew ?_ | refine Ext.drewN ?_ _ | refine Ext.setCell ?_ (by simp <;> omega) _))⟩
  · obtain ⟨b, off, rfl, hb, hc⟩ := hS h0
    have HC := Lib.hid hc
    have HO := Lib.hid hO
    clear hS hc hO
    go_enter Try.func64, Try.ntmps64
    go_wp2
    go_loopw [3] (fun i wr => ∃ k : Nat, k ≤ ss.length ∧ i = .int .i64 k ∧ shortB (ss.take k) = true ∧ Ext w wr) (fun i _ => ss.length - (intOf i).toNat)
    case atStart => exact ⟨0, by omega, rfl, by simp [shortB], (by repeat (first | exact Ext.refl _ | refine Ext.alloc ?_ _ | refine Ext.more ?_ _ _ | refine Ext.drew ?_ | refine Ext.drewN ?_ _ | refine Ext.setCell ?_ (by simp <;> omega) _))⟩
    case round =>
      obtain ⟨k, hk, rfl, ht, os, kk, rfl⟩ := hrel
      have HT := Lib.hid ht
      clear ht
      by_cases hlt : k < ss.length
      · obtain ⟨s, hs⟩ : ∃ s, ss[k]? = some s := ⟨_, List.getElem?_eq_getElem hlt⟩
        obtain ⟨c1, c2, c3, c4⟩ := HC.out k s hs
        have hp := (HO.out s (List.mem_of_getElem? hs)).2
        have HS := Lib.hid hs
        clear hs
        by_cases hl : s.path.length ≤ 20
        · go_wp2
          go_roundw
          case rel => exact ⟨k + 1, by omega, by go_num, by rw [List.take_add_one, HS.out]; have := HT.out; simp only [shortB, List.all_append] at *; simp [this, hl], (by repeat (first | exact Ext.refl _ | refine Ext.alloc ?_ _ | refine Ext.more ?_ _ _ | refine Ext.drew ?_ | refine Ext.drewN ?_ _ | refine Ext.setCell ?_ (by simp <;> omega) _))⟩
          case measure => simp [intOf]; omega
        · go_wp2
          go_ret
          refine ⟨ret_bool ?_, (by repeat (first | exact Ext.refl _ | refine Ext.alloc ?_ _ | refine Ext.more ?_ _ _ | refine Ext.drew ?_ | refine Ext.drewN ?_ _ | refine Ext.setCell ?_ (by simp <;> omega) _))⟩
          symm
          have hm := List.mem_of_getElem? HS.out
          rw [Bool.and_eq_false_iff]
          left
          rw [shortB, List.all_eq_false]
          exact ⟨s, hm, by simpa using hl⟩
      · obtain rfl : k = ss.length := by omega
        have h1 := HT.out
        rw [List.take_length] at h1
        go_wp2
        go_ret
        exact ⟨ret_bool (by simp [h1]; omega), (by repeat (first | exact Ext.refl _ | refine Ext.alloc ?_ _ | refine Ext.more ?_ _ _ | refine Ext.drew ?_ | refine Ext.drewN ?_ _ | refine Ext.setCell ?_ (by simp <;> omega) _))⟩

set_option maxRecDepth 100000 in
set_option maxHeartbeats 1000000 in
theorem example26 (w : World) : Calls Try.prog 63 #[] w fun e w' => ∃ g p : Nat, e = .returned (.slice (some ⟨g, 0, none⟩) 2 2) ∧ Ext w w' ∧ w.heap.size ≤ g ∧
    (let ss : List Sty := [⟨0, none, 0, [], 1, 0⟩, ⟨0, some ⟨p, 0, none⟩, 1, [1], 2, 1⟩]
     Styles w' (some ⟨g, 0, none⟩) ss ∧ StylesOk w' ss) := by
  go_enter Try.func63, Try.ntmps63
  go_wp2
  go_ret
  refine ⟨_, w.heap.size, rfl, (by repeat (first | exact Ext.refl _ | refine Ext.alloc ?_ _ | refine Ext.more ?_ _ _ | refine Ext.drew ?_ | refine Ext.drewN ?_ _ | refine Ext.setCell ?_ (by simp <;> omega) _)), ?_, ?_, ?_⟩
  · omega
  · intro _
    refine ⟨_, _, rfl, by simp, ?_⟩
    intro k s hk
    match k, hk with
    | 0, hk => obtain rfl : _ = s := by simpa using hk
               simp [go_sem]
    | 1, hk => obtain rfl : _ = s := by simpa using hk
               simp [go_sem]
    | k + 2, hk => simp at hk
  · intro s hs
    simp only [List.mem_cons, List.not_mem_nil, or_false] at hs
    rcases hs with rfl | rfl
    · exact ⟨Ints.nil, by simp⟩
    · refine ⟨fun _ => ⟨_, _, rfl, by simp; omega, ?_⟩, by simp⟩
      intro k hk
      match k, hk with
      | 0, _ => simp [go_sem]

set_option maxRecDepth 100000 in
set_option maxHeartbeats 1000000 in
theorem lives26 (w : World) : Calls Try.prog 8 #[] w fun e w' => e = .returned (.bool true) ∧ Ext w w' := by
  go_enter Try.func8, Try.ntmps8
  go_wp2_with fail
  refine (example26 _).mono ?_
  rintro e w1 ⟨g, p, rfl, ⟨os1, k1, rfl⟩, hg, hS, hO⟩
  have S1 := Lib.hid hS
  have O1 := Lib.hid hO
  clear hS hO
  go_wp2_with fail
  refine (style_any _ _ 2 0 _ [-3] 1 _ (S1.out.ext ((by repeat (first | exact Ext.refl _ | refine Ext.alloc ?_ _ | refine Ext.more ?_ _ _ | refine Ext.drew ?_ | refine Ext.drewN ?_ _ | refine Ext.setCell ?_ (by simp <;> omega) _)))) (O1.out.ext ((by repeat (first | exact Ext.refl _ | refine Ext.alloc ?_ _ | refine Ext.more ?_ _ _ | refine Ext.drew ?_ | refine Ext.drewN ?_ _ | refine Ext.setCell ?_ (by simp <;> omega) _)))) (by simp) (fun _ => ⟨_, _, rfl, by simp [more_size] <;> omega, fun k hk => ?_⟩) (by simp) (by simp)).mono ?_
  · match k, hk with
    | 0, _ => simp [go_sem]
  rintro e w2 ⟨rfl, os2, k2, rfl⟩
  have e1 : styleF [⟨0, none, 0, [], 1, 0⟩, ⟨0, some ⟨p, 0, none⟩, 1, [1], 2, 1⟩] 0 [-3] = 1 := by rfl
  rw [e1]
  go_wp2_with fail
  clear S1 O1 hg
  refine (example26 _).mono ?_
  rintro e w1 ⟨g, p, rfl, ⟨os1, k1, rfl⟩, hg, hS, hO⟩
  have S1 := Lib.hid hS
  have O1 := Lib.hid hO
  clear hS hO
  go_wp2_with fail
  refine (style_any _ _ 2 0 _ [-3, 1] 2 _ (S1.out.ext ((by repeat (first | exact Ext.refl _ | refine Ext.alloc ?_ _ | refine Ext.more ?_ _ _ | refine Ext.drew ?_ | refine Ext.drewN ?_ _ | refine Ext.setCell ?_ (by simp <;> omega) _)))) (O1.out.ext ((by repeat (first | exact Ext.refl _ | refine Ext.alloc ?_ _ | refine Ext.more ?_ _ _ | refine Ext.drew ?_ | refine Ext.drewN ?_ _ | refine Ext.setCell ?_ (by simp <;> omega) _)))) (by simp) (fun _ => ⟨_, _, rfl, by simp [more_size] <;> omega, fun k hk => ?_⟩) (by simp) (by simp)).mono ?_
  · match k, hk with
    | 0, _ => simp [go_sem]
    | 1, _ => simp [go_sem]
  rintro e w2 ⟨rfl, os2, k2, rfl⟩
  have e1 : styleF [⟨0, none, 0, [], 1, 0⟩, ⟨0, some ⟨p, 0, none⟩, 1, [1], 2, 1⟩] 0 [-3, 1] = 2 := by rfl
  rw [e1]
  go_wp2_with fail
  go_ret
  exact ⟨rfl, (by repeat (first | exact Ext.refl _ | refine Ext.alloc ?_ _ | refine Ext.more ?_ _ _ | refine Ext.drew ?_ | refine Ext.drewN ?_ _ | refine Ext.setCell ?_ (by simp <;> omega) _))⟩
end Go.Proofs.Ytggmljookcmnkaa
