/- The contracts of Same, LightStyles, light, lives. -/
import Derived.Test.YteclpmdhllmloaaC
import Derived.WalkSpells
import Derived.WalkLawsBesides
import Derived.Deep.RegionWith
import Derived.Deep.QuietTactic
import Derived.Deep.DeepCutAuto
import Derived.Deep.RegionHeld3
import Derived.BigQuiet
import Derived.Lib.Hide
namespace Go.Proofs.Yteclpmdhllmloaa
open Go.RowKit
attribute [local go_sem] more_drew more_drewN more_size more_cell more_frozen more_setCell drew_more drewN_more lt_add_r lt_add_r2 lt_add_r3 lt_add_r4 lt_add_r5 lt_add_r6 lt_add_r7 lt_add_r8 lt_add_r9 lt_add_r10 lt_self_r lt_self_r2

/-- viewportkit.Same at int -/
theorem same_any (A B : Option Addr) (xs ys : List Int) (c d : Nat) (w : World) (hx : Ints w A xs) (hy : Ints w B ys) (bx : xs.length ≤ 9223372036854775807) (by_ : ys.length ≤ 9223372036854775807) :
    Calls Try.prog 7 #[.slice A xs.length c, .slice B ys.length d] w fun e w' => e = .returned (.bool (decide (xs = ys))) ∧ Ext w w' := by
  by_cases hl : xs.length = ys.length
  · rcases hx.empty_or with rfl | ⟨h0, b, off, rfl, hb, hc⟩
    · obtain rfl : ys = [] := List.eq_nil_of_length_eq_zero hl.symm
      go_enter Try.func7, Try.ntmps7
      go_wp2
      refine wp_loop_rounds 1 ?_
      rw [rounds_succ]
      go_wp2
      go_ret
      exact ⟨rfl, by repeat (first | exact Ext.refl _ | refine Ext.alloc ?_ _ | refine Ext.more ?_ _ _ | refine Ext.drew ?_ | refine Ext.drewN ?_ _)⟩
    · rcases hy.empty_or with rfl | ⟨h1, b', off', rfl, hb', hc'⟩
      · simp only [List.length_nil] at hl; omega
      · have hl2 : ((xs.length : Int) != (ys.length : Int)) = false := by simp; omega
        have HC := Lib.hid hc
        have HC' := Lib.hid hc'
        have HL := Lib.hid hl
        clear hc hc' hl hx hy
        go_enter Try.func7, Try.ntmps7
        go_wp2
        go_loopw [5] (fun i wr => ∃ k : Nat, k ≤ xs.length ∧ i = .int .i64 k ∧ xs.take k = ys.take k ∧ Ext w wr) (fun i _ => xs.length - (intOf i).toNat)
        case atStart => exact ⟨0, by omega, rfl, by simp, by repeat (first | exact Ext.refl _ | refine Ext.alloc ?_ _ | refine Ext.more ?_ _ _ | refine Ext.drew ?_ | refine Ext.drewN ?_ _)⟩
        case round =>
          obtain ⟨k, hk, rfl, ht, os, kk, rfl⟩ := hrel
          have HT := Lib.hid ht
          clear ht
          by_cases hlt : k < xs.length
          · have c1 := HC.out k hlt
            have c2 := HC'.out k (by rw [← HL.out]; exact hlt)
            have hlt' : k < ys.length := by have := HL.out; omega
            generalize hu : xs.getD k 0 = u at *
            generalize hv : ys.getD k 0 = v at *
            have HU := Lib.hid hu
            have HV := Lib.hid hv
            clear hu hv
            by_cases e : u = v
            · have e1 : (u != v) = false := by simp [e]
              have E := Lib.hid e
              clear e
              go_upto_region 5 with fail
              go_quiet (fail)
              go_wp2
              go_roundw
              case rel => exact ⟨k + 1, by omega, by go_num, by rw [take_next hlt, take_next hlt', HT.out, HU.out, HV.out, E.out], by repeat (first | exact Ext.refl _ | refine Ext.alloc ?_ _ | refine Ext.more ?_ _ _ | refine Ext.drew ?_ | refine Ext.drewN ?_ _)⟩
              case measure => simp [intOf]; omega
            · have e1 : (u != v) = true := by simp [e]
              have E := Lib.hid e
              clear e
              go_upto_region 5 with fail
              go_quiet (fail)
              go_wp2
              go_ret
              refine ⟨ret_bool ?_, by repeat (first | exact Ext.refl _ | refine Ext.alloc ?_ _ | refine Ext.more ?_ _ _ | refine Ext.drew ?_ | refine Ext.drewN ?_ _)⟩
              symm
              rw [decide_eq_false_iff_not]
              intro h
              apply E.out
              rw [← HU.out, ← HV.out, h]
          · go_wp2
            go_ret
            refine ⟨ret_bool ?_, by repeat (first | exact Ext.refl _ | refine Ext.alloc ?_ _ | refine Ext.more ?_ _ _ | refine Ext.drew ?_ | refine Ext.drewN ?_ _)⟩
            symm
            rw [decide_eq_true_eq]
            have := HT.out
            have h2 := HL.out
            rwa [List.take_of_length_le (by omega), List.take_of_length_le (by omega)] at this
  · have hl2 : ((xs.length : Int) != (ys.length : Int)) = true := by simp; omega
    have hl3 : decide (xs = ys) = false := by
      rw [decide_eq_false_iff_not]
      intro h
      exact hl (by rw [h])
    have HL := Lib.hid hl3
    clear hl hl3
    go_enter Try.func7, Try.ntmps7
    go_wp2
    go_ret
    exact ⟨ret_bool HL.out.symm, by repeat (first | exact Ext.refl _ | refine Ext.alloc ?_ _ | refine Ext.more ?_ _ _ | refine Ext.drew ?_ | refine Ext.drewN ?_ _)⟩

def shortB (ss : List Sty) : Bool := ss.all (fun s => decide (s.path.length ≤ 20))
theorem lightStyles_any (B : Option Addr) (ss : List Sty) (c : Nat) (w : World) (hS : Styles w B ss) (hO : StylesOk w ss) (bs : ss.length ≤ 9223372036854775807) :
    Calls Try.prog 11 #[.slice B ss.length c] w fun e w' => e = .returned (.bool (shortB ss && decide (ss.length ≤ 70))) ∧ Ext w w' := by
  rcases (show ss.length = 0 ∨ 0 < ss.length by omega) with h0 | h0
  · obtain rfl := List.eq_nil_of_length_eq_zero h0
    go_enter Try.func11, Try.ntmps11
    go_wp2
    refine wp_loop_rounds 1 ?_
    rw [rounds_succ]
    go_wp2
    go_ret
    exact ⟨rfl, by repeat (first | exact Ext.refl _ | refine Ext.alloc ?_ _ | refine Ext.more ?_ _ _ | refine Ext.drew ?_ | refine Ext.drewN ?_ _)⟩
  · obtain ⟨b, off, rfl, hb, hc⟩ := hS h0
    have HC := Lib.hid hc
    have HO := Lib.hid hO
    clear hS hc hO
    go_enter Try.func11, Try.ntmps11
    go_wp2
    go_loopw [3] (fun i wr => ∃ k : Nat, k ≤ ss.length ∧ i = .int .i64 k ∧ shortB (ss.take k) = true ∧ Ext w wr) (fun i _ => ss.length - (intOf i).toNat)
    case atStart => exact ⟨0, by omega, rfl, by simp [shortB], by repeat (first | exact Ext.refl _ | refine Ext.alloc ?_ _ | refine Ext.more ?_ _ _ | refine Ext.drew ?_ | refine Ext.drewN ?_ _)⟩
    case round =>
      obtain ⟨k, hk, rfl, ht, os, kk, rfl⟩ := hrel
      have HT := Lib.hid ht
      clear ht
      by_cases hlt : k < ss.length
      · obtain ⟨s, hs⟩ : ∃ s, ss[k]? = some s := ⟨_, List.getElem?_eq_getElem hlt⟩
        obtain ⟨c1, c2, c3, c4⟩ := HC.out k s hs
        have hp := (HO.out s (List.mem_of_getElem? hs)).2
        have HS := Lib.hid hs
        clear hs
        by_cases hl : s.path.length ≤ 20
        · go_wp2
          go_roundw
          case rel => exact ⟨k + 1, by omega, by go_num, by rw [List.take_add_one, HS.out]; have := HT.out; simp only [shortB, List.all_append] at *; simp [this, hl], by repeat (first | exact Ext.refl _ | refine Ext.alloc ?_ _ | refine Ext.more ?_ _ _ | refine Ext.drew ?_ | refine Ext.drewN ?_ _)⟩
          case measure => simp [intOf]; omega
        · go_wp2
          go_ret
          refine ⟨ret_bool ?_, by repeat (first | exact Ext.refl _ | refine Ext.alloc ?_ _ | refine Ext.more ?_ _ _ | refine Ext.drew ?_ | refine Ext.drewN ?_ _)⟩
          symm
          have hm := List.mem_of_getElem? HS.out
          rw [Bool.and_eq_false_iff]
          left
          rw [shortB, List.all_eq_false]
          exact ⟨s, hm, by simpa using hl⟩
      · obtain rfl : k = ss.length := by omega
        have h1 := HT.out
        rw [List.take_length] at h1
        go_wp2
        go_ret
        exact ⟨ret_bool (by simp [h1]; omega), by repeat (first | exact Ext.refl _ | refine Ext.alloc ?_ _ | refine Ext.more ?_ _ _ | refine Ext.drew ?_ | refine Ext.drewN ?_ _)⟩

theorem lightParts_nil (w : World) : Calls Try.prog 12 #[.slice none 0 0, .int .i64 100] w fun e w' => e = .returned (.bool true) ∧ Ext w w' := by
  go_enter Try.func12, Try.ntmps12
  go_wp2
  refine wp_loop_rounds 1 ?_
  rw [rounds_succ]
  go_wp2
  go_ret
  exact ⟨rfl, by repeat (first | exact Ext.refl _ | refine Ext.alloc ?_ _ | refine Ext.more ?_ _ _ | refine Ext.drew ?_ | refine Ext.drewN ?_ _)⟩

def lightB (ss : List Sty) (way : List Int) : Bool := shortB ss && decide (ss.length ≤ 70) && decide (way.length ≤ 40)
theorem light_any (B : Option Addr) (ss : List Sty) (c : Nat) (A : Option Addr) (way : List Int) (d : Nat) (w : World) (hS : Styles w B ss) (hO : StylesOk w ss) (bs : ss.length ≤ 9223372036854775807) (bw : way.length ≤ 9223372036854775807) :
    Calls Try.prog 6 #[.slice B ss.length c, .slice A way.length d, .slice none 0 0] w fun e w' => e = .returned (.bool (lightB ss way)) ∧ Ext w w' := by
  have LS := Lib.hid (lightStyles_any B ss c w hS hO bs)
  clear hS hO
  cases h1 : (shortB ss && decide (ss.length ≤ 70))
  · have e : lightB ss way = false := by rw [lightB, h1]; rfl
    have E := Lib.hid e
    rw [h1] at LS
    clear e h1
    go_enter Try.func6, Try.ntmps6
    go_wp2_with (first | (go_at_call 11; refine LS.out.mono ?_; rintro e w1 ⟨rfl, os1, k1, rfl⟩))
    go_ret
    exact ⟨ret_bool E.out.symm, by repeat (first | exact Ext.refl _ | refine Ext.alloc ?_ _ | refine Ext.more ?_ _ _ | refine Ext.drew ?_ | refine Ext.drewN ?_ _)⟩
  · rw [h1] at LS
    by_cases h2 : way.length ≤ 40
    · have e : lightB ss way = true := by rw [lightB, h1]; simp [h2]
      have E := Lib.hid e
      clear e h1
      go_enter Try.func6, Try.ntmps6
      go_wp2_with (first | (go_at_call 11; refine LS.out.mono ?_; rintro e w1 ⟨rfl, os1, k1, rfl⟩) | (go_at_call 12; refine (lightParts_nil _).mono ?_; rintro e w1 ⟨rfl, os2, k2, rfl⟩))
      go_ret
      exact ⟨ret_bool E.out.symm, by repeat (first | exact Ext.refl _ | refine Ext.alloc ?_ _ | refine Ext.more ?_ _ _ | refine Ext.drew ?_ | refine Ext.drewN ?_ _)⟩
    · have e : lightB ss way = false := by rw [lightB, h1]; simp [h2]
      have E := Lib.hid e
      clear e h1
      go_enter Try.func6, Try.ntmps6
      go_wp2_with (first | (go_at_call 11; refine LS.out.mono ?_; rintro e w1 ⟨rfl, os1, k1, rfl⟩))
      go_ret
      exact ⟨ret_bool E.out.symm, by repeat (first | exact Ext.refl _ | refine Ext.alloc ?_ _ | refine Ext.more ?_ _ _ | refine Ext.drew ?_ | refine Ext.drewN ?_ _)⟩
theorem example_any (w : World) : Calls Try.prog 10 #[] w fun e w' => ∃ g p : Nat, e = .returned (.slice (some ⟨g, 0, none⟩) 2 2) ∧ Ext w w' ∧ w.heap.size ≤ g ∧
    (let ss : List Sty := [⟨0, none, 0, [], 1, 0⟩, ⟨0, some ⟨p, 0, none⟩, 1, [1], 2, 1⟩]
     Styles w' (some ⟨g, 0, none⟩) ss ∧ StylesOk w' ss) := by
  go_enter Try.func10, Try.ntmps10
  go_wp2
  go_ret
  refine ⟨_, w.heap.size, rfl, by repeat (first | exact Ext.refl _ | refine Ext.alloc ?_ _ | refine Ext.more ?_ _ _ | refine Ext.drew ?_ | refine Ext.drewN ?_ _), ?_, ?_, ?_⟩
  · omega
  · intro _
    refine ⟨_, _, rfl, by simp, ?_⟩
    intro k s hk
    match k, hk with
    | 0, hk => obtain rfl : _ = s := by simpa using hk
               simp [go_sem]
    | 1, hk => obtain rfl : _ = s := by simpa using hk
               simp [go_sem]
    | k + 2, hk => simp at hk
  · intro s hs
    simp only [List.mem_cons, List.not_mem_nil, or_false] at hs
    rcases hs with rfl | rfl
    · exact ⟨Ints.nil, by simp⟩
    · refine ⟨fun _ => ⟨_, _, rfl, by simp; omega, ?_⟩, by simp⟩
      intro k hk
      match k, hk with
      | 0, _ => simp [go_sem]
end Go.Proofs.Yteclpmdhllmloaa
