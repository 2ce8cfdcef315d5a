/- StylesBest: the walk. -/
import Derived.Test.YteclpmdhllmloaaE
import Derived.WalkSpells
import Derived.WalkLawsBesides
import Derived.Deep.RegionWith
import Derived.Deep.QuietTactic
import Derived.Deep.DeepCutAuto
import Derived.Deep.RegionHeld3
import Derived.BigQuiet
import Derived.Lib.Hide
namespace Go.Proofs.Yteclpmdhllmloaa
open Go.RowKit
attribute [local go_sem] more_drew more_drewN more_size more_cell more_frozen more_setCell drew_more drewN_more lt_add_r lt_add_r2 lt_add_r3 lt_add_r4 lt_add_r5 lt_add_r6 lt_add_r7 lt_add_r8 lt_add_r9 lt_add_r10 lt_self_r lt_self_r2

def ixInt : Option Nat → Int
  | none => -1
  | some j => j

set_option maxRecDepth 100000 in
set_option maxHeartbeats 3000000 in
theorem best_walk (B : Option Addr) (ss : List Sty) (c : Nat) (kind : Int) (A : Option Addr) (way : List Int) (d : Nat) (w : World) (hS : Styles w B ss) (hO : StylesOk w ss) (bs : ss.length ≤ 9223372036854775807)
    (hx : Ints w A way) (bx : way.length ≤ d) (bd : d ≤ 9223372036854775807) :
    Calls Try.prog 3 #[.slice B ss.length c, .int .i64 kind, .slice A way.length d] w fun e w' => e = .returned (.bool true) ∧ Below w.heap.size w w' := by
  have LI := Lib.hid (fun w1 g1 g2 => light_any B ss c A way d w1 g1 g2 bs (by omega))
  have STY := Lib.hid (fun w1 g1 g2 g3 => style_any B ss c kind A way d w1 g1 g2 bs g3 bx bd)
  have MA := Lib.hid (fun (s : Sty) (w1 : World) g1 g2 => matches_any s kind A way d w1 g1 g2 bx (by omega))
  have SM := Lib.hid (fun (s : Sty) (A' : Option Addr) (ys : List Int) (dd : Nat) (w1 : World) g1 g2 g3 g4 => same_any s.pA A' s.path ys s.pc dd w1 g1 g2 g3 g4)
  have HO := Lib.hid hO
  have HX := Lib.hid hx
  have HS0 := Lib.hid hS
  have HL := Lib.hid (bestIx_lt ss kind way)
  cases hli : lightB ss way
  · have HLI := Lib.hid hli
    clear hO hx hS
    go_enter Try.func3, Try.ntmps3
    go_wp2_with (first | (go_at_call 5; refine (lives_any _).mono ?_; rintro e w1 ⟨rfl, os1, k1, rfl⟩) | (go_at_call 6; refine (LI.out _ (HS0.out.ext (by repeat (first | exact Ext.refl _ | refine Ext.alloc ?_ _ | refine Ext.more ?_ _ _ | refine Ext.drew ?_ | refine Ext.drewN ?_ _))) (HO.out.ext (by repeat (first | exact Ext.refl _ | refine Ext.alloc ?_ _ | refine Ext.more ?_ _ _ | refine Ext.drew ?_ | refine Ext.drewN ?_ _)))).mono ?_; rw [HLI.out]; rintro e w1 ⟨rfl, os2, k2, rfl⟩))
    go_ret
    exact ⟨rfl, Ext.below (by repeat (first | exact Ext.refl _ | refine Ext.alloc ?_ _ | refine Ext.more ?_ _ _ | refine Ext.drew ?_ | refine Ext.drewN ?_ _))⟩
  · have HLI := Lib.hid hli
    rcases (show ss.length = 0 ∨ 0 < ss.length by omega) with h0 | h0
    · obtain rfl := List.eq_nil_of_length_eq_zero h0
      clear hO hx hS
      go_enter Try.func3, Try.ntmps3
      go_wp2_with (first | (go_at_call 5; refine (lives_any _).mono ?_; rintro e w1 ⟨rfl, os1, k1, rfl⟩) | (go_at_call 6; refine (LI.out _ (HS0.out.ext (by repeat (first | exact Ext.refl _ | refine Ext.alloc ?_ _ | refine Ext.more ?_ _ _ | refine Ext.drew ?_ | refine Ext.drewN ?_ _))) (HO.out.ext (by repeat (first | exact Ext.refl _ | refine Ext.alloc ?_ _ | refine Ext.more ?_ _ _ | refine Ext.drew ?_ | refine Ext.drewN ?_ _)))).mono ?_; rw [HLI.out]; rintro e w1 ⟨rfl, os2, k2, rfl⟩))
      refine wp_loop_rounds 1 ?_
      rw [rounds_succ]
      go_wp2_with (first | (go_at_call 9; refine (STY.out _ (HS0.out.ext (by repeat (first | exact Ext.refl _ | refine Ext.alloc ?_ _ | refine Ext.more ?_ _ _ | refine Ext.drew ?_ | refine Ext.drewN ?_ _))) (HO.out.ext (by repeat (first | exact Ext.refl _ | refine Ext.alloc ?_ _ | refine Ext.more ?_ _ _ | refine Ext.drew ?_ | refine Ext.drewN ?_ _))) (HX.out.ext (by repeat (first | exact Ext.refl _ | refine Ext.alloc ?_ _ | refine Ext.more ?_ _ _ | refine Ext.drew ?_ | refine Ext.drewN ?_ _)))).mono ?_; rintro e w1 ⟨rfl, os3, k3, rfl⟩))
      go_ret
      exact ⟨ret_bool (by simp [styleF, bestIx, stOf]), Ext.below (by repeat (first | exact Ext.refl _ | refine Ext.alloc ?_ _ | refine Ext.more ?_ _ _ | refine Ext.drew ?_ | refine Ext.drewN ?_ _))⟩
    · obtain ⟨b, off, rfl, hb, hc⟩ := hS h0
      have HC := Lib.hid hc
      clear hO hx hc hli
      go_enter Try.func3, Try.ntmps3
      go_wp2_with (first | (go_at_call 5; refine (lives_any _).mono ?_; rintro e w1 ⟨rfl, os1, k1, rfl⟩) | (go_at_call 6; refine (LI.out _ (HS0.out.ext (by repeat (first | exact Ext.refl _ | refine Ext.alloc ?_ _ | refine Ext.more ?_ _ _ | refine Ext.drew ?_ | refine Ext.drewN ?_ _))) (HO.out.ext (by repeat (first | exact Ext.refl _ | refine Ext.alloc ?_ _ | refine Ext.more ?_ _ _ | refine Ext.drew ?_ | refine Ext.drewN ?_ _)))).mono ?_; rw [HLI.out]; rintro e w1 ⟨rfl, os2, k2, rfl⟩))
      go_loopw [7, 8] (fun v i wr => ∃ k : Nat, k ≤ ss.length ∧ i = .int .i64 k ∧ v = .int .i64 (ixInt (bestIx ss kind way k)) ∧ Ext w wr) (fun _ i _ => ss.length - (intOf i).toNat)
      case atStart => exact ⟨0, by omega, rfl, rfl, by repeat (first | exact Ext.refl _ | refine Ext.alloc ?_ _ | refine Ext.more ?_ _ _ | refine Ext.drew ?_ | refine Ext.drewN ?_ _)⟩
      case round =>
        obtain ⟨k, hk, rfl, rfl, os, kk, rfl⟩ := hrel
        by_cases hlt : k < ss.length
        · skip
          obtain ⟨s, hs⟩ : ∃ s, ss[k]? = some s := ⟨_, List.getElem?_eq_getElem hlt⟩
          obtain ⟨c1, c2, c3, c4⟩ := HC.out k s hs
          have HOK := Lib.hid (HO.out s (List.mem_of_getElem? hs))
          have hp := (HO.out s (List.mem_of_getElem? hs)).2
          have E0 : Hid (bestIx ss kind way (k + 1) = if matchB s kind way && betterB ss s (bestIx ss kind way k) then some k else bestIx ss kind way k) := by
            show _ = _
            rw [bestIx, hs]
          clear hs
          have LK := Lib.hid (HL.out k)
          generalize bestIx ss kind way k = o at *
          have i1 : (0 : Int) ≤ k := by omega
          have i2 : (k : Int) < ss.length := by omega
          by_cases hk1 : s.kind = kind
          · have k1' : (s.kind == kind) = true := by simp [hk1]
            have k2' : decide (s.kind = kind) = true := by simp [hk1]
            have HK := Lib.hid hk1
            clear hk1
            by_cases hl1 : s.path.length ≤ way.length
            · have hd := (HX.out).drop (way.length - s.path.length) d bx
              obtain ⟨A', hif⟩ : ∃ A', (if d = way.length - s.path.length then A else A.map (·.add (way.length - s.path.length))) = A' := ⟨_, rfl⟩
              rw [hif] at hd
              have HD := Lib.hid hd
              have sm := fun w1 g1 g2 => SM.out s A' (way.drop (way.length - s.path.length)) (d - (way.length - s.path.length)) w1 g1 g2 hp (by rw [List.length_drop]; omega)
              rw [List.length_drop] at sm
              clear hd
              have e1 : IntKind.i64.wrap ((way.length : Int) - (s.path.length : Int)) = ((way.length - s.path.length : Nat) : Int) := by rw [IntWalk.i64_in _ (by omega)]; omega
              have e2 : (if 0 < way.length - s.path.length then ((way.length - s.path.length : Nat) : Int) else 0) = ((way.length - s.path.length : Nat) : Int) := by split <;> omega
              have e3 : way.length - s.path.length ≤ way.length := by omega
              have e4 : ((way.length - s.path.length : Nat) : Int) ≤ (way.length : Int) := by omega
              by_cases hq : way.drop (way.length - s.path.length) = s.path
              · have hm : matchB s kind way = true := by
                  simp [matchB, endsB, k2', hl1, hq]
                have hm' : endsB way s.path = true := by simpa [matchB, k2'] using hm
                have hq' : decide (s.path = way.drop (way.length - s.path.length)) = true := by rw [decide_eq_true_eq]; exact hq.symm
                rw [hq'] at sm
                have SMH := Lib.hid sm
                have HM := Lib.hid hm
                clear hq' hq hm sm
                cases o with
                | none =>
                  have EN : Hid (bestIx ss kind way (k + 1) = some k) := by
                    have := E0.out
                    rw [HM.out] at this
                    exact this
                  clear E0 LK
                  simp only [ixInt]
                  go_upto_region 10 with fail
                  refine wp_region_ext (by kernel_rfl) (by kernel_rfl) ?_
                  repeat (go_big_quiet_step ((go_at_call 7; exact calls_ext (SMH.out _ (by exact HOK.out.1.ext (by repeat (first | exact Ext.refl _ | refine Ext.alloc ?_ _ | refine Ext.more ?_ _ _ | refine Ext.drew ?_ | refine Ext.drewN ?_ _))) (by exact HD.out.ext (by repeat (first | exact Ext.refl _ | refine Ext.alloc ?_ _ | refine Ext.more ?_ _ _ | refine Ext.drew ?_ | refine Ext.drewN ?_ _)))))))
                  refine wpQuiet_nil ?_
                  intro _ hw'
                  obtain ⟨x9, rfl⟩ := hw'
                  go_upto_region 13 with (go_at_call 8; refine (MA.out s _ (by exact ⟨HOK.out.1.ext (by repeat (first | exact Ext.refl _ | refine Ext.alloc ?_ _ | refine Ext.more ?_ _ _ | refine Ext.drew ?_ | refine Ext.drewN ?_ _)), HOK.out.2⟩) (HX.out.ext (by repeat (first | exact Ext.refl _ | refine Ext.alloc ?_ _ | refine Ext.more ?_ _ _ | refine Ext.drew ?_ | refine Ext.drewN ?_ _)))).mono ?_; rintro e w1 ⟨rfl, os1, k1, rfl⟩)
                  refine wp_region_ext (by kernel_rfl) (by kernel_rfl) ?_
                  repeat (go_big_quiet_step (fail))
                  refine wpQuiet_nil ?_
                  intro _ hw'
                  obtain ⟨x9, rfl⟩ := hw'
                  go_wp2
                  go_roundw
                  case rel => exact ⟨k + 1, by omega, by go_num, by rw [EN.out], by repeat (first | exact Ext.refl _ | refine Ext.alloc ?_ _ | refine Ext.more ?_ _ _ | refine Ext.drew ?_ | refine Ext.drewN ?_ _)⟩
                  case measure => simp [intOf]; omega
                | some j =>
                  obtain ⟨lj, lj2⟩ := LK.out j rfl
                  obtain ⟨t, ht⟩ : ∃ t, ss[j]? = some t := ⟨_, List.getElem?_eq_getElem lj2⟩
                  obtain ⟨d1, d2, d3, d4⟩ := HC.out j t ht
                  have hpj : prioAt ss j = t.prio := by simp [prioAt, ht]
                  clear d1 d2 d3 ht LK
                  have i3 : (0 : Int) ≤ j := by omega
                  have i4 : (j : Int) < ss.length := by omega
                  have i5 : decide ((j : Int) < 0) = false := by simp
                  simp only [ixInt]
                  by_cases hq : t.prio < s.prio
                  · have hq' : decide (t.prio < s.prio) = true := decide_eq_true hq
                    have EN : Hid (bestIx ss kind way (k + 1) = some k) := by
                      have := E0.out
                      rw [HM.out] at this
                      simp only [betterB, hpj, hq', Bool.and_self, if_true] at this
                      exact this
                    clear E0 hpj
                    go_upto_region 10 with fail
                    refine wp_region_ext (by kernel_rfl) (by kernel_rfl) ?_
                    repeat (go_big_quiet_step ((go_at_call 7; exact calls_ext (SMH.out _ (by exact HOK.out.1.ext (by repeat (first | exact Ext.refl _ | refine Ext.alloc ?_ _ | refine Ext.more ?_ _ _ | refine Ext.drew ?_ | refine Ext.drewN ?_ _))) (by exact HD.out.ext (by repeat (first | exact Ext.refl _ | refine Ext.alloc ?_ _ | refine Ext.more ?_ _ _ | refine Ext.drew ?_ | refine Ext.drewN ?_ _)))))))
                    refine wpQuiet_nil ?_
                    intro _ hw'
                    obtain ⟨x9, rfl⟩ := hw'
                    go_upto_region 13 with (go_at_call 8; refine (MA.out s _ (by exact ⟨HOK.out.1.ext (by repeat (first | exact Ext.refl _ | refine Ext.alloc ?_ _ | refine Ext.more ?_ _ _ | refine Ext.drew ?_ | refine Ext.drewN ?_ _)), HOK.out.2⟩) (HX.out.ext (by repeat (first | exact Ext.refl _ | refine Ext.alloc ?_ _ | refine Ext.more ?_ _ _ | refine Ext.drew ?_ | refine Ext.drewN ?_ _)))).mono ?_; rintro e w1 ⟨rfl, os1, k1, rfl⟩)
                    refine wp_region_ext (by kernel_rfl) (by kernel_rfl) ?_
                    repeat (go_big_quiet_step (fail))
                    refine wpQuiet_nil ?_
                    intro _ hw'
                    obtain ⟨x9, rfl⟩ := hw'
                    go_wp2
                    go_roundw
                    case rel => exact ⟨k + 1, by omega, by go_num, by rw [EN.out], by repeat (first | exact Ext.refl _ | refine Ext.alloc ?_ _ | refine Ext.more ?_ _ _ | refine Ext.drew ?_ | refine Ext.drewN ?_ _)⟩
                    case measure => simp [intOf]; omega
                  · have hq' : decide (t.prio < s.prio) = false := decide_eq_false hq
                    have EN : Hid (bestIx ss kind way (k + 1) = some j) := by
                      have := E0.out
                      rw [HM.out] at this
                      simp only [betterB, hpj, hq', Bool.and_false, Bool.false_eq_true, if_false] at this
                      exact this
                    clear E0 hpj
                    go_upto_region 10 with fail
                    refine wp_region_ext (by kernel_rfl) (by kernel_rfl) ?_
                    repeat (go_big_quiet_step ((go_at_call 7; exact calls_ext (SMH.out _ (by exact HOK.out.1.ext (by repeat (first | exact Ext.refl _ | refine Ext.alloc ?_ _ | refine Ext.more ?_ _ _ | refine Ext.drew ?_ | refine Ext.drewN ?_ _))) (by exact HD.out.ext (by repeat (first | exact Ext.refl _ | refine Ext.alloc ?_ _ | refine Ext.more ?_ _ _ | refine Ext.drew ?_ | refine Ext.drewN ?_ _)))))))
                    refine wpQuiet_nil ?_
                    intro _ hw'
                    obtain ⟨x9, rfl⟩ := hw'
                    go_upto_region 13 with (go_at_call 8; refine (MA.out s _ (by exact ⟨HOK.out.1.ext (by repeat (first | exact Ext.refl _ | refine Ext.alloc ?_ _ | refine Ext.more ?_ _ _ | refine Ext.drew ?_ | refine Ext.drewN ?_ _)), HOK.out.2⟩) (HX.out.ext (by repeat (first | exact Ext.refl _ | refine Ext.alloc ?_ _ | refine Ext.more ?_ _ _ | refine Ext.drew ?_ | refine Ext.drewN ?_ _)))).mono ?_; rintro e w1 ⟨rfl, os1, k1, rfl⟩)
                    refine wp_region_ext (by kernel_rfl) (by kernel_rfl) ?_
                    repeat (go_big_quiet_step (fail))
                    refine wpQuiet_nil ?_
                    intro _ hw'
                    obtain ⟨x9, rfl⟩ := hw'
                    go_wp2
                    go_roundw
                    case rel => exact ⟨k + 1, by omega, by go_num, by rw [EN.out], by repeat (first | exact Ext.refl _ | refine Ext.alloc ?_ _ | refine Ext.more ?_ _ _ | refine Ext.drew ?_ | refine Ext.drewN ?_ _)⟩
                    case measure => simp [intOf]; omega
              · have hm : matchB s kind way = false := by
                  simp [matchB, endsB, k2', hl1, hq]
                have hm' : endsB way s.path = false := by simpa [matchB, k2'] using hm
                have hq' : decide (s.path = way.drop (way.length - s.path.length)) = false := by rw [decide_eq_false_iff_not]; exact fun h => hq h.symm
                rw [hq'] at sm
                have SMH := Lib.hid sm
                have HM := Lib.hid hm
                clear hq' hq hm sm
                have EN : Hid (bestIx ss kind way (k + 1) = o) := by
                  have := E0.out
                  rw [HM.out] at this
                  exact this
                clear E0 LK
                go_upto_region 10 with fail
                refine wp_region_ext (by kernel_rfl) (by kernel_rfl) ?_
                repeat (go_big_quiet_step ((go_at_call 7; exact calls_ext (SMH.out _ (by exact HOK.out.1.ext (by repeat (first | exact Ext.refl _ | refine Ext.alloc ?_ _ | refine Ext.more ?_ _ _ | refine Ext.drew ?_ | refine Ext.drewN ?_ _))) (by exact HD.out.ext (by repeat (first | exact Ext.refl _ | refine Ext.alloc ?_ _ | refine Ext.more ?_ _ _ | refine Ext.drew ?_ | refine Ext.drewN ?_ _)))))))
                refine wpQuiet_nil ?_
                intro _ hw'
                obtain ⟨x9, rfl⟩ := hw'
                go_upto_region 13 with (go_at_call 8; refine (MA.out s _ (by exact ⟨HOK.out.1.ext (by repeat (first | exact Ext.refl _ | refine Ext.alloc ?_ _ | refine Ext.more ?_ _ _ | refine Ext.drew ?_ | refine Ext.drewN ?_ _)), HOK.out.2⟩) (HX.out.ext (by repeat (first | exact Ext.refl _ | refine Ext.alloc ?_ _ | refine Ext.more ?_ _ _ | refine Ext.drew ?_ | refine Ext.drewN ?_ _)))).mono ?_; rintro e w1 ⟨rfl, os1, k1, rfl⟩)
                go_quiet (fail)
                go_wp2
                go_roundw
                case rel => exact ⟨k + 1, by omega, by go_num, by rw [EN.out], by repeat (first | exact Ext.refl _ | refine Ext.alloc ?_ _ | refine Ext.more ?_ _ _ | refine Ext.drew ?_ | refine Ext.drewN ?_ _)⟩
                case measure => simp [intOf]; omega
            · have hm : matchB s kind way = false := by
                simp [matchB, endsB, hl1]
              have hm' : endsB way s.path = false := by simpa [matchB, k2'] using hm
              have HM := Lib.hid hm
              clear hm
              have EN : Hid (bestIx ss kind way (k + 1) = o) := by
                have := E0.out
                rw [HM.out] at this
                exact this
              clear E0 LK
              go_upto_region 10 with fail
              go_quiet (fail)
              go_upto_region 13 with (go_at_call 8; refine (MA.out s _ (by exact ⟨HOK.out.1.ext (by repeat (first | exact Ext.refl _ | refine Ext.alloc ?_ _ | refine Ext.more ?_ _ _ | refine Ext.drew ?_ | refine Ext.drewN ?_ _)), HOK.out.2⟩) (HX.out.ext (by repeat (first | exact Ext.refl _ | refine Ext.alloc ?_ _ | refine Ext.more ?_ _ _ | refine Ext.drew ?_ | refine Ext.drewN ?_ _)))).mono ?_; rintro e w1 ⟨rfl, os1, k1, rfl⟩)
              go_quiet (fail)
              go_wp2
              go_roundw
              case rel => exact ⟨k + 1, by omega, by go_num, by rw [EN.out], by repeat (first | exact Ext.refl _ | refine Ext.alloc ?_ _ | refine Ext.more ?_ _ _ | refine Ext.drew ?_ | refine Ext.drewN ?_ _)⟩
              case measure => simp [intOf]; omega
          · have k1' : (s.kind == kind) = false := by simp [hk1]
            have k2' : decide (s.kind = kind) = false := by simp [hk1]
            have hm : matchB s kind way = false := by
              simp [matchB, hk1]
            have hm' : (decide (s.kind = kind) && endsB way s.path) = false := hm
            have HM := Lib.hid hm
            clear hm hk1
            have EN : Hid (bestIx ss kind way (k + 1) = o) := by
              have := E0.out
              rw [HM.out] at this
              exact this
            clear E0 LK
            go_upto_region 10 with fail
            go_quiet (fail)
            go_upto_region 13 with (go_at_call 8; refine (MA.out s _ (by exact ⟨HOK.out.1.ext (by repeat (first | exact Ext.refl _ | refine Ext.alloc ?_ _ | refine Ext.more ?_ _ _ | refine Ext.drew ?_ | refine Ext.drewN ?_ _)), HOK.out.2⟩) (HX.out.ext (by repeat (first | exact Ext.refl _ | refine Ext.alloc ?_ _ | refine Ext.more ?_ _ _ | refine Ext.drew ?_ | refine Ext.drewN ?_ _)))).mono ?_; rintro e w1 ⟨rfl, os1, k1, rfl⟩)
            go_quiet (fail)
            go_wp2
            go_roundw
            case rel => exact ⟨k + 1, by omega, by go_num, by rw [EN.out], by repeat (first | exact Ext.refl _ | refine Ext.alloc ?_ _ | refine Ext.more ?_ _ _ | refine Ext.drew ?_ | refine Ext.drewN ?_ _)⟩
            case measure => simp [intOf]; omega
        · obtain rfl : k = ss.length := by omega
          have LK := Lib.hid (HL.out ss.length)
          have EN : Hid (styleF ss kind way = stOf ss (bestIx ss kind way ss.length)) := rfl
          generalize bestIx ss kind way ss.length = o at *
          cases o with
          | none =>
            simp only [ixInt]
            go_wp2_with (first | (go_at_call 9; refine (STY.out _ (HS0.out.ext (by repeat (first | exact Ext.refl _ | refine Ext.alloc ?_ _ | refine Ext.more ?_ _ _ | refine Ext.drew ?_ | refine Ext.drewN ?_ _))) (HO.out.ext (by repeat (first | exact Ext.refl _ | refine Ext.alloc ?_ _ | refine Ext.more ?_ _ _ | refine Ext.drew ?_ | refine Ext.drewN ?_ _))) (HX.out.ext (by repeat (first | exact Ext.refl _ | refine Ext.alloc ?_ _ | refine Ext.more ?_ _ _ | refine Ext.drew ?_ | refine Ext.drewN ?_ _)))).mono ?_; rw [EN.out]; rintro e w1 ⟨rfl, os3, k3, rfl⟩))
            go_ret
            exact ⟨ret_bool (by simp [stOf]), Ext.below (by repeat (first | exact Ext.refl _ | refine Ext.alloc ?_ _ | refine Ext.more ?_ _ _ | refine Ext.drew ?_ | refine Ext.drewN ?_ _))⟩
          | some j =>
            obtain ⟨lj, lj2⟩ := LK.out j rfl
            obtain ⟨t, ht⟩ : ∃ t, ss[j]? = some t := ⟨_, List.getElem?_eq_getElem lj2⟩
            obtain ⟨d1, d2, d3, d4⟩ := HC.out j t ht
            have hp : stAt ss j = t.st := by simp [stAt, ht]
            have EN' : Hid (styleF ss kind way = t.st) := EN.out.trans hp
            clear d1 d2 d4 ht LK hp EN
            have i1 : (0 : Int) ≤ j := by omega
            have i2 : (j : Int) < ss.length := by omega
            simp only [ixInt]
            go_upto_region 17 with fail
            have ST' := Lib.hid (show ∀ x : Lay, Calls Try.prog 9 #[.slice (some ⟨b, off, none⟩) ss.length c, .int .i64 kind, .slice A way.length d] (more (more w os kk) x.os x.k) fun e w' => e = .returned (.int .i64 t.st) ∧ Ext (more (more w os kk) x.os x.k) w' from fun x => by
              have h := STY.out (more (more w os kk) x.os x.k) (HS0.out.ext (by repeat (first | exact Ext.refl _ | refine Ext.alloc ?_ _ | refine Ext.more ?_ _ _ | refine Ext.drew ?_ | refine Ext.drewN ?_ _))) (HO.out.ext (by repeat (first | exact Ext.refl _ | refine Ext.alloc ?_ _ | refine Ext.more ?_ _ _ | refine Ext.drew ?_ | refine Ext.drewN ?_ _))) (HX.out.ext (by repeat (first | exact Ext.refl _ | refine Ext.alloc ?_ _ | refine Ext.more ?_ _ _ | refine Ext.drew ?_ | refine Ext.drewN ?_ _)))
              rw [EN'.out] at h
              exact h)
            refine wp_region_ext (by kernel_rfl) (by kernel_rfl) ?_
            repeat (go_big_quiet_step ((go_at_call 9; exact calls_ext (ST'.out _))))
            refine wpQuiet_nil ?_
            intro _ hw'
            obtain ⟨x9, rfl⟩ := hw'
            go_wp2
            go_ret
            exact ⟨ret_bool (by simp), Ext.below (by repeat (first | exact Ext.refl _ | refine Ext.alloc ?_ _ | refine Ext.more ?_ _ _ | refine Ext.drew ?_ | refine Ext.drewN ?_ _))⟩
end Go.Proofs.Yteclpmdhllmloaa
