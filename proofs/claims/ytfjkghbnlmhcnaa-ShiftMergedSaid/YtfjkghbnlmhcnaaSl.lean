/- ShiftMerged: the walk. -/
import Derived.Test.YtfjkghbnlmhcnaaSm
import Derived.Test.YtfjkghbnlmhcnaaSf
import Derived.WalkSpells
import Derived.WalkLawsBesides
import Derived.BigRegion
import Derived.Deep.RegionWith
import Derived.Deep.QuietTactic
import Derived.Deep.DeepCutAuto
import Derived.Deep.RegionHeld3
import Derived.Deep.RegionLaw
import Derived.BigQuiet
import Derived.Lib.Hide
namespace Go.Proofs.Ytfjkghbnlmhcnaa
open Go.RowKit
attribute [local go_sem] more_drew more_drewN more_size more_cell more_frozen more_setCell drew_more drewN_more lt_add_r lt_add_r2 lt_add_r3 lt_add_r4 lt_add_r5 lt_add_r6 lt_add_r7 lt_add_r8 lt_add_r9 lt_add_r10 lt_self_r lt_self_r2

def inB (p : Int) (s : Sn) : Bool := decide (s.1 ≤ p) && decide (p ≤ s.2)
theorem inB_iff {p : Int} {s : Sn} : inB p s = true ↔ inS p s := by
  unfold inB inS
  simp
def GoodS (s : Sn) : Prop := -1000 ≤ s.1 ∧ s.2 ≤ 1000 ∧ s.1 ≤ s.2
theorem clamp_good {ss : List Sn} (h : ∀ s ∈ ss, GoodS s) : ss.map clampS = ss := by
  have : ss.map clampS = ss.map id := List.map_congr_left (fun s hs => by
    have := h s hs
    unfold GoodS at this
    unfold clampS
    rw [clamp_in (by omega) (by omega), clamp_in (by omega) (by omega)]
    rfl)
  rw [this, List.map_id]
theorem any_next {l : List Sn} {k : Nat} {s : Sn} (f : Sn → Bool) (h : l[k]? = some s) : (l.take (k + 1)).any f = ((l.take k).any f || f s) := by
  rw [List.take_add_one, h, List.any_append]
  simp
theorem law_facts {ss : List Sn} (h : ∀ s ∈ ss, GoodS s) (hl : ss.length ≤ 20) : ∃ ms, mergeP (ss.map clampS) = ms ∧ MergedS ss ms ∧ ms.length ≤ 20 ∧ mergeP (ms.map clampS) = ms ∧ ∀ p, ss.any (inB p) = ms.any (inB p) := by
  have hm := mergeP_merged (l := ss) (fun s hs => (h s hs).2.2)
  obtain ⟨h1, h2, h3⟩ := mergeP_facts (b := 1000) ss [] List.Pairwise.nil (fun y hy => by cases hy) (fun y hy => by
    have := h y hy
    unfold GoodS at this
    unfold BdS
    omega)
  have hg : ∀ s ∈ mergeP ss, GoodS s := fun s hs => by
    have a := h2 s hs
    have b := hm.ok s hs
    unfold BdS at a
    unfold OkS at b
    unfold GoodS
    omega
  refine ⟨mergeP ss, by rw [clamp_good h], hm, by rw [List.length_nil] at h3; unfold mergeP; omega, by rw [clamp_good hg, mergeP_again hm], fun p => ?_⟩
  rw [Bool.eq_iff_iff, List.any_eq_true, List.any_eq_true]
  have hp := hm.places p
  constructor
  · rintro ⟨s, hs, hi⟩
    obtain ⟨t, ht, hti⟩ := hp.2 ⟨s, hs, inB_iff.1 hi⟩
    exact ⟨t, ht, inB_iff.2 hti⟩
  · rintro ⟨s, hs, hi⟩
    obtain ⟨t, ht, hti⟩ := hp.1 ⟨s, hs, inB_iff.1 hi⟩
    exact ⟨t, ht, inB_iff.2 hti⟩
set_option maxRecDepth 100000 in
set_option maxHeartbeats 4000000 in
theorem shiftMerged_any (A : Option Addr) (c : Nat) (ss : List Sn) (p : Int) (w : World) (hP : Spns w A ss) (hc : ss.length ≤ c) (hc2 : c ≤ 9223372036854775807) :
    Calls Try.prog 9 #[.slice A ss.length c, .int .i64 p] w fun e w' => e = .returned (.bool true) ∧ Ext w w' := by
  have HP := Lib.hid hP
  clear hP
  by_cases hl : ss.length ≤ 20
  · have q0 : decide ((20 : Int) < (ss.length : Int)) = false := decide_eq_false (by omega)
    go_enter Try.func9, Try.ntmps9
    go_wp2_with (go_at_call 28; refine (lives_any _).mono ?_; rintro e w1 ⟨rfl, os1, k1, rfl⟩)
    go_loopw [5, 6] (fun b s wr => ∃ j : Nat, j ≤ ss.length ∧ s = .int .i64 j ∧ b = .bool ((ss.take j).any (inB p)) ∧ Hid (∀ s ∈ ss.take j, GoodS s) ∧ Hid (Ext w wr)) (fun _ s _ => ss.length - (intOf s).toNat)
    case atStart => exact ⟨0, by omega, rfl, rfl, Lib.hid (fun s hs => by simp at hs), Lib.hid (by repeat (first | exact Ext.refl _ | refine Ext.alloc ?_ _ | refine Ext.more ?_ _ _ | refine Ext.drew ?_ | refine Ext.drewN ?_ _ | refine Ext.setCell ?_ (by simp <;> omega) _))⟩
    case round =>
      obtain ⟨j, hj, rfl, rfl, hgd, hx⟩ := hrel
      by_cases hlt : j < ss.length
      · obtain ⟨x, hx'⟩ : ∃ x, ss[j]? = some x := ⟨_, List.getElem?_eq_getElem hlt⟩
        obtain ⟨b, off, rfl, hb, hcell⟩ := (HP.out.ext hx.out) (by omega)
        obtain ⟨d0, d1⟩ := hcell j x hx'
        have HNX := Lib.hid (any_next (inB p) hx')
        have HTK : Hid (ss.take (j + 1) = ss.take j ++ [x]) := Lib.hid (by rw [List.take_add_one, hx']; rfl)
        obtain ⟨was, hwas⟩ : ∃ was, (ss.take j).any (inB p) = was := ⟨_, rfl⟩
        rw [hwas] at HNX ⊢
        obtain ⟨xa, xb⟩ := x
        dsimp only at d0 d1
        clear hcell hx' hwas
        have HX := Lib.hid hx.out
        have HGO := Lib.hid hgd.out
        clear hx hgd
        by_cases c0 : xa < -1000
        · have q5 : decide (xa < -1000) = true := decide_eq_true c0
          clear c0
          go_upto_region 9 with fail
          refine wp_region_bt (27) (softs_bt [0, 1, 2, 3, 4, 5, 6, 7, 8, 9, 10, 11, 12, 13, 14, 15, 16, 17, 18, 19, 20, 21, 22, 23, 24, 25, 26] .fin) (by kernel_rfl) (by kernel_rfl) ?_
          (refine bt_softs _ fun K hK => ?_); (simp only [pick, nthC]); (repeat (go_big_quiet_step (fail))); (refine wpQuiet_nil (hK _ ?_)); (clear hK K)
          (refine bt_fin ?_)
          go_wp2_with fail
          go_ret
          exact ⟨rfl, HX.out.trans (by repeat (first | exact Ext.refl _ | refine Ext.alloc ?_ _ | refine Ext.more ?_ _ _ | refine Ext.drew ?_ | refine Ext.drewN ?_ _ | refine Ext.setCell ?_ (by simp <;> omega) _))⟩
        · have q5 : decide (xa < -1000) = false := decide_eq_false c0
          by_cases c1 : 1000 < xb
          · have q6 : decide (1000 < xb) = true := decide_eq_true c1
            clear c0 c1
            go_upto_region 9 with fail
            refine wp_region_bt (27) (softs_bt [0, 1, 2, 3, 4, 5, 6, 7, 8, 9, 10, 11, 12, 13, 14, 15, 16, 17, 18, 19, 20, 21, 22, 23, 24, 25, 26] .fin) (by kernel_rfl) (by kernel_rfl) ?_
            (refine bt_softs _ fun K hK => ?_); (simp only [pick, nthC]); (repeat (go_big_quiet_step (fail))); (refine wpQuiet_nil (hK _ ?_)); (clear hK K)
            (refine bt_fin ?_)
            go_wp2_with fail
            go_ret
            exact ⟨rfl, HX.out.trans (by repeat (first | exact Ext.refl _ | refine Ext.alloc ?_ _ | refine Ext.more ?_ _ _ | refine Ext.drew ?_ | refine Ext.drewN ?_ _ | refine Ext.setCell ?_ (by simp <;> omega) _))⟩
          · have q6 : decide (1000 < xb) = false := decide_eq_false c1
            by_cases c2 : xb < xa
            · have q7 : decide (xb < xa) = true := decide_eq_true c2
              clear c0 c1 c2
              go_upto_region 9 with fail
              refine wp_region_bt (27) (softs_bt [0, 1, 2, 3, 4, 5, 6, 7, 8, 9, 10, 11, 12, 13, 14, 15, 16, 17, 18, 19, 20, 21, 22, 23, 24, 25, 26] .fin) (by kernel_rfl) (by kernel_rfl) ?_
              (refine bt_softs _ fun K hK => ?_); (simp only [pick, nthC]); (repeat (go_big_quiet_step (fail))); (refine wpQuiet_nil (hK _ ?_)); (clear hK K)
              (refine bt_fin ?_)
              go_wp2_with fail
              go_ret
              exact ⟨rfl, HX.out.trans (by repeat (first | exact Ext.refl _ | refine Ext.alloc ?_ _ | refine Ext.more ?_ _ _ | refine Ext.drew ?_ | refine Ext.drewN ?_ _ | refine Ext.setCell ?_ (by simp <;> omega) _))⟩
            · have q7 : decide (xb < xa) = false := decide_eq_false c2
              have HGD : Hid (∀ s ∈ ss.take (j + 1), GoodS s) := Lib.hid (by
                rw [HTK.out]
                intro s hs
                rcases List.mem_append.1 hs with hs | hs
                · exact HGO.out s hs
                · rw [List.mem_singleton.1 hs]
                  unfold GoodS
                  dsimp only
                  omega)
              clear c0 c1 c2
              go_upto_region 9 with fail
              refine wp_region_bt (27) (softs_bt [0, 1, 2, 3, 4, 5, 6, 7, 8, 9, 10, 11, 12, 13, 14, 15, 16, 17, 18, 19, 20, 21, 22, 23, 24, 25, 26] .fin) (by kernel_rfl) (by kernel_rfl) ?_
              (refine bt_softs _ fun K hK => ?_); (simp only [pick, nthC]); (repeat (go_big_quiet_step (fail))); (refine wpQuiet_nil (hK _ ?_)); (clear hK K)
              (refine bt_fin ?_)
              cases was with
              | true =>
                go_wp2_with fail
                go_roundw
                case rel => exact ⟨j + 1, by omega, by go_num, by rw [HNX.out]; unfold inB; simp [*], HGD, Lib.hid (HX.out.trans (by repeat (first | exact Ext.refl _ | refine Ext.alloc ?_ _ | refine Ext.more ?_ _ _ | refine Ext.drew ?_ | refine Ext.drewN ?_ _ | refine Ext.setCell ?_ (by simp <;> omega) _)))⟩
                case measure => simp [intOf]; omega
              | false =>
                by_cases c3 : xa ≤ p
                · have q3 : decide (xa ≤ p) = true := decide_eq_true c3
                  by_cases c4 : p ≤ xb
                  · have q4 : decide (p ≤ xb) = true := decide_eq_true c4
                    go_wp2_with fail
                    go_roundw
                    case rel => exact ⟨j + 1, by omega, by go_num, by rw [HNX.out]; unfold inB; simp [*], HGD, Lib.hid (HX.out.trans (by repeat (first | exact Ext.refl _ | refine Ext.alloc ?_ _ | refine Ext.more ?_ _ _ | refine Ext.drew ?_ | refine Ext.drewN ?_ _ | refine Ext.setCell ?_ (by simp <;> omega) _)))⟩
                    case measure => simp [intOf]; omega
                  · have q4 : decide (p ≤ xb) = false := decide_eq_false c4
                    go_wp2_with fail
                    go_roundw
                    case rel => exact ⟨j + 1, by omega, by go_num, by rw [HNX.out]; unfold inB; simp [*], HGD, Lib.hid (HX.out.trans (by repeat (first | exact Ext.refl _ | refine Ext.alloc ?_ _ | refine Ext.more ?_ _ _ | refine Ext.drew ?_ | refine Ext.drewN ?_ _ | refine Ext.setCell ?_ (by simp <;> omega) _)))⟩
                    case measure => simp [intOf]; omega
                · have q3 : decide (xa ≤ p) = false := decide_eq_false c3
                  go_wp2_with fail
                  go_roundw
                  case rel => exact ⟨j + 1, by omega, by go_num, by rw [HNX.out]; unfold inB; simp [*], HGD, Lib.hid (HX.out.trans (by repeat (first | exact Ext.refl _ | refine Ext.alloc ?_ _ | refine Ext.more ?_ _ _ | refine Ext.drew ?_ | refine Ext.drewN ?_ _ | refine Ext.setCell ?_ (by simp <;> omega) _)))⟩
                  case measure => simp [intOf]; omega
      · obtain rfl : j = ss.length := by omega
        rw [List.take_length] at hgd ⊢
        obtain ⟨ms, hms, hM, hml, hag, hany⟩ := law_facts hgd.out hl
        have hap := hany p
        obtain ⟨inn, hinn⟩ : ∃ inn, ss.any (inB p) = inn := ⟨_, rfl⟩
        rw [hinn] at hap ⊢
        have HX := Lib.hid hx.out
        have CM := Lib.hid (fun w1 (x : Ext w w1) => merge_any A c ss w1 (HP.out.ext x) hl)
        rw [hms] at CM
        have HM := Lib.hid hM
        have HAG := Lib.hid hag
        have HAP := Lib.hid hap.symm
        clear hgd hx hms hM hag hap hinn hany
        go_wp2_with fail
        refine (CM.out _ (HX.out.trans (by repeat (first | exact Ext.refl _ | refine Ext.alloc ?_ _ | refine Ext.more ?_ _ _ | refine Ext.drew ?_ | refine Ext.drewN ?_ _ | refine Ext.setCell ?_ (by simp <;> omega) _)))).mono ?_
        rintro e w7 ⟨A7, c7, rfl, ho7, hx7⟩
        have HO7 := Lib.hid ho7
        have HX7 := Lib.hid ((HX.out.trans (by repeat (first | exact Ext.refl _ | refine Ext.alloc ?_ _ | refine Ext.more ?_ _ _ | refine Ext.drew ?_ | refine Ext.drewN ?_ _ | refine Ext.setCell ?_ (by simp <;> omega) _))).trans hx7)
        clear ho7 hx7 CM
        go_wp2_with fail
        go_loopw [8, 9] (fun b s wr => ∃ k : Nat, k ≤ ms.length ∧ s = .int .i64 k ∧ b = .bool ((ms.take k).any (inB p)) ∧ Hid (Ext w7 wr)) (fun _ s _ => ms.length - (intOf s).toNat)
        case atStart => exact ⟨0, by omega, rfl, rfl, Lib.hid (by repeat (first | exact Ext.refl _ | refine Ext.alloc ?_ _ | refine Ext.more ?_ _ _ | refine Ext.drew ?_ | refine Ext.drewN ?_ _ | refine Ext.setCell ?_ (by simp <;> omega) _))⟩
        case round =>
          obtain ⟨k, hk, rfl, rfl, hx⟩ := hrel
          by_cases hlt : k < ms.length
          · obtain ⟨x, hx'⟩ : ∃ x, ms[k]? = some x := ⟨_, List.getElem?_eq_getElem hlt⟩
            have hO := HO7.out.ext hx.out
            obtain ⟨g, rfl, hg1, hg2⟩ := hO.block (by omega)
            obtain ⟨d0, d1⟩ := hO.cell hx'
            have HNX := Lib.hid (any_next (inB p) hx')
            obtain ⟨was, hwas⟩ : ∃ was, (ms.take k).any (inB p) = was := ⟨_, rfl⟩
            rw [hwas] at HNX ⊢
            have hok := HM.out.ok x (List.mem_of_getElem? hx')
            unfold OkS at hok
            have q5 : decide (x.2 < x.1) = false := decide_eq_false (by omega)
            have HX := Lib.hid hx.out
            rcases (show k = 0 ∨ 0 < k by omega) with rfl | k0
            · obtain ⟨xa, xb⟩ := x
              dsimp only at d0 d1 q5
              clear hx hx' hwas hok hO
              go_upto_region 17 with fail
              refine wp_region_bt (29) (softs_bt [0, 1, 2, 3, 4, 5, 6, 7, 8, 9, 10, 11, 12, 13, 14, 15, 16, 17, 18, 19, 20, 21, 22, 23, 24, 25, 26, 27, 28] .fin) (by kernel_rfl) (by kernel_rfl) ?_
              (refine bt_softs _ fun K hK => ?_); (simp only [pick, nthC]); (repeat (go_big_quiet_step (fail))); (refine wpQuiet_nil (hK _ ?_)); (clear hK K)
              (refine bt_fin ?_)
              cases was with
              | true =>
                go_wp2_with fail
                go_roundw
                case rel => exact ⟨0 + 1, by omega, by go_num, by rw [HNX.out]; unfold inB; simp [*], Lib.hid (HX.out.trans (by repeat (first | exact Ext.refl _ | refine Ext.alloc ?_ _ | refine Ext.more ?_ _ _ | refine Ext.drew ?_ | refine Ext.drewN ?_ _ | refine Ext.setCell ?_ (by simp <;> omega) _)))⟩
                case measure => simp [intOf]; omega
              | false =>
                by_cases c3 : xa ≤ p
                · have q3 : decide (xa ≤ p) = true := decide_eq_true c3
                  by_cases c4 : p ≤ xb
                  · have q4 : decide (p ≤ xb) = true := decide_eq_true c4
                    go_wp2_with fail
                    go_roundw
                    case rel => exact ⟨0 + 1, by omega, by go_num, by rw [HNX.out]; unfold inB; simp [*], Lib.hid (HX.out.trans (by repeat (first | exact Ext.refl _ | refine Ext.alloc ?_ _ | refine Ext.more ?_ _ _ | refine Ext.drew ?_ | refine Ext.drewN ?_ _ | refine Ext.setCell ?_ (by simp <;> omega) _)))⟩
                    case measure => simp [intOf]; omega
                  · have q4 : decide (p ≤ xb) = false := decide_eq_false c4
                    go_wp2_with fail
                    go_roundw
                    case rel => exact ⟨0 + 1, by omega, by go_num, by rw [HNX.out]; unfold inB; simp [*], Lib.hid (HX.out.trans (by repeat (first | exact Ext.refl _ | refine Ext.alloc ?_ _ | refine Ext.more ?_ _ _ | refine Ext.drew ?_ | refine Ext.drewN ?_ _ | refine Ext.setCell ?_ (by simp <;> omega) _)))⟩
                    case measure => simp [intOf]; omega
                · have q3 : decide (xa ≤ p) = false := decide_eq_false c3
                  go_wp2_with fail
                  go_roundw
                  case rel => exact ⟨0 + 1, by omega, by go_num, by rw [HNX.out]; unfold inB; simp [*], Lib.hid (HX.out.trans (by repeat (first | exact Ext.refl _ | refine Ext.alloc ?_ _ | refine Ext.more ?_ _ _ | refine Ext.drew ?_ | refine Ext.drewN ?_ _ | refine Ext.setCell ?_ (by simp <;> omega) _)))⟩
                  case measure => simp [intOf]; omega
            · obtain ⟨m, rfl⟩ : ∃ m, k = m + 1 := ⟨k - 1, by omega⟩
              obtain ⟨y, hy⟩ : ∃ y, ms[m]? = some y := ⟨_, List.getElem?_eq_getElem (by omega)⟩
              obtain ⟨e0, e1⟩ := hO.cell hy
              have hap : y.2 < x.1 := by
                obtain ⟨h1, rfl⟩ := List.getElem?_eq_some_iff.1 hx'
                obtain ⟨h2, rfl⟩ := List.getElem?_eq_some_iff.1 hy
                exact List.pairwise_iff_getElem.1 HM.out.apart m (m + 1) h2 h1 (by omega)
              obtain ⟨xa, xb⟩ := x
              obtain ⟨ya, yb⟩ := y
              dsimp only at d0 d1 e0 e1 q5 hap
              have q6 : decide (xa ≤ yb) = false := decide_eq_false (by omega)
              obtain ⟨k, hk'⟩ : ∃ k, m + 1 = k := ⟨_, rfl⟩
              rw [hk'] at hk hlt hx' hwas d0 d1 HNX
              rw [show ((m + 1 : Nat) : Int) = (k : Int) by omega]
              have e1' : IntKind.i64.wrap ((k : Int) - 1) = (m : Int) := by rw [IntKind.wrap_i64]; omega
              have b0 : (k : Int) < (ms.length : Int) := by omega
              have b1 : (m : Int) < (ms.length : Int) := by omega
              have b2 : (0 : Int) ≤ (k : Int) := by omega
              have b3 : (0 : Int) ≤ (m : Int) := by omega
              have q0' : decide ((0 : Int) < (k : Int)) = true := decide_eq_true (by omega)
              have q1' : decide (0 < k) = true := decide_eq_true (by omega)
              have HKM := Lib.hid hk'
              clear hx hx' hwas hok hO hy hap hk' k0
              go_upto_region 17 with fail
              refine wp_region_bt (29) (softs_bt [0, 1, 2, 3, 4, 5, 6, 7, 8, 9, 10, 11, 12, 13, 14, 15, 16, 17, 18, 19, 20, 21, 22, 23, 24, 25, 26, 27, 28] .fin) (by kernel_rfl) (by kernel_rfl) ?_
              (refine bt_softs _ fun K hK => ?_); (simp only [pick, nthC]); (repeat (go_big_quiet_step (fail))); (refine wpQuiet_nil (hK _ ?_)); (clear hK K)
              (refine bt_fin ?_)
              cases was with
              | true =>
                go_wp2_with fail
                go_roundw
                case rel => exact ⟨k + 1, by omega, by go_num, by rw [HNX.out]; unfold inB; simp [*], Lib.hid (HX.out.trans (by repeat (first | exact Ext.refl _ | refine Ext.alloc ?_ _ | refine Ext.more ?_ _ _ | refine Ext.drew ?_ | refine Ext.drewN ?_ _ | refine Ext.setCell ?_ (by simp <;> omega) _)))⟩
                case measure => simp [intOf]; omega
              | false =>
                by_cases c3 : xa ≤ p
                · have q3 : decide (xa ≤ p) = true := decide_eq_true c3
                  by_cases c4 : p ≤ xb
                  · have q4 : decide (p ≤ xb) = true := decide_eq_true c4
                    go_wp2_with fail
                    go_roundw
                    case rel => exact ⟨k + 1, by omega, by go_num, by rw [HNX.out]; unfold inB; simp [*], Lib.hid (HX.out.trans (by repeat (first | exact Ext.refl _ | refine Ext.alloc ?_ _ | refine Ext.more ?_ _ _ | refine Ext.drew ?_ | refine Ext.drewN ?_ _ | refine Ext.setCell ?_ (by simp <;> omega) _)))⟩
                    case measure => simp [intOf]; omega
                  · have q4 : decide (p ≤ xb) = false := decide_eq_false c4
                    go_wp2_with fail
                    go_roundw
                    case rel => exact ⟨k + 1, by omega, by go_num, by rw [HNX.out]; unfold inB; simp [*], Lib.hid (HX.out.trans (by repeat (first | exact Ext.refl _ | refine Ext.alloc ?_ _ | refine Ext.more ?_ _ _ | refine Ext.drew ?_ | refine Ext.drewN ?_ _ | refine Ext.setCell ?_ (by simp <;> omega) _)))⟩
                    case measure => simp [intOf]; omega
                · have q3 : decide (xa ≤ p) = false := decide_eq_false c3
                  go_wp2_with fail
                  go_roundw
                  case rel => exact ⟨k + 1, by omega, by go_num, by rw [HNX.out]; unfold inB; simp [*], Lib.hid (HX.out.trans (by repeat (first | exact Ext.refl _ | refine Ext.alloc ?_ _ | refine Ext.more ?_ _ _ | refine Ext.drew ?_ | refine Ext.drewN ?_ _ | refine Ext.setCell ?_ (by simp <;> omega) _)))⟩
                  case measure => simp [intOf]; omega
          · obtain rfl : k = ms.length := by omega
            rw [List.take_length, HAP.out]
            have CM := Lib.hid (fun w1 (x : Ext w7 w1) => merge_any A7 c7 ms w1 (HO7.out.ext x).cells.1 hml)
            rw [HAG.out] at CM
            have HX := Lib.hid hx.out
            clear hx
            have qe : (inn == inn) = true := by cases inn <;> rfl
            go_wp2_with fail
            refine (CM.out _ (HX.out.trans (by repeat (first | exact Ext.refl _ | refine Ext.alloc ?_ _ | refine Ext.more ?_ _ _ | refine Ext.drew ?_ | refine Ext.drewN ?_ _ | refine Ext.setCell ?_ (by simp <;> omega) _)))).mono ?_
            rintro e w8 ⟨A8, c8, rfl, ho8, hx8⟩
            have HO8 := Lib.hid ho8
            have HX8 := Lib.hid ((HX.out.trans (by repeat (first | exact Ext.refl _ | refine Ext.alloc ?_ _ | refine Ext.more ?_ _ _ | refine Ext.drew ?_ | refine Ext.drewN ?_ _ | refine Ext.setCell ?_ (by simp <;> omega) _))).trans hx8)
            clear ho8 hx8 CM
            go_wp2_with fail
            refine (same_spans A8 A7 ms c8 c7 _ (HO8.out.ext (by repeat (first | exact Ext.refl _ | refine Ext.alloc ?_ _ | refine Ext.more ?_ _ _ | refine Ext.drew ?_ | refine Ext.drewN ?_ _ | refine Ext.setCell ?_ (by simp <;> omega) _))).cells.1 (HO7.out.ext (HX8.out.trans (by repeat (first | exact Ext.refl _ | refine Ext.alloc ?_ _ | refine Ext.more ?_ _ _ | refine Ext.drew ?_ | refine Ext.drewN ?_ _ | refine Ext.setCell ?_ (by simp <;> omega) _)))).cells.1 (by omega)).mono ?_
            rintro e w9 ⟨rfl, os9, k9, rfl⟩
            go_wp2_with fail
            go_ret
            exact ⟨rfl, (HX7.out.trans HX8.out).trans (by repeat (first | exact Ext.refl _ | refine Ext.alloc ?_ _ | refine Ext.more ?_ _ _ | refine Ext.drew ?_ | refine Ext.drewN ?_ _ | refine Ext.setCell ?_ (by simp <;> omega) _))⟩
  · have q0 : decide ((20 : Int) < (ss.length : Int)) = true := decide_eq_true (by omega)
    go_enter Try.func9, Try.ntmps9
    go_wp2_with (go_at_call 28; refine (lives_any _).mono ?_; rintro e w1 ⟨rfl, os1, k1, rfl⟩)
    go_ret
    exact ⟨rfl, (by repeat (first | exact Ext.refl _ | refine Ext.alloc ?_ _ | refine Ext.more ?_ _ _ | refine Ext.drew ?_ | refine Ext.drewN ?_ _ | refine Ext.setCell ?_ (by simp <;> omega) _))⟩
end Go.Proofs.Ytfjkghbnlmhcnaa
