/- The contract of viewportref26.Style. -/
import Derived.Test.YtggmljookcmnkaaK7
import Derived.Test.YtggmljookcmnkaaTz
import Derived.WalkSpells
import Derived.WalkLawsBesides
import Derived.BigRegion
import Derived.Deep.RegionWith
import Derived.Deep.QuietTactic
import Derived.Deep.DeepCutAuto
import Derived.Deep.RegionHeld3
import Derived.Deep.RegionLaw
import Derived.BigQuiet
import Derived.Lib.Hide
namespace Go.Proofs.Ytggmljookcmnkaa
open Go.RowKit
attribute [local go_sem] more_drew more_drewN more_size more_cell more_frozen more_setCell drew_more drewN_more lt_add_r lt_add_r2 lt_add_r3 lt_add_r4 lt_add_r5 lt_add_r6 lt_add_r7 lt_add_r8 lt_add_r9 lt_add_r10 lt_self_r lt_self_r2

/-- the best one's place, -1: none -/
def bestI : Option Nat → Int
  | none => -1
  | some j => j
set_option maxRecDepth 100000 in
set_option maxHeartbeats 2000000 in
theorem rstyle_any (B : Option Addr) (ss : List Sty) (c : Nat) (kind : Int) (A : Option Addr) (way : List Int) (d : Nat) (w : World) (hS : Styles w B ss) (hO : StylesOk w ss) (hB : ∀ s ∈ ss, s.path.length ≤ s.pc ∧ s.pc ≤ 9223372036854775807 ∧ s.path.length ≤ 1000) (bs : ss.length ≤ 70)
    (hx : Ints w A way) (bx : way.length ≤ d) (bd : d ≤ 9223372036854775807) :
    Calls Try.prog 20 #[.slice B ss.length c, .int .i64 kind, .slice A way.length d] w fun e w' => e = .returned (.int .i64 (styleF ss kind way)) ∧ Ext w w' := by
  have HS := Lib.hid hS
  have HO := Lib.hid hO
  have HB := Lib.hid hB
  have HX := Lib.hid hx
  have HL := Lib.hid (bestIx_lt ss kind way)
  have HF : Hid (styleF ss kind way = stOf ss (bestIx ss kind way ss.length)) := Lib.hid rfl
  clear hS hO hB hx
  go_enter Try.func20, Try.ntmps20
  go_wp2_with fail
  go_loopw [7, 8] (fun b v wi => ∃ k : Nat, k ≤ ss.length ∧ v = .int .i64 k ∧ b = .int .i64 (bestI (bestIx ss kind way k)) ∧ Hid (Ext w wi)) (fun _ v _ => ss.length - (intOf v).toNat)
  case atStart => exact ⟨0, by omega, rfl, rfl, Lib.hid (by repeat (first | exact Ext.refl _ | refine Ext.alloc ?_ _ | refine Ext.more ?_ _ _ | refine Ext.drew ?_ | refine Ext.drewN ?_ _ | refine Ext.setCell ?_ (by simp <;> omega) _))⟩
  case round =>
    obtain ⟨k, hk, rfl, rfl, hx⟩ := hrel
    by_cases hlt : k < ss.length
    · obtain ⟨s, hs⟩ : ∃ s, ss[k]? = some s := ⟨_, List.getElem?_eq_getElem hlt⟩
      have hSx := HS.out.ext hx.out
      obtain ⟨b, off, rfl, hb, hcell⟩ := hSx (by omega)
      obtain ⟨d0, d1, d2, d3⟩ := hcell k s hs
      have E0 : Hid (bestIx ss kind way (k + 1) = if matchB s kind way && betterB ss s (bestIx ss kind way k) then some k else bestIx ss kind way k) := Lib.hid (by rw [bestIx, hs])
      have CM := Lib.hid (fun w2 (x : Ext wr w2) => rmatches_any s kind A way d w2 ((HO.out.ext (hx.out.trans x)) s (List.mem_of_getElem? hs)) (HB.out s (List.mem_of_getElem? hs)).1 (HB.out s (List.mem_of_getElem? hs)).2.1 (HB.out s (List.mem_of_getElem? hs)).2.2 (HX.out.ext (hx.out.trans x)) bx bd)
      unfold styV at CM
      have LK := Lib.hid (HL.out k)
      have HC := Lib.hid hcell
      obtain ⟨o, ho⟩ : ∃ o, bestIx ss kind way k = o := ⟨_, rfl⟩
      obtain ⟨mb, hmb⟩ : ∃ mb, matchB s kind way = mb := ⟨_, rfl⟩
      rw [ho, hmb] at E0
      rw [hmb] at CM
      rw [ho] at LK ⊢
      have HX6 := Lib.hid hx.out
      clear hcell hs hSx hx ho hmb
      cases mb with
      | false =>
        have EN : Hid (bestIx ss kind way (k + 1) = o) := Lib.hid (by have := E0.out; simpa using this)
        clear E0 LK
        obtain ⟨ov, hov⟩ : ∃ ov, bestI o = ov := ⟨_, rfl⟩
        have HOV := Lib.hid hov
        rw [hov]
        clear hov
        go_upto_region 5 with fail
        refine wp_region_bt (24) (softs_bt [0, 1, 2, 3, 4, 5] (.step 6 (softs_bt [7, 8, 9, 10, 11, 12, 13, 14, 15, 16, 17, 18, 19, 20, 21, 22, 23] .fin))) (by kernel_rfl) (by kernel_rfl) ?_
        (refine bt_softs _ fun K hK => ?_); (simp only [pick, nthC]); (repeat (go_big_quiet_step (fail))); (refine wpQuiet_nil (hK _ ?_)); (clear hK K)
        (refine bt_step fun next hn => ?_); (simp only [pick, nthC])
        go_wp2_with fail
        refine (CM.out _ (by repeat (first | exact Ext.refl _ | refine Ext.alloc ?_ _ | refine Ext.more ?_ _ _ | refine Ext.drew ?_ | refine Ext.drewN ?_ _ | refine Ext.setCell ?_ (by simp <;> omega) _))).mono ?_
        rintro e w2 ⟨rfl, os2, k2, rfl⟩
        go_wp2_with fail
        refine segQ_mk (fun _ => laid (by repeat (first | exact Ext.refl _ | refine Ext.alloc ?_ _ | refine Ext.more ?_ _ _ | refine Ext.drew ?_ | refine Ext.drewN ?_ _ | refine Ext.setCell ?_ (by simp <;> omega) _))) (hn _ _ ?_)
        clear hn next
        (refine bt_softs _ fun K hK => ?_); (simp only [pick, nthC]); (repeat (go_big_quiet_step (fail))); (refine wpQuiet_nil (hK _ ?_)); (clear hK K)
        (refine bt_fin ?_)
        go_wp2_with fail
        go_roundw
        case rel => exact ⟨k + 1, by omega, by go_num, by rw [EN.out, HOV.out], Lib.hid (HX6.out.trans (by repeat (first | exact Ext.refl _ | refine Ext.alloc ?_ _ | refine Ext.more ?_ _ _ | refine Ext.drew ?_ | refine Ext.drewN ?_ _ | refine Ext.setCell ?_ (by simp <;> omega) _)))⟩
        case measure => simp [intOf]; omega
      | true =>
        cases o with
        | none =>
          have EN : Hid (bestIx ss kind way (k + 1) = some k) := Lib.hid (by have := E0.out; simpa [betterB] using this)
          clear E0 LK
          show Code.wp _ _ _ _ _
          have hbi : bestI none = -1 := rfl
          rw [hbi]
          clear hbi
          go_upto_region 5 with fail
          refine wp_region_bt (24) (softs_bt [0, 1, 2, 3, 4, 5] (.step 6 (softs_bt [7, 8, 9, 10, 11, 12, 13, 14, 15, 16, 17, 18, 19, 20, 21, 22, 23] .fin))) (by kernel_rfl) (by kernel_rfl) ?_
          (refine bt_softs _ fun K hK => ?_); (simp only [pick, nthC]); (repeat (go_big_quiet_step (fail))); (refine wpQuiet_nil (hK _ ?_)); (clear hK K)
          (refine bt_step fun next hn => ?_); (simp only [pick, nthC])
          go_wp2_with fail
          refine (CM.out _ (by repeat (first | exact Ext.refl _ | refine Ext.alloc ?_ _ | refine Ext.more ?_ _ _ | refine Ext.drew ?_ | refine Ext.drewN ?_ _ | refine Ext.setCell ?_ (by simp <;> omega) _))).mono ?_
          rintro e w2 ⟨rfl, os2, k2, rfl⟩
          go_wp2_with fail
          refine segQ_mk (fun _ => laid (by repeat (first | exact Ext.refl _ | refine Ext.alloc ?_ _ | refine Ext.more ?_ _ _ | refine Ext.drew ?_ | refine Ext.drewN ?_ _ | refine Ext.setCell ?_ (by simp <;> omega) _))) (hn _ _ ?_)
          clear hn next
          (refine bt_softs _ fun K hK => ?_); (simp only [pick, nthC]); (repeat (go_big_quiet_step (fail))); (refine wpQuiet_nil (hK _ ?_)); (clear hK K)
          (refine bt_fin ?_)
          go_wp2_with fail
          go_roundw
          case rel => exact ⟨k + 1, by omega, by go_num, by rw [EN.out]; rfl, Lib.hid (HX6.out.trans (by repeat (first | exact Ext.refl _ | refine Ext.alloc ?_ _ | refine Ext.more ?_ _ _ | refine Ext.drew ?_ | refine Ext.drewN ?_ _ | refine Ext.setCell ?_ (by simp <;> omega) _)))⟩
          case measure => simp [intOf]; omega
        | some j =>
          obtain ⟨lj, lj2⟩ := LK.out j rfl
          obtain ⟨t, ht⟩ : ∃ t, ss[j]? = some t := ⟨_, List.getElem?_eq_getElem lj2⟩
          obtain ⟨e0, e1, e2, e3⟩ := HC.out j t ht
          have hp : prioAt ss j = t.prio := by simp [prioAt, ht]
          have hbi : bestI (some j) = (j : Int) := rfl
          rw [hbi]
          have qn : decide ((j : Int) < 0) = false := decide_eq_false (by omega)
          have i0 : (j : Int) < (ss.length : Int) := by omega
          have i1 : (0 : Int) ≤ (j : Int) := by omega
          by_cases hq : t.prio < s.prio
          · have hq' : decide (t.prio < s.prio) = true := decide_eq_true hq
            have EN : Hid (bestIx ss kind way (k + 1) = some k) := Lib.hid (by have := E0.out; simp only [betterB, hp, hq', Bool.and_self, if_true] at this; exact this)
            clear E0 LK hp hbi ht hq e0 e1 e2
            go_upto_region 5 with fail
            refine wp_region_bt (24) (softs_bt [0, 1, 2, 3, 4, 5] (.step 6 (softs_bt [7, 8, 9, 10, 11, 12, 13, 14, 15, 16, 17, 18, 19, 20, 21, 22, 23] .fin))) (by kernel_rfl) (by kernel_rfl) ?_
            (refine bt_softs _ fun K hK => ?_); (simp only [pick, nthC]); (repeat (go_big_quiet_step (fail))); (refine wpQuiet_nil (hK _ ?_)); (clear hK K)
            (refine bt_step fun next hn => ?_); (simp only [pick, nthC])
            go_wp2_with fail
            refine (CM.out _ (by repeat (first | exact Ext.refl _ | refine Ext.alloc ?_ _ | refine Ext.more ?_ _ _ | refine Ext.drew ?_ | refine Ext.drewN ?_ _ | refine Ext.setCell ?_ (by simp <;> omega) _))).mono ?_
            rintro e w2 ⟨rfl, os2, k2, rfl⟩
            go_wp2_with fail
            refine segQ_mk (fun _ => laid (by repeat (first | exact Ext.refl _ | refine Ext.alloc ?_ _ | refine Ext.more ?_ _ _ | refine Ext.drew ?_ | refine Ext.drewN ?_ _ | refine Ext.setCell ?_ (by simp <;> omega) _))) (hn _ _ ?_)
            clear hn next
            (refine bt_softs _ fun K hK => ?_); (simp only [pick, nthC]); (repeat (go_big_quiet_step (fail))); (refine wpQuiet_nil (hK _ ?_)); (clear hK K)
            (refine bt_fin ?_)
            go_wp2_with fail
            go_roundw
            case rel => exact ⟨k + 1, by omega, by go_num, by rw [EN.out]; rfl, Lib.hid (HX6.out.trans (by repeat (first | exact Ext.refl _ | refine Ext.alloc ?_ _ | refine Ext.more ?_ _ _ | refine Ext.drew ?_ | refine Ext.drewN ?_ _ | refine Ext.setCell ?_ (by simp <;> omega) _)))⟩
            case measure => simp [intOf]; omega
          · have hq' : decide (t.prio < s.prio) = false := decide_eq_false hq
            have EN : Hid (bestIx ss kind way (k + 1) = some j) := Lib.hid (by have := E0.out; simp only [betterB, hp, hq', Bool.and_false, Bool.false_eq_true, if_false] at this; exact this)
            clear E0 LK hp hbi ht hq e0 e1 e2
            go_upto_region 5 with fail
            refine wp_region_bt (24) (softs_bt [0, 1, 2, 3, 4, 5] (.step 6 (softs_bt [7, 8, 9, 10, 11, 12, 13, 14, 15, 16, 17, 18, 19, 20, 21, 22, 23] .fin))) (by kernel_rfl) (by kernel_rfl) ?_
            (refine bt_softs _ fun K hK => ?_); (simp only [pick, nthC]); (repeat (go_big_quiet_step (fail))); (refine wpQuiet_nil (hK _ ?_)); (clear hK K)
            (refine bt_step fun next hn => ?_); (simp only [pick, nthC])
            go_wp2_with fail
            refine (CM.out _ (by repeat (first | exact Ext.refl _ | refine Ext.alloc ?_ _ | refine Ext.more ?_ _ _ | refine Ext.drew ?_ | refine Ext.drewN ?_ _ | refine Ext.setCell ?_ (by simp <;> omega) _))).mono ?_
            rintro e w2 ⟨rfl, os2, k2, rfl⟩
            go_wp2_with fail
            refine segQ_mk (fun _ => laid (by repeat (first | exact Ext.refl _ | refine Ext.alloc ?_ _ | refine Ext.more ?_ _ _ | refine Ext.drew ?_ | refine Ext.drewN ?_ _ | refine Ext.setCell ?_ (by simp <;> omega) _))) (hn _ _ ?_)
            clear hn next
            (refine bt_softs _ fun K hK => ?_); (simp only [pick, nthC]); (repeat (go_big_quiet_step (fail))); (refine wpQuiet_nil (hK _ ?_)); (clear hK K)
            (refine bt_fin ?_)
            go_wp2_with fail
            go_roundw
            case rel => exact ⟨k + 1, by omega, by go_num, by rw [EN.out]; rfl, Lib.hid (HX6.out.trans (by repeat (first | exact Ext.refl _ | refine Ext.alloc ?_ _ | refine Ext.more ?_ _ _ | refine Ext.drew ?_ | refine Ext.drewN ?_ _ | refine Ext.setCell ?_ (by simp <;> omega) _)))⟩
            case measure => simp [intOf]; omega
    · obtain rfl : k = ss.length := by omega
      have HX6 := Lib.hid hx.out
      have LK := Lib.hid (HL.out ss.length)
      obtain ⟨o, ho⟩ : ∃ o, bestIx ss kind way ss.length = o := ⟨_, rfl⟩
      rw [ho] at HF LK ⊢
      cases o with
      | none =>
        have hbi : bestI none = -1 := rfl
        rw [hbi]
        clear hbi ho hx
        go_wp2_with fail
        go_ret
        exact ⟨ret_int (by rw [HF.out]; rfl), HX6.out⟩
      | some j =>
        obtain ⟨lj, lj2⟩ := LK.out j rfl
        obtain ⟨t, ht⟩ : ∃ t, ss[j]? = some t := ⟨_, List.getElem?_eq_getElem lj2⟩
        obtain ⟨b, off, rfl, hb, hcell⟩ := (HS.out.ext hx.out) (by omega)
        obtain ⟨e0, e1, e2, e3⟩ := hcell j t ht
        have HST : Hid (styleF ss kind way = t.st) := Lib.hid (by rw [HF.out]; simp [stOf, stAt, ht])
        have hbi : bestI (some j) = (j : Int) := rfl
        rw [hbi]
        have qn : decide ((j : Int) < 0) = false := decide_eq_false (by omega)
        have i0 : (j : Int) < (ss.length : Int) := by omega
        have i1 : (0 : Int) ≤ (j : Int) := by omega
        clear hbi ho hx hcell ht e0 e1 e3
        go_wp2_with fail
        go_ret
        exact ⟨ret_int HST.out.symm, HX6.out⟩
end Go.Proofs.Ytggmljookcmnkaa
