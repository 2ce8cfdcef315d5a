/- SpliceMoves: the walk. -/
import Derived.Test.YtaffaeompdlecaaV6
import Derived.Test.YtaffaeompdlecaaV3
import Derived.Test.YtaffaeompdlecaaV7
import Derived.Test.YtaffaeompdlecaaR5
import Derived.Test.YtaffaeompdlecaaR9
import Derived.Test.YtaffaeompdlecaaTz
import Derived.WalkSpells
import Derived.WalkLawsBesides
import Derived.BigRegion
import Derived.Deep.RegionWith
import Derived.Deep.QuietTactic
import Derived.Deep.DeepCutAuto
import Derived.Deep.RegionHeld3
import Derived.Deep.RegionLaw
import Derived.BigQuiet
import Derived.Lib.Hide
namespace Go.Proofs.Ytaffaeompdlecaa
open Go.RowKit
attribute [local go_sem] more_drew more_drewN more_size more_cell more_frozen more_setCell drew_more drewN_more lt_add_r lt_add_r2 lt_add_r3 lt_add_r4 lt_add_r5 lt_add_r6 lt_add_r7 lt_add_r8 lt_add_r9 lt_add_r10 lt_self_r lt_self_r2

set_option maxRecDepth 100000 in
set_option maxHeartbeats 4000000 in
theorem spliceMoves_any (A : Option Addr) (c : Nat) (ps : List Prt) (n0 m0 : Int) (W : World) (hP : Prts W A ps) (hO : PrtsOk W ps) (hl : ps.length ≤ c) (hc : c ≤ 9223372036854775807) (hA : A = none → c = 0) (hk : KidsLt ps)
    (hn0 : I64 n0) (hm0 : I64 m0) :
    Calls Try.prog 17 #[.slice A ps.length c, .int .i64 n0, .int .i64 m0] W fun e w' => e = .returned (.bool true) ∧ Ext W w' := by
  have HP := Lib.hid hP
  have HO := Lib.hid hO
  have HK := Lib.hid hk
  have HA := Lib.hid hA
  unfold I64 at hn0 hm0
  clear hP hO hk hA
  go_enter Try.func17, Try.ntmps17
  go_wp2_with fail
  refine (lives20_any W).mono ?_
  rintro e w1 ⟨rfl, hx1⟩
  have HX1 := Lib.hid hx1
  clear hx1
  go_wp2_with fail
  refine (light20_any A none none c 0 0 0 ps [] w1 (HP.out.ext HX1.out) (by omega) HK.out Prts.nil (by decide) (fun p hp => by cases hp)).mono ?_
  rintro e w2 ⟨b, rfl, hb, hx2⟩
  have HX2 := Lib.hid (HX1.out.trans hx2)
  clear hx2 HX1
  cases b with
  | false =>
    go_wp2_with fail
    go_ret
    exact ⟨rfl, HX2.out⟩
  | true =>
    obtain ⟨hL, _, _⟩ := hb rfl
    have S : Hid (PS W A c ps) := ⟨HP.out, HO.out, hL.few (by omega), hl, hc, HA.out⟩
    have hlen := hL.len
    clear hb hL HP HO HK HA
    by_cases T : Tree (nds ps)
    · have hpos := T.pos
      rw [nds_length] at hpos
      have HT := Lib.hid T
      clear T
      go_wp2_with fail
      refine (rcheck_ok (S.out.ext HX2.out) HT.out).mono ?_
      rintro e w3 ⟨rfl, hx3⟩
      have HX3 := Lib.hid (HX2.out.trans hx3)
      clear hx3 HX2
      go_wp2_with fail
      refine (pick_any n0 64 w3 (by omega) hn0).mono ?_
      rintro e w3' ⟨rfl, rfl⟩
      have hpb := pickF_bd n0 64 (by omega)
      obtain ⟨n, hn⟩ : ∃ n : Int, pickF n0 64 = n := ⟨_, rfl⟩
      rw [hn] at hpb
      rw [hn]
      clear hn
      go_wp2_with fail
      refine (pick_any m0 64 w3 (by omega) hm0).mono ?_
      rintro e w3' ⟨rfl, rfl⟩
      have hqb := pickF_bd m0 64 (by omega)
      obtain ⟨m, hm⟩ : ∃ m : Int, pickF m0 64 = m := ⟨_, rfl⟩
      rw [hm] at hqb
      rw [hm]
      clear hm
      have SN : Hid (SlotN n) := Lib.hid hpb
      have SM : Hid (SlotN m) := Lib.hid hqb
      have CG := Lib.hid (give_any A c ps n m w3 (S.out.ext HX3.out))
      go_wp2_with fail
      refine CG.out.mono ?_
      rintro e w4 ⟨A4, c4, xs, rfl, hnx, hox, hx4⟩
      have HX4 := Lib.hid (HX3.out.trans hx4)
      have hxl : xs.length = ps.length := by rw [← nds_length, hnx, List.length_map, nds_length]
      rw [hxl]
      have HNX := Lib.hid hnx
      have HXL := Lib.hid hxl
      have CC := Lib.hid (clear_any A c ps n w4 (S.out.ext HX4.out))
      clear CG hnx hx4 hxl
      go_wp2_with fail
      refine CC.out.mono ?_
      rintro e w5 ⟨A5, c5, ys, rfl, hny, hoy, hx5⟩
      have HX5 := Lib.hid (HX4.out.trans hx5)
      have hyl : ys.length = ps.length := by rw [← nds_length, hny, List.length_map, nds_length]
      rw [hyl]
      have HNY := Lib.hid hny
      have HYL := Lib.hid hyl
      have HOX := Lib.hid (hox.ext hx5)
      have HOY := Lib.hid hoy
      have SX : Hid (PS w5 A4 c4 xs) := Lib.hid (HOX.out.ps (S.out.few.of_lens (by rw [HNX.out, mets_lens])))
      clear CC hny hx5 hyl hox hoy
      obtain ⟨hn1, hn2⟩ := hpb
      obtain ⟨hm1, hm2⟩ := hqb
      go_upto_region 8 with fail
      obtain ⟨a, ha⟩ : ∃ a, IntKind.u64.wrap (2 ^ n.toNat) = a := ⟨_, rfl⟩
      obtain ⟨b, hb⟩ : ∃ b, IntKind.u64.wrap (2 ^ m.toNat) = b := ⟨_, rfl⟩
      rw [ha, hb]
      have HBA : Hid (bitN n = a) := Lib.hid ha
      have HBB : Hid (bitN m = b) := Lib.hid hb
      clear ha hb
      go_wp2_with fail
      go_loopw [11] (fun v wr => ∃ j : Nat, j ≤ ps.length ∧ v = .int .i64 j ∧ Hid (Ext w5 wr)) (fun v _ => ps.length - (intOf v).toNat)
      case atStart => exact ⟨0, Nat.zero_le _, rfl, Lib.hid (Ext.refl _)⟩
      case round =>
        obtain ⟨j, hj, rfl, hx⟩ := hrel
        by_cases hlt : j < ps.length
        · obtain ⟨p, hp⟩ : ∃ p, ps[j]? = some p := ⟨_, List.getElem?_eq_getElem hlt⟩
          obtain ⟨x, hxx⟩ : ∃ x, xs[j]? = some x := ⟨_, List.getElem?_eq_getElem (by rw [HXL.out]; exact hlt)⟩
          obtain ⟨y, hyy⟩ : ∃ y, ys[j]? = some y := ⟨_, List.getElem?_eq_getElem (by rw [HYL.out]; exact hlt)⟩
          obtain ⟨b1, off1, rfl, hb1, hc1⟩ := (S.out.ext (HX5.out.trans hx.out)).parts (by omega)
          obtain ⟨b2, off2, rfl, hb2, hc2⟩ := (HOX.out.ext hx.out).cells.1 (by rw [HXL.out]; omega)
          obtain ⟨b3, off3, rfl, hb3, hc3⟩ := (HOY.out.ext hx.out).cells.1 (by rw [HYL.out]; omega)
          have d1 := (hc1 j p hp).2.2.2.2.2.2.2
          have d2 := (hc2 j x hxx).2.2.2.2.2.2.2
          have d3 := (hc3 j y hyy).2.2.2.2.2.2.2
          have oc2 := HOX.out.cells.2.1
          have oc3 := HOX.out.cells.2.2.1
          have oc5 := HOY.out.cells.2.1
          have oc6 := HOY.out.cells.2.2.1
          rw [HXL.out] at oc2
          rw [HYL.out] at oc5
          unfold maxLen at oc3 oc6
          have hpu : U64 p.nd.met := (S.out.oks.get hp).met
          have ex : x.nd.met = giveF n m p.nd.met := by
            have := nds_get hxx
            rw [HNX.out, mets_get', nds_get hp] at this
            exact (congrArg Nd.met (Option.some.inj this)).symm
          have ey : y.nd.met = bits .andNot .u64 p.nd.met a := by
            have := nds_get hyy
            rw [HNY.out, mets_get', nds_get hp] at this
            rw [← HBA.out, ← clear_eq SN.out]
            exact (congrArg Nd.met (Option.some.inj this)).symm
          obtain ⟨pm, hpm⟩ : ∃ v, p.nd.met = v := ⟨_, rfl⟩
          obtain ⟨xm, hxm⟩ : ∃ v, x.nd.met = v := ⟨_, rfl⟩
          obtain ⟨ym, hym⟩ : ∃ v, y.nd.met = v := ⟨_, rfl⟩
          rw [hpm] at d1 ex ey hpu
          rw [hxm] at d2 ex
          rw [hym] at d3 ey
          have q1 : (ym != bits .andNot .u64 pm a) = false := by rw [ey]; simp
          clear hc1 hc2 hc3 hp hxx hyy hpm hxm hym ey
          by_cases hnm : n = m
          · have q2 : (n != m) = false := by simp [hnm]
            have q7 : (n == m) = true := by simp [hnm]
            have q8 : (xm != pm) = false := by rw [ex, give_same SN.out SM.out hpu hnm]; simp
            clear ex hnm hpu
            go_upto_region 13 with fail
            simp only [List.append_eq, List.cons_append, List.nil_append]
            refine wp_region_bt 88 (softs_bt [0, 1, 2, 3, 4, 5, 6, 7, 8, 9, 10, 11, 12, 13, 14, 15, 16, 17, 18, 19, 20, 21, 22, 23, 24, 25, 26, 27, 28, 29, 30, 31, 32, 33, 34, 35, 36, 37, 38, 39, 40, 41, 42, 43, 44, 45, 46, 47, 48, 49, 50, 51, 52, 53, 54, 55, 56, 57, 58, 59, 60, 61, 62, 63, 64, 65, 66, 67, 68, 69, 70, 71, 72, 73, 74, 75, 76, 77, 78, 79, 80, 81, 82, 83, 84, 85, 86, 87] .fin) (by kernel_rfl) (by kernel_rfl) ?_
            (refine bt_softs _ fun K hK => ?_); (simp only [pick, nthC]); (repeat (go_big_quiet_step (fail))); (refine wpQuiet_nil (hK _ ?_)); (clear hK K)
            (refine bt_fin ?_)
            go_wp2_with fail
            go_roundw
            case rel => exact ⟨j + 1, by omega, by go_num, Lib.hid hx.out.drew⟩
            case measure => simp [intOf]; omega
          · have q2 : (n != m) = true := by simpa using hnm
            have q7 : (n == m) = false := by simpa using hnm
            have q3 : (bits .and .u64 xm a != 0) = false := by rw [ex, ← HBA.out, give_from SN.out SM.out hpu hnm]; rfl
            obtain ⟨bt, q4⟩ : ∃ bt, (bits .and .u64 xm b != 0) = bt := ⟨_, rfl⟩
            have q5 : (bits .and .u64 pm (bits .or .u64 a b) != 0) = bt := by
              rw [← q4, ex, ← HBA.out, ← HBB.out]
              have := give_to SN.out SM.out hpu hnm
              rw [Bool.eq_iff_iff]
              simp [this]
            have q6 : (bits .andNot .u64 xm (bits .or .u64 a b) != bits .andNot .u64 pm (bits .or .u64 a b)) = false := by rw [ex, ← HBA.out, ← HBB.out, give_rest SN.out SM.out hpu]; simp
            clear ex hnm hpu
            go_upto_region 13 with fail
            simp only [List.append_eq, List.cons_append, List.nil_append]
            refine wp_region_bt 88 (softs_bt [0, 1, 2, 3, 4, 5, 6, 7, 8, 9, 10, 11, 12, 13, 14, 15, 16, 17, 18, 19, 20, 21, 22, 23, 24, 25, 26, 27, 28, 29, 30, 31, 32, 33, 34, 35, 36, 37, 38, 39, 40, 41, 42, 43, 44, 45, 46, 47, 48, 49, 50, 51, 52, 53, 54, 55, 56, 57, 58, 59, 60, 61, 62, 63, 64, 65, 66, 67, 68, 69, 70, 71, 72, 73, 74, 75, 76, 77, 78, 79, 80, 81, 82, 83, 84, 85, 86, 87] .fin) (by kernel_rfl) (by kernel_rfl) ?_
            (refine bt_softs _ fun K hK => ?_); (simp only [pick, nthC]); (repeat (go_big_quiet_step (fail))); (refine wpQuiet_nil (hK _ ?_)); (clear hK K)
            (refine bt_fin ?_)
            go_wp2_with fail
            go_roundw
            case rel => exact ⟨j + 1, by omega, by go_num, Lib.hid hx.out.drew⟩
            case measure => simp [intOf]; omega
        · obtain rfl : j = ps.length := by omega
          have TX : Hid (Tree (nds xs)) := Lib.hid (by rw [HNX.out]; exact HT.out.mets _)
          have CB := rbare_yes A4 c4 xs wr (SX.out.ext hx.out) TX.out
          rw [HXL.out] at CB
          have HCB := Lib.hid CB
          clear CB
          go_wp2_with fail
          refine HCB.out.mono ?_
          rintro e w6 ⟨A6, c6, us, rfl, hnu, hou, hx6⟩
          have hul : us.length = ps.length := by rw [← nds_length, hnu, List.length_map, nds_length, HXL.out]
          rw [hul]
          have HX6 := Lib.hid (hx.out.trans hx6)
          have HNU : Hid (nds us = (nds ps).map Nd.unmet) := Lib.hid (by rw [hnu, HNX.out, mets_unmet])
          have HOU := Lib.hid hou
          have HUL := Lib.hid hul
          clear hnu hou hx6 hul HCB
          go_wp2_with fail
          refine (rbare_yes A c ps w6 (S.out.ext (HX5.out.trans HX6.out)) HT.out).mono ?_
          rintro e w7 ⟨A7, c7, vs, rfl, hnv, hov, hx7⟩
          have hvl : vs.length = ps.length := by rw [← nds_length, hnv, List.length_map, nds_length]
          rw [hvl]
          have HX7 := Lib.hid (HX6.out.trans hx7)
          have O1 := HOU.out.ext hx7
          have CS := rsame_any A6 A7 us vs c6 c7 w7 O1.cells.1 O1.oks hov.cells.1 hov.oks (by rw [HUL.out]; omega) (by rw [hvl]; omega)
          rw [HUL.out, hvl, HNU.out, hnv, decide_eq_true rfl] at CS
          have HCS := Lib.hid CS
          clear O1 CS hnv hov hx7 hvl
          go_wp2_with fail
          refine HCS.out.mono ?_
          rintro e w8 ⟨rfl, hx8⟩
          have HX8 := Lib.hid (HX5.out.trans (HX7.out.trans hx8))
          clear hx8 HCS
          go_wp2_with fail
          go_ret
          exact ⟨rfl, HX8.out⟩
    · go_wp2_with fail
      refine (rcheck_no (S.out.ext HX2.out) T).mono ?_
      rintro e w3 ⟨rfl, hx3⟩
      have HX3 := Lib.hid (HX2.out.trans hx3)
      clear hx3 T
      go_wp2_with fail
      go_ret
      exact ⟨rfl, HX3.out⟩
end Go.Proofs.Ytaffaeompdlecaa
