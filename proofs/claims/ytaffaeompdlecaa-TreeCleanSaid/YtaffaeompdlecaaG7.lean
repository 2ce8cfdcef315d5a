/- TreeClean: the walk. -/
import Derived.Test.YtaffaeompdlecaaG6
import Derived.WalkSpells
import Derived.WalkLawsBesides
import Derived.BigRegion
import Derived.Deep.RegionWith
import Derived.Deep.QuietTactic
import Derived.Deep.DeepCutAuto
import Derived.Deep.RegionHeld3
import Derived.Deep.RegionLaw
import Derived.BigQuiet
import Derived.Lib.Hide
namespace Go.Proofs.Ytaffaeompdlecaa
open Go.RowKit
attribute [local go_sem] more_drew more_drewN more_size more_cell more_frozen more_setCell drew_more drewN_more lt_add_r lt_add_r2 lt_add_r3 lt_add_r4 lt_add_r5 lt_add_r6 lt_add_r7 lt_add_r8 lt_add_r9 lt_add_r10 lt_self_r lt_self_r2

set_option maxRecDepth 100000 in
set_option maxHeartbeats 1000000 in
theorem clean_any (A : Option Addr) (c : Nat) (ps : List Prt) (a d i bit : Int) (W : World) (hP : Prts W A ps) (hO : PrtsOk W ps) (hl : ps.length ≤ c) (hc : c ≤ 9223372036854775807) (hA : A = none → c = 0) (hk : KidsLt ps) (hm : 0 ≤ bit ∧ bit ≤ 18446744073709551615) :
    Calls Try.prog 6 #[.slice A ps.length c, .agg #[.int .i64 a, .int .i64 d, .int .i64 i], .int .u64 bit] W fun e w' => e = .returned (.bool true) ∧ Ext W w' := by
  have HP := Lib.hid hP
  have HO := Lib.hid hO
  have HK := Lib.hid hk
  have HA := Lib.hid hA
  have HM := Lib.hid hm
  clear hP hO hk hA hm
  go_enter Try.func6, Try.ntmps6
  go_wp2_with fail
  obtain ⟨b, hb⟩ : ∃ b, W.heap.size = b := ⟨_, rfl⟩
  obtain ⟨W0, hW0⟩ : ∃ W0, W.alloc (.cells #[.int .i64 a, .int .i64 d, .int .i64 i] 26) = W0 := ⟨_, rfl⟩
  have X0 : Ext W W0 := by rw [← hW0]; exact (by repeat (first | exact Ext.refl _ | refine Ext.alloc ?_ _ | refine Ext.more ?_ _ _ | refine Ext.drew ?_ | refine Ext.drewN ?_ _ | refine Ext.setCell ?_ (by simp <;> omega) _))
  have G0 : W0.heap[b]? = some (.cells #[.int .i64 a, .int .i64 d, .int .i64 i] 26) := by rw [← hW0, ← hb]; exact heap_alloc_new _ _
  rw [hW0, hb]
  clear hW0 hb
  refine (lives16_any W0).mono ?_
  rintro e w1 ⟨rfl, hx1⟩
  have HX1 := Lib.hid (X0.trans hx1)
  have HG1 := Lib.hid (ext_block G0 hx1)
  have k0 := cell_of_row _ _ 0 _ _ _ HG1.out
  have k1 := cell_of_row _ _ 1 _ _ _ HG1.out
  have k2 := cell_of_row _ _ 2 _ _ _ HG1.out
  simp at k0 k1 k2
  have l0 := lt_of_heap HG1.out
  clear hx1 X0 G0
  go_wp2_with fail
  refine (light16_any A none c 0 ps [] a d i w1 (HP.out.ext HX1.out) (by omega) HK.out Prts.nil (by decide) (fun p hp => by cases hp)).mono ?_
  rintro e w2 ⟨b1, rfl, hb, hx2⟩
  have HX2 := Lib.hid (HX1.out.trans hx2)
  have HG2 := Lib.hid (ext_block HG1.out hx2)
  clear hx2 HX1 HG1 k0 k1 k2 l0
  cases b1 with
  | false =>
    go_wp2_with fail
    go_ret
    exact ⟨rfl, HX2.out⟩
  | true =>
    have hL := (hb rfl).1
    have HED := Lib.hid (hb rfl).2.2
    have S : Hid (PS W A c ps) := ⟨HP.out, HO.out, hL.few (by omega), hl, hc, HA.out⟩
    have hlen := hL.len
    have HL := Lib.hid hL
    clear hb hL HP HO HK HA
    by_cases T : Tree (nds ps)
    · have hpos := T.pos
      rw [nds_length] at hpos
      have HT := Lib.hid T
      clear T
      go_wp2_with fail
      refine (check_ok (S.out.ext HX2.out) HT.out).mono ?_
      rintro e w3 ⟨rfl, hx3⟩
      have HX3 := Lib.hid (HX2.out.trans hx3)
      have HG3 := Lib.hid (ext_block HG2.out hx3)
      clear hx3 HX2 HG2
      have k0 := cell_of_row _ _ 0 _ _ _ HG3.out
      have k1 := cell_of_row _ _ 1 _ _ _ HG3.out
      have k2 := cell_of_row _ _ 2 _ _ _ HG3.out
      simp at k0 k1 k2
      have l0 := lt_of_heap HG3.out
      by_cases hpos3 : 0 ≤ a ∧ 0 ≤ d ∧ 0 ≤ i
      · have z1 : decide (a < 0) = false := decide_eq_false (by omega)
        have z2 : decide (d < 0) = false := decide_eq_false (by omega)
        have z3 : decide (i < 0) = false := decide_eq_false (by omega)
        have HPS := Lib.hid hpos3
        clear hpos3
        go_wp2_with fail
        refine wp_region_segs (9) [([0, 1, 3, 4, 5], 2), ([], 6)] [7, 8] (by kernel_rfl) (by kernel_rfl) ?_
        (refine segs_cons fun K hK => ?_); (simp only [pick, nthC]); (repeat (go_big_quiet_step (fail))); (refine wpQuiet_nil (hK _ fun next hn => ?_)); (clear hK K); (simp only [pick, nthC])
        go_wp2_with fail
        refine (edit_any A c ps a d i 0 _ (S.out.ext (Ext.trans HX3.out (by repeat (first | exact Ext.refl _ | refine Ext.alloc ?_ _ | refine Ext.more ?_ _ _ | refine Ext.drew ?_ | refine Ext.drewN ?_ _ | refine Ext.setCell ?_ (by simp <;> omega) _)))) HT.out HED.out.b30.1 HED.out.b30.2.1 HED.out.b30.2.2 HPS.out.1 HPS.out.2.1 HPS.out.2.2 (by decide) (near_of HL.out HT.out)).mono ?_
        rintro e w4 ⟨oA, hEA, A1, c1, xa, rfl, hnA, hoA, hxA⟩
        have X4 : Hid (Ext w3 w4) := Lib.hid (Ext.trans (by repeat (first | exact Ext.refl _ | refine Ext.alloc ?_ _ | refine Ext.more ?_ _ _ | refine Ext.drew ?_ | refine Ext.drewN ?_ _ | refine Ext.setCell ?_ (by simp <;> omega) _)) hxA)
        have EA := Lib.hid hEA
        have NA := Lib.hid hnA
        have OA := Lib.hid hoA
        clear hEA hnA hoA hxA
        go_wp2_with fail
        refine segQ_mk (fun _ => laid X4.out) (hn _ _ ?_)
        clear hn next
        (refine segs_cons fun K hK => ?_); (simp only [pick, nthC]); (repeat (go_big_quiet_step (fail))); (refine wpQuiet_nil (hK _ fun next hn => ?_)); (clear hK K); (simp only [pick, nthC])
        go_wp2_with fail
        refine (edit_any A c ps a d i bit _ (S.out.ext (HX3.out.trans X4.out)) HT.out HED.out.b30.1 HED.out.b30.2.1 HED.out.b30.2.2 HPS.out.1 HPS.out.2.1 HPS.out.2.2 HM.out (near_of HL.out HT.out)).mono ?_
        rintro e w5 ⟨oB, hEB, A2, c2, xb, rfl, hnB, hoB, hxB⟩
        have X5 : Hid (Ext w3 w5) := Lib.hid (X4.out.trans hxB)
        have EB := Lib.hid hEB
        have NB := Lib.hid hnB
        have OB := Lib.hid hoB
        have OA5 := Lib.hid (OA.out.ext hxB)
        clear hEB hnB hoB hxB X4 OA
        go_wp2_with fail
        refine segQ_mk (fun _ => laid X5.out) (hn _ _ ?_)
        clear hn next
        (refine segs_nil fun K hK => ?_); (simp only [pick, nthC]); (repeat (go_big_quiet_step (fail))); (refine wpQuiet_nil (hK _ ?_)); (clear hK K)
        have X5W := Lib.hid (HX3.out.trans X5.out)
        clear k0 k1 k2 l0 HG3 X5 HX3
        -- the plain facts
        have TA : Hid (Tree oA) := Lib.hid (edited_tree HT.out HPS.out.1 HPS.out.2.1 HPS.out.2.2 EA.out)
        have TB : Hid (Tree oB) := Lib.hid (edited_tree HT.out HPS.out.1 HPS.out.2.1 HPS.out.2.2 EB.out)
        have hal : xa.length = ps.length := by rw [← nds_length, NA.out, EA.out.1, nds_length]
        have hbl : xb.length = ps.length := by rw [← nds_length, NB.out, EB.out.1, nds_length]
        have SA : Hid (PS w5 A1 c1 xa) := Lib.hid (OA5.out.ps (Few.of_tree' NA.out TA.out (by rw [EA.out.1, nds_length]; omega)))
        have SB : Hid (PS w5 A2 c2 xb) := Lib.hid (OB.out.ps (Few.of_tree' NB.out TB.out (by rw [EB.out.1, nds_length]; omega)))
        have HAL := Lib.hid hal
        have HBL := Lib.hid hbl
        clear OA5 OB
        rw [hal, hbl]
        go_wp2_with fail
        refine (bare_yes A c ps _ (S.out.ext X5W.out) HT.out).mono ?_
        rintro e w6 ⟨A3, c3, us, rfl, hnU, hoU, hxU⟩
        have X6 := Lib.hid (X5W.out.trans hxU)
        have TU : Hid (Tree (nds us)) := Lib.hid (by rw [hnU]; exact HT.out.unmet)
        have hul : us.length = ps.length := by rw [← nds_length, hnU, List.length_map, nds_length]
        have SU : Hid (PS w6 A3 c3 us) := Lib.hid (hoU.ps (Few.of_tree TU.out (by omega)))
        have SA6 := Lib.hid (SA.out.ext hxU)
        have SB6 := Lib.hid (SB.out.ext hxU)
        have NU := Lib.hid hnU
        have HUL := Lib.hid hul
        clear hnU hoU hxU X5W SA SB hul
        go_wp2_with fail
        refine (stale_any A3 c3 us _ SU.out TU.out).mono ?_
        rintro e w7 ⟨st, hst, g, rfl, hM, hgw, hx7⟩
        have X7 := Lib.hid (X6.out.trans hx7)
        have SA7 := Lib.hid (SA6.out.ext hx7)
        have SB7 := Lib.hid (SB6.out.ext hx7)
        have MB := Lib.hid hM
        have hsl : st.length = ps.length := by rw [hst.1, nds_length, HUL.out]
        have ST := Lib.hid (fun (j : Nat) (hj : j < ps.length) => hst.none TU.out (by
          rw [NU.out]
          intro p hp
          obtain ⟨q, _, rfl⟩ := List.mem_map.1 hp
          rfl) j (by rw [nds_length, HUL.out]; exact hj))
        rw [hsl]
        clear hst hM hgw hx7 SA6 SB6 SU TU NU X6 hal hbl hsl
        have q0 : ((ps.length : Int) != (ps.length : Int)) = false := by simp
        go_wp2_with fail
        have C1 := bare_yes A1 c1 xa w7 SA7.out (NA.out ▸ TA.out)
        rw [HAL.out] at C1
        refine C1.mono ?_
        rintro e w8 ⟨A5, c5, va, rfl, hn8, ho8, hx8⟩
        have X8 := Lib.hid (X7.out.trans hx8)
        have SA8 := Lib.hid (SA7.out.ext hx8)
        have SB8 := Lib.hid (SB7.out.ext hx8)
        have MB8 := Lib.hid (MB.out.ext hx8)
        have N8 := Lib.hid hn8
        have O8 := Lib.hid ho8
        clear hn8 ho8 hx8 SA7 SB7 MB X7 C1
        go_wp2_with fail
        have C2 := bare_yes A2 c2 xb w8 SB8.out (NB.out ▸ TB.out)
        rw [HBL.out] at C2
        refine C2.mono ?_
        rintro e w9 ⟨A6, c6, vb, rfl, hn9, ho9, hx9⟩
        have X9 := Lib.hid (X8.out.trans hx9)
        have SA9 := Lib.hid (SA8.out.ext hx9)
        have SB9 := Lib.hid (SB8.out.ext hx9)
        have MB9 := Lib.hid (MB8.out.ext hx9)
        have hvv : nds va = nds vb := by rw [N8.out, hn9, NA.out, NB.out]; exact EditedR.same HT.out EA.out EB.out rfl rfl rfl
        have hval : va.length = ps.length := by rw [← nds_length, N8.out, List.length_map, nds_length, HAL.out]
        have hvbl : vb.length = ps.length := by rw [← nds_length, ← hvv, N8.out, List.length_map, nds_length, HAL.out]
        have O8' := Lib.hid (O8.out.ext hx9)
        have C3 := sameT_any A5 A6 va vb c5 c6 w9 O8'.out.cells.1 O8'.out.oks ho9.cells.1 ho9.oks (by omega) (by omega)
        rw [decide_eq_true hvv] at C3
        have CC3 := Lib.hid C3
        clear hn9 ho9 hx9 SA8 SB8 MB8 X8 C2 C3 O8 O8' hvv hval hvbl
        go_wp2_with fail
        refine CC3.out.mono ?_
        rintro e w10 ⟨rfl, hx10⟩
        have X10 := Lib.hid (X9.out.trans hx10)
        have SA10 := Lib.hid (SA9.out.ext hx10)
        have SB10 := Lib.hid (SB9.out.ext hx10)
        have MB10 := Lib.hid (MB9.out.ext hx10)
        clear hx10 SA9 SB9 MB9 X9 CC3
        go_wp2_with fail
        go_loopw [10] (fun v wr => ∃ j : Nat, j ≤ ps.length ∧ v = .int .i64 j ∧ Hid (Ext w10 wr)) (fun v _ => ps.length - (intOf v).toNat)
        case atStart => exact ⟨0, Nat.zero_le _, rfl, Lib.hid (Ext.refl _)⟩
        case round =>
          obtain ⟨j, hj, rfl, hx⟩ := hrel
          by_cases hlt : j < ps.length
          · obtain ⟨p, hp⟩ : ∃ p, ps[j]? = some p := ⟨_, List.getElem?_eq_getElem hlt⟩
            obtain ⟨p1, hp1⟩ : ∃ p, xa[j]? = some p := ⟨_, List.getElem?_eq_getElem (by rw [HAL.out]; exact hlt)⟩
            obtain ⟨p2, hp2⟩ : ∃ p, xb[j]? = some p := ⟨_, List.getElem?_eq_getElem (by rw [HBL.out]; exact hlt)⟩
            have hS := S.out.ext (X10.out.trans hx.out)
            obtain ⟨g0, o0, hA0, l0, hc0⟩ := hS.parts (by omega)
            obtain ⟨g1, o1, hA1, l1, hc1⟩ := (SA10.out.ext hx.out).parts (by rw [HAL.out]; omega)
            obtain ⟨g2, o2, hA2, l2, hc2⟩ := (SB10.out.ext hx.out).parts (by rw [HBL.out]; omega)
            have d0 := (hc0 j p hp).2.2.2.2.2.2.2
            have d1 := (hc1 j p1 hp1).2.2.2.2.2.2.2
            have d2 := (hc2 j p2 hp2).2.2.2.2.2.2.2
            have hmb := (hS.oks.get hp).met
            have h1 := EA.out.met (nds_get hp) (NA.out ▸ nds_get hp1)
            have h2 := EB.out.met (nds_get hp) (NB.out ▸ nds_get hp2)
            have e1 : p1.nd.met = p.nd.met := by
              rw [h1]
              split
              · exact bits_or_zero hmb
              · rfl
            rw [e1] at d1
            obtain ⟨f0, f1, f2⟩ := (MB10.out.ext hx.out).cell (ST.out j hlt)
            have b1 := S.out.cap
            have b2 := S.out.top
            have b3 := SA10.out.cap
            have b4 := SB10.out.cap
            rw [HAL.out] at b3
            rw [HBL.out] at b4
            have HX := Lib.hid (X10.out.trans hx.out)
            have HXR := Lib.hid hx.out
            rw [hA0, hA1, hA2]
            obtain ⟨m, hm⟩ : ∃ m, p.nd.met = m := ⟨_, rfl⟩
            obtain ⟨m2, hm2⟩ : ∃ m2, p2.nd.met = m2 := ⟨_, rfl⟩
            have hor : m2 = m ∨ m2 = bits .or .u64 m bit := by
              rw [← hm2, h2, hm]
              split
              · exact .inr rfl
              · exact .inl rfl
            rw [hm] at d0 d1
            rw [hm2] at d2
            clear hp hp1 hp2 hS hc0 hc1 hc2 hmb h1 h2 e1 hm hm2 hx
            obtain ⟨y, hy⟩ : ∃ y, (m2 != m) = y := ⟨_, rfl⟩
            obtain ⟨B, hB⟩ : ∃ B, bits .or .u64 m bit = B := ⟨_, rfl⟩
            rw [hB] at hor
            go_upto_region 12 with fail
            cases y with
            | false =>
              clear hor
              refine wp_region_ext (by kernel_rfl) (by kernel_rfl) ?_
              repeat (go_big_quiet_step (fail))
              refine wpQuiet_nil ?_
              intro _ hw'
              obtain ⟨x9, rfl⟩ := hw'
              go_wp2_with fail
              go_roundw
              case rel => exact ⟨j + 1, by omega, by go_num, Lib.hid (HXR.out.trans (by repeat (first | exact Ext.refl _ | refine Ext.alloc ?_ _ | refine Ext.more ?_ _ _ | refine Ext.drew ?_ | refine Ext.drewN ?_ _ | refine Ext.setCell ?_ (by simp <;> omega) _)))⟩
              case measure => simp [intOf]; omega
            | true =>
              have hz : (m2 != B) = false := by
                rcases hor with h | h
                · rw [h] at hy; simp at hy
                · rw [h]; simp
              clear hor
              refine wp_region_ext (by kernel_rfl) (by kernel_rfl) ?_
              repeat (go_big_quiet_step (fail))
              refine wpQuiet_nil ?_
              intro _ hw'
              obtain ⟨x9, rfl⟩ := hw'
              go_wp2_with fail
              go_roundw
              case rel => exact ⟨j + 1, by omega, by go_num, Lib.hid (HXR.out.trans (by repeat (first | exact Ext.refl _ | refine Ext.alloc ?_ _ | refine Ext.more ?_ _ _ | refine Ext.drew ?_ | refine Ext.drewN ?_ _ | refine Ext.setCell ?_ (by simp <;> omega) _)))⟩
              case measure => simp [intOf]; omega
          · obtain rfl : j = ps.length := by omega
            go_wp2_with fail
            go_ret
            exact ⟨rfl, X10.out.trans hx.out⟩
      · have hcase : (decide (a < 0) = true) ∨ (decide (a < 0) = false ∧ decide (d < 0) = true) ∨ (decide (a < 0) = false ∧ decide (d < 0) = false ∧ decide (i < 0) = true) := by
          by_cases h1 : a < 0
          · exact .inl (decide_eq_true h1)
          · by_cases h2 : d < 0
            · exact .inr (.inl ⟨decide_eq_false h1, decide_eq_true h2⟩)
            · by_cases h3 : i < 0
              · exact .inr (.inr ⟨decide_eq_false h1, decide_eq_false h2, decide_eq_true h3⟩)
              · exact absurd ⟨by omega, by omega, by omega⟩ hpos3
        clear hpos3
        rcases hcase with z1 | ⟨z1, z2⟩ | ⟨z1, z2, z3⟩
        all_goals
          go_wp2_with fail
          go_ret
          exact ⟨rfl, HX3.out⟩
    · go_wp2_with fail
      refine (check_no (S.out.ext HX2.out) T).mono ?_
      rintro e w3 ⟨rfl, hx3⟩
      have HX3 := Lib.hid (HX2.out.trans hx3)
      clear hx3 T
      go_wp2_with fail
      go_ret
      exact ⟨rfl, HX3.out⟩
end Go.Proofs.Ytaffaeompdlecaa
