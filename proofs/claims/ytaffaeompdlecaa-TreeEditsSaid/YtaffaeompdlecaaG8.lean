/- TreeEdits: the walk. -/
import Derived.Test.YtaffaeompdlecaaG6
import Derived.Test.YtaffaeompdlecaaR1
import Derived.Test.YtaffaeompdlecaaTk
import Derived.WalkSpells
import Derived.WalkLawsBesides
import Derived.BigRegion
import Derived.Deep.RegionWith
import Derived.Deep.QuietTactic
import Derived.Deep.DeepCutAuto
import Derived.Deep.RegionHeld3
import Derived.Deep.RegionLaw
import Derived.BigQuiet
import Derived.Lib.Hide
namespace Go.Proofs.Ytaffaeompdlecaa
open Go.RowKit
attribute [local go_sem] more_drew more_drewN more_size more_cell more_frozen more_setCell drew_more drewN_more lt_add_r lt_add_r2 lt_add_r3 lt_add_r4 lt_add_r5 lt_add_r6 lt_add_r7 lt_add_r8 lt_add_r9 lt_add_r10 lt_self_r lt_self_r2

theorem shl_bd {k : Nat} (h : k < 64) : IntKind.u64.wrap (2 ^ k) = ((2 ^ k : Nat) : Int) ∧ 0 < ((2 ^ k : Nat) : Int) ∧ ((2 ^ k : Nat) : Int) ≤ 18446744073709551615 := by
  have h1 : 2 ^ k < 2 ^ 64 := Nat.pow_lt_pow_right (by decide) h
  have h2 : 0 < 2 ^ k := Nat.pow_pos (by decide)
  have e : (2 : Int) ^ k = ((2 ^ k : Nat) : Int) := by simp
  have h3 : (2 : Nat) ^ 64 = 18446744073709551616 := rfl
  refine ⟨?_, by omega, by omega⟩
  rw [e]
  exact IntWalk.u64_in _ (by omega)
theorem or_zero_left {m : Int} (h : 0 ≤ m ∧ m ≤ 18446744073709551615) : bits .or .u64 0 m = m := by
  rw [bits_or64]
  have e : BitVec.ofInt 64 0 = 0#64 := rfl
  rw [e, BitVec.zero_or, BitVec.toNat_ofInt]
  have : ((2 ^ 64 : Nat) : Int) = 18446744073709551616 := rfl
  rw [this]
  omega
set_option maxRecDepth 100000 in
set_option maxHeartbeats 2000000 in
theorem edits_any (A : Option Addr) (c : Nat) (ps : List Prt) (a d i n2 : Int) (W : World) (hP : Prts W A ps) (hO : PrtsOk W ps) (hl : ps.length ≤ c) (hc : c ≤ 9223372036854775807) (hA : A = none → c = 0) (hk : KidsLt ps) (hm : I64 n2) :
    Calls Try.prog 5 #[.slice A ps.length c, .agg #[.int .i64 a, .int .i64 d, .int .i64 i], .int .i64 n2] W fun e w' => e = .returned (.bool true) ∧ Ext W w' := by
  have HP := Lib.hid hP
  have HO := Lib.hid hO
  have HK := Lib.hid hk
  have HA := Lib.hid hA
  have HM := Lib.hid hm
  clear hP hO hk hA hm
  go_enter Try.func5, Try.ntmps5
  go_wp2_with fail
  obtain ⟨b, hb⟩ : ∃ b, W.heap.size = b := ⟨_, rfl⟩
  obtain ⟨W0, hW0⟩ : ∃ W0, W.alloc (.cells #[.int .i64 a, .int .i64 d, .int .i64 i] 26) = W0 := ⟨_, rfl⟩
  have X0 : Ext W W0 := by rw [← hW0]; exact (by repeat (first | exact Ext.refl _ | refine Ext.alloc ?_ _ | refine Ext.more ?_ _ _ | refine Ext.drew ?_ | refine Ext.drewN ?_ _ | refine Ext.setCell ?_ (by simp <;> omega) _))
  have G0 : W0.heap[b]? = some (.cells #[.int .i64 a, .int .i64 d, .int .i64 i] 26) := by rw [← hW0, ← hb]; exact heap_alloc_new _ _
  rw [hW0, hb]
  clear hW0 hb
  refine (lives16_any W0).mono ?_
  rintro e w1 ⟨rfl, hx1⟩
  have HX1 := Lib.hid (X0.trans hx1)
  have HG1 := Lib.hid (ext_block G0 hx1)
  have k0 := cell_of_row _ _ 0 _ _ _ HG1.out
  have k1 := cell_of_row _ _ 1 _ _ _ HG1.out
  have k2 := cell_of_row _ _ 2 _ _ _ HG1.out
  simp at k0 k1 k2
  have l0 := lt_of_heap HG1.out
  clear hx1 X0 G0
  go_wp2_with fail
  refine (light16_any A none c 0 ps [] a d i w1 (HP.out.ext HX1.out) (by omega) HK.out Prts.nil (by decide) (fun p hp => by cases hp)).mono ?_
  rintro e w2 ⟨b1, rfl, hb, hx2⟩
  have HX2 := Lib.hid (HX1.out.trans hx2)
  have HG2 := Lib.hid (ext_block HG1.out hx2)
  clear hx2 HX1 HG1 k0 k1 k2 l0
  cases b1 with
  | false =>
    go_wp2_with fail
    go_ret
    exact ⟨rfl, HX2.out⟩
  | true =>
    have hL := (hb rfl).1
    have HED := Lib.hid (hb rfl).2.2
    have S : Hid (PS W A c ps) := ⟨HP.out, HO.out, hL.few (by omega), hl, hc, HA.out⟩
    have hlen := hL.len
    have HL := Lib.hid hL
    clear hb hL HP HO HK HA
    by_cases T : Tree (nds ps)
    · have hpos := T.pos
      rw [nds_length] at hpos
      have HT := Lib.hid T
      clear T
      go_wp2_with fail
      refine (check_ok (S.out.ext HX2.out) HT.out).mono ?_
      rintro e w3 ⟨rfl, hx3⟩
      have HX3 := Lib.hid (HX2.out.trans hx3)
      have HG3 := Lib.hid (ext_block HG2.out hx3)
      clear hx3 HX2 HG2
      have k0 := cell_of_row _ _ 0 _ _ _ HG3.out
      have k1 := cell_of_row _ _ 1 _ _ _ HG3.out
      have k2 := cell_of_row _ _ 2 _ _ _ HG3.out
      simp at k0 k1 k2
      have l0 := lt_of_heap HG3.out
      have hp0 : ((ps.length : Int) == 0) = false := by rw [beq_eq_false_iff_ne]; omega
      obtain ⟨p0, hp0'⟩ : ∃ p0, ps[0]? = some p0 := ⟨_, List.getElem?_eq_getElem hpos⟩
      have hS3 := S.out.ext HX3.out
      obtain ⟨g0, o0, rfl, lg0, hc0⟩ := hS3.parts hpos
      obtain ⟨_, c1, c2, _, c4, c5, _, _⟩ := hc0 0 p0 hp0'
      simp only [Nat.zero_mul, Nat.add_zero] at c1 c2 c4 c5
      have hcap := S.out.cap
      have hplc := HL.out.places p0 (List.mem_of_getElem? hp0')
      have hed := HED.out
      unfold LightEd Lt20 at hed
      unfold Lt20 at hplc
      have b1 : IntKind.i64.wrap (a + d) = a + d := IntWalk.i64_in _ (by omega)
      have HP0 := Lib.hid hp0'
      have HPL := Lib.hid hplc
      have HED2 := Lib.hid hed
      clear hS3 hc0 hp0' hplc hed
      by_cases hgood : p0.nd.kind = 1 ∧ p0.nd.lo = 0 ∧ p0.nd.look = 1 ∧ 0 ≤ a ∧ 0 ≤ d ∧ 0 ≤ i ∧ a + d ≤ p0.nd.hi
      · obtain ⟨r1, r2, r3, r4, r5, r6, r7⟩ := hgood
        have y1 : (p0.nd.kind != 1) = false := by simp [r1]
        have y2 : (p0.nd.lo != 0) = false := by simp [r2]
        have y3 : (p0.nd.look != 1) = false := by simp [r3]
        have y4 : decide (a < 0) = false := decide_eq_false (by omega)
        have y5 : decide (d < 0) = false := decide_eq_false (by omega)
        have y6 : decide (i < 0) = false := decide_eq_false (by omega)
        have y7 : decide (p0.nd.hi < a + d) = false := decide_eq_false (by omega)
        have HR := Lib.hid (show p0.nd.kind = 1 ∧ p0.nd.lo = 0 ∧ p0.nd.look = 1 ∧ 0 ≤ a ∧ 0 ≤ d ∧ 0 ≤ i ∧ a + d ≤ p0.nd.hi from ⟨r1, r2, r3, r4, r5, r6, r7⟩)
        clear r1 r2 r3 r4 r5 r6 r7
        go_wp2_with fail
        refine wp_region_ext (by kernel_rfl) (by kernel_rfl) ?_
        repeat (go_big_quiet_step (fail))
        refine wpQuiet_nil ?_
        intro _ hw'
        obtain ⟨x9, rfl⟩ := hw'
        go_wp2_with fail
        obtain ⟨W4, hW4⟩ : ∃ W4, more w3 x9.os x9.k = W4 := ⟨_, rfl⟩
        have HX4 : Hid (Ext w3 W4) := Lib.hid (by rw [← hW4]; exact ⟨_, _, rfl⟩)
        rw [hW4]
        clear hW4 c1 c2 c4 c5 k0 k1 k2 y1 y2 y3 y4 y5 y6 y7 b1 l0 lg0
        refine (pick_any n2 64 W4 (by decide) HM.out).mono ?_
        rintro e w5 ⟨rfl, rfl⟩
        have hpb := pickF_bd n2 64 (by omega)
        obtain ⟨k, hk⟩ : ∃ k : Nat, pickF n2 64 = (k : Int) := ⟨(pickF n2 64).toNat, by omega⟩
        rw [hk] at hpb ⊢
        have hk64 : k < 64 := by omega
        clear hk hpb
        go_wp2_with fail
        obtain ⟨bV, hbV⟩ : ∃ bV, IntKind.u64.wrap (2 ^ k) = bV := ⟨_, rfl⟩
        have HBV : Hid (0 < bV ∧ bV ≤ 18446744073709551615) := Lib.hid (by
          have := shl_bd hk64
          rw [← hbV]
          omega)
        have h0 : ((0 : Int) == bV) = false := by rw [beq_eq_false_iff_ne]; have := HBV.out; omega
        have h1 : ((0 : Int) != bV) = true := by rw [bne_iff_ne]; have := HBV.out; omega
        rw [hbV]
        clear hbV hk64
        have HG4 := Lib.hid (ext_block HG3.out HX4.out)
        have HXW := Lib.hid (HX3.out.trans HX4.out)
        clear HG3 HX3 HX4
        have k0 := cell_of_row _ _ 0 _ _ _ HG4.out
        have k1 := cell_of_row _ _ 1 _ _ _ HG4.out
        have k2 := cell_of_row _ _ 2 _ _ _ HG4.out
        simp at k0 k1 k2
        have l0 := lt_of_heap HG4.out
        refine wp_region_segs (6) [([0, 2, 3], 1), ([], 4)] [5] (by kernel_rfl) (by kernel_rfl) ?_
        (refine segs_cons fun K hK => ?_); (simp only [pick, nthC]); (repeat (go_big_quiet_step (fail))); (refine wpQuiet_nil (hK _ fun next hn => ?_)); (clear hK K); (simp only [pick, nthC])
        go_wp2_with fail
        refine (bare_yes _ c ps _ (S.out.ext (HXW.out.trans (by repeat (first | exact Ext.refl _ | refine Ext.alloc ?_ _ | refine Ext.more ?_ _ _ | refine Ext.drew ?_ | refine Ext.drewN ?_ _ | refine Ext.setCell ?_ (by simp <;> omega) _)))) HT.out).mono ?_
        rintro e w6 ⟨A3, c3, us, rfl, hnU, hoU, hxU⟩
        have X6 : Hid (Ext W4 w6) := Lib.hid (Ext.trans (by repeat (first | exact Ext.refl _ | refine Ext.alloc ?_ _ | refine Ext.more ?_ _ _ | refine Ext.drew ?_ | refine Ext.drewN ?_ _ | refine Ext.setCell ?_ (by simp <;> omega) _)) hxU)
        have TU : Hid (Tree (nds us)) := Lib.hid (by rw [hnU]; exact HT.out.unmet)
        have hul : us.length = ps.length := by rw [← nds_length, hnU, List.length_map, nds_length]
        have SU : Hid (PS w6 A3 c3 us) := Lib.hid (hoU.ps (Few.of_tree TU.out (by omega)))
        have NU := Lib.hid hnU
        have HUL := Lib.hid hul
        clear hnU hoU hxU hul
        go_wp2_with fail
        refine segQ_mk (fun _ => laid X6.out) (hn _ _ ?_)
        clear hn next
        (refine segs_cons fun K hK => ?_); (simp only [pick, nthC]); (repeat (go_big_quiet_step (fail))); (refine wpQuiet_nil (hK _ fun next hn => ?_)); (clear hK K); (simp only [pick, nthC])
        go_wp2_with fail
        refine (edit_any A3 c3 us a d i bV _ SU.out TU.out HED.out.b30.1 HED.out.b30.2.1 HED.out.b30.2.2 HR.out.2.2.2.1 HR.out.2.2.2.2.1 HR.out.2.2.2.2.2.1 (by have := HBV.out; omega) (near_unmet (near_of HL.out HT.out) NU.out)).mono ?_
        rintro e w7 ⟨oA, hEA, A1, c1, xa, rfl, hnA, hoA, hxA⟩
        have X7 : Hid (Ext W4 w7) := Lib.hid (X6.out.trans hxA)
        have EA : Hid (EditedR ⟨a, d, i, bitOr bV⟩ ((nds ps).map Nd.unmet) oA) := Lib.hid (by rw [← NU.out]; exact hEA)
        have hal : xa.length = ps.length := by rw [← nds_length, hnA, hEA.1, nds_length, HUL.out]
        have HAL := Lib.hid hal
        have TA : Hid (Tree oA) := Lib.hid (edited_tree HT.out.unmet HR.out.2.2.2.1 HR.out.2.2.2.2.1 HR.out.2.2.2.2.2.1 EA.out)
        have SA : Hid (PS w7 A1 c1 xa) := Lib.hid (hoA.ps (Few.of_tree' hnA TA.out (by rw [EA.out.1, List.length_map, nds_length]; omega)))
        have NA := Lib.hid hnA
        rw [hal]
        clear hEA hnA hoA hxA hal
        go_wp2_with fail
        refine segQ_mk (fun _ => laid X7.out) (hn _ _ ?_)
        clear hn next X6 SU TU NU HUL
        (refine segs_nil fun K hK => ?_); (simp only [pick, nthC]); (repeat (go_big_quiet_step (fail))); (refine wpQuiet_nil (hK _ ?_)); (clear hK K)
        have X7W := Lib.hid (HXW.out.trans X7.out)
        have HG7 := Lib.hid (ext_block HG4.out X7.out)
        clear k0 k1 k2 l0 HG4 HXW X7
        -- the root
        obtain ⟨q0, hq0⟩ : ∃ q, xa[0]? = some q := ⟨_, List.getElem?_eq_getElem (by rw [HAL.out]; exact hpos)⟩
        obtain ⟨hr1, hr2⟩ := edited_root HT.out.unmet HR.out.2.2.2.1 HR.out.2.2.2.2.1 HR.out.2.2.2.2.2.1 EA.out (p := p0.nd.unmet) (q := q0.nd) (by rw [List.getElem?_map, nds_get HP0.out]; rfl) (NA.out ▸ nds_get hq0) HR.out.1 HR.out.2.2.2.2.2.2
        have k0 := cell_of_row _ _ 0 _ _ _ HG7.out
        have k1 := cell_of_row _ _ 1 _ _ _ HG7.out
        have k2 := cell_of_row _ _ 2 _ _ _ HG7.out
        simp at k0 k1 k2
        have l0 := lt_of_heap HG7.out
        obtain ⟨ga, oa, rfl, la, hca⟩ := SA.out.parts (by rw [HAL.out]; exact hpos)
        obtain ⟨_, _, d2, _, d4, _, _, _⟩ := hca 0 q0 hq0
        simp only [Nat.zero_mul, Nat.add_zero] at d2 d4
        rw [hr1] at d2
        rw [hr2] at d4
        change w7.cell? ⟨ga, oa + 4, none⟩ = some (.int .i64 (p0.nd.hi - d + i)) at d4
        obtain ⟨g9, o9, hA9, l9, hc9⟩ := (S.out.ext X7W.out).parts hpos
        injection hA9 with hA9
        injection hA9 with e1 e2
        subst e1 e2
        have c4 := (hc9 0 p0 HP0.out).2.2.2.2.1
        simp only [Nat.zero_mul, Nat.add_zero] at c4
        have hbl := HPL.out
        have hbe := HED2.out
        have b1 : IntKind.i64.wrap (p0.nd.hi - d) = p0.nd.hi - d := IntWalk.i64_in _ (by omega)
        have b2 : IntKind.i64.wrap (p0.nd.hi - d + i) = p0.nd.hi - d + i := IntWalk.i64_in _ (by omega)
        have hcap2 := SA.out.cap
        rw [HAL.out] at hcap2
        have CK := Lib.hid (fun (V : World) (x : Ext w7 V) => check_ok (SA.out.ext x) (NA.out ▸ TA.out))
        rw [HAL.out] at CK
        clear hca hc9 hq0 hr1 hr2 hbl hbe
        go_wp2_with fail
        refine wp_region_segs (34) [([0, 1, 2, 3, 4, 5, 6], 7)] [8, 9, 10, 11, 12, 13, 14, 15, 16, 17, 18, 19, 20, 21, 22, 23, 24, 25, 26, 27, 28, 29, 30, 31, 32, 33] (by kernel_rfl) (by kernel_rfl) ?_
        (refine segs_cons fun K hK => ?_); (simp only [pick, nthC]); (repeat (go_big_quiet_step (fail))); (refine wpQuiet_nil (hK _ fun next hn => ?_)); (clear hK K); (simp only [pick, nthC])
        go_wp2_with fail
        refine (CK.out _ (by repeat (first | exact Ext.refl _ | refine Ext.alloc ?_ _ | refine Ext.more ?_ _ _ | refine Ext.drew ?_ | refine Ext.drewN ?_ _ | refine Ext.setCell ?_ (by simp <;> omega) _))).mono ?_
        rintro e w8 ⟨rfl, hx8⟩
        have X8 : Hid (Ext w7 w8) := Lib.hid (Ext.trans (by repeat (first | exact Ext.refl _ | refine Ext.alloc ?_ _ | refine Ext.more ?_ _ _ | refine Ext.drew ?_ | refine Ext.drewN ?_ _ | refine Ext.setCell ?_ (by simp <;> omega) _)) hx8)
        clear hx8
        go_wp2_with fail
        refine segQ_mk (fun _ => laid X8.out) (hn _ _ ?_)
        clear hn next
        (refine segs_nil fun K hK => ?_); (simp only [pick, nthC]); (repeat (go_big_quiet_step (fail))); (refine wpQuiet_nil (hK _ ?_)); (clear hK K)
        have X8W := Lib.hid (X7W.out.trans X8.out)
        have HG8 := Lib.hid (ext_block HG7.out X8.out)
        have SA8 := Lib.hid (SA.out.ext X8.out)
        clear k0 k1 k2 l0 la d2 d4 l9 c4 b1 b2 CK HG7 X7W SA X8
        have C9 := stale_any _ c1 xa w8 SA8.out (NA.out ▸ TA.out)
        rw [HAL.out] at C9
        have HC9 := Lib.hid C9
        clear C9
        have q1 : ((ps.length : Int) != (ps.length : Int)) = false := by simp
        go_wp2_with fail
        refine HC9.out.mono ?_
        rintro e w9 ⟨st, hst, g, rfl, hM9, hgw, hx9⟩
        have hsl : st.length = ps.length := by rw [hst.1, nds_length, HAL.out]
        have X9W := Lib.hid (X8W.out.trans hx9)
        have HG9 := Lib.hid (ext_block HG8.out hx9)
        have SA9 := Lib.hid (SA8.out.ext hx9)
        have MB := Lib.hid hM9
        have HST := Lib.hid hst
        have HSL := Lib.hid hsl
        rw [hsl]
        clear hst hM9 hgw hx9 hsl X8W HG8 SA8 HC9
        go_wp2_with fail
        go_loopw [10] (fun v wr => ∃ j : Nat, j ≤ ps.length ∧ v = .int .i64 j ∧ Hid (Ext w9 wr)) (fun v _ => ps.length - (intOf v).toNat)
        case atStart => exact ⟨0, Nat.zero_le _, rfl, Lib.hid (Ext.refl _)⟩
        case round =>
          obtain ⟨j, hj, rfl, hx⟩ := hrel
          by_cases hlt : j < ps.length
          · obtain ⟨p, hp⟩ : ∃ p, ps[j]? = some p := ⟨_, List.getElem?_eq_getElem hlt⟩
            obtain ⟨q, hq⟩ : ∃ p, xa[j]? = some p := ⟨_, List.getElem?_eq_getElem (by rw [HAL.out]; exact hlt)⟩
            obtain ⟨sv, hsv⟩ : ∃ v, st[j]? = some v := ⟨_, List.getElem?_eq_getElem (by rw [HSL.out]; exact hlt)⟩
            have hS := S.out.ext (X9W.out.trans hx.out)
            obtain ⟨g9, o9, hA9, lg0, hc0⟩ := hS.parts hpos
            injection hA9 with hA9
            injection hA9 with e1 e2
            subst e1 e2
            obtain ⟨g9, o9, hA9, lga, hc1⟩ := (SA9.out.ext hx.out).parts (by rw [HAL.out]; exact hpos)
            injection hA9 with hA9
            injection hA9 with e1 e2
            subst e1 e2
            obtain ⟨c0, c1', c2, c3, c4, c5, c6, c7⟩ := hc0 j p hp
            obtain ⟨_, _, d2, _, d4, _, _, d7⟩ := hc1 j q hq
            obtain ⟨f0, f1, f2⟩ := (MB.out.ext hx.out).cell hsv
            have HG := ext_block HG9.out hx.out
            have k0 := cell_of_row _ _ 0 _ _ _ HG
            have k1 := cell_of_row _ _ 1 _ _ _ HG
            have k2 := cell_of_row _ _ 2 _ _ _ HG
            simp at k0 k1 k2
            have l0 := lt_of_heap HG
            have hmet := EA.out.of_unmet (nds_get hp) (NA.out ▸ nds_get hq)
            have hpl := near_of HL.out HT.out p (List.mem_of_getElem? hp)
            have hme : meetsF (ownLo p.nd) p.nd.look a d i = decide (Meet (ownLo p.nd) p.nd.look ⟨a, d, i, bitOr bV⟩) := meets_in (by
              have := hpl.lo
              unfold Lt30' at this
              unfold ownLo Lt30
              split <;> omega) hpl.look HED.out.b30.1 HED.out.b30.2.1 HED.out.b30.2.2
            have hb1 := (hS.oks.get hp).cap
            have hb2 := (hS.oks.get hp).top
            have hcap2 := SA9.out.cap
            rw [HAL.out] at hcap2
            have HXR := Lib.hid hx.out
            -- the parts' shapes
            have HSH : Hid (p.nd.kind ≠ 1 → sv = false → ¬ Meet (ownLo p.nd) p.nd.look ⟨a, d, i, bitOr bV⟩ ∧ (p.nd.hi < p.nd.look → (p.nd.hi ≠ a ∨ p.nd.lo = p.nd.hi) → q.nd.hi - p.nd.hi = q.nd.lo - p.nd.lo)) := Lib.hid (fun hk hs => by
              have hm0 := HST.out.met (nds_get hq) (by rw [hsv, hs])
              have hnm : ¬ Meet (ownLo p.nd) p.nd.look ⟨a, d, i, bitOr bV⟩ := fun hM => by
                rw [if_pos hM] at hmet
                have e := or_zero_left (m := bV) (by have := HBV.out; omega)
                have := HBV.out
                unfold bitOr at hmet
                dsimp only at hmet
                omega
              exact ⟨hnm, fun h1 h2 => edited_shape HT.out.unmet HR.out.2.2.2.1 HR.out.2.2.2.2.1 HR.out.2.2.2.2.2.1 EA.out (p := p.nd.unmet) (by rw [List.getElem?_map, nds_get hp]; rfl) (NA.out ▸ nds_get hq) hk hnm h1 h2⟩)
            have HBD : Hid (p.nd.kind ≠ 1 → (-8589934592 ≤ q.nd.lo ∧ q.nd.lo ≤ 8589934592) ∧ (-8589934592 ≤ q.nd.hi ∧ q.nd.hi ≤ 8589934592)) := Lib.hid (fun hk => by
              obtain ⟨y1, y2⟩ := edited_key HT.out.unmet HR.out.2.2.2.1 HR.out.2.2.2.2.1 HR.out.2.2.2.2.2.1 EA.out _ j (Nat.le_refl _) p.nd.unmet q.nd (by rw [List.getElem?_map, nds_get hp]; rfl) (NA.out ▸ nds_get hq) hk
              have hb := (TA.out.bare j q.nd (NA.out ▸ nds_get hq)).1
              have hl := hpl.lo
              have hh := hpl.hi
              have h3 := HED2.out
              unfold Lt30' at hl hh
              have e1 : p.nd.unmet.lo = p.nd.lo := rfl
              have e2 : p.nd.unmet.hi = p.nd.hi := rfl
              rw [e1] at y1
              rw [e2] at y2
              unfold Bare at hb
              have hs1 : -4294967296 ≤ stF p.nd.lo ⟨a, d, i, bitOr bV⟩ ∧ stF p.nd.lo ⟨a, d, i, bitOr bV⟩ ≤ 4294967296 := by
                unfold stF
                dsimp only
                split <;> (try split) <;> omega
              have hs2 : stF p.nd.hi ⟨a, d, i, bitOr bV⟩ ≤ 4294967296 := by
                unfold stF
                dsimp only
                split <;> (try split) <;> omega
              omega)
            have HNR := Lib.hid hpl
            have CELLS := Lib.hid (fun (V : World) (x : Ext wr V) => (⟨(x.below.cell (p := ⟨g0, o0 + j * 8 + 1, none⟩) lg0).trans c1', (x.below.cell (p := ⟨g0, o0 + j * 8 + 2, none⟩) lg0).trans c2, (x.below.cell (p := ⟨g0, o0 + j * 8 + 4, none⟩) lg0).trans c4, (x.below.cell (p := ⟨g0, o0 + j * 8 + 5, none⟩) lg0).trans c5,
              (x.below.cell (p := ⟨ga, oa + j * 8 + 2, none⟩) lga).trans d2, (x.below.cell (p := ⟨ga, oa + j * 8 + 4, none⟩) lga).trans d4, (x.below.cell (p := ⟨b, 0, none⟩) l0).trans k0, (x.below.cell (p := ⟨g, j, none⟩) f2).trans f0, Nat.lt_of_lt_of_le lg0 x.size, Nat.lt_of_lt_of_le lga x.size, Nat.lt_of_lt_of_le l0 x.size, Nat.lt_of_lt_of_le f2 x.size⟩ :
              V.cell? ⟨g0, o0 + j * 8 + 1, none⟩ = some (.int .i64 p.nd.kind) ∧ V.cell? ⟨g0, o0 + j * 8 + 2, none⟩ = some (.int .i64 p.nd.lo) ∧ V.cell? ⟨g0, o0 + j * 8 + 4, none⟩ = some (.int .i64 p.nd.hi) ∧ V.cell? ⟨g0, o0 + j * 8 + 5, none⟩ = some (.int .i64 p.nd.look) ∧
              V.cell? ⟨ga, oa + j * 8 + 2, none⟩ = some (.int .i64 q.nd.lo) ∧ V.cell? ⟨ga, oa + j * 8 + 4, none⟩ = some (.int .i64 q.nd.hi) ∧ V.cell? ⟨b, 0, none⟩ = some (.int .i64 a) ∧ V.cell? ⟨g, j, none⟩ = some (.bool sv) ∧ g0 < V.heap.size ∧ ga < V.heap.size ∧ b < V.heap.size ∧ g < V.heap.size))
            obtain ⟨mb, hmb⟩ : ∃ mb, meetsF (ownLo p.nd) p.nd.look a d i = mb := ⟨_, rfl⟩
            have hmq : (mb = true → q.nd.met = bV) ∧ (mb = false → q.nd.met = 0) := by
              rw [← hmb, hme]
              refine ⟨fun h => ?_, fun h => ?_⟩
              · rw [hmet, if_pos (of_decide_eq_true h)]
                exact or_zero_left (by have := HBV.out; omega)
              · rw [hmet, if_neg (of_decide_eq_false h)]
            have HMB : Hid (mb = decide (Meet (ownLo p.nd) p.nd.look ⟨a, d, i, bitOr bV⟩)) := Lib.hid (by rw [← hmb, hme])
            clear hp hq hsv hS hc0 hc1 hmet hpl hme HG f1 hx
            go_upto_region 19 with fail
            cases mb with
            | true =>
              have hqm := hmq.1 rfl
              rw [hqm] at d7
              clear hmq hqm
              refine wp_region_segs (32) [([0, 1, 2, 3, 4, 5, 6, 7, 8, 9, 10, 12], 11), ([], 13)] [14, 15, 16, 17, 18, 19, 20, 21, 22, 23, 24, 25, 26, 27, 28, 29, 30, 31] (by kernel_rfl) (by kernel_rfl) ?_
              (refine segs_cons fun K hK => ?_); (simp only [pick, nthC]); (repeat (go_big_quiet_step (fail))); (refine wpQuiet_nil (hK _ fun next hn => ?_)); (clear hK K); (simp only [pick, nthC])
              go_wp2_with fail
              refine (rown_any p _).mono ?_
              rintro e w11 ⟨rfl, hx11⟩
              have X11 : Hid (Ext wr w11) := Lib.hid (Ext.trans (by repeat (first | exact Ext.refl _ | refine Ext.alloc ?_ _ | refine Ext.more ?_ _ _ | refine Ext.drew ?_ | refine Ext.drewN ?_ _ | refine Ext.setCell ?_ (by simp <;> omega) _)) hx11)
              clear hx11
              go_wp2_with fail
              refine segQ_mk (fun _ => laid X11.out) (hn _ _ ?_)
              clear hn next
              (refine segs_cons fun K hK => ?_); (simp only [pick, nthC]); (repeat (go_big_quiet_step (fail))); (refine wpQuiet_nil (hK _ fun next hn => ?_)); (clear hK K); (simp only [pick, nthC])
              go_wp2_with fail
              refine (rmeets_any _ _ a d i w11).mono ?_
              rw [hmb]
              rintro e w12 ⟨rfl, hx12⟩
              have X12 : Hid (Ext wr w12) := Lib.hid (X11.out.trans hx12)
              clear hx12
              go_wp2_with fail
              refine segQ_mk (fun _ => laid X12.out) (hn _ _ ?_)
              clear hn next
              (refine segs_nil fun K hK => ?_); (simp only [pick, nthC]); (repeat (go_big_quiet_step (fail))); (refine wpQuiet_nil (hK _ ?_)); (clear hK K)
              clear c0 c1' c2 c3 c4 c5 c6 c7 d2 d4 d7 f0 f2 k0 k1 k2 l0 lg0 lga hb1 hb2 hmb
              have X12w := X12.out
              obtain ⟨kc1, kc2, kc4, kc5, kd2, kd4, ke0, kst, kl0, kla, klb, klg⟩ := CELLS.out w12 X12w
              clear X12w
              by_cases hk : p.nd.kind = 1
              · have hk1 : (p.nd.kind == 1) = true := by simp [hk]
                clear hk
                go_wp2_with fail
                go_roundw
                case rel => exact ⟨j + 1, by omega, by go_num, Lib.hid (HXR.out.trans (X12.out.trans (by repeat (first | exact Ext.refl _ | refine Ext.alloc ?_ _ | refine Ext.more ?_ _ _ | refine Ext.drew ?_ | refine Ext.drewN ?_ _ | refine Ext.setCell ?_ (by simp <;> omega) _))))⟩
                case measure => simp [intOf]; omega
              · have hk1 : (p.nd.kind == 1) = false := by simp [hk]
                have hs : sv = true := by
                  cases hsv : sv with
                  | true => rfl
                  | false => exact absurd (of_decide_eq_true HMB.out.symm) (HSH.out hk hsv).1
                rw [hs] at kst
                clear hk hs
                go_wp2_with fail
                go_roundw
                case rel => exact ⟨j + 1, by omega, by go_num, Lib.hid (HXR.out.trans (X12.out.trans (by repeat (first | exact Ext.refl _ | refine Ext.alloc ?_ _ | refine Ext.more ?_ _ _ | refine Ext.drew ?_ | refine Ext.drewN ?_ _ | refine Ext.setCell ?_ (by simp <;> omega) _))))⟩
                case measure => simp [intOf]; omega
            | false =>
              have hqm := hmq.2 rfl
              rw [hqm] at d7
              clear hmq hqm
              refine wp_region_segs (32) [([0, 1, 2, 3, 4, 5, 6, 7, 8, 9, 10, 12], 11), ([], 13)] [14, 15, 16, 17, 18, 19, 20, 21, 22, 23, 24, 25, 26, 27, 28, 29, 30, 31] (by kernel_rfl) (by kernel_rfl) ?_
              (refine segs_cons fun K hK => ?_); (simp only [pick, nthC]); (repeat (go_big_quiet_step (fail))); (refine wpQuiet_nil (hK _ fun next hn => ?_)); (clear hK K); (simp only [pick, nthC])
              go_wp2_with fail
              refine (rown_any p _).mono ?_
              rintro e w11 ⟨rfl, hx11⟩
              have X11 : Hid (Ext wr w11) := Lib.hid (Ext.trans (by repeat (first | exact Ext.refl _ | refine Ext.alloc ?_ _ | refine Ext.more ?_ _ _ | refine Ext.drew ?_ | refine Ext.drewN ?_ _ | refine Ext.setCell ?_ (by simp <;> omega) _)) hx11)
              clear hx11
              go_wp2_with fail
              refine segQ_mk (fun _ => laid X11.out) (hn _ _ ?_)
              clear hn next
              (refine segs_cons fun K hK => ?_); (simp only [pick, nthC]); (repeat (go_big_quiet_step (fail))); (refine wpQuiet_nil (hK _ fun next hn => ?_)); (clear hK K); (simp only [pick, nthC])
              go_wp2_with fail
              refine (rmeets_any _ _ a d i w11).mono ?_
              rw [hmb]
              rintro e w12 ⟨rfl, hx12⟩
              have X12 : Hid (Ext wr w12) := Lib.hid (X11.out.trans hx12)
              clear hx12
              go_wp2_with fail
              refine segQ_mk (fun _ => laid X12.out) (hn _ _ ?_)
              clear hn next
              (refine segs_nil fun K hK => ?_); (simp only [pick, nthC]); (repeat (go_big_quiet_step (fail))); (refine wpQuiet_nil (hK _ ?_)); (clear hK K)
              clear c0 c1' c2 c3 c4 c5 c6 c7 d2 d4 d7 f0 f2 k0 k1 k2 l0 lg0 lga hb1 hb2 hmb
              have X12w := X12.out
              obtain ⟨kc1, kc2, kc4, kc5, kd2, kd4, ke0, kst, kl0, kla, klb, klg⟩ := CELLS.out w12 X12w
              clear X12w
              by_cases hk : p.nd.kind = 1
              · have hk1 : (p.nd.kind == 1) = true := by simp [hk]
                clear hk
                go_wp2_with fail
                go_roundw
                case rel => exact ⟨j + 1, by omega, by go_num, Lib.hid (HXR.out.trans (X12.out.trans (by repeat (first | exact Ext.refl _ | refine Ext.alloc ?_ _ | refine Ext.more ?_ _ _ | refine Ext.drew ?_ | refine Ext.drewN ?_ _ | refine Ext.setCell ?_ (by simp <;> omega) _))))⟩
                case measure => simp [intOf]; omega
              · have hk1 : (p.nd.kind == 1) = false := by simp [hk]
                cases sv with
                | true =>
                  clear hk
                  go_wp2_with fail
                  go_roundw
                  case rel => exact ⟨j + 1, by omega, by go_num, Lib.hid (HXR.out.trans (X12.out.trans (by repeat (first | exact Ext.refl _ | refine Ext.alloc ?_ _ | refine Ext.more ?_ _ _ | refine Ext.drew ?_ | refine Ext.drewN ?_ _ | refine Ext.setCell ?_ (by simp <;> omega) _))))⟩
                  case measure => simp [intOf]; omega
                | false =>
                  have hsh := (HSH.out hk rfl).2
                  have hbd := HBD.out hk
                  have hn1 := HNR.out.lo
                  have hn2 := HNR.out.hi
                  unfold Lt30' at hn1 hn2
                  have b1 : IntKind.i64.wrap (q.nd.lo - p.nd.lo) = q.nd.lo - p.nd.lo := IntWalk.i64_in _ (by omega)
                  have b2 : IntKind.i64.wrap (q.nd.hi - p.nd.hi) = q.nd.hi - p.nd.hi := IntWalk.i64_in _ (by omega)
                  have hcs : ((q.nd.hi - p.nd.hi != q.nd.lo - p.nd.lo) = false) ∨ ((q.nd.hi - p.nd.hi != q.nd.lo - p.nd.lo) = true ∧ (p.nd.hi != a) = true ∧ decide (p.nd.hi < p.nd.look) = false) ∨
                      ((q.nd.hi - p.nd.hi != q.nd.lo - p.nd.lo) = true ∧ (p.nd.hi != a) = false ∧ (p.nd.lo == p.nd.hi) = true ∧ decide (p.nd.hi < p.nd.look) = false) ∨
                      ((q.nd.hi - p.nd.hi != q.nd.lo - p.nd.lo) = true ∧ (p.nd.hi != a) = false ∧ (p.nd.lo == p.nd.hi) = false) := by
                    simp only [bne_eq_false_iff_eq, bne_iff_ne, ne_eq, beq_iff_eq, beq_eq_false_iff_ne, decide_eq_false_iff_not]
                    by_cases h1 : q.nd.hi - p.nd.hi = q.nd.lo - p.nd.lo
                    · exact .inl h1
                    · by_cases h2 : p.nd.hi = a
                      · by_cases h3 : p.nd.lo = p.nd.hi
                        · exact .inr (.inr (.inl ⟨h1, h2, h3, fun h4 => h1 (hsh h4 (.inr h3))⟩))
                        · exact .inr (.inr (.inr ⟨h1, h2, h3⟩))
                      · exact .inr (.inl ⟨h1, h2, fun h4 => h1 (hsh h4 (.inl h2))⟩)
                  clear hsh hbd hn1 hn2 hk
                  rcases hcs with v1 | ⟨v1, v2, v4⟩ | ⟨v1, v2, v3, v4⟩ | ⟨v1, v2, v3⟩
                  all_goals
                    go_wp2_with fail
                    refine wp_region_ext (by kernel_rfl) (by kernel_rfl) ?_
                    repeat (go_big_quiet_step (fail))
                    refine wpQuiet_nil ?_
                    intro _ hw'
                    obtain ⟨x10, rfl⟩ := hw'
                    go_wp2_with fail
                    refine wp_region_ext (by kernel_rfl) (by kernel_rfl) ?_
                    repeat (go_big_quiet_step (fail))
                    refine wpQuiet_nil ?_
                    intro _ hw'
                    obtain ⟨x11, rfl⟩ := hw'
                    go_wp2_with fail
                    go_roundw
                    case rel => exact ⟨j + 1, by omega, by go_num, Lib.hid (HXR.out.trans (X12.out.trans (by repeat (first | exact Ext.refl _ | refine Ext.alloc ?_ _ | refine Ext.more ?_ _ _ | refine Ext.drew ?_ | refine Ext.drewN ?_ _ | refine Ext.setCell ?_ (by simp <;> omega) _))))⟩
                    case measure => simp [intOf]; omega
          · obtain rfl : j = ps.length := by omega
            go_wp2_with fail
            go_ret
            exact ⟨rfl, X9W.out.trans hx.out⟩
      · have HG := Lib.hid hgood
        have hcase : ((p0.nd.kind != 1) = true) ∨ ((p0.nd.kind != 1) = false ∧ (p0.nd.lo != 0) = true) ∨ ((p0.nd.kind != 1) = false ∧ (p0.nd.lo != 0) = false ∧ (p0.nd.look != 1) = true) ∨
            ((p0.nd.kind != 1) = false ∧ (p0.nd.lo != 0) = false ∧ (p0.nd.look != 1) = false ∧ decide (a < 0) = true) ∨ ((p0.nd.kind != 1) = false ∧ (p0.nd.lo != 0) = false ∧ (p0.nd.look != 1) = false ∧ decide (a < 0) = false ∧ decide (d < 0) = true) ∨
            ((p0.nd.kind != 1) = false ∧ (p0.nd.lo != 0) = false ∧ (p0.nd.look != 1) = false ∧ decide (a < 0) = false ∧ decide (d < 0) = false ∧ decide (i < 0) = true) ∨
            ((p0.nd.kind != 1) = false ∧ (p0.nd.lo != 0) = false ∧ (p0.nd.look != 1) = false ∧ decide (a < 0) = false ∧ decide (d < 0) = false ∧ decide (i < 0) = false ∧ decide (p0.nd.hi < a + d) = true) := by
          simp only [bne_eq_false_iff_eq, bne_iff_ne, decide_eq_true_eq, decide_eq_false_iff_not]
          omega
        clear hgood
        rcases hcase with y1 | ⟨y1, y2⟩ | ⟨y1, y2, y3⟩ | ⟨y1, y2, y3, y4⟩ | ⟨y1, y2, y3, y4, y5⟩ | ⟨y1, y2, y3, y4, y5, y6⟩ | ⟨y1, y2, y3, y4, y5, y6, y7⟩
        all_goals
          go_wp2_with fail
          refine wp_region_ext (by kernel_rfl) (by kernel_rfl) ?_
          repeat (go_big_quiet_step (fail))
          refine wpQuiet_nil ?_
          intro _ hw'
          obtain ⟨x9, rfl⟩ := hw'
          go_wp2_with fail
          go_ret
          exact ⟨rfl, HX3.out.trans (by repeat (first | exact Ext.refl _ | refine Ext.alloc ?_ _ | refine Ext.more ?_ _ _ | refine Ext.drew ?_ | refine Ext.drewN ?_ _ | refine Ext.setCell ?_ (by simp <;> omega) _))⟩
    · go_wp2_with fail
      refine (check_no (S.out.ext HX2.out) T).mono ?_
      rintro e w3 ⟨rfl, hx3⟩
      have HX3 := Lib.hid (HX2.out.trans hx3)
      clear hx3 T
      go_wp2_with fail
      go_ret
      exact ⟨rfl, HX3.out⟩
end Go.Proofs.Ytaffaeompdlecaa
