/- SpliceBits: the walk. -/
import Derived.Test.YtaffaeompdlecaaVa
import Derived.Test.YtaffaeompdlecaaV6
import Derived.Test.YtaffaeompdlecaaR5
import Derived.Test.YtaffaeompdlecaaR9
import Derived.WalkSpells
import Derived.WalkLawsBesides
import Derived.BigRegion
import Derived.Deep.RegionWith
import Derived.Deep.QuietTactic
import Derived.Deep.DeepCutAuto
import Derived.Deep.RegionHeld3
import Derived.Deep.RegionLaw
import Derived.BigQuiet
import Derived.Lib.Hide
namespace Go.Proofs.Ytaffaeompdlecaa
open Go.RowKit
attribute [local go_sem] more_drew more_drewN more_size more_cell more_frozen more_setCell drew_more drewN_more lt_add_r lt_add_r2 lt_add_r3 lt_add_r4 lt_add_r5 lt_add_r6 lt_add_r7 lt_add_r8 lt_add_r9 lt_add_r10 lt_self_r lt_self_r2

set_option maxRecDepth 100000 in
set_option maxHeartbeats 1500000 in
theorem spliceBits_any (A : Option Addr) (c : Nat) (ps : List Prt) (n0 : Int) (J : Option Addr) (cj : Nat) (js : List Dty) (W : World) (hP : Prts W A ps) (hO : PrtsOk W ps) (hl : ps.length ≤ c) (hc : c ≤ 9223372036854775807) (hA : A = none → c = 0) (hk : KidsLt ps)
    (hn0 : I64 n0) (hJ : JobsAt W J js) (hjl : js.length ≤ cj) :
    Calls Try.prog 16 #[.slice A ps.length c, .int .i64 n0, .slice J js.length cj] W fun e w' => e = .returned (.bool true) ∧ Ext W w' := by
  have HP := Lib.hid hP
  have HO := Lib.hid hO
  have HK := Lib.hid hk
  have HA := Lib.hid hA
  have HJ := Lib.hid hJ
  unfold I64 at hn0
  clear hP hO hk hA hJ
  go_enter Try.func16, Try.ntmps16
  go_wp2_with fail
  refine (lives20_any W).mono ?_
  rintro e w1 ⟨rfl, hx1⟩
  have HX1 := Lib.hid hx1
  clear hx1
  go_wp2_with fail
  refine (light20_any A none J c 0 cj js.length ps [] w1 (HP.out.ext HX1.out) (by omega) HK.out Prts.nil (by decide) (fun p hp => by cases hp)).mono ?_
  rintro e w2 ⟨b, rfl, hb, hx2⟩
  have HX2 := Lib.hid (HX1.out.trans hx2)
  clear hx2 HX1
  cases b with
  | false =>
    go_wp2_with fail
    go_ret
    exact ⟨rfl, HX2.out⟩
  | true =>
    obtain ⟨hL, _, hjn⟩ := hb rfl
    have S : Hid (PS W A c ps) := ⟨HP.out, HO.out, hL.few (by omega), hl, hc, HA.out⟩
    have hlen := hL.len
    clear hb hL HP HO HK HA
    by_cases T : Tree (nds ps)
    · have hpos := T.pos
      rw [nds_length] at hpos
      have HT := Lib.hid T
      clear T
      go_wp2_with fail
      refine (rcheck_ok (S.out.ext HX2.out) HT.out).mono ?_
      rintro e w3 ⟨rfl, hx3⟩
      have HX3 := Lib.hid (HX2.out.trans hx3)
      clear hx3 HX2
      go_wp2_with fail
      refine (pick_any n0 (ps.length : Int) w3 (by omega) hn0).mono ?_
      rintro e w3' ⟨rfl, rfl⟩
      have hpb := pickF_bd n0 (ps.length : Int) (by omega)
      obtain ⟨j, hj⟩ : ∃ j : Nat, pickF n0 (ps.length : Int) = (j : Int) := ⟨(pickF n0 (ps.length : Int)).toNat, by omega⟩
      rw [hj] at hpb
      have hjlt : j < ps.length := by omega
      rw [hj]
      clear hj hpb
      obtain ⟨m, hm⟩ := HT.out.part (i := j) (by rw [nds_length]; exact hjlt)
      have hme := hm.le
      have hmk := hm.lt_end
      rw [nds_length] at hme
      have HM := Lib.hid hm
      clear hm
      go_wp2_with fail
      refine (rsub_yes j m (S.out.ext HX3.out) HT.out HM.out).mono ?_
      rintro e w4 ⟨A4, c4, ss, rfl, hn4, ho4, hx4⟩
      have hsl : ss.length = m - j := by rw [← nds_length, hn4, len_sub HM.out.le]
      have HX4 := Lib.hid (HX3.out.trans hx4)
      have TS : Hid (Tree (nds ss)) := Lib.hid (by rw [hn4]; exact HT.out.sub HM.out)
      have SS : Hid (PS w4 A4 c4 ss) := Lib.hid (ho4.ps (Few.of_tree TS.out (by omega)))
      have HN4 := Lib.hid hn4
      have HSL := Lib.hid hsl
      clear hn4 ho4 hx4 hsl
      have CB := Lib.hid (rbare_yes A4 c4 ss w4 SS.out TS.out)
      go_wp2_with fail
      refine CB.out.mono ?_
      rintro e w5 ⟨A5, c5, rs, rfl, hn5, ho5, hx5⟩
      have HX5 := Lib.hid (HX4.out.trans hx5)
      have hrl : rs.length = ss.length := by rw [← nds_length, hn5, List.length_map, nds_length]
      have HN5 : Hid (nds rs = (subF (nds ps) j m).map Nd.unmet) := Lib.hid (by rw [hn5, HN4.out])
      have TR : Hid (Tree (nds rs)) := Lib.hid (by rw [HN5.out]; exact (HT.out.sub HM.out).unmet)
      have SR : Hid (PS w5 A5 c5 rs) := Lib.hid (ho5.ps (Few.of_tree TR.out (by rw [hrl, HSL.out]; omega)))
      have FT : Hid (FitsT (nds ps) (nds rs) (j : Int)) := Lib.hid (by rw [HN5.out]; exact fits_own HT.out HM.out)
      clear CB hn5 ho5 hx5 hrl
      go_wp2_with fail
      refine (splice_yes (j : Int) J cj js (S.out.ext HX5.out) SR.out FT.out (HJ.out.ext HX5.out) (by omega) hjl).mono ?_
      rintro e w6 ⟨k, m', us, u, fs, A6, c6, qs, D, d, hjk, hp', hus, hu, hfl, rfl, hn6, ho6, hi6, hx6⟩
      obtain rfl : j = k := by omega
      obtain rfl : m' = m := HM.out.det hp'
      have HX6 := Lib.hid (HX5.out.trans hx6)
      have HU : Hid (nds qs = orAt (putF (nds ps) j m' (nds rs)) u ((doneL js fs).foldl clr (bitsF (((nds ps).drop j).take (m' - j))))) := Lib.hid (by rw [hn6, leftL_fold])
      have UQ : Hid ((nds qs).map Nd.unmet = (nds ps).map Nd.unmet) := Lib.hid (by rw [hn6, HN5.out, splice_shape HM.out])
      have TQ : Hid (Tree (nds qs)) := Lib.hid (HT.out.of_unmet UQ.out)
      have hql : qs.length = ps.length := by have := congrArg List.length UQ.out; simpa [nds_length] using this
      have SQ : Hid (PS w6 A6 c6 qs) := Lib.hid (ho6.ps (Few.of_tree TQ.out (by rw [hql]; omega)))
      have HDS := Lib.hid hfl.slots
      have HUS := Lib.hid hus
      have HUU := Lib.hid hu
      have hdl : (doneL js fs).length ≤ 40 := Nat.le_trans (doneL_length js fs) hjn
      obtain ⟨ds, hds⟩ : ∃ ds, doneL js fs = ds := ⟨_, rfl⟩
      rw [hds] at HU HDS hdl hi6 ⊢
      have HI := Lib.hid hi6
      have HQL := Lib.hid hql
      rw [hql]
      clear hjk hp' hus hu hfl hn6 ho6 hi6 hx6 hds hql
      have CK := rcheck_ok SQ.out TQ.out
      rw [HQL.out] at CK
      have HCK := Lib.hid CK
      clear CK
      go_wp2_with fail
      refine HCK.out.mono ?_
      rintro e w7 ⟨rfl, hx7⟩
      have X7 := Lib.hid hx7
      clear hx7 HCK
      have CB := rbare_yes A6 c6 qs w7 (SQ.out.ext X7.out) TQ.out
      rw [HQL.out] at CB
      have HCB := Lib.hid CB
      clear CB
      go_wp2_with fail
      refine HCB.out.mono ?_
      rintro e w8 ⟨A8, c8, xs, rfl, hnx, hox, hx8⟩
      have hxl : xs.length = ps.length := by rw [← nds_length, hnx, List.length_map, nds_length, HQL.out]
      rw [hxl]
      have X8 := Lib.hid (X7.out.trans hx8)
      have HNX : Hid (nds xs = (nds ps).map Nd.unmet) := Lib.hid (by rw [hnx, UQ.out])
      have HOX := Lib.hid hox
      have HXL := Lib.hid hxl
      clear hnx hox hx8 hxl HCB
      go_wp2_with fail
      refine (rbare_yes A c ps w8 (S.out.ext (HX6.out.trans X8.out)) HT.out).mono ?_
      rintro e w9 ⟨A9, c9, vs, rfl, hnv, hov, hx9⟩
      have hvl : vs.length = ps.length := by rw [← nds_length, hnv, List.length_map, nds_length]
      rw [hvl]
      have X9 := Lib.hid (X8.out.trans hx9)
      have O1 := HOX.out.ext hx9
      have CS := rsame_any A8 A9 xs vs c8 c9 w9 O1.cells.1 O1.oks hov.cells.1 hov.oks (by rw [HXL.out]; omega) (by rw [hvl]; omega)
      rw [HXL.out, hvl, HNX.out, hnv, decide_eq_true rfl] at CS
      have HCS := Lib.hid CS
      clear O1 CS hnv hov hx9 hvl
      go_wp2_with fail
      refine HCS.out.mono ?_
      rintro e w10 ⟨rfl, hx10⟩
      have X10 := Lib.hid (X9.out.trans hx10)
      clear hx10 HCS
      go_wp2_with fail
      refine (Bits_yes (S.out.ext (HX6.out.trans X10.out)) HT.out).mono ?_
      rintro e w11 ⟨rfl, hx11⟩
      have X11 := Lib.hid (X10.out.trans hx11)
      obtain ⟨BL, hBL⟩ : ∃ x, bitsF (nds ps) = x := ⟨_, rfl⟩
      rw [hBL]
      have HBL := Lib.hid hBL
      clear hx11 hBL
      go_wp2_with fail
      go_loopw [11, 12] (fun v i wr => ∃ (n : Nat) (L : Int), n ≤ ds.length ∧ i = .int .i64 n ∧ v = .int .u64 L ∧ Hid (L = (ds.take n).foldl clr BL) ∧ Hid (Ext w6 wr)) (fun _ i _ => ds.length - (intOf i).toNat)
      case atStart => exact ⟨0, BL, Nat.zero_le _, rfl, rfl, Lib.hid rfl, X11⟩
      case round =>
        obtain ⟨n, L, hn, rfl, rfl, hLd, hx⟩ := hrel
        by_cases hlt : n < ds.length
        · obtain ⟨s, hs⟩ : ∃ s, ds[n]? = some s := ⟨_, List.getElem?_eq_getElem hlt⟩
          obtain ⟨bD, oD, rfl, hbD, hcD⟩ := (HI.out.ext hx.out).ints.1 (by omega)
          have e1 := hcD n hlt
          rw [List.getD_eq_getElem?_getD, hs] at e1
          dsimp only [Option.getD_some] at e1
          obtain ⟨hs0, hs1⟩ := HDS.out s (List.mem_of_getElem? hs)
          have oc1 := HI.out.ints.2.1
          have oc2 := HI.out.ints.2.2.1
          unfold maxLen at oc2
          have HLN : Hid ((ds.take (n + 1)).foldl clr BL = bits .andNot .u64 L (IntKind.u64.wrap (2 ^ s.toNat))) := Lib.hid (by
            obtain ⟨h1, h2⟩ := List.getElem?_eq_some_iff.1 hs
            rw [List.take_succ_eq_append_getElem h1, h2, List.foldl_append, ← hLd.out]
            rfl)
          clear hs hcD
          go_wp2_with fail
          go_roundw
          case rel => exact ⟨n + 1, _, by omega, by go_num, rfl, Lib.hid HLN.out.symm, hx⟩
          case measure => simp [intOf]; omega
        · obtain rfl : n = ds.length := by omega
          rw [List.take_length] at hLd
          have HLD := Lib.hid hLd.out
          have CQ := Lib.hid (fun (V : World) (x : Ext w6 V) => Bits_yes (SQ.out.ext x) TQ.out)
          rw [HQL.out] at CQ
          by_cases hj0 : j = 0
          · have hmm : m' = ps.length := by
              have := HM.out.trek
              rw [hj0] at this
              have h2 := (HT.out.trek.det this).2
              rw [h2, nds_length]
            have hu0 : u = -1 := by
              have h1 := HUU.out
              rw [hj0, HUS.out.2.1] at h1
              exact (Option.some.inj h1).symm
            have HB0 : Hid (bitsF (nds qs) = 0) := Lib.hid (by
              rw [HU.out, hu0, hj0, hmm, ← nds_length]
              exact bits_first (by rw [HN5.out]; exact unmet_none _))
            rw [HB0.out] at CQ
            clear hmm hu0 hLd
            go_wp2_with fail
            refine (CQ.out _ hx.out).mono ?_
            rintro e w12 ⟨rfl, hx12⟩
            have X12 := Lib.hid (HX6.out.trans (hx.out.trans hx12))
            clear hx12
            go_wp2_with fail
            go_ret
            exact ⟨rfl, X12.out⟩
          · obtain ⟨j', hup, hj'⟩ := HT.out.up' (i := j) (by omega) (by rw [nds_length]; exact hjlt)
            have huj : u = (j' : Int) := by
              have := HUS.out.2.2 j j' hup
              rw [HUU.out] at this
              exact Option.some.inj this
            obtain ⟨O, hO⟩ : ∃ x, bitsF (nds qs) = x := ⟨_, rfl⟩
            have HLAW : Hid (bits .or .u64 O (bits .xor .u64 IntKind.u64.max L) = 18446744073709551615 ∧ bits .andNot .u64 O BL = 0) := Lib.hid (by
              have h1 := HU.out
              rw [huj] at h1
              refine bits_law (l := nds ps) (s := nds rs) (k := j) (m := m') (j := j') (ns := ds) ?_ ?_ (by omega) (by rw [nds_length]; omega) (by omega) HDS.out ?_ HBL.out HLD.out
              · intro p hp
                obtain ⟨i, hi⟩ := List.getElem?_of_mem hp
                obtain ⟨q, hq, rfl⟩ := nds_get' hi
                exact (S.out.oks.get hq).met
              · rw [HN5.out]; exact unmet_none _
              · rw [← h1]; exact hO)
            rw [hO] at CQ
            obtain ⟨hq1, hq2⟩ := HLAW.out
            clear hup hj' huj hO hLd
            go_wp2_with fail
            refine (CQ.out _ hx.out).mono ?_
            rintro e w12 ⟨rfl, hx12⟩
            have X12 := Lib.hid (hx.out.trans hx12)
            clear hx12
            go_wp2_with fail
            refine (CQ.out _ X12.out).mono ?_
            rintro e w13 ⟨rfl, hx13⟩
            have X13 := Lib.hid (X12.out.trans hx13)
            clear hx13
            go_wp2_with fail
            refine (Bits_yes (S.out.ext (HX6.out.trans X13.out)) HT.out).mono ?_
            rintro e w14 ⟨rfl, hx14⟩
            have X14 := Lib.hid (HX6.out.trans (X13.out.trans hx14))
            rw [HBL.out]
            clear hx14
            go_wp2_with fail
            go_ret
            exact ⟨rfl, X14.out⟩
    · go_wp2_with fail
      refine (rcheck_no (S.out.ext HX2.out) T).mono ?_
      rintro e w3 ⟨rfl, hx3⟩
      have HX3 := Lib.hid (HX2.out.trans hx3)
      clear hx3 T
      go_wp2_with fail
      go_ret
      exact ⟨rfl, HX3.out⟩
end Go.Proofs.Ytaffaeompdlecaa
