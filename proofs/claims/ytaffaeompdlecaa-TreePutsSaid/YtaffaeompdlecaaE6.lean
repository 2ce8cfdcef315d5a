/- TreePuts: the walk. -/
import Derived.Test.YtaffaeompdlecaaB5
import Derived.Test.YtaffaeompdlecaaB8
import Derived.Test.YtaffaeompdlecaaTk
import Derived.Test.YtaffaeompdlecaaE5
import Derived.WalkSpells
import Derived.WalkLawsBesides
import Derived.BigRegion
import Derived.Deep.RegionWith
import Derived.Deep.QuietTactic
import Derived.Deep.DeepCutAuto
import Derived.Deep.RegionHeld3
import Derived.Deep.RegionLaw
import Derived.BigQuiet
import Derived.Lib.Hide
namespace Go.Proofs.Ytaffaeompdlecaa
open Go.RowKit
attribute [local go_sem] more_drew more_drewN more_size more_cell more_frozen more_setCell drew_more drewN_more lt_add_r lt_add_r2 lt_add_r3 lt_add_r4 lt_add_r5 lt_add_r6 lt_add_r7 lt_add_r8 lt_add_r9 lt_add_r10 lt_self_r lt_self_r2

set_option maxRecDepth 100000 in
set_option maxHeartbeats 8000000 in
theorem puts_any (A : Option Addr) (c : Nat) (ps : List Prt) (i0 met : Int) (W : World) (hP : Prts W A ps) (hO : PrtsOk W ps) (hl : ps.length ≤ c) (hc : c ≤ 9223372036854775807) (hA : A = none → c = 0) (hk : KidsLt ps) (hi0 : I64 i0) (hm : 0 ≤ met ∧ met ≤ 18446744073709551615) :
    Calls Try.prog 4 #[.slice A ps.length c, .int .i64 i0, .int .u64 met] W fun e w' => e = .returned (.bool true) ∧ Ext W w' := by
  have HP := Lib.hid hP
  have HO := Lib.hid hO
  have HK := Lib.hid hk
  have HA := Lib.hid hA
  have HM := Lib.hid hm
  unfold I64 at hi0
  clear hP hO hk hA hm
  go_enter Try.func4, Try.ntmps4
  go_wp2_with fail
  refine (lives16_any W).mono ?_
  rintro e w1 ⟨rfl, hx1⟩
  have HX1 := Lib.hid hx1
  clear hx1
  go_wp2_with fail
  refine (light16_any A none c 0 ps [] 0 0 0 w1 (HP.out.ext HX1.out) (by omega) HK.out Prts.nil (by decide) (fun p hp => by cases hp)).mono ?_
  rintro e w2 ⟨b, rfl, hb, hx2⟩
  have HX2 := Lib.hid (HX1.out.trans hx2)
  clear hx2 HX1
  cases b with
  | false =>
    go_wp2_with fail
    go_ret
    exact ⟨rfl, HX2.out⟩
  | true =>
    have hL := (hb rfl).1
    have S : Hid (PS W A c ps) := ⟨HP.out, HO.out, hL.few (by omega), hl, hc, HA.out⟩
    have hlen := hL.len
    clear hb hL HP HO HK HA
    by_cases T : Tree (nds ps)
    · have hpos := T.pos
      rw [nds_length] at hpos
      have HT := Lib.hid T
      clear T
      go_wp2_with fail
      refine (check_ok (S.out.ext HX2.out) HT.out).mono ?_
      rintro e w3 ⟨rfl, hx3⟩
      have HX3 := Lib.hid (HX2.out.trans hx3)
      clear hx3 HX2
      have hp0 : ((ps.length : Int) == 0) = false := by rw [beq_eq_false_iff_ne]; omega
      go_wp2_with fail
      refine (pick_any i0 (ps.length : Int) w3 (by omega) hi0).mono ?_
      rintro e w3' ⟨rfl, rfl⟩
      have hpb := pickF_bd i0 (ps.length : Int) (by omega)
      obtain ⟨j, hj⟩ : ∃ j : Nat, pickF i0 (ps.length : Int) = (j : Int) := ⟨(pickF i0 (ps.length : Int)).toNat, by omega⟩
      rw [hj] at hpb
      have hjl : j < ps.length := by omega
      rw [hj]
      clear hj hpb
      obtain ⟨m, hpm⟩ := HT.out.part (i := j) (by rw [nds_length]; exact hjl)
      obtain ⟨o, ho⟩ := HT.out.puts hpm met
      have HPM := Lib.hid hpm
      have HU := Lib.hid ho
      have hjm := hpm.lt_end
      have hml := hpm.le
      rw [nds_length] at hml
      have TS := Lib.hid (HT.out.sub hpm)
      have LS : Hid ((subF (nds ps) j m).length = m - j) := Lib.hid (len_sub hpm.le)
      clear hpm ho
      go_wp2_with fail
      refine (Sub_yes j m (S.out.ext HX3.out) HT.out HPM.out).mono ?_
      rintro e w4 ⟨A1, c1, ss, rfl, hn4, ho4, hx4⟩
      have HX4 := Lib.hid (HX3.out.trans hx4)
      have hsl : ss.length = m - j := by rw [← nds_length, hn4]; exact LS.out
      have S1 : Hid (PS w4 A1 c1 ss) := Lib.hid (ho4.ps (Few.of_tree' hn4 TS.out (by rw [LS.out]; omega)))
      have O1 := Lib.hid ho4
      have N1 := Lib.hid hn4
      have HSL := Lib.hid hsl
      clear hx4 hn4 ho4 HX3 hsl
      go_wp2_with fail
      refine (Put_ok j m (S.out.ext HX4.out) HT.out S1.out (N1.out ▸ TS.out) (N1.out ▸ fits_sub HPM.out) HPM.out).mono ?_
      rintro e w5 ⟨A2, c2, qs, rfl, hn5, ho5, hx5⟩
      have HX5 := Lib.hid (HX4.out.trans hx5)
      have N2 : Hid (nds qs = nds ps) := Lib.hid (by rw [hn5, N1.out]; exact put_sub HPM.out)
      have S2 : Hid (PS w5 A2 c2 qs) := Lib.hid (ho5.ps (Few.of_tree' N2.out HT.out (by rw [nds_length]; omega)))
      have S15 : Hid (PS w5 A1 c1 ss) := Lib.hid (S1.out.ext hx5)
      have O15 := Lib.hid (O1.out.ext hx5)
      clear hx5 hn5 ho5 O1 S1
      have z0 : ((ss.length : Int) == 0) = false := by rw [beq_eq_false_iff_ne, HSL.out]; omega
      have z1 : ((ss.length : Int) == (m : Int) - (j : Int)) = true := by rw [beq_iff_eq, HSL.out]; omega
      have z2 : 1 ≤ ss.length := by rw [HSL.out]; omega
      have z3 := S15.out.cap
      have z4 := S15.out.top
      go_wp2_with fail
      refine (End_yes j m (S.out.ext HX5.out) HT.out HPM.out).mono ?_
      rintro e w6 ⟨rfl, hx6⟩
      have HX6 := Lib.hid (HX5.out.trans hx6)
      have S16 : Hid (PS w6 A1 c1 ss) := Lib.hid (S15.out.ext hx6)
      have S26 : Hid (PS w6 A2 c2 qs) := Lib.hid (S2.out.ext hx6)
      have O16 := Lib.hid (O15.out.ext hx6)
      clear hx6 S15 O15 S2
      go_wp2_with fail
      all_goals first
        | (exfalso; have := HSL.out; omega)
        | skip
      refine (sameT_any A2 A qs ps c2 c w6 S26.out.parts S26.out.oks (S.out.ext HX6.out).parts (S.out.ext HX6.out).oks (by have := S26.out.few.len; omega) (by omega)).mono ?_
      rw [N2.out, decide_eq_true (show nds ps = nds ps from rfl)]
      rintro e w7 ⟨rfl, hx7⟩
      have HX7 := Lib.hid (HX6.out.trans hx7)
      have S17 : Hid (PS w7 A1 c1 ss) := Lib.hid (S16.out.ext hx7)
      have O17 := Lib.hid (O16.out.ext hx7)
      clear hx7 S16 O16 S26
      go_wp2_with fail
      have P1 : Prts w7 A1 (ss.take 1) := by
        have := S17.out.parts
        intro h0
        obtain ⟨b, off, h1, h2, h3⟩ := this (by omega)
        refine ⟨b, off, h1, h2, fun k p hk => h3 k p ?_⟩
        rw [List.getElem?_take] at hk
        split at hk
        · exact hk
        · cases hk
      have t1 : (ss.take 1).length = 1 := by rw [List.length_take]; omega
      have CO := ownParts A1 c1 (ss.take 1) w7 P1 (fun p hp => S17.out.oks p (List.mem_of_mem_take hp)) ⟨by rw [t1]; decide, fun i => by rw [nds_take]; exact Nat.le_trans (by have := kc_slice (nds ss) 0 1 i; rwa [List.drop_zero] at this) (S17.out.few.kids _)⟩ (by omega) S17.out.none
      rw [t1] at CO
      have HCO := Lib.hid CO
      clear CO P1 t1
      refine HCO.out.mono ?_
      rintro e w8 ⟨A3, c3, os, rfl, hn8, ho8, hx8⟩
      have hs0 : nds os = [o] := by
        rw [hn8, nds_take, N1.out]
        have := HU.out.sub0
        cases hsub : subF (nds ps) j m with
        | nil => rw [hsub] at this; cases this
        | cons a l => rw [hsub] at this; simp at this; subst this; rfl
      have hol : os.length = 1 := by rw [← nds_length, hs0]; rfl
      obtain ⟨q0, rfl⟩ := List.length_eq_one_iff.1 hol
      have hq0 : q0.nd = o := by injection hs0
      obtain ⟨g, rfl, hg1, hg2⟩ := row_block ho8.row (Nat.succ_pos _)
      obtain ⟨_, _, he, hb, hcell⟩ := ho8.cells.1 (Nat.succ_pos _)
      injection he with he
      injection he with he1 he2
      subst he1 he2
      obtain ⟨_, _, _, _, _, _, d6, d7⟩ := hcell 0 q0 rfl
      simp only [Nat.zero_mul, Nat.zero_add] at d6 d7
      have f6 := World.ownsRow.frozenAt ho8.row 6
      have f7 := World.ownsRow.frozenAt ho8.row 7
      have z5 := ho8.cells.2.1
      obtain ⟨wx, hwx⟩ : ∃ wx, (w8.setCell ⟨g, 7, none⟩ (.int .u64 met)).setCell ⟨g, 6, none⟩ (.slice none 0 0) = wx := ⟨_, rfl⟩
      have X7x : Hid (Ext w7 wx) := Lib.hid (by rw [← hwx]; exact (hx8.setCell hg1 _).setCell hg1 _)
      have O8 : Hid (OwnP wx w7.heap.size (some ⟨g, 0, none⟩) c3 [⟨o.lone met, none, 0⟩]) := Lib.hid (by
        subst hq0
        have r1 := row_store (i := 0) (r := 7) (q' := ⟨{ q0.nd with met := met }, q0.kA, q0.kc⟩) (u := .int .u64 met) ho8.row rfl (by omega) rfl
        have r2 := row_store (i := 0) (r := 6) (q' := ⟨q0.nd.lone met, none, 0⟩) (u := .slice none 0 0) r1 rfl (by omega) rfl
        have f := ho8.fine q0 (List.mem_singleton.2 rfl)
        refine ⟨by rw [← hwx]; exact r2, fun q hq => ?_, fun q hq => ?_⟩
        · rw [List.mem_singleton.1 hq]
          exact World.ownsRow_nil _ _ _ _
        · rw [List.mem_singleton.1 hq]
          exact ⟨f.sym, f.kind, f.lo, f.inn, f.hi, f.look, HM.out, fun k hk => by cases hk⟩)
      have HX8 : Hid (Ext W wx) := Lib.hid (HX7.out.trans X7x.out)
      have S18 : Hid (PS wx A1 c1 ss) := Lib.hid (S17.out.ext X7x.out)
      have S3 : Hid (PS wx (some ⟨g, 0, none⟩) c3 [⟨o.lone met, none, 0⟩]) := Lib.hid (O8.out.ps (Few.of_tree HU.out.tree1 (Nat.le_of_ble_eq_true rfl)))
      have HWX := Lib.hid hwx
      clear hcell hx8 hn8 ho8 hs0 hol HCO S17 hq0 hg1 hwx
      go_wp2_with fail
      rw [HWX.out]
      clear d6 d7 f6 f7 HWX hb hg2
      refine (Put_ok j m (S.out.ext HX8.out) HT.out S3.out HU.out.tree1 HU.out.fit1 HPM.out).mono ?_
      rintro e w9 ⟨A4, c4, us, rfl, hn9, ho9, hx9⟩
      have HX9 := Lib.hid (HX8.out.trans hx9)
      have N4 := Lib.hid hn9
      have hul : us.length = j + 1 + (ps.length - m) := by
        have := HU.out.len
        rw [nds_length] at this
        rw [← nds_length, hn9]
        exact this
      have TU : Hid (Tree (nds us)) := Lib.hid (by rw [hn9]; exact HU.out.out)
      have S4 : Hid (PS w9 A4 c4 us) := Lib.hid (ho9.ps (Few.of_tree TU.out (by omega)))
      have S19 := Lib.hid (S18.out.ext hx9)
      have S39 := Lib.hid (S3.out.ext hx9)
      have HUL := Lib.hid hul
      clear hn9 ho9 hx9 S18 S3 O8 hul
      go_wp2_with fail
      all_goals first
        | (exfalso; have := HSL.out; have := HUL.out; omega)
        | skip
      refine (check_ok S4.out TU.out).mono ?_
      rintro e w10 ⟨rfl, hx10⟩
      have HX10 := Lib.hid (HX9.out.trans hx10)
      have S410 := Lib.hid (S4.out.ext hx10)
      have S110 := Lib.hid (S19.out.ext hx10)
      have S310 := Lib.hid (S39.out.ext hx10)
      clear hx10 S4 S19 S39
      go_wp2_with fail
      refine (Sub_yes j (j + 1) S410.out TU.out (N4.out ▸ HU.out.part)).mono ?_
      rintro e w11 ⟨A5, c5, vs, rfl, hn11, ho11, hx11⟩
      have HX11 := Lib.hid (HX10.out.trans hx11)
      have N5 : Hid (nds vs = [o.lone met]) := Lib.hid (by rw [hn11, N4.out]; exact HU.out.same)
      have O5 := Lib.hid ho11
      have hvl : vs.length = 1 := by rw [← nds_length, N5.out]; rfl
      have HVL := Lib.hid hvl
      have S411 := Lib.hid (S410.out.ext hx11)
      have S111 := Lib.hid (S110.out.ext hx11)
      have S311 := Lib.hid (S310.out.ext hx11)
      clear hn11 ho11 hx11 S410 S110 S310 hvl
      go_wp2_with fail
      refine (sameT_any A5 (some ⟨g, 0, none⟩) vs [⟨o.lone met, none, 0⟩] c5 c3 w11 O5.out.cells.1 O5.out.oks S311.out.parts S311.out.oks (by rw [HVL.out]; decide) (Nat.le_of_ble_eq_true rfl)).mono ?_
      rw [N5.out, decide_eq_true (show [o.lone met] = nds [⟨o.lone met, none, 0⟩] from rfl)]
      rintro e w12 ⟨rfl, hx12⟩
      have HX12 := Lib.hid (HX11.out.trans hx12)
      have S412 := Lib.hid (S411.out.ext hx12)
      have S112 := Lib.hid (S111.out.ext hx12)
      clear hx12 S411 S111 S311 O5
      go_wp2_with fail
      refine (Put_ok j (j + 1) S412.out TU.out S112.out (N1.out ▸ TS.out) (by rw [N1.out, N4.out]; exact HU.out.fit2) (N4.out ▸ HU.out.part)).mono ?_
      rintro e w13 ⟨A6, c6, rs, rfl, hn13, ho13, hx13⟩
      have HX13 := Lib.hid (HX12.out.trans hx13)
      have N6 : Hid (nds rs = nds ps) := Lib.hid (by rw [hn13, N1.out, N4.out]; exact HU.out.back)
      have O6 := Lib.hid ho13
      have hrl : rs.length = ps.length := by rw [← nds_length, N6.out, nds_length]
      have HRL := Lib.hid hrl
      clear hn13 ho13 hx13 hrl S412 S112
      go_wp2_with fail
      refine (sameT_any A6 A rs ps c6 c w13 O6.out.cells.1 O6.out.oks (S.out.ext HX13.out).parts (S.out.ext HX13.out).oks (by rw [HRL.out]; omega) (by omega)).mono ?_
      rw [N6.out, decide_eq_true (show nds ps = nds ps from rfl)]
      rintro e w14 ⟨rfl, hx14⟩
      have HX14 := Lib.hid (HX13.out.trans hx14)
      clear hx14
      go_wp2_with fail
      go_ret
      exact ⟨rfl, HX14.out⟩
    · have HT := Lib.hid T
      clear T
      go_wp2_with fail
      refine (check_no (S.out.ext HX2.out) HT.out).mono ?_
      rintro e w3 ⟨rfl, hx3⟩
      have HX3 := Lib.hid (HX2.out.trans hx3)
      clear hx3
      go_wp2_with fail
      go_ret
      exact ⟨rfl, HX3.out⟩
end Go.Proofs.Ytaffaeompdlecaa
