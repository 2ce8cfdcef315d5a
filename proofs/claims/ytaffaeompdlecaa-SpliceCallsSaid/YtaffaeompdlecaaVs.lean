/- SpliceCalls: the walk. -/
import Derived.Test.YtaffaeompdlecaaVc
import Derived.Test.YtaffaeompdlecaaVa
import Derived.Test.YtaffaeompdlecaaV6
import Derived.Test.YtaffaeompdlecaaE3
import Derived.WalkSpells
import Derived.WalkLawsBesides
import Derived.BigRegion
import Derived.Deep.RegionWith
import Derived.Deep.QuietTactic
import Derived.Deep.DeepCutAuto
import Derived.Deep.RegionHeld3
import Derived.Deep.RegionLaw
import Derived.BigQuiet
import Derived.Lib.Hide
namespace Go.Proofs.Ytaffaeompdlecaa
open Go.RowKit
attribute [local go_sem] more_drew more_drewN more_size more_cell more_frozen more_setCell drew_more drewN_more lt_add_r lt_add_r2 lt_add_r3 lt_add_r4 lt_add_r5 lt_add_r6 lt_add_r7 lt_add_r8 lt_add_r9 lt_add_r10 lt_self_r lt_self_r2

/-- what is told of trees that are spliced: an errno, parts, slots -/
def SpliceV (l s : List Nd) (i : Int) (js : List Dty) (x : Int) (out : List Nd) (dn : List Int) : Prop :=
  (¬ FitsT l s i ∧ x = 2 ∧ out = [] ∧ dn = []) ∨
  (FitsT l s i ∧ x = 0 ∧ ∃ (k m : Nat) (us : List Int) (u : Int) (fs : List Bool), i = (k : Int) ∧ Part l k m ∧ ParOk l us ∧ us[k]? = some u ∧ FlagsOk l i js fs ∧ out = orAt (putF l k m s) u (leftL js fs (bitsF ((l.drop k).take (m - k)))) ∧ dn = doneL js fs)
theorem SpliceV.det {l s : List Nd} {i : Int} {js : List Dty} {x x' : Int} {o o' : List Nd} {d d' : List Int} (h : SpliceV l s i js x o d) (h' : SpliceV l s i js x' o' d') : x' = x ∧ o' = o ∧ d' = d := by
  rcases h with ⟨n1, rfl, rfl, rfl⟩ | ⟨f1, rfl, k, m, us, u, fs, rfl, hp, hu, hk, hf, rfl, rfl⟩ <;> rcases h' with ⟨n2, rfl, rfl, rfl⟩ | ⟨f2, rfl, k', m', us', u', fs', e, hp', hu', hk', hf', rfl, rfl⟩
  · exact ⟨rfl, rfl, rfl⟩
  · exact absurd f2 n1
  · exact absurd f1 n2
  · obtain rfl : k' = k := by omega
    obtain rfl := hp.det hp'
    obtain rfl := ParOk.one f1.1 hu hu'
    rw [hk] at hk'
    obtain rfl := Option.some.inj hk'
    obtain rfl := hf.one hf'
    exact ⟨rfl, rfl, rfl⟩
/-- such a result lies in memory -/
def SpliceRow (w : World) (l s : List Nd) (i : Int) (js : List Dty) (e : Ending) (w' : World) : Prop :=
  ∃ A c qs D d dn x, e = .returned (.tuple #[.slice A (qs : List Prt).length c, .slice D (dn : List Int).length d, .int .i64 x]) ∧ PS w' A c qs ∧ Ints w' D dn ∧ dn.length ≤ 1000 ∧ SpliceV l s i js x (nds qs) dn ∧ Ext w w'
theorem splice_tree {l s : List Nd} {k m : Nat} (hf : FitsT l s (k : Int)) (hp : Part l k m) (u b : Int) : Tree (orAt (putF l k m s) u b) := by
  obtain ⟨T, T2, j, p, q, e, hpj, hq, h1, h2, h3, h4⟩ := hf
  obtain rfl : k = j := by omega
  exact (T.put hp T2 hpj hq h2.symm h3.symm h4.symm).of_unmet (unmet_orAt _ _ _)
theorem orAt_length (l : List Nd) (u b : Int) : (orAt l u b).length = l.length := by
  unfold orAt
  split
  · exact List.length_modify ..
  · rfl
theorem splice_row {w w' : World} {l s : List Nd} {i : Int} {js : List Dty} {e : Ending} (hf : FitsT l s i) (hl : l.length ≤ 200) (hs : s.length ≤ 200) (hj : js.length ≤ 1000) (h : SpliceRet w l s i js e w') : SpliceRow w l s i js e w' := by
  obtain ⟨k, m, us, u, fs, A, c, qs, D, d, rfl, hp, hus, hu, hfl, rfl, hn, ho, hi, hx⟩ := h
  have hme := hp.le
  have hmk := hp.lt_end
  have hT : Tree (nds qs) := by rw [hn]; exact splice_tree hf hp _ _
  have hql : qs.length ≤ 1000 := by
    rw [← nds_length, hn, orAt_length, len_put (by omega) hme]
    omega
  exact ⟨A, c, qs, D, d, doneL js fs, 0, rfl, ho.ps (Few.of_tree hT hql), hi.ints.1, Nat.le_trans (doneL_length js fs) hj, .inr ⟨hf, rfl, k, m, us, u, fs, rfl, hp, hus, hu, hfl, hn, rfl⟩, hx⟩
theorem splice_row_no {w w' : World} {l s : List Nd} {i : Int} {js : List Dty} {e : Ending} (hf : ¬ FitsT l s i) (he : e = .returned (.tuple #[.slice none 0 0, .slice none 0 0, .int .i64 2])) (hx : Ext w w') : SpliceRow w l s i js e w' :=
  ⟨none, 0, [], none, 0, [], 2, he, ⟨Prts.nil, fun p hp => (by cases hp), ⟨by decide, fun j => by unfold kc; simp [nds]⟩, Nat.le_refl _, by omega, fun _ => rfl⟩, Ints.nil, by decide, .inl ⟨hf, rfl, rfl, rfl⟩, hx⟩
section
variable {A B : Option Addr} {c d : Nat} {ps ss : List Prt} {w : World}
theorem splice_any (i : Int) (J : Option Addr) (cj : Nat) (js : List Dty) (h : PS w A c ps) (hs : PS w B d ss) (hl : ps.length ≤ 200) (hl2 : ss.length ≤ 200) (hj : JobsAt w J js) (hjl : js.length ≤ 1000) (hjc : js.length ≤ cj) :
    Calls Try.prog 73 #[.slice A ps.length c, .int .i64 i, .slice B ss.length d, .slice J js.length cj] w (SpliceRow w (nds ps) (nds ss) i js) := by
  by_cases hf : FitsT (nds ps) (nds ss) i
  · exact (splice_yes i J cj js h hs hf hj hjl hjc).mono fun e w' hr => splice_row hf (by rw [nds_length]; exact hl) (by rw [nds_length]; exact hl2) hjl hr
  · exact (splice_no i _ h hs hf).mono fun e w' hr => splice_row_no hf hr.1 hr.2
theorem rsplice_any (i : Int) (J : Option Addr) (cj : Nat) (js : List Dty) (h : PS w A c ps) (hs : PS w B d ss) (hl : ps.length ≤ 200) (hl2 : ss.length ≤ 200) (hj : JobsAt w J js) (hjl : js.length ≤ 1000) (hjc : js.length ≤ cj) :
    Calls Try.prog 81 #[.slice A ps.length c, .int .i64 i, .slice B ss.length d, .slice J js.length cj] w (SpliceRow w (nds ps) (nds ss) i js) := by
  by_cases hf : FitsT (nds ps) (nds ss) i
  · exact (rsplice_yes i J cj js h hs hf hj hjl hjc).mono fun e w' hr => splice_row hf (by rw [nds_length]; exact hl) (by rw [nds_length]; exact hl2) hjl hr
  · exact (rsplice_no i _ h hs hf).mono fun e w' hr => splice_row_no hf hr.1 hr.2
theorem TellsB.both {X : Prop} {w1 w2 : World} {b : Bool} {e : Ending} {w' : World} (hb : b = true ↔ X) (h : TellsB w1 X e w') : e = .returned (.bool b) ∧ Ext w1 w' := by
  obtain ⟨b', rfl, hb', hx⟩ := h
  exact ⟨by rw [Bool.eq_iff_iff.2 (hb'.trans hb.symm)], hx⟩
end
set_option maxRecDepth 100000 in
set_option maxHeartbeats 4000000 in
theorem spliceCalls_any (A B : Option Addr) (c d : Nat) (ps ss : List Prt) (i : Int) (J : Option Addr) (cj : Nat) (js : List Dty) (n m : Int) (W : World) (hP : Prts W A ps) (hO : PrtsOk W ps) (hl : ps.length ≤ c) (hc : c ≤ 9223372036854775807) (hA : A = none → c = 0) (hk : KidsLt ps)
    (hQ : Prts W B ss) (hOq : PrtsOk W ss) (hlq : ss.length ≤ d) (hd : d ≤ 9223372036854775807) (hB : B = none → d = 0) (hkq : KidsLt ss) (hJ : JobsAt W J js) (hjl : js.length ≤ cj) (hjc : cj ≤ 9223372036854775807) :
    Calls Try.prog 19 #[.slice A ps.length c, .slice B ss.length d, .int .i64 i, .slice J js.length cj, .int .i64 n, .int .i64 m] W fun e w' => e = .returned (.bool true) ∧ Ext W w' := by
  have HP := Lib.hid hP
  have HO := Lib.hid hO
  have HK := Lib.hid hk
  have HA := Lib.hid hA
  have HQ := Lib.hid hQ
  have HOQ := Lib.hid hOq
  have HKQ := Lib.hid hkq
  have HB := Lib.hid hB
  have HJ := Lib.hid hJ
  clear hP hO hk hA hQ hOq hkq hB hJ
  go_enter Try.func19, Try.ntmps19
  go_wp2_with fail
  refine (lives20_any W).mono ?_
  rintro e w1 ⟨rfl, hx1⟩
  have HX1 := Lib.hid hx1
  clear hx1
  go_wp2_with fail
  refine (light20_any A B J c d cj js.length ps ss w1 (HP.out.ext HX1.out) (by omega) HK.out (HQ.out.ext HX1.out) (by omega) HKQ.out).mono ?_
  rintro e w2 ⟨b, rfl, hb, hx2⟩
  have HX2 := Lib.hid (HX1.out.trans hx2)
  clear hx2 HX1
  cases b with
  | false =>
    go_wp2_with fail
    go_ret
    exact ⟨rfl, HX2.out⟩
  | true =>
    obtain ⟨hL, hL2, hjn⟩ := hb rfl
    have S : Hid (PS W A c ps) := ⟨HP.out, HO.out, hL.few (by omega), hl, hc, HA.out⟩
    have SS : Hid (PS W B d ss) := ⟨HQ.out, HOQ.out, hL2.few (by omega), hlq, hd, HB.out⟩
    have hlen := hL.len
    have hlen2 := hL2.len
    clear hb hL hL2 HP HO HK HQ HOQ HKQ HB
    go_wp2_with fail
    refine (ownParts A c ps w2 (S.out.ext HX2.out).parts (S.out.ext HX2.out).oks S.out.few hl HA.out).mono ?_
    rintro e w3 ⟨A3, c3, qs, rfl, hn3, ho3, hx3⟩
    have HX3 := Lib.hid (HX2.out.trans hx3)
    have hql : qs.length = ps.length := by rw [← nds_length, hn3, nds_length]
    have P3 := ho3.ps (S.out.few.of_lens (by rw [hn3]))
    have CT := splice_any i J cj js P3 (SS.out.ext HX3.out) (by omega) (by omega) (HJ.out.ext HX3.out) (by omega) hjl
    rw [hn3] at CT
    have HCT := Lib.hid CT
    clear hn3 ho3 hx3 hql P3 CT
    go_wp2_with fail
    refine HCT.out.mono ?_
    rintro e w4 ⟨A4, c4, ts, D4, d4, dn4, x4, rfl, hp4, hi4, hd4, hv4, hx4⟩
    have HX4 := Lib.hid (HX3.out.trans hx4)
    have P4 := Lib.hid hp4
    have I4 := Lib.hid hi4
    have V4 := Lib.hid hv4
    clear hp4 hi4 hv4 hx4 HCT
    go_wp2_with fail
    refine (rsplice_any i J cj js (S.out.ext HX4.out) (SS.out.ext HX4.out) (by omega) (by omega) (HJ.out.ext HX4.out) (by omega) hjl).mono ?_
    rintro e w5 ⟨A5, c5, us, D5, d5, dn5, x5, rfl, hp5, hi5, hd5, hv5, hx5⟩
    obtain ⟨rfl, hus, rfl⟩ := V4.out.det hv5
    have HX5 := Lib.hid (HX4.out.trans hx5)
    have P5 := Lib.hid hp5
    have P45 := Lib.hid (P4.out.ext hx5)
    have I5 := Lib.hid hi5
    have I45 := Lib.hid (I4.out.ext hx5)
    have EQ := Lib.hid hus
    clear hp5 hi5 hv5 hx5 hus
    go_wp2_with fail
    go_loopw [19] (fun v wr => ∃ k : Nat, k ≤ js.length ∧ v = .int .i64 k ∧ Hid (Ext w5 wr)) (fun v _ => js.length - (intOf v).toNat)
    case atStart => exact ⟨0, Nat.zero_le _, rfl, Lib.hid (Ext.refl _)⟩
    case round =>
      obtain ⟨k, hk, rfl, hx⟩ := hrel
      by_cases hlt : k < js.length
      · obtain ⟨dd, hdd⟩ : ∃ d, js[k]? = some d := ⟨_, List.getElem?_eq_getElem hlt⟩
        have HXR := Lib.hid (HX5.out.trans hx.out)
        obtain ⟨b, off2, rfl, hb, hcell⟩ := (HJ.out.ext HXR.out) (by omega)
        obtain ⟨d0, d1, d2, d3, d4'⟩ := hcell k dd hdd
        obtain ⟨tv, htv⟩ : ∃ b : Bool, b = true ↔ DoneOk (nds ps) i dd := by
          by_cases h : DoneOk (nds ps) i dd
          · exact ⟨true, by simp [h]⟩
          · exact ⟨false, by simp [h]⟩
        have CA := fun (y : Lay) => (done_any i dd (S.out.ext (HXR.out.trans ⟨y.os, y.k, rfl⟩))).mono (R' := fun e w' => e = .returned (.bool tv) ∧ Ext (more wr y.os y.k) w') fun e w' h => TellsB.both (w2 := W) htv h
        have CB := fun (y : Lay) => (rdone_any i dd (S.out.ext (HXR.out.trans ⟨y.os, y.k, rfl⟩))).mono (R' := fun e w' => e = .returned (.bool tv) ∧ Ext (more wr y.os y.k) w') fun e w' h => TellsB.both (w2 := W) htv h
        unfold dyV at CA CB
        have HCA := Lib.hid CA
        have HCB := Lib.hid CB
        clear hcell hdd CA CB htv
        go_upto_region 10 with fail
        try simp only [List.append_eq, List.cons_append, List.nil_append]
        refine wp_region_ext (by kernel_rfl) (by kernel_rfl) ?_
        repeat (go_big_quiet_step ((first | (go_at_call 80; exact calls_ext (HCA.out _)) | (go_at_call 82; exact calls_ext (HCB.out _)))))
        refine wpQuiet_nil ?_
        intro _ hw'
        obtain ⟨x9, rfl⟩ := hw'
        have X9 : Hid (Ext w5 (more wr x9.os x9.k)) := Lib.hid (hx.out.trans ⟨_, _, rfl⟩)
        clear d0 d1 d2 d3 d4' hb
        go_wp2_with fail
        go_roundw
        case rel => exact ⟨k + 1, by omega, by go_num, X9⟩
        case measure => simp [intOf]; omega
      · obtain rfl : k = js.length := by omega
        have Q5 := Lib.hid (P5.out.ext hx.out)
        have Q4 := Lib.hid (P45.out.ext hx.out)
        have CS := rsame_any A4 A5 ts us c4 c5 wr Q4.out.parts Q4.out.oks Q5.out.parts Q5.out.oks (by have := Q4.out.few.len; omega) (by have := Q5.out.few.len; omega)
        rw [decide_eq_true EQ.out.symm] at CS
        have HCS := Lib.hid CS
        clear CS
        go_wp2_with fail
        refine HCS.out.mono ?_
        rintro e w6 ⟨rfl, hx6⟩
        have X6 := Lib.hid (hx.out.trans hx6)
        have CI := same_any D4 D5 dn5 dn5 d4 d5 w6 (I45.out.ext X6.out) (I5.out.ext X6.out) (by omega) (by omega)
        rw [decide_eq_true rfl] at CI
        have HCI := Lib.hid CI
        have ex : (x5 == x5) = true := by simp
        clear hx6 CI HCS
        go_wp2_with fail
        refine HCI.out.mono ?_
        rintro e w7 ⟨rfl, hx7⟩
        have X7 := Lib.hid (HX5.out.trans (X6.out.trans hx7))
        clear hx7 HCI
        obtain ⟨fv, hfv⟩ : ∃ b : Bool, b = true ↔ FitsT (nds ps) (nds ss) i := by
          by_cases h : FitsT (nds ps) (nds ss) i
          · exact ⟨true, by simp [h]⟩
          · exact ⟨false, by simp [h]⟩
        have HFV := Lib.hid hfv
        have ef : (fv == fv) = true := by simp
        clear hfv
        go_wp2_with fail
        refine (fits_any i (S.out.ext X7.out) (SS.out.ext X7.out)).mono ?_
        intro e w8 h8
        obtain ⟨rfl, hx8⟩ := TellsB.both (w2 := W) HFV.out h8
        have X8 := Lib.hid (X7.out.trans hx8)
        clear h8 hx8
        go_wp2_with fail
        refine (rfits_any i (S.out.ext X8.out) (SS.out.ext X8.out)).mono ?_
        intro e w9 h9
        obtain ⟨rfl, hx9⟩ := TellsB.both (w2 := W) HFV.out h9
        have X9 := Lib.hid (X8.out.trans hx9)
        clear h9 hx9
        go_wp2_with fail
        refine (clear_any A c ps n w9 (S.out.ext X9.out)).mono ?_
        rintro e w10 ⟨A10, c10, q10, rfl, hn10, ho10, hx10⟩
        have X10 := Lib.hid (X9.out.trans hx10)
        have HN10 := Lib.hid hn10
        have HO10 := Lib.hid ho10
        clear hn10 ho10 hx10
        go_wp2_with fail
        refine (rclear_any n (S.out.ext X10.out)).mono ?_
        rintro e w11 ⟨A11, c11, q11, rfl, hn11, ho11, hx11⟩
        have X11 := Lib.hid (X10.out.trans hx11)
        have O10 := HO10.out.ext hx11
        have CS := rsame_any A10 A11 q10 q11 c10 c11 w11 O10.cells.1 O10.oks ho11.cells.1 ho11.oks (by rw [← nds_length, HN10.out, List.length_map, nds_length]; omega) (by rw [← nds_length, hn11, List.length_map, nds_length]; omega)
        rw [decide_eq_true (HN10.out.trans hn11.symm)] at CS
        have HCS := Lib.hid CS
        clear hn11 ho11 hx11 O10 CS
        go_wp2_with fail
        refine HCS.out.mono ?_
        rintro e w12 ⟨rfl, hx12⟩
        have X12 := Lib.hid (X11.out.trans hx12)
        clear hx12 HCS
        go_wp2_with fail
        refine (give_any A c ps n m w12 (S.out.ext X12.out)).mono ?_
        rintro e w13 ⟨A13, c13, q13, rfl, hn13, ho13, hx13⟩
        have X13 := Lib.hid (X12.out.trans hx13)
        have HN13 := Lib.hid hn13
        have HO13 := Lib.hid ho13
        clear hn13 ho13 hx13
        go_wp2_with fail
        refine (rgive_any n m (S.out.ext X13.out)).mono ?_
        rintro e w14 ⟨A14, c14, q14, rfl, hn14, ho14, hx14⟩
        have X14 := Lib.hid (X13.out.trans hx14)
        have O13 := HO13.out.ext hx14
        have CS := rsame_any A13 A14 q13 q14 c13 c14 w14 O13.cells.1 O13.oks ho14.cells.1 ho14.oks (by rw [← nds_length, HN13.out, List.length_map, nds_length]; omega) (by rw [← nds_length, hn14, List.length_map, nds_length]; omega)
        rw [decide_eq_true (HN13.out.trans hn14.symm)] at CS
        have HCS := Lib.hid CS
        clear hn14 ho14 hx14 O13 CS
        go_wp2_with fail
        refine HCS.out.mono ?_
        rintro e w15 ⟨rfl, hx15⟩
        have X15 := Lib.hid (X14.out.trans hx15)
        clear hx15 HCS
        have CBB : Hid (∃ x : Int, (∀ V, Ext W V → Calls Try.prog 75 #[.slice A ps.length c] V fun e w' => e = .returned (.int .u64 x) ∧ Ext V w') ∧ ∀ V, Ext W V → Calls Try.prog 86 #[.slice A ps.length c] V fun e w' => e = .returned (.int .u64 x) ∧ Ext V w') := Lib.hid (by
          by_cases T : Tree (nds ps)
          · exact ⟨_, fun V x => Bits_yes (S.out.ext x) T, fun V x => rBits_yes (S.out.ext x) T⟩
          · exact ⟨_, fun V x => Bits_no (S.out.ext x) T, fun V x => rBits_no (S.out.ext x) T⟩)
        obtain ⟨xb, hc1, hc2⟩ := CBB.out
        have HC1 := Lib.hid hc1
        have HC2 := Lib.hid hc2
        have eb : (xb == xb) = true := by simp
        clear hc1 hc2 CBB
        go_wp2_with fail
        refine (HC1.out _ X15.out).mono ?_
        rintro e w16 ⟨rfl, hx16⟩
        have X16 := Lib.hid (X15.out.trans hx16)
        clear hx16
        go_wp2_with fail
        refine (HC2.out _ X16.out).mono ?_
        rintro e w17 ⟨rfl, hx17⟩
        have X17 := Lib.hid (X16.out.trans hx17)
        clear hx17
        go_wp2_with fail
        go_ret
        exact ⟨rfl, X17.out⟩
end Go.Proofs.Ytaffaeompdlecaa
