/- ReuseCalls: the walk. -/
import Derived.Test.YtaffaeompdlecaaS1
import Derived.Test.YtaffaeompdlecaaE3
import Derived.Test.YtaffaeompdlecaaH9
import Derived.WalkSpells
import Derived.WalkLawsBesides
import Derived.BigRegion
import Derived.Deep.RegionWith
import Derived.Deep.QuietTactic
import Derived.Deep.DeepCutAuto
import Derived.Deep.RegionHeld3
import Derived.Deep.RegionLaw
import Derived.BigQuiet
import Derived.Lib.Hide
namespace Go.Proofs.Ytaffaeompdlecaa
open Go.RowKit
attribute [local go_sem] more_drew more_drewN more_size more_cell more_frozen more_setCell drew_more drewN_more lt_add_r lt_add_r2 lt_add_r3 lt_add_r4 lt_add_r5 lt_add_r6 lt_add_r7 lt_add_r8 lt_add_r9 lt_add_r10 lt_self_r lt_self_r2

/-- what is taken: told or not, and which parts -/
def TakeV (l : List Nd) (sym at_ : Int) (b : Bool) (s : List Nd) : Prop := (b = true ∧ ∃ k m, TakeOk l sym at_ k m ∧ s = subF l k m) ∨ (b = false ∧ s = [] ∧ ¬ ∃ k m, TakeOk l sym at_ k m)
theorem TakeV.det {l : List Nd} {sym at_ : Int} {b b' : Bool} {s s' : List Nd} (h : TakeV l sym at_ b s) (h' : TakeV l sym at_ b' s') : b' = b ∧ s' = s := by
  rcases h with ⟨rfl, k, m, h1, rfl⟩ | ⟨rfl, rfl, h1⟩ <;> rcases h' with ⟨rfl, k', m', h2, rfl⟩ | ⟨rfl, rfl, h2⟩
  · obtain ⟨rfl, rfl⟩ := h1.det h2
    exact ⟨rfl, rfl⟩
  · exact absurd ⟨k, m, h1⟩ h2
  · exact absurd ⟨k', m', h2⟩ h1
  · exact ⟨rfl, rfl⟩
theorem take_row {w : World} {l : List Nd} {sym at_ : Int} {e : Ending} {w' : World} (hl : l.length ≤ 1000) (h : TakeRet w l sym at_ e w') : ∃ A c qs b, e = .returned (.tuple #[.slice A (qs : List Prt).length c, .bool b]) ∧ PS w' A c qs ∧ TakeV l sym at_ b (nds qs) ∧ Ext w w' := by
  rcases h with ⟨k, m, A, c, qs, hk, rfl, hn, ho, hx⟩ | ⟨hno, rfl, hx⟩
  · refine ⟨A, c, qs, true, rfl, ho.ps (Few.of_tree' hn (hk.1.sub hk.2.2.2.1) ?_), .inl ⟨rfl, k, m, hk, hn⟩, hx⟩
    have h1 := hk.2.2.2.1.le
    rw [len_sub h1]
    omega
  · exact ⟨none, 0, [], false, rfl, ps_nil w', .inr ⟨rfl, rfl, hno⟩, hx⟩
theorem Few.congr {ps qs : List Prt} (h : Few ps) (he : nds qs = nds ps) : Few qs := h.of_lens (by rw [he])
set_option maxRecDepth 100000 in
set_option maxHeartbeats 2000000 in
theorem reuseCalls_any (A : Option Addr) (c : Nat) (ps : List Prt) (sym at_ : Int) (W : World) (hP : Prts W A ps) (hO : PrtsOk W ps) (hl : ps.length ≤ c) (hc : c ≤ 9223372036854775807) (hA : A = none → c = 0) (hk : KidsLt ps) :
    Calls Try.prog 14 #[.slice A ps.length c, .int .i64 sym, .int .i64 at_] W fun e w' => e = .returned (.bool true) ∧ Ext W w' := by
  have HP := Lib.hid hP
  have HO := Lib.hid hO
  have HK := Lib.hid hk
  have HA := Lib.hid hA
  clear hP hO hk hA
  go_enter Try.func14, Try.ntmps14
  go_wp2_with fail
  refine (lives21_any W).mono ?_
  rintro e w1 ⟨rfl, hx1⟩
  have HX1 := Lib.hid hx1
  clear hx1
  go_wp2_with fail
  refine (lightParts_any 120 A c ps w1 (by decide) (HP.out.ext HX1.out) (by omega) HK.out).mono ?_
  rintro e w2 ⟨b1, rfl, hb, hx2⟩
  have HX2 := Lib.hid (HX1.out.trans hx2)
  clear hx2 HX1
  cases b1 with
  | false =>
    go_wp2_with fail
    go_ret
    exact ⟨rfl, HX2.out⟩
  | true =>
    have hL := hb rfl
    have S : Hid (PS W A c ps) := ⟨HP.out, HO.out, hL.few (by omega), hl, hc, HA.out⟩
    have hlen := hL.len
    have HL := Lib.hid hL
    clear hb hL HP HO HK
    go_wp2_with fail
    refine (ownParts A c ps w2 (S.out.ext HX2.out).parts (S.out.ext HX2.out).oks S.out.few hl HA.out).mono ?_
    rintro e w3 ⟨A3, c3, qs, rfl, hn3, ho3, hx3⟩
    have HX3 := Lib.hid (HX2.out.trans hx3)
    have HN3 := Lib.hid hn3
    have P3 := Lib.hid (ho3.ps (S.out.few.congr hn3))
    have CT := Lib.hid (take_any sym at_ P3.out)
    clear hn3 ho3 hx3
    go_wp2_with fail
    refine CT.out.mono ?_
    rintro e w4 h4
    rw [HN3.out] at h4
    obtain ⟨A4, c4, ts, b4, rfl, hp4, hv4, hx4⟩ := take_row (by rw [nds_length]; omega) h4
    have HX4 := Lib.hid (HX3.out.trans hx4)
    have P4 := Lib.hid hp4
    have V4 := Lib.hid hv4
    clear h4 hp4 hv4 hx4 CT
    go_wp2_with fail
    refine (rtake_any sym at_ (S.out.ext HX4.out)).mono ?_
    rintro e w5 h5
    obtain ⟨A5, c5, us, b5, rfl, hp5, hv5, hx5⟩ := take_row (by rw [nds_length]; omega) h5
    obtain ⟨rfl, hts⟩ := V4.out.det hv5
    have HX5 := Lib.hid (HX4.out.trans hx5)
    have P5 := Lib.hid hp5
    have P45 := Lib.hid (P4.out.ext hx5)
    have CS := rsame_any A4 A5 ts us c4 c5 w5 P45.out.parts P45.out.oks P5.out.parts P5.out.oks (by have := P45.out.few.len; omega) (by have := P5.out.few.len; omega)
    rw [decide_eq_true hts.symm] at CS
    have HCS := Lib.hid CS
    clear h5 hp5 hv5 hx5 hts CS
    go_wp2_with fail
    refine HCS.out.mono ?_
    rintro e w6 ⟨rfl, hx6⟩
    have HX6 := Lib.hid (HX5.out.trans hx6)
    obtain ⟨xs, hxs⟩ := gsOk_all (nds ps)
    have HGO := Lib.hid hxs
    have HXM : Hid (xs.length ≤ ps.length ∧ ∀ x ∈ xs, x < ps.length) := Lib.hid (by
      by_cases T : Tree (nds ps)
      · obtain ⟨st, h1, h2⟩ := hxs.1 T
        refine ⟨?_, fun x hx => by have := (h2.mem x hx).2.1; rwa [nds_length] at this⟩
        have key : ∀ (e : Nat) (zs : List Nat), Gs (nds ps) st e zs → zs.length ≤ ps.length - e := by
          intro e zs h
          induction h with
          | done i hi => simp
          | skip i p zs hp hc _ ih => omega
          | take i p m zs hp hk hs hm _ ih =>
            have h1 := hm.lt_end
            have h2 := hm.lt
            rw [nds_length] at h2
            rw [List.length_cons]
            omega
        have := key 0 xs h2
        omega
      · rw [hxs.2 T]
        exact ⟨by simp, fun x hx => by cases hx⟩)
    have hxl := HXM.out.1
    clear hx6 hxs HCS
    have eb : (b5 == b5) = true := by simp
    go_wp2_with fail
    refine (all_any A c ps xs w6 (S.out.ext HX6.out) HGO.out (by omega)).mono ?_
    rintro e w7 ⟨A7, c7, rfl, ho7, hx7⟩
    have HX7 := Lib.hid (HX6.out.trans hx7)
    have O7 := Lib.hid ho7
    clear hx7 ho7
    go_wp2_with fail
    refine (rall_any A c ps xs w7 (S.out.ext HX7.out) HGO.out (by omega)).mono ?_
    rintro e w8 ⟨A8, c8, rfl, ho8, hx8⟩
    have HX8 := Lib.hid (HX7.out.trans hx8)
    have CS := same_any A7 A8 (asInts xs) (asInts xs) c7 c8 w8 ((O7.out.ext hx8).ints.1) ho8.ints.1 (by rw [asInts_length]; omega) (by rw [asInts_length]; omega)
    rw [decide_eq_true rfl] at CS
    have HCS := Lib.hid CS
    clear hx8 ho8 CS
    go_wp2_with fail
    refine HCS.out.mono ?_
    rintro e w9 ⟨rfl, hx9⟩
    have HX9 := Lib.hid (HX8.out.trans hx9)
    clear hx9 HCS
    obtain ⟨acc, hacc⟩ : ∃ acc, xs.foldl (bytesF (nds ps)) 0 = acc := ⟨_, rfl⟩
    have CB := Lib.hid (fun (V : World) (x : Ext W V) => bytes_any A c ps xs V (S.out.ext x) HGO.out HL.out (by omega) HXM.out.2)
    have CB2 := Lib.hid (fun (V : World) (x : Ext W V) => rbytes_any A c ps xs V (S.out.ext x) HGO.out HL.out (by omega) HXM.out.2)
    rw [hacc] at CB CB2
    clear hacc
    go_wp2_with fail
    refine (CB.out w9 HX9.out).mono ?_
    rintro e w10 ⟨rfl, hx10⟩
    have HX10 := Lib.hid (HX9.out.trans hx10)
    clear hx10
    go_wp2_with fail
    refine (CB2.out w10 HX10.out).mono ?_
    rintro e w11 ⟨rfl, hx11⟩
    have HX11 := Lib.hid (HX10.out.trans hx11)
    clear hx11
    have ea : (acc == acc) = true := by simp
    have CLL : Hid (∃ n : Int, (∀ V, Ext W V → Calls Try.prog 65 #[.slice A ps.length c] V fun e w' => e = .returned (.int .i64 n) ∧ Ext V w') ∧ ∀ V, Ext W V → Calls Try.prog 70 #[.slice A ps.length c] V fun e w' => e = .returned (.int .i64 n) ∧ Ext V w') := Lib.hid (by
      by_cases T : Tree (nds ps)
      · exact ⟨_, fun V x => look_yes A c ps V (S.out.ext x) T, fun V x => rlook_yes A c ps V (S.out.ext x) T⟩
      · exact ⟨_, fun V x => look_no A c ps V (S.out.ext x) T, fun V x => rlook_no A c ps V (S.out.ext x) T⟩)
    obtain ⟨lk, hc1, hc2⟩ := CLL.out
    have HC1 := Lib.hid hc1
    have HC2 := Lib.hid hc2
    have el : (lk == lk) = true := by simp
    clear hc1 hc2 CLL
    go_wp2_with fail
    refine (HC1.out w11 HX11.out).mono ?_
    rintro e w12 ⟨rfl, hx12⟩
    have HX12 := Lib.hid (HX11.out.trans hx12)
    clear hx12
    go_wp2_with fail
    refine (HC2.out w12 HX12.out).mono ?_
    rintro e w13 ⟨rfl, hx13⟩
    have HX13 := Lib.hid (HX12.out.trans hx13)
    clear hx13
    go_wp2_with fail
    go_ret
    exact ⟨rfl, HX13.out⟩
end Go.Proofs.Ytaffaeompdlecaa
