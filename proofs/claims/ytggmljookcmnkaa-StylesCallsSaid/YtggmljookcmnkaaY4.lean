/- StylesLeaf: the walk. -/
import Derived.Test.YtggmljookcmnkaaY3
import Derived.Test.YtggmljookcmnkaaR8
import Derived.Test.YtggmljookcmnkaaTk
import Derived.WalkSpells
import Derived.WalkLawsBesides
import Derived.BigRegion
import Derived.Deep.RegionWith
import Derived.Deep.QuietTactic
import Derived.Deep.DeepCutAuto
import Derived.Deep.RegionHeld3
import Derived.Deep.RegionLaw
import Derived.BigQuiet
import Derived.Lib.Hide
namespace Go.Proofs.Ytggmljookcmnkaa
open Go.RowKit
attribute [local go_sem] more_drew more_drewN more_size more_cell more_frozen more_setCell drew_more drewN_more lt_add_r lt_add_r2 lt_add_r3 lt_add_r4 lt_add_r5 lt_add_r6 lt_add_r7 lt_add_r8 lt_add_r9 lt_add_r10 lt_self_r lt_self_r2

/-- is place i a leaf of a token -/
def LeafAt (l : List Nd) (i : Int) : Prop := Tree l ∧ ∃ (j : Nat) (p : Nd), i = (j : Int) ∧ l[j]? = some p ∧ (p.kind = 3 ∨ p.kind = 5)
section
variable {B : Option Addr} {ss : List Sty} {cs : Nat} {A : Option Addr} {c : Nat} {ts : List Prt} {w : World}
set_option maxRecDepth 100000 in
set_option maxHeartbeats 2000000 in
theorem leaf26_no (i : Int) (v : Value) (h : PS w A c ts) (hn : ¬ LeafAt (nds ts) i) :
    Calls Try.prog 12 #[v, .slice A ts.length c, .int .i64 i] w fun e w' => e = .returned (.int .i64 0) ∧ Ext w w' := by
  have hl := h.few.len
  have S := Lib.hid h
  by_cases T : Tree (nds ts)
  · have CK := Lib.hid (check_ok h T)
    clear h
    by_cases h0 : i < 0
    · clear hn T
      go_enter Try.func12, Try.ntmps12
      go_wp2_with fail
      refine CK.out.mono ?_
      rintro e w1 ⟨rfl, hx1⟩
      have HX1 := Lib.hid hx1
      clear hx1
      go_wp2_with fail
      go_ret
      exact ⟨rfl, HX1.out⟩
    · by_cases h1 : i < (ts.length : Int)
      · obtain ⟨j, rfl⟩ : ∃ j : Nat, i = (j : Int) := ⟨i.toNat, by omega⟩
        have hjl : j < ts.length := by omega
        obtain ⟨p, hp⟩ : ∃ p, ts[j]? = some p := ⟨_, List.getElem?_eq_getElem hjl⟩
        have hk : ¬ (p.nd.kind = 3 ∨ p.nd.kind = 5) := fun h => hn ⟨T, j, p.nd, rfl, nds_get hp, h⟩
        have k1 : (p.nd.kind != 3) = true := by simp; omega
        have k2 : (p.nd.kind != 5) = true := by simp; omega
        have HPP := Lib.hid hp
        clear hn T hp hk h0 h1
        go_enter Try.func12, Try.ntmps12
        go_wp2_with fail
        refine CK.out.mono ?_
        rintro e w1 ⟨rfl, hx1⟩
        have HX1 := Lib.hid hx1
        obtain ⟨b, off, rfl, hb, hcell⟩ := (S.out.ext hx1).parts (by omega)
        have d1 := (hcell j p HPP.out).2.1
        clear hx1 hcell
        go_wp2_with fail
        go_ret
        exact ⟨rfl, HX1.out⟩
      · clear hn T
        go_enter Try.func12, Try.ntmps12
        go_wp2_with fail
        refine CK.out.mono ?_
        rintro e w1 ⟨rfl, hx1⟩
        have HX1 := Lib.hid hx1
        clear hx1
        go_wp2_with fail
        go_ret
        exact ⟨rfl, HX1.out⟩
  · have CK := Lib.hid (check_no h T)
    clear h hn T
    go_enter Try.func12, Try.ntmps12
    go_wp2_with fail
    refine CK.out.mono ?_
    rintro e w1 ⟨rfl, hx1⟩
    have HX1 := Lib.hid hx1
    clear hx1
    go_wp2_with fail
    go_ret
    exact ⟨rfl, HX1.out⟩
end
set_option maxRecDepth 100000 in
set_option maxHeartbeats 2000000 in
theorem stylesLeaf_any (B : Option Addr) (ss : List Sty) (cs : Nat) (A : Option Addr) (c : Nat) (ps : List Prt) (i0 : Int) (W : World) (hS : Styles W B ss) (hSO : StylesOk W ss) (hsl : ss.length ≤ 9223372036854775807)
    (hP : Prts W A ps) (hO : PrtsOk W ps) (hl : ps.length ≤ c) (hc : c ≤ 9223372036854775807) (hA : A = none → c = 0) (hk : KidsLt ps) (hi0 : I64 i0) :
    Calls Try.prog 3 #[.slice B ss.length cs, .slice A ps.length c, .int .i64 i0] W fun e w' => e = .returned (.bool true) ∧ Ext W w' := by
  have HS := Lib.hid hS
  have HSO := Lib.hid hSO
  have HP := Lib.hid hP
  have HO := Lib.hid hO
  have HK := Lib.hid hk
  have HA := Lib.hid hA
  unfold I64 at hi0
  clear hS hSO hP hO hk hA
  go_enter Try.func3, Try.ntmps3
  go_wp2_with fail
  refine (lives26 W).mono ?_
  rintro e w1 ⟨rfl, hx1⟩
  have HX1 := Lib.hid hx1
  clear hx1
  go_wp2_with fail
  refine (light26_any B ss cs none [] 0 A ps c w1 (HS.out.ext HX1.out) (HSO.out.ext HX1.out) hsl (by decide) (HP.out.ext HX1.out) (by omega) HK.out).mono ?_
  rintro e w2 ⟨b1, rfl, hb, hx2⟩
  have HX2 := Lib.hid (HX1.out.trans hx2)
  clear hx2 HX1
  cases b1 with
  | false =>
    go_wp2_with fail
    go_ret
    exact ⟨rfl, HX2.out⟩
  | true =>
    have hL := (hb rfl).2.2.2
    have S : Hid (PS W A c ps) := ⟨HP.out, HO.out, hL.few (by omega), hl, hc, HA.out⟩
    have hlen := hL.len
    clear hb hL HP HO HK HA
    by_cases T : Tree (nds ps)
    · have hpos := T.pos
      rw [nds_length] at hpos
      have HT := Lib.hid T
      clear T
      go_wp2_with fail
      refine (rcheck_ok (S.out.ext HX2.out) HT.out).mono ?_
      rintro e w3 ⟨rfl, hx3⟩
      have HX3 := Lib.hid (HX2.out.trans hx3)
      clear hx3 HX2
      go_wp2_with fail
      refine (pick_any i0 (ps.length : Int) w3 (by omega) hi0).mono ?_
      rintro e w3' ⟨rfl, rfl⟩
      have hpb := pickF_bd i0 (ps.length : Int) (by omega)
      obtain ⟨j, hj⟩ : ∃ j : Nat, pickF i0 (ps.length : Int) = (j : Int) := ⟨(pickF i0 (ps.length : Int)).toNat, by omega⟩
      rw [hj] at hpb
      have hjl : j < ps.length := by omega
      rw [hj]
      clear hj hpb
      obtain ⟨p, hp⟩ : ∃ p, ps[j]? = some p := ⟨_, List.getElem?_eq_getElem hjl⟩
      have HPP := Lib.hid hp
      clear hp
      by_cases hkk : p.nd.kind = 3 ∨ p.nd.kind = 5
      · obtain ⟨ws, hws⟩ := Way.all HT.out j j (Nat.le_refl _) (by rw [nds_length]; exact hjl)
        obtain ⟨p', us, hp', hwe⟩ := hws.ends
        rw [nds_get HPP.out] at hp'
        injection hp' with hp'
        subst hp'
        subst hwe
        have HW := Lib.hid hws
        have HKK := Lib.hid hkk
        have hwl : us.length + 1 ≤ 1001 := by have := hws.length HT.out; rw [List.length_append] at this; simp at this; omega
        have CL := Lib.hid (leaf26_yes (cs := cs) (HS.out.ext HX3.out) (HSO.out.ext HX3.out) hsl (S.out.ext HX3.out) HT.out HPP.out hkk hws)
        have k3 : p.nd.kind = 3 ∨ (p.nd.kind ≠ 3 ∧ p.nd.kind = 5) := by omega
        obtain ⟨sv, hsv⟩ : ∃ sv, styleF ss p.nd.sym us = sv := ⟨_, rfl⟩
        have HSV := Lib.hid hsv
        rw [hsv] at CL
        clear hws hkk hsv
        go_wp2_with fail
        refine CL.out.mono ?_
        rintro e w4 ⟨rfl, hx4⟩
        have HX4 := Lib.hid (HX3.out.trans hx4)
        obtain ⟨b, off, rfl, hb, hcell⟩ := (S.out.ext HX4.out).parts (by omega)
        have d1 := (hcell j p HPP.out).2.1
        clear hx4 hcell
        go_upto_region 7 with fail
        go_cut [41] (fun t wx => t = .bool false ∧ w4 = wx)
        case first =>
          rcases k3 with k | ⟨k, k'⟩
          · have k1 : (p.nd.kind != 3) = false := by simp [k]
            go_wp2_with fail
            go_meet
            exact ⟨rfl, rfl⟩
          · have k1 : (p.nd.kind != 3) = true := by simp [k]
            have k2 : (p.nd.kind != 5) = false := by simp [k']
            go_wp2_with fail
            go_meet
            exact ⟨rfl, rfl⟩
        case rest =>
          obtain ⟨rfl, rfl⟩ := hcut
          clear k3 d1
          have CP := Lib.hid (rPath_yes j _ (S.out.ext HX4.out) HT.out HW.out hjl)
          go_wp2_with fail
          refine CP.out.mono ?_
          rintro e w5 ⟨A2, c2, rfl, ho, hx5⟩
          have HX5 := Lib.hid (HX4.out.trans hx5)
          have O2 := Lib.hid ho
          have hlw : (us ++ [p.nd.sym]).length = us.length + 1 := by simp
          obtain ⟨b', off', hA', hb', hcell⟩ := (S.out.ext HX5.out).parts (by omega)
          injection hA' with hA'
          injection hA' with ea eb
          subst ea eb
          have d0 := (hcell j p HPP.out).1
          rw [hlw]
          clear hx5 ho hcell hlw
          have ST := Lib.hid (fun (V : World) (x : Ext w5 V) => style_any B ss cs p.nd.sym A2 us c2 V (HS.out.ext (HX5.out.trans x)) (HSO.out.ext (HX5.out.trans x)) hsl (O2.out.ints.1.left.ext x) (by have := O2.out.ints.2.1; simp at this; omega) (by have := O2.out.ints.2.2.1; unfold maxLen at this; omega))
          rw [HSV.out] at ST
          have ol1 : us.length + 1 ≤ c2 := by have := O2.out.ints.2.1; simpa using this
          have ol2 : c2 ≤ 9223372036854775807 := by have := O2.out.ints.2.2.1; unfold maxLen at this; omega
          go_upto_region 10 with fail
          refine wp_region_ext (by kernel_rfl) (by kernel_rfl) ?_
          repeat (go_big_quiet_step ((go_at_call 14; exact calls_ext (ST.out _ (by repeat (first | exact Ext.refl _ | refine Ext.alloc ?_ _ | refine Ext.more ?_ _ _ | refine Ext.drew ?_ | refine Ext.drewN ?_ _ | refine Ext.setCell ?_ (by simp <;> omega) _))))))
          refine wpQuiet_nil ?_
          intro _ hw'
          obtain ⟨x9, rfl⟩ := hw'
          go_wp2_with fail
          go_ret
          exact ⟨ret_bool (by simp), HX5.out.trans (by repeat (first | exact Ext.refl _ | refine Ext.alloc ?_ _ | refine Ext.more ?_ _ _ | refine Ext.drew ?_ | refine Ext.drewN ?_ _ | refine Ext.setCell ?_ (by simp <;> omega) _))⟩
      · have CL := Lib.hid (leaf26_no (ts := ps) j (.slice B ss.length cs) (S.out.ext HX3.out) (fun ⟨_, j', p', e, hp', h⟩ => by
          obtain rfl : j = j' := by omega
          rw [nds_get HPP.out] at hp'
          cases hp'
          exact hkk h))
        have k1 : (p.nd.kind != 3) = true := by simp; omega
        have k2 : (p.nd.kind != 5) = true := by simp; omega
        clear hkk
        go_wp2_with fail
        refine CL.out.mono ?_
        rintro e w4 ⟨rfl, hx4⟩
        have HX4 := Lib.hid (HX3.out.trans hx4)
        obtain ⟨b, off, rfl, hb, hcell⟩ := (S.out.ext HX4.out).parts (by omega)
        have d1 := (hcell j p HPP.out).2.1
        clear hx4 hcell
        go_wp2_with fail
        go_ret
        exact ⟨rfl, HX4.out⟩
    · go_wp2_with fail
      refine (rcheck_no (S.out.ext HX2.out) T).mono ?_
      rintro e w3 ⟨rfl, hx3⟩
      have HX3 := Lib.hid (HX2.out.trans hx3)
      clear hx3 T
      go_wp2_with fail
      go_ret
      exact ⟨rfl, HX3.out⟩
end Go.Proofs.Ytggmljookcmnkaa
