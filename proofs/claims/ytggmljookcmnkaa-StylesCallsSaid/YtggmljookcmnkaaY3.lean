/- The contracts of light of chapter 26, styles.Leaf. -/
import Derived.Test.YtggmljookcmnkaaY2
import Derived.Test.YtggmljookcmnkaaB3
import Derived.Test.YtggmljookcmnkaaB7
import Derived.WalkSpells
import Derived.WalkLawsBesides
import Derived.BigRegion
import Derived.Deep.RegionWith
import Derived.Deep.QuietTactic
import Derived.Deep.DeepCutAuto
import Derived.Deep.RegionHeld3
import Derived.Deep.RegionLaw
import Derived.BigQuiet
import Derived.Lib.Hide
namespace Go.Proofs.Ytggmljookcmnkaa
open Go.RowKit
attribute [local go_sem] more_drew more_drewN more_size more_cell more_frozen more_setCell drew_more drewN_more lt_add_r lt_add_r2 lt_add_r3 lt_add_r4 lt_add_r5 lt_add_r6 lt_add_r7 lt_add_r8 lt_add_r9 lt_add_r10 lt_self_r lt_self_r2

theorem Ints.left {w : World} {A : Option Addr} {us vs : List Int} (h : Ints w A (us ++ vs)) : Ints w A us := fun h0 => by
  obtain ⟨b, off, hA, hb, hc⟩ := h (by rw [List.length_append]; omega)
  refine ⟨b, off, hA, hb, fun k hk => ?_⟩
  rw [hc k (by rw [List.length_append]; omega), List.getD_eq_getElem?_getD, List.getD_eq_getElem?_getD, List.getElem?_append_left hk]
def Light26 (ss : List Sty) (way : List Int) (ts : List Prt) : Prop := shortB ss = true ∧ ss.length ≤ 70 ∧ way.length ≤ 40 ∧ LightP 100 ts
def Light26Ret (ss : List Sty) (way : List Int) (ts : List Prt) (w : World) (e : Ending) (w' : World) : Prop := ∃ b, e = .returned (.bool b) ∧ (b = true → Light26 ss way ts) ∧ Ext w w'
set_option maxRecDepth 100000 in
set_option maxHeartbeats 1000000 in
theorem light26_any (B : Option Addr) (ss : List Sty) (c : Nat) (A : Option Addr) (way : List Int) (d : Nat) (C : Option Addr) (ts : List Prt) (ct : Nat) (w : World) (hS : Styles w B ss) (hO : StylesOk w ss) (bs : ss.length ≤ 9223372036854775807) (bw : way.length ≤ 9223372036854775807)
    (hP : Prts w C ts) (hl : ts.length ≤ 9223372036854775807) (hk : KidsLt ts) :
    Calls Try.prog 9 #[.slice B ss.length c, .slice A way.length d, .slice C ts.length ct] w (Light26Ret ss way ts w) := by
  have LS := Lib.hid (lightStyles_any B ss c w hS hO bs)
  have HP := Lib.hid hP
  have HK := Lib.hid hk
  clear hS hO hP hk
  cases h1 : (shortB ss && decide (ss.length ≤ 70))
  · rw [h1] at LS
    clear h1
    go_enter Try.func9, Try.ntmps9
    go_wp2_with fail
    refine LS.out.mono ?_
    rintro e w1 ⟨rfl, hx1⟩
    have HX1 := Lib.hid hx1
    clear hx1
    go_wp2_with fail
    go_ret
    exact ⟨false, rfl, nofun, HX1.out⟩
  · rw [h1] at LS
    rw [Bool.and_eq_true, decide_eq_true_iff] at h1
    have H1 := Lib.hid h1
    clear h1
    by_cases h2 : way.length ≤ 40
    · go_enter Try.func9, Try.ntmps9
      go_wp2_with fail
      refine LS.out.mono ?_
      rintro e w1 ⟨rfl, hx1⟩
      have HX1 := Lib.hid hx1
      clear hx1
      go_wp2_with fail
      refine (lightParts_any 100 C ct ts w1 (by decide) (HP.out.ext HX1.out) hl HK.out).mono ?_
      rintro e w2 ⟨b, rfl, hb, hx2⟩
      have HX2 := Lib.hid (HX1.out.trans hx2)
      have HB := Lib.hid hb
      clear hx2 hb
      go_wp2_with fail
      go_ret
      exact ⟨b, rfl, fun h => ⟨H1.out.1, H1.out.2, h2, HB.out h⟩, HX2.out⟩
    · go_enter Try.func9, Try.ntmps9
      go_wp2_with fail
      refine LS.out.mono ?_
      rintro e w1 ⟨rfl, hx1⟩
      have HX1 := Lib.hid hx1
      clear hx1
      go_wp2_with fail
      go_ret
      exact ⟨false, rfl, nofun, HX1.out⟩
section
variable {B : Option Addr} {ss : List Sty} {cs : Nat} {A : Option Addr} {c : Nat} {ts : List Prt} {w : World}
set_option maxRecDepth 100000 in
set_option maxHeartbeats 2000000 in
theorem leaf26_yes {j : Nat} {p : Prt} {us : List Int} (hS : Styles w B ss) (hO : StylesOk w ss) (bs : ss.length ≤ 9223372036854775807) (h : PS w A c ts) (T : Tree (nds ts)) (hp : ts[j]? = some p) (hk : p.nd.kind = 3 ∨ p.nd.kind = 5) (hw : Way (nds ts) j (us ++ [p.nd.sym])) :
    Calls Try.prog 12 #[.slice B ss.length cs, .slice A ts.length c, .int .i64 j] w fun e w' => e = .returned (.int .i64 (styleF ss p.nd.sym us)) ∧ Ext w w' := by
  have HS := Lib.hid hS
  have HO := Lib.hid hO
  have S := Lib.hid h
  have HT := Lib.hid T
  have HW := Lib.hid hw
  have hl := h.few.len
  have hjl := (List.getElem?_eq_some_iff.1 hp).1
  have HPP := Lib.hid hp
  have HK := Lib.hid hk
  have CK := Lib.hid (check_ok h T)
  have hwl : us.length + 1 ≤ 1001 := by have := hw.length T; rw [List.length_append] at this; simp at this; omega
  have k3 : p.nd.kind = 3 ∨ (p.nd.kind ≠ 3 ∧ p.nd.kind = 5) := by omega
  clear hS hO h T hw hp hk
  go_enter Try.func12, Try.ntmps12
  go_upto_region 1 with fail
  go_cut [36] (fun t wx => t = .bool false ∧ Hid (Ext w wx))
  case first =>
    go_wp2_with fail
    refine CK.out.mono ?_
    rintro e w1 ⟨rfl, hx1⟩
    have HX1 := Lib.hid hx1
    obtain ⟨b, off, rfl, hb, hcell⟩ := (S.out.ext hx1).parts (by omega)
    have d1 := (hcell j p HPP.out).2.1
    clear hx1 hcell
    rcases k3 with k | ⟨k, k'⟩
    · have k1 : (p.nd.kind != 3) = false := by simp [k]
      go_wp2_with fail
      go_meet
      exact ⟨by congr 1; simp; omega, HX1⟩
    · have k1 : (p.nd.kind != 3) = true := by simp [k]
      have k2 : (p.nd.kind != 5) = false := by simp [k']
      go_wp2_with fail
      go_meet
      exact ⟨by congr 1; simp; omega, HX1⟩
  case rest =>
    obtain ⟨rfl, HX1⟩ := hcut
    have CP := Lib.hid (Path_yes j _ (S.out.ext HX1.out) HT.out HW.out hjl)
    clear k3
    go_wp2_with fail
    refine CP.out.mono ?_
    rintro e w2 ⟨A2, c2, rfl, ho, hx2⟩
    have HX2 := Lib.hid (HX1.out.trans hx2)
    have O2 := Lib.hid ho
    have hlw : (us ++ [p.nd.sym]).length = us.length + 1 := by simp
    obtain ⟨b, off, rfl, hb, hcell⟩ := (S.out.ext HX2.out).parts (by omega)
    have d0 := (hcell j p HPP.out).1
    rw [hlw]
    clear hx2 ho hcell hlw
    go_upto_region 4 with fail
    have ST := Lib.hid (fun (V : World) (x : Ext w2 V) => style_any B ss cs p.nd.sym A2 us c2 V (HS.out.ext (HX2.out.trans x)) (HO.out.ext (HX2.out.trans x)) bs (O2.out.ints.1.left.ext x) (by have := O2.out.ints.2.1; simp at this; omega) (by have := O2.out.ints.2.2.1; unfold maxLen at this; omega))
    have ol1 : us.length + 1 ≤ c2 := by have := O2.out.ints.2.1; simpa using this
    have ol2 : c2 ≤ 9223372036854775807 := by have := O2.out.ints.2.2.1; unfold maxLen at this; omega
    refine wp_region_ext (by kernel_rfl) (by kernel_rfl) ?_
    repeat (go_big_quiet_step ((go_at_call 14; exact calls_ext (ST.out _ (by repeat (first | exact Ext.refl _ | refine Ext.alloc ?_ _ | refine Ext.more ?_ _ _ | refine Ext.drew ?_ | refine Ext.drewN ?_ _ | refine Ext.setCell ?_ (by simp <;> omega) _))))))
    refine wpQuiet_nil ?_
    intro _ hw'
    obtain ⟨x9, rfl⟩ := hw'
    go_wp2_with fail
    go_ret
    exact ⟨rfl, HX2.out.trans (by repeat (first | exact Ext.refl _ | refine Ext.alloc ?_ _ | refine Ext.more ?_ _ _ | refine Ext.drew ?_ | refine Ext.drewN ?_ _ | refine Ext.setCell ?_ (by simp <;> omega) _))⟩
end
end Go.Proofs.Ytggmljookcmnkaa
