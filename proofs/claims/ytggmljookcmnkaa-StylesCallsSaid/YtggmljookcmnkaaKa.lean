/- The contract of viewportref26.Leaf. -/
import Derived.Test.YtggmljookcmnkaaK9
import Derived.Test.YtggmljookcmnkaaY4
import Derived.WalkSpells
import Derived.WalkLawsBesides
import Derived.BigRegion
import Derived.Deep.RegionWith
import Derived.Deep.QuietTactic
import Derived.Deep.DeepCutAuto
import Derived.Deep.RegionHeld3
import Derived.Deep.RegionLaw
import Derived.BigQuiet
import Derived.Lib.Hide
namespace Go.Proofs.Ytggmljookcmnkaa
open Go.RowKit
attribute [local go_sem] more_drew more_drewN more_size more_cell more_frozen more_setCell drew_more drewN_more lt_add_r lt_add_r2 lt_add_r3 lt_add_r4 lt_add_r5 lt_add_r6 lt_add_r7 lt_add_r8 lt_add_r9 lt_add_r10 lt_self_r lt_self_r2

section
variable {B : Option Addr} {ss : List Sty} {cs : Nat} {A : Option Addr} {c : Nat} {ts : List Prt} {w : World}
set_option maxRecDepth 100000 in
set_option maxHeartbeats 2000000 in
theorem rleaf_yes {j : Nat} {p : Prt} {us : List Int} (hS : Styles w B ss) (hO : StylesOk w ss) (hB : ∀ s ∈ ss, s.path.length ≤ s.pc ∧ s.pc ≤ 9223372036854775807 ∧ s.path.length ≤ 1000) (bs : ss.length ≤ 70) (h : PS w A c ts) (T : Tree (nds ts)) (hp : ts[j]? = some p) (hk : p.nd.kind = 3 ∨ p.nd.kind = 5) (hw : Way (nds ts) j (us ++ [p.nd.sym])) :
    Calls Try.prog 21 #[.slice B ss.length cs, .slice A ts.length c, .int .i64 j] w fun e w' => e = .returned (.int .i64 (styleF ss p.nd.sym us)) ∧ Ext w w' := by
  have HS := Lib.hid hS
  have HO := Lib.hid hO
  have S := Lib.hid h
  have HT := Lib.hid T
  have HW := Lib.hid hw
  have hl := h.few.len
  have hjl := (List.getElem?_eq_some_iff.1 hp).1
  have HPP := Lib.hid hp
  have HK := Lib.hid hk
  have CK := Lib.hid (rcheck_ok h T)
  have hwl : us.length + 1 ≤ 1001 := by have := hw.length T; rw [List.length_append] at this; simp at this; omega
  have k3 : p.nd.kind = 3 ∨ (p.nd.kind ≠ 3 ∧ p.nd.kind = 5) := by omega
  clear hS hO h T hw hp hk
  go_enter Try.func21, Try.ntmps21
  go_upto_region 1 with fail
  go_cut [36] (fun t wx => t = .bool false ∧ Hid (Ext w wx))
  case first =>
    go_wp2_with fail
    refine CK.out.mono ?_
    rintro e w1 ⟨rfl, hx1⟩
    have HX1 := Lib.hid hx1
    obtain ⟨b, off, rfl, hb, hcell⟩ := (S.out.ext hx1).parts (by omega)
    have d1 := (hcell j p HPP.out).2.1
    clear hx1 hcell
    rcases k3 with k | ⟨k, k'⟩
    · have k1 : (p.nd.kind != 3) = false := by simp [k]
      go_wp2_with fail
      go_meet
      exact ⟨by congr 1; simp; omega, HX1⟩
    · have k1 : (p.nd.kind != 3) = true := by simp [k]
      have k2 : (p.nd.kind != 5) = false := by simp [k']
      go_wp2_with fail
      go_meet
      exact ⟨by congr 1; simp; omega, HX1⟩
  case rest =>
    obtain ⟨rfl, HX1⟩ := hcut
    have CP := Lib.hid (rPath_yes j _ (S.out.ext HX1.out) HT.out HW.out hjl)
    clear k3
    go_wp2_with fail
    refine CP.out.mono ?_
    rintro e w2 ⟨A2, c2, rfl, ho, hx2⟩
    have HX2 := Lib.hid (HX1.out.trans hx2)
    have O2 := Lib.hid ho
    have hlw : (us ++ [p.nd.sym]).length = us.length + 1 := by simp
    obtain ⟨b, off, rfl, hb, hcell⟩ := (S.out.ext HX2.out).parts (by omega)
    have d0 := (hcell j p HPP.out).1
    rw [hlw]
    clear hx2 ho hcell hlw
    go_upto_region 4 with fail
    have ST := Lib.hid (fun (V : World) (x : Ext w2 V) => rstyle_any B ss cs p.nd.sym A2 us c2 V (HS.out.ext (HX2.out.trans x)) (HO.out.ext (HX2.out.trans x)) hB bs (O2.out.ints.1.left.ext x) (by have := O2.out.ints.2.1; simp at this; omega) (by have := O2.out.ints.2.2.1; unfold maxLen at this; omega))
    have ol1 : us.length + 1 ≤ c2 := by have := O2.out.ints.2.1; simpa using this
    have ol2 : c2 ≤ 9223372036854775807 := by have := O2.out.ints.2.2.1; unfold maxLen at this; omega
    refine wp_region_ext (by kernel_rfl) (by kernel_rfl) ?_
    repeat (go_big_quiet_step ((go_at_call 20; exact calls_ext (ST.out _ (by repeat (first | exact Ext.refl _ | refine Ext.alloc ?_ _ | refine Ext.more ?_ _ _ | refine Ext.drew ?_ | refine Ext.drewN ?_ _ | refine Ext.setCell ?_ (by simp <;> omega) _))))))
    refine wpQuiet_nil ?_
    intro _ hw'
    obtain ⟨x9, rfl⟩ := hw'
    go_wp2_with fail
    go_ret
    exact ⟨rfl, HX2.out.trans (by repeat (first | exact Ext.refl _ | refine Ext.alloc ?_ _ | refine Ext.more ?_ _ _ | refine Ext.drew ?_ | refine Ext.drewN ?_ _ | refine Ext.setCell ?_ (by simp <;> omega) _))⟩
end
section
variable {B : Option Addr} {ss : List Sty} {cs : Nat} {A : Option Addr} {c : Nat} {ts : List Prt} {w : World}
set_option maxRecDepth 100000 in
set_option maxHeartbeats 2000000 in
theorem rleaf_no (i : Int) (v : Value) (h : PS w A c ts) (hn : ¬ LeafAt (nds ts) i) :
    Calls Try.prog 21 #[v, .slice A ts.length c, .int .i64 i] w fun e w' => e = .returned (.int .i64 0) ∧ Ext w w' := by
  have hl := h.few.len
  have S := Lib.hid h
  by_cases T : Tree (nds ts)
  · have CK := Lib.hid (rcheck_ok h T)
    clear h
    by_cases h0 : i < 0
    · clear hn T
      go_enter Try.func21, Try.ntmps21
      go_wp2_with fail
      refine CK.out.mono ?_
      rintro e w1 ⟨rfl, hx1⟩
      have HX1 := Lib.hid hx1
      clear hx1
      go_wp2_with fail
      go_ret
      exact ⟨rfl, HX1.out⟩
    · by_cases h1 : i < (ts.length : Int)
      · obtain ⟨j, rfl⟩ : ∃ j : Nat, i = (j : Int) := ⟨i.toNat, by omega⟩
        have hjl : j < ts.length := by omega
        obtain ⟨p, hp⟩ : ∃ p, ts[j]? = some p := ⟨_, List.getElem?_eq_getElem hjl⟩
        have hk : ¬ (p.nd.kind = 3 ∨ p.nd.kind = 5) := fun h => hn ⟨T, j, p.nd, rfl, nds_get hp, h⟩
        have k1 : (p.nd.kind != 3) = true := by simp; omega
        have k2 : (p.nd.kind != 5) = true := by simp; omega
        have HPP := Lib.hid hp
        clear hn T hp hk h0 h1
        go_enter Try.func21, Try.ntmps21
        go_wp2_with fail
        refine CK.out.mono ?_
        rintro e w1 ⟨rfl, hx1⟩
        have HX1 := Lib.hid hx1
        obtain ⟨b, off, rfl, hb, hcell⟩ := (S.out.ext hx1).parts (by omega)
        have d1 := (hcell j p HPP.out).2.1
        clear hx1 hcell
        go_wp2_with fail
        go_ret
        exact ⟨rfl, HX1.out⟩
      · clear hn T
        go_enter Try.func21, Try.ntmps21
        go_wp2_with fail
        refine CK.out.mono ?_
        rintro e w1 ⟨rfl, hx1⟩
        have HX1 := Lib.hid hx1
        clear hx1
        go_wp2_with fail
        go_ret
        exact ⟨rfl, HX1.out⟩
  · have CK := Lib.hid (rcheck_no h T)
    clear h hn T
    go_enter Try.func21, Try.ntmps21
    go_wp2_with fail
    refine CK.out.mono ?_
    rintro e w1 ⟨rfl, hx1⟩
    have HX1 := Lib.hid hx1
    clear hx1
    go_wp2_with fail
    go_ret
    exact ⟨rfl, HX1.out⟩
end
end Go.Proofs.Ytggmljookcmnkaa
