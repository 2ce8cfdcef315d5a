/- The contracts of lives, light of chapter 16. -/
import Derived.Test.YtaffaeompdlecaaB7
import Derived.WalkSpells
import Derived.WalkLawsBesides
import Derived.BigRegion
import Derived.Deep.RegionWith
import Derived.Deep.QuietTactic
import Derived.Deep.DeepCutAuto
import Derived.Deep.RegionHeld3
import Derived.Deep.RegionLaw
import Derived.BigQuiet
import Derived.Lib.Hide
namespace Go.Proofs.Ytaffaeompdlecaa
open Go.RowKit
attribute [local go_sem] more_drew more_drewN more_size more_cell more_frozen more_setCell drew_more drewN_more lt_add_r lt_add_r2 lt_add_r3 lt_add_r4 lt_add_r5 lt_add_r6 lt_add_r7 lt_add_r8 lt_add_r9 lt_add_r10 lt_self_r lt_self_r2

set_option maxRecDepth 100000 in
set_option maxHeartbeats 2000000 in
theorem lives16_any (w : World) : Calls Try.prog 20 #[] w fun e w' => e = .returned (.bool true) ∧ Ext w w' := by
  go_enter Try.func20, Try.ntmps20
  go_wp2_with fail
  refine (example16_any _).mono ?_
  rintro e w2 ⟨rfl, _, hp2, hx2⟩
  have HX2 := Lib.hid hx2
  have HP2 := Lib.hid hp2
  clear hx2 hp2
  go_wp2_with fail
  refine (check_ok HP2.out (by rw [exP_nds]; exact exN_tree)).mono ?_
  rintro e w3 ⟨rfl, hx3⟩
  have HX3 := Lib.hid (HX2.out.trans hx3)
  clear hx3 HP2 HX2
  go_wp2_with fail
  refine (example16_any _).mono ?_
  rintro e w4 ⟨rfl, _, hp4, hx4⟩
  have HX4 := Lib.hid (HX3.out.trans hx4)
  have HP4 := Lib.hid hp4
  clear hx4 hp4 HX3
  go_wp2_with fail
  refine (Leaves_yes HP4.out (by rw [exP_nds]; exact exN_tree)).mono ?_
  rintro e w5 ⟨A, c, rfl, ho, hx5⟩
  rw [exP_nds, exN_leaves] at ho
  have HX5 := Lib.hid (HX4.out.trans hx5)
  have HO := Lib.hid ho
  clear hx5 HX4 HP4 ho
  go_wp2_with fail
  refine (same_any A _ [2, 3] [2, 3] c 2 _ (HO.out.ints.1.ext (by repeat (first | exact Ext.refl _ | refine Ext.alloc ?_ _ | refine Ext.more ?_ _ _ | refine Ext.drew ?_ | refine Ext.drewN ?_ _ | refine Ext.setCell ?_ (by simp <;> omega) _))) (Ints.of_block (heap_alloc_new w5 _) rfl) (by decide) (by decide)).mono ?_
  rintro e w6 ⟨rfl, hx6⟩
  have HX6 := Lib.hid ((HX5.out.alloc _).trans hx6)
  clear hx6
  go_wp2_with fail
  go_ret
  exact ⟨rfl, HX6.out⟩
/-- two trees, an edit are gone through -/
def Light2 (most : Nat) (ps qs : List Prt) (a d i : Int) (w : World) (e : Ending) (w' : World) : Prop := ∃ b : Bool, e = .returned (.bool b) ∧ (b = true → LightP most ps ∧ LightP most qs ∧ LightEd a d i) ∧ Ext w w'
set_option maxRecDepth 100000 in
set_option maxHeartbeats 2000000 in
theorem light16_any (A B : Option Addr) (c1 c2 : Nat) (ps qs : List Prt) (a d i : Int) (w : World) (hP : Prts w A ps) (hl : ps.length ≤ 9223372036854775807) (hk : KidsLt ps) (hQ : Prts w B qs) (hlq : qs.length ≤ 9223372036854775807) (hkq : KidsLt qs) :
    Calls Try.prog 21 #[.slice A ps.length c1, .slice B qs.length c2, .agg #[.int .i64 a, .int .i64 d, .int .i64 i]] w (Light2 120 ps qs a d i w) := by
  have C1 := Lib.hid (fun w1 (x : Ext w w1) => lightParts_any 120 A c1 ps w1 (by omega) (hP.ext x) hl hk)
  have C2 := Lib.hid (fun w1 (x : Ext w w1) => lightParts_any 120 B c2 qs w1 (by omega) (hQ.ext x) hlq hkq)
  clear hP hQ hk hkq
  go_enter Try.func21, Try.ntmps21
  go_wp2_with fail
  refine (C1.out _ (by repeat (first | exact Ext.refl _ | refine Ext.alloc ?_ _ | refine Ext.more ?_ _ _ | refine Ext.drew ?_ | refine Ext.drewN ?_ _ | refine Ext.setCell ?_ (by simp <;> omega) _))).mono ?_
  rintro e w2 ⟨b1, rfl, h1, hx2⟩
  have HX2 : Hid (Ext w w2) := Lib.hid (Ext.trans (by repeat (first | exact Ext.refl _ | refine Ext.alloc ?_ _ | refine Ext.more ?_ _ _ | refine Ext.drew ?_ | refine Ext.drewN ?_ _ | refine Ext.setCell ?_ (by simp <;> omega) _)) hx2)
  have hx2' := Lib.hid hx2
  have H1 := Lib.hid h1
  clear hx2 h1
  cases b1 with
  | false =>
    go_wp2_with fail
    go_ret
    exact ⟨false, rfl, nofun, HX2.out⟩
  | true =>
    go_wp2_with fail
    refine (C2.out _ HX2.out).mono ?_
    rintro e w3 ⟨b2, rfl, h2, hx3⟩
    have HX3 := Lib.hid (HX2.out.trans hx3)
    have hc : w3.cell? ⟨w.heap.size, 0, none⟩ = some (.int .i64 a) ∧ w3.cell? ⟨w.heap.size, 1, none⟩ = some (.int .i64 d) ∧ w3.cell? ⟨w.heap.size, 2, none⟩ = some (.int .i64 i) ∧ w.heap.size < w3.heap.size := by
      have hh := ext_block (heap_alloc_new w (.cells #[.int .i64 a, .int .i64 d, .int .i64 i] 26)) (hx2'.out.trans hx3)
      have e0 := cell_of_row _ _ 0 _ _ _ hh
      have e1 := cell_of_row _ _ 1 _ _ _ hh
      have e2 := cell_of_row _ _ 2 _ _ _ hh
      exact ⟨by simpa using e0, by simpa using e1, by simpa using e2, lt_of_heap hh⟩
    obtain ⟨k0, k1, k2, k3⟩ := hc
    have H2 := Lib.hid h2
    clear hx3 h2 hx2'
    cases b2 with
    | false =>
      go_wp2_with fail
      go_ret
      exact ⟨false, rfl, nofun, HX3.out⟩
    | true =>
      go_wp2_with fail
      refine (lightEdit_any a d i _).mono ?_
      rintro e w4 ⟨b3, rfl, h3, hx4⟩
      have HX4 := Lib.hid (HX3.out.trans hx4)
      have H3 := Lib.hid h3
      clear hx4 h3
      go_wp2_with fail
      go_ret
      exact ⟨b3, rfl, fun hb => ⟨H1.out (by simp), H2.out (by simp), H3.out hb⟩, HX4.out⟩
end Go.Proofs.Ytaffaeompdlecaa
