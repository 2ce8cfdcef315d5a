/- The contracts of styles.Check, viewportref26.Check. -/
import Derived.Test.YtggmljookcmnkaaK5
import Derived.Test.YtggmljookcmnkaaTz
import Derived.WalkSpells
import Derived.WalkLawsBesides
import Derived.BigRegion
import Derived.Deep.RegionWith
import Derived.Deep.QuietTactic
import Derived.Deep.DeepCutAuto
import Derived.Deep.RegionHeld3
import Derived.Deep.RegionLaw
import Derived.BigQuiet
import Derived.Lib.Hide
namespace Go.Proofs.Ytggmljookcmnkaa
open Go.RowKit
attribute [local go_sem] more_drew more_drewN more_size more_cell more_frozen more_setCell drew_more drewN_more lt_add_r lt_add_r2 lt_add_r3 lt_add_r4 lt_add_r5 lt_add_r6 lt_add_r7 lt_add_r8 lt_add_r9 lt_add_r10 lt_self_r lt_self_r2

set_option maxRecDepth 100000 in
set_option maxHeartbeats 4000000 in
theorem scheck_any (B : Option Addr) (ss : List Sty) (cs : Nat) (g : Gr) (w : World) (hS : Styles w B ss) (hO : StylesOk w ss) (hB : ∀ s ∈ ss, StyB s) (hl : ss.length ≤ 70) (hG : GrOk w g) :
    Calls Try.prog 18 #[.slice B ss.length cs, grV g] w fun e w' => e = .returned (.int .i64 (stylesF g ss)) ∧ Ext w w' := by
  have HS := Lib.hid hS
  have HO := Lib.hid hO
  have HB := Lib.hid hB
  have HGR := Lib.hid hG
  have HF : Hid (stylesF g ss = if gramF g ≠ 0 then gramF g else if 64 < ss.length then 3 else if ss.any (fun s => !mayB g s) then 2 else 0) := Lib.hid rfl
  obtain ⟨b1, hb1⟩ : ∃ b1, w.heap.size = b1 := ⟨_, rfl⟩
  obtain ⟨W1, hW1⟩ : ∃ W1, w.alloc (.cells #[.int .i64 g.terms, .int .i64 g.nons, .int .i64 g.k, .slice g.pA g.prods.length g.pc] 39) = W1 := ⟨_, rfl⟩
  have X1 : Hid (Ext w W1) := Lib.hid (by rw [← hW1]; exact (by repeat (first | exact Ext.refl _ | refine Ext.alloc ?_ _ | refine Ext.more ?_ _ _ | refine Ext.drew ?_ | refine Ext.drewN ?_ _ | refine Ext.setCell ?_ (by simp <;> omega) _)))
  have GA : Hid (GrAt W1 b1 g) := Lib.hid (GrAt.of (by rw [← hW1, ← hb1]; exact heap_alloc_new _ _))
  have CG := Lib.hid (gram_any g W1 (hG.ext X1.out))
  unfold grV at CG ⊢
  clear hS hO hB hG
  go_enter Try.func18, Try.ntmps18
  go_upto_region 1 with fail
  clear hW1 hb1
  obtain ⟨e0, e1, e2, e3, el⟩ := GA.out
  go_wp2_with fail
  refine CG.out.mono ?_
  rintro e w1 ⟨rfl, hx⟩
  have HX := Lib.hid hx
  obtain ⟨e0, e1, e2, e3, el⟩ := GA.out.ext hx
  clear hx CG
  by_cases h0 : gramF g = 0
  · have HTN := Lib.hid (gram_ok h0)
    have HF2 : Hid (stylesF g ss = if 64 < ss.length then 3 else if ss.any (fun s => !mayB g s) then 2 else 0) := Lib.hid (by rw [HF.out, if_neg (by simp [h0])])
    rw [h0]
    clear h0
    by_cases h64 : 64 < ss.length
    · have q0 : decide ((64 : Int) < (ss.length : Int)) = true := decide_eq_true (by omega)
      have HR : Hid (stylesF g ss = 3) := Lib.hid (by rw [HF2.out, if_pos h64])
      clear h64
      go_wp2_with fail
      go_ret
      exact ⟨ret_int HR.out.symm, (X1.out.trans HX.out).trans (by repeat (first | exact Ext.refl _ | refine Ext.alloc ?_ _ | refine Ext.more ?_ _ _ | refine Ext.drew ?_ | refine Ext.drewN ?_ _ | refine Ext.setCell ?_ (by simp <;> omega) _))⟩
    · have q0 : decide ((64 : Int) < (ss.length : Int)) = false := decide_eq_false (by omega)
      have HF3 : Hid (stylesF g ss = if ss.any (fun s => !mayB g s) then 2 else 0) := Lib.hid (by rw [HF2.out, if_neg h64])
      clear h64
      go_wp2_with fail
      clear e0 e1 e2 e3 el
      go_loopw [18] (fun s wi => ∃ i : Nat, i ≤ ss.length ∧ s = .int .i64 i ∧ Hid ((ss.take i).any (fun s => !mayB g s) = false) ∧ Hid (Ext W1 wi)) (fun s _ => ss.length - (intOf s).toNat)
      case atStart => exact ⟨0, by omega, rfl, Lib.hid rfl, Lib.hid (HX.out.trans (by repeat (first | exact Ext.refl _ | refine Ext.alloc ?_ _ | refine Ext.more ?_ _ _ | refine Ext.drew ?_ | refine Ext.drewN ?_ _ | refine Ext.setCell ?_ (by simp <;> omega) _)))⟩
      case round =>
        clear HX
        obtain ⟨i, hi, rfl, hno, hx⟩ := hrel
        have HX := Lib.hid hx.out
        by_cases hlt : i < ss.length
        · obtain ⟨s, hs⟩ : ∃ s, ss[i]? = some s := ⟨_, List.getElem?_eq_getElem hlt⟩
          obtain ⟨b, off, rfl, hb, hcell⟩ := (HS.out.ext (X1.out.trans hx.out)) (by omega)
          obtain ⟨d0, d1, d2, d3⟩ := hcell i s hs
          obtain ⟨e0, e1, e2, e3, el⟩ := GA.out.ext hx.out
          have HSM := Lib.hid hs
          have HSB := Lib.hid (HB.out s (List.mem_of_getElem? hs))
          have HSO := Lib.hid ((HO.out.ext (X1.out.trans hx.out)) s (List.mem_of_getElem? hs))
          clear hcell hs hx
          have CM := Lib.hid (fun w2 (x : Ext wr w2) => may_any g s w2 ⟨HSO.out.1.ext x, HSO.out.2⟩ HSB.out.prio (by omega) HTN.out.1 HTN.out.2)
          unfold styV grV at CM
          obtain ⟨mb, hmb⟩ : ∃ mb, mayB g s = mb := ⟨_, rfl⟩
          rw [hmb] at CM
          have HMB := Lib.hid hmb
          clear hmb
          go_wp2_with fail
          refine (CM.out _ (by repeat (first | exact Ext.refl _ | refine Ext.alloc ?_ _ | refine Ext.more ?_ _ _ | refine Ext.drew ?_ | refine Ext.drewN ?_ _ | refine Ext.setCell ?_ (by simp <;> omega) _))).mono ?_
          rintro e w4 ⟨rfl, hx4⟩
          have HX4 := Lib.hid hx4
          clear hx4 CM e0 e1 e2 e3 el d0 d1 d2 d3
          cases mb with
          | true =>
            have HNX : Hid ((ss.take (i + 1)).any (fun s => !mayB g s) = false) := Lib.hid (by rw [anyT_next (fun s => !mayB g s) HSM.out, hno.out, HMB.out]; rfl)
            go_wp2_with fail
            go_roundw
            case rel => exact ⟨i + 1, by omega, by go_num, HNX, Lib.hid ((HX.out.trans (by repeat (first | exact Ext.refl _ | refine Ext.alloc ?_ _ | refine Ext.more ?_ _ _ | refine Ext.drew ?_ | refine Ext.drewN ?_ _ | refine Ext.setCell ?_ (by simp <;> omega) _))).trans HX4.out)⟩
            case measure => simp [intOf]; omega
          | false =>
            have HR : Hid (stylesF g ss = 2) := Lib.hid (by rw [HF3.out, if_pos (any_hit HSM.out (by rw [HMB.out]; rfl))])
            go_wp2_with fail
            go_ret
            exact ⟨ret_int HR.out.symm, (X1.out.trans (HX.out.trans (by repeat (first | exact Ext.refl _ | refine Ext.alloc ?_ _ | refine Ext.more ?_ _ _ | refine Ext.drew ?_ | refine Ext.drewN ?_ _ | refine Ext.setCell ?_ (by simp <;> omega) _)))).trans HX4.out⟩
        · obtain rfl : i = ss.length := by omega
          have HR : Hid (stylesF g ss = 0) := Lib.hid (by have h1 := hno.out; rw [List.take_length] at h1; rw [HF3.out, h1]; rfl)
          clear hx
          go_wp2_with fail
          go_ret
          exact ⟨ret_int HR.out.symm, (X1.out.trans HX.out).trans (by repeat (first | exact Ext.refl _ | refine Ext.alloc ?_ _ | refine Ext.more ?_ _ _ | refine Ext.drew ?_ | refine Ext.drewN ?_ _ | refine Ext.setCell ?_ (by simp <;> omega) _))⟩
  · have q0 : (gramF g != 0) = true := by simp [h0]
    have HR : Hid (stylesF g ss = gramF g) := Lib.hid (by rw [HF.out, if_pos h0])
    clear h0
    obtain ⟨gv, hgv⟩ : ∃ gv, gramF g = gv := ⟨_, rfl⟩
    rw [hgv] at q0 HR ⊢
    clear hgv
    go_wp2_with fail
    go_ret
    exact ⟨ret_int HR.out.symm, (X1.out.trans HX.out).trans (by repeat (first | exact Ext.refl _ | refine Ext.alloc ?_ _ | refine Ext.more ?_ _ _ | refine Ext.drew ?_ | refine Ext.drewN ?_ _ | refine Ext.setCell ?_ (by simp <;> omega) _))⟩
set_option maxRecDepth 100000 in
set_option maxHeartbeats 4000000 in
theorem rscheck_any (B : Option Addr) (ss : List Sty) (cs : Nat) (g : Gr) (w : World) (hS : Styles w B ss) (hO : StylesOk w ss) (hB : ∀ s ∈ ss, StyB s) (hl : ss.length ≤ 70) (hG : GrOk w g) :
    Calls Try.prog 19 #[.slice B ss.length cs, grV g] w fun e w' => e = .returned (.int .i64 (stylesF g ss)) ∧ Ext w w' := by
  have HS := Lib.hid hS
  have HO := Lib.hid hO
  have HB := Lib.hid hB
  have HGR := Lib.hid hG
  have HF : Hid (stylesF g ss = if gramF g ≠ 0 then gramF g else if 64 < ss.length then 3 else if ss.any (fun s => !mayB g s) then 2 else 0) := Lib.hid rfl
  obtain ⟨b1, hb1⟩ : ∃ b1, w.heap.size = b1 := ⟨_, rfl⟩
  obtain ⟨W1, hW1⟩ : ∃ W1, w.alloc (.cells #[.int .i64 g.terms, .int .i64 g.nons, .int .i64 g.k, .slice g.pA g.prods.length g.pc] 39) = W1 := ⟨_, rfl⟩
  have X1 : Hid (Ext w W1) := Lib.hid (by rw [← hW1]; exact (by repeat (first | exact Ext.refl _ | refine Ext.alloc ?_ _ | refine Ext.more ?_ _ _ | refine Ext.drew ?_ | refine Ext.drewN ?_ _ | refine Ext.setCell ?_ (by simp <;> omega) _)))
  have GA : Hid (GrAt W1 b1 g) := Lib.hid (GrAt.of (by rw [← hW1, ← hb1]; exact heap_alloc_new _ _))
  have CG := Lib.hid (rgram_any g W1 (hG.ext X1.out))
  unfold grV at CG ⊢
  clear hS hO hB hG
  go_enter Try.func19, Try.ntmps19
  go_upto_region 1 with fail
  clear hW1 hb1
  obtain ⟨e0, e1, e2, e3, el⟩ := GA.out
  go_wp2_with fail
  refine CG.out.mono ?_
  rintro e w1 ⟨rfl, hx⟩
  have HX := Lib.hid hx
  obtain ⟨e0, e1, e2, e3, el⟩ := GA.out.ext hx
  clear hx CG
  by_cases h0 : gramF g = 0
  · have HTN := Lib.hid (gram_ok h0)
    have HF2 : Hid (stylesF g ss = if 64 < ss.length then 3 else if ss.any (fun s => !mayB g s) then 2 else 0) := Lib.hid (by rw [HF.out, if_neg (by simp [h0])])
    rw [h0]
    clear h0
    by_cases h64 : 64 < ss.length
    · have q0 : decide ((64 : Int) < (ss.length : Int)) = true := decide_eq_true (by omega)
      have HR : Hid (stylesF g ss = 3) := Lib.hid (by rw [HF2.out, if_pos h64])
      clear h64
      go_wp2_with fail
      go_ret
      exact ⟨ret_int HR.out.symm, (X1.out.trans HX.out).trans (by repeat (first | exact Ext.refl _ | refine Ext.alloc ?_ _ | refine Ext.more ?_ _ _ | refine Ext.drew ?_ | refine Ext.drewN ?_ _ | refine Ext.setCell ?_ (by simp <;> omega) _))⟩
    · have q0 : decide ((64 : Int) < (ss.length : Int)) = false := decide_eq_false (by omega)
      have HF3 : Hid (stylesF g ss = if ss.any (fun s => !mayB g s) then 2 else 0) := Lib.hid (by rw [HF2.out, if_neg h64])
      clear h64
      go_wp2_with fail
      clear e0 e1 e2 e3 el
      go_loopw [6] (fun s wi => ∃ i : Nat, i ≤ ss.length ∧ s = .int .i64 i ∧ Hid ((ss.take i).any (fun s => !mayB g s) = false) ∧ Hid (Ext W1 wi)) (fun s _ => ss.length - (intOf s).toNat)
      case atStart => exact ⟨0, by omega, rfl, Lib.hid rfl, Lib.hid (HX.out.trans (by repeat (first | exact Ext.refl _ | refine Ext.alloc ?_ _ | refine Ext.more ?_ _ _ | refine Ext.drew ?_ | refine Ext.drewN ?_ _ | refine Ext.setCell ?_ (by simp <;> omega) _)))⟩
      case round =>
        clear HX
        obtain ⟨i, hi, rfl, hno, hx⟩ := hrel
        have HX := Lib.hid hx.out
        by_cases hlt : i < ss.length
        · obtain ⟨s, hs⟩ : ∃ s, ss[i]? = some s := ⟨_, List.getElem?_eq_getElem hlt⟩
          obtain ⟨b, off, rfl, hb, hcell⟩ := (HS.out.ext (X1.out.trans hx.out)) (by omega)
          obtain ⟨d0, d1, d2, d3⟩ := hcell i s hs
          obtain ⟨e0, e1, e2, e3, el⟩ := GA.out.ext hx.out
          have HSM := Lib.hid hs
          have HSB := Lib.hid (HB.out s (List.mem_of_getElem? hs))
          have HSO := Lib.hid ((HO.out.ext (X1.out.trans hx.out)) s (List.mem_of_getElem? hs))
          clear hcell hs hx
          have HM : Hid (mayB g s = (!oddS g s && !s.path.any (badX g))) := Lib.hid rfl
          have HOD : Hid (oddS g s = (decide (s.kind < -1) || decide (g.terms ≤ s.kind) || decide (s.st < 1) || decide (s.prio < -1000) || decide (1000 < s.prio) || decide (8 < s.path.length))) := Lib.hid rfl
          by_cases k1 : s.kind < -1
          · have q1 : decide (s.kind < -1) = true := decide_eq_true (by first | exact k1 | omega)
            have HR : Hid (stylesF g ss = 2) := Lib.hid (by rw [HF3.out, if_pos (any_hit HSM.out (by rw [HM.out, HOD.out]; simp [k1]))])
            go_wp2_with fail
            go_ret
            exact ⟨ret_int HR.out.symm, (X1.out.trans HX.out).trans (by repeat (first | exact Ext.refl _ | refine Ext.alloc ?_ _ | refine Ext.more ?_ _ _ | refine Ext.drew ?_ | refine Ext.drewN ?_ _ | refine Ext.setCell ?_ (by simp <;> omega) _))⟩
          have q1 : decide (s.kind < -1) = false := decide_eq_false (by first | exact k1 | omega)
          by_cases k2 : g.terms ≤ s.kind
          · have q2 : decide (g.terms ≤ s.kind) = true := decide_eq_true (by first | exact k2 | omega)
            have HR : Hid (stylesF g ss = 2) := Lib.hid (by rw [HF3.out, if_pos (any_hit HSM.out (by rw [HM.out, HOD.out]; simp [k2]))])
            go_wp2_with fail
            go_ret
            exact ⟨ret_int HR.out.symm, (X1.out.trans HX.out).trans (by repeat (first | exact Ext.refl _ | refine Ext.alloc ?_ _ | refine Ext.more ?_ _ _ | refine Ext.drew ?_ | refine Ext.drewN ?_ _ | refine Ext.setCell ?_ (by simp <;> omega) _))⟩
          have q2 : decide (g.terms ≤ s.kind) = false := decide_eq_false (by first | exact k2 | omega)
          by_cases k3 : s.st < 1
          · have q3 : decide (s.st < 1) = true := decide_eq_true (by first | exact k3 | omega)
            have HR : Hid (stylesF g ss = 2) := Lib.hid (by rw [HF3.out, if_pos (any_hit HSM.out (by rw [HM.out, HOD.out]; simp [k3]))])
            go_wp2_with fail
            go_ret
            exact ⟨ret_int HR.out.symm, (X1.out.trans HX.out).trans (by repeat (first | exact Ext.refl _ | refine Ext.alloc ?_ _ | refine Ext.more ?_ _ _ | refine Ext.drew ?_ | refine Ext.drewN ?_ _ | refine Ext.setCell ?_ (by simp <;> omega) _))⟩
          have q3 : decide (s.st < 1) = false := decide_eq_false (by first | exact k3 | omega)
          by_cases k4 : s.prio < -1000
          · have q4 : decide (s.prio < -1000) = true := decide_eq_true (by first | exact k4 | omega)
            have HR : Hid (stylesF g ss = 2) := Lib.hid (by rw [HF3.out, if_pos (any_hit HSM.out (by rw [HM.out, HOD.out]; simp [k4]))])
            go_wp2_with fail
            go_ret
            exact ⟨ret_int HR.out.symm, (X1.out.trans HX.out).trans (by repeat (first | exact Ext.refl _ | refine Ext.alloc ?_ _ | refine Ext.more ?_ _ _ | refine Ext.drew ?_ | refine Ext.drewN ?_ _ | refine Ext.setCell ?_ (by simp <;> omega) _))⟩
          have q4 : decide (s.prio < -1000) = false := decide_eq_false (by first | exact k4 | omega)
          by_cases k5 : 1000 < s.prio
          · have q5 : decide (1000 < s.prio) = true := decide_eq_true (by first | exact k5 | omega)
            have HR : Hid (stylesF g ss = 2) := Lib.hid (by rw [HF3.out, if_pos (any_hit HSM.out (by rw [HM.out, HOD.out]; simp [k5]))])
            go_wp2_with fail
            go_ret
            exact ⟨ret_int HR.out.symm, (X1.out.trans HX.out).trans (by repeat (first | exact Ext.refl _ | refine Ext.alloc ?_ _ | refine Ext.more ?_ _ _ | refine Ext.drew ?_ | refine Ext.drewN ?_ _ | refine Ext.setCell ?_ (by simp <;> omega) _))⟩
          have q5 : decide (1000 < s.prio) = false := decide_eq_false (by first | exact k5 | omega)
          by_cases k6 : 8 < s.path.length
          · have q6 : decide ((8 : Int) < (s.path.length : Int)) = true := decide_eq_true (by first | exact k6 | omega)
            have HR : Hid (stylesF g ss = 2) := Lib.hid (by rw [HF3.out, if_pos (any_hit HSM.out (by rw [HM.out, HOD.out]; simp [k6]))])
            go_wp2_with fail
            go_ret
            exact ⟨ret_int HR.out.symm, (X1.out.trans HX.out).trans (by repeat (first | exact Ext.refl _ | refine Ext.alloc ?_ _ | refine Ext.more ?_ _ _ | refine Ext.drew ?_ | refine Ext.drewN ?_ _ | refine Ext.setCell ?_ (by simp <;> omega) _))⟩
          have q6 : decide ((8 : Int) < (s.path.length : Int)) = false := decide_eq_false (by first | exact k6 | omega)
          have HMP : Hid (mayB g s = !s.path.any (badX g)) := Lib.hid (by
            rw [HM.out, HOD.out, decide_eq_false k1, decide_eq_false k2, decide_eq_false k3, decide_eq_false k4, decide_eq_false k5, decide_eq_false k6]
            rfl)
          clear k1 k2 k3 k4 k5 k6
          go_wp2_with fail
          obtain ⟨bp, hbp⟩ : ∃ bp, wr.heap.size = bp := ⟨_, rfl⟩
          obtain ⟨W5, hW5⟩ : ∃ W5, wr.alloc (.cells #[.int .i64 s.kind, .slice s.pA s.path.length s.pc, .int .i64 s.st, .int .i64 s.prio] 43) = W5 := ⟨_, rfl⟩
          have X5 : Hid (Ext wr W5) := Lib.hid (by rw [← hW5]; exact (by repeat (first | exact Ext.refl _ | refine Ext.alloc ?_ _ | refine Ext.more ?_ _ _ | refine Ext.drew ?_ | refine Ext.drewN ?_ _ | refine Ext.setCell ?_ (by simp <;> omega) _)))
          have B5 : Hid (W5.heap[bp]? = some (.cells #[.int .i64 s.kind, .slice s.pA s.path.length s.pc, .int .i64 s.st, .int .i64 s.prio] 43)) := Lib.hid (by rw [← hW5, ← hbp]; exact heap_alloc_new _ _)
          rw [hW5, hbp]
          have HX5 := Lib.hid (HX.out.trans X5.out)
          clear hW5 hbp e0 e1 e2 e3 el d0 d1 d2 d3 hb q1 q2 q3 q4 q5 q6
          go_loopw [8] (fun v wi => ∃ k : Nat, k ≤ s.path.length ∧ v = .int .i64 k ∧ Hid ((s.path.take k).any (badX g) = false) ∧ Hid (Ext W5 wi)) (fun v _ => s.path.length - (intOf v).toNat)
          case atStart => exact ⟨0, by omega, rfl, Lib.hid rfl, Lib.hid (by repeat (first | exact Ext.refl _ | refine Ext.alloc ?_ _ | refine Ext.more ?_ _ _ | refine Ext.drew ?_ | refine Ext.drewN ?_ _ | refine Ext.setCell ?_ (by simp <;> omega) _))⟩
          case round =>
            obtain ⟨k, hk, rfl, hnk, hx⟩ := hrel
            have HX6 := Lib.hid hx.out
            have hb5 := ext_blk B5.out hx.out
            have f1 := cell_of_row _ _ 1 _ _ _ hb5
            simp at f1
            have fl := lt_of_heap hb5
            obtain ⟨e0, e1, e2, e3, el⟩ := GA.out.ext (HX5.out.trans hx.out)
            by_cases hlk : k < s.path.length
            · obtain ⟨x, hxk⟩ : ∃ x, s.path[k]? = some x := ⟨_, List.getElem?_eq_getElem hlk⟩
              have hI := HSO.out.1.ext (X5.out.trans hx.out)
              obtain ⟨br, ofr, hrA, hbr, hcr⟩ := hI (by omega)
              have d := hcr k hlk
              rw [List.getD_eq_getElem?_getD, hxk] at d
              rw [hrA] at f1
              change wr.cell? ⟨br, ofr + k, none⟩ = some (.int .i64 x) at d
              have HXK := Lib.hid hxk
              have HT1 := HTN.out
              have wS : IntKind.i64.wrap (g.terms + g.nons) = g.terms + g.nons := IntWalk.i64_in _ (by omega)
              have c1 := HSB.out.cap
              have c2 := HSB.out.top
              clear hb5 hI hcr hxk hx HT1
              have HBX : Hid (badX g x = (decide (x ≠ -3) && (decide (x < g.terms) || decide (g.terms + g.nons ≤ x)))) := Lib.hid rfl
              by_cases l0 : x = -3
              · have q0' : (x != -3) = false := by simp [l0]
                have HBV : Hid (badX g x = false) := Lib.hid (by rw [HBX.out]; simp [l0])
                clear l0
                have HNX : Hid ((s.path.take (k + 1)).any (badX g) = false) := Lib.hid (by rw [anyT_next (badX g) HXK.out, hnk.out, HBV.out]; rfl)
                go_upto_region 15 with fail
                refine wp_region_bt (29) (softs_bt [0, 1, 2, 3, 4, 5, 6, 7, 8, 9, 10, 11, 12, 13, 14, 15, 16, 17, 18, 19, 20, 21, 22, 23, 24, 25, 26, 27, 28] .fin) (by kernel_rfl) (by kernel_rfl) ?_
                (refine bt_softs _ fun K hK => ?_); (simp only [pick, nthC]); (repeat (go_big_quiet_step (fail))); (refine wpQuiet_nil (hK _ ?_)); (clear hK K)
                (refine bt_fin ?_)
                go_wp2_with fail
                go_roundw
                case rel => exact ⟨k + 1, by omega, by go_num, HNX, Lib.hid (HX6.out.trans (by repeat (first | exact Ext.refl _ | refine Ext.alloc ?_ _ | refine Ext.more ?_ _ _ | refine Ext.drew ?_ | refine Ext.drewN ?_ _ | refine Ext.setCell ?_ (by simp <;> omega) _)))⟩
                case measure => simp [intOf]; omega
              have q0' : (x != -3) = true := by simp [l0]
              have q0'' : decide (x ≠ -3) = true := by simp [l0]
              by_cases l1 : x < g.terms
              · have q1' : decide (x < g.terms) = true := decide_eq_true l1
                have HBV : Hid (badX g x = true) := Lib.hid (by rw [HBX.out, q0'', q1']; rfl)
                clear l0 l1 q0''
                have HR : Hid (stylesF g ss = 2) := Lib.hid (by rw [HF3.out, if_pos (any_hit HSM.out (by rw [HMP.out, any_hit HXK.out HBV.out]; rfl))])
                go_upto_region 15 with fail
                refine wp_region_bt (29) (softs_bt [0, 1, 2, 3, 4, 5, 6, 7, 8, 9, 10, 11, 12, 13, 14, 15, 16, 17, 18, 19, 20, 21, 22, 23, 24, 25, 26, 27, 28] .fin) (by kernel_rfl) (by kernel_rfl) ?_
                (refine bt_softs _ fun K hK => ?_); (simp only [pick, nthC]); (repeat (go_big_quiet_step (fail))); (refine wpQuiet_nil (hK _ ?_)); (clear hK K)
                (refine bt_fin ?_)
                go_wp2_with fail
                go_ret
                exact ⟨ret_int HR.out.symm, ((X1.out.trans HX5.out).trans HX6.out).trans (by repeat (first | exact Ext.refl _ | refine Ext.alloc ?_ _ | refine Ext.more ?_ _ _ | refine Ext.drew ?_ | refine Ext.drewN ?_ _ | refine Ext.setCell ?_ (by simp <;> omega) _))⟩
              have q1' : decide (x < g.terms) = false := decide_eq_false l1
              by_cases l2 : g.terms + g.nons ≤ x
              · have q2' : decide (g.terms + g.nons ≤ x) = true := decide_eq_true l2
                have HBV : Hid (badX g x = true) := Lib.hid (by rw [HBX.out, q0'', q1', q2']; rfl)
                clear l0 l1 l2 q0''
                have HR : Hid (stylesF g ss = 2) := Lib.hid (by rw [HF3.out, if_pos (any_hit HSM.out (by rw [HMP.out, any_hit HXK.out HBV.out]; rfl))])
                go_upto_region 15 with fail
                refine wp_region_bt (29) (softs_bt [0, 1, 2, 3, 4, 5, 6, 7, 8, 9, 10, 11, 12, 13, 14, 15, 16, 17, 18, 19, 20, 21, 22, 23, 24, 25, 26, 27, 28] .fin) (by kernel_rfl) (by kernel_rfl) ?_
                (refine bt_softs _ fun K hK => ?_); (simp only [pick, nthC]); (repeat (go_big_quiet_step (fail))); (refine wpQuiet_nil (hK _ ?_)); (clear hK K)
                (refine bt_fin ?_)
                go_wp2_with fail
                go_ret
                exact ⟨ret_int HR.out.symm, ((X1.out.trans HX5.out).trans HX6.out).trans (by repeat (first | exact Ext.refl _ | refine Ext.alloc ?_ _ | refine Ext.more ?_ _ _ | refine Ext.drew ?_ | refine Ext.drewN ?_ _ | refine Ext.setCell ?_ (by simp <;> omega) _))⟩
              have q2' : decide (g.terms + g.nons ≤ x) = false := decide_eq_false l2
              have HBV : Hid (badX g x = false) := Lib.hid (by rw [HBX.out, q0'', q1', q2']; rfl)
              clear l0 l1 l2 q0''
              have HNX : Hid ((s.path.take (k + 1)).any (badX g) = false) := Lib.hid (by rw [anyT_next (badX g) HXK.out, hnk.out, HBV.out]; rfl)
              go_upto_region 15 with fail
              refine wp_region_bt (29) (softs_bt [0, 1, 2, 3, 4, 5, 6, 7, 8, 9, 10, 11, 12, 13, 14, 15, 16, 17, 18, 19, 20, 21, 22, 23, 24, 25, 26, 27, 28] .fin) (by kernel_rfl) (by kernel_rfl) ?_
              (refine bt_softs _ fun K hK => ?_); (simp only [pick, nthC]); (repeat (go_big_quiet_step (fail))); (refine wpQuiet_nil (hK _ ?_)); (clear hK K)
              (refine bt_fin ?_)
              go_wp2_with fail
              go_roundw
              case rel => exact ⟨k + 1, by omega, by go_num, HNX, Lib.hid (HX6.out.trans (by repeat (first | exact Ext.refl _ | refine Ext.alloc ?_ _ | refine Ext.more ?_ _ _ | refine Ext.drew ?_ | refine Ext.drewN ?_ _ | refine Ext.setCell ?_ (by simp <;> omega) _)))⟩
              case measure => simp [intOf]; omega
            · obtain rfl : k = s.path.length := by omega
              have HNX : Hid ((ss.take (i + 1)).any (fun s => !mayB g s) = false) := Lib.hid (by have h1 := hnk.out; rw [List.take_length] at h1; rw [anyT_next (fun s => !mayB g s) HSM.out, hno.out, HMP.out, h1]; rfl)
              clear hx hb5
              go_wp2_with fail
              go_roundw
              case rel => exact ⟨i + 1, by omega, by go_num, HNX, Lib.hid ((HX5.out.trans HX6.out).trans (by repeat (first | exact Ext.refl _ | refine Ext.alloc ?_ _ | refine Ext.more ?_ _ _ | refine Ext.drew ?_ | refine Ext.drewN ?_ _ | refine Ext.setCell ?_ (by simp <;> omega) _)))⟩
              case measure => simp [intOf]; omega
        · obtain rfl : i = ss.length := by omega
          have HR : Hid (stylesF g ss = 0) := Lib.hid (by have h1 := hno.out; rw [List.take_length] at h1; rw [HF3.out, h1]; rfl)
          clear hx
          go_wp2_with fail
          go_ret
          exact ⟨ret_int HR.out.symm, (X1.out.trans HX.out).trans (by repeat (first | exact Ext.refl _ | refine Ext.alloc ?_ _ | refine Ext.more ?_ _ _ | refine Ext.drew ?_ | refine Ext.drewN ?_ _ | refine Ext.setCell ?_ (by simp <;> omega) _))⟩
  · have q0 : (gramF g != 0) = true := by simp [h0]
    have HR : Hid (stylesF g ss = gramF g) := Lib.hid (by rw [HF.out, if_pos h0])
    clear h0
    obtain ⟨gv, hgv⟩ : ∃ gv, gramF g = gv := ⟨_, rfl⟩
    rw [hgv] at q0 HR ⊢
    clear hgv
    go_wp2_with fail
    go_ret
    exact ⟨ret_int HR.out.symm, (X1.out.trans HX.out).trans (by repeat (first | exact Ext.refl _ | refine Ext.alloc ?_ _ | refine Ext.more ?_ _ _ | refine Ext.drew ?_ | refine Ext.drewN ?_ _ | refine Ext.setCell ?_ (by simp <;> omega) _))⟩
end Go.Proofs.Ytggmljookcmnkaa
