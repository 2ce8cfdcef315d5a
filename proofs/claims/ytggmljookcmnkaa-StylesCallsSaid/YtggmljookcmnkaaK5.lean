/- The contracts of styles.may, styles.Check. -/
import Derived.Test.YtggmljookcmnkaaK3
import Derived.Test.YtggmljookcmnkaaY1
import Derived.Test.YtggmljookcmnkaaLo
import Derived.WalkSpells
import Derived.WalkLawsBesides
import Derived.BigRegion
import Derived.Deep.RegionWith
import Derived.Deep.QuietTactic
import Derived.Deep.DeepCutAuto
import Derived.Deep.RegionHeld3
import Derived.Deep.RegionLaw
import Derived.BigQuiet
import Derived.Lib.Hide
namespace Go.Proofs.Ytggmljookcmnkaa
open Go.RowKit
attribute [local go_sem] more_drew more_drewN more_size more_cell more_frozen more_setCell drew_more drewN_more lt_add_r lt_add_r2 lt_add_r3 lt_add_r4 lt_add_r5 lt_add_r6 lt_add_r7 lt_add_r8 lt_add_r9 lt_add_r10 lt_self_r lt_self_r2

theorem gram_ok {g : Gr} (h : gramF g = 0) : (1 ≤ g.terms ∧ g.terms ≤ 8) ∧ (1 ≤ g.nons ∧ g.nons ≤ 16) := by
  unfold gramF at h
  by_cases h1 : GrBig g
  · rw [if_pos h1] at h; cases h
  · rw [if_neg h1] at h
    by_cases h2 : g.prods.any longP = true
    · rw [if_pos h2] at h; cases h
    · rw [if_neg h2] at h
      by_cases h3 : GrFew g
      · rw [if_pos h3] at h; cases h
      · unfold GrBig at h1
        unfold GrFew at h3
        omega
def styV (s : Sty) : Value := .agg #[.int .i64 s.kind, .slice s.pA s.path.length s.pc, .int .i64 s.st, .int .i64 s.prio]
/-- a symbol that no path has -/
def badX (g : Gr) (x : Int) : Bool := decide (x ≠ -3) && (decide (x < g.terms) || decide (g.terms + g.nons ≤ x))
def oddS (g : Gr) (s : Sty) : Bool := decide (s.kind < -1) || decide (g.terms ≤ s.kind) || decide (s.st < 1) || decide (s.prio < -1000) || decide (1000 < s.prio) || decide (8 < s.path.length)
def mayB (g : Gr) (s : Sty) : Bool := !oddS g s && !s.path.any (badX g)
/-- what is told of styles -/
def stylesF (g : Gr) (ss : List Sty) : Int := if gramF g ≠ 0 then gramF g else if 64 < ss.length then 3 else if ss.any (fun s => !mayB g s) then 2 else 0
set_option maxHeartbeats 1000000 in
theorem badX1 (g : Gr) (b : Nat) (x : Int) (w : World) (h : GrAt w b g) (ht : 1 ≤ g.terms ∧ g.terms ≤ 8) (hn : 1 ≤ g.nons ∧ g.nons ≤ 16) :
    Calls Try.prog 118 #[.int .i64 x, .pointer (some ⟨b, 0, none⟩)] w fun e w' => e = .returned (.bool (badX g x)) ∧ Ext w w' := by
  obtain ⟨c0, c1, _, _, hl⟩ := h
  have w1 : wrap64 (g.terms + g.nons) = g.terms + g.nons := IntWalk.wrap64_in _ (by omega)
  have HB : Hid (badX g x = (decide (x ≠ -3) && (decide (x < g.terms) || decide (g.terms + g.nons ≤ x)))) := Lib.hid rfl
  by_cases h0 : x = -3
  · have q0 : (x != -3) = false := by simp [h0]
    have HR : Hid (badX g x = false) := Lib.hid (by rw [HB.out]; simp [h0])
    clear h0
    go_enter Try.func118, Try.ntmps118
    go_wp2_with fail
    go_ret
    exact ⟨ret_bool HR.out.symm, (by repeat (first | exact Ext.refl _ | refine Ext.alloc ?_ _ | refine Ext.more ?_ _ _ | refine Ext.drew ?_ | refine Ext.drewN ?_ _ | refine Ext.setCell ?_ (by simp <;> omega) _))⟩
  · have q0 : (x != -3) = true := by simp [h0]
    have q9 : decide (x ≠ -3) = true := by simp [h0]
    clear h0
    by_cases h1 : x < g.terms
    · have q1 : decide (x < g.terms) = true := decide_eq_true h1
      have HR : Hid (badX g x = true) := Lib.hid (by rw [HB.out, q9, q1]; rfl)
      clear q9
      go_enter Try.func118, Try.ntmps118
      go_wp2_with fail
      go_ret
      exact ⟨ret_bool HR.out.symm, (by repeat (first | exact Ext.refl _ | refine Ext.alloc ?_ _ | refine Ext.more ?_ _ _ | refine Ext.drew ?_ | refine Ext.drewN ?_ _ | refine Ext.setCell ?_ (by simp <;> omega) _))⟩
    · have q1 : decide (x < g.terms) = false := decide_eq_false h1
      have HR : Hid (badX g x = decide (g.terms + g.nons ≤ x)) := Lib.hid (by rw [HB.out, q9, q1]; rfl)
      clear q9
      go_enter Try.func118, Try.ntmps118
      go_wp2_with fail
      go_ret
      exact ⟨ret_bool HR.out.symm, (by repeat (first | exact Ext.refl _ | refine Ext.alloc ?_ _ | refine Ext.more ?_ _ _ | refine Ext.drew ?_ | refine Ext.drewN ?_ _ | refine Ext.setCell ?_ (by simp <;> omega) _))⟩
theorem prio_abs (pr : Int) (hp : I64 pr) : ∃ np mx : Int, wrap64 (-pr) = np ∧ IntKind.i64.wrap (-pr) = np ∧ (if pr < np then np else pr) = mx ∧ (1000 < mx → pr < -1000 ∨ 1000 < pr) ∧ (¬ 1000 < mx → pr ≤ 1000) := by
  unfold I64 at hp
  by_cases h : pr = -9223372036854775808
  · subst h
    exact ⟨-9223372036854775808, -9223372036854775808, by unfold wrap64; decide, by rw [IntKind.wrap_i64]; decide, by decide, by omega, by omega⟩
  · refine ⟨-pr, if pr < -pr then -pr else pr, IntWalk.wrap64_in _ (by omega), IntWalk.i64_in _ (by omega), rfl, ?_, ?_⟩
    · split <;> omega
    · split <;> omega
set_option maxRecDepth 100000 in
set_option maxHeartbeats 4000000 in
theorem may_any (g : Gr) (s : Sty) (w : World) (hs : styOk w s) (hp : I64 s.prio) (hcap : s.path.length ≤ 9223372036854775000 ∨ 8 < s.path.length) (ht : 1 ≤ g.terms ∧ g.terms ≤ 8) (hn : 1 ≤ g.nons ∧ g.nons ≤ 16) :
    Calls Try.prog 71 #[styV s, grV g] w fun e w' => e = .returned (.bool (mayB g s)) ∧ Ext w w' := by
  have HM : Hid (mayB g s = (!oddS g s && !s.path.any (badX g))) := Lib.hid rfl
  have HOD : Hid (oddS g s = (decide (s.kind < -1) || decide (g.terms ≤ s.kind) || decide (s.st < 1) || decide (s.prio < -1000) || decide (1000 < s.prio) || decide (8 < s.path.length))) := Lib.hid rfl
  obtain ⟨np, mx, m1, m2, m3, m4, m5⟩ := prio_abs s.prio hp
  have M4 := Lib.hid m4
  have M5 := Lib.hid m5
  have HPI := Lib.hid hs.1
  have HTT := Lib.hid ht
  have HNN := Lib.hid hn
  have h63 := hs.2
  have hrun : ∀ (ts : Array TypeId) (t : TypeId) (v : World), (Builtin.max_ ts t #[.int .i64 s.prio, .int .i64 np]).run Try.prog v = .ok (.int .i64 mx) v := fun ts t v => by
    have := run_max_int2 (P := Try.prog) (w := v) ts t .i64 .i64 s.prio np
    rw [this, ← m3]
  unfold styV grV
  clear m3 m4 m5 hs ht hn hp
  by_cases k1 : s.kind < -1
  · have q1 : decide (s.kind < -1) = true := decide_eq_true k1
    have HR : Hid (mayB g s = false) := Lib.hid (by rw [HM.out, HOD.out, q1]; rfl)
    go_enter Try.func71, Try.ntmps71
    go_wp2_with fail
    go_ret
    exact ⟨ret_bool HR.out.symm, (by repeat (first | exact Ext.refl _ | refine Ext.alloc ?_ _ | refine Ext.more ?_ _ _ | refine Ext.drew ?_ | refine Ext.drewN ?_ _ | refine Ext.setCell ?_ (by simp <;> omega) _))⟩
  have q1 : decide (s.kind < -1) = false := decide_eq_false k1
  by_cases k2 : g.terms ≤ s.kind
  · have q2 : decide (g.terms ≤ s.kind) = true := decide_eq_true k2
    have HR : Hid (mayB g s = false) := Lib.hid (by rw [HM.out, HOD.out, q1, q2]; rfl)
    go_enter Try.func71, Try.ntmps71
    go_wp2_with fail
    go_ret
    exact ⟨ret_bool HR.out.symm, (by repeat (first | exact Ext.refl _ | refine Ext.alloc ?_ _ | refine Ext.more ?_ _ _ | refine Ext.drew ?_ | refine Ext.drewN ?_ _ | refine Ext.setCell ?_ (by simp <;> omega) _))⟩
  have q2 : decide (g.terms ≤ s.kind) = false := decide_eq_false k2
  by_cases k3 : s.st < 1
  · have q3 : decide (s.st < 1) = true := decide_eq_true k3
    have HR : Hid (mayB g s = false) := Lib.hid (by rw [HM.out, HOD.out, q1, q2, q3]; rfl)
    go_enter Try.func71, Try.ntmps71
    go_wp2_with fail
    go_ret
    exact ⟨ret_bool HR.out.symm, (by repeat (first | exact Ext.refl _ | refine Ext.alloc ?_ _ | refine Ext.more ?_ _ _ | refine Ext.drew ?_ | refine Ext.drewN ?_ _ | refine Ext.setCell ?_ (by simp <;> omega) _))⟩
  have q3 : decide (s.st < 1) = false := decide_eq_false k3
  by_cases k4 : 1000 < mx
  · have q4 : decide (1000 < mx) = true := decide_eq_true k4
    have HR : Hid (mayB g s = false) := Lib.hid (by
      rw [HM.out, HOD.out]
      rcases M4.out k4 with h | h <;> simp [h])
    go_enter Try.func71, Try.ntmps71
    go_wp2_with fail
    go_ret
    exact ⟨ret_bool HR.out.symm, (by repeat (first | exact Ext.refl _ | refine Ext.alloc ?_ _ | refine Ext.more ?_ _ _ | refine Ext.drew ?_ | refine Ext.drewN ?_ _ | refine Ext.setCell ?_ (by simp <;> omega) _))⟩
  have q4 : decide (1000 < mx) = false := decide_eq_false k4
  by_cases k5 : s.prio < -1000
  · have q5 : decide (s.prio < -1000) = true := decide_eq_true k5
    have HR : Hid (mayB g s = false) := Lib.hid (by rw [HM.out, HOD.out, q5]; simp)
    go_enter Try.func71, Try.ntmps71
    go_wp2_with fail
    go_ret
    exact ⟨ret_bool HR.out.symm, (by repeat (first | exact Ext.refl _ | refine Ext.alloc ?_ _ | refine Ext.more ?_ _ _ | refine Ext.drew ?_ | refine Ext.drewN ?_ _ | refine Ext.setCell ?_ (by simp <;> omega) _))⟩
  have q5 : decide (s.prio < -1000) = false := decide_eq_false k5
  have HP1 : Hid (decide (1000 < s.prio) = false) := Lib.hid (decide_eq_false (by have := M5.out k4; omega))
  by_cases k6 : 8 < s.path.length
  · have q6 : decide ((8 : Int) < (s.path.length : Int)) = true := decide_eq_true (by omega)
    have HR : Hid (mayB g s = false) := Lib.hid (by rw [HM.out, HOD.out, decide_eq_true k6]; simp)
    go_enter Try.func71, Try.ntmps71
    go_wp2_with fail
    go_ret
    exact ⟨ret_bool HR.out.symm, (by repeat (first | exact Ext.refl _ | refine Ext.alloc ?_ _ | refine Ext.more ?_ _ _ | refine Ext.drew ?_ | refine Ext.drewN ?_ _ | refine Ext.setCell ?_ (by simp <;> omega) _))⟩
  have q6 : decide ((8 : Int) < (s.path.length : Int)) = false := decide_eq_false (by omega)
  have HR : Hid (mayB g s = !s.path.any (badX g)) := Lib.hid (by rw [HM.out, HOD.out, q1, q2, q3, q5, HP1.out, decide_eq_false k6]; rfl)
  obtain ⟨bg, hbg⟩ : ∃ bg, w.heap.size + 1 = bg := ⟨_, rfl⟩
  obtain ⟨W2, hW2⟩ : ∃ W2, (w.alloc (.cells #[.int .i64 s.kind, .slice s.pA s.path.length s.pc, .int .i64 s.st, .int .i64 s.prio] 43)).alloc (.cells #[.int .i64 g.terms, .int .i64 g.nons, .int .i64 g.k, .slice g.pA g.prods.length g.pc] 39) = W2 := ⟨_, rfl⟩
  have X2 : Hid (Ext w W2) := Lib.hid (by rw [← hW2]; exact (by repeat (first | exact Ext.refl _ | refine Ext.alloc ?_ _ | refine Ext.more ?_ _ _ | refine Ext.drew ?_ | refine Ext.drewN ?_ _ | refine Ext.setCell ?_ (by simp <;> omega) _)))
  have GA : Hid (GrAt W2 bg g) := Lib.hid (GrAt.of (by
    have h := heap_alloc_new (w.alloc (.cells #[.int .i64 s.kind, .slice s.pA s.path.length s.pc, .int .i64 s.st, .int .i64 s.prio] 43)) (.cells #[.int .i64 g.terms, .int .i64 g.nons, .int .i64 g.k, .slice g.pA g.prods.length g.pc] 39)
    rw [World.size_alloc, hbg, hW2] at h
    exact h))
  have CB := Lib.hid (hasInts 118 #[.pointer (some ⟨bg, 0, none⟩)] (badX g) s.pA s.pc s.path W2 (HPI.out.ext X2.out) (by omega) (enters_of Try.func118 (by kernel_rfl) rfl)
    (fun w3 x hx3 _ => badX1 g bg x w3 (GA.out.ext hx3) HTT.out HNN.out))
  obtain ⟨bb, hbb⟩ : ∃ bb, s.path.any (badX g) = bb := ⟨_, rfl⟩
  rw [hbb] at CB HR
  rw [← hW2, ← hbg] at CB
  have HW2 := Lib.hid hW2
  clear hbb hW2 hbg k1 k2 k3 k4 k5 k6
  go_enter Try.func71, Try.ntmps71
  go_wp2_with fail
  refine CB.out.mono ?_
  rintro e w4 ⟨rfl, hx4⟩
  have HX4 := Lib.hid hx4
  clear hx4 CB
  go_wp2_with fail
  go_ret
  exact ⟨ret_bool HR.out.symm, (by have := X2.out; rw [← HW2.out] at this; exact this.trans HX4.out)⟩
end Go.Proofs.Ytggmljookcmnkaa
