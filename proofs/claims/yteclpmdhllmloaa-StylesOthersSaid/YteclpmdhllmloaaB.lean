/- The contracts of ends, Matches, the closure of Style. -/
import Derived.Test.YteclpmdhllmloaaA
import Derived.WalkSpells
import Derived.WalkLawsBesides
import Derived.Deep.RegionWith
import Derived.Deep.QuietTactic
import Derived.Deep.DeepCutAuto
import Derived.Deep.RegionHeld3
import Derived.BigQuiet
import Derived.Lib.Hide
namespace Go.Proofs.Yteclpmdhllmloaa
open Go.RowKit
attribute [local go_sem] more_drew more_drewN more_size more_cell more_frozen more_setCell drew_more drewN_more lt_add_r lt_add_r2 lt_add_r3 lt_add_r4 lt_add_r5 lt_add_r6 lt_add_r7 lt_add_r8 lt_add_r9 lt_add_r10 lt_self_r lt_self_r2

def endsB (way path : List Int) : Bool := decide (path.length ≤ way.length) && decide (way.drop (way.length - path.length) = path)

theorem ends_any (A B : Option Addr) (way path : List Int) (c d : Nat) (w : World) (hx : Ints w A way) (hy : Ints w B path) (bx : way.length ≤ c) (bc : c ≤ 9223372036854775807) (by_ : path.length ≤ 9223372036854775807) :
    Calls Try.prog 13 #[.slice A way.length c, .slice B path.length d] w fun e w' => e = .returned (.bool (endsB way path)) ∧ Ext w w' := by
  by_cases hl : path.length ≤ way.length
  · have hE : endsB way path = decide (way.drop (way.length - path.length) = path) := by
      unfold endsB
      rw [decide_eq_true hl, Bool.true_and]
    have HE := Lib.hid hE
    have hd := hx.drop (way.length - path.length) c bx
    have eq := fun w1 h1 h2 => equal_any (if c = way.length - path.length then A else A.map (·.add (way.length - path.length))) B (way.drop (way.length - path.length)) path (c - (way.length - path.length)) d w1 h1 h2 (by rw [List.length_drop]; omega) by_
    rw [List.length_drop] at eq
    obtain ⟨A', hif⟩ : ∃ A', (if c = way.length - path.length then A else A.map (·.add (way.length - path.length))) = A' := ⟨_, rfl⟩
    rw [hif] at eq hd
    have EQ := Lib.hid eq
    have HD := Lib.hid hd
    have HX := Lib.hid hx
    have HY := Lib.hid hy
    clear hE eq hd hx hy
    have hn : way.length - path.length ≤ way.length := by omega
    have e1 : IntKind.i64.wrap ((way.length : Int) - (path.length : Int)) = ((way.length - path.length : Nat) : Int) := by rw [IntWalk.i64_in _ (by omega)]; omega
    go_enter Try.func13, Try.ntmps13
    go_wp2_with fail
    refine (EQ.out _ HD.out HY.out).mono ?_
    rintro e w1 ⟨rfl, os1, k1, rfl⟩
    go_wp2
    go_ret
    exact ⟨ret_bool HE.out.symm, by repeat (first | exact Ext.refl _ | refine Ext.alloc ?_ _ | refine Ext.more ?_ _ _ | refine Ext.drew ?_ | refine Ext.drewN ?_ _)⟩
  · have hl2 : ¬ ((path.length : Int) ≤ (way.length : Int)) := by omega
    have hE : endsB way path = false := by
      unfold endsB
      rw [decide_eq_false hl, Bool.false_and]
    have HE := Lib.hid hE
    clear hE
    go_enter Try.func13, Try.ntmps13
    go_wp2
    go_ret
    exact ⟨ret_bool HE.out.symm, by repeat (first | exact Ext.refl _ | refine Ext.alloc ?_ _ | refine Ext.more ?_ _ _ | refine Ext.drew ?_ | refine Ext.drewN ?_ _)⟩

/-- A style: its kind, its path's header, the path, its number, its priority. -/
structure Sty where
  kind : Int
  pA : Option Addr
  pc : Nat
  path : List Int
  st : Int
  prio : Int

def styOk (w : World) (s : Sty) : Prop := Ints w s.pA s.path ∧ s.path.length ≤ 9223372036854775807

theorem matches_any (s : Sty) (kind : Int) (A : Option Addr) (way : List Int) (c : Nat) (w : World) (hs : styOk w s) (hx : Ints w A way) (bx : way.length ≤ c) (bc : c ≤ 9223372036854775807) :
    Calls Try.prog 8 #[.agg #[.int .i64 s.kind, .slice s.pA s.path.length s.pc, .int .i64 s.st, .int .i64 s.prio], .int .i64 kind, .slice A way.length c] w
      fun e w' => e = .returned (.bool (decide (s.kind = kind) && endsB way s.path)) ∧ Ext w w' := by
  obtain ⟨h1, h2⟩ := hs
  have EN := Lib.hid (fun w1 g1 g2 => ends_any A s.pA way s.path c s.pc w1 g1 g2 bx bc h2)
  have H1 := Lib.hid h1
  have HX := Lib.hid hx
  clear h1 hx
  by_cases hk : s.kind = kind
  · have hk1 : (s.kind == kind) = true := by simp [hk]
    have hk2 : decide (s.kind = kind) = true := by simp [hk]
    have HK := Lib.hid hk
    clear hk
    go_enter Try.func8, Try.ntmps8
    go_wp2_with (first | (go_at_call 13; refine (EN.out _ (HX.out.ext (by repeat (first | exact Ext.refl _ | refine Ext.alloc ?_ _ | refine Ext.more ?_ _ _ | refine Ext.drew ?_ | refine Ext.drewN ?_ _))) (H1.out.ext (by repeat (first | exact Ext.refl _ | refine Ext.alloc ?_ _ | refine Ext.more ?_ _ _ | refine Ext.drew ?_ | refine Ext.drewN ?_ _)))).mono ?_; rintro e w1 ⟨rfl, os1, k1, rfl⟩))
    go_ret
    exact ⟨ret_bool (by simp [HK.out]), by repeat (first | exact Ext.refl _ | refine Ext.alloc ?_ _ | refine Ext.more ?_ _ _ | refine Ext.drew ?_ | refine Ext.drewN ?_ _)⟩
  · have hk1 : (s.kind == kind) = false := by simp [hk]
    have hk2 : decide (s.kind = kind) = false := by simp [hk]
    have HK := Lib.hid hk
    clear hk
    go_enter Try.func8, Try.ntmps8
    go_wp2_with fail
    go_ret
    exact ⟨ret_bool (by simp [HK.out]), by repeat (first | exact Ext.refl _ | refine Ext.alloc ?_ _ | refine Ext.more ?_ _ _ | refine Ext.drew ?_ | refine Ext.drewN ?_ _)⟩
end Go.Proofs.Yteclpmdhllmloaa
