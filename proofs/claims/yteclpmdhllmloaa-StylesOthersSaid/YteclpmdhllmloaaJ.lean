/- StylesOthers: what is not gone through. -/
import Derived.Test.YteclpmdhllmloaaH
import Derived.WalkSpells
import Derived.WalkLawsBesides
import Derived.Deep.RegionWith
import Derived.Deep.QuietTactic
import Derived.Deep.DeepCutAuto
import Derived.Deep.RegionHeld3
import Derived.BigQuiet
import Derived.Lib.Hide
namespace Go.Proofs.Yteclpmdhllmloaa
open Go.RowKit
attribute [local go_sem] more_drew more_drewN more_size more_cell more_frozen more_setCell drew_more drewN_more lt_add_r lt_add_r2 lt_add_r3 lt_add_r4 lt_add_r5 lt_add_r6 lt_add_r7 lt_add_r8 lt_add_r9 lt_add_r10 lt_self_r lt_self_r2

set_option maxHeartbeats 1000000 in
theorem others_no (B : Option Addr) (ss : List Sty) (c : Nat) (kind : Int) (A : Option Addr) (way : List Int) (d : Nat) (o : Sty) (C : Option Addr) (ahead : List Int) (e : Nat) (w : World) (hS : Styles w B ss) (hO : StylesOk w ss) (bs : ss.length ≤ 9223372036854775807)
    (bx : way.length ≤ 9223372036854775807) (ba : ahead.length ≤ 9223372036854775807) (bo : o.path.length ≤ 9223372036854775807) (hg : ¬ (lightB ss way = true ∧ ahead.length ≤ 40 ∧ o.path.length ≤ 20)) :
    Calls Try.prog 4 #[.slice B ss.length c, .int .i64 kind, .slice A way.length d, .agg #[.int .i64 o.kind, .slice o.pA o.path.length o.pc, .int .i64 o.st, .int .i64 o.prio], .slice C ahead.length e] w fun e w' => e = .returned (.bool true) ∧ Below w.heap.size w w' := by
  have LI := Lib.hid (fun w1 g1 g2 => light_any B ss c A way d w1 g1 g2 bs bx)
  have HO := Lib.hid hO
  have HS0 := Lib.hid hS
  clear hO hS
  cases hli : lightB ss way
  · have HLI := Lib.hid hli
    clear hg hli
    go_enter Try.func4, Try.ntmps4
    go_wp2_with (first | (go_at_call 5; refine (lives_any _).mono ?_; rintro e w1 ⟨rfl, os1, k1, rfl⟩) | (go_at_call 6; refine (LI.out _ (HS0.out.ext (by repeat (first | exact Ext.refl _ | refine Ext.alloc ?_ _ | refine Ext.more ?_ _ _ | refine Ext.drew ?_ | refine Ext.drewN ?_ _))) (HO.out.ext (by repeat (first | exact Ext.refl _ | refine Ext.alloc ?_ _ | refine Ext.more ?_ _ _ | refine Ext.drew ?_ | refine Ext.drewN ?_ _)))).mono ?_; rw [HLI.out]; rintro e w1 ⟨rfl, os2, k2, rfl⟩))
    go_ret
    exact ⟨rfl, Ext.below (by repeat (first | exact Ext.refl _ | refine Ext.alloc ?_ _ | refine Ext.more ?_ _ _ | refine Ext.drew ?_ | refine Ext.drewN ?_ _))⟩
  · have HLI := Lib.hid hli
    have hg' : 40 < ahead.length ∨ 20 < o.path.length := by
      rcases Nat.lt_or_ge 40 ahead.length with h | h
      · exact .inl h
      · rcases Nat.lt_or_ge 20 o.path.length with h2 | h2
        · exact .inr h2
        · exact absurd ⟨hli, h, h2⟩ hg
    clear hg hli
    go_enter Try.func4, Try.ntmps4
    go_wp2_with (first | (go_at_call 5; refine (lives_any _).mono ?_; rintro e w1 ⟨rfl, os1, k1, rfl⟩) | (go_at_call 6; refine (LI.out _ (HS0.out.ext (by repeat (first | exact Ext.refl _ | refine Ext.alloc ?_ _ | refine Ext.more ?_ _ _ | refine Ext.drew ?_ | refine Ext.drewN ?_ _))) (HO.out.ext (by repeat (first | exact Ext.refl _ | refine Ext.alloc ?_ _ | refine Ext.more ?_ _ _ | refine Ext.drew ?_ | refine Ext.drewN ?_ _)))).mono ?_; rw [HLI.out]; rintro e w1 ⟨rfl, os2, k2, rfl⟩))
    all_goals go_ret
    all_goals exact ⟨rfl, Ext.below (by repeat (first | exact Ext.refl _ | refine Ext.alloc ?_ _ | refine Ext.more ?_ _ _ | refine Ext.drew ?_ | refine Ext.drewN ?_ _))⟩
end Go.Proofs.Yteclpmdhllmloaa
