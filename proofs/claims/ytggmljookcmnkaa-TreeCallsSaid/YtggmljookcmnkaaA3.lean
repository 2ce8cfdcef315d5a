/- The contract of the document's bare. -/
import Derived.Test.YtggmljookcmnkaaA1
namespace Go.Proofs.Ytggmljookcmnkaa
open Go.RowKit
attribute [local go_sem] more_drew more_drewN more_size more_cell more_frozen more_setCell drew_more drewN_more lt_add_r lt_add_r2 lt_add_r3 lt_add_r4 lt_add_r5 lt_add_r6 lt_self_r lt_self_r2

set_option maxHeartbeats 2000000 in
theorem bareR_any (p : Prt) (w : World) : Calls Try.prog 65 #[aggV p] w fun e w' => e = .returned (.bool (decide (Bare p.nd))) ∧ Ext w w' := by
  obtain ⟨⟨sym, kind, lo, inn, hi, look, kids, met⟩, kA, kc⟩ := p
  go_enter Try.func65, Try.ntmps65
  go_wp2_with (first | (go_at_call 109; refine (leafR_any _ _).mono ?_; rintro e w' ⟨rfl, rfl⟩) | go_in)
  all_goals go_ret
  all_goals refine ⟨ret_bool ?_, (Ext.refl _).alloc _⟩
  all_goals (rw [Bool.eq_iff_iff, decide_eq_true_iff])
  all_goals grind [Bare, TokK, LeafK]
end Go.Proofs.Ytggmljookcmnkaa
