/- ShiftMerged: merged spans do not touch, rise, and have just the places of all; merged again they are the same. No condition. -/
import Derived.Test.YtfjkghbnlmhcnaaSl
import Derived.Test.YtfjkghbnlmhcnaaSo
import Derived.Test.YtfjkghbnlmhcnaaL
import Derived.ChangeMaps
namespace Go.Proofs.Ytfjkghbnlmhcnaa
open Go.ChangeShapes Go.WideShapes Go.ChangeAt Go.RowKit Go.Joins

set_option maxRecDepth 100000 in
theorem shiftMerged_lifted (os : Os) (started : os.Started) (H : Type) (enc : TypeId × Value → H) :
    ReturnsInHanded {} Try.checked os 9 .any (Rows.shiftMergedSpec.pre6 enc Try.prog Try.f9 Rows.shiftMergedRow.domain false) (Rows.shiftMergedSpec.post enc Try.prog Try.f9 false true false false) := by
  refine law_lifted (fn := Try.f9) started (by kernel_rfl) Try.func9
    (ChangeSpec.witness6 (enc := enc) (C := Try.checked) false ⟨#[], #[.slice none 0 0, .int .i64 0], []⟩ 8 (by kernel_rfl) (by kernel_rfl) (by kernel_rfl) (by kernel_rfl))
    rfl (by kernel_rfl) Try.underlying4 (of_decide_eq_true (by kernel_rfl)) ?_ ?_
  · intro ds hl
    match ds, hl with
    | [d1, d2], _ => rfl
  · intro W base args ds ps hval hA hsz
    have hp : Try.f9.params.toList = [52, 3] := by kernel_rfl
    rw [hp] at hA hval hsz
    obtain ⟨v0, vs0, d0, ds0, p0, q0, hargs, rfl, rfl, h0, r0⟩ := trodAll_cons hA
    obtain ⟨v1, vs1, d1, ds1, p1, q1, rfl, rfl, rfl, h1, r1⟩ := trodAll_cons r0
    obtain ⟨rfl, rfl, rfl⟩ := trodAll_nil r1
    obtain rfl : args = #[v0, v1] := by cases args; simp_all
    obtain ⟨J0, cj0, js0, rfl, hJ0, jl0, jc0, _, _⟩ := open_spans (hval 0 52 v0 rfl rfl) h0
    obtain ⟨n1, rfl, bd1⟩ := open_i64 (hval 1 3 v1 rfl rfl) h1
    exact (shiftMerged_any J0 cj0 js0 n1 W hJ0 jl0 jc0).mono fun e w' ⟨he, hx⟩ => ⟨he, hx.below⟩

theorem shiftMerged_holds : Rows.ShiftMergedSaid :=
  OpenClaim.holds_of_wide 9 Try.f9 rfl rfl rfl rfl rfl rfl rfl ⟨rfl, rfl, rfl, rfl, rfl⟩ rfl rfl rfl rfl rfl (by kernel_rfl) Try.func9 (by kernel_rfl)
    (of_decide_eq_true (by kernel_rfl)) (by unfold Func.isWrapper; first | (rw [if_pos (by decide +kernel)]; kernel_rfl) | (rw [if_neg (by decide +kernel)]; exact ⟨rfl, rfl⟩))
    (fun os started H enc _ => shiftMerged_lifted os started H enc)
#print axioms shiftMerged_holds
end Go.Proofs.Ytfjkghbnlmhcnaa
