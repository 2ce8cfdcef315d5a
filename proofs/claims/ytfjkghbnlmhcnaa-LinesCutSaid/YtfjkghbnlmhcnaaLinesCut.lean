/- LinesCut: lines, from where each begins to where the next one does, are the text; each but the last one has one line feed, at its end. No condition. -/
import Derived.Test.YtfjkghbnlmhcnaaLu
import Derived.Test.YtfjkghbnlmhcnaaL
import Derived.ChangeMaps
namespace Go.Proofs.Ytfjkghbnlmhcnaa
open Go.ChangeShapes Go.WideShapes Go.ChangeAt Go.RowKit Go.Joins

set_option maxRecDepth 100000 in
theorem linesCut_lifted (os : Os) (started : os.Started) (H : Type) (enc : TypeId × Value → H) :
    ReturnsInHanded {} Try.checked os 4 .any (Rows.linesCutSpec.pre6 enc Try.prog Try.f4 Rows.linesCutRow.domain false) (Rows.linesCutSpec.post enc Try.prog Try.f4 false true false false) := by
  refine law_lifted (fn := Try.f4) started (by kernel_rfl) Try.func4
    (ChangeSpec.witness6 (enc := enc) (C := Try.checked) false ⟨#[], #[.string ByteArray.empty], []⟩ 8 (by kernel_rfl) (by kernel_rfl) (by kernel_rfl) (by kernel_rfl))
    rfl (by kernel_rfl) Try.underlying4 (of_decide_eq_true (by kernel_rfl)) ?_ ?_
  · intro ds hl
    match ds, hl with
    | [d1], _ => rfl
  · intro W base args ds ps hval hA hsz
    have hp : Try.f4.params.toList = [9] := by kernel_rfl
    rw [hp] at hA hval hsz
    obtain ⟨v0, vs0, d0, ds0, p0, q0, hargs, rfl, rfl, h0, r0⟩ := trodAll_cons hA
    obtain ⟨rfl, rfl, rfl⟩ := trodAll_nil r0
    obtain rfl : args = #[v0] := by cases args; simp_all
    obtain ⟨s0, rfl, _, _, bs0⟩ := Go.ChangeMaps.open_string Try.underlying9 (hval 0 9 v0 rfl rfl) h0
    unfold maxLen at bs0
    exact (linesCut_any s0 W bs0).mono fun e w' ⟨he, hx⟩ => ⟨he, hx.below⟩

theorem linesCut_holds : Rows.LinesCutSaid :=
  OpenClaim.holds_of_wide 4 Try.f4 rfl rfl rfl rfl rfl rfl rfl ⟨rfl, rfl, rfl, rfl, rfl⟩ rfl rfl rfl rfl rfl (by kernel_rfl) Try.func4 (by kernel_rfl)
    (of_decide_eq_true (by kernel_rfl)) (by unfold Func.isWrapper; first | (rw [if_pos (by decide +kernel)]; kernel_rfl) | (rw [if_neg (by decide +kernel)]; exact ⟨rfl, rfl⟩))
    (fun os started H enc _ => linesCut_lifted os started H enc)
#print axioms linesCut_holds
end Go.Proofs.Ytfjkghbnlmhcnaa
