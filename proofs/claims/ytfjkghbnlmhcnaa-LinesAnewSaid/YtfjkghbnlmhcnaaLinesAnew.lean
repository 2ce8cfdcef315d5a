/- LinesAnew: of any edits the lines are those of the text anew; a refused one changes nothing. No condition. -/
import Derived.Test.YtfjkghbnlmhcnaaLz
import Derived.Test.YtfjkghbnlmhcnaaL
import Derived.ChangeMaps
namespace Go.Proofs.Ytfjkghbnlmhcnaa
open Go.ChangeShapes Go.WideShapes Go.ChangeAt Go.RowKit Go.Joins

set_option maxRecDepth 100000 in
theorem linesAnew_lifted (os : Os) (started : os.Started) (H : Type) (enc : TypeId × Value → H) :
    ReturnsInHanded {} Try.checked os 3 .any (Rows.linesAnewSpec.pre6 enc Try.prog Try.f3 Rows.linesAnewRow.domain false) (Rows.linesAnewSpec.post enc Try.prog Try.f3 false true false false) := by
  refine law_lifted (fn := Try.f3) started (by kernel_rfl) Try.func3
    (ChangeSpec.witness6 (enc := enc) (C := Try.checked) false ⟨#[], #[.string ByteArray.empty, .slice none 0 0], []⟩ 8 (by kernel_rfl) (by kernel_rfl) (by kernel_rfl) (by kernel_rfl))
    rfl (by kernel_rfl) Try.underlying4 (of_decide_eq_true (by kernel_rfl)) ?_ ?_
  · intro ds hl
    match ds, hl with
    | [d1, d2], _ => rfl
  · intro W base args ds ps hval hA hsz
    have hp : Try.f3.params.toList = [9, 22] := by kernel_rfl
    rw [hp] at hA hval hsz
    obtain ⟨v0, vs0, d0, ds0, p0, q0, hargs, rfl, rfl, h0, r0⟩ := trodAll_cons hA
    obtain ⟨v1, vs1, d1, ds1, p1, q1, rfl, rfl, rfl, h1, r1⟩ := trodAll_cons r0
    obtain ⟨rfl, rfl, rfl⟩ := trodAll_nil r1
    obtain rfl : args = #[v0, v1] := by cases args; simp_all
    obtain ⟨s0, rfl, _, _, bs0⟩ := Go.ChangeMaps.open_string Try.underlying9 (hval 0 9 v0 rfl rfl) h0
    unfold maxLen at bs0
    obtain ⟨J1, cj1, js1, rfl, hJ1, jl1, jc1, _, jB1⟩ := open_acts (hval 1 22 v1 rfl rfl) h1
    exact (linesAnew_any s0 J1 cj1 js1 W hJ1 jl1 jc1 bs0 jB1).mono fun e w' ⟨he, hx⟩ => ⟨he, hx.below⟩

theorem linesAnew_holds : Rows.LinesAnewSaid :=
  OpenClaim.holds_of_wide 3 Try.f3 rfl rfl rfl rfl rfl rfl rfl ⟨rfl, rfl, rfl, rfl, rfl⟩ rfl rfl rfl rfl rfl (by kernel_rfl) Try.func3 (by kernel_rfl)
    (of_decide_eq_true (by kernel_rfl)) (by unfold Func.isWrapper; first | (rw [if_pos (by decide +kernel)]; kernel_rfl) | (rw [if_neg (by decide +kernel)]; exact ⟨rfl, rfl⟩))
    (fun os started H enc _ => linesAnew_lifted os started H enc)
#print axioms linesAnew_holds
end Go.Proofs.Ytfjkghbnlmhcnaa
