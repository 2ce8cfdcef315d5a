/- LinesScript: whatever is done, lines are what the document says. No condition. -/
import Derived.Test.YtfjkghbnlmhcnaaLw
import Derived.Test.YtfjkghbnlmhcnaaL
import Derived.ChangeMaps
namespace Go.Proofs.Ytfjkghbnlmhcnaa
open Go.ChangeShapes Go.WideShapes Go.ChangeAt Go.RowKit Go.Joins

set_option maxRecDepth 100000 in
theorem linesScript_lifted (os : Os) (started : os.Started) (H : Type) (enc : TypeId × Value → H) :
    ReturnsInHanded {} Try.checked os 7 .any (Rows.linesScriptSpec.pre6 enc Try.prog Try.f7 Rows.linesScriptRow.domain false) (Rows.linesScriptSpec.post enc Try.prog Try.f7 false true false false) := by
  refine law_lifted (fn := Try.f7) started (by kernel_rfl) Try.func7
    (ChangeSpec.witness6 (enc := enc) (C := Try.checked) false ⟨#[], #[.string ByteArray.empty, .slice none 0 0, .int .i64 0, .int .i64 0, .int .i64 0], []⟩ 8 (by kernel_rfl) (by kernel_rfl) (by kernel_rfl) (by kernel_rfl))
    rfl (by kernel_rfl) Try.underlying4 (of_decide_eq_true (by kernel_rfl)) ?_ ?_
  · intro ds hl
    match ds, hl with
    | [d1, d2, d3, d4, d5], _ => rfl
  · intro W base args ds ps hval hA hsz
    have hp : Try.f7.params.toList = [9, 22, 3, 3, 3] := by kernel_rfl
    rw [hp] at hA hval hsz
    obtain ⟨v0, vs0, d0, ds0, p0, q0, hargs, rfl, rfl, h0, r0⟩ := trodAll_cons hA
    obtain ⟨v1, vs1, d1, ds1, p1, q1, rfl, rfl, rfl, h1, r1⟩ := trodAll_cons r0
    obtain ⟨v2, vs2, d2, ds2, p2, q2, rfl, rfl, rfl, h2, r2⟩ := trodAll_cons r1
    obtain ⟨v3, vs3, d3, ds3, p3, q3, rfl, rfl, rfl, h3, r3⟩ := trodAll_cons r2
    obtain ⟨v4, vs4, d4, ds4, p4, q4, rfl, rfl, rfl, h4, r4⟩ := trodAll_cons r3
    obtain ⟨rfl, rfl, rfl⟩ := trodAll_nil r4
    obtain rfl : args = #[v0, v1, v2, v3, v4] := by cases args; simp_all
    obtain ⟨s0, rfl, _, _, bs0⟩ := Go.ChangeMaps.open_string Try.underlying9 (hval 0 9 v0 rfl rfl) h0
    unfold maxLen at bs0
    obtain ⟨J1, cj1, js1, rfl, hJ1, jl1, jc1, _, jB1⟩ := open_acts (hval 1 22 v1 rfl rfl) h1
    obtain ⟨n2, rfl, bd2⟩ := open_i64 (hval 2 3 v2 rfl rfl) h2
    obtain ⟨n3, rfl, bd3⟩ := open_i64 (hval 3 3 v3 rfl rfl) h3
    obtain ⟨n4, rfl, bd4⟩ := open_i64 (hval 4 3 v4 rfl rfl) h4
    exact (linesScript_any s0 J1 cj1 js1 n2 n3 n4 W hJ1 jl1 jc1 bs0 jB1).mono fun e w' ⟨he, hx⟩ => ⟨he, hx.below⟩

theorem linesScript_holds : Rows.LinesScriptSaid :=
  OpenClaim.holds_of_wide 7 Try.f7 rfl rfl rfl rfl rfl rfl rfl ⟨rfl, rfl, rfl, rfl, rfl⟩ rfl rfl rfl rfl rfl (by kernel_rfl) Try.func7 (by kernel_rfl)
    (of_decide_eq_true (by kernel_rfl)) (by unfold Func.isWrapper; first | (rw [if_pos (by decide +kernel)]; kernel_rfl) | (rw [if_neg (by decide +kernel)]; exact ⟨rfl, rfl⟩))
    (fun os started H enc _ => linesScript_lifted os started H enc)
#print axioms linesScript_holds
end Go.Proofs.Ytfjkghbnlmhcnaa
