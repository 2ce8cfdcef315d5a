/- Proved: StylesBest returns true for every input and leaves its arguments as they were; no condition. -/
import Derived.Test.YteclpmdhllmloaaO
import Derived.Test.YteclpmdhllmloaaF
namespace Go.Proofs.Yteclpmdhllmloaa
open Go.ChangeShapes Go.WideShapes Go.ChangeAt Go.RowKit Go.Joins

set_option maxRecDepth 100000 in
theorem stylesBest_lifted (os : Os) (started : os.Started) (H : Type) (enc : TypeId × Value → H) :
    ReturnsInHanded {} Try.checked os 3 .any (Rows.stylesBestSpec.pre6 enc Try.prog Try.f3 Rows.stylesBestRow.domain false) (Rows.stylesBestSpec.post enc Try.prog Try.f3 false true false false) := by
  refine law_lifted (fn := Try.f3) started (by kernel_rfl) Try.func3
    (ChangeSpec.witness6 (enc := enc) (C := Try.checked) false ⟨#[], #[.slice none 0 0, .int .i64 0, .slice none 0 0], []⟩ 8 (by kernel_rfl) (by kernel_rfl) (by kernel_rfl) (by kernel_rfl))
    rfl (by kernel_rfl) Try.underlying4 (of_decide_eq_true (by kernel_rfl)) ?_ ?_
  · intro ds hl
    match ds, hl with
    | [d1, d2, d3], _ => rfl
  · intro W base args ds ps hval hA _
    have hp : Try.f3.params.toList = [22, 3, 23] := by kernel_rfl
    rw [hp] at hA hval
    obtain ⟨v0, vs0, d0, ds0, p0, q0, hargs, rfl, rfl, h0, r0⟩ := trodAll_cons hA
    obtain ⟨v1, vs1, d1, ds1, p1, q1, rfl, rfl, rfl, h1, r1⟩ := trodAll_cons r0
    obtain ⟨v2, vs2, d2, ds2, p2, q2, rfl, rfl, rfl, h2, r2⟩ := trodAll_cons r1
    obtain ⟨rfl, rfl, rfl⟩ := trodAll_nil r2
    obtain rfl : args = #[v0, v1, v2] := by cases args; simp_all
    obtain ⟨B, c, ss, rfl, hS, hO, b1, b2, _⟩ := open_styles (hval 0 22 v0 rfl rfl) h0
    obtain ⟨kind, rfl, bk⟩ := open_i64 (hval 1 3 v1 rfl rfl) h1
    obtain ⟨A, d, way, rfl, hI, b3, b4, _, _⟩ := open_intsL (hval 2 23 v2 rfl rfl) h2
    exact best_walk B ss c kind A way d W hS hO (by omega) hI b3 b4

theorem stylesBest_holds : Rows.StylesBestSaid :=
  OpenClaim.holds_of_wide 3 Try.f3 rfl rfl rfl rfl rfl rfl rfl ⟨rfl, rfl, rfl, rfl, rfl⟩ rfl rfl rfl rfl rfl (by kernel_rfl) Try.func3 (by kernel_rfl)
    (of_decide_eq_true (by kernel_rfl)) (by unfold Func.isWrapper; first | (rw [if_pos (by decide +kernel)]; kernel_rfl) | (rw [if_neg (by decide +kernel)]; exact ⟨rfl, rfl⟩))
    (fun os started H enc _ => stylesBest_lifted os started H enc)
#print axioms stylesBest_holds
end Go.Proofs.Yteclpmdhllmloaa
