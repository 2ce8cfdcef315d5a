/- Proved: StylesOthers returns true for every input and leaves its arguments as they were; no condition. -/
import Derived.Test.YteclpmdhllmloaaO
import Derived.Test.YteclpmdhllmloaaJ
namespace Go.Proofs.Yteclpmdhllmloaa
open Go.ChangeShapes Go.WideShapes Go.ChangeAt Go.RowKit Go.Joins

set_option maxRecDepth 100000 in
theorem stylesOthers_lifted (os : Os) (started : os.Started) (H : Type) (enc : TypeId × Value → H) :
    ReturnsInHanded {} Try.checked os 4 .any (Rows.stylesOthersSpec.pre6 enc Try.prog Try.f4 Rows.stylesOthersRow.domain false) (Rows.stylesOthersSpec.post enc Try.prog Try.f4 false true false false) := by
  refine law_lifted (fn := Try.f4) started (by kernel_rfl) Try.func4
    (ChangeSpec.witness6 (enc := enc) (C := Try.checked) false ⟨#[], #[.slice none 0 0, .int .i64 0, .slice none 0 0, .agg #[.int .i64 0, .slice none 0 0, .int .i64 0, .int .i64 0], .slice none 0 0], []⟩ 8 (by kernel_rfl) (by kernel_rfl) (by kernel_rfl) (by kernel_rfl))
    rfl (by kernel_rfl) Try.underlying4 (of_decide_eq_true (by kernel_rfl)) ?_ ?_
  · intro ds hl
    match ds, hl with
    | [d1, d2, d3, d4, d5], _ => rfl
  · intro W base args ds ps hval hA _
    have hp : Try.f4.params.toList = [22, 3, 23, 27, 23] := by kernel_rfl
    rw [hp] at hA hval
    obtain ⟨v0, vs0, d0, ds0, p0, q0, hargs, rfl, rfl, h0, r0⟩ := trodAll_cons hA
    obtain ⟨v1, vs1, d1, ds1, p1, q1, rfl, rfl, rfl, h1, r1⟩ := trodAll_cons r0
    obtain ⟨v2, vs2, d2, ds2, p2, q2, rfl, rfl, rfl, h2, r2⟩ := trodAll_cons r1
    obtain ⟨v3, vs3, d3, ds3, p3, q3, rfl, rfl, rfl, h3, r3⟩ := trodAll_cons r2
    obtain ⟨v4, vs4, d4, ds4, p4, q4, rfl, rfl, rfl, h4, r4⟩ := trodAll_cons r3
    obtain ⟨rfl, rfl, rfl⟩ := trodAll_nil r4
    obtain rfl : args = #[v0, v1, v2, v3, v4] := by cases args; simp_all
    obtain ⟨B, c, ss, rfl, hS, hO, b1, b2, z1⟩ := open_styles (hval 0 22 v0 rfl rfl) h0
    obtain ⟨kind, rfl, bk⟩ := open_i64 (hval 1 3 v1 rfl rfl) h1
    obtain ⟨A, d, way, rfl, hI, b3, b4, _, z2⟩ := open_intsL (hval 2 23 v2 rfl rfl) h2
    obtain ⟨o, rfl, ho⟩ := open_style (hval 3 27 v3 rfl rfl) h3
    obtain ⟨C, e, ahead, rfl, hA, b5, b6, _, z3⟩ := open_intsL (hval 4 23 v4 rfl rfl) h4
    by_cases hg : lightB ss way = true ∧ ahead.length ≤ 40 ∧ o.path.length ≤ 20
    · exact others_walk B ss c kind A way d o C ahead e W hS hO (by omega) hI b3 b4 ho hA b5 b6 z1 z2 z3 hg.1 hg.2.1 hg.2.2
    · exact others_no B ss c kind A way d o C ahead e W hS hO (by omega) (by omega) (by omega) ho.2 hg

theorem stylesOthers_holds : Rows.StylesOthersSaid :=
  OpenClaim.holds_of_wide 4 Try.f4 rfl rfl rfl rfl rfl rfl rfl ⟨rfl, rfl, rfl, rfl, rfl⟩ rfl rfl rfl rfl rfl (by kernel_rfl) Try.func4 (by kernel_rfl)
    (of_decide_eq_true (by kernel_rfl)) (by unfold Func.isWrapper; first | (rw [if_pos (by decide +kernel)]; kernel_rfl) | (rw [if_neg (by decide +kernel)]; exact ⟨rfl, rfl⟩))
    (fun os started H enc _ => stylesOthers_lifted os started H enc)
#print axioms stylesOthers_holds
end Go.Proofs.Yteclpmdhllmloaa
