/- Proved: ShiftFar returns true for every input and leaves its arguments as they were; no condition. -/
import Derived.Test.YteclkkbebinkpaaO
import Derived.Test.YteclkkbebinkpaaS
namespace Go.Proofs.Yteclkkbebinkpaa
open Go.ChangeShapes Go.WideShapes Go.ChangeAt Go.RowKit Go.Joins

set_option maxRecDepth 100000 in
theorem shiftFar_lifted (os : Os) (started : os.Started) (H : Type) (enc : TypeId × Value → H) :
    ReturnsInHanded {} Try.checked os 7 .any (Rows.shiftFarSpec.pre6 enc Try.prog Try.f7 Rows.shiftFarRow.domain false) (Rows.shiftFarSpec.post enc Try.prog Try.f7 false true false false) := by
  refine law_lifted (fn := Try.f7) started (by kernel_rfl) Try.func7
    (ChangeSpec.witness6 (enc := enc) (C := Try.checked) false ⟨#[], #[.agg #[.int .i64 0, .int .i64 0], .agg #[.int .i64 0, .int .i64 0], .agg #[.int .i64 0, .int .i64 0]], []⟩ 8 (by kernel_rfl) (by kernel_rfl) (by kernel_rfl) (by kernel_rfl))
    rfl (by kernel_rfl) Try.underlying4 (of_decide_eq_true (by kernel_rfl)) ?_ ?_
  · intro ds hl
    match ds, hl with
    | [d1, d2, d3], _ => rfl
  · intro W base args ds ps hval hA _
    have hp : Try.f7.params.toList = [25, 25, 25] := by kernel_rfl
    rw [hp] at hA hval
    obtain ⟨v0, vs0, d0, ds0, p0, q0, hargs, rfl, rfl, h0, r0⟩ := trodAll_cons hA
    obtain ⟨v1, vs1, d1, ds1, p1, q1, rfl, rfl, rfl, h1, r1⟩ := trodAll_cons r0
    obtain ⟨v2, vs2, d2, ds2, p2, q2, rfl, rfl, rfl, h2, r2⟩ := trodAll_cons r1
    obtain ⟨rfl, rfl, rfl⟩ := trodAll_nil r2
    obtain rfl : args = #[v0, v1, v2] := by cases args; simp_all
    obtain ⟨af, at_, rfl, b1, b2⟩ := open_span (hval 0 25 v0 rfl rfl) h0
    obtain ⟨bf, bt, rfl, b3, b4⟩ := open_span (hval 1 25 v1 rfl rfl) h1
    obtain ⟨vf, vt, rfl, b5, b6⟩ := open_span (hval 2 25 v2 rfl rfl) h2
    by_cases hg : FarGood af at_ bf bt vf vt
    · exact far_walk_yes af at_ bf bt vf vt W hg
    · exact far_walk_no af at_ bf bt vf vt W hg

theorem shiftFar_holds : Rows.ShiftFarSaid :=
  OpenClaim.holds_of_wide 7 Try.f7 rfl rfl rfl rfl rfl rfl rfl ⟨rfl, rfl, rfl, rfl, rfl⟩ rfl rfl rfl rfl rfl (by kernel_rfl) Try.func7 (by kernel_rfl)
    (of_decide_eq_true (by kernel_rfl)) (by unfold Func.isWrapper; first | (rw [if_pos (by decide +kernel)]; kernel_rfl) | (rw [if_neg (by decide +kernel)]; exact ⟨rfl, rfl⟩))
    (fun os started H enc _ => shiftFar_lifted os started H enc)
#print axioms shiftFar_holds
end Go.Proofs.Yteclkkbebinkpaa
