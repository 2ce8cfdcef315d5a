/- LinesNil: an index that nobody made answers ErrNil, and nothing. No condition. -/
import Derived.Test.YtfjkghbnlmhcnaaLv
import Derived.Test.YtfjkghbnlmhcnaaL
import Derived.ChangeMaps
namespace Go.Proofs.Ytfjkghbnlmhcnaa
open Go.ChangeShapes Go.WideShapes Go.ChangeAt Go.RowKit Go.Joins

set_option maxRecDepth 100000 in
theorem linesNil_lifted (os : Os) (started : os.Started) (H : Type) (enc : TypeId × Value → H) :
    ReturnsInHanded {} Try.checked os 8 .any (Rows.linesNilSpec.pre6 enc Try.prog Try.f8 Rows.linesNilRow.domain false) (Rows.linesNilSpec.post enc Try.prog Try.f8 false true false false) := by
  refine law_lifted (fn := Try.f8) started (by kernel_rfl) Try.func8
    (ChangeSpec.witness6 (enc := enc) (C := Try.checked) false ⟨#[], #[.agg #[.int .i64 0, .int .i64 0, .int .i64 0], .int .i64 0, .int .i64 0], []⟩ 8 (by kernel_rfl) (by kernel_rfl) (by kernel_rfl) (by kernel_rfl))
    rfl (by kernel_rfl) Try.underlying4 (of_decide_eq_true (by kernel_rfl)) ?_ ?_
  · intro ds hl
    match ds, hl with
    | [d1, d2, d3], _ => rfl
  · intro W base args ds ps hval hA hsz
    have hp : Try.f8.params.toList = [34, 3, 3] := by kernel_rfl
    rw [hp] at hA hval hsz
    obtain ⟨v0, vs0, d0, ds0, p0, q0, hargs, rfl, rfl, h0, r0⟩ := trodAll_cons hA
    obtain ⟨v1, vs1, d1, ds1, p1, q1, rfl, rfl, rfl, h1, r1⟩ := trodAll_cons r0
    obtain ⟨v2, vs2, d2, ds2, p2, q2, rfl, rfl, rfl, h2, r2⟩ := trodAll_cons r1
    obtain ⟨rfl, rfl, rfl⟩ := trodAll_nil r2
    obtain rfl : args = #[v0, v1, v2] := by cases args; simp_all
    obtain ⟨ea0, ed0, ei0, rfl, be0⟩ := open_edit (hval 0 34 v0 rfl rfl) h0
    obtain ⟨n1, rfl, bd1⟩ := open_i64 (hval 1 3 v1 rfl rfl) h1
    obtain ⟨n2, rfl, bd2⟩ := open_i64 (hval 2 3 v2 rfl rfl) h2
    exact (linesNil_any ea0 ed0 ei0 n1 n2 W).mono fun e w' ⟨he, hx⟩ => ⟨he, hx.below⟩

theorem linesNil_holds : Rows.LinesNilSaid :=
  OpenClaim.holds_of_wide 8 Try.f8 rfl rfl rfl rfl rfl rfl rfl ⟨rfl, rfl, rfl, rfl, rfl⟩ rfl rfl rfl rfl rfl (by kernel_rfl) Try.func8 (by kernel_rfl)
    (of_decide_eq_true (by kernel_rfl)) (by unfold Func.isWrapper; first | (rw [if_pos (by decide +kernel)]; kernel_rfl) | (rw [if_neg (by decide +kernel)]; exact ⟨rfl, rfl⟩))
    (fun os started H enc _ => linesNil_lifted os started H enc)
#print axioms linesNil_holds
end Go.Proofs.Ytfjkghbnlmhcnaa
