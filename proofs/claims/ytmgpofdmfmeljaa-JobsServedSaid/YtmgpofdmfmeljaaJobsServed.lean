/- JobsServed: whoever waits is next at last: behind wait ticks, and as many as there are jobs, wherever views go. No condition. -/
import Derived.Test.YtmgpofdmfmeljaaJs
import Derived.Test.YtmgpofdmfmeljaaL
import Derived.Test.YtmgpofdmfmeljaaLd
namespace Go.Proofs.Ytmgpofdmfmeljaa
open Go.ChangeShapes Go.WideShapes Go.ChangeAt Go.RowKit Go.Joins

set_option maxRecDepth 100000 in
theorem jobsServed_lifted (os : Os) (started : os.Started) (H : Type) (enc : TypeId × Value → H) :
    ReturnsInHanded {} Try.checked os 3 .any (Rows.jobsServedSpec.pre6 enc Try.prog Try.f3 Rows.jobsServedRow.domain false) (Rows.jobsServedSpec.post enc Try.prog Try.f3 false true false false) := by
  refine law_lifted (fn := Try.f3) started (by kernel_rfl) Try.func3
    (ChangeSpec.witness6 (enc := enc) (C := Try.checked) false ⟨#[], #[.slice none 0 0, .slice none 0 0, .int .i64 0], []⟩ 8 (by kernel_rfl) (by kernel_rfl) (by kernel_rfl) (by kernel_rfl))
    rfl (by kernel_rfl) Try.underlying4 (of_decide_eq_true (by kernel_rfl)) ?_ ?_
  · intro ds hl
    match ds, hl with
    | [d1, d2, d3], _ => rfl
  · intro W base args ds ps hval hA _
    have hp : Try.f3.params.toList = [22, 23, 3] := by kernel_rfl
    rw [hp] at hA hval
    obtain ⟨v0, vs0, d0, ds0, p0, q0, hargs, rfl, rfl, h0, r0⟩ := trodAll_cons hA
    obtain ⟨v1, vs1, d1, ds1, p1, q1, rfl, rfl, rfl, h1, r1⟩ := trodAll_cons r0
    obtain ⟨v2, vs2, d2, ds2, p2, q2, rfl, rfl, rfl, h2, r2⟩ := trodAll_cons r1
    obtain ⟨rfl, rfl, rfl⟩ := trodAll_nil r2
    obtain rfl : args = #[v0, v1, v2] := by cases args; simp_all
    obtain ⟨A0, c0, xs0, rfl, hJ0, bl0, bc0, bn0, bd0⟩ := open_jobs (hval 0 22 v0 rfl rfl) h0
    obtain ⟨B1, cs1, ss1, rfl, hS1, sl1, sc1, sn1, sB1⟩ := open_spans (hval 1 23 v1 rfl rfl) h1
    obtain ⟨n2, rfl, bd2⟩ := open_i64 (hval 2 3 v2 rfl rfl) h2
    exact (jobsServed_any A0 c0 xs0 B1 cs1 ss1 n2 W hJ0 bl0 bc0 bn0 hS1 sl1 sc1 bd2).mono fun e w' ⟨he, hx⟩ => ⟨he, hx.below⟩

theorem jobsServed_holds : Rows.JobsServedSaid :=
  OpenClaim.holds_of_wide 3 Try.f3 rfl rfl rfl rfl rfl rfl rfl ⟨rfl, rfl, rfl, rfl, rfl⟩ rfl rfl rfl rfl rfl (by kernel_rfl) Try.func3 (by kernel_rfl)
    (of_decide_eq_true (by kernel_rfl)) (by unfold Func.isWrapper; first | (rw [if_pos (by decide +kernel)]; kernel_rfl) | (rw [if_neg (by decide +kernel)]; exact ⟨rfl, rfl⟩))
    (fun os started H enc _ => jobsServed_lifted os started H enc)
#print axioms jobsServed_holds
end Go.Proofs.Ytmgpofdmfmeljaa
