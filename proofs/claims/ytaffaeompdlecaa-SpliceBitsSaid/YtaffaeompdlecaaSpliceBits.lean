/- SpliceBits: spliced by the first part nobody's bits are left but the new tree's own; elsewhere a slot that is not done, and met something, still has something that it met. No condition. -/
import Derived.Test.YtaffaeompdlecaaVb
import Derived.Test.YtaffaeompdlecaaLd
import Derived.Test.YtaffaeompdlecaaL
namespace Go.Proofs.Ytaffaeompdlecaa
open Go.ChangeShapes Go.WideShapes Go.ChangeAt Go.RowKit Go.Joins

set_option maxRecDepth 100000 in
theorem spliceBits_lifted (os : Os) (started : os.Started) (H : Type) (enc : TypeId × Value → H) :
    ReturnsInHanded {} Try.checked os 16 .any (Rows.spliceBitsSpec.pre6 enc Try.prog Try.f16 Rows.spliceBitsRow.domain false) (Rows.spliceBitsSpec.post enc Try.prog Try.f16 false true false false) := by
  refine law_lifted (fn := Try.f16) started (by kernel_rfl) Try.func16
    (ChangeSpec.witness6 (enc := enc) (C := Try.checked) false ⟨#[], #[.slice none 0 0, .int .i64 0, .slice none 0 0], []⟩ 8 (by kernel_rfl) (by kernel_rfl) (by kernel_rfl) (by kernel_rfl))
    rfl (by kernel_rfl) Try.underlying4 (of_decide_eq_true (by kernel_rfl)) ?_ ?_
  · intro ds hl
    match ds, hl with
    | [d1, d2, d3], _ => rfl
  · intro W base args ds ps hval hA hsz
    have hp : Try.f16.params.toList = [22, 3, 77] := by kernel_rfl
    rw [hp] at hA hval hsz
    obtain ⟨v0, vs0, d0, ds0, p0, q0, hargs, rfl, rfl, h0, r0⟩ := trodAll_cons hA
    obtain ⟨v1, vs1, d1, ds1, p1, q1, rfl, rfl, rfl, h1, r1⟩ := trodAll_cons r0
    obtain ⟨v2, vs2, d2, ds2, p2, q2, rfl, rfl, rfl, h2, r2⟩ := trodAll_cons r1
    obtain ⟨rfl, rfl, rfl⟩ := trodAll_nil r2
    obtain rfl : args = #[v0, v1, v2] := by cases args; simp_all
    obtain ⟨A0, c0, xs0, rfl, hP0, hO0, bl0, bc0, bn0, hK0⟩ := open_partsS (hval 0 22 v0 rfl rfl) h0 (fun k hk => by have := List.all_eq_true.1 hsz k (DataW.weights_mem_each (j := 0) rfl rfl k hk); simpa using this)
    obtain ⟨n1, rfl, bd1⟩ := open_i64 (hval 1 3 v1 rfl rfl) h1
    obtain ⟨J2, cj2, js2, rfl, hJ2, jl2, jc2, jn2, jB2⟩ := open_jobs (hval 2 77 v2 rfl rfl) h2
    exact (spliceBits_any A0 c0 xs0 n1 J2 cj2 js2 W hP0 hO0 bl0 bc0 bn0 hK0 bd1 hJ2 jl2).mono fun e w' ⟨he, hx⟩ => ⟨he, hx.below⟩

theorem spliceBits_holds : Rows.SpliceBitsSaid :=
  OpenClaim.holds_of_wide 16 Try.f16 rfl rfl rfl rfl rfl rfl rfl ⟨rfl, rfl, rfl, rfl, rfl⟩ rfl rfl rfl rfl rfl (by kernel_rfl) Try.func16 (by kernel_rfl)
    (of_decide_eq_true (by kernel_rfl)) (by unfold Func.isWrapper; first | (rw [if_pos (by decide +kernel)]; kernel_rfl) | (rw [if_neg (by decide +kernel)]; exact ⟨rfl, rfl⟩))
    (fun os started H enc _ => spliceBits_lifted os started H enc)
#print axioms spliceBits_holds
end Go.Proofs.Ytaffaeompdlecaa
