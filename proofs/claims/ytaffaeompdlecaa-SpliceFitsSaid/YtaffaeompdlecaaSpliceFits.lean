/- SpliceFits: a tree fits just if its first part has the part's symbol, kind, At and To; what does not is refused. No condition. -/
import Derived.Test.YtaffaeompdlecaaV6
import Derived.Test.YtaffaeompdlecaaL
namespace Go.Proofs.Ytaffaeompdlecaa
open Go.ChangeShapes Go.WideShapes Go.ChangeAt Go.RowKit Go.Joins

set_option maxRecDepth 100000 in
theorem spliceFits_lifted (os : Os) (started : os.Started) (H : Type) (enc : TypeId × Value → H) :
    ReturnsInHanded {} Try.checked os 15 .any (Rows.spliceFitsSpec.pre6 enc Try.prog Try.f15 Rows.spliceFitsRow.domain false) (Rows.spliceFitsSpec.post enc Try.prog Try.f15 false true false false) := by
  refine law_lifted (fn := Try.f15) started (by kernel_rfl) Try.func15
    (ChangeSpec.witness6 (enc := enc) (C := Try.checked) false ⟨#[], #[.slice none 0 0, .slice none 0 0, .int .i64 0], []⟩ 8 (by kernel_rfl) (by kernel_rfl) (by kernel_rfl) (by kernel_rfl))
    rfl (by kernel_rfl) Try.underlying4 (of_decide_eq_true (by kernel_rfl)) ?_ ?_
  · intro ds hl
    match ds, hl with
    | [d1, d2, d3], _ => rfl
  · intro W base args ds ps hval hA hsz
    have hp : Try.f15.params.toList = [22, 22, 3] := by kernel_rfl
    rw [hp] at hA hval hsz
    obtain ⟨v0, vs0, d0, ds0, p0, q0, hargs, rfl, rfl, h0, r0⟩ := trodAll_cons hA
    obtain ⟨v1, vs1, d1, ds1, p1, q1, rfl, rfl, rfl, h1, r1⟩ := trodAll_cons r0
    obtain ⟨v2, vs2, d2, ds2, p2, q2, rfl, rfl, rfl, h2, r2⟩ := trodAll_cons r1
    obtain ⟨rfl, rfl, rfl⟩ := trodAll_nil r2
    obtain rfl : args = #[v0, v1, v2] := by cases args; simp_all
    obtain ⟨A0, c0, xs0, rfl, hP0, hO0, bl0, bc0, bn0, hK0⟩ := open_partsS (hval 0 22 v0 rfl rfl) h0 (fun k hk => by have := List.all_eq_true.1 hsz k (DataW.weights_mem_each (j := 0) rfl rfl k hk); simpa using this)
    obtain ⟨A1, c1, xs1, rfl, hP1, hO1, bl1, bc1, bn1, hK1⟩ := open_partsS (hval 1 22 v1 rfl rfl) h1 (fun k hk => by have := List.all_eq_true.1 hsz k (DataW.weights_mem_each (j := 1) rfl rfl k hk); simpa using this)
    obtain ⟨n2, rfl, bd2⟩ := open_i64 (hval 2 3 v2 rfl rfl) h2
    exact (spliceFits_any A0 A1 c0 c1 xs0 xs1 n2 W hP0 hO0 bl0 bc0 bn0 hK0 hP1 hO1 bl1 bc1 bn1 hK1 bd2).mono fun e w' ⟨he, hx⟩ => ⟨he, hx.below⟩

theorem spliceFits_holds : Rows.SpliceFitsSaid :=
  OpenClaim.holds_of_wide 15 Try.f15 rfl rfl rfl rfl rfl rfl rfl ⟨rfl, rfl, rfl, rfl, rfl⟩ rfl rfl rfl rfl rfl (by kernel_rfl) Try.func15 (by kernel_rfl)
    (of_decide_eq_true (by kernel_rfl)) (by unfold Func.isWrapper; first | (rw [if_pos (by decide +kernel)]; kernel_rfl) | (rw [if_neg (by decide +kernel)]; exact ⟨rfl, rfl⟩))
    (fun os started H enc _ => spliceFits_lifted os started H enc)
#print axioms spliceFits_holds
end Go.Proofs.Ytaffaeompdlecaa
