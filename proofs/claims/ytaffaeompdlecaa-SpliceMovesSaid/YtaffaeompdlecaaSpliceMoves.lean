/- SpliceMoves: what a slot is given it has, and nobody else loses anything; cleared it has nothing. No condition. -/
import Derived.Test.YtaffaeompdlecaaV8
import Derived.Test.YtaffaeompdlecaaL
namespace Go.Proofs.Ytaffaeompdlecaa
open Go.ChangeShapes Go.WideShapes Go.ChangeAt Go.RowKit Go.Joins

set_option maxRecDepth 100000 in
theorem spliceMoves_lifted (os : Os) (started : os.Started) (H : Type) (enc : TypeId × Value → H) :
    ReturnsInHanded {} Try.checked os 17 .any (Rows.spliceMovesSpec.pre6 enc Try.prog Try.f17 Rows.spliceMovesRow.domain false) (Rows.spliceMovesSpec.post enc Try.prog Try.f17 false true false false) := by
  refine law_lifted (fn := Try.f17) started (by kernel_rfl) Try.func17
    (ChangeSpec.witness6 (enc := enc) (C := Try.checked) false ⟨#[], #[.slice none 0 0, .int .i64 0, .int .i64 0], []⟩ 8 (by kernel_rfl) (by kernel_rfl) (by kernel_rfl) (by kernel_rfl))
    rfl (by kernel_rfl) Try.underlying4 (of_decide_eq_true (by kernel_rfl)) ?_ ?_
  · intro ds hl
    match ds, hl with
    | [d1, d2, d3], _ => rfl
  · intro W base args ds ps hval hA hsz
    have hp : Try.f17.params.toList = [22, 3, 3] := by kernel_rfl
    rw [hp] at hA hval hsz
    obtain ⟨v0, vs0, d0, ds0, p0, q0, hargs, rfl, rfl, h0, r0⟩ := trodAll_cons hA
    obtain ⟨v1, vs1, d1, ds1, p1, q1, rfl, rfl, rfl, h1, r1⟩ := trodAll_cons r0
    obtain ⟨v2, vs2, d2, ds2, p2, q2, rfl, rfl, rfl, h2, r2⟩ := trodAll_cons r1
    obtain ⟨rfl, rfl, rfl⟩ := trodAll_nil r2
    obtain rfl : args = #[v0, v1, v2] := by cases args; simp_all
    obtain ⟨A0, c0, xs0, rfl, hP0, hO0, bl0, bc0, bn0, hK0⟩ := open_partsS (hval 0 22 v0 rfl rfl) h0 (fun k hk => by have := List.all_eq_true.1 hsz k (DataW.weights_mem_each (j := 0) rfl rfl k hk); simpa using this)
    obtain ⟨n1, rfl, bd1⟩ := open_i64 (hval 1 3 v1 rfl rfl) h1
    obtain ⟨n2, rfl, bd2⟩ := open_i64 (hval 2 3 v2 rfl rfl) h2
    exact (spliceMoves_any A0 c0 xs0 n1 n2 W hP0 hO0 bl0 bc0 bn0 hK0 bd1 bd2).mono fun e w' ⟨he, hx⟩ => ⟨he, hx.below⟩

theorem spliceMoves_holds : Rows.SpliceMovesSaid :=
  OpenClaim.holds_of_wide 17 Try.f17 rfl rfl rfl rfl rfl rfl rfl ⟨rfl, rfl, rfl, rfl, rfl⟩ rfl rfl rfl rfl rfl (by kernel_rfl) Try.func17 (by kernel_rfl)
    (of_decide_eq_true (by kernel_rfl)) (by unfold Func.isWrapper; first | (rw [if_pos (by decide +kernel)]; kernel_rfl) | (rw [if_neg (by decide +kernel)]; exact ⟨rfl, rfl⟩))
    (fun os started H enc _ => spliceMoves_lifted os started H enc)
#print axioms spliceMoves_holds
end Go.Proofs.Ytaffaeompdlecaa
