/- TreeCalls: trees are looked at, cut, put together, moved and edited as the document says. No condition. -/
import Derived.Test.YtggmljookcmnkaaNb
import Derived.Test.YtggmljookcmnkaaL
namespace Go.Proofs.Ytggmljookcmnkaa
open Go.ChangeShapes Go.WideShapes Go.ChangeAt Go.RowKit Go.Joins

set_option maxRecDepth 100000 in
theorem treeCalls_lifted (os : Os) (started : os.Started) (H : Type) (enc : TypeId × Value → H) :
    ReturnsInHanded {} Try.checked os 7 .any (Rows.treeCallsSpec.pre6 enc Try.prog Try.f7 Rows.treeCallsRow.domain false) (Rows.treeCallsSpec.post enc Try.prog Try.f7 false true false false) := by
  refine law_lifted (fn := Try.f7) started (by kernel_rfl) Try.func7
    (ChangeSpec.witness6 (enc := enc) (C := Try.checked) false ⟨#[], #[.slice none 0 0, .slice none 0 0, .int .i64 0, .int .i64 0, .int .i64 0, .agg #[.int .i64 0, .int .i64 0, .int .i64 0], .int .u64 0], []⟩ 8 (by kernel_rfl) (by kernel_rfl) (by kernel_rfl) (by kernel_rfl))
    rfl (by kernel_rfl) Try.underlying4 (of_decide_eq_true (by kernel_rfl)) ?_ ?_
  · intro ds hl
    match ds, hl with
    | [d1, d2, d3, d4, d5, d6, d7], _ => rfl
  · intro W base args ds ps hval hA hsz
    have hp : Try.f7.params.toList = [23, 23, 3, 3, 3, 63, 31] := by kernel_rfl
    rw [hp] at hA hval hsz
    obtain ⟨v0, vs0, d0, ds0, p0, q0, hargs, rfl, rfl, h0, r0⟩ := trodAll_cons hA
    obtain ⟨v1, vs1, d1, ds1, p1, q1, rfl, rfl, rfl, h1, r1⟩ := trodAll_cons r0
    obtain ⟨v2, vs2, d2, ds2, p2, q2, rfl, rfl, rfl, h2, r2⟩ := trodAll_cons r1
    obtain ⟨v3, vs3, d3, ds3, p3, q3, rfl, rfl, rfl, h3, r3⟩ := trodAll_cons r2
    obtain ⟨v4, vs4, d4, ds4, p4, q4, rfl, rfl, rfl, h4, r4⟩ := trodAll_cons r3
    obtain ⟨v5, vs5, d5, ds5, p5, q5, rfl, rfl, rfl, h5, r5⟩ := trodAll_cons r4
    obtain ⟨v6, vs6, d6, ds6, p6, q6, rfl, rfl, rfl, h6, r6⟩ := trodAll_cons r5
    obtain ⟨rfl, rfl, rfl⟩ := trodAll_nil r6
    obtain rfl : args = #[v0, v1, v2, v3, v4, v5, v6] := by cases args; simp_all
    obtain ⟨A0, c0, xs0, rfl, hP0, hO0, bl0, bc0, bn0, hK0⟩ := open_partsS (hval 0 23 v0 rfl rfl) h0 (fun k hk => by have := List.all_eq_true.1 hsz k (DataW.weights_mem_each (j := 0) rfl rfl k hk); simpa using this)
    obtain ⟨A1, c1, xs1, rfl, hP1, hO1, bl1, bc1, bn1, hK1⟩ := open_partsS (hval 1 23 v1 rfl rfl) h1 (fun k hk => by have := List.all_eq_true.1 hsz k (DataW.weights_mem_each (j := 1) rfl rfl k hk); simpa using this)
    obtain ⟨n2, rfl, bd2⟩ := open_i64 (hval 2 3 v2 rfl rfl) h2
    obtain ⟨n3, rfl, bd3⟩ := open_i64 (hval 3 3 v3 rfl rfl) h3
    obtain ⟨n4, rfl, bd4⟩ := open_i64 (hval 4 3 v4 rfl rfl) h4
    obtain ⟨ea5, ed5, ei5, rfl, be5⟩ := open_edit (hval 5 63 v5 rfl rfl) h5
    obtain ⟨n6, rfl, bd6⟩ := open_u64 (hval 6 31 v6 rfl rfl) h6
    exact (treeCalls_any A0 A1 c0 c1 xs0 xs1 n2 n3 n4 ea5 ed5 ei5 n6 W hP0 hO0 bl0 bc0 bn0 hK0 hP1 hO1 bl1 bc1 bn1 hK1 bd4 bd6).mono fun e w' ⟨he, hx⟩ => ⟨he, hx.below⟩

theorem treeCalls_holds : Rows.TreeCallsSaid :=
  OpenClaim.holds_of_wide 7 Try.f7 rfl rfl rfl rfl rfl rfl rfl ⟨rfl, rfl, rfl, rfl, rfl⟩ rfl rfl rfl rfl rfl (by kernel_rfl) Try.func7 (by kernel_rfl)
    (of_decide_eq_true (by kernel_rfl)) (by unfold Func.isWrapper; first | (rw [if_pos (by decide +kernel)]; kernel_rfl) | (rw [if_neg (by decide +kernel)]; exact ⟨rfl, rfl⟩))
    (fun os started H enc _ => treeCalls_lifted os started H enc)
#print axioms treeCalls_holds
end Go.Proofs.Ytggmljookcmnkaa
