/- StylesOwn: a style with a leaf's kind and the end of its way, that counts more than all others, is the leaf's. No condition. -/
import Derived.Test.YtaffaeompdlecaaY6
import Derived.Test.YtaffaeompdlecaaLo
import Derived.Test.YtaffaeompdlecaaL
namespace Go.Proofs.Ytaffaeompdlecaa
open Go.ChangeShapes Go.WideShapes Go.ChangeAt Go.RowKit Go.Joins

set_option maxRecDepth 100000 in
theorem stylesOwn_lifted (os : Os) (started : os.Started) (H : Type) (enc : TypeId × Value → H) :
    ReturnsInHanded {} Try.checked os 10 .any (Rows.stylesOwnSpec.pre6 enc Try.prog Try.f10 Rows.stylesOwnRow.domain false) (Rows.stylesOwnSpec.post enc Try.prog Try.f10 false true false false) := by
  refine law_lifted (fn := Try.f10) started (by kernel_rfl) Try.func10
    (ChangeSpec.witness6 (enc := enc) (C := Try.checked) false ⟨#[], #[.slice none 0 0, .slice none 0 0, .int .i64 0, .int .i64 0], []⟩ 8 (by kernel_rfl) (by kernel_rfl) (by kernel_rfl) (by kernel_rfl))
    rfl (by kernel_rfl) Try.underlying4 (of_decide_eq_true (by kernel_rfl)) ?_ ?_
  · intro ds hl
    match ds, hl with
    | [d1, d2, d3, d4], _ => rfl
  · intro W base args ds ps hval hA hsz
    have hp : Try.f10.params.toList = [60, 22, 3, 3] := by kernel_rfl
    rw [hp] at hA hval hsz
    obtain ⟨v0, vs0, d0, ds0, p0, q0, hargs, rfl, rfl, h0, r0⟩ := trodAll_cons hA
    obtain ⟨v1, vs1, d1, ds1, p1, q1, rfl, rfl, rfl, h1, r1⟩ := trodAll_cons r0
    obtain ⟨v2, vs2, d2, ds2, p2, q2, rfl, rfl, rfl, h2, r2⟩ := trodAll_cons r1
    obtain ⟨v3, vs3, d3, ds3, p3, q3, rfl, rfl, rfl, h3, r3⟩ := trodAll_cons r2
    obtain ⟨rfl, rfl, rfl⟩ := trodAll_nil r3
    obtain rfl : args = #[v0, v1, v2, v3] := by cases args; simp_all
    obtain ⟨B0, cs0, ss0, rfl, hS0, hSO0, sl0, sc0, sn0, sB0⟩ := open_styles (hval 0 60 v0 rfl rfl) h0
    obtain ⟨A1, c1, xs1, rfl, hP1, hO1, bl1, bc1, bn1, hK1⟩ := open_partsS (hval 1 22 v1 rfl rfl) h1 (fun k hk => by have := List.all_eq_true.1 hsz k (DataW.weights_mem_each (j := 1) rfl rfl k hk); simpa using this)
    obtain ⟨n2, rfl, bd2⟩ := open_i64 (hval 2 3 v2 rfl rfl) h2
    obtain ⟨n3, rfl, bd3⟩ := open_i64 (hval 3 3 v3 rfl rfl) h3
    exact (stylesOwn_any B0 ss0 cs0 A1 c1 xs1 n2 n3 W hS0 hSO0 sl0 sc0 sn0 hP1 hO1 bl1 bc1 bn1 hK1 bd2 bd3).mono fun e w' ⟨he, hx⟩ => ⟨he, hx.below⟩

theorem stylesOwn_holds : Rows.StylesOwnSaid :=
  OpenClaim.holds_of_wide 10 Try.f10 rfl rfl rfl rfl rfl rfl rfl ⟨rfl, rfl, rfl, rfl, rfl⟩ rfl rfl rfl rfl rfl (by kernel_rfl) Try.func10 (by kernel_rfl)
    (of_decide_eq_true (by kernel_rfl)) (by unfold Func.isWrapper; first | (rw [if_pos (by decide +kernel)]; kernel_rfl) | (rw [if_neg (by decide +kernel)]; exact ⟨rfl, rfl⟩))
    (fun os started H enc _ => stylesOwn_lifted os started H enc)
#print axioms stylesOwn_holds
end Go.Proofs.Ytaffaeompdlecaa
