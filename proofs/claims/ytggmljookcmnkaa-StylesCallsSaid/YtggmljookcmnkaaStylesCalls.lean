/- StylesCalls: styles are looked at, and found, as the document says. No condition. -/
import Derived.Test.YtggmljookcmnkaaKb
import Derived.Test.YtggmljookcmnkaaLo
import Derived.Test.YtggmljookcmnkaaLk
import Derived.Test.YtggmljookcmnkaaL
namespace Go.Proofs.Ytggmljookcmnkaa
open Go.ChangeShapes Go.WideShapes Go.ChangeAt Go.RowKit Go.Joins

set_option maxRecDepth 100000 in
theorem stylesCalls_lifted (os : Os) (started : os.Started) (H : Type) (enc : TypeId × Value → H) :
    ReturnsInHanded {} Try.checked os 4 .any (Rows.stylesCallsSpec.pre6 enc Try.prog Try.f4 Rows.stylesCallsRow.domain false) (Rows.stylesCallsSpec.post enc Try.prog Try.f4 false true false false) := by
  refine law_lifted (fn := Try.f4) started (by kernel_rfl) Try.func4
    (ChangeSpec.witness6 (enc := enc) (C := Try.checked) false ⟨#[], #[.slice none 0 0, .agg #[.int .i64 0, .int .i64 0, .int .i64 0, .slice none 0 0], .int .i64 0, .slice none 0 0, .slice none 0 0, .int .i64 0], []⟩ 8 (by kernel_rfl) (by kernel_rfl) (by kernel_rfl) (by kernel_rfl))
    rfl (by kernel_rfl) Try.underlying4 (of_decide_eq_true (by kernel_rfl)) ?_ ?_
  · intro ds hl
    match ds, hl with
    | [d1, d2, d3, d4, d5, d6], _ => rfl
  · intro W base args ds ps hval hA hsz
    have hp : Try.f4.params.toList = [22, 39, 3, 30, 23, 3] := by kernel_rfl
    rw [hp] at hA hval hsz
    obtain ⟨v0, vs0, d0, ds0, p0, q0, hargs, rfl, rfl, h0, r0⟩ := trodAll_cons hA
    obtain ⟨v1, vs1, d1, ds1, p1, q1, rfl, rfl, rfl, h1, r1⟩ := trodAll_cons r0
    obtain ⟨v2, vs2, d2, ds2, p2, q2, rfl, rfl, rfl, h2, r2⟩ := trodAll_cons r1
    obtain ⟨v3, vs3, d3, ds3, p3, q3, rfl, rfl, rfl, h3, r3⟩ := trodAll_cons r2
    obtain ⟨v4, vs4, d4, ds4, p4, q4, rfl, rfl, rfl, h4, r4⟩ := trodAll_cons r3
    obtain ⟨v5, vs5, d5, ds5, p5, q5, rfl, rfl, rfl, h5, r5⟩ := trodAll_cons r4
    obtain ⟨rfl, rfl, rfl⟩ := trodAll_nil r5
    obtain rfl : args = #[v0, v1, v2, v3, v4, v5] := by cases args; simp_all
    obtain ⟨B0, cs0, ss0, rfl, hS0, hSO0, sl0, sc0, sn0, sB0⟩ := open_styles (hval 0 22 v0 rfl rfl) h0
    obtain ⟨g1, rfl, hG1, _⟩ := open_grammar (hval 1 39 v1 rfl rfl) h1
    obtain ⟨n2, rfl, bd2⟩ := open_i64 (hval 2 3 v2 rfl rfl) h2
    obtain ⟨D3, cd3, ws3, rfl, hI3, wl3, wc3, _, _⟩ := open_intsL (hval 3 30 v3 rfl rfl) h3
    obtain ⟨A4, c4, xs4, rfl, hP4, hO4, bl4, bc4, bn4, hK4⟩ := open_partsS (hval 4 23 v4 rfl rfl) h4 (fun k hk => by have := List.all_eq_true.1 hsz k (DataW.weights_mem_each (j := 4) rfl rfl k hk); simpa using this)
    obtain ⟨n5, rfl, bd5⟩ := open_i64 (hval 5 3 v5 rfl rfl) h5
    exact (stylesCalls_any B0 ss0 cs0 g1 n2 D3 ws3 cd3 A4 c4 xs4 n5 W hS0 hSO0 (by omega) sB0 hG1 hI3 wl3 wc3 hP4 hO4 bl4 bc4 bn4 hK4).mono fun e w' ⟨he, hx⟩ => ⟨he, hx.below⟩

theorem stylesCalls_holds : Rows.StylesCallsSaid :=
  OpenClaim.holds_of_wide 4 Try.f4 rfl rfl rfl rfl rfl rfl rfl ⟨rfl, rfl, rfl, rfl, rfl⟩ rfl rfl rfl rfl rfl (by kernel_rfl) Try.func4 (by kernel_rfl)
    (of_decide_eq_true (by kernel_rfl)) (by unfold Func.isWrapper; first | (rw [if_pos (by decide +kernel)]; kernel_rfl) | (rw [if_neg (by decide +kernel)]; exact ⟨rfl, rfl⟩))
    (fun os started H enc _ => stylesCalls_lifted os started H enc)
#print axioms stylesCalls_holds
end Go.Proofs.Ytggmljookcmnkaa
