/- PaintBytes: each byte has its leaf's mark, and behind the trivia its style; a byte of no leaf is stale, without a style. No condition. -/
import Derived.Test.YthpmncdfaggkiaaGreatCr1
import Derived.Test.YthpmncdfaggkiaaGreatPn1
import Derived.Test.YthpmncdfaggkiaaGreatPn2
import Derived.Test.YthpmncdfaggkiaaGreatPn3
import Derived.Test.YthpmncdfaggkiaaGreatPn4
import Derived.Test.YthpmncdfaggkiaaGreatPnPaintBytes1
namespace Go.Proofs.YthpmncdfaggkiaaGreat
open Go.ChangeShapes Go.WideShapes Go.ChangeAt Go.RowKit Go.Joins
set_option maxRecDepth 100000 in
theorem paintBytes_lifted (os : Os) (started : os.Started) (H : Type) (enc : TypeId × Value → H) :
 ReturnsInHanded {} Tryz.checked os 8 .any (Rows.paintBytesSpec.pre6 enc Tryz.prog Tryz.f8 Rows.paintBytesRow.domain false) (Rows.paintBytesSpec.post enc Tryz.prog Tryz.f8 false true false false) := by
 refine law_lifted (fn := Tryz.f8) started (by kernel_rfl) Tryz.func8
  (ChangeSpec.witness6 (enc := enc) (C := Tryz.checked) false ⟨#[], #[.slice none 0 0, .int .i64 0, .slice none 0 0, .int .i64 0], []⟩ 8 (by kernel_rfl) (by kernel_rfl) (by kernel_rfl) (by kernel_rfl))
  rfl (by kernel_rfl) Tryz.underlying4 (of_decide_eq_true (by kernel_rfl)) ?_ ?_
 ·intro ds hl
  match ds, hl with
  | [d1, d2, d3, d4], _ => rfl
 ·intro W base args ds ps hval hA hsz
  have hp : Tryz.f8.params.toList = [22, 3, 56, 3] := by kernel_rfl
  rw [hp] at hA hval hsz
  obtain ⟨v0, vs0, d0, ds0, p0, q0, hargs, rfl, rfl, h0, r0⟩ := trodAll_cons hA
  obtain ⟨v1, vs1, d1, ds1, p1, q1, rfl, rfl, rfl, h1, r1⟩ := trodAll_cons r0
  obtain ⟨v2, vs2, d2, ds2, p2, q2, rfl, rfl, rfl, h2, r2⟩ := trodAll_cons r1
  obtain ⟨v3, vs3, d3, ds3, p3, q3, rfl, rfl, rfl, h3, r3⟩ := trodAll_cons r2
  obtain ⟨rfl, rfl, rfl⟩ := trodAll_nil r3
  obtain rfl : args = #[v0, v1, v2, v3] := by cases args; simp_all
  obtain ⟨A0, c0, xs0, rfl, hP0, hO0, bl0, bc0, bn0, hK0⟩ := open_partsS (hval 0 22 v0 rfl rfl) h0 (fun k hk => by have := List.all_eq_true.1 hsz k (DataW.weights_mem_each (j := 0) rfl rfl k hk); simpa using this)
  obtain ⟨n1, rfl, bd1⟩ := open_i64 (hval 1 3 v1 rfl rfl) h1
  obtain ⟨B2, cs2, ss2, rfl, hS2, hSO2, sl2, sc2, sn2, sB2⟩ := open_styles (hval 2 56 v2 rfl rfl) h2
  obtain ⟨n3, rfl, bd3⟩ := open_i64 (hval 3 3 v3 rfl rfl) h3
  exact (paintBytes_any A0 c0 xs0 n1 B2 ss2 cs2 n3 W hP0 hO0 bl0 bc0 bn0 hK0 hS2 hSO2 (by omega) (fun s hs => ⟨(sB2 s hs).cap, (sB2 s hs).top⟩) bd3).mono fun e w' ⟨he, hx⟩ => ⟨he, hx.below⟩
theorem paintBytes_holds : Rows.PaintBytesSaid :=
 OpenClaim.holds_of_wide 8 Tryz.f8 rfl rfl rfl rfl rfl rfl rfl ⟨rfl, rfl, rfl, rfl, rfl⟩ rfl rfl rfl rfl rfl (by kernel_rfl) Tryz.func8 (by kernel_rfl)
  (of_decide_eq_true (by kernel_rfl)) (by unfold Func.isWrapper; first | (rw [if_pos (by decide +kernel)]; kernel_rfl) | (rw [if_neg (by decide +kernel)]; exact ⟨rfl, rfl⟩))
  (fun os started H enc _ => paintBytes_lifted os started H enc)
#print axioms paintBytes_holds
end Go.Proofs.YthpmncdfaggkiaaGreat
