/- Proved: ShiftBytes returns true for every input and leaves its arguments as they were; no condition. -/
import Derived.Test.YteclkkbebinkpaaO
import Derived.Test.YteclkkbebinkpaaR
namespace Go.Proofs.Yteclkkbebinkpaa
open Go.ChangeShapes Go.WideShapes Go.ChangeAt Go.RowKit Go.Joins Go.WideMaps Go.WideElems
open Go.ChangeMaps (open_string)

set_option maxRecDepth 100000 in
theorem shiftBytes_lifted (os : Os) (started : os.Started) (H : Type) (enc : TypeId × Value → H) :
    ReturnsInHanded {} Try.checked os 4 .any (Rows.shiftBytesSpec.pre6 enc Try.prog Try.f4 Rows.shiftBytesRow.domain false) (Rows.shiftBytesSpec.post enc Try.prog Try.f4 false true false false) := by
  refine law_lifted (fn := Try.f4) started (by kernel_rfl) Try.func4
    (ChangeSpec.witness6 (enc := enc) (C := Try.checked) false ⟨#[], #[.string ByteArray.empty, .agg #[.int .i64 0, .int .i64 0], .int .i64 0, .int .i64 0, .string ByteArray.empty], []⟩ 8 (by kernel_rfl) (by kernel_rfl) (by kernel_rfl) (by kernel_rfl))
    rfl (by kernel_rfl) Try.underlying4 (of_decide_eq_true (by kernel_rfl)) ?_ ?_
  · intro ds hl
    match ds, hl with
    | [d1, d2, d3, d4, d5], _ => rfl
  · intro W base args ds ps hval hA _
    have hp : Try.f4.params.toList = [9, 25, 3, 3, 9] := by kernel_rfl
    rw [hp] at hA hval
    obtain ⟨v0, vs0, d0, ds0, p0, q0, hargs, rfl, rfl, h0, r0⟩ := trodAll_cons hA
    obtain ⟨v1, vs1, d1, ds1, p1, q1, rfl, rfl, rfl, h1, r1⟩ := trodAll_cons r0
    obtain ⟨v2, vs2, d2, ds2, p2, q2, rfl, rfl, rfl, h2, r2⟩ := trodAll_cons r1
    obtain ⟨v3, vs3, d3, ds3, p3, q3, rfl, rfl, rfl, h3, r3⟩ := trodAll_cons r2
    obtain ⟨v4, vs4, d4, ds4, p4, q4, rfl, rfl, rfl, h4, r4⟩ := trodAll_cons r3
    obtain ⟨rfl, rfl, rfl⟩ := trodAll_nil r4
    obtain rfl : args = #[v0, v1, v2, v3, v4] := by cases args; simp_all
    obtain ⟨s, rfl, _, _, bs⟩ := open_string Try.underlying9 (hval 0 9 v0 rfl rfl) h0
    obtain ⟨f, t, rfl, bf, bt⟩ := open_span (hval 1 25 v1 rfl rfl) h1
    obtain ⟨a, rfl, ba⟩ := open_i64 (hval 2 3 v2 rfl rfl) h2
    obtain ⟨d, rfl, bd⟩ := open_i64 (hval 3 3 v3 rfl rfl) h3
    obtain ⟨ins, rfl, _, _, bi⟩ := open_string Try.underlying9 (hval 4 9 v4 rfl rfl) h4
    unfold maxLen at bs bi
    by_cases h1 : s.size ≤ 300 ∧ ins.size ≤ 300 ∧ checkF a d ins.size s.size = 0
    · obtain ⟨c1, c2, c3⟩ := h1
      obtain ⟨k1, k2, k3, k4, k5, k6⟩ := check_bd c3
      obtain ⟨a, rfl⟩ := Int.eq_ofNat_of_zero_le k2.1
      obtain ⟨d, rfl⟩ := Int.eq_ofNat_of_zero_le k3.1
      exact bytes_walk_yes s ins f t a d W c1 c2 (by omega) c3 bf bt
    · exact bytes_walk_no s ins f t a d W bs bi (by omega)

theorem shiftBytes_holds : Rows.ShiftBytesSaid :=
  OpenClaim.holds_of_wide 4 Try.f4 rfl rfl rfl rfl rfl rfl rfl ⟨rfl, rfl, rfl, rfl, rfl⟩ rfl rfl rfl rfl rfl (by kernel_rfl) Try.func4 (by kernel_rfl)
    (of_decide_eq_true (by kernel_rfl)) (by unfold Func.isWrapper; first | (rw [if_pos (by decide +kernel)]; kernel_rfl) | (rw [if_neg (by decide +kernel)]; exact ⟨rfl, rfl⟩))
    (fun os started H enc _ => shiftBytes_lifted os started H enc)
#print axioms shiftBytes_holds
end Go.Proofs.Yteclkkbebinkpaa
