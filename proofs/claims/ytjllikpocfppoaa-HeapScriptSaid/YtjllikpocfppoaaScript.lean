/- Proved: HeapScript returns true for every input and leaves its arguments as they were; no condition. -/
import Derived.Test.YtjllikpocfppoaaZc
import Derived.Test.YtjllikpocfppoaaTo
import Derived.Test.YtjllikpocfppoaaL
namespace Go.Proofs.Ytjllikpocfppoaa
open Go.ChangeShapes Go.WideShapes Go.ChangeAt Go.RowKit Go.Joins Go.Deep
theorem cells51 : Try.prog.cellsOf 51 = 2 := by kernel_rfl
theorem open_acts {H : Type} {enc : TypeId × Value → H} {W : World} {b0 : Nat} {v : Value} {d : DataW H} {p : List MemPlace} (hv : Value.okWide Try.prog W .any b0 46 v) (h : DataW.Trod enc Try.prog W 0 (fun _ => true) true 46 v d p) :
    ∃ A c, ∃ xs : List (Int × Int), v = .slice A xs.length c ∧ Acts W A xs ∧ xs.length ≤ c ∧ c ≤ 9223372036854775807 ∧ (∀ x ∈ xs, -9223372036854775808 ≤ x.1 ∧ x.1 ≤ 9223372036854775807) := by
  obtain ⟨A0, len0, cap0, rfl⟩ := okWide_slice Try.underlying46 hv
  obtain ⟨fuel, hf⟩ := h
  rcases open_slice Try.underlying46 (show DataW.trod enc Try.prog W 0 (fun _ => true) true fuel 46 [.slice A0 len0 cap0] = _ by simpa [Value.cells] using hf) with ⟨hcs, _⟩ | ⟨a, len, cap, m, n, D, Pl, hcs, _, hl, hm, hmm, _, hcell⟩
  · injection hcs with hcs
    exact ⟨none, 0, [], hcs, fun h => by simp at h, by simp, by omega, by simp⟩
  · injection hcs with hcs
    have hmm : m = cap := hmm
    obtain ⟨xs, hlen, hxs⟩ := ex_list len (fun i (x : Int × Int) => W.cell? ((a.add (i * 2)).add 0) = some (.int .i64 x.1) ∧ W.cell? ((a.add (i * 2)).add 1) = some (.int .i64 x.2) ∧ -9223372036854775808 ≤ x.1 ∧ x.1 ≤ 9223372036854775807) (by
      intro i hi
      obtain ⟨cs', hc', ht'⟩ := hcell i (by omega)
      have hf := struct_cells Try.underlying51 (by kernel_rfl) cells51 hc' ht'
      obtain ⟨n0, v0, y0, c0, t0⟩ := hf 0 _ rfl
      obtain ⟨n1, v1, y1, c1, t1⟩ := hf 1 _ rfl
      rw [cells51] at c0 c1
      obtain ⟨k, e0, _, w0⟩ := DataW.trod_int Try.underlying3 t0
      obtain ⟨st, e1, _, _⟩ := DataW.trod_int Try.underlying3 t1
      simp at e0 e1
      subst e0 e1
      exact ⟨(k, st), c0, c1, i64_bd w0⟩)
    refine ⟨some a, cap, xs, by rw [hcs, hlen], ?_, by omega, by unfold maxLen at hm; omega, ?_⟩
    · intro h0
      obtain ⟨s, hs⟩ : ∃ s, xs[0]? = some s := ⟨_, List.getElem?_eq_getElem h0⟩
      have h1 := (hxs 0 s hs).1
      obtain ⟨b, off, spot⟩ := a
      have hspot : spot = none := by simpa [Addr.add] using World.cell?_spot h1
      subst hspot
      refine ⟨b, off, rfl, ?_, ?_⟩
      · simp only [add_plain'] at h1
        exact World.block_lt_of_cell? _ _ h1
      · intro k hk
        obtain ⟨g0, g1, _⟩ := hxs k _ (List.getElem?_eq_getElem hk)
        simp only [add_plain'] at g0 g1
        rw [List.getD_eq_getElem?_getD, List.getElem?_eq_getElem hk]
        exact ⟨g0, g1⟩
    · intro x hx
      obtain ⟨i, hi, rfl⟩ := List.getElem_of_mem hx
      exact (hxs i _ (List.getElem?_eq_getElem hi)).2.2

set_option maxRecDepth 100000 in
theorem heapScript_lifted (os : Os) (started : os.Started) (H : Type) (enc : TypeId × Value → H) :
    ReturnsInHanded {} Try.checked os 5 .any (Rows.heapScriptSpec.pre6 enc Try.prog Try.f5 Rows.heapScriptRow.domain false) (Rows.heapScriptSpec.post enc Try.prog Try.f5 false true false false) := by
  refine law_lifted (fn := Try.f5) started (by kernel_rfl) Try.func5
    (ChangeSpec.witness6 (enc := enc) (C := Try.checked) false ⟨#[], #[.slice none 0 0], []⟩ 8 (by kernel_rfl) (by kernel_rfl) (by kernel_rfl) (by kernel_rfl))
    rfl (by kernel_rfl) Try.underlying4 (of_decide_eq_true (by kernel_rfl)) ?_ ?_
  · intro ds hl
    match ds, hl with
    | [d1], _ => rfl
  · intro W base args ds ps hval hA _
    have hp : Try.f5.params.toList = [46] := by kernel_rfl
    rw [hp] at hA hval
    obtain ⟨v0, vs0, d0, ds0, p0, q0, hargs, rfl, rfl, h0, r0⟩ := trodAll_cons hA
    obtain ⟨rfl, rfl, rfl⟩ := trodAll_nil r0
    obtain rfl : args = #[v0] := by cases args; simp_all
    obtain ⟨A, c, xs, rfl, hI, b1, b2, b3⟩ := open_acts (hval 0 46 v0 rfl rfl) h0
    exact script_any A xs c W hI b1 b2 b3

theorem heapScript_holds : Rows.HeapScriptSaid :=
  OpenClaim.holds_of_wide 5 Try.f5 rfl rfl rfl rfl rfl rfl rfl ⟨rfl, rfl, rfl, rfl, rfl⟩ rfl rfl rfl rfl rfl (by kernel_rfl) Try.func5 (by kernel_rfl)
    (of_decide_eq_true (by kernel_rfl)) (by unfold Func.isWrapper; first | (rw [if_pos (by decide +kernel)]; kernel_rfl) | (rw [if_neg (by decide +kernel)]; exact ⟨rfl, rfl⟩))
    (fun os started H enc _ => heapScript_lifted os started H enc)
#print axioms heapScript_holds
end Go.Proofs.Ytjllikpocfppoaa
