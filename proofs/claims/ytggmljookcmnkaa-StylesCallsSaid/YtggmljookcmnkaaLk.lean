/- Arguments that are grammars: opened. -/
import Derived.Test.YtggmljookcmnkaaL
import Derived.Test.YtggmljookcmnkaaK1
import Derived.Lib.SmallJoins
import Derived.Deep.Slices
import Derived.Deep.Fields
import Derived.ChangeSame
namespace Go.Proofs.Ytggmljookcmnkaa
open Go.ChangeShapes Go.WideShapes Go.ChangeAt Go.RowKit Go.Joins Go.Deep

theorem cellsProd : Try.prog.cellsOf 76 = 2 := by kernel_rfl
theorem cellsGrammar : Try.prog.cellsOf 39 = 4 := by kernel_rfl
section
variable {H : Type} {enc : TypeId × Value → H} {W : World} {b0 : Nat} {v : Value} {d : DataW H} {p : List MemPlace}
set_option maxRecDepth 100000 in
theorem prods_cell {n : Nat} {y : DataW H × List MemPlace} (h : DataW.trod enc Try.prog W 0 (fun _ => true) true n 37 [v] = some y) :
    ∃ A c ps, v = .slice A (ps : List Prd).length c ∧ Prds W A ps ∧ (∀ p ∈ ps, PrdOk W p) ∧ ps.length ≤ c ∧ c ≤ 9223372036854775807 ∧ (∀ p ∈ ps, I64 p.left) := by
  rcases open_slice Try.underlying37 h with ⟨hcs, _⟩ | ⟨a, len, cap, m, n, D, Pl, hcs, _, hl, hm, hmm, _, hcell⟩
  · injection hcs with hcs
    exact ⟨none, 0, [], hcs, (fun h => by simp at h), (fun s hs => by simp at hs), by simp, by omega, fun s hs => by simp at hs⟩
  · injection hcs with hcs
    have hmm : m = cap := hmm
    obtain ⟨ss, hlen, hss⟩ := ex_list len (fun i (s : Prd) => W.cell? ((a.add (i * 2)).add 0) = some (.int .i64 s.left) ∧ W.cell? ((a.add (i * 2)).add 1) = some (.slice s.rA s.right.length s.rc) ∧ PrdOk W s ∧ I64 s.left) (by
      intro i hi
      obtain ⟨cs', hc', ht'⟩ := hcell i (by omega)
      have hf := struct_cells Try.underlying76 (by kernel_rfl) cellsProd hc' ht'
      obtain ⟨n0, v0, y0, c0, t0⟩ := hf 0 _ rfl
      obtain ⟨n1, v1, y1, c1, t1⟩ := hf 1 _ rfl
      rw [cellsProd] at c0 c1
      obtain ⟨k, e0, _, b0⟩ := DataW.trod_int Try.underlying3 t0
      obtain ⟨A, c, xs, rfl, hI, hx1, hx2, hx3, hx4⟩ := ints_cell t1
      simp at e0
      subst e0
      exact ⟨⟨k, A, c, xs⟩, c0, c1, ⟨hI, hx1, hx2⟩, i64_bd b0⟩)
    refine ⟨some a, cap, ss, by rw [hcs, hlen], ?_, ?_, by omega, by unfold maxLen at hm; omega, ?_⟩
    · intro h0
      obtain ⟨s, hs⟩ : ∃ s, ss[0]? = some s := ⟨_, List.getElem?_eq_getElem h0⟩
      have h1 := (hss 0 s hs).1
      obtain ⟨b, off, spot⟩ := a
      have hspot : spot = none := by simpa [Addr.add] using World.cell?_spot h1
      subst hspot
      refine ⟨b, off, rfl, ?_, ?_⟩
      · simp only [add_plain'] at h1
        exact World.block_lt_of_cell? _ _ h1
      · intro k s hk
        obtain ⟨g0, g1, _⟩ := hss k s hk
        simp only [add_plain'] at g0 g1
        exact ⟨g0, g1⟩
    · intro s hs
      obtain ⟨i, hi, rfl⟩ := List.getElem_of_mem hs
      exact (hss i _ (List.getElem?_eq_getElem hi)).2.2.1
    · intro s hs
      obtain ⟨i, hi, rfl⟩ := List.getElem_of_mem hs
      exact (hss i _ (List.getElem?_eq_getElem hi)).2.2.2
set_option maxRecDepth 100000 in
theorem open_grammar (hv : Value.okWide Try.prog W .any b0 39 v) (h : DataW.Trod enc Try.prog W 0 (fun _ => true) true 39 v d p) :
    ∃ g : Gr, v = grV g ∧ GrOk W g ∧ I64 g.terms ∧ I64 g.nons ∧ I64 g.k ∧ ∀ p ∈ g.prods, I64 p.left := by
  obtain ⟨c0, c1, c2, c3, y0, y1, y2, y3, m, rfl, _, _, hy0, hy1, hy2, hy3⟩ := open_agg4 Try.underlying39 (by kernel_rfl) cellsGrammar hv h
  obtain ⟨a, e0, _, w0⟩ := DataW.trod_int Try.underlying3 hy0
  obtain ⟨b, e1, _, w1⟩ := DataW.trod_int Try.underlying3 hy1
  obtain ⟨c, e2, _, w2⟩ := DataW.trod_int Try.underlying3 hy2
  obtain ⟨A, cc, ps, e3, h1, h2, h3, h4, h5⟩ := prods_cell hy3
  simp at e0 e1 e2
  subst e0 e1 e2 e3
  exact ⟨⟨a, b, c, A, cc, ps⟩, rfl, ⟨h1, h2, h3, h4⟩, i64_bd w0, i64_bd w1, i64_bd w2, h5⟩
end
end Go.Proofs.Ytggmljookcmnkaa
