/- Arguments that are slices of styles: opened. -/
import Derived.Test.YtggmljookcmnkaaL
import Derived.Test.YtggmljookcmnkaaY1
import Derived.Lib.SmallJoins
import Derived.Deep.Slices
import Derived.Deep.Fields
import Derived.ChangeSame
namespace Go.Proofs.Ytggmljookcmnkaa
open Go.ChangeShapes Go.WideShapes Go.ChangeAt Go.RowKit Go.Joins Go.Deep

structure StyB (s : Sty) : Prop where
  kind : I64 s.kind
  st : I64 s.st
  prio : I64 s.prio
  path : ∀ x ∈ s.path, I64 x
  cap : s.path.length ≤ s.pc
  top : s.pc ≤ 9223372036854775807
  none : s.pA = .none → s.pc = 0
theorem cellsStyle : Try.prog.cellsOf 43 = 4 := by kernel_rfl
section
variable {H : Type} {enc : TypeId × Value → H} {W : World} {b0 : Nat} {v : Value} {d : DataW H} {p : List MemPlace}
set_option maxRecDepth 100000 in
theorem open_styles (hv : Value.okWide Try.prog W .any b0 22 v) (h : DataW.Trod enc Try.prog W 0 (fun _ => true) true 22 v d p) :
    ∃ A c ss, v = .slice A (ss : List Sty).length c ∧ Styles W A ss ∧ StylesOk W ss ∧ ss.length ≤ c ∧ c ≤ 9223372036854775807 ∧ (A = none → c = 0) ∧ (∀ s ∈ ss, StyB s) := by
  obtain ⟨A0, len0, cap0, rfl⟩ := okWide_slice Try.underlying22 hv
  obtain ⟨fuel, hf⟩ := h
  rcases open_slice Try.underlying22 (show DataW.trod enc Try.prog W 0 (fun _ => true) true fuel 22 [.slice A0 len0 cap0] = _ by simpa [Value.cells] using hf) with ⟨hcs, _⟩ | ⟨a, len, cap, m, n, D, Pl, hcs, _, hl, hm, hmm, _, hcell⟩
  · injection hcs with hcs
    exact ⟨none, 0, [], hcs, fun h => by simp at h, fun s hs => by simp at hs, by simp, by omega, fun _ => rfl, fun s hs => by simp at hs⟩
  · injection hcs with hcs
    have hmm : m = cap := hmm
    obtain ⟨ss, hlen, hss⟩ := ex_list len (fun i (s : Sty) => W.cell? ((a.add (i * 4)).add 0) = some (.int .i64 s.kind) ∧ W.cell? ((a.add (i * 4)).add 1) = some (.slice s.pA s.path.length s.pc) ∧
        W.cell? ((a.add (i * 4)).add 2) = some (.int .i64 s.st) ∧ W.cell? ((a.add (i * 4)).add 3) = some (.int .i64 s.prio) ∧ styOk W s ∧ StyB s) (by
      intro i hi
      obtain ⟨cs', hc', ht'⟩ := hcell i (by omega)
      have hf := struct_cells Try.underlying43 (by kernel_rfl) cellsStyle hc' ht'
      obtain ⟨n0, v0, y0, c0, t0⟩ := hf 0 _ rfl
      obtain ⟨n1, v1, y1, c1, t1⟩ := hf 1 _ rfl
      obtain ⟨n2, v2, y2, c2, t2⟩ := hf 2 _ rfl
      obtain ⟨n3, v3, y3, c3, t3⟩ := hf 3 _ rfl
      rw [cellsStyle] at c0 c1 c2 c3
      obtain ⟨k, e0, _, b0⟩ := DataW.trod_int Try.underlying3 t0
      obtain ⟨st, e2, _, b2⟩ := DataW.trod_int Try.underlying3 t2
      obtain ⟨pr, e3, _, b3⟩ := DataW.trod_int Try.underlying3 t3
      obtain ⟨A, c, xs, rfl, hI, hx1, hx2, hx3, hx4⟩ := ints_cell t1
      simp at e0 e2 e3
      subst e0 e2 e3
      exact ⟨⟨k, A, c, xs, st, pr⟩, c0, c1, c2, c3, ⟨hI, by show xs.length ≤ _; omega⟩, ⟨i64_bd b0, i64_bd b2, i64_bd b3, hx3, hx1, hx2, hx4⟩⟩)
    refine ⟨some a, cap, ss, by rw [hcs, hlen], ?_, ?_, by omega, by unfold maxLen at hm; omega, (fun h => by cases h), ?_⟩
    · intro h0
      obtain ⟨s, hs⟩ : ∃ s, ss[0]? = some s := ⟨_, List.getElem?_eq_getElem h0⟩
      have h1 := (hss 0 s hs).1
      obtain ⟨b, off, spot⟩ := a
      have hspot : spot = none := by simpa [Addr.add] using World.cell?_spot h1
      subst hspot
      refine ⟨b, off, rfl, ?_, ?_⟩
      · simp only [add_plain'] at h1
        exact World.block_lt_of_cell? _ _ h1
      · intro k s hk
        obtain ⟨g0, g1, g2, g3, _⟩ := hss k s hk
        simp only [add_plain'] at g0 g1 g2 g3
        exact ⟨g0, g1, g2, g3⟩
    · intro s hs
      obtain ⟨i, hi, rfl⟩ := List.getElem_of_mem hs
      exact (hss i _ (List.getElem?_eq_getElem hi)).2.2.2.2.1
    · intro s hs
      obtain ⟨i, hi, rfl⟩ := List.getElem_of_mem hs
      exact (hss i _ (List.getElem?_eq_getElem hi)).2.2.2.2.2
end
end Go.Proofs.Ytggmljookcmnkaa
