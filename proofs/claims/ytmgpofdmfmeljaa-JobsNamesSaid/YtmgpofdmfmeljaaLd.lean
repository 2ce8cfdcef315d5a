/- Arguments that are slices of jobs, single jobs: opened. -/
import Derived.Test.YtmgpofdmfmeljaaL
import Derived.Test.YtmgpofdmfmeljaaJl
import Derived.Lib.SmallJoins
import Derived.Deep.Slices
import Derived.Deep.Fields
import Derived.ChangeSame
namespace Go.Proofs.Ytmgpofdmfmeljaa
open Go.ChangeShapes Go.WideShapes Go.ChangeAt Go.RowKit Go.Joins Go.Deep

def I64 (x : Int) : Prop := -9223372036854775808 ≤ x ∧ x ≤ 9223372036854775807
structure DtB (d : Dt) : Prop where
  slot : I64 d.slot
  lo : I64 d.lo
  hi : I64 d.hi
  age : I64 d.age
  lev : I64 d.lev
theorem cellsDirty : Try.prog.cellsOf 31 = 5 := by kernel_rfl
theorem cellsSpan : Try.prog.cellsOf 29 = 2 := by kernel_rfl
section
variable {H : Type} {enc : TypeId × Value → H} {W : World} {b0 : Nat} {v : Value} {d : DataW H} {p : List MemPlace}
theorem list5 {α : Type} {l : List α} (h : l.length = 5) : ∃ a b c d e, l = [a, b, c, d, e] := by
  match l, h with
  | [a, b, c, d, e], _ => exact ⟨a, b, c, d, e, rfl⟩
theorem list4 {α : Type} {l : List α} (h : l.length = 4) : ∃ a b c d, l = [a, b, c, d] := by
  match l, h with
  | [a, b, c, d], _ => exact ⟨a, b, c, d, rfl⟩
theorem list2 {α : Type} {l : List α} (h : l.length = 2) : ∃ a b, l = [a, b] := by
  match l, h with
  | [a, b], _ => exact ⟨a, b, rfl⟩
set_option maxRecDepth 100000 in
theorem dirty_cells {n : Nat} {cs : List Value} {x : DataW H × List MemPlace} (hl : cs.length = 5) (ht : DataW.trod enc Try.prog W 0 (fun _ => true) true n 31 cs = some x) :
    ∃ d : Dt, cs = dCells d ∧ DtB d := by
  obtain ⟨v0, v1, v2, v3, v4, rfl⟩ := list5 hl
  obtain ⟨ys, m, _, _, _, hyl, hf⟩ := DataW.trod_struct Try.underlying31 ht
  obtain ⟨y0, y1, y2, y3, rfl⟩ := list4 (show ys.length = 4 from hyl)
  have t0 := hf 0 _ rfl
  have t1 := hf 1 _ rfl
  have t2 := hf 2 _ rfl
  have t3 := hf 3 _ rfl
  clear hf
  simp only [List.getElem_toArray, List.getElem_cons_zero, List.getElem_cons_succ] at t0 t1 t2 t3
  rw [cellsInt] at t0 t2 t3
  rw [cellsSpan] at t1
  simp only [List.drop_zero, List.drop_succ_cons, List.take_succ_cons, List.take_zero, List.getElem?_cons_zero, List.getElem?_cons_succ] at t0 t1 t2 t3
  obtain ⟨x0, e0, _, w0⟩ := DataW.trod_int Try.underlying3 t0
  obtain ⟨x3, e3, _, w3⟩ := DataW.trod_int Try.underlying3 t2
  obtain ⟨x4, e4, _, w4⟩ := DataW.trod_int Try.underlying3 t3
  obtain ⟨zs, m', _, _, _, hzl, hg⟩ := DataW.trod_struct Try.underlying29 t1
  obtain ⟨z0, z1, rfl⟩ := list2 (show zs.length = 2 from hzl)
  have s0 := hg 0 _ rfl
  have s1 := hg 1 _ rfl
  clear hg
  simp only [List.getElem_toArray, List.getElem_cons_zero, List.getElem_cons_succ] at s0 s1
  rw [cellsInt] at s0 s1
  simp only [List.drop_zero, List.drop_succ_cons, List.take_succ_cons, List.take_zero, List.getElem?_cons_zero, List.getElem?_cons_succ] at s0 s1
  obtain ⟨x1, e1, _, w1⟩ := DataW.trod_int Try.underlying3 s0
  obtain ⟨x2, e2, _, w2⟩ := DataW.trod_int Try.underlying3 s1
  simp at e0 e1 e2 e3 e4
  subst e0 e1 e2 e3 e4
  exact ⟨⟨x0, x1, x2, x3, x4⟩, rfl, i64_bd w0, i64_bd w1, i64_bd w2, i64_bd w3, i64_bd w4⟩
set_option maxRecDepth 100000 in
theorem open_jobs (hv : Value.okWide Try.prog W .any b0 22 v) (h : DataW.Trod enc Try.prog W 0 (fun _ => true) true 22 v d p) :
    ∃ A c js, v = .slice A (js : List Dt).length c ∧ Jobs W A js ∧ js.length ≤ c ∧ c ≤ 9223372036854775807 ∧ (A = none → c = 0) ∧ ∀ d ∈ js, DtB d := by
  obtain ⟨A0, len0, cap0, rfl⟩ := okWide_slice Try.underlying22 hv
  obtain ⟨fuel, hf⟩ := h
  rcases open_slice Try.underlying22 (show DataW.trod enc Try.prog W 0 (fun _ => true) true fuel 22 [.slice A0 len0 cap0] = _ by simpa [Value.cells] using hf) with ⟨hcs, _⟩ | ⟨a, len, cap, m, n, D, Pl, hcs, _, hl, hm, hmm, _, hcell⟩
  · injection hcs with hcs
    exact ⟨none, 0, [], hcs, (fun h => by simp at h), by simp, by omega, fun _ => rfl, fun s hs => by simp at hs⟩
  · injection hcs with hcs
    have hmm : m = cap := hmm
    obtain ⟨ss, hlen, hss⟩ := ex_list len (fun i (s : Dt) => (∀ r, r < 5 → W.cell? ((a.add (i * 5)).add r) = (dCells s)[r]?) ∧ DtB s) (by
      intro i hi
      obtain ⟨cs', hc', ht'⟩ := hcell i (by omega)
      rw [cellsDirty] at hc'
      obtain ⟨_, hcl, hat⟩ := World.cells?_some hc'
      obtain ⟨s, rfl, hb⟩ := dirty_cells (by omega) ht'
      exact ⟨s, fun r hr => hat r hr, hb⟩)
    refine ⟨some a, cap, ss, by rw [hcs, hlen], ?_, by omega, by unfold maxLen at hm; omega, (fun h => by cases h), ?_⟩
    · intro h0
      obtain ⟨s, hs⟩ : ∃ s, ss[0]? = some s := ⟨_, List.getElem?_eq_getElem h0⟩
      have h1 : W.cell? ((a.add (0 * 5)).add 0) = some (.int .i64 s.slot) := (hss 0 s hs).1 0 (by omega)
      obtain ⟨b, off, spot⟩ := a
      have hspot : spot = none := by simpa [Addr.add] using World.cell?_spot h1
      subst hspot
      refine ⟨b, off, rfl, ?_, ?_⟩
      · simp only [add_plain'] at h1
        exact World.block_lt_of_cell? _ _ h1
      · intro k hk
        have g := (hss k (ss.getD k d0) (by rw [List.getD_eq_getElem?_getD, List.getElem?_eq_getElem hk]; rfl)).1
        simp only [add_plain'] at g
        exact ⟨g 0 (by omega), g 1 (by omega), g 2 (by omega), g 3 (by omega), g 4 (by omega)⟩
    · intro s hs
      obtain ⟨i, hi, rfl⟩ := List.getElem_of_mem hs
      exact (hss i _ (List.getElem?_eq_getElem hi)).2
/-- a slice that reads as spans -/
abbrev Sn := Int × Int
def Spns (w : World) (A : Option Addr) (ss : List Sn) : Prop :=
  0 < ss.length → ∃ b off, A = some ⟨b, off, none⟩ ∧ b < w.heap.size ∧ ∀ k s, ss[k]? = some s → w.cell? ⟨b, off + k * 2, none⟩ = some (.int .i64 s.1) ∧ w.cell? ⟨b, off + k * 2 + 1, none⟩ = some (.int .i64 s.2)
def SnB (s : Sn) : Prop := (-9223372036854775808 ≤ s.1 ∧ s.1 ≤ 9223372036854775807) ∧ (-9223372036854775808 ≤ s.2 ∧ s.2 ≤ 9223372036854775807)
set_option maxRecDepth 100000 in
theorem open_span (hv : Value.okWide Try.prog W .any b0 29 v) (h : DataW.Trod enc Try.prog W 0 (fun _ => true) true 29 v d p) :
    ∃ a b : Int, v = .agg #[.int .i64 a, .int .i64 b] ∧ I64 a ∧ I64 b := by
  obtain ⟨c0, c1, y0, y1, m, rfl, _, _, hy0, hy1⟩ := open_agg2 Try.underlying29 (by kernel_rfl) cellsSpan hv h
  obtain ⟨a, e0, _, w0⟩ := DataW.trod_int Try.underlying3 hy0
  obtain ⟨b, e1, _, w1⟩ := DataW.trod_int Try.underlying3 hy1
  simp at e0 e1
  subst e0 e1
  exact ⟨_, _, rfl, i64_bd w0, i64_bd w1⟩
set_option maxRecDepth 100000 in
theorem open_spans (hv : Value.okWide Try.prog W .any b0 23 v) (h : DataW.Trod enc Try.prog W 0 (fun _ => true) true 23 v d p) :
    ∃ A c ss, v = .slice A (ss : List Sn).length c ∧ Spns W A ss ∧ ss.length ≤ c ∧ c ≤ 9223372036854775807 ∧ (A = none → c = 0) ∧ ∀ d ∈ ss, SnB d := by
  obtain ⟨A0, len0, cap0, rfl⟩ := okWide_slice Try.underlying23 hv
  obtain ⟨fuel, hf⟩ := h
  rcases open_slice Try.underlying23 (show DataW.trod enc Try.prog W 0 (fun _ => true) true fuel 23 [.slice A0 len0 cap0] = _ by simpa [Value.cells] using hf) with ⟨hcs, _⟩ | ⟨a, len, cap, m, n, D, Pl, hcs, _, hl, hm, hmm, _, hcell⟩
  · injection hcs with hcs
    exact ⟨none, 0, [], hcs, (fun h => by simp at h), by simp, by omega, fun _ => rfl, fun s hs => by simp at hs⟩
  · injection hcs with hcs
    have hmm : m = cap := hmm
    obtain ⟨ss, hlen, hss⟩ := ex_list len (fun i (s : Sn) => (W.cell? ((a.add (i * 2)).add 0) = some (.int .i64 s.1) ∧ W.cell? ((a.add (i * 2)).add 1) = some (.int .i64 s.2)) ∧ SnB s) (by
      intro i hi
      obtain ⟨cs', hc', ht'⟩ := hcell i (by omega)
      have hf := struct_cells Try.underlying29 (by kernel_rfl) cellsSpan hc' ht'
      obtain ⟨n0, v0, y0, c0, t0⟩ := hf 0 _ rfl
      obtain ⟨n1, v1, y1, c1, t1⟩ := hf 1 _ rfl
      rw [cellsSpan] at c0 c1
      obtain ⟨x0, e0, _, w0⟩ := DataW.trod_int Try.underlying3 t0
      obtain ⟨x1, e1, _, w1⟩ := DataW.trod_int Try.underlying3 t1
      simp at e0 e1
      subst e0 e1
      exact ⟨⟨x0, x1⟩, ⟨c0, c1⟩, i64_bd w0, i64_bd w1⟩)
    refine ⟨some a, cap, ss, by rw [hcs, hlen], ?_, by omega, by unfold maxLen at hm; omega, (fun h => by cases h), ?_⟩
    · intro h0
      obtain ⟨s, hs⟩ : ∃ s, ss[0]? = some s := ⟨_, List.getElem?_eq_getElem h0⟩
      have h1 := (hss 0 s hs).1.1
      obtain ⟨b, off, spot⟩ := a
      have hspot : spot = none := by simpa [Addr.add] using World.cell?_spot h1
      subst hspot
      refine ⟨b, off, rfl, ?_, ?_⟩
      · simp only [add_plain'] at h1
        exact World.block_lt_of_cell? _ _ h1
      · intro k s hk
        obtain ⟨g0, g1⟩ := (hss k s hk).1
        simp only [add_plain'] at g0 g1
        exact ⟨g0, g1⟩
    · intro s hs
      obtain ⟨i, hi, rfl⟩ := List.getElem_of_mem hs
      exact (hss i _ (List.getElem?_eq_getElem hi)).2
end
end Go.Proofs.Ytmgpofdmfmeljaa
