/- Arguments that are slices of parts, edits: opened. -/
import Derived.Test.YtaffaeompdlecaaTo
import Derived.Test.YtaffaeompdlecaaNt
import Derived.SizedLaws
namespace Go.Proofs.Ytaffaeompdlecaa
open Go.ChangeShapes Go.WideShapes Go.ChangeAt Go.RowKit Go.Joins Go.Deep

theorem cellsPart : Try.prog.cellsOf 35 = 8 := by kernel_rfl
theorem cellsEdit : Try.prog.cellsOf 26 = 3 := by kernel_rfl
theorem u64_bd {a : Int} (h : (Lit.int .u64 a).wf = true) : 0 ≤ a ∧ a ≤ 18446744073709551615 := by
  simpa [Lit.wf, IntKind.min, IntKind.max, IntKind.signed, IntKind.bits] using h
section
variable {H : Type} {enc : TypeId × Value → H} {W : World} {b0 : Nat} {v : Value} {d : DataW H} {p : List MemPlace}
set_option maxRecDepth 100000 in
theorem open_u64 (hv : Value.okWide Try.prog W .any b0 33 v) (h : DataW.Trod enc Try.prog W 0 (fun _ => true) true 33 v d p) :
    ∃ a : Int, v = .int .u64 a ∧ 0 ≤ a ∧ a ≤ 18446744073709551615 := by
  obtain ⟨x, rfl, _, _, wx⟩ := open_int Try.underlying33 hv h
  exact ⟨x, rfl, u64_bd wx⟩
set_option maxRecDepth 100000 in
theorem open_edit (hv : Value.okWide Try.prog W .any b0 26 v) (h : DataW.Trod enc Try.prog W 0 (fun _ => true) true 26 v d p) :
    ∃ a e i : Int, v = .agg #[.int .i64 a, .int .i64 e, .int .i64 i] ∧ I64 a ∧ I64 e ∧ I64 i := by
  obtain ⟨c0, c1, c2, y0, y1, y2, m, rfl, _, _, hy0, hy1, hy2⟩ := open_agg3 Try.underlying26 (by kernel_rfl) cellsEdit hv h
  obtain ⟨a, e0, _, w0⟩ := DataW.trod_int Try.underlying3 hy0
  obtain ⟨b, e1, _, w1⟩ := DataW.trod_int Try.underlying3 hy1
  obtain ⟨c, e2, _, w2⟩ := DataW.trod_int Try.underlying3 hy2
  simp at e0 e1 e2
  subst e0 e1 e2
  exact ⟨_, _, _, rfl, i64_bd w0, i64_bd w1, i64_bd w2⟩
set_option maxRecDepth 100000 in
theorem open_parts (hv : Value.okWide Try.prog W .any b0 22 v) (h : DataW.Trod enc Try.prog W 0 (fun _ => true) true 22 v d p) :
    ∃ A c ps, v = .slice A (ps : List Prt).length c ∧ Prts W A ps ∧ PrtsOk W ps ∧ ps.length ≤ c ∧ c ≤ 9223372036854775807 ∧ (A = none → c = 0) := by
  obtain ⟨A0, len0, cap0, rfl⟩ := okWide_slice Try.underlying22 hv
  obtain ⟨fuel, hf⟩ := h
  rcases open_slice Try.underlying22 (show DataW.trod enc Try.prog W 0 (fun _ => true) true fuel 22 [.slice A0 len0 cap0] = _ by simpa [Value.cells] using hf) with ⟨hcs, _⟩ | ⟨a, len, cap, m, n, D, Pl, hcs, _, hl, hm, hmm, _, hcell⟩
  · injection hcs with hcs
    exact ⟨none, 0, [], hcs, Prts.nil, fun s hs => by simp at hs, by simp, by omega, fun _ => rfl⟩
  · injection hcs with hcs
    have hmm : m = cap := hmm
    obtain ⟨ss, hlen, hss⟩ := ex_list len (fun i (s : Prt) => W.cell? ((a.add (i * 8)).add 0) = some (.int .i64 s.nd.sym) ∧ W.cell? ((a.add (i * 8)).add 1) = some (.int .i64 s.nd.kind) ∧
        W.cell? ((a.add (i * 8)).add 2) = some (.int .i64 s.nd.lo) ∧ W.cell? ((a.add (i * 8)).add 3) = some (.int .i64 s.nd.inn) ∧ W.cell? ((a.add (i * 8)).add 4) = some (.int .i64 s.nd.hi) ∧
        W.cell? ((a.add (i * 8)).add 5) = some (.int .i64 s.nd.look) ∧ W.cell? ((a.add (i * 8)).add 6) = some (.slice s.kA s.nd.kids.length s.kc) ∧ W.cell? ((a.add (i * 8)).add 7) = some (.int .u64 s.nd.met) ∧ PrtOk W s) (by
      intro i hi
      obtain ⟨cs', hc', ht'⟩ := hcell i (by omega)
      have hf := struct_cells Try.underlying35 (by kernel_rfl) cellsPart hc' ht'
      obtain ⟨n0, v0, y0, c0, t0⟩ := hf 0 _ rfl
      obtain ⟨n1, v1, y1, c1, t1⟩ := hf 1 _ rfl
      obtain ⟨n2, v2, y2, c2, t2⟩ := hf 2 _ rfl
      obtain ⟨n3, v3, y3, c3, t3⟩ := hf 3 _ rfl
      obtain ⟨n4, v4, y4, c4, t4⟩ := hf 4 _ rfl
      obtain ⟨n5, v5, y5, c5, t5⟩ := hf 5 _ rfl
      obtain ⟨n6, v6, y6, c6, t6⟩ := hf 6 _ rfl
      obtain ⟨n7, v7, y7, c7, t7⟩ := hf 7 _ rfl
      rw [cellsPart] at c0 c1 c2 c3 c4 c5 c6 c7
      obtain ⟨x0, e0, _, w0⟩ := DataW.trod_int Try.underlying3 t0
      obtain ⟨x1, e1, _, w1⟩ := DataW.trod_int Try.underlying3 t1
      obtain ⟨x2, e2, _, w2⟩ := DataW.trod_int Try.underlying3 t2
      obtain ⟨x3, e3, _, w3⟩ := DataW.trod_int Try.underlying3 t3
      obtain ⟨x4, e4, _, w4⟩ := DataW.trod_int Try.underlying3 t4
      obtain ⟨x5, e5, _, w5⟩ := DataW.trod_int Try.underlying3 t5
      obtain ⟨A, c, xs, rfl, hI, hx1, hx2, hx3, hx4⟩ := ints_cell t6
      obtain ⟨x7, e7, _, w7⟩ := DataW.trod_int Try.underlying33 t7
      simp at e0 e1 e2 e3 e4 e5 e7
      subst e0 e1 e2 e3 e4 e5 e7
      exact ⟨⟨⟨x0, x1, x2, x3, x4, x5, xs, x7⟩, A, c⟩, c0, c1, c2, c3, c4, c5, c6, c7, ⟨hI, hx1, hx2, hx4, i64_bd w0, i64_bd w1, i64_bd w2, i64_bd w3, i64_bd w4, i64_bd w5, u64_bd w7, hx3⟩⟩)
    refine ⟨some a, cap, ss, by rw [hcs, hlen], ?_, ?_, by omega, by unfold maxLen at hm; omega, fun h => by cases h⟩
    · intro h0
      obtain ⟨s, hs⟩ : ∃ s, ss[0]? = some s := ⟨_, List.getElem?_eq_getElem h0⟩
      have h1 := (hss 0 s hs).1
      obtain ⟨b, off, spot⟩ := a
      have hspot : spot = none := by simpa [Addr.add] using World.cell?_spot h1
      subst hspot
      refine ⟨b, off, rfl, ?_, ?_⟩
      · simp only [add_plain'] at h1
        exact World.block_lt_of_cell? _ _ h1
      · intro k s hk
        obtain ⟨g0, g1, g2, g3, g4, g5, g6, g7, _⟩ := hss k s hk
        simp only [add_plain'] at g0 g1 g2 g3 g4 g5 g6 g7
        exact ⟨g0, g1, g2, g3, g4, g5, g6, g7⟩
    · intro s hs
      obtain ⟨i, hi, rfl⟩ := List.getElem_of_mem hs
      exact (hss i _ (List.getElem?_eq_getElem hi)).2.2.2.2.2.2.2.2
end
theorem struct_cells2 {H : Type} {enc : TypeId × Value → H} {P : Program} {w : World} {base : Nat} {spare : Nat → Bool} {held : Bool} {e : TypeId} {fs : Array Field} {n : Nat} {a : Addr} {cs : List Value} {x : DataW H × List MemPlace} (he : P.underlying e = some (.struct fs)) (hone : oneCellFields P fs = true)
    (hsz : P.cellsOf e = fs.size) (hc : w.cells? base a (P.cellsOf e) = some cs) (ht : DataW.trod enc P w base spare held n e cs = some x) (j : Nat) (f : Field) (hj : fs[j]? = some f) :
    ∃ (m : Nat) (v : Value) (y : DataW H × List MemPlace), w.cell? (a.add j) = some v ∧ DataW.trod enc P w base spare held m f.type [v] = some y ∧ ∀ k ∈ y.1.weights P f.type, k ∈ x.1.weights P e := by
  obtain ⟨ys, m, hm, hx, _, hyl, hf⟩ := DataW.trod_struct he ht
  obtain ⟨_, hcl, hat⟩ := World.cells?_some hc
  obtain ⟨ho, hk⟩ := hone_of hone j f hj
  have hjl : j < fs.size := (Array.getElem?_eq_some_iff.1 hj).1
  have hjc : j < cs.length := by omega
  have h1 := hf j f hj
  rw [ho, hk, List.drop_eq_getElem_cons hjc] at h1
  refine ⟨m, cs[j], ys[j]'(by omega), ?_, ?_, ?_⟩
  · exact (hat j (by omega)).trans (List.getElem?_eq_getElem hjc)
  · exact h1.trans (List.getElem?_eq_getElem (by omega))
  · intro k hk
    rw [hx]
    simp only [DataW.weights, he]
    refine DataW.weights_mem_each (j := j) (t := f.type) (d := (ys[j]'(by omega)).1) ?_ ?_ k hk
    · rw [List.getElem?_map, Array.getElem?_toList, hj]
      rfl
    · rw [List.getElem?_map, List.getElem?_eq_getElem (by omega)]
      rfl
theorem weights_elem {H : Type} {P : Program} {e : TypeId} : ∀ {l : List (DataW H)} {d : DataW H}, d ∈ l → ∀ k ∈ d.weights P e, k ∈ DataW.weightsAll P e l
  | d0 :: l, d, hd, k, hk => by
    simp only [DataW.weightsAll, List.mem_append]
    rcases List.mem_cons.1 hd with rfl | hd
    · exact .inl hk
    · exact .inr (weights_elem hd k hk)
set_option maxRecDepth 100000 in
theorem ints_cellS {H : Type} {enc : TypeId × Value → H} {W : World} {v : Value} {n : Nat} {y : DataW H × List MemPlace} (h : DataW.trod enc Try.prog W 0 (fun _ => true) true n 30 [v] = some y) (hw : ∀ k ∈ y.1.weights Try.prog 30, k ≤ reachBytes) :
    ∃ A c xs, v = .slice A xs.length c ∧ Ints W A xs ∧ xs.length ≤ c ∧ c ≤ 9223372036854775807 ∧ (∀ x ∈ xs, -9223372036854775808 ≤ x ∧ x ≤ 9223372036854775807) ∧ (A = none → c = 0) ∧ xs.length ≤ 140737488355328 := by
  obtain ⟨A, c, xs, rfl, h1, h2, h3, h4, h5⟩ := ints_cell h
  refine ⟨A, c, xs, rfl, h1, h2, h3, h4, h5, ?_⟩
  rcases open_ints Try.underlying30 Try.underlying3 cellsInt h with ⟨hcs, _⟩ | ⟨a, len, cap, zs, hcs, _, hl, hm, hz, hy, _, _⟩
  · injection hcs with hcs
    injection hcs with _ hcs _
    omega
  · injection hcs with hcs
    injection hcs with _ hcs _
    have hz : zs.length = cap := hz
    have hb : Try.prog.bytesOf 3 = 8 := by kernel_rfl
    rw [hy] at hw
    have hll : (lits IntKind.i64 (zs.take len) : List (DataW H)).length = len := by simp [lits]; omega
    have := hw (((lits IntKind.i64 (zs.take len) : List (DataW H)).length + (lits IntKind.i64 (zs.drop len) : List (DataW H)).length) * Try.prog.bytesOf 3) (by simp [DataW.weights, Try.underlying30])
    rw [hb, hll] at this
    have hr := reachBytes_lt
    omega
section
variable {H : Type} {enc : TypeId × Value → H} {W : World} {b0 : Nat} {v : Value} {d : DataW H} {p : List MemPlace}
set_option maxRecDepth 100000 in
theorem open_partsS (hv : Value.okWide Try.prog W .any b0 22 v) (h : DataW.Trod enc Try.prog W 0 (fun _ => true) true 22 v d p) (hw : ∀ k ∈ d.weights Try.prog 22, k ≤ reachBytes) :
    ∃ A c ps, v = .slice A (ps : List Prt).length c ∧ Prts W A ps ∧ PrtsOk W ps ∧ ps.length ≤ c ∧ c ≤ 9223372036854775807 ∧ (A = none → c = 0) ∧ (∀ p ∈ ps, p.nd.kids.length ≤ 140737488355328) := by
  obtain ⟨A0, len0, cap0, rfl⟩ := okWide_slice Try.underlying22 hv
  obtain ⟨fuel, hf⟩ := h
  rcases open_slice Try.underlying22 (show DataW.trod enc Try.prog W 0 (fun _ => true) true fuel 22 [.slice A0 len0 cap0] = _ by simpa [Value.cells] using hf) with ⟨hcs, _⟩ | ⟨a, len, cap, m, n, D, Pl, hcs, _, hl, hm, hmm, hxd, hcell⟩
  · injection hcs with hcs
    exact ⟨none, 0, [], hcs, Prts.nil, (fun s hs => by simp at hs), by simp, by omega, fun _ => rfl, fun s hs => by simp at hs⟩
  · injection hcs with hcs
    have hmm : m = cap := hmm
    obtain ⟨ss, hlen, hss⟩ := ex_list len (fun i (s : Prt) => W.cell? ((a.add (i * 8)).add 0) = some (.int .i64 s.nd.sym) ∧ W.cell? ((a.add (i * 8)).add 1) = some (.int .i64 s.nd.kind) ∧
        W.cell? ((a.add (i * 8)).add 2) = some (.int .i64 s.nd.lo) ∧ W.cell? ((a.add (i * 8)).add 3) = some (.int .i64 s.nd.inn) ∧ W.cell? ((a.add (i * 8)).add 4) = some (.int .i64 s.nd.hi) ∧
        W.cell? ((a.add (i * 8)).add 5) = some (.int .i64 s.nd.look) ∧ W.cell? ((a.add (i * 8)).add 6) = some (.slice s.kA s.nd.kids.length s.kc) ∧ W.cell? ((a.add (i * 8)).add 7) = some (.int .u64 s.nd.met) ∧ PrtOk W s ∧ s.nd.kids.length ≤ 140737488355328) (by
      intro i hi
      obtain ⟨cs', hc', ht'⟩ := hcell i (by omega)
      have hf := struct_cells2 Try.underlying35 (by kernel_rfl) cellsPart hc' ht'
      obtain ⟨n0, v0, y0, c0, t0, m0⟩ := hf 0 _ rfl
      obtain ⟨n1, v1, y1, c1, t1, m1⟩ := hf 1 _ rfl
      obtain ⟨n2, v2, y2, c2, t2, m2⟩ := hf 2 _ rfl
      obtain ⟨n3, v3, y3, c3, t3, m3⟩ := hf 3 _ rfl
      obtain ⟨n4, v4, y4, c4, t4, m4⟩ := hf 4 _ rfl
      obtain ⟨n5, v5, y5, c5, t5, m5⟩ := hf 5 _ rfl
      obtain ⟨n6, v6, y6, c6, t6, m6⟩ := hf 6 _ rfl
      obtain ⟨n7, v7, y7, c7, t7, m7⟩ := hf 7 _ rfl
      rw [cellsPart] at c0 c1 c2 c3 c4 c5 c6 c7
      obtain ⟨x0, e0, _, w0⟩ := DataW.trod_int Try.underlying3 t0
      obtain ⟨x1, e1, _, w1⟩ := DataW.trod_int Try.underlying3 t1
      obtain ⟨x2, e2, _, w2⟩ := DataW.trod_int Try.underlying3 t2
      obtain ⟨x3, e3, _, w3⟩ := DataW.trod_int Try.underlying3 t3
      obtain ⟨x4, e4, _, w4⟩ := DataW.trod_int Try.underlying3 t4
      obtain ⟨x5, e5, _, w5⟩ := DataW.trod_int Try.underlying3 t5
      obtain ⟨A, c, xs, rfl, hI, hx1, hx2, hx3, hx4, hx5⟩ := ints_cellS t6 (fun k hk => hw k (by rw [show d = _ from congrArg Prod.fst hxd]; simp only [DataW.weights, Try.underlying22]; exact List.mem_cons_of_mem _ (List.mem_append_left _ (weights_elem (List.mem_map.2 ⟨i, List.mem_range.2 hi, rfl⟩) k (m6 k hk)))))
      obtain ⟨x7, e7, _, w7⟩ := DataW.trod_int Try.underlying33 t7
      simp at e0 e1 e2 e3 e4 e5 e7
      subst e0 e1 e2 e3 e4 e5 e7
      exact ⟨⟨⟨x0, x1, x2, x3, x4, x5, xs, x7⟩, A, c⟩, c0, c1, c2, c3, c4, c5, c6, c7, ⟨hI, hx1, hx2, hx4, i64_bd w0, i64_bd w1, i64_bd w2, i64_bd w3, i64_bd w4, i64_bd w5, u64_bd w7, hx3⟩, hx5⟩)
    refine ⟨some a, cap, ss, by rw [hcs, hlen], ?_, ?_, by omega, by unfold maxLen at hm; omega, (fun h => by cases h), ?_⟩
    · intro h0
      obtain ⟨s, hs⟩ : ∃ s, ss[0]? = some s := ⟨_, List.getElem?_eq_getElem h0⟩
      have h1 := (hss 0 s hs).1
      obtain ⟨b, off, spot⟩ := a
      have hspot : spot = none := by simpa [Addr.add] using World.cell?_spot h1
      subst hspot
      refine ⟨b, off, rfl, ?_, ?_⟩
      · simp only [add_plain'] at h1
        exact World.block_lt_of_cell? _ _ h1
      · intro k s hk
        obtain ⟨g0, g1, g2, g3, g4, g5, g6, g7, _⟩ := hss k s hk
        simp only [add_plain'] at g0 g1 g2 g3 g4 g5 g6 g7
        exact ⟨g0, g1, g2, g3, g4, g5, g6, g7⟩
    · intro s hs
      obtain ⟨i, hi, rfl⟩ := List.getElem_of_mem hs
      exact (hss i _ (List.getElem?_eq_getElem hi)).2.2.2.2.2.2.2.2.1
    · intro s hs
      obtain ⟨i, hi, rfl⟩ := List.getElem_of_mem hs
      exact (hss i _ (List.getElem?_eq_getElem hi)).2.2.2.2.2.2.2.2.2
end
end Go.Proofs.Ytaffaeompdlecaa
