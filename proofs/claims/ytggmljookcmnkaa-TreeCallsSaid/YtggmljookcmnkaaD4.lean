/- The contracts of slices.Grow, slices.Concat (of three). -/
import Derived.Test.YtggmljookcmnkaaB9
import Derived.Lib.AppendZeros
import Derived.WalkSpells
import Derived.WalkLawsBesides
import Derived.BigRegion
import Derived.Deep.RegionWith
import Derived.Deep.QuietTactic
import Derived.Deep.DeepCutAuto
import Derived.Deep.RegionHeld3
import Derived.Deep.RegionLaw
import Derived.BigQuiet
import Derived.Lib.Hide
namespace Go.Proofs.Ytggmljookcmnkaa
open Go.RowKit
attribute [local go_sem] more_drew more_drewN more_size more_cell more_frozen more_setCell drew_more drewN_more lt_add_r lt_add_r2 lt_add_r3 lt_add_r4 lt_add_r5 lt_add_r6 lt_add_r7 lt_add_r8 lt_add_r9 lt_add_r10 lt_self_r lt_self_r2

/-- a row of parts of the call's own, whose kids are of the caller's -/
def RowQ (w : World) (base kb : Nat) (v : Value) (qs : List Prt) : Prop := ∃ A c, v = .slice A qs.length c ∧ w.ownsRow base 33 8 (.slice A qs.length c) qs.length (pv qs) ∧ (∀ q ∈ qs, OwnI w kb q.kA q.kc q.nd.kids) ∧ (∀ q ∈ qs, FineP q)
theorem RowQ.ext {w w' : World} {base kb : Nat} {v : Value} {qs : List Prt} (h : RowQ w base kb v qs) (e : Ext w w') : RowQ w' base kb v qs := by
  obtain ⟨A, c, hv, h1, h2, h3⟩ := h
  exact ⟨A, c, hv, own_ext h1 e, fun q hq => (h2 q hq).ext e, h3⟩
theorem app_parts (w0 : World) (kb : Nat) {w : World} {ops : Array Oper} {rest : List Oper} {o : Oper} {a : Act} {Q : Exit → Act → World → Prop} (hw : Region.wanted o (yielded ops a.tmps) = true) (s x : Operand)
    (ho : o.op = .call { callee := .builtin .append, args := #[s, x], argTypes := #[23, 23] }) {qs : List Prt} {v : Value} (hr : RowQ w w0.heap.size kb v qs) (ps : List Prt) (A : Option Addr) (c : Nat)
    (hs : a.eval s = v) (hx : a.eval x = .slice A ps.length c) (hA : A = none → c = 0) (hc : Prts w A ps) (hk : ∀ p ∈ ps, OwnI w kb p.kA p.kc p.nd.kids) (hf : ∀ p ∈ ps, FineP p) (hlen : qs.length + ps.length ≤ 1000000) (hext : Ext w0 w)
    (h : ∀ v' w', RowQ w' w0.heap.size kb v' (qs ++ ps) → Ext w0 w' → wpList Try.prog ops Q rest (a.put o.dst v') w') : wpList Try.prog ops Q (o :: rest) a w := by
  obtain ⟨A0, c0, rfl, hown, hok, hof⟩ := hr
  obtain ⟨i3, hi, hz0, hz1, hz2⟩ := info_parts infoPart
  refine wpList_append_cells w hw s x 23 ho w0.heap.size 33 i3 _ 8 80 Try.underlying23 hi hz0 hz1 hz2 rfl (by omega) _ qs.length (pv qs) hs hown A ps.length c (pv ps) hx hA (pv_length _)
    (CellsAt.of_prts hc) (pv_one _) (by unfold maxLen; omega) (by omega) hext.size fun v' w' h2 h3 h4 => ?_
  obtain ⟨A', c', hv', _⟩ := own_cells h2
  subst hv'
  have hkeep : ∀ b, b < w.heap.size → some b ≠ (Value.slice A0 qs.length c0).ownBlock → w'.heap[b]? = w.heap[b]? := fun b hb hne => h3.block b hb hne
  refine h _ w' ⟨A', c', by rw [List.length_append], ?_, fun p hp => ?_, fun p hp => ?_⟩ (hext.grown h3 fun g hg => own_block hown g hg)
  · rw [pv_append, List.length_append]
    exact h2
  · rcases List.mem_append.1 hp with hp | hp
    · exact kids_keep (hok p hp) hown hkeep
    · exact kids_keep (hk p hp) hown hkeep
  · rcases List.mem_append.1 hp with hp | hp
    · exact hof p hp
    · exact hf p hp
set_option maxRecDepth 100000 in
set_option maxHeartbeats 1000000 in
theorem grow_any (n : Nat) (w : World) (h0 : 0 < n) (hn : n ≤ 1000000) : Calls Try.prog 126 #[.slice none 0 0, .int .i64 n] w fun e w' => (∃ v, e = .returned v ∧ RowQ w' w.heap.size 0 v []) ∧ Ext w w' := by
  obtain ⟨i35, hi, hz0, hz1, hz2⟩ := info_parts infoPart
  have hrun := Lib.run_append_nil_zeros (P := Try.prog) w 23 3 23 33 i35 _ .i64 .i64 Try.underlying23 Try.underlying3 hi hz0 n h0 (by rw [hz1]; omega) (by omega) (by rw [hz2]; omega)
  have hge := grownCap_ge w n 0 33
  have hle := grownCap_le_maxLen w n 0 33 (by unfold maxLen; omega)
  generalize grownCap w n 0 33 = cp at *
  have HR := Lib.hid hrun
  have hle2 := hle
  unfold maxLen at hle2
  have hd : decide ((0 : Int) < (n : Int)) = true := decide_eq_true (by omega)
  clear hrun hi hz0 hz1 hz2
  go_enter Try.func126, Try.ntmps126
  go_wp2_with (at_builtin; refine Lib.wpList_append_run _ rfl (.tmp 20) (.tmp 21) 23 3 rfl _ _ rfl rfl _ _ HR.out ?_)
  go_ret
  refine ⟨⟨_, rfl, some ⟨w.heap.size, 0, none⟩, cp, rfl, ⟨rfl, .inr ⟨w.heap.size, cp, _, rfl, Nat.le_refl _, heap_alloc_new w _, Nat.zero_le _, hle, ?_, by simp [pv]⟩⟩, (fun q hq => by cases hq), (fun q hq => by cases hq)⟩, (by repeat (first | exact Ext.refl _ | refine Ext.alloc ?_ _ | refine Ext.more ?_ _ _ | refine Ext.drew ?_ | refine Ext.drewN ?_ _ | refine Ext.setCell ?_ (by simp <;> omega) _))⟩
  simp [size_zeroCells]
  omega
def ConcatRet (w : World) (kb : Nat) (qs : List Prt) (e : Ending) (w' : World) : Prop := ∃ A c, e = .returned (.slice A qs.length c) ∧ OwnP w' kb A c qs ∧ Ext w w'
set_option maxRecDepth 100000 in
set_option maxHeartbeats 2000000 in
theorem concat3 (g kb : Nat) (A1 A2 A3 : Option Addr) (c1 c2 c3 : Nat) (p1 p2 p3 : List Prt) (w : World) (hg : w.heap[g]? = some (.cells #[.slice A1 p1.length c1, .slice A2 p2.length c2, .slice A3 p3.length c3] 23)) (hkb : kb ≤ w.heap.size)
    (h1 : OwnP w kb A1 c1 p1) (h2 : OwnP w kb A2 c2 p2) (h3 : OwnP w kb A3 c3 p3) (h0 : 0 < p1.length + p2.length + p3.length) (hm : p1.length + p2.length + p3.length ≤ 1000000) :
    Calls Try.prog 91 #[.slice (some ⟨g, 0, none⟩) 3 3] w (ConcatRet w kb (p1 ++ (p2 ++ p3))) := by
  have FX := Lib.hid (fun (X : World) (hX : Ext w X) => (⟨by have := cell_of_row _ _ 0 _ _ _ (ext_block hg hX); simpa using this, by have := cell_of_row _ _ 1 _ _ _ (ext_block hg hX); simpa using this, by have := cell_of_row _ _ 2 _ _ _ (ext_block hg hX); simpa using this, lt_of_heap (ext_block hg hX)⟩ :
    X.cell? ⟨g, 0, none⟩ = some (.slice A1 p1.length c1) ∧ X.cell? ⟨g, 1, none⟩ = some (.slice A2 p2.length c2) ∧ X.cell? ⟨g, 2, none⟩ = some (.slice A3 p3.length c3) ∧ g < X.heap.size))
  obtain ⟨x0, x1, x2, x3⟩ := FX.out w (Ext.refl _)
  have H1 := Lib.hid h1
  have H2 := Lib.hid h2
  have H3 := Lib.hid h3
  obtain ⟨_, a1, a2, a3⟩ := h1.cells
  obtain ⟨_, b1, b2, b3⟩ := h2.cells
  obtain ⟨_, d1, d2, d3⟩ := h3.cells
  unfold maxLen at a2 b2 d2
  have HA1 := Lib.hid a3
  have HA2 := Lib.hid b3
  have HA3 := Lib.hid d3
  clear hg h1 h2 h3 a3 b3 d3
  go_enter Try.func91, Try.ntmps91
  go_wp2_with fail
  refine wp_loop_rounds 4 ?_
  iterate 4
    rw [rounds_succ]
    go_wp2_with fail
  have hs : ((p1.length : Int) + (p2.length : Int) + (p3.length : Int)) = ((p1.length + p2.length + p3.length : Nat) : Int) := by omega
  rw [hs]
  clear hs
  refine (grow_any (p1.length + p2.length + p3.length) w h0 hm).mono ?_
  rintro e w2 ⟨⟨v2, rfl, hr2⟩, hx2⟩
  have HR2 : Hid (RowQ w2 w.heap.size kb v2 []) := Lib.hid (by
    obtain ⟨A, c, hv, h1, _, _⟩ := hr2
    exact ⟨A, c, hv, h1, (fun q hq => by cases hq), (fun q hq => by cases hq)⟩)
  have HX2 := Lib.hid hx2
  obtain ⟨y0, y1, y2, y3⟩ := FX.out w2 hx2
  clear hr2 hx2 x0 x1 x2 x3
  have L1 : Hid (([] : List Prt).length + p1.length ≤ 1000000) := Lib.hid (by simp; omega)
  have L2 : Hid (([] ++ p1 : List Prt).length + p2.length ≤ 1000000) := Lib.hid (by simp; omega)
  have L3 : Hid (([] ++ p1 ++ p2 : List Prt).length + p3.length ≤ 1000000) := Lib.hid (by simp; omega)
  go_wp2_with fail
  refine wp_loop_rounds 4 ?_
  rw [rounds_succ]
  go_wp2_with (at_builtin; refine app_parts w kb (by rfl) (.tmp 31) (.tmp 32) rfl HR2.out p1 A1 c1 rfl rfl HA1.out (H1.out.ext HX2.out).cells.1 (H1.out.ext HX2.out).kids H1.out.fine L1.out HX2.out ?_; intro v3 w3 hr3 hx3; obtain ⟨z0, z1, z2, z3⟩ := FX.out w3 hx3; have HR3 := Lib.hid hr3; have HX3 := Lib.hid hx3; clear hr3 hx3)
  rw [rounds_succ]
  go_wp2_with (at_builtin; refine app_parts w kb (by rfl) (.tmp 31) (.tmp 32) rfl HR3.out p2 A2 c2 rfl rfl HA2.out (H2.out.ext HX3.out).cells.1 (H2.out.ext HX3.out).kids H2.out.fine L2.out HX3.out ?_; intro v4 w4 hr4 hx4; obtain ⟨u0, u1, u2, u3⟩ := FX.out w4 hx4; have HR4 := Lib.hid hr4; have HX4 := Lib.hid hx4; clear hr4 hx4)
  rw [rounds_succ]
  go_wp2_with (at_builtin; refine app_parts w kb (by rfl) (.tmp 31) (.tmp 32) rfl HR4.out p3 A3 c3 rfl rfl HA3.out (H3.out.ext HX4.out).cells.1 (H3.out.ext HX4.out).kids H3.out.fine L3.out HX4.out ?_; intro v5 w5 hr5 hx5; have HR5 := Lib.hid hr5; have HX5 := Lib.hid hx5; clear hr5 hx5)
  rw [rounds_succ]
  go_wp2_with fail
  go_ret
  obtain ⟨A, c, hv, r1, r2, r3⟩ := HR5.out
  have e : ([] ++ p1 ++ p2 ++ p3 : List Prt) = p1 ++ (p2 ++ p3) := by simp
  rw [e] at hv r1 r2 r3
  exact ⟨A, c, by show Ending.returned v5 = _; rw [hv], ⟨own_base' r1 hkb, r2, r3⟩, HX5.out⟩
end Go.Proofs.Ytggmljookcmnkaa
