/- The contract of tree.Edit. -/
import Derived.Test.YtggmljookcmnkaaG1
import Derived.Test.YtggmljookcmnkaaF3
import Derived.Test.YtggmljookcmnkaaF4
import Derived.Test.YtggmljookcmnkaaTr
import Derived.Lib.Hide
import Derived.LoopIn
import Derived.WalkSpells
import Derived.WalkLawsBesides
import Derived.BigRegion
import Derived.Deep.RegionWith
import Derived.Deep.QuietTactic
import Derived.Deep.DeepCutAuto
import Derived.Deep.RegionHeld3
import Derived.Deep.RegionLaw
import Derived.BigQuiet
import Derived.Lib.Hide
namespace Go.Proofs.Ytggmljookcmnkaa
open Go.RowKit
attribute [local go_sem] more_drew more_drewN more_size more_cell more_frozen more_setCell drew_more drewN_more lt_add_r lt_add_r2 lt_add_r3 lt_add_r4 lt_add_r5 lt_add_r6 lt_add_r7 lt_add_r8 lt_add_r9 lt_add_r10 lt_self_r lt_self_r2
attribute [local go_sem] Oper.semAt_some

theorem bits_or64 (x y : Int) : bits .or .u64 x y = ((BitVec.ofInt 64 x ||| BitVec.ofInt 64 y).toNat : Int) := by
  show IntKind.u64.wrap _ = _
  have h := (BitVec.ofInt 64 x ||| BitVec.ofInt 64 y).isLt
  exact IntWalk.u64_in _ ⟨Int.natCast_nonneg _, by have : (2:Nat)^64 = 18446744073709551616 := rfl; show (((BitVec.ofInt 64 x ||| BitVec.ofInt 64 y).toNat : Nat) : Int) ≤ _; omega⟩
theorem bitOr_bd (bit m : Int) : 0 ≤ bits .or .u64 m bit ∧ bits .or .u64 m bit ≤ 18446744073709551615 := by
  rw [bits_or64]
  have h := (BitVec.ofInt 64 m ||| BitVec.ofInt 64 bit).isLt
  have : (2:Nat)^64 = 18446744073709551616 := rfl
  omega
theorem editedF_miss {a d i t : Int} {om om' : Int → Int} {p : Nd} (h : ¬ Meet (ownLo p) p.look ⟨a, d, i, om⟩) : editedF ⟨a, d, i, om'⟩ t p = editedF ⟨a, d, i, om⟩ t p := by
  have e1 : metE ⟨a, d, i, om'⟩ p = p.met := if_neg h
  have e2 : metE ⟨a, d, i, om⟩ p = p.met := if_neg h
  unfold editedF
  rw [e1, e2]
  rfl
theorem editedF_hit {a d i t : Int} {om om' : Int → Int} {p : Nd} (h : Meet (ownLo p) p.look ⟨a, d, i, om⟩) : { editedF ⟨a, d, i, om'⟩ t p with met := om p.met } = editedF ⟨a, d, i, om⟩ t p := by
  have e2 : metE ⟨a, d, i, om⟩ p = om p.met := if_pos h
  unfold editedF
  rw [e2]
  rfl
/-- what Edit has done before it comes to a part -/
def EdI (w : World) (n0 g c2 n : Nat) (fs : List (Nat × Obj)) (E : Ed) (ps : List Prt) (k : Nat) (W : World) : Prop :=
  ∃ rs : List Prt, Low n0 W (fun U => RowS w.heap.size g c2 n fs rs rs U ∧ Below w.heap.size w U) ∧ rs.length = ps.length ∧ EditTo E (nds ps) k (nds rs) ∧ ∀ q ∈ rs, FineP q ∧ -8589934592 ≤ q.nd.hi ∧ q.nd.hi ≤ 8589934592
def bitOr (bit : Int) (m : Int) : Int := bits .or .u64 m bit
theorem Near.of30 {p : Nd} (h1 : Lt30 p.lo) (h2 : Lt30 p.inn) (h3 : Lt30 p.hi) (h4 : Lt30 p.look) : Near p := ⟨h1, h2, h3, h4⟩
/-- where a round of Edit is: the rows, the part's block, what was turned -/
structure EdV (w W2 : World) (n0 m g c2 n : Nat) (fs : List (Nat × Obj)) (p : Prt) (rs ks : List Prt) (V : World) : Prop where
  low : Low n0 V (fun U => RowS w.heap.size g c2 n fs rs ks U ∧ Below w.heap.size w U)
  part : V.heap[m]? = some (.cells (prtCells p).toArray 33)
  turn : Turn (fun k => ((k = g ∨ n0 ≤ k) ∧ k < n0) ∨ m ≤ k) W2 V
  hm : n0 ≤ m
  hg : g < n0
section
variable {w W2 V V' : World} {n0 m g c2 n : Nat} {fs : List (Nat × Obj)} {p : Prt} {rs ks : List Prt}
theorem EdV.ext (h : EdV w W2 n0 m g c2 n fs p rs ks V) (e : Ext V V') : EdV w W2 n0 m g c2 n fs p rs ks V' := ⟨h.low.below (e.below.mono h.low.size), ext_block h.part e, h.turn.trans (Turn.of_ext e), h.hm, h.hg⟩
theorem EdV.rows (h : EdV w W2 n0 m g c2 n fs p rs ks V) : RowS w.heap.size g c2 n fs rs ks V := Low.up (Φ := RowS w.heap.size g c2 n fs rs ks) (h.low.imp fun _ h => h.1) fun _ h e => h.below e
theorem EdV.below (h : EdV w W2 n0 m g c2 n fs p rs ks V) : Below w.heap.size w V := Low.up (Φ := Below w.heap.size w) (h.low.imp fun _ h => h.2) fun _ h e => h.trans (e.mono h.size)
theorem EdV.store (h : EdV w W2 n0 m g c2 n fs p rs ks V) (hfs : NoParts fs) (hwg : w.heap.size ≤ g) {i : Nat} {q q' : Prt} {r : Nat} {u : Value} (hi : rs[i]? = some q) (hr : r < 8) (hc : prtCells q' = (prtCells q).set r u) :
    EdV w W2 n0 m g c2 n fs p (rs.set i q') ks (V.setCell ⟨g, i * 8 + r, none⟩ u) := by
  have hmg : ¬ g = m := by have := h.hm; have := h.hg; omega
  refine ⟨h.low.store fun U hU => ⟨hU.1.store hfs hi hr hc, hU.2.setCell hwg u⟩, ?_, h.turn.trans (Turn.setCell V (p := ⟨g, i * 8 + r, none⟩) (.inl ⟨.inl rfl, h.hg⟩) u), h.hm, h.hg⟩
  have := h.part
  simp [World.setCell, Array.getElem?_modify, hmg, this]
theorem EdV.store8 (h : EdV w W2 n0 m g c2 n fs p rs ks V) (hfs : NoParts fs) (hwg : w.heap.size ≤ g) {i : Nat} {q q' : Prt} (hi : rs[i]? = some q) :
    EdV w W2 n0 m g c2 n fs p (rs.set i q') ks ((((((((V.setCell ⟨g, i * 8 + 0, none⟩ (.int .i64 q'.nd.sym)).setCell ⟨g, i * 8 + 1, none⟩ (.int .i64 q'.nd.kind)).setCell ⟨g, i * 8 + 2, none⟩ (.int .i64 q'.nd.lo)).setCell ⟨g, i * 8 + 3, none⟩ (.int .i64 q'.nd.inn)).setCell ⟨g, i * 8 + 4, none⟩ (.int .i64 q'.nd.hi)).setCell
      ⟨g, i * 8 + 5, none⟩ (.int .i64 q'.nd.look)).setCell ⟨g, i * 8 + 6, none⟩ (.slice q'.kA q'.nd.kids.length q'.kc)).setCell ⟨g, i * 8 + 7, none⟩ (.int .u64 q'.nd.met)) := by
  have hmg : ¬ g = m := by have := h.hm; have := h.hg; omega
  refine ⟨?_, ?_, ?_, h.hm, h.hg⟩
  · obtain ⟨U, h1, h2, h3, h4⟩ := h.low
    refine ⟨_, ?_, below_set (below_set (below_set (below_set (below_set (below_set (below_set (below_set h2 _ _) _ _) _ _) _ _) _ _) _ _) _ _) _ _, h3.store8 hfs hi, ?_⟩
    · simpa [World.setCell] using h1
    · exact (((((((h4.setCell hwg _).setCell hwg _).setCell hwg _).setCell hwg _).setCell hwg _).setCell hwg _).setCell hwg _).setCell hwg _
  · have := h.part
    simp [World.setCell, Array.getElem?_modify, hmg, this]
  · have s0 : ((g = g ∨ n0 ≤ g) ∧ g < n0) ∨ m ≤ g := .inl ⟨.inl rfl, h.hg⟩
    exact Turn.set (Turn.set (Turn.set (Turn.set (Turn.set (Turn.set (Turn.set (Turn.set h.turn s0) s0) s0) s0) s0) s0) s0) s0
end
theorem maxTo_succ {l : List Nd} {ks : List Int} {k : Nat} {x : Int} (h : ks[k]? = some x) : maxTo l (ks.take (k + 1)) = max (maxTo l (ks.take k)) (hiAt l x) := by
  obtain ⟨hl, hx⟩ := List.getElem?_eq_some_iff.1 h
  unfold maxTo
  rw [List.take_succ_eq_append_getElem hl, List.foldl_append, hx]
  rfl
set_option maxRecDepth 100000 in
set_option maxHeartbeats 4000000 in
theorem edit_any (A : Option Addr) (c : Nat) (ps : List Prt) (a d i bit : Int) (w : World) (h : PS w A c ps) (T : Tree (nds ps)) (ha : Lt30 a) (hd : Lt30 d) (hi : Lt30 i) (ha0 : 0 ≤ a) (hd0 : 0 ≤ d) (hi0 : 0 ≤ i) (hb : 0 ≤ bit ∧ bit ≤ 18446744073709551615) (hn : ∀ p ∈ ps, Near p.nd) :
    Calls Try.prog 41 #[.slice A ps.length c, .agg #[.int .i64 a, .int .i64 d, .int .i64 i], .int .u64 bit] w fun e w' => ∃ out, EditedR ⟨a, d, i, bitOr bit⟩ (nds ps) out ∧ PartsRet w out e w' := by
  have hl := h.few.len
  have hp := T.pos
  rw [nds_length] at hp
  have S := Lib.hid h
  have HT := Lib.hid T
  have HN := Lib.hid hn
  have HHA := Lib.hid ha
  have HHD := Lib.hid hd
  have HHI := Lib.hid hi
  have HBT := Lib.hid hb
  have z1 : decide (a < 0) = false := decide_eq_false (by omega)
  have z2 : decide (d < 0) = false := decide_eq_false (by omega)
  have z3 : decide (i < 0) = false := decide_eq_false (by omega)
  clear h T hn ha hd hi hb ha0 hd0 hi0
  refine calls_of_marks Try.func41 rfl ?_
  simp only [Try.ntmps41, List.size_toArray, List.length_cons, List.length_nil, Nat.reduceAdd, Nat.reduceSub, Array.replicate_succ, Array.replicate_zero, List.push_toArray, List.append_toArray, List.nil_append, List.cons_append]
  go_wp2_with fail
  obtain ⟨b, hb⟩ : ∃ b, w.heap.size = b := ⟨_, rfl⟩
  obtain ⟨W2, hW2⟩ : ∃ W2, (w.alloc (.cells #[.int .i64 a, .int .i64 d, .int .i64 i] 63)).alloc (.cells #[.int .u64 bit] 31) = W2 := ⟨_, rfl⟩
  have X2 : Ext w W2 := by rw [← hW2]; exact (by repeat (first | exact Ext.refl _ | refine Ext.alloc ?_ _ | refine Ext.more ?_ _ _ | refine Ext.drew ?_ | refine Ext.drewN ?_ _ | refine Ext.setCell ?_ (by simp <;> omega) _))
  have G0 : W2.heap[b]? = some (.cells #[.int .i64 a, .int .i64 d, .int .i64 i] 63) := by rw [← hW2, ← hb]; exact (by simp only [heap_alloc_get, World.size_alloc]; (repeat (split; (first | rfl | (exfalso; omega)))); (try (first | (exfalso; omega) | simp_all)))
  have G1 : W2.heap[b + 1]? = some (.cells #[.int .u64 bit] 31) := by rw [← hW2, ← hb]; exact (by simp only [heap_alloc_get, World.size_alloc]; (repeat (split; (first | rfl | (exfalso; omega)))); (try (first | (exfalso; omega) | simp_all)))
  rw [hW2, hb]
  clear hW2
  refine (check_ok (S.out.ext X2) HT.out).mono ?_
  rintro e w1 ⟨rfl, hx1⟩
  have HX1 := Lib.hid (X2.trans hx1)
  have HG0 := Lib.hid (ext_block G0 hx1)
  have HG1 := Lib.hid (ext_block G1 hx1)
  have k0 := cell_of_row _ _ 0 _ _ _ HG0.out
  have k1 := cell_of_row _ _ 1 _ _ _ HG0.out
  have k2 := cell_of_row _ _ 2 _ _ _ HG0.out
  simp at k0 k1 k2
  have l0 := lt_of_heap HG0.out
  have HB := Lib.hid hb
  clear G0 G1 X2 hx1 hb
  go_wp2_with fail
  refine (copy_any A c ps w1 (S.out.ext HX1.out).parts (S.out.ext HX1.out).oks S.out.few).mono ?_
  rintro e w2 ⟨A2, c2, qs, rfl, hn, ho, hx⟩
  have hql : qs.length = ps.length := by rw [← nds_length, hn, nds_length]
  obtain ⟨g, rfl, hg1, hg2⟩ := row_block ho.row (by omega)
  have HOW := Lib.hid (ho.base HX1.out.size)
  have HNQ := Lib.hid hn
  have HX2 := Lib.hid (HX1.out.trans hx)
  have HQ0 := Lib.hid (ext_block HG0.out hx)
  have HQ1 := Lib.hid (ext_block HG1.out hx)
  have HGL : Hid (w.heap.size ≤ g ∧ g < w2.heap.size) := Lib.hid ⟨Nat.le_trans HX1.out.size hg1, hg2⟩
  have HQL := Lib.hid hql
  rw [hql]
  clear hql hn ho hx hg1 hg2 k0 k1 k2 l0 HG0 HG1
  go_wp2_with fail
  refine (back_make A ps.length c _).mono ?_
  rintro e w3 ⟨rfl, hw3⟩
  obtain ⟨d7, hd7⟩ : ∃ d7, w2.heap.size = d7 := ⟨_, rfl⟩
  have X3 : Ext w2 w3 := by rw [hw3]; exact (by repeat (first | exact Ext.refl _ | refine Ext.alloc ?_ _ | refine Ext.more ?_ _ _ | refine Ext.drew ?_ | refine Ext.drewN ?_ _ | refine Ext.setCell ?_ (by simp <;> omega) _))
  have S3 : w3.heap.size = d7 + 2 := by rw [hw3, ← hd7]; simp
  have G7 : w3.heap[d7]? = some (.cells #[.slice (some ⟨g, 0, none⟩) ps.length c2] 23) := by rw [hw3, ← hd7]; exact (by simp only [heap_alloc_get, World.size_alloc]; (repeat (split; (first | rfl | (exfalso; omega)))); (try (first | (exfalso; omega) | simp_all)))
  have G8 : w3.heap[d7 + 1]? = some (.cells #[.slice A ps.length c] 23) := by rw [hw3, ← hd7]; exact (by simp only [heap_alloc_get, World.size_alloc]; (repeat (split; (first | rfl | (exfalso; omega)))); (try (first | (exfalso; omega) | simp_all)))
  rw [World.size_alloc, hd7]
  clear hw3
  go_wp2_with fail
  obtain ⟨fs, hfs⟩ : ∃ fs : List (Nat × Obj), fs = [(b, Obj.cells #[.int .i64 a, .int .i64 d, .int .i64 i] 63), (b + 1, Obj.cells #[.int .u64 bit] 31), (d7, Obj.cells #[.slice (some ⟨g, 0, none⟩) ps.length c2] 23)] := ⟨_, rfl⟩
  have HNF : Hid (NoParts fs) := Lib.hid (by
    rw [hfs]
    intro x hx cur he
    rcases List.mem_cons.1 hx with rfl | hx
    · cases he
    · rcases List.mem_cons.1 hx with rfl | hx
      · cases he
      · rcases List.mem_cons.1 hx with rfl | hx
        · cases he
        · cases hx)
  have hgb := HB.out
  have I0 : EdI w (d7 + 2) g c2 ps.length fs ⟨a, d, i, bitOr bit⟩ ps ps.length w3 := by
    refine ⟨qs, ⟨w3, S3, Below.refl _ _, ⟨by rw [← HQL.out]; exact (HOW.out.ext X3).row, (HOW.out.ext X3).kids, fun x hx => ?_⟩, (HX2.out.trans X3).below⟩, HQL.out, by rw [HNQ.out, ← nds_length ps]; exact EditTo.first _ _, fun q hq => ⟨HOW.out.fine q hq, ?_⟩⟩
    · rw [hfs] at hx
      rcases List.mem_cons.1 hx with rfl | hx
      · exact ext_block HQ0.out X3
      · rcases List.mem_cons.1 hx with rfl | hx
        · exact ext_block HQ1.out X3
        · rw [List.mem_singleton.1 hx]
          exact G7
    · have hm : q.nd ∈ nds ps := by rw [← HNQ.out]; exact List.mem_map_of_mem hq
      obtain ⟨p, hp, he⟩ := List.mem_map.1 hm
      have := (HN.out p hp).hi
      rw [he] at this
      unfold Lt30' at this
      omega
  have hw3b : w.heap.size ≤ g := HGL.out.1
  have hgd : g < d7 := by rw [← hd7]; exact HGL.out.2
  have hbd : b + 1 < d7 := by have := lt_of_heap HQ1.out; omega
  refine wp_range (gf := 127) (lb := #[pt (d7 + 1)]) (encs := encB) (xs := backs ps) (S := fun k => k = g ∨ d7 + 2 ≤ k) rfl (enters_of Try.func127 (by kernel_rfl) rfl) (fun _ => rfl) (fun k hk => by omega)
    (fun w1 hx _ => back_iter A c ps w w1 (d7 + 1) _ S.out.parts (by omega) S.out.cap S.out.top ((HX2.out.trans X3).trans hx).below (ext_block G8 hx) (by omega) (fun k hk => by omega))
    (fun j W' => EdI w (d7 + 2) g c2 ps.length fs ⟨a, d, i, bitOr bit⟩ ps (ps.length - j) W') (fun _ _ _ => False) ?_ (fun _ _ _ _ _ _ h => h) I0 ?_ ?_ (fun _ _ _ _ _ h => h.elim)
  · rintro j U U' hbe hsz ⟨rs, h1, h2⟩
    exact ⟨rs, h1.below (by rw [← S3]; exact hbe), h2⟩
  · rintro l j ⟨k, p⟩ W' hx hI hsz
    obtain ⟨hj, hk, hp⟩ := backs_get hx
    dsimp only at hk hp
    have HKK := Lib.hid hk
    have hkl : k < ps.length := by omega
    clear hI hx hk
    simp only [encB, aggV]
    gi_wp2
    refine ⟨(Ext.refl _).alloc _, ?_⟩
    obtain ⟨m, hm⟩ : ∃ m, W'.heap.size = m := ⟨_, rfl⟩
    have hP0 := heap_alloc_new W' (.cells (prtCells p).toArray 33)
    rw [hm] at hP0 ⊢
    intro W2 t2 hI2 hsz2
    obtain ⟨rs, hlow, hrl, hE, hfin⟩ := hI2
    have hmn : d7 + 2 ≤ m := by omega
    have V0 : EdV w W2 (d7 + 2) m g c2 ps.length fs p rs rs W2 := ⟨hlow, (t2.block m (by have := lt_of_heap hP0; exact this) (by omega)).trans hP0, Turn.refl _, hmn, by omega⟩
    have HV0 := Lib.hid V0
    have HE := Lib.hid hE
    have HFIN := Lib.hid hfin
    have HRL := Lib.hid hrl
    have HPP := Lib.hid hp
    have HJ := Lib.hid hj
    clear t2 hlow hE hfin hrl V0 hP0 hp hsz hsz2 hm hj
    have y6 := cell_of_row _ _ 6 _ _ _ HV0.out.part
    simp [prtCells] at y6
    have ly := lt_of_heap HV0.out.part
    gi_wp2
    gi_loopw [10, 41] (fun t i wr => ∃ j1 : Nat, j1 ≤ p.nd.kids.length ∧ i = .int .i64 j1 ∧ t = .int .i64 (maxTo (nds rs) (p.nd.kids.take j1)) ∧ Hid (Ext W2 wr)) (fun _ i _ => p.nd.kids.length - (intOf i).toNat)
    case atStart => exact ⟨0, Nat.zero_le _, rfl, rfl, Lib.hid (Ext.refl _)⟩
    case round =>
      obtain ⟨j1, hj1, rfl, rfl, hx⟩ := hrel
      have HV1 := Lib.hid (HV0.out.ext hx.out)
      have HX3 := Lib.hid hx.out
      clear hx
      by_cases hlt : j1 < p.nd.kids.length
      · obtain ⟨x, hx⟩ : ∃ x, p.nd.kids[j1]? = some x := ⟨_, List.getElem?_eq_getElem hlt⟩
        obtain ⟨cn, rfl, hc1, hc2⟩ := HT.out.kid_behind (nds_get HPP.out) x (List.mem_of_getElem? hx)
        rw [nds_length] at hc2
        obtain ⟨q, hq⟩ : ∃ q, rs[cn]? = some q := ⟨_, List.getElem?_eq_getElem (by rw [HRL.out]; exact hc2)⟩
        have hpo := (S.out.oks.get HPP.out).below HV1.out.below
        obtain ⟨bk, offk, hkA, hbk, hck⟩ := hpo.kids (by omega)
        have e1 := hck j1 hlt
        rw [List.getD_eq_getElem?_getD, hx] at e1
        dsimp only [Option.getD_some] at e1
        have o1 := hpo.cap
        have o2 := hpo.top
        have HMS : Hid (maxTo (nds rs) (p.nd.kids.take (j1 + 1)) = max (maxTo (nds rs) (p.nd.kids.take j1)) q.nd.hi) := Lib.hid (by
          rw [maxTo_succ hx]
          unfold hiAt
          rw [Int.toNat_natCast, nds_get hq]
          rfl)
        obtain ⟨M, hM⟩ : ∃ M, maxTo (nds rs) (p.nd.kids.take j1) = M := ⟨_, rfl⟩
        rw [hM] at HMS ⊢
        have d4 := (HV1.out.rows.at hq).hi
        have lg := (HV1.out.rows.at hq).lt
        have k7 := cell_of_row _ _ 0 _ _ _ (HV1.out.rows.objs (d7, _) (by rw [hfs]; exact List.mem_cons_of_mem _ (List.mem_cons_of_mem _ (List.mem_cons_self ..))))
        simp at k7
        have l7 := lt_of_heap (HV1.out.rows.objs (d7, _) (by rw [hfs]; exact List.mem_cons_of_mem _ (List.mem_cons_of_mem _ (List.mem_cons_self ..))))
        rw [hkA]
        clear hM hq hx hpo hck
        gi_wp2
        refine ⟨⟨j1 + 1, by omega, by congr 1, ?_, HX3⟩, by simp [intOf]; omega⟩
        rw [HMS.out]
        congr 1
        split <;> omega
      · obtain rfl : j1 = p.nd.kids.length := by omega
        rw [List.take_length]
        obtain ⟨q0, hq0⟩ : ∃ q0, rs[k]? = some q0 := ⟨_, List.getElem?_eq_getElem (by rw [HRL.out]; exact hkl)⟩
        have hqp : q0.nd = p.nd := by
          have h1 := HE.out.ahead k p.nd (nds_get HPP.out) (by have := HKK.out; have := HJ.out; omega)
          rw [nds_get hq0] at h1
          injection h1
        have HT0 : Hid (0 ≤ maxTo (nds rs) p.nd.kids ∧ maxTo (nds rs) p.nd.kids ≤ 8589934592) := Lib.hid ⟨maxTo_nonneg _ _, maxTo_le _ (by omega) fun x hx => by
          unfold hiAt
          cases hc : (nds rs)[x.toNat]? with
          | none => simp
          | some y =>
            obtain ⟨q, hq, rfl⟩ := nds_get' hc
            have := (HFIN.out q (List.mem_of_getElem? hq)).2.2
            simpa using this⟩
        obtain ⟨t, ht⟩ : ∃ t, maxTo (nds rs) p.nd.kids = t := ⟨_, rfl⟩
        rw [ht] at HT0 ⊢
        have HTT := Lib.hid ht
        have HQ0K := Lib.hid hq0
        have HQP := Lib.hid hqp
        clear hlt hj1 hq0 hqp ht y6 ly HX3
        have R1 := HV1.out.rows
        obtain ⟨ly, y0, y1, y2, y3, y4, y5, y6, y7⟩ := part_cells HV1.out.part
        have k7 := cell_of_row _ _ 0 _ _ _ (R1.objs (d7, _) (by rw [hfs]; exact List.mem_cons_of_mem _ (List.mem_cons_of_mem _ (List.mem_cons_self ..))))
        simp at k7
        have l7 : d7 < wr.heap.size := lt_of_heap (R1.objs (d7, _) (by rw [hfs]; exact List.mem_cons_of_mem _ (List.mem_cons_of_mem _ (List.mem_cons_self ..))))
        have hee := R1.objs (b, _) (by rw [hfs]; exact List.mem_cons_self ..)
        have e0 := cell_of_row _ _ 0 _ _ _ hee
        have e1 := cell_of_row _ _ 1 _ _ _ hee
        have e2 := cell_of_row _ _ 2 _ _ _ hee
        simp at e0 e1 e2
        have le : b < wr.heap.size := lt_of_heap hee
        have d6 := (R1.at HQ0K.out).kids
        have lg := (R1.at HQ0K.out).lt
        rw [HQP.out] at d6
        clear R1 hee
        gi_wp2
        refine wpIn_region_segs (7) [([0, 1, 2, 3, 4], 5), ([6], 7)] [] (by kernel_rfl) (by kernel_rfl) (by kernel_rfl) ?_
        (refine segs_cons fun K hK => ?_); (first | (simp only [pick_nil]) | (simp only [pick, nthC])); (repeat (go_big_quiet_step (fail))); (refine wpQuiet_nil (hK _ fun next hn => ?_)); (clear hK K); (simp only [pick, nthC])
        go_wp2_with fail
        have hN := HN.out p (List.mem_of_getElem? HPP.out)
        refine (edited_any p a d i t _ HHA.out HHD.out HHI.out hN.lo hN.inn hN.hi hN.look (by have := HT0.out; omega)).mono ?_
        obtain ⟨z, hz⟩ : ∃ z : Prt, (⟨editedF ⟨a, d, i, id⟩ t p.nd, p.kA, p.kc⟩ : Prt) = z := ⟨_, rfl⟩
        rw [hz]
        have HZ := Lib.hid hz
        rintro e w4 ⟨rfl, hx4⟩
        have HX4 : Hid (Ext wr w4) := Lib.hid (Ext.trans (by repeat (first | exact Ext.refl _ | refine Ext.alloc ?_ _ | refine Ext.more ?_ _ _ | refine Ext.drew ?_ | refine Ext.drewN ?_ _ | refine Ext.setCell ?_ (by simp <;> omega) _)) hx4)
        have HV4 := Lib.hid (HV1.out.ext HX4.out)
        clear hx4 hN hz y0 y1 y2 y3 y4 y5 y6 y7 k7 e0 e1 e2 d6 ly l7 le lg HV1
        unfold aggV
        go_wp2_with fail
        refine segQ_mk (fun _ => laid HX4.out) (hn _ _ ?_)
        clear hn next HX4
        (refine segs_cons fun K hK => ?_); (first | (simp only [pick_nil]) | (simp only [pick, nthC])); (repeat (go_big_quiet_step (fail))); (refine wpQuiet_nil (hK _ fun next hn => ?_)); (clear hK K); (simp only [pick, nthC])
        have hc8 := HV4.out.rows.at HQ0K.out
        have lg := hc8.lt
        have f0 := hc8.frozen (k * 8)
        have f1 := hc8.frozen (k * 8 + 1)
        have f2 := hc8.frozen (k * 8 + 2)
        have f3 := hc8.frozen (k * 8 + 3)
        have f4 := hc8.frozen (k * 8 + 4)
        have f5 := hc8.frozen (k * 8 + 5)
        have f6 := hc8.frozen (k * 8 + 6)
        have f7 := hc8.frozen (k * 8 + 7)
        have d0 := hc8.sym
        have d1 := hc8.kind
        have d2 := hc8.lo
        have d3 := hc8.inn
        have d4 := hc8.hi
        have d5 := hc8.look
        have d6 := hc8.kids
        have d7' := hc8.met
        clear hc8
        go_wp2_with fail
        refine segQ_mk (fun h => absurd rfl h) (hn _ _ ?_)
        obtain ⟨w5, hw5⟩ : ∃ w5, ((((((((w4.setCell ⟨g, k * 8, none⟩ (.int .i64 z.nd.sym)).setCell ⟨g, k * 8 + 1, none⟩ (.int .i64 z.nd.kind)).setCell ⟨g, k * 8 + 2, none⟩ (.int .i64 z.nd.lo)).setCell ⟨g, k * 8 + 3, none⟩ (.int .i64 z.nd.inn)).setCell ⟨g, k * 8 + 4, none⟩ (.int .i64 z.nd.hi)).setCell ⟨g, k * 8 + 5, none⟩ (.int .i64 z.nd.look)).setCell
          ⟨g, k * 8 + 6, none⟩ (.slice z.kA z.nd.kids.length z.kc)).setCell ⟨g, k * 8 + 7, none⟩ (.int .u64 z.nd.met)) = w5 := ⟨_, rfl⟩
        have HV5 : Hid (EdV w W2 (d7 + 2) m g c2 ps.length fs p (rs.set k z) rs w5) := Lib.hid (by rw [← hw5]; exact HV4.out.store8 HNF.out hw3b HQ0K.out)
        rw [hw5]
        clear hw5 HV4 hn next lg f0 f1 f2 f3 f4 f5 f6 f7 d0 d1 d2 d3 d4 d5 d6 d7'
        (refine segs_nil fun K hK => ?_); (first | (simp only [pick_nil]) | (simp only [pick, nthC])); (repeat (go_big_quiet_step (fail))); (refine wpQuiet_nil (hK _ ?_)); (clear hK K)
        have R1 := HV5.out.rows
        obtain ⟨ly, y0, y1, y2, y3, y4, y5, y6, y7⟩ := part_cells HV5.out.part
        have k7 := cell_of_row _ _ 0 _ _ _ (R1.objs (d7, _) (by rw [hfs]; exact List.mem_cons_of_mem _ (List.mem_cons_of_mem _ (List.mem_cons_self ..))))
        simp at k7
        have l7 : d7 < w5.heap.size := lt_of_heap (R1.objs (d7, _) (by rw [hfs]; exact List.mem_cons_of_mem _ (List.mem_cons_of_mem _ (List.mem_cons_self ..))))
        have hee := R1.objs (b, _) (by rw [hfs]; exact List.mem_cons_self ..)
        have e0 := cell_of_row _ _ 0 _ _ _ hee
        have e1 := cell_of_row _ _ 1 _ _ _ hee
        have e2 := cell_of_row _ _ 2 _ _ _ hee
        simp at e0 e1 e2
        have le : b < w5.heap.size := lt_of_heap hee
        have hbb := R1.objs (b + 1, _) (by rw [hfs]; exact List.mem_cons_of_mem _ (List.mem_cons_self ..))
        have bt := cell_of_row _ _ 0 _ _ _ hbb
        simp at bt
        have lb : b + 1 < w5.heap.size := lt_of_heap hbb
        have hgz := get_set' HQ0K.out z
        have hc8 := R1.at hgz
        have lg := hc8.lt
        have f6 := hc8.frozen (k * 8 + 6)
        have d6 := hc8.kids
        clear R1 hee hbb hc8 hgz
        gi_wp2
        obtain ⟨z1, hz1⟩ : ∃ z1 : Prt, (⟨z.nd, q0.kA, q0.kc⟩ : Prt) = z1 := ⟨_, rfl⟩
        obtain ⟨w6, hw6⟩ : ∃ w6, w5.setCell ⟨g, k * 8 + 6, none⟩ (.slice q0.kA p.nd.kids.length q0.kc) = w6 := ⟨_, rfl⟩
        have HV6 : Hid (EdV w W2 (d7 + 2) m g c2 ps.length fs p (rs.set k z1) rs w6) := Lib.hid (by
          have := HV5.out.store HNF.out hw3b (get_set' HQ0K.out z) (q' := z1) (r := 6) (u := .slice q0.kA p.nd.kids.length q0.kc) (by omega) (by rw [← hz1, ← HZ.out]; rfl)
          rw [set_set', hw6] at this
          exact this)
        have HZ1 := Lib.hid hz1
        rw [hw6]
        clear hw6 hz1 HV5
        clear ly y0 y1 y2 y3 y4 y5 y6 y7 k7 l7 e0 e1 e2 le bt lb lg f6 d6
        have R1 := HV6.out.rows
        obtain ⟨ly, y0, y1, y2, y3, y4, y5, y6, y7⟩ := part_cells HV6.out.part
        have k7 := cell_of_row _ _ 0 _ _ _ (R1.objs (d7, _) (by rw [hfs]; exact List.mem_cons_of_mem _ (List.mem_cons_of_mem _ (List.mem_cons_self ..))))
        simp at k7
        have l7 : d7 < w6.heap.size := lt_of_heap (R1.objs (d7, _) (by rw [hfs]; exact List.mem_cons_of_mem _ (List.mem_cons_of_mem _ (List.mem_cons_self ..))))
        have hee := R1.objs (b, _) (by rw [hfs]; exact List.mem_cons_self ..)
        have e0 := cell_of_row _ _ 0 _ _ _ hee
        have e1 := cell_of_row _ _ 1 _ _ _ hee
        have e2 := cell_of_row _ _ 2 _ _ _ hee
        simp at e0 e1 e2
        have le : b < w6.heap.size := lt_of_heap hee
        have hbb := R1.objs (b + 1, _) (by rw [hfs]; exact List.mem_cons_of_mem _ (List.mem_cons_self ..))
        have bt := cell_of_row _ _ 0 _ _ _ hbb
        simp at bt
        have lb : b + 1 < w6.heap.size := lt_of_heap hbb
        clear R1 hee hbb
        refine wpIn_region_segs (4) [([0, 2], 1), ([], 3)] [] (by kernel_rfl) (by kernel_rfl) (by kernel_rfl) ?_
        (refine segs_cons fun K hK => ?_); (first | (simp only [pick_nil]) | (simp only [pick, nthC])); (repeat (go_big_quiet_step (fail))); (refine wpQuiet_nil (hK _ fun next hn => ?_)); (clear hK K); (simp only [pick, nthC])
        go_wp2_with fail
        refine (own_any p _).mono ?_
        rintro e w7 ⟨rfl, hx7⟩
        have HX7 : Hid (Ext w6 w7) := Lib.hid (Ext.trans (by repeat (first | exact Ext.refl _ | refine Ext.alloc ?_ _ | refine Ext.more ?_ _ _ | refine Ext.drew ?_ | refine Ext.drewN ?_ _ | refine Ext.setCell ?_ (by simp <;> omega) _)) hx7)
        clear hx7
        go_wp2_with fail
        refine segQ_mk (fun _ => laid HX7.out) (hn _ _ ?_)
        clear hn next
        (refine segs_cons fun K hK => ?_); (first | (simp only [pick_nil]) | (simp only [pick, nthC])); (repeat (go_big_quiet_step (fail))); (refine wpQuiet_nil (hK _ fun next hn => ?_)); (clear hK K); (simp only [pick, nthC])
        go_wp2_with fail
        refine (meets_any _ _ a d i w7).mono ?_
        rintro e w8 ⟨rfl, hx8⟩
        have HV8 := Lib.hid ((HV6.out.ext HX7.out).ext hx8)
        have hN := HN.out p (List.mem_of_getElem? HPP.out)
        have HM : Hid (meetsF (ownLo p.nd) p.nd.look a d i = decide (Meet (ownLo p.nd) p.nd.look ⟨a, d, i, bitOr bit⟩)) := Lib.hid (meets_in (by
          have := hN.lo
          unfold Lt30' at this
          unfold ownLo Lt30
          split <;> omega) hN.look HHA.out HHD.out HHI.out)
        obtain ⟨mb, hmb⟩ : ∃ mb, meetsF (ownLo p.nd) p.nd.look a d i = mb := ⟨_, rfl⟩
        rw [hmb] at HM ⊢
        have HX8 : Hid (Ext w6 w8) := Lib.hid (HX7.out.trans hx8)
        clear hx8 hN hmb
        go_wp2_with fail
        refine segQ_mk (fun _ => laid HX8.out) (hn _ _ ?_)
        clear hn next HX7 HV6 HX8
        (refine segs_nil fun K hK => ?_); (first | (simp only [pick_nil]) | (simp only [pick, nthC])); (repeat (go_big_quiet_step (fail))); (refine wpQuiet_nil (hK _ ?_)); (clear hK K)
        clear ly y0 y1 y2 y3 y4 y5 y6 y7 k7 l7 e0 e1 e2 le bt lb
        -- what a round comes to
        have FIN : Hid (∀ V (q' : Prt), EdV w W2 (d7 + 2) m g c2 ps.length fs p (rs.set k q') rs V → q' = ⟨editedF ⟨a, d, i, bitOr bit⟩ t p.nd, q0.kA, q0.kc⟩ →
            Turn (fun b1 => ((b1 = g ∨ d7 + 2 ≤ b1) ∧ b1 < w3.heap.size) ∨ m ≤ b1) W2 V ∧ EdI w (d7 + 2) g c2 ps.length fs ⟨a, d, i, bitOr bit⟩ ps (ps.length - (j + 1)) V) := Lib.hid (by
          rintro V q' hV rfl
          have hkk : ps.length - (j + 1) = k := by have := HKK.out; omega
          have hkj : ps.length - j = k + 1 := by have := HKK.out; have := HJ.out; omega
          rw [S3, hkk]
          refine ⟨hV.turn, rs.set k ⟨editedF ⟨a, d, i, bitOr bit⟩ t p.nd, q0.kA, q0.kc⟩, ?_, by rw [List.length_set]; exact HRL.out, ?_, fun q hq => ?_⟩
          · exact hV.low.imp fun U hU => ⟨hU.1.fresh HQ0K.out rfl rfl (by rw [HQP.out]; rfl), hU.2⟩
          · have hE := HE.out
            rw [hkj] at hE
            have := hE.step HT.out (nds_get HPP.out)
            rw [HTT.out] at this
            have e : nds (rs.set k ⟨editedF ⟨a, d, i, bitOr bit⟩ t p.nd, q0.kA, q0.kc⟩) = (nds rs).set k (editedF ⟨a, d, i, bitOr bit⟩ t p.nd) := by unfold nds; rw [List.map_set]
            rw [e]
            exact this
          · rcases List.mem_or_eq_of_mem_set hq with hq | rfl
            · exact HFIN.out q hq
            · have hN := HN.out p (List.mem_of_getElem? HPP.out)
              obtain ⟨⟨b1, b2⟩, ⟨b3, b4⟩, ⟨b5, b6⟩, b7, b8⟩ := edited_bd (om := bitOr bit) HHA.out HHD.out HHI.out hN HT0.out
              have hf := (S.out.oks.get HPP.out).fine
              refine ⟨⟨hf.sym, hf.kind, ?_, ?_, ?_, ?_, ?_, hf.ks⟩, b5, b6⟩
              · show I64 (loE _ _); unfold I64; omega
              · show I64 (innE _ _ _); unfold I64; omega
              · show I64 (hiE _ _ _); unfold I64; omega
              · show I64 (lookE _ _); unfold I64; omega
              · show 0 ≤ metE _ _ ∧ metE _ _ ≤ _
                unfold metE
                split
                · exact bitOr_bd bit p.nd.met
                · exact hf.met)
        cases mb with
        | false =>
          have HM' : Hid (¬ Meet (ownLo p.nd) p.nd.look ⟨a, d, i, bitOr bit⟩) := Lib.hid (of_decide_eq_false HM.out.symm)
          clear HM
          gi_wp2
          refine FIN.out w8 z1 HV8.out ?_
          rw [← HZ1.out, ← HZ.out]
          show (⟨editedF ⟨a, d, i, id⟩ t p.nd, q0.kA, q0.kc⟩ : Prt) = _
          rw [editedF_miss (om' := id) HM'.out]
        | true =>
          have HM' : Hid (Meet (ownLo p.nd) p.nd.look ⟨a, d, i, bitOr bit⟩) := Lib.hid (of_decide_eq_true HM.out.symm)
          clear HM
          have R1 := HV8.out.rows
          obtain ⟨ly, y0, y1, y2, y3, y4, y5, y6, y7⟩ := part_cells HV8.out.part
          have k7 := cell_of_row _ _ 0 _ _ _ (R1.objs (d7, _) (by rw [hfs]; exact List.mem_cons_of_mem _ (List.mem_cons_of_mem _ (List.mem_cons_self ..))))
          simp at k7
          have l7 : d7 < w8.heap.size := lt_of_heap (R1.objs (d7, _) (by rw [hfs]; exact List.mem_cons_of_mem _ (List.mem_cons_of_mem _ (List.mem_cons_self ..))))
          have hee := R1.objs (b, _) (by rw [hfs]; exact List.mem_cons_self ..)
          have e0 := cell_of_row _ _ 0 _ _ _ hee
          have e1 := cell_of_row _ _ 1 _ _ _ hee
          have e2 := cell_of_row _ _ 2 _ _ _ hee
          simp at e0 e1 e2
          have le : b < w8.heap.size := lt_of_heap hee
          have hbb := R1.objs (b + 1, _) (by rw [hfs]; exact List.mem_cons_of_mem _ (List.mem_cons_self ..))
          have bt := cell_of_row _ _ 0 _ _ _ hbb
          simp at bt
          have lb : b + 1 < w8.heap.size := lt_of_heap hbb
          have hc8 := R1.at (get_set' HQ0K.out z1)
          have lg := hc8.lt
          have f7 := hc8.frozen (k * 8 + 7)
          have d7' := hc8.met
          clear R1 hee hbb hc8
          gi_wp2
          refine wpIn_region_segs (9) [([0, 1, 2, 3, 4, 5, 6], 7), ([8], 9)] [] (by kernel_rfl) (by kernel_rfl) (by kernel_rfl) ?_
          (refine segs_cons fun K hK => ?_); (first | (simp only [pick_nil]) | (simp only [pick, nthC])); (repeat (go_big_quiet_step (fail))); (refine wpQuiet_nil (hK _ fun next hn => ?_)); (clear hK K); (simp only [pick, nthC])
          go_wp2_with fail
          refine segQ_mk (fun _ => laid (by repeat (first | exact Ext.refl _ | refine Ext.alloc ?_ _ | refine Ext.more ?_ _ _ | refine Ext.drew ?_ | refine Ext.drewN ?_ _ | refine Ext.setCell ?_ (by simp <;> omega) _))) (hn _ _ ?_)
          clear hn next
          (refine segs_cons fun K hK => ?_); (first | (simp only [pick_nil]) | (simp only [pick, nthC])); (repeat (go_big_quiet_step (fail))); (refine wpQuiet_nil (hK _ fun next hn => ?_)); (clear hK K); (simp only [pick, nthC])
          go_wp2_with fail
          refine segQ_mk (fun h => absurd rfl h) (hn _ _ ?_)
          clear hn next
          (refine segs_nil fun K hK => ?_); (first | (simp only [pick_nil]) | (simp only [pick, nthC])); (repeat (go_big_quiet_step (fail))); (refine wpQuiet_nil (hK _ ?_)); (clear hK K)
          gi_wp2
          have HV9 := HV8.out.store HNF.out hw3b (get_set' HQ0K.out z1) (q' := ⟨{ z1.nd with met := bits .or .u64 z1.nd.met bit }, z1.kA, z1.kc⟩) (r := 7) (u := .int .u64 (bits .or .u64 z1.nd.met bit)) (by omega) rfl
          rw [set_set'] at HV9
          refine FIN.out _ _ (HV9.ext (Ext.refl _).drew) ?_
          rw [← HZ1.out, ← HZ.out]
          have e1 : metE ⟨a, d, i, id⟩ p.nd = p.nd.met := by unfold metE; split <;> rfl
          show (⟨{ editedF ⟨a, d, i, id⟩ t p.nd with met := bits .or .u64 (metE ⟨a, d, i, id⟩ p.nd) bit }, q0.kA, q0.kc⟩ : Prt) = _
          rw [e1, ← editedF_hit (om' := id) HM'.out]
          rfl
  · rintro D V ⟨rs, hlow, hrl, hE, hfin⟩ hD hsz hk
    rw [backs_length, Nat.sub_self] at hE
    have hR := Low.up (Φ := RowS w.heap.size g c2 ps.length fs rs rs) (hlow.imp fun _ h => h.1) fun U h e => h.below e
    have hBl : Below w.heap.size w V := Low.up (Φ := Below w.heap.size w) (hlow.imp fun _ h => h.2) fun U h e => h.trans (e.mono h.size)
    have k7 := cell_of_row _ _ 0 _ _ _ (hR.objs (d7, _) (by rw [hfs]; exact List.mem_cons_of_mem _ (List.mem_cons_of_mem _ (List.mem_cons_self ..))))
    simp at k7
    have l7 : d7 < V.heap.size := lt_of_heap (hR.objs (d7, _) (by rw [hfs]; exact List.mem_cons_of_mem _ (List.mem_cons_of_mem _ (List.mem_cons_self ..))))
    have tD : Turn (fun b => b = D) V (V.putObj D (.deferred none)) := putObj_turn _ _ rfl
    have hlow2 := hlow.below (tD.below hlow.size fun k hk => by omega)
    have hR2 := Low.up (Φ := RowS w.heap.size g c2 ps.length fs rs rs) (hlow2.imp fun _ h => h.1) fun U h e => h.below e
    have hB2 : Below w.heap.size w (V.putObj D (.deferred none)) := Low.up (Φ := Below w.heap.size w) (hlow2.imp fun _ h => h.2) fun U h e => h.trans (e.mono h.size)
    have OUT : Hid (∃ out, EditedR ⟨a, d, i, bitOr bit⟩ (nds ps) out ∧ PartsRet w out (.returned (.slice (some ⟨g, 0, none⟩) ps.length c2)) (V.putObj D (.deferred none))) := Lib.hid
      ⟨nds rs, hE.last, some ⟨g, 0, none⟩, c2, rs, by rw [hrl], rfl, hR2.own hrl.symm fun q hq => (hfin q hq).1, Ext.of_below hB2⟩
    clear hlow hE hfin hR hBl tD hlow2 hR2 hB2
    go_wp2_with fail
    exact marks_ret1 (D := D) (v := .slice (some ⟨g, 0, none⟩) ps.length c2) rfl hk (by simp [results, Try.results41, go_sem]) OUT.out
end Go.Proofs.Ytggmljookcmnkaa
