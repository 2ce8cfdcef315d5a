/- Pn: texts that the proof rests on, part 2. -/
import Derived.Test.YthpmncdfaggkiaaGreatCr1
import Derived.Test.YthpmncdfaggkiaaGreatCr10
import Derived.Test.YthpmncdfaggkiaaGreatCr11
import Derived.Test.YthpmncdfaggkiaaGreatCr2
import Derived.Test.YthpmncdfaggkiaaGreatCr3
import Derived.Test.YthpmncdfaggkiaaGreatCr5
import Derived.Test.YthpmncdfaggkiaaGreatCr6
import Derived.Test.YthpmncdfaggkiaaGreatCr7
import Derived.Test.YthpmncdfaggkiaaGreatCr8
import Derived.Test.YthpmncdfaggkiaaGreatCr9
import Derived.Test.YthpmncdfaggkiaaGreatPn1
namespace Go.Proofs.YthpmncdfaggkiaaGreat
open Go.RowKit
attribute [local go_sem] more_drew more_drewN more_size more_cell more_frozen more_setCell drew_more drewN_more lt_add_r lt_add_r2 lt_add_r3 lt_add_r4 lt_add_r5 lt_add_r6 lt_add_r7 lt_add_r8 lt_add_r9 lt_add_r10 lt_self_r lt_self_r2
attribute [local go_sem] Oper.semAt_some
structure Few (ps : List Prt) : Prop where
 len : ps.length ≤ 1000
 kids : ∀ j, kc (nds ps) 0 j ≤ 1000000
theorem checkF_few {ps : List Prt} (h : ps.length ≤ 1000) : (Tree (nds ps) → checkF (nds ps) = 0) ∧ (¬ Tree (nds ps) → checkF (nds ps) = 2) := by
 have hl := nds_length ps
 unfold checkF
 rw [if_neg (by omega)]
 exact ⟨fun h => if_pos h, fun h => if_neg h⟩
theorem Tree.ends {l : List Nd} (T : Tree l) {ok : Bool} {M : Nat} (ht : Trek l [0] 0 ok M) : ok = true ∧ M = l.length := T.trek.det ht
theorem trek_ok {l : List Nd} {ok : Bool} (ht : Trek l [0] 0 ok l.length) : kc l 0 l.length + 1 = l.length ↔ ok = true := by
 have := ht.count
 simp only [List.length_singleton] at this
 cases ok with
 | true => have := this.1 rfl; simp; omega
 | false => have := this.2 rfl; simp; omega
theorem putObj_other (W : World) {D k : Nat} (o : Obj) (h : D ≠ k) : (W.putObj D o).heap[k]? = W.heap[k]? := World.putObj_heap_other (by omega)
def KidsOk (ps : List Prt) : Prop := ∀ p ∈ ps, KidsIn ps.length p.nd.kids
theorem trek_kids {ps : List Prt} (ht : Trek (nds ps) [0] 0 true ps.length) : KidsOk ps := by
 intro p hp k hk
 obtain ⟨j, hj, rfl⟩ := List.getElem_of_mem hp
 obtain ⟨q, m, h1, h2, h3⟩ := ht.inside rfl j (Nat.zero_le _) (by omega)
 rw [nds_get (List.getElem?_eq_getElem hj)] at h1
 injection h1 with h1
 subst h1
 obtain ⟨i, e, _, h5⟩ := h2.kid rfl k hk
 exact ⟨i, e, by omega⟩
set_option maxRecDepth 100000 in
set_option maxHeartbeats 1000000 in
theorem check1_any (lb : Nat) (A : Option Addr) (c : Nat) (ps : List Prt) (p : Prt) (w : World) (hlb : w.heap[lb]? = some (.cells #[.slice A ps.length c] 22)) (hP : Prts w A ps) (hl : ps.length ≤ 9223372036854775807) (hp : PrtOk w p) (hk : KidsIn ps.length p.nd.kids) :
 Calls Tryz.prog 123 #[aggV p, pt lb] w fun e w' => e = .returned (.bool (!liesB (nds ps) p.nd.hi p.nd.lo p.nd.kids)) ∧ Ext w w' := by
 have CL := zh (fun w1 h1 h2 => lies_any A c ps p w1 h1 hl h2 hk)
 have HP := zh hP
 have HPO := zh hp
 have c1 := cell_of_row _ _ 0 _ _ _ hlb
 simp at c1
 have l1 := lt_of_heap hlb
 clear hP hp hk hlb
 go_enter Tryz.func123, Tryz.ntmps123
 go_wp2_with fail
 refine (CL.out _ (HP.out.ext (by repeat first | exact xr _ | refine xa ?_ _ | refine xm ?_ _ _ | refine xd ?_ | refine xn ?_ _ | refine xs ?_ (by simp <;> omega) _)) (HPO.out.ext (by repeat first | exact xr _ | refine xa ?_ _ | refine xm ?_ _ _ | refine xd ?_ | refine xn ?_ _ | refine xs ?_ (by simp <;> omega) _))).mono ?_
 rintro e w2 ⟨rfl, hx2⟩
 have HX2 := zh hx2
 clear hx2
 go_wp2_with fail
 go_ret
 exact ⟨rfl, ((Ext.refl _).alloc _).trans HX2.out⟩
set_option maxRecDepth 100000 in
set_option maxHeartbeats 3000000 in
theorem check_any (A : Option Addr) (c : Nat) (ps : List Prt) (w : World) (hP : Prts w A ps) (hO : PrtsOk w ps) (hf : Few ps) :
 Calls Tryz.prog 72 #[.slice A ps.length c] w fun e w' => e = .returned (.int .i64 (checkF (nds ps))) ∧ Ext w w' := by
 obtain ⟨ok, M, ht⟩ := trek_all (nds ps) (nds ps).length [0] 0 (by omega)
 have hM : M ≤ ps.length := by have := ht.le.2 (Nat.zero_le _); rwa [nds_length] at this
 have hlen := hf.len
 have HFK := zh hf.kids
 have HP := zh hP
 have HO := zh hO
 have HT := zh ht
 have HC := zh (checkF_few hlen)
 clear hP hO ht hf
 have hd0 : decide ((524288 : Int) < (ps.length : Int)) = false := decide_eq_false (by omega)
 refine calls_of_marks Tryz.func72 rfl ?_
 simp only [Tryz.ntmps72, List.size_toArray, List.length_cons, List.length_nil, Nat.reduceAdd, Nat.reduceSub, Array.replicate_succ, Array.replicate_zero, List.push_toArray, List.append_toArray, List.nil_append, List.cons_append]
 go_wp2_with (go_at_call 120; refine (walk_make _ _ _ _).mono ?_; rintro e w2 ⟨rfl, rfl⟩)
 obtain ⟨b, hb⟩ : ∃ b, w.heap.size = b := ⟨_, rfl⟩
 obtain ⟨W5, hW5⟩ : ∃ W5, ((((w.alloc (Obj.cells #[Value.slice A ps.length c] 22)).alloc (Obj.cells #[Value.int IntKind.i64 0] 29)).alloc (Obj.cells #[Value.int IntKind.i64 0] 3)).alloc (Obj.cells #[Value.slice A ps.length c] 22)).alloc (Obj.cells #[Value.int IntKind.i64 0] 3) = W5 := ⟨_, rfl⟩
 have X5 : Ext w W5 := by rw [← hW5]; exact (by repeat first | exact xr _ | refine xa ?_ _ | refine xm ?_ _ _ | refine xd ?_ | refine xn ?_ _ | refine xs ?_ (by simp <;> omega) _)
 have S5 : W5.heap.size = b + 5 := by rw [← hW5, ← hb]; simp
 have G0 : W5.heap[b]? = some (.cells #[.slice A ps.length c] 22) := by rw [← hW5, ← hb]; exact (by simp only [heap_alloc_get, World.size_alloc]; (repeat (split; (first | rfl | (exfalso; omega)))); (try (first | (exfalso; omega) | simp_all)))
 have G1 : W5.heap[b + 1]? = some (.cells #[.int .i64 0] 29) := by rw [← hW5, ← hb]; exact (by simp only [heap_alloc_get, World.size_alloc]; (repeat (split; (first | rfl | (exfalso; omega)))); (try (first | (exfalso; omega) | simp_all)))
 have G2 : W5.heap[b + 1 + 1]? = some (.cells #[.int .i64 0] 3) := by rw [← hW5, ← hb]; exact (by simp only [heap_alloc_get, World.size_alloc]; (repeat (split; (first | rfl | (exfalso; omega)))); (try (first | (exfalso; omega) | simp_all)))
 have G3 : W5.heap[b + 1 + 1 + 1]? = some (.cells #[.slice A ps.length c] 22) := by rw [← hW5, ← hb]; exact (by simp only [heap_alloc_get, World.size_alloc]; (repeat (split; (first | rfl | (exfalso; omega)))); (try (first | (exfalso; omega) | simp_all)))
 have G4 : W5.heap[b + 1 + 1 + 1 + 1]? = some (.cells #[.int .i64 0] 3) := by rw [← hW5, ← hb]; exact (by simp only [heap_alloc_get, World.size_alloc]; (repeat (split; (first | rfl | (exfalso; omega)))); (try (first | (exfalso; omega) | simp_all)))
 rw [hW5, hb]
 clear hW5
 refine wp_range (gf := 166) (lb := #[pt (b + 1 + 1 + 1 + 1), pt (b + 1 + 1 + 1)]) (encs := encI) (xs := places M) (S := fun k => k = b + 1 ∨ k = b + 1 + 1 ∨ b + 5 ≤ k) rfl (enters_of Tryz.func166 (by kernel_rfl) rfl) (fun _ => rfl) (fun k hk => by omega)
  (fun w1 hx _ => walk_iter A c ps w w1 _ _ _ ok M HP.out HO.out (by omega) (X5.trans hx).below (ext_block G3 hx) (by omega) (by omega) (ext_block G4 hx) (by omega) HT.out)
  (fun j W' => W'.heap[b]? = some (.cells #[.slice A ps.length c] 22) ∧ W'.heap[b + 1]? = some (.cells #[.int .i64 0] 29) ∧ W'.heap[b + 1 + 1]? = some (.cells #[.int .i64 (j : Int)] 3) ∧ Below w.heap.size w W' ∧
    ∀ i p, i < j → ps[i]? = some p → Bare p.nd ∧ (0 < i → p.nd.kind ≠ 1))
  (fun cd j W' => cd = .ret ∧ ¬ Tree (nds ps) ∧ W'.heap[b + 1]? = some (.cells #[.int .i64 2] 29) ∧ Below w.heap.size w W') ?_ ?_ ⟨G0, G1, G2, X5.below, fun i p hi => by omega⟩ ?_ ?_ ?_
 ·rintro j U U' hbe hsz ⟨i1, i2, i3, i4, i5⟩
  rw [S5] at hbe hsz
  exact ⟨(hbe.block _ (by omega)).trans i1, (hbe.block _ (by omega)).trans i2, (hbe.block _ (by omega)).trans i3, i4.trans (hbe.mono (by omega)), i5⟩
 ·rintro cd j U U' hbe hsz ⟨i1, i2, i3, i4⟩
  rw [S5] at hbe hsz
  exact ⟨i1, i2, (hbe.block _ (by omega)).trans i3, i4.trans (hbe.mono (by omega))⟩
 ·rintro l j x W' hx _ hsz
  obtain ⟨rfl, hjM⟩ := places_get hx
  simp only [encI]
  gi_wp2
  refine ⟨Ext.refl _, ?_⟩
  rintro W2 t2 ⟨i1, i2, i3, i4, i5⟩ hsz2
  clear hx t2 hsz
  obtain ⟨p, hp⟩ : ∃ p, ps[j]? = some p := ⟨_, List.getElem?_eq_getElem (by omega)⟩
  have c1 := cell_of_row _ _ 0 _ _ _ i1
  have c2 := cell_of_row _ _ 0 _ _ _ i2
  have c3 := cell_of_row _ _ 0 _ _ _ i3
  simp at c1 c2 c3
  have l1 := lt_of_heap i1
  have l2 := lt_of_heap i2
  have l3 := lt_of_heap i3
  have r2 : W2.frozen? ⟨b + 1, 0, none⟩ = false := by simp [World.frozen?, i2]
  have r3 : W2.frozen? ⟨b + 1 + 1, 0, none⟩ = false := by simp [World.frozen?, i3]
  obtain ⟨bA, off, rfl, hbA, hcell⟩ := (HP.out.below i4) (by omega)
  obtain ⟨d0, d1, d2, d3, d4, d5, d6, d7⟩ := hcell j p hp
  have I1 := zh i1
  have I2 := zh i2
  have I3 := zh i3
  have I4 := zh i4
  have I5 := zh i5
  have HPJ := zh hp
  clear i1 i2 i3 i4 i5 hp hcell
  have fin2 : ∀ (os : List Obj) (k : Nat), ¬ Tree (nds ps) → Turn (fun b1 => ((b1 = b + 1 ∨ b1 = b + 1 + 1 ∨ b + 5 ≤ b1) ∧ b1 < W5.heap.size) ∨ W'.heap.size ≤ b1) W2 (more (W2.setCell ⟨b + 1, 0, none⟩ (.int .i64 2)) os k) ∧
   ¬ Tree (nds ps) ∧ (more (W2.setCell ⟨b + 1, 0, none⟩ (.int .i64 2)) os k).heap[b + 1]? = some (.cells #[.int .i64 2] 29) ∧ Below w.heap.size w (more (W2.setCell ⟨b + 1, 0, none⟩ (.int .i64 2)) os k) := fun os k hT => by
   have T := Turn.setCell (S := fun k => k = b + 1) W2 (p := ⟨b + 1, 0, none⟩) rfl (.int .i64 2)
   have E : Ext (W2.setCell ⟨b + 1, 0, none⟩ (.int .i64 2)) (more (W2.setCell ⟨b + 1, 0, none⟩ (.int .i64 2)) os k) := ⟨os, k, rfl⟩
   have T2 := T.trans (Turn.of_ext E)
   refine ⟨T2.mono fun k _ hk => .inl ⟨.inl hk, by omega⟩, hT, ext_block ?_ E, I4.out.trans (T2.below I4.out.size fun k hk => by omega)⟩
   simp [World.setCell, Array.getElem?_modify, I2.out]
  have fin1 : ∀ (os : List Obj) (k : Nat), Bare p.nd ∧ (0 < j → p.nd.kind ≠ 1) → Turn (fun b1 => ((b1 = b + 1 ∨ b1 = b + 1 + 1 ∨ b + 5 ≤ b1) ∧ b1 < W5.heap.size) ∨ W'.heap.size ≤ b1) W2 (more (W2.setCell ⟨b + 1 + 1, 0, none⟩ (.int .i64 ((j : Int) + 1))) os k) ∧
   (more (W2.setCell ⟨b + 1 + 1, 0, none⟩ (.int .i64 ((j : Int) + 1))) os k).heap[b]? = some (.cells #[.slice (some ⟨bA, off, none⟩) ps.length c] 22) ∧ (more (W2.setCell ⟨b + 1 + 1, 0, none⟩ (.int .i64 ((j : Int) + 1))) os k).heap[b + 1]? = some (.cells #[.int .i64 0] 29) ∧
   (more (W2.setCell ⟨b + 1 + 1, 0, none⟩ (.int .i64 ((j : Int) + 1))) os k).heap[b + 1 + 1]? = some (.cells #[.int .i64 ((j + 1 : Nat) : Int)] 3) ∧ Below w.heap.size w (more (W2.setCell ⟨b + 1 + 1, 0, none⟩ (.int .i64 ((j : Int) + 1))) os k) ∧
   ∀ i p, i < j + 1 → ps[i]? = some p → Bare p.nd ∧ (0 < i → p.nd.kind ≠ 1) := fun os k hT => by
   have T := Turn.setCell (S := fun k => k = b + 1 + 1) W2 (p := ⟨b + 1 + 1, 0, none⟩) rfl (.int .i64 ((j : Int) + 1))
   have E : Ext (W2.setCell ⟨b + 1 + 1, 0, none⟩ (.int .i64 ((j : Int) + 1))) (more (W2.setCell ⟨b + 1 + 1, 0, none⟩ (.int .i64 ((j : Int) + 1))) os k) := ⟨os, k, rfl⟩
   have T2 := T.trans (Turn.of_ext E)
   refine ⟨T2.mono fun k _ hk => .inl ⟨.inr (.inl hk), by omega⟩, (T2.block _ l1 (by omega)).trans I1.out, (T2.block _ l2 (by omega)).trans I2.out, ext_block ?_ E, I4.out.trans (T2.below I4.out.size fun k hk => by omega), fun i q hi hq => ?_⟩
   ·simp [World.setCell, Array.getElem?_modify, I3.out]
   ·rcases (show i < j ∨ i = j by omega) with h | rfl
    ·exact I5.out i q h hq
    ·rw [HPJ.out] at hq
     injection hq with hq
     subst hq
     exact hT
  have notT : ¬ (Bare p.nd ∧ (0 < j → p.nd.kind ≠ 1)) → ¬ Tree (nds ps) := fun hn T => hn (T.bare j _ (nds_get HPJ.out))
  have F1 := zh fin1
  have F2 := zh fin2
  have NT := zh notT
  clear fin1 fin2 notT
  by_cases hB : Bare p.nd
  ·have hBd : decide (Bare p.nd) = true := decide_eq_true hB
   have HB := zh hB
   clear hB
   by_cases hj : 0 < j
   ·have hj1 : decide (0 < j) = true := decide_eq_true hj
    have HJ := zh hj
    clear hj
    by_cases hk : p.nd.kind = 1
    ·have hk1 : (p.nd.kind == 1) = true := by simpa using hk
     have HK := zh hk
     clear hk
     gi_wp2_with (first | (refine ⟨trivial, rfl, ?_⟩; refine (CallsIn.inRound l (callsIn_wide.2 (bare_any p _))).mono ?_; rintro e w3 ⟨rfl, os3, k3, rfl⟩))
     have h := F2.out os3 k3 (NT.out fun hh => hh.2 HJ.out HK.out)
     exact ⟨h.1, rfl, h.2⟩
    ·have hk1 : (p.nd.kind == 1) = false := by simpa using hk
     have HK := zh hk
     clear hk
     gi_wp2_with (first | (refine ⟨trivial, rfl, ?_⟩; refine (CallsIn.inRound l (callsIn_wide.2 (bare_any p _))).mono ?_; rintro e w3 ⟨rfl, os3, k3, rfl⟩))
     exact F1.out _ _ ⟨HB.out, fun _ => HK.out⟩
   ·have hj1 : decide (0 < j) = false := decide_eq_false hj
    have HJ := zh hj
    clear hj
    gi_wp2_with (first | (refine ⟨trivial, rfl, ?_⟩; refine (CallsIn.inRound l (callsIn_wide.2 (bare_any p _))).mono ?_; rintro e w3 ⟨rfl, os3, k3, rfl⟩))
    exact F1.out _ _ ⟨HB.out, fun h => absurd h HJ.out⟩
  ·have hBd : decide (Bare p.nd) = false := decide_eq_false hB
   have HB := zh hB
   clear hB
   gi_wp2_with (first | (refine ⟨trivial, rfl, ?_⟩; refine (CallsIn.inRound l (callsIn_wide.2 (bare_any p _))).mono ?_; rintro e w3 ⟨rfl, os3, k3, rfl⟩))
   have h := F2.out os3 k3 (NT.out fun hh => HB.out hh.1)
   exact ⟨h.1, rfl, h.2⟩
 ·rintro D W' ⟨i1, i2, i3, i4, i5⟩ hD hsz hk
  rw [places_length] at i3 i5
  have c1 := cell_of_row _ _ 0 _ _ _ i1
  have c2 := cell_of_row _ _ 0 _ _ _ i2
  have c3 := cell_of_row _ _ 0 _ _ _ i3
  simp at c1 c2 c3
  have l1 := lt_of_heap i1
  have l2 := lt_of_heap i2
  have l3 := lt_of_heap i3
  have lD := lt_of_heap hk
  have r2 : W'.frozen? ⟨b + 1, 0, none⟩ = false := by simp [World.frozen?, i2]
  have fin : ∀ (X : World) (v : Int), Ext W' X → Ext w ((X.setCell ⟨b + 1, 0, none⟩ (.int .i64 v)).putObj D (.deferred none)) ∧ ((X.setCell ⟨b + 1, 0, none⟩ (.int .i64 v)).putObj D (.deferred none)).cell? ⟨b + 1, 0, none⟩ = some (.int .i64 v) ∧
   (X.setCell ⟨b + 1, 0, none⟩ (.int .i64 v)).heap[D]? = some (.deferred (some [])) := fun X v hX => by
   have T := Turn.setCell (S := fun k => k = b + 1) X (p := ⟨b + 1, 0, none⟩) rfl (.int .i64 v)
   have hX2 := ext_block i2 hX
   have hXD := ext_block hk hX
   have h1 : (X.setCell ⟨b + 1, 0, none⟩ (.int .i64 v)).heap[b + 1]? = some (.cells #[.int .i64 v] 29) := by simp [World.setCell, Array.getElem?_modify, hX2]
   have i4X := i4.trans (hX.below.mono i4.size)
   have i4X2 := i4X.trans (T.below i4X.size fun k hk => by omega)
   refine ⟨Ext.of_below (i4X2.trans ((putObj_turn (S := fun b => b = D) _ _ rfl).below i4X2.size fun k hk => by omega)), ?_, (T.block _ (lt_of_heap hXD) (by omega)).trans hXD⟩
   have := cell_of_row _ _ 0 _ _ _ ((putObj_other (X.setCell ⟨b + 1, 0, none⟩ (.int .i64 v)) (.deferred none) (show D ≠ b + 1 by omega)).trans h1)
   simpa using this
  have FX := zh (fun (X : World) (hX : Ext W' X) => (⟨(hX.below.cell (p := ⟨b, 0, none⟩) l1).trans c1, (hX.below.cell (p := ⟨b + 1, 0, none⟩) l2).trans c2, (hX.below.frozen (p := ⟨b + 1, 0, none⟩) l2).trans r2, Nat.lt_of_lt_of_le l1 hX.size, Nat.lt_of_lt_of_le l2 hX.size⟩ :
   X.cell? ⟨b, 0, none⟩ = some (.slice A ps.length c) ∧ X.cell? ⟨b + 1, 0, none⟩ = some (.int .i64 0) ∧ X.frozen? ⟨b + 1, 0, none⟩ = false ∧ b < X.heap.size ∧ b + 1 < X.heap.size))
  have I1 := zh i1
  have I4 := zh i4
  have I5 := zh i5
  have FIN := zh fin
  have HK := zh hk
  clear i1 i2 i3 i4 i5 fin hk
  by_cases hML : M = ps.length
  ·have hm1 : ((M : Int) != (ps.length : Int)) = false := by simp [hML]
   by_cases h0 : M = 0
   ·have hm2 : ((M : Int) == 0) = true := by simp [h0]
    have HML := zh hML
    have H0 := zh h0
    clear hML h0
    go_wp2_with fail
    obtain ⟨f1, f2, f3⟩ := FIN.out W' 2 (Ext.refl _)
    refine marks_ret1 (D := D) (v := .int .i64 2) rfl f3 (by simp [results, Tryz.results72, go_sem, f2]) ⟨by rw [HC.out.2 (fun T => by have := T.pos; rw [nds_length] at this; have := HML.out; have := H0.out; omega)], f1⟩
   ·have hm2 : ((M : Int) == 0) = false := by simp [h0]
    have HT2 : Hid (Trek (nds ps) [0] 0 ok (nds ps).length) := by rw [nds_length, ← hML]; exact HT.out
    clear hML h0
    go_wp2_with fail
    go_loopw [5, 44] (fun s i wr => ∃ j n : Nat, j ≤ ps.length ∧ i = .int .i64 j ∧ s = .int .i64 n ∧ Hid (n = kc (nds ps) 0 j) ∧ n ≤ 1000000 ∧ Ext W' wr) (fun _ i _ => ps.length - (intOf i).toNat)
    case atStart => exact ⟨0, 0, Nat.zero_le _, rfl, rfl, zh (kc_self _ _).symm, by omega, Ext.refl _⟩
    case round =>
     obtain ⟨j, n, hj, rfl, rfl, hn, hn2, hx⟩ := hrel
     by_cases hlt : j < ps.length
     ·obtain ⟨p, hp⟩ : ∃ p, ps[j]? = some p := ⟨_, List.getElem?_eq_getElem hlt⟩
      obtain ⟨bA, off, rfl, hbA, hcell⟩ := (HP.out.below (I4.out.trans (hx.below.mono I4.out.size))) (by omega)
      obtain ⟨d0, d1, d2, d3, d4, d5, d6, d7⟩ := hcell j p hp
      have HN : Hid (n + p.nd.kids.length = kc (nds ps) 0 (j + 1)) := by rw [kc_add _ (Nat.zero_le j) (show j ≤ j + 1 by omega), kc_one (nds_get hp), ← hn.out]; exact zh rfl
      have hb1 : n + p.nd.kids.length ≤ 1000000 := by rw [HN.out]; exact HFK.out _
      have HX := zh hx
      clear hx hcell hp
      go_wp2_with fail
      go_roundw
      case rel => exact ⟨j + 1, n + p.nd.kids.length, by omega, by go_num, by go_num, HN, hb1, HX.out.alloc _⟩
      case measure => simp [intOf]; omega
     ·obtain rfl : j = ps.length := by omega
      obtain ⟨g1, g2, g3, g4, g5⟩ := FX.out wr hx
      have HX := zh hx
      clear hx
      by_cases hke : n + 1 = ps.length
      ·have hok : ok = true := (trek_ok HT2.out).1 (by rw [nds_length, ← hn.out]; exact hke)
       have ht3 : Trek (nds ps) [0] 0 true ps.length := by have := HT2.out; rw [hok, nds_length] at this; exact this
       have hke2 : ((n : Int) != (ps.length : Int) - 1) = false := by simp; omega
       have KO := zh (trek_kids ht3)
       have HT3 := zh ht3
       have HML2 : Hid (M = ps.length) := zh (by have := (HT2.out.det HT.out).2; rwa [nds_length] at this)
       have CA := zh (hasParts 123 #[pt b] (fun p => !liesB (nds ps) p.nd.hi p.nd.lo p.nd.kids) A c ps wr (HP.out.below (I4.out.trans (HX.out.below.mono I4.out.size))) (by omega)
        (enters_of Tryz.func123 (by kernel_rfl) rfl) (fun w1 p h1 h2 => check1_any b A c ps p w1 (ext_block (ext_block I1.out HX.out) h1) (HP.out.below (I4.out.trans ((HX.out.trans h1).below.mono I4.out.size))) (by omega)
         ((HO.out p h2).below (I4.out.trans ((HX.out.trans h1).below.mono I4.out.size))) (KO.out p h2)))
       clear hke hok ht3
       go_wp2_with fail
       refine CA.out.mono ?_
       rintro e w2 ⟨rfl, hx2⟩
       obtain ⟨k1, k2, k3, k4, k5⟩ := FX.out w2 (HX.out.trans hx2)
       have HX2 := zh (HX.out.trans hx2)
       clear hx2
       cases hany : ps.any (fun p => !liesB (nds ps) p.nd.hi p.nd.lo p.nd.kids) with
       | true =>
        have hnT : ¬ Tree (nds ps) := fun T => by
         obtain ⟨p, hp, hq⟩ := List.any_eq_true.1 hany
         rw [T.lies p.nd (List.mem_map.2 ⟨p, hp, rfl⟩)] at hq
         cases hq
        have HNT := zh hnT
        clear hany hnT
        go_wp2_with fail
        obtain ⟨f1, f2, f3⟩ := FIN.out w2 2 HX2.out
        refine marks_ret1 (D := D) (v := .int .i64 2) rfl f3 (by simp [results, Tryz.results72, go_sem, f2]) ⟨by rw [HC.out.2 HNT.out], f1⟩
       | false =>
        have hT : Tree (nds ps) := by
         refine ⟨fun i q hq => ?_, by rw [nds_length]; exact HT3.out, fun q hq => ?_⟩
         ·obtain ⟨p, hp, rfl⟩ := nds_get' hq
          exact I5.out i p (by have := lt_of_get hp; have := HML2.out; omega) hp
         ·obtain ⟨p, hp, rfl⟩ := List.mem_map.1 hq
          have := List.any_eq_false.1 hany p hp
          simpa using this
        have HNT := zh hT
        clear hany hT
        go_wp2_with fail
        obtain ⟨f1, f2, f3⟩ := FIN.out w2 0 HX2.out
        refine marks_ret1 (D := D) (v := .int .i64 0) rfl f3 (by simp [results, Tryz.results72, go_sem, f2]) ⟨by rw [HC.out.1 HNT.out], f1⟩
      ·have hnT : ¬ Tree (nds ps) := fun T => hke (by
        have h1 := (T.ends HT.out).1
        have := (trek_ok HT2.out).2 h1
        rw [nds_length, ← hn.out] at this
        exact this)
       have HNT := zh hnT
       have hke2 : ((n : Int) != (ps.length : Int) - 1) = true := by simp; omega
       clear hke hnT
       go_wp2_with fail
       obtain ⟨f1, f2, f3⟩ := FIN.out wr 2 HX.out
       refine marks_ret1 (D := D) (v := .int .i64 2) rfl f3 (by simp [results, Tryz.results72, go_sem, f2]) ⟨by rw [HC.out.2 HNT.out], f1⟩
  ·have hm1 : ((M : Int) != (ps.length : Int)) = true := by simp; omega
   have HML := zh hML
   clear hML
   go_wp2_with fail
   obtain ⟨f1, f2, f3⟩ := FIN.out W' 2 (Ext.refl _)
   refine marks_ret1 (D := D) (v := .int .i64 2) rfl f3 (by simp [results, Tryz.results72, go_sem, f2]) ⟨by rw [HC.out.2 (fun T => HML.out (by have := (T.ends HT.out).2; rwa [nds_length] at this))], f1⟩
 ·rintro D cd j W' hj ⟨rfl, hT, i3, i4⟩ hD hsz hk
  have hq := (putObj_other W' (.deferred none) (show D ≠ b + 1 by omega)).trans i3
  have c1 := cell_of_row _ _ 0 _ _ _ hq
  simp at c1
  go_wp2_with fail
  refine marks_ret1 (D := D) (v := .int .i64 2) rfl hk (by simp [results, Tryz.results72, go_sem, c1]) ⟨by rw [HC.out.2 hT], ?_⟩
  exact Ext.of_below (i4.trans ((putObj_turn (S := fun b => b = D) _ _ rfl).below i4.size fun k hk => by omega))
end Go.Proofs.YthpmncdfaggkiaaGreat
namespace Go.Proofs.YthpmncdfaggkiaaGreat
open Go.RowKit
attribute [local go_sem] more_drew more_drewN more_size more_cell more_frozen more_setCell drew_more drewN_more lt_add_r lt_add_r2 lt_add_r3 lt_add_r4 lt_add_r5 lt_add_r6 lt_add_r7 lt_add_r8 lt_add_r9 lt_add_r10 lt_self_r lt_self_r2
structure PS (w : World) (A : Option Addr) (c : Nat) (ps : List Prt) : Prop where
 parts : Prts w A ps
 oks : PrtsOk w ps
 few : Few ps
 cap : ps.length ≤ c
 top : c ≤ 9223372036854775807
 none : A = .none → c = 0
theorem PS.ext {w w' : World} {A : Option Addr} {c : Nat} {ps : List Prt} (h : PS w A c ps) (e : Ext w w') : PS w' A c ps := ⟨h.parts.ext e, h.oks.ext e, h.few, h.cap, h.top, h.none⟩
theorem PS.below {w w' : World} {A : Option Addr} {c : Nat} {ps : List Prt} (h : PS w A c ps) (e : Below w.heap.size w w') : PS w' A c ps := ⟨h.parts.below e, h.oks.below e, h.few, h.cap, h.top, h.none⟩
section
variable {A : Option Addr} {c : Nat} {ps : List Prt} {w : World}
theorem check_ok (h : PS w A c ps) (T : Tree (nds ps)) : Calls Tryz.prog 72 #[.slice A ps.length c] w fun e w' => e = .returned (.int .i64 0) ∧ Ext w w' :=
 (check_any A c ps w h.parts h.oks h.few).mono fun _ _ ⟨he, hx⟩ => ⟨by rw [he, (checkF_few h.few.len).1 T], hx⟩
theorem check_no (h : PS w A c ps) (T : ¬ Tree (nds ps)) : Calls Tryz.prog 72 #[.slice A ps.length c] w fun e w' => e = .returned (.int .i64 2) ∧ Ext w w' :=
 (check_any A c ps w h.parts h.oks h.few).mono fun _ _ ⟨he, hx⟩ => ⟨by rw [he, (checkF_few h.few.len).2 T], hx⟩
set_option maxRecDepth 100000 in
set_option maxHeartbeats 1000000 in
theorem is_yes (i : Int) (h : PS w A c ps) (T : Tree (nds ps)) : Calls Tryz.prog 125 #[.slice A ps.length c, .int .i64 i] w fun e w' => e = .returned (.bool (decide (0 ≤ i) && decide (i < (ps.length : Int)))) ∧ Ext w w' := by
 have CH := zh (check_ok h T)
 have hl := h.few.len
 clear h T
 go_enter Tryz.func125, Tryz.ntmps125
 go_wp2_with fail
 refine CH.out.mono ?_
 rintro e w2 ⟨rfl, hx2⟩
 have HX := zh hx2
 clear hx2
 go_wp2_with fail
 all_goals go_ret
 all_goals exact ⟨ret_bool (by rw [Bool.eq_iff_iff]; simp; try omega), HX.out⟩
end
section
variable {A : Option Addr} {c : Nat} {ps : List Prt} {w : World}
def IsP (l : List Nd) (i : Int) : Prop := Tree l ∧ 0 ≤ i ∧ i < (l.length : Int)
theorem is_true (i : Int) (h : PS w A c ps) (T : IsP (nds ps) i) : Calls Tryz.prog 125 #[.slice A ps.length c, .int .i64 i] w fun e w' => e = .returned (.bool true) ∧ Ext w w' := by
 obtain ⟨T, h0, h1⟩ := T
 rw [nds_length] at h1
 refine (is_yes i h T).mono ?_
 rintro e w' ⟨rfl, hx⟩
 exact ⟨ret_bool (by rw [decide_eq_true h0, decide_eq_true h1]; rfl), hx⟩
end
end Go.Proofs.YthpmncdfaggkiaaGreat
namespace Go.Proofs.YthpmncdfaggkiaaGreat
open Go.RowKit
attribute [local go_sem] more_drew more_drewN more_size more_cell more_frozen more_setCell drew_more drewN_more lt_add_r lt_add_r2 lt_add_r3 lt_add_r4 lt_add_r5 lt_add_r6 lt_self_r lt_self_r2
set_option maxHeartbeats 2000000 in
theorem bareR_any (p : Prt) (w : World) : Calls Tryz.prog 49 #[aggV p] w fun e w' => e = .returned (.bool (decide (Bare p.nd))) ∧ Ext w w' := by
 obtain ⟨⟨sym, kind, lo, inn, hi, look, kids, met⟩, kA, kc⟩ := p
 go_enter Tryz.func49, Tryz.ntmps49
 go_wp2_with (first | (go_at_call 91; refine (leafR_any _ _).mono ?_; rintro e w' ⟨rfl, rfl⟩) | go_in)
 all_goals go_ret
 all_goals refine ⟨ret_bool ?_, (Ext.refl _).alloc _⟩
 all_goals (rw [Bool.eq_iff_iff, decide_eq_true_iff])
 all_goals grind [Bare, TokK, LeafK]
end Go.Proofs.YthpmncdfaggkiaaGreat
namespace Go.Proofs.YthpmncdfaggkiaaGreat
open Go.RowKit
attribute [local go_sem] more_drew more_drewN more_size more_cell more_frozen more_setCell drew_more drewN_more lt_add_r lt_add_r2 lt_add_r3 lt_add_r4 lt_add_r5 lt_add_r6 lt_add_r7 lt_add_r8 lt_add_r9 lt_add_r10 lt_self_r lt_self_r2
set_option maxRecDepth 100000 in
set_option maxHeartbeats 1500000 in
theorem rend_any (A : Option Addr) (c : Nat) (ps : List Prt) : ∀ (fuel i m : Nat) (ok : Bool) (p : Prt) (w : World), PS w A c ps → ps.length - i ≤ fuel → ps[i]? = some p → Trek (nds ps) p.nd.kids (i + 1) ok m →
 Calls Tryz.prog 50 #[.slice A ps.length c, .int .i64 i] w fun e w' => e = .returned (.int .i64 (endR (nds ps) (i + 1) m ok p.nd.hi p.nd.lo p.nd.kids)) ∧ Ext w w' := by
 intro fuel
 induction fuel with
 | zero =>
  intro i m ok p w h hf hp ht
  have := lt_of_get hp
  omega
 | succ fuel ih =>
  intro i m ok p w h hf hp ht
  have hil := lt_of_get hp
  have hl := h.few.len
  obtain ⟨b, off, rfl, hb, hcell⟩ := h.parts (by omega)
  obtain ⟨_, _, d2, _, d4, _, d6, _⟩ := hcell i p hp
  have hcap := h.cap
  have b1 : IntKind.i64.wrap ((i : Int) + 1) = ((i + 1 : Nat) : Int) := by
   rw [show ((i : Int) + 1) = ((i + 1 : Nat) : Int) by omega]
   exact IntWalk.i64_in _ (by omega)
  have hpo := h.oks.get hp
  have ho1 := hpo.cap
  have ho2 := hpo.top
  have S := zh h
  have IH := zh ih
  have HT := zh ht
  have HPP := zh hp
  have HPO := zh hpo
  clear h ih ht hp hcell hpo
  go_enter Tryz.func50, Tryz.ntmps50
  go_upto_region 1 with fail
  refine wp_region_ext (by kernel_rfl) (by kernel_rfl) ?_
  repeat (go_big_quiet_step (fail))
  refine wpQuiet_nil ?_
  intro _ hw'
  obtain ⟨x9, rfl⟩ := hw'
  obtain ⟨W4, hW4⟩ : ∃ W4, more w x9.os x9.k = W4 := ⟨_, rfl⟩
  have HX4 : Hid (Ext w W4) := zh (by rw [← hW4]; exact ⟨_, _, rfl⟩)
  rw [hW4]
  clear hW4
  have CELLS := zh (fun (V : World) (x : Ext w V) => (⟨(x.below.cell (p := ⟨b, off + i * 8 + 4, none⟩) hb).trans d4, (x.below.cell (p := ⟨b, off + i * 8 + 6, none⟩) hb).trans d6, Nat.lt_of_lt_of_le hb x.size⟩ :
   V.cell? ⟨b, off + i * 8 + 4, none⟩ = some (.int .i64 p.nd.hi) ∧ V.cell? ⟨b, off + i * 8 + 6, none⟩ = some (.slice p.kA p.nd.kids.length p.kc) ∧ b < V.heap.size))
  clear d2 d4 d6 b1
  go_wp2_with fail
  go_loopw [5, 6, 7] (fun nx av kv wr => ∃ (k n2 : Nat) (a2 : Int), k ≤ p.nd.kids.length ∧ kv = .int .i64 k ∧ nx = .int .i64 n2 ∧ av = .int .i64 a2 ∧ i < n2 ∧ n2 ≤ ps.length ∧
   Hid (Trek (nds ps) (p.nd.kids.drop k) n2 ok m ∧ endR (nds ps) (i + 1) m ok p.nd.hi p.nd.lo p.nd.kids = endR (nds ps) n2 m ok p.nd.hi a2 (p.nd.kids.drop k)) ∧ Hid (Ext w wr)) (fun _ _ kv _ => p.nd.kids.length - (intOf kv).toNat)
  case atStart => exact ⟨0, i + 1, p.nd.lo, Nat.zero_le _, rfl, rfl, rfl, by omega, by omega, zh ⟨HT.out, rfl⟩, HX4⟩
  case round =>
   obtain ⟨k, n2, a2, hk, rfl, rfl, rfl, hin, hn2, hH, hx⟩ := hrel
   obtain ⟨kd4, kd6, kb⟩ := CELLS.out wr hx.out
   by_cases hlt : k < p.nd.kids.length
   ·obtain ⟨bk, offk, hkA, hbk, hck⟩ := (HPO.out.ext hx.out).kids (by omega)
    have e1 := hck k hlt
    obtain ⟨x, hxk⟩ : ∃ x, p.nd.kids[k]? = some x := ⟨_, List.getElem?_eq_getElem hlt⟩
    rw [List.getD_eq_getElem?_getD, hxk] at e1
    dsimp only [Option.getD_some] at e1
    have hdr : p.nd.kids.drop k = x :: p.nd.kids.drop (k + 1) := by
     rw [List.drop_eq_getElem_cons hlt]
     congr 1
     rw [List.getElem?_eq_getElem hlt] at hxk
     injection hxk
    have hH' := hH.out
    rw [hdr] at hH'
    obtain ⟨ht2, he2⟩ := hH'
    have HE2 := zh he2
    have HT2 := zh ht2
    rw [hkA] at kd6
    clear hck hxk hdr he2 ht2 hH hkA
    by_cases hbad : x ≠ (n2 : Int) ∨ (nds ps).length ≤ n2
    ·have HR := zh (endR_bad (hi := p.nd.hi) (at' := a2) HT2.out hbad)
     rw [nds_length] at hbad
     by_cases hxn : x = (n2 : Int)
     ·subst hxn
      have hle : decide (ps.length ≤ n2) = true := decide_eq_true (by omega)
      clear hbad
      go_wp2_with fail
      go_ret
      exact ⟨ret_int (by rw [HE2.out, HR.out]), hx.out.trans (by repeat first | exact xr _ | refine xa ?_ _ | refine xm ?_ _ _ | refine xd ?_ | refine xn ?_ _ | refine xs ?_ (by simp <;> omega) _)⟩
     ·have hxb : (x != (n2 : Int)) = true := by simpa using hxn
      clear hbad hxn
      go_wp2_with fail
      go_ret
      exact ⟨ret_int (by rw [HE2.out, HR.out]), hx.out.trans (by repeat first | exact xr _ | refine xa ?_ _ | refine xm ?_ _ _ | refine xd ?_ | refine xn ?_ _ | refine xs ?_ (by simp <;> omega) _)⟩
    ·have hxn : x = (n2 : Int) := Decidable.byContradiction fun h => hbad (.inl h)
     have hnl : n2 < ps.length := by rw [← nds_length]; exact Nat.lt_of_not_le fun h => hbad (.inr h)
     subst hxn
     clear hbad
     obtain ⟨q, hq⟩ : ∃ q, ps[n2]? = some q := ⟨_, List.getElem?_eq_getElem hnl⟩
     obtain ⟨b2, off2, hA2, _, hc2⟩ := (S.out.ext hx.out).parts (by omega)
     injection hA2 with hA2
     injection hA2 with ea eb
     subst ea eb
     obtain ⟨_, _, g2, _, g4, _, _, _⟩ := hc2 n2 q hq
     have hle : decide (ps.length ≤ n2) = false := decide_eq_false (by omega)
     by_cases hah : q.nd.lo < a2
     ·have HR := zh (endR_ahead (m := m) (ok := ok) (hi := p.nd.hi) (ks := p.nd.kids.drop (k + 1)) (nds_get hq) hah)
      have hd : decide (q.nd.lo < a2) = true := decide_eq_true hah
      clear hah hq hc2
      go_wp2_with fail
      go_ret
      exact ⟨ret_int (by rw [HE2.out, HR.out]), hx.out.trans (by repeat first | exact xr _ | refine xa ?_ _ | refine xm ?_ _ _ | refine xd ?_ | refine xn ?_ _ | refine xs ?_ (by simp <;> omega) _)⟩
     ·have hd : decide (q.nd.lo < a2) = false := decide_eq_false hah
      obtain ⟨ok', m', ht'⟩ := trek_all (nds ps) ps.length q.nd.kids (n2 + 1) (by rw [nds_length]; omega)
      have CALL := zh (fun (V : World) (x : Ext wr V) => IH.out n2 m' ok' q V ((S.out.ext hx.out).ext x) (by omega) hq ht')
      have HBN := zh (endR_sub_bad (hi := p.nd.hi) (at' := a2) (nds_get hq) HT2.out ht')
      have HOK := zh (endR_sub_ok (hi := p.nd.hi) (at' := a2) (nds_get hq) (Int.not_lt.1 hah) HT2.out ht')
      have hm' := ht'.le.2 (by rw [nds_length]; omega)
      rw [nds_length] at hm'
      obtain ⟨r, hr⟩ : ∃ r, endR (nds ps) (n2 + 1) m' ok' q.nd.hi q.nd.lo q.nd.kids = r := ⟨_, rfl⟩
      rw [hr] at CALL HBN HOK
      clear hah hq hc2 ht' hr
      go_wp2_with fail
      refine (CALL.out _ (by repeat first | exact xr _ | refine xa ?_ _ | refine xm ?_ _ _ | refine xd ?_ | refine xn ?_ _ | refine xs ?_ (by simp <;> omega) _)).mono ?_
      rintro e w3 ⟨rfl, hx3⟩
      have HX3 : Hid (Ext w w3) := zh (hx.out.trans (Ext.trans (by repeat first | exact xr _ | refine xa ?_ _ | refine xm ?_ _ _ | refine xd ?_ | refine xn ?_ _ | refine xs ?_ (by simp <;> omega) _) hx3))
      clear hx3
      by_cases hneg : r < 0
      ·have hrd : decide (r < 0) = true := decide_eq_true hneg
       have HR := zh (HBN.out (by omega))
       clear hneg
       go_wp2_with fail
       go_ret
       exact ⟨ret_int (by rw [HE2.out, HR.out]), HX3.out⟩
      ·have hrd : decide (r < 0) = false := decide_eq_false hneg
       obtain ⟨h1, h2, h3, h4⟩ := HOK.out (by omega)
       clear hneg
       subst h1
       have HR := zh (show Trek (nds ps) (p.nd.kids.drop (k + 1)) m' ok m ∧ endR (nds ps) (i + 1) m ok p.nd.hi p.nd.lo p.nd.kids = endR (nds ps) m' m ok p.nd.hi q.nd.hi (p.nd.kids.drop (k + 1)) from ⟨h3, HE2.out.trans h4⟩)
       clear h3 h4
       go_wp2_with fail
       go_roundw
       case rel => exact ⟨k + 1, m', q.nd.hi, by omega, by go_num, rfl, rfl, by omega, hm', HR, HX3⟩
       case measure => simp [intOf]; omega
   ·obtain rfl : k = p.nd.kids.length := by omega
    have hH' := hH.out
    rw [List.drop_eq_nil_of_le (Nat.le_refl _)] at hH'
    have HR := zh (hH'.2.trans (endR_nil hH'.1))
    clear hH' hH
    by_cases ha : a2 ≤ p.nd.hi
    ·have hd : decide (p.nd.hi < a2) = false := decide_eq_false (by omega)
     have HR2 := zh (HR.out.trans (if_pos ha))
     clear ha
     go_wp2_with fail
     go_ret
     exact ⟨ret_int (by rw [HR2.out]), hx.out.trans (by repeat first | exact xr _ | refine xa ?_ _ | refine xm ?_ _ _ | refine xd ?_ | refine xn ?_ _ | refine xs ?_ (by simp <;> omega) _)⟩
    ·have hd : decide (p.nd.hi < a2) = true := decide_eq_true (by omega)
     have HR2 := zh (HR.out.trans (if_neg ha))
     clear ha
     go_wp2_with fail
     go_ret
     exact ⟨ret_int (by rw [HR2.out]), hx.out.trans (by repeat first | exact xr _ | refine xa ?_ _ | refine xm ?_ _ _ | refine xd ?_ | refine xn ?_ _ | refine xs ?_ (by simp <;> omega) _)⟩
section
variable {A : Option Addr} {c : Nat} {ps : List Prt} {w : World}
set_option maxRecDepth 100000 in
set_option maxHeartbeats 1500000 in
theorem rcheck_any (h : PS w A c ps) : Calls Tryz.prog 13 #[.slice A ps.length c] w fun e w' => e = .returned (.int .i64 (checkF (nds ps))) ∧ Ext w w' := by
 have hl := h.few.len
 have S := zh h
 have HC := zh (checkF_few hl)
 have hd0 : decide ((524288 : Int) < (ps.length : Int)) = false := decide_eq_false (by omega)
 clear h
 go_enter Tryz.func13, Tryz.ntmps13
 go_wp2_with fail
 go_loopw [3] (fun v wr => ∃ j : Nat, j ≤ ps.length ∧ v = .int .i64 j ∧ Hid (∀ i p, i < j → ps[i]? = some p → Bare p.nd ∧ (0 < i → p.nd.kind ≠ 1)) ∧ Hid (Ext w wr)) (fun v _ => ps.length - (intOf v).toNat)
 case atStart => exact ⟨0, Nat.zero_le _, rfl, zh (fun i p hi => by omega), zh (Ext.refl _)⟩
 case round =>
  obtain ⟨j, hj, rfl, hB, hx⟩ := hrel
  by_cases hlt : j < ps.length
  ·obtain ⟨p, hp⟩ : ∃ p, ps[j]? = some p := ⟨_, List.getElem?_eq_getElem hlt⟩
   obtain ⟨b, off, rfl, hb, hcell⟩ := (S.out.ext hx.out).parts (by omega)
   obtain ⟨d0, d1, d2, d3, d4, d5, d6, d7⟩ := hcell j p hp
   have hcap := S.out.cap
   have NT : Hid (¬ (Bare p.nd ∧ (0 < j → p.nd.kind ≠ 1)) → ¬ Tree (nds ps)) := zh fun hn T => hn (T.bare j p.nd (nds_get hp))
   have NX : Hid (Bare p.nd ∧ (0 < j → p.nd.kind ≠ 1) → ∀ i q, i < j + 1 → ps[i]? = some q → Bare q.nd ∧ (0 < i → q.nd.kind ≠ 1)) := zh fun hok i q hi hq => by
    rcases (show i < j ∨ i = j by omega) with h | rfl
    ·exact hB.out i q h hq
    ·rw [hp] at hq
     injection hq with hq
     subst hq
     exact hok
   have D1 := zh (fun (V : World) (x : Ext wr V) => (⟨(x.below.cell (p := ⟨b, off + j * 8 + 1, none⟩) hb).trans d1, Nat.lt_of_lt_of_le hb x.size⟩ : V.cell? ⟨b, off + j * 8 + 1, none⟩ = some (.int .i64 p.nd.kind) ∧ b < V.heap.size))
   clear hcell hp
   go_wp2_with fail
   refine (bareR_any p wr).mono ?_
   rintro e w2 ⟨rfl, hx2⟩
   obtain ⟨k1, k2⟩ := D1.out w2 hx2
   have HX2 := zh (hx.out.trans hx2)
   clear hx2 d0 d1 d2 d3 d4 d5 d6 d7
   by_cases hBr : Bare p.nd
   ·have hbd : decide (Bare p.nd) = true := decide_eq_true hBr
    by_cases h0 : j = 0
    ·have h0d : decide (0 < j) = false := decide_eq_false (by omega)
     have N2 := zh (NX.out ⟨hBr, fun h => by omega⟩)
     clear hBr h0
     go_wp2_with fail
     go_roundw
     case rel => exact ⟨j + 1, by omega, by go_num, N2, HX2⟩
     case measure => simp [intOf]; omega
    ·have h0d : decide (0 < j) = true := decide_eq_true (by omega)
     by_cases hk : p.nd.kind = 1
     ·have hk1 : (p.nd.kind == 1) = true := by simp [hk]
      have N2 := zh (NT.out (fun h => h.2 (by omega) hk))
      clear hBr h0 hk
      go_wp2_with fail
      go_ret
      exact ⟨ret_int (by rw [HC.out.2 N2.out]), HX2.out⟩
     ·have hk1 : (p.nd.kind == 1) = false := by simp [hk]
      have N2 := zh (NX.out ⟨hBr, fun _ => hk⟩)
      clear hBr h0 hk
      go_wp2_with fail
      go_roundw
      case rel => exact ⟨j + 1, by omega, by go_num, N2, HX2⟩
      case measure => simp [intOf]; omega
   ·have hbd : decide (Bare p.nd) = false := decide_eq_false hBr
    have N2 := zh (NT.out (fun h => hBr h.1))
    clear hBr
    go_wp2_with fail
    go_ret
    exact ⟨ret_int (by rw [HC.out.2 N2.out]), HX2.out⟩
  ·obtain rfl : j = ps.length := by omega
   by_cases h0 : ps.length = 0
   ·have hz : ((ps.length : Int) == 0) = true := by simp [h0]
    have N2 : Hid (¬ Tree (nds ps)) := zh fun T => by have := T.pos; rw [nds_length] at this; omega
    clear h0
    go_wp2_with fail
    go_ret
    exact ⟨ret_int (by rw [HC.out.2 N2.out]), hx.out⟩
   ·have hz : ((ps.length : Int) == 0) = false := by rw [beq_eq_false_iff_ne]; omega
    obtain ⟨p, hp⟩ : ∃ p, ps[0]? = some p := ⟨_, List.getElem?_eq_getElem (by omega)⟩
    obtain ⟨ok, m, ht⟩ := trek_all (nds ps) ps.length p.nd.kids 1 (by rw [nds_length]; omega)
    have CE := zh (rend_any A c ps ps.length 0 m ok p wr (S.out.ext hx.out) (by omega) hp ht)
    have HTI : Hid (Tree (nds ps) ↔ endR (nds ps) 1 m ok p.nd.hi p.nd.lo p.nd.kids = (ps.length : Int)) := zh (by
     rw [tree_iff (nds_get hp) ht, nds_length]
     refine ⟨fun h => h.2, fun h => ⟨fun i q hq => ?_, h⟩⟩
     obtain ⟨q', hq', rfl⟩ := nds_get' hq
     exact hB.out i q' (lt_of_get hq') hq')
    obtain ⟨r, hr⟩ : ∃ r, endR (nds ps) 1 m ok p.nd.hi p.nd.lo p.nd.kids = r := ⟨_, rfl⟩
    rw [Nat.zero_add, hr] at CE
    rw [hr] at HTI
    clear hp ht hr h0
    go_wp2_with fail
    refine CE.out.mono ?_
    rintro e w3 ⟨rfl, hx3⟩
    have HX3 := zh (hx.out.trans hx3)
    clear hx3
    by_cases hrn : r = (ps.length : Int)
    ·have hb : (r != (ps.length : Int)) = false := by simp [hrn]
     have T := zh (HTI.out.2 hrn)
     clear hrn
     go_wp2_with fail
     go_ret
     exact ⟨ret_int (by rw [HC.out.1 T.out]), HX3.out⟩
    ·have hb : (r != (ps.length : Int)) = true := by simpa using hrn
     have T := zh (fun h => hrn (HTI.out.1 h))
     clear hrn
     go_wp2_with fail
     go_ret
     exact ⟨ret_int (by rw [HC.out.2 T.out]), HX3.out⟩
theorem rcheck_ok (h : PS w A c ps) (T : Tree (nds ps)) : Calls Tryz.prog 13 #[.slice A ps.length c] w fun e w' => e = .returned (.int .i64 0) ∧ Ext w w' :=
 (rcheck_any h).mono fun _ _ ⟨he, hx⟩ => ⟨by rw [he, (checkF_few h.few.len).1 T], hx⟩
theorem rcheck_no (h : PS w A c ps) (T : ¬ Tree (nds ps)) : Calls Tryz.prog 13 #[.slice A ps.length c] w fun e w' => e = .returned (.int .i64 2) ∧ Ext w w' :=
 (rcheck_any h).mono fun _ _ ⟨he, hx⟩ => ⟨by rw [he, (checkF_few h.few.len).2 T], hx⟩
end
end Go.Proofs.YthpmncdfaggkiaaGreat
namespace Go.Proofs.YthpmncdfaggkiaaGreat
open Go.RowKit
theorem ext_blk {w w' : World} {b : Nat} {o : Obj} (h : w.heap[b]? = some o) (e : Ext w w') : w'.heap[b]? = some o := (e.below.block _ (lt_of_heap h)).trans h
variable {P : Program}
end Go.Proofs.YthpmncdfaggkiaaGreat
namespace Go.Proofs.YthpmncdfaggkiaaGreat
open Go.RowKit
attribute [local go_sem] more_drew more_drewN more_size more_cell more_frozen more_setCell drew_more drewN_more lt_add_r lt_add_r2 lt_add_r3 lt_add_r4 lt_add_r5 lt_add_r6 lt_add_r7 lt_add_r8 lt_add_r9 lt_add_r10 lt_self_r lt_self_r2
def leavesF : Nat → List Nd → List Int
 | _, [] => []
 | k, p :: l => if LeafK p.kind then (k : Int) :: leavesF (k + 1) l else leavesF (k + 1) l
theorem leavesF_len : ∀ (l : List Nd) (k : Nat), (leavesF k l).length ≤ l.length
 | [], _ => Nat.le_refl _
 | p :: l, k => by
  unfold leavesF
  have := leavesF_len l (k + 1)
  split <;> simp only [List.length_cons] <;> omega
theorem leavesF_mem : ∀ (l : List Nd) (k : Nat) (i : Nat), (i : Int) ∈ leavesF k l ↔ ∃ p, k ≤ i ∧ l[i - k]? = some p ∧ LeafK p.kind
 | [], k, i => by simp [leavesF]
 | p :: l, k, i => by
  have ih := leavesF_mem l (k + 1) i
  have key : (∃ q, k ≤ i ∧ (p :: l)[i - k]? = some q ∧ LeafK q.kind) ↔ (i = k ∧ LeafK p.kind) ∨ ∃ q, k + 1 ≤ i ∧ l[i - (k + 1)]? = some q ∧ LeafK q.kind := by
   constructor
   ·rintro ⟨q, h1, h2, h3⟩
    rcases Nat.eq_or_lt_of_le h1 with rfl | hlt
    ·rw [Nat.sub_self] at h2
     simp at h2
     subst h2
     exact .inl ⟨rfl, h3⟩
    ·rw [show i - k = (i - (k + 1)) + 1 by omega, List.getElem?_cons_succ] at h2
     exact .inr ⟨q, hlt, h2, h3⟩
   ·rintro (⟨rfl, h⟩ | ⟨q, h1, h2, h3⟩)
    ·exact ⟨p, Nat.le_refl _, by simp, h⟩
    ·refine ⟨q, by omega, ?_, h3⟩
     rw [show i - k = (i - (k + 1)) + 1 by omega, List.getElem?_cons_succ]
     exact h2
  rw [key]
  unfold leavesF
  split
  ·rename_i hk
   rw [List.mem_cons, ih]
   constructor
   ·rintro (h | h)
    ·exact .inl ⟨by omega, hk⟩
    ·exact .inr h
   ·rintro (⟨rfl, _⟩ | h)
    ·exact .inl rfl
    ·exact .inr h
  ·rename_i hk
   rw [ih]
   constructor
   ·exact .inr
   ·rintro (⟨rfl, h⟩ | h)
    ·exact absurd h hk
    ·exact h
section
variable {A : Option Addr} {c : Nat} {ps : List Prt} {w : World}
set_option maxRecDepth 100000 in
set_option maxHeartbeats 1000000 in
theorem Leaves_yes (h : PS w A c ps) (T : Tree (nds ps)) : Calls Tryz.prog 137 #[.slice A ps.length c] w (IntsRet w (leavesF 0 (nds ps))) := by
 have CH := zh (check_ok h T)
 have HS := zh h
 have hl := h.few.len
 clear h T
 go_enter Tryz.func137, Tryz.ntmps137
 go_wp2_with fail
 refine CH.out.mono ?_
 rintro e w3 ⟨rfl, hx3⟩
 have HX3 := zh hx3
 clear hx3
 go_wp2_with fail
 go_loopw [3, 11] (fun v i wr => ∃ (j : Nat) (xs : List Int), j ≤ ps.length ∧ i = .int .i64 j ∧ Hid (RowI wr w.heap.size v xs) ∧ Hid (xs.length ≤ j ∧ leavesF 0 (nds ps) = xs ++ leavesF j ((nds ps).drop j)) ∧ Hid (Ext w wr)) (fun _ i _ => ps.length - (intOf i).toNat)
 case atStart => exact ⟨0, [], Nat.zero_le _, rfl, zh ⟨none, 0, rfl, OwnI.nil _ _⟩, zh ⟨Nat.le_refl _, rfl⟩, HX3⟩
 case round =>
  obtain ⟨j, xs, hj, rfl, hr, he, hx⟩ := hrel
  by_cases hlt : j < ps.length
  ·obtain ⟨⟨q, kA, kcap⟩, hq⟩ : ∃ q, ps[j]? = some q := ⟨_, List.getElem?_eq_getElem hlt⟩
   obtain ⟨b, off, rfl, hb, hcell⟩ := (HS.out.ext hx.out).parts (by omega)
   obtain ⟨d0, d1, d2, d3, d4, d5, d6, d7⟩ := hcell j _ hq
   dsimp only at d0 d1 d2 d3 d4 d5 d6 d7
   have HE : Hid (leavesF j ((nds ps).drop j) = if LeafK q.kind then (j : Int) :: leavesF (j + 1) ((nds ps).drop (j + 1)) else leavesF (j + 1) ((nds ps).drop (j + 1))) := by
    rw [List.drop_eq_getElem_cons (by rw [nds_length]; exact hlt)]
    have := nds_get hq
    rw [List.getElem?_eq_getElem (by rw [nds_length]; exact hlt)] at this
    injection this with this
    rw [this]
    exact zh rfl
   have HL : Hid (xs.length ≤ 1000000) := zh (by have := he.out.1; omega)
   clear hcell hq
   by_cases hk : LeafK q.kind
   ·have hk1 : decide (LeafK q.kind) = true := decide_eq_true hk
    have HE' : Hid (leavesF j ((nds ps).drop j) = (j : Int) :: leavesF (j + 1) ((nds ps).drop (j + 1))) := zh (HE.out.trans (if_pos hk))
    clear hk HE
    go_wp2_with (first
     | (go_at_call 169; refine (leaf_any _ _).mono ?_; rintro e w' ⟨rfl, rfl⟩)
     | (at_builtin; refine app_int w (by rfl) (.tmp 19) (.tmp 21) rfl (hr.out.ext (by repeat first | exact xr _ | refine xa ?_ _ | refine xm ?_ _ _ | refine xd ?_ | refine xn ?_ _ | refine xs ?_ (by simp <;> omega) _)) j (wr.heap.size + 1) rfl rfl (by simp) (by simp [go_sem]) HL.out (hx.out.trans (by repeat first | exact xr _ | refine xa ?_ _ | refine xm ?_ _ _ | refine xd ?_ | refine xn ?_ _ | refine xs ?_ (by simp <;> omega) _)) ?_; intro v7 w7 hr7 hg7 hx7))
    have HR7 := zh hr7
    have HX7 := zh hx7
    clear hr7 hx7 hg7
    go_roundw
    case rel => exact ⟨j + 1, xs ++ [(j : Int)], by omega, by go_num, HR7, zh ⟨by have := he.out.1; simp; omega, by rw [he.out.2, HE'.out]; simp⟩, HX7⟩
    case measure => simp [intOf]; omega
   ·have hk1 : decide (LeafK q.kind) = false := decide_eq_false hk
    have HE' : Hid (leavesF j ((nds ps).drop j) = leavesF (j + 1) ((nds ps).drop (j + 1))) := zh (HE.out.trans (if_neg hk))
    clear hk HE
    go_wp2_with (go_at_call 169; refine (leaf_any _ _).mono ?_; rintro e w' ⟨rfl, rfl⟩)
    go_roundw
    case rel => exact ⟨j + 1, xs, by omega, by go_num, zh (hr.out.ext (by repeat first | exact xr _ | refine xa ?_ _ | refine xm ?_ _ _ | refine xd ?_ | refine xn ?_ _ | refine xs ?_ (by simp <;> omega) _)), zh ⟨by have := he.out.1; omega, by rw [he.out.2, HE'.out]⟩, zh (hx.out.trans (by repeat first | exact xr _ | refine xa ?_ _ | refine xm ?_ _ _ | refine xd ?_ | refine xn ?_ _ | refine xs ?_ (by simp <;> omega) _))⟩
    case measure => simp [intOf]; omega
  ·obtain rfl : j = ps.length := by omega
   obtain ⟨A1, c1, rfl, ho⟩ := hr.out
   have HO := zh ho
   have HEE : Hid (leavesF 0 (nds ps) = xs) := zh (by rw [he.out.2, List.drop_eq_nil_of_le (by rw [nds_length]; omega)]; simp [leavesF])
   clear ho
   go_wp2_with fail
   go_ret
   rw [HEE.out]
   exact ⟨A1, c1, rfl, HO.out, hx.out⟩
end
def MadeI (w : World) (g : Nat) (us : List Int) : Prop := w.heap[g]? = some (.cells (iv us).toArray 3)
theorem made_cells (v : Value) (n : Nat) : madeCells #[v] n = (List.replicate n v).toArray := by
 apply Array.ext
 ·simp [madeCells]
 ·intro i h1 h2
  simp [madeCells, Nat.mod_one]
theorem MadeI.new (w : World) (n : Nat) : MadeI (w.alloc (.cells (madeCells #[.int .i64 0] n) 3)) w.heap.size (List.replicate n 0) := by
 unfold MadeI
 rw [heap_alloc_new, made_cells]
 unfold iv
 rw [List.map_replicate]
theorem MadeI.cell {w : World} {g : Nat} {us : List Int} (h : MadeI w g us) {k : Nat} (hk : k < us.length) : w.cell? ⟨g, k, none⟩ = some (.int .i64 (us.getD k 0)) ∧ w.frozen? ⟨g, k, none⟩ = false ∧ g < w.heap.size := by
 refine ⟨?_, by simp [World.frozen?, show w.heap[g]? = _ from h], lt_of_heap h⟩
 have := cell_of_row _ _ k _ _ _ h
 rw [this]
 simpa using iv_get hk
theorem MadeI.store {w : World} {g : Nat} {us : List Int} (h : MadeI w g us) (k : Nat) (x : Int) : MadeI (w.setCell ⟨g, k, none⟩ (.int .i64 x)) g (us.set k x) := by
 unfold MadeI at *
 simp [World.setCell, Array.getElem?_modify, h, iv, List.map_set]
theorem MadeI.ext {w w' : World} {g : Nat} {us : List Int} (h : MadeI w g us) (e : Ext w w') : MadeI w' g us := (e.below.block g (lt_of_heap h)).trans h
theorem MadeI.own {w : World} {g base : Nat} {us : List Int} (h : MadeI w g us) (hb : base ≤ g) (hl : us.length ≤ 1000000) : OwnI w base (some ⟨g, 0, none⟩) us.length us := by
 refine ⟨by rw [iv_length, Nat.mul_one], .inr ⟨g, us.length, (iv us).toArray, rfl, hb, h, Nat.le_refl _, by unfold maxLen; omega, by simp [iv_length], ?_⟩⟩
 rw [List.take_of_length_le (by simp [iv_length])]
structure ParUpto (l : List Nd) (us : List Int) (J K : Nat) : Prop where
 len : us.length = l.length
 root : us[0]? = some (-1)
 up : ∀ (i j : Nat) (p : Nd), l[j]? = some p → (j < J ∧ (i : Int) ∈ p.kids) ∨ (j = J ∧ (i : Int) ∈ p.kids.take K) → us[i]? = some (j : Int)
theorem ParUpto.first {l : List Nd} {us : List Int} (h : us.length = l.length) (h0 : us[0]? = some (-1)) : ParUpto l us 0 0 := ⟨h, h0, fun i j p _ hh => by
 rcases hh with ⟨h1, _⟩ | ⟨_, h2⟩
 ·omega
 ·simp at h2⟩
theorem ParUpto.kid {l : List Nd} (T : Tree l) {us : List Int} {J K : Nat} (h : ParUpto l us J K) {p : Nd} (hp : l[J]? = some p) {c : Nat} (hc : p.kids[K]? = some (c : Int)) : ParUpto l (us.set c (J : Int)) J (K + 1) := by
 have hcm : (c : Int) ∈ p.kids := List.mem_of_getElem? hc
 obtain ⟨c', e, h1, h2⟩ := T.kid_behind hp _ hcm
 obtain rfl : c = c' := by omega
 refine ⟨by rw [List.length_set]; exact h.len, by rw [List.getElem?_set_ne (by omega)]; exact h.root, fun i j q hq hh => ?_⟩
 by_cases hic : i = c
 ·subst hic
  have : j = J := T.up_one (i := i) ⟨q, hq, by rcases hh with ⟨_, h⟩ | ⟨_, h⟩; exact h; exact List.mem_of_mem_take h⟩ ⟨p, hp, hcm⟩
  subst this
  rw [List.getElem?_set_self (by rw [h.len]; exact h2)]
 ·rw [List.getElem?_set_ne (by omega)]
  refine h.up i j q hq ?_
  rcases hh with hh | ⟨rfl, hm⟩
  ·exact .inl hh
  ·refine .inr ⟨rfl, ?_⟩
   rw [hp] at hq
   cases hq
   rw [List.take_add_one, hc] at hm
   simp only [Option.toList_some, List.mem_append, List.mem_singleton] at hm
   rcases hm with hm | hm
   ·exact hm
   ·omega
theorem ParUpto.next {l : List Nd} {us : List Int} {J : Nat} {p : Nd} (hp : l[J]? = some p) (h : ParUpto l us J p.kids.length) : ParUpto l us (J + 1) 0 := by
 refine ⟨h.len, h.root, fun i j q hq hh => h.up i j q hq ?_⟩
 rcases hh with ⟨h1, h2⟩ | ⟨_, h2⟩
 ·rcases Nat.lt_or_ge j J with hj | hj
  ·exact .inl ⟨hj, h2⟩
  ·obtain rfl : j = J := by omega
   rw [hp] at hq
   cases hq
   exact .inr ⟨rfl, by rwa [List.take_length]⟩
 ·simp at h2
theorem ParUpto.done {l : List Nd} {us : List Int} (h : ParUpto l us l.length 0) : ParOk l us := ⟨h.len, h.root, fun i j ⟨p, hp, hk⟩ => h.up i j p hp (.inl ⟨lt_of_get hp, hk⟩)⟩
section
variable {A : Option Addr} {c : Nat} {ps : List Prt} {w : World}
def ParsRet (w : World) (l : List Nd) (e : Ending) (w' : World) : Prop := ∃ us, ParOk l us ∧ IntsRet w us e w'
set_option maxRecDepth 100000 in
set_option maxHeartbeats 1000000 in
theorem Parents_yes (h : PS w A c ps) (T : Tree (nds ps)) : Calls Tryz.prog 53 #[.slice A ps.length c] w (ParsRet w (nds ps)) := by
 have CH := zh (check_ok h T)
 have HS := zh h
 have hl := h.few.len
 have hl0 : 0 < ps.length := by have := T.pos; rwa [nds_length] at this
 have HT := zh T
 have hmk := run_make_row' (P := Tryz.prog) 31 3 (.int .i64 0) 8 Tryz.underlying31 infoInt rfl .i64 .i64 ps.length (by omega) (by omega)
 clear h T
 go_enter Tryz.func53, Tryz.ntmps53
 go_wp2_with fail
 refine CH.out.mono ?_
 rintro e w3 ⟨rfl, hx3⟩
 have HX3 := zh hx3
 clear hx3
 go_upto_region 4 with fail
 obtain ⟨W4, hW4⟩ : ∃ W4, w3.alloc (.cells (madeCells #[.int .i64 0] ps.length) 3) = W4 := ⟨_, rfl⟩
 have M4 : Hid (MadeI W4 w3.heap.size (List.replicate ps.length 0)) := hW4 ▸ MadeI.new _ _
 have X4 : Hid (Ext w W4) := hW4 ▸ HX3.out.alloc _
 have hg : w.heap.size ≤ w3.heap.size := HX3.out.size
 rw [hW4]
 generalize w3.heap.size = g at *
 obtain ⟨m1, m2, m3⟩ := M4.out.cell (k := 0) (by simp; omega)
 have M5 := zh (M4.out.store 0 (-1))
 have X5 := zh (X4.out.setCell (p := ⟨g, 0, none⟩) hg (.int .i64 (-1)))
 clear hW4 hmk
 go_wp2_with fail
 generalize hW5 : W4.setCell ⟨g, 0, none⟩ (.int .i64 (-1)) = W5 at *
 clear hW5 m1 m2 m3
 go_loopw [18] (fun i wr => ∃ (j : Nat) (us : List Int), j ≤ ps.length ∧ i = .int .i64 j ∧ Hid (MadeI wr g us) ∧ Hid (ParUpto (nds ps) us j 0) ∧ Hid (Ext w wr)) (fun i _ => ps.length - (intOf i).toNat)
 case atStart => exact ⟨0, _, Nat.zero_le _, rfl, M5, zh (ParUpto.first (by simp [nds_length]) (by rw [List.getElem?_set_self (by rw [List.length_replicate]; exact hl0)])), X5⟩
 case round =>
  obtain ⟨j, us, hj, rfl, hM, hU, hX⟩ := hrel
  by_cases hlt : j < ps.length
  ·obtain ⟨⟨q, kA, kcap⟩, hq⟩ : ∃ q, ps[j]? = some q := ⟨_, List.getElem?_eq_getElem hlt⟩
   obtain ⟨b, off, rfl, hb, hcell⟩ := (HS.out.ext hX.out).parts (by omega)
   obtain ⟨d0, d1, d2, d3, d4, d5, d6, d7⟩ := hcell j _ hq
   have ho := (HS.out.oks.get hq)
   have o1 : q.kids.length ≤ kcap := ho.cap
   have o2 : kcap ≤ 9223372036854775807 := ho.top
   dsimp only at d0 d1 d2 d3 d4 d5 d6 d7
   have HOQ := zh ho
   have HQ := zh (nds_get hq)
   clear hcell hq ho
   go_wp2_with fail
   have M6 := zh (hM.out.ext (w' := wr.alloc (.cells #[.int .i64 q.sym, .int .i64 q.kind, .int .i64 q.lo, .int .i64 q.inn, .int .i64 q.hi, .int .i64 q.look, .slice kA q.kids.length kcap, .int .u64 q.met] 34)) ((Ext.refl _).alloc _))
   have X6 := zh (hX.out.alloc (.cells #[.int .i64 q.sym, .int .i64 q.kind, .int .i64 q.lo, .int .i64 q.inn, .int .i64 q.hi, .int .i64 q.look, .slice kA q.kids.length kcap, .int .u64 q.met] 34))
   generalize wr.alloc (.cells #[.int .i64 q.sym, .int .i64 q.kind, .int .i64 q.lo, .int .i64 q.inn, .int .i64 q.hi, .int .i64 q.look, .slice kA q.kids.length kcap, .int .u64 q.met] 34) = W6 at *
   clear d0 d1 d2 d3 d4 d5 d6 d7 hM hX
   go_loopw [26] (fun i wr => ∃ (k : Nat) (us : List Int), k ≤ q.kids.length ∧ i = .int .i64 k ∧ Hid (MadeI wr g us) ∧ Hid (ParUpto (nds ps) us j k) ∧ Hid (Ext w wr)) (fun i _ => q.kids.length - (intOf i).toNat)
   case atStart => exact ⟨0, us, Nat.zero_le _, rfl, M6, hU, X6⟩
   case round =>
    obtain ⟨k, us, hk, rfl, hM, hU, hX⟩ := hrel
    by_cases hkl : k < q.kids.length
    ·obtain ⟨b2, off2, hkA, hb2, hc2⟩ := (HOQ.out.ext hX.out).kids (by show 0 < q.kids.length; omega)
     change kA = _ at hkA
     subst hkA
     have e1 := hc2 k hkl
     obtain ⟨i, hi1, hi2, hi3⟩ := HT.out.kid_behind HQ.out (q.kids.getD k 0) (by rw [List.getD_eq_getElem?_getD, List.getElem?_eq_getElem hkl]; exact List.getElem_mem hkl)
     dsimp only at e1
     rw [hi1] at e1
     rw [nds_length] at hi3
     have hlen := hU.out.len
     rw [nds_length] at hlen
     obtain ⟨m1, m2, m3⟩ := hM.out.cell (k := i) (by omega)
     have M7 := zh (hM.out.store i j)
     have X7 := zh (hX.out.setCell (p := ⟨g, i, none⟩) hg (.int .i64 (j : Int)))
     have U7 := zh (hU.out.kid HT.out HQ.out (c := i) (K := k) (by rw [← hi1, List.getD_eq_getElem?_getD, List.getElem?_eq_getElem hkl]; rfl))
     clear hc2 hi1 hM hU hX hlen
     go_wp2_with fail
     go_roundw
     case rel => exact ⟨k + 1, _, by omega, by go_num, M7, U7, X7⟩
     case measure => simp [intOf]; omega
    ·obtain rfl : k = q.kids.length := by omega
     go_wp2_with fail
     go_roundw
     case rel => exact ⟨j + 1, us, by omega, by go_num, hM, zh (ParUpto.next HQ.out hU.out), hX⟩
     case measure => simp [intOf]; omega
  ·obtain rfl : j = ps.length := by omega
   go_wp2_with fail
   go_ret
   have hlen := hU.out.len
   rw [nds_length] at hlen
   have e : (Value.slice (some ⟨g, 0, none⟩) ps.length ps.length) = .slice (some ⟨g, 0, none⟩) us.length us.length := by rw [hlen]
   exact ⟨us, ParUpto.done (by rw [nds_length]; exact hU.out), some ⟨g, 0, none⟩, us.length, by rw [← e]; rfl, hM.out.own hg (by omega), hX.out⟩
end
theorem OwnI.store {w : World} {base g c : Nat} {xs : List Int} (h : OwnI w base (some ⟨g, 0, none⟩) c xs) {k : Nat} (_ : k < xs.length) (x : Int) : OwnI (w.setCell ⟨g, k, none⟩ (.int .i64 x)) base (some ⟨g, 0, none⟩) c (xs.set k x) := by
 obtain ⟨h1, h2⟩ := h
 rcases h2 with ⟨h2, _⟩ | ⟨g', cap, cur, h2, h3, h4, h5, h6, h7, h8⟩
 ·cases h2
 ·injection h2 with a1 a2 a3
  injection a1 with a1
  injection a1 with a1
  subst a1 a3
  refine ⟨by rw [iv_length, List.length_set, Nat.mul_one], .inr ⟨g, c, cur.setIfInBounds k (.int .i64 x), by rw [List.length_set], h3, by simp [World.setCell, Array.getElem?_modify, h4], by rw [List.length_set]; exact h5, h6, by rw [Array.size_setIfInBounds]; exact h7, ?_⟩⟩
  unfold iv at h8 ⊢
  rw [List.map_set, List.length_set, Array.toList_setIfInBounds, List.take_set, h8]
theorem OwnI.cell {w : World} {base g c : Nat} {xs : List Int} (h : OwnI w base (some ⟨g, 0, none⟩) c xs) {k : Nat} (hk : k < xs.length) : w.cell? ⟨g, k, none⟩ = some (.int .i64 (xs.getD k 0)) ∧ w.frozen? ⟨g, k, none⟩ = false ∧ g < w.heap.size := by
 obtain ⟨hI, _⟩ := h.ints
 obtain ⟨b, off, hA, hb, hc⟩ := hI (by omega)
 injection hA with hA
 injection hA with hA hB
 subst hA hB
 have := hc k hk
 rw [Nat.zero_add] at this
 exact ⟨this, World.ownsRow.frozenAt h k, hb⟩
def RevTo (xs ys : List Int) (i : Nat) : Prop := ys.length = xs.length ∧ ∀ k, k < xs.length → ys.getD k 0 = if k < i ∨ xs.length ≤ k + i then xs.getD (xs.length - 1 - k) 0 else xs.getD k 0
theorem RevTo.first (xs : List Int) : RevTo xs xs 0 := ⟨rfl, fun k hk => by rw [if_neg (by omega)]⟩
theorem RevTo.swap {xs ys : List Int} {i j : Nat} (h : RevTo xs ys i) (hj : i + j + 1 = xs.length) (hij : i < j) : RevTo xs ((ys.set i (ys.getD j 0)).set j (ys.getD i 0)) (i + 1) := by
 refine ⟨by rw [List.length_set, List.length_set, h.1], fun k hk => ?_⟩
 have hl := h.1
 have hi := h.2 i (by omega)
 have hjj := h.2 j (by omega)
 rw [if_neg (by omega)] at hi hjj
 by_cases h1 : k = j
 ·subst h1
  rw [List.getD_eq_getElem?_getD, List.getElem?_set_self (by rw [List.length_set]; omega), if_pos (by omega), Option.getD_some, hi]
  congr 1
  omega
 ·by_cases h2 : k = i
  ·subst h2
   rw [List.getD_eq_getElem?_getD, List.getElem?_set_ne (by omega), List.getElem?_set_self (by omega), if_pos (by omega), Option.getD_some, hjj]
   congr 1
   omega
  ·have hkk := h.2 k hk
   rw [List.getD_eq_getElem?_getD, List.getElem?_set_ne (by omega), List.getElem?_set_ne (by omega), ← List.getD_eq_getElem?_getD, hkk]
   by_cases h3 : k < i ∨ xs.length ≤ k + i
   ·rw [if_pos h3, if_pos (by omega)]
   ·rw [if_neg h3, if_neg (by omega)]
theorem RevTo.done {xs ys : List Int} {i : Nat} (h : RevTo xs ys i) (hi : xs.length ≤ i + i + 1) : ys = xs.reverse := by
 apply List.ext_getElem?
 intro k
 rcases Nat.lt_or_ge k xs.length with hk | hk
 ·have hkk := h.2 k hk
  have e1 : ys[k]? = some (ys.getD k 0) := by
   rw [List.getD_eq_getElem?_getD, List.getElem?_eq_getElem (by rw [h.1]; exact hk)]
   rfl
  rw [e1, hkk, List.getElem?_reverse hk]
  have e2 : ∀ j, j < xs.length → some (xs.getD j 0) = xs[j]? := fun j hj => by
   rw [List.getD_eq_getElem?_getD, List.getElem?_eq_getElem hj]
   rfl
  by_cases h3 : k < i ∨ xs.length ≤ k + i
  ·rw [if_pos h3, e2 _ (by omega)]
  ·rw [if_neg h3, e2 _ hk]
   congr 1
   omega
 ·rw [List.getElem?_eq_none (by rw [h.1]; exact hk), List.getElem?_eq_none (by rw [List.length_reverse]; exact hk)]
def RevPost (w : World) (base : Nat) (A : Option Addr) (c : Nat) (xs : List Int) (e : Ending) (w' : World) : Prop := e = .returned (.tuple #[]) ∧ OwnI w' base A c xs.reverse ∧ Turn (fun b => base ≤ b) w w'
set_option maxRecDepth 100000 in
set_option maxHeartbeats 2000000 in
theorem reverse_any (A : Option Addr) (c base : Nat) (xs : List Int) (w : World) (h : OwnI w base A c xs) (hl : xs.length ≤ 1000000) (_ : base ≤ w.heap.size) : Calls Tryz.prog 126 #[.slice A xs.length c] w (RevPost w base A c xs) := by
 rcases Nat.eq_zero_or_pos xs.length with h0 | h0
 ·obtain rfl := List.eq_nil_of_length_eq_zero h0
  have HH := zh h
  clear h
  go_enter Tryz.func126, Tryz.ntmps126
  go_wp2
  refine wp_loop_rounds 1 ?_
  rw [rounds_succ]
  go_wp2
  go_end0
  exact ⟨rfl, HH.out, Turn.refl _⟩
 ·have hint := h.ints
  obtain ⟨g, off, rfl, hg, _⟩ := hint.1 h0
  have hoff : off = 0 ∧ base ≤ g := by
   rcases h.2 with ⟨h2, _⟩ | ⟨g', cap, cur, h2, h3, _⟩
   ·cases h2
   ·injection h2 with a1 a2 a3
    injection a1 with a1
    injection a1 with a1 a2
    subst a1 a2
    exact ⟨rfl, h3⟩
  obtain ⟨rfl, hbg⟩ := hoff
  have HH := zh h
  clear h hint
  go_enter Tryz.func126, Tryz.ntmps126
  go_wp2
  go_loopw [2, 3] (fun s t wr => ∃ (i : Nat) (ys : List Int), i < xs.length ∧ s = .int .i64 i ∧ t = .int .i64 ((xs.length : Int) - 1 - (i : Int)) ∧ Hid (RevTo xs ys i) ∧ Hid (OwnI wr base (some ⟨g, 0, none⟩) c ys) ∧ Hid (Turn (fun b => base ≤ b) w wr)) (fun s _ _ => xs.length - (intOf s).toNat)
  case atStart => exact ⟨0, xs, h0, rfl, by go_num, zh (RevTo.first xs), HH, zh (Turn.refl _)⟩
  case round =>
   obtain ⟨i, ys, hi, rfl, rfl, hR, hO, hT⟩ := hrel
   obtain ⟨j, hj⟩ : ∃ j : Nat, i + j + 1 = xs.length := ⟨xs.length - 1 - i, by omega⟩
   have ej : (xs.length : Int) - 1 - (i : Int) = (j : Int) := by omega
   rw [ej]
   by_cases hlt : i < j
   ·have hyl := hR.out.1
    obtain ⟨a1, a2, a3⟩ := hO.out.cell (k := i) (by omega)
    obtain ⟨b1, b2, b3⟩ := hO.out.cell (k := j) (by omega)
    have O1 := hO.out.store (k := i) (by omega) (ys.getD j 0)
    have O2 := O1.store (k := j) (by rw [List.length_set]; omega) (ys.getD i 0)
    have R2 := zh (hR.out.swap hj hlt)
    have T2 := zh ((hT.out.trans (Turn.setCell (S := fun b => base ≤ b) wr (p := ⟨g, i, none⟩) hbg (.int .i64 (ys.getD j 0)))).trans (Turn.setCell (S := fun b => base ≤ b) _ (p := ⟨g, j, none⟩) hbg (.int .i64 (ys.getD i 0))))
    obtain ⟨x, hx⟩ : ∃ x, ys.getD i 0 = x := ⟨_, rfl⟩
    obtain ⟨y, hy⟩ : ∃ y, ys.getD j 0 = y := ⟨_, rfl⟩
    rw [hx] at a1
    rw [hy] at b1
    rw [hx, hy] at O2 R2 T2
    have HO2 := zh O2
    have g1 : (i : Int) < (xs.length : Int) := by omega
    have g2 : (j : Int) < (xs.length : Int) := by omega
    clear hR hO hT O1 O2 hx hy hyl ej
    go_wp2_with fail
    go_region
    go_wp2_with fail
    refine ⟨⟨i + 1, _, by omega, by go_num, congrArg (Value.int IntKind.i64) (by omega), R2, zh (HO2.out.ext ((Ext.refl _).drew)), zh (T2.out.trans (Turn.of_ext ((Ext.refl _).drew)))⟩, by simp only [intOf]; omega⟩
   ·have hR2 := zh (hR.out.done (by omega))
    clear hR ej
    go_wp2_with fail
    go_end0
    refine ⟨rfl, ?_, hT.out⟩
    rw [← hR2.out]
    exact hO.out
section
variable {A : Option Addr} {c : Nat} {ps : List Prt} {w : World}
set_option maxRecDepth 100000 in
set_option maxHeartbeats 1000000 in
theorem Path_yes (i : Nat) (ws : List Int) (h : PS w A c ps) (T : Tree (nds ps)) (hw : Way (nds ps) i ws) (hi : i < ps.length) : Calls Tryz.prog 73 #[.slice A ps.length c, .int .i64 i] w (IntsRet w ws) := by
 have CH := zh (is_true i h ⟨T, by omega, by rw [nds_length]; omega⟩)
 have HS := zh h
 have HT := zh T
 have HW := zh hw
 have hl := h.few.len
 have hwl : ws.length ≤ 1001 := by have := hw.length T; omega
 clear h T hw
 go_enter Tryz.func73, Tryz.ntmps73
 go_wp2_with fail
 refine CH.out.mono ?_
 rintro e w2 ⟨rfl, hx2⟩
 have HX := zh hx2
 clear hx2
 go_wp2_with fail
 refine (Parents_yes (HS.out.ext HX.out) HT.out).mono ?_
 rintro e w3 ⟨us, hus, Au, cu, rfl, hou, hx3⟩
 have HX3 := zh (HX.out.trans hx3)
 have HU := zh hou
 have HUS := zh hus
 have hul : us.length = ps.length := by rw [hus.1, nds_length]
 have hu1 := hou.ints.2.1
 have hu2 := hou.ints.2.2.1
 unfold maxLen at hu2
 clear hx3 hou hus
 go_wp2_with fail
 go_loopw [1, 5] (fun s v wr => ∃ (xs : List Int), xs.length ≤ ws.length ∧ Hid (RowI wr w3.heap.size v xs) ∧ Hid (Ext w3 wr) ∧
  ((∃ (j : Nat) (vs : List Int), s = .int .i64 j ∧ j < ps.length ∧ Hid (Way (nds ps) j vs ∧ ws = vs ++ xs.reverse)) ∨ (s = .int .i64 (-1) ∧ Hid (ws = xs.reverse)))) (fun s _ _ => (intOf s + 1).toNat)
 case atStart => exact ⟨[], Nat.zero_le _, zh ⟨none, 0, rfl, OwnI.nil _ _⟩, zh (Ext.refl _), .inl ⟨i, ws, rfl, hi, zh ⟨HW.out, by simp⟩⟩⟩
 case round =>
  obtain ⟨xs, hxl, hr, hx, (⟨j, vs, rfl, hj, hv⟩ | ⟨rfl, hv⟩)⟩ := hrel
  ·obtain ⟨⟨q, kA, kcap⟩, hq⟩ : ∃ q, ps[j]? = some q := ⟨_, List.getElem?_eq_getElem hj⟩
   obtain ⟨b, off, rfl, hb, hcell⟩ := (HS.out.ext (HX3.out.trans hx.out)).parts (by omega)
   obtain ⟨d0, _, _, _, _, _, _, _⟩ := hcell j _ hq
   dsimp only at d0
   have HQ := zh hq
   clear hcell hq
   obtain ⟨b2, off2, rfl, hb2, hc2⟩ := HU.out.ints.1 (by omega)
   have e1 := hc2 j (by omega)
   clear hc2
   have hj2 : j < us.length := by omega
   have HL : Hid (xs.length ≤ 1000000) := zh (by omega)
   have HXX := zh (HX3.out.trans hx.out)
   obtain ⟨hway, hws⟩ := hv.out
   obtain ⟨s', hs'⟩ : ∃ s', us.getD j 0 = s' := ⟨_, rfl⟩
   have hus' : us[j]? = some s' := by rw [← hs', List.getD_eq_getElem?_getD, List.getElem?_eq_getElem hj2]; rfl
   rw [hs'] at e1
   have NEXT : Hid (xs.length + 1 ≤ ws.length ∧ ((∃ (j' : Nat) (vs' : List Int), s' = (j' : Int) ∧ j' < j ∧ Way (nds ps) j' vs' ∧ ws = vs' ++ (xs ++ [q.sym]).reverse) ∨ (s' = -1 ∧ ws = (xs ++ [q.sym]).reverse))) := by
    cases hway with
    | root p hp =>
     rw [nds_get HQ.out] at hp
     cases hp
     rw [HUS.out.2.1] at hus'
     cases hus'
     refine ⟨by rw [hws]; simp, .inr ⟨rfl, ?_⟩⟩
     rw [hws, List.reverse_append]
     rfl
    | step _ j' p vs' hu hp hw' =>
     rw [nds_get HQ.out] at hp
     cases hp
     rw [HUS.out.2.2 j j' hu] at hus'
     cases hus'
     refine ⟨by rw [hws]; simp, .inl ⟨j', vs', rfl, (HT.out.up_lt hu).1, hw', ?_⟩⟩
     rw [hws, List.reverse_append, List.append_assoc]
     rfl
   clear hway hws hv hs' hus'
   go_wp2_with (at_builtin; refine app_int w3 (by rfl) (.tmp 19) (.tmp 25) rfl (hr.out.ext (by repeat first | exact xr _ | refine xa ?_ _ | refine xm ?_ _ _ | refine xd ?_ | refine xn ?_ _ | refine xs ?_ (by simp <;> omega) _)) q.sym wr.heap.size rfl rfl (by simp) (by simp [go_sem]) HL.out (hx.out.trans (by repeat first | exact xr _ | refine xa ?_ _ | refine xm ?_ _ _ | refine xd ?_ | refine xn ?_ _ | refine xs ?_ (by simp <;> omega) _)) ?_; intro v7 w7 hr7 hg7 hx7; have e7 := (hx7.below.cell (p := ⟨b2, off2 + j, none⟩) hb2).trans e1)
   have HR7 := zh hr7
   have HX7 := zh hx7
   clear hr7 hg7 hx7 e7
   go_roundw
   case rel =>
    obtain ⟨hn1, hn2⟩ := NEXT.out
    refine ⟨xs ++ [q.sym], by simp; omega, HR7, HX7, ?_⟩
    rcases hn2 with ⟨j', vs', rfl, hjj, h1, h2⟩ | ⟨rfl, h2⟩
    ·exact .inl ⟨j', vs', rfl, by omega, zh ⟨h1, h2⟩⟩
    ·exact .inr ⟨rfl, zh h2⟩
   case measure =>
    obtain ⟨hn1, hn2⟩ := NEXT.out
    rcases hn2 with ⟨j', vs', rfl, hjj, h1, h2⟩ | ⟨rfl, h2⟩ <;> simp only [intOf] <;> omega
  ·obtain ⟨A1, c1, rfl, ho⟩ := hr.out
   have HO := zh ho
   have HV := zh hv.out
   clear ho
   go_wp2_with fail
   refine (reverse_any A1 c1 w3.heap.size xs wr HO.out (by omega) hx.out.size).mono ?_
   rintro e w8 ⟨rfl, ho8, t8⟩
   have HO8 := zh ho8
   have HX8 := zh (HX3.out.trans (Ext.of_below (hx.out.below.trans (t8.below hx.out.size fun k hk => hk))))
   clear ho8 t8
   go_wp2_with fail
   go_ret
   have hlx : xs.length = ws.length := by rw [HV.out, List.length_reverse]
   refine ⟨A1, c1, by show Ending.returned (Value.slice A1 xs.length c1) = _; rw [hlx], ?_, HX8.out⟩
   rw [HV.out]
   exact HO8.out.base HX3.out.size
end
def Lt20 (x : Int) : Prop := -1048576 ≤ x ∧ x ≤ 1048576
structure LightP (most : Nat) (ps : List Prt) : Prop where
 len : ps.length ≤ most
 kids : kc (nds ps) 0 ps.length ≤ 2 * most
 places : ∀ p ∈ ps, Lt20 p.nd.lo ∧ Lt20 p.nd.hi ∧ Lt20 p.nd.look
theorem kc_all (l : List Nd) (j : Nat) : kc l 0 j ≤ kc l 0 l.length := by
 rcases Nat.le_total j l.length with h | h
 ·rw [kc_add l (Nat.zero_le j) h]
  omega
 ·unfold kc
  rw [List.take_of_length_le h, List.take_of_length_le (Nat.le_refl _)]
  exact Nat.le_refl _
theorem LightP.few {most : Nat} {ps : List Prt} (h : LightP most ps) (hm : most ≤ 1000) : Few ps :=
 ⟨by have := h.len; omega, fun j => by have := kc_all (nds ps) j; rw [nds_length] at this; have := h.kids; omega⟩
def KidsLt (ps : List Prt) : Prop := ∀ p ∈ ps, p.nd.kids.length ≤ 140737488355328
def LightRet (most : Nat) (ps : List Prt) (w : World) (e : Ending) (w' : World) : Prop := ∃ b : Bool, e = .returned (.bool b) ∧ (b = true → LightP most ps) ∧ Ext w w'
set_option maxRecDepth 100000 in
set_option maxHeartbeats 2000000 in
theorem lightParts_any (most : Nat) (A : Option Addr) (c : Nat) (ps : List Prt) (w : World) (hm : most ≤ 1000) (hP : Prts w A ps) (hl : ps.length ≤ 9223372036854775807) (hk : KidsLt ps) :
 Calls Tryz.prog 48 #[.slice A ps.length c, .int .i64 most] w (LightRet most ps w) := by
 have HP := zh hP
 have HK := zh hk
 clear hP hk
 go_enter Tryz.func48, Tryz.ntmps48
 go_wp2_with fail
 go_loopw [5, 6] (fun s i wr => ∃ j n : Nat, j ≤ ps.length ∧ j ≤ most + 1 ∧ i = .int .i64 j ∧ s = .int .i64 n ∧ Hid (n = kc (nds ps) 0 j) ∧ n ≤ 140737488355328 * j ∧ Hid (∀ i p, i < j → ps[i]? = some p → Lt20 p.nd.lo ∧ Lt20 p.nd.hi ∧ Lt20 p.nd.look) ∧ Hid (Ext w wr)) (fun _ i _ => ps.length - (intOf i).toNat)
 case atStart => exact ⟨0, 0, Nat.zero_le _, Nat.zero_le _, rfl, rfl, zh (kc_self _ _).symm, by omega, zh fun i p h => by omega, zh (by repeat first | exact xr _ | refine xa ?_ _ | refine xm ?_ _ _ | refine xd ?_ | refine xn ?_ _ | refine xs ?_ (by simp <;> omega) _)⟩
 case round =>
  obtain ⟨j, n, hj, hjm, rfl, rfl, hn, hn2, hpl, hx⟩ := hrel
  by_cases hlt : j < ps.length
  ·by_cases hle : j ≤ most
   ·obtain ⟨p, hp⟩ : ∃ p, ps[j]? = some p := ⟨_, List.getElem?_eq_getElem hlt⟩
    obtain ⟨bA, off, rfl, hbA, hcell⟩ := (HP.out.ext hx.out) (by omega)
    obtain ⟨d0, d1, d2, d3, d4, d5, d6, d7⟩ := hcell j p hp
    have hkl := HK.out p (List.mem_of_getElem? hp)
    have HN : Hid (n + p.nd.kids.length = kc (nds ps) 0 (j + 1)) := by rw [kc_add _ (Nat.zero_le j) (show j ≤ j + 1 by omega), kc_one (nds_get hp), ← hn.out]; exact zh rfl
    have HPJ := zh hp
    clear hcell hp
    by_cases hg : (Lt20 p.nd.lo ∧ Lt20 p.nd.hi ∧ Lt20 p.nd.look)
    ·obtain ⟨⟨g1, g2⟩, ⟨g3, g4⟩, ⟨g5, g6⟩⟩ := hg
     go_wp2_with fail
     go_roundw
     case rel =>
      refine ⟨j + 1, n + p.nd.kids.length, by omega, by omega, by go_num, by go_num, HN, by omega, zh fun i q hi hq => ?_, zh (hx.out.trans (by repeat first | exact xr _ | refine xa ?_ _ | refine xm ?_ _ _ | refine xd ?_ | refine xn ?_ _ | refine xs ?_ (by simp <;> omega) _))⟩
      rcases (show i < j ∨ i = j by omega) with h | rfl
      ·exact hpl.out i q h hq
      ·rw [HPJ.out] at hq
       injection hq with hq
       subst hq
       exact ⟨⟨g1, g2⟩, ⟨g3, g4⟩, ⟨g5, g6⟩⟩
     case measure => simp [intOf]; omega
    ·have HG := zh hg
     clear hg
     go_wp2_with fail
     all_goals first
      | (go_ret; exact ⟨false, rfl, (fun h => (by cases h)), hx.out.trans (by repeat first | exact xr _ | refine xa ?_ _ | refine xm ?_ _ _ | refine xd ?_ | refine xn ?_ _ | refine xs ?_ (by simp <;> omega) _)⟩)
      | (exfalso; have := HG.out; unfold Lt20 at this; omega)
   ·obtain rfl : j = most + 1 := by omega
    have g1 : decide (most + 1 ≤ most) = false := by simp
    go_wp2_with fail
    all_goals first
     | (go_ret; exact ⟨false, rfl, (fun h => (by cases h)), hx.out⟩)
     | (exfalso; omega)
  ·obtain rfl : j = ps.length := by omega
   have g1 : decide (ps.length < ps.length) = false := by simp
   by_cases hle : ps.length ≤ most
   ·by_cases hks : n ≤ 2 * most
    ·have hL : LightP most ps := ⟨hle, by rw [← hn.out]; exact hks, fun p hp => by
      obtain ⟨i, hi, rfl⟩ := List.getElem_of_mem hp
      exact hpl.out i _ hi (List.getElem?_eq_getElem hi)⟩
     have HL := zh hL
     clear hL
     go_wp2_with fail
     go_ret
     exact ⟨_, rfl, fun _ => HL.out, hx.out⟩
    ·have hd : decide ((n : Int) ≤ 2 * (most : Int)) = false := decide_eq_false (by omega)
     go_wp2_with fail
     go_ret
     exact ⟨false, ret_bool (by first | rfl | exact hd | (simp; omega)), (fun h => (by cases h)), hx.out⟩
   ·have g2 : decide (ps.length ≤ most) = false := decide_eq_false hle
    go_wp2_with fail
    go_ret
    exact ⟨false, rfl, (fun h => (by cases h)), hx.out⟩
theorem pv_length (ps : List Prt) : (pv ps).length = ps.length * 8 := by
 induction ps with
 | nil => rfl
 | cons p ps ih => simp only [pv, List.flatMap_cons, List.length_append, List.length_cons] at *; rw [ih]; simp [prtCells]; omega
theorem pv_get : ∀ {ps : List Prt} {k : Nat} {p : Prt} (r : Nat), ps[k]? = some p → r < 8 → (pv ps)[k * 8 + r]? = (prtCells p)[r]?
 | [], k, p, r, h, _ => by simp at h
 | q :: ps, 0, p, r, h, hr => by
  simp at h
  subst h
  simp only [pv, List.flatMap_cons, Nat.zero_mul, Nat.zero_add]
  rw [List.getElem?_append_left (by simp [prtCells]; omega)]
 | q :: ps, k + 1, p, r, h, hr => by
  simp only [pv, List.flatMap_cons]
  rw [List.getElem?_append_right (by simp [prtCells]; omega)]
  have := pv_get (ps := ps) (k := k) r (by simpa using h) hr
  rw [← this]
  congr 1
  simp [prtCells]
  omega
theorem Prts.of_cells {w : World} {A : Option Addr} {ps : List Prt} (h : CellsAt w A (pv ps)) : Prts w A ps := fun h0 => by
 obtain ⟨b, off, hA, hb, hc⟩ := h (by rw [pv_length]; omega)
 refine ⟨b, off, hA, hb, fun k p hk => ?_⟩
 have key : ∀ r v, r < 8 → (prtCells p)[r]? = some v → w.cell? ⟨b, off + k * 8 + r, none⟩ = some v := fun r v hr hv => by
  rw [Nat.add_assoc]
  exact hc _ _ ((pv_get r hk hr).trans hv)
 exact ⟨by have := key 0 _ (by omega) rfl; simpa using this, key 1 _ (by omega) rfl, key 2 _ (by omega) rfl, key 3 _ (by omega) rfl, key 4 _ (by omega) rfl, key 5 _ (by omega) rfl, key 6 _ (by omega) rfl, key 7 _ (by omega) rfl⟩

theorem own_base' {w : World} {base base' : Nat} {e : TypeId} {size : Nat} {v : Value} {n : Nat} {xs : List Value} (h : w.ownsRow base e size v n xs) (hb : base' ≤ base) : w.ownsRow base' e size v n xs :=
 ⟨h.1, h.2.imp id fun ⟨g, cap, cur, h1, h2, h3⟩ => ⟨g, cap, cur, h1, Nat.le_trans hb h2, h3⟩⟩
theorem OwnI.turn {w w' : World} {base : Nat} {A : Option Addr} {c : Nat} {xs : List Int} {S : Nat → Prop} (h : OwnI w base A c xs) (t : Turn S w w') (hS : ∀ k, base ≤ k → ¬ S k) : OwnI w' base A c xs :=
 own_keep h fun g hg => t.block g (own_old h g hg) (hS g (own_block h g hg))
set_option maxHeartbeats 1000000 in
theorem equalInts (A B : Option Addr) (xs ys : List Int) (c d : Nat) (w : World) (hx : Ints w A xs) (hy : Ints w B ys) (bx : xs.length ≤ 9223372036854775807) (by_ : ys.length ≤ 9223372036854775807) :
 Calls Tryz.prog 119 #[.slice A xs.length c, .slice B ys.length d] w fun e w' => e = .returned (.bool (decide (xs = ys))) ∧ Ext w w' := by
 by_cases hl : xs.length = ys.length
 ·rcases hx.empty_or with rfl | ⟨h0, b, off, rfl, hb, hc⟩
  ·obtain rfl : ys = [] := List.eq_nil_of_length_eq_zero hl.symm
   go_enter Tryz.func119, Tryz.ntmps119
   go_wp2
   refine wp_loop_rounds 1 ?_
   rw [rounds_succ]
   go_wp2
   go_ret
   exact ⟨rfl, (by repeat first | exact xr _ | refine xa ?_ _ | refine xm ?_ _ _ | refine xd ?_ | refine xn ?_ _ | refine xs ?_ (by simp <;> omega) _)⟩
  ·rcases hy.empty_or with rfl | ⟨h1, b', off', rfl, hb', hc'⟩
   ·simp only [List.length_nil] at hl; omega
   ·have hl2 : ((xs.length : Int) != (ys.length : Int)) = false := by simp; omega
    have HC := zh hc
    have HC' := zh hc'
    have HL := zh hl
    clear hc hc' hl hx hy
    go_enter Tryz.func119, Tryz.ntmps119
    go_wp2
    go_loopw [13] (fun i wr => ∃ k : Nat, k ≤ xs.length ∧ i = .int .i64 k ∧ xs.take k = ys.take k ∧ Ext w wr) (fun i _ => xs.length - (intOf i).toNat)
    case atStart => exact ⟨0, by omega, rfl, by simp, (by repeat first | exact xr _ | refine xa ?_ _ | refine xm ?_ _ _ | refine xd ?_ | refine xn ?_ _ | refine xs ?_ (by simp <;> omega) _)⟩
    case round =>
     obtain ⟨k, hk, rfl, ht, os, kk, rfl⟩ := hrel
     have HT := zh ht
     clear ht
     by_cases hlt : k < xs.length
     ·have c1 := HC.out k hlt
      have c2 := HC'.out k (by rw [← HL.out]; exact hlt)
      have hlt' : k < ys.length := by have := HL.out; omega
      generalize hu : xs.getD k 0 = u at *
      generalize hv : ys.getD k 0 = v at *
      have HU := zh hu
      have HV := zh hv
      clear hu hv
      by_cases e : u = v
      ·have e1 : (u != v) = false := by simp [e]
       have E := zh e
       clear e
       go_upto_region 6 with fail
       go_quiet (fail)
       go_wp2
       go_roundw
       case rel => exact ⟨k + 1, by omega, by go_num, by rw [take_next hlt, take_next hlt', HT.out, HU.out, HV.out, E.out], (by repeat first | exact xr _ | refine xa ?_ _ | refine xm ?_ _ _ | refine xd ?_ | refine xn ?_ _ | refine xs ?_ (by simp <;> omega) _)⟩
       case measure => simp [intOf]; omega
      ·have e1 : (u != v) = true := by simp [e]
       have E := zh e
       clear e
       go_upto_region 6 with fail
       go_quiet (fail)
       go_wp2
       go_ret
       refine ⟨ret_bool ?_, (by repeat first | exact xr _ | refine xa ?_ _ | refine xm ?_ _ _ | refine xd ?_ | refine xn ?_ _ | refine xs ?_ (by simp <;> omega) _)⟩
       symm
       rw [decide_eq_false_iff_not]
       intro h
       apply E.out
       rw [← HU.out, ← HV.out, h]
     ·go_wp2
      go_ret
      refine ⟨ret_bool ?_, (by repeat first | exact xr _ | refine xa ?_ _ | refine xm ?_ _ _ | refine xd ?_ | refine xn ?_ _ | refine xs ?_ (by simp <;> omega) _)⟩
      symm
      rw [decide_eq_true_eq]
      have := HT.out
      have h2 := HL.out
      rwa [List.take_of_length_le (by omega), List.take_of_length_le (by omega)] at this
 ·have hl2 : ((xs.length : Int) != (ys.length : Int)) = true := by simp; omega
  have hl3 : decide (xs = ys) = false := by
   rw [decide_eq_false_iff_not]
   intro h
   exact hl (by rw [h])
  have HL := zh hl3
  clear hl hl3
  go_enter Tryz.func119, Tryz.ntmps119
  go_wp2
  go_ret
  exact ⟨ret_bool HL.out.symm, (by repeat first | exact xr _ | refine xa ?_ _ | refine xm ?_ _ _ | refine xd ?_ | refine xn ?_ _ | refine xs ?_ (by simp <;> omega) _)⟩
end Go.Proofs.YthpmncdfaggkiaaGreat
namespace Go.Proofs.YthpmncdfaggkiaaGreat
end Go.Proofs.YthpmncdfaggkiaaGreat
namespace Go.Proofs.YthpmncdfaggkiaaGreat
open Go.RowKit
theorem set_set' {α : Type} (l : List α) (i : Nat) (a b : α) : (l.set i a).set i b = l.set i b := List.set_set ..
end Go.Proofs.YthpmncdfaggkiaaGreat
namespace Go.Proofs.YthpmncdfaggkiaaGreat
open Go.RowKit
attribute [local go_sem] more_drew more_drewN more_size more_cell more_frozen more_setCell drew_more drewN_more lt_add_r lt_add_r2 lt_add_r3 lt_add_r4 lt_add_r5 lt_add_r6 lt_add_r7 lt_add_r8 lt_add_r9 lt_add_r10 lt_self_r lt_self_r2
attribute [local go_sem] Oper.semAt_some
structure StaleTo (l : List Nd) (k : Nat) (bs : List Bool) : Prop where
 len : bs.length = l.length
 behind : ∀ (j : Nat) (p : Nd), l[j]? = some p → k ≤ j → bs[j]? = some (decide (p.met ≠ 0) || p.kids.any fun x => (bs[x.toNat]?).getD false)
theorem StaleTo.first {l : List Nd} {bs : List Bool} (h : bs.length = l.length) : StaleTo l l.length bs := ⟨h, fun _ _ hp hj => absurd (lt_of_get hp) (Nat.not_lt.2 hj)⟩
theorem StaleTo.last {l : List Nd} {bs : List Bool} (h : StaleTo l 0 bs) : StaleOk l bs := ⟨h.len, fun j p hp => h.behind j p hp (Nat.zero_le _)⟩
theorem stale_set {l : List Nd} {bs : List Bool} (T : Tree l) {k j : Nat} {p : Nd} {v : Bool} (hp : l[j]? = some p) (hj : k ≤ j) : (p.kids.any fun x => ((bs.set k v)[x.toNat]?).getD false) = p.kids.any fun x => (bs[x.toNat]?).getD false :=
 any_congr' fun x hx => by
  obtain ⟨c, rfl, h1, h2⟩ := T.kid_behind hp x hx
  rw [Int.toNat_natCast, List.getElem?_set_ne (by omega)]
theorem StaleTo.step {l : List Nd} {bs : List Bool} (T : Tree l) {k : Nat} (h : StaleTo l (k + 1) bs) {p : Nd} (hp : l[k]? = some p) : StaleTo l k (bs.set k (decide (p.met ≠ 0) || p.kids.any fun x => (bs[x.toNat]?).getD false)) := by
 have hk := lt_of_get hp
 refine ⟨by rw [List.length_set]; exact h.len, fun j q hq hj => ?_⟩
 rw [stale_set T hq hj]
 rcases Nat.eq_or_lt_of_le hj with rfl | hj
 ·rw [hp] at hq
  injection hq with hq
  subst hq
  rw [List.getElem?_set_self (by rw [h.len]; exact hk)]
 ·rw [List.getElem?_set_ne (by omega)]
  exact h.behind j q hq hj
def MadeB (w : World) (g : Nat) (bs : List Bool) : Prop := w.heap[g]? = some (.cells (bs.map Value.bool).toArray 4)
theorem MadeB.new (w : World) (n : Nat) : MadeB (w.alloc (.cells (madeCells #[.bool false] n) 4)) w.heap.size (List.replicate n false) := by
 unfold MadeB
 rw [heap_alloc_new, made_cells, List.map_replicate]
theorem MadeB.cell {w : World} {g : Nat} {bs : List Bool} (h : MadeB w g bs) {k : Nat} {v : Bool} (hk : bs[k]? = some v) : w.cell? ⟨g, k, none⟩ = some (.bool v) ∧ w.frozen? ⟨g, k, none⟩ = false ∧ g < w.heap.size := by
 unfold MadeB at h
 refine ⟨?_, by simp [World.frozen?, h], lt_of_heap h⟩
 rw [cell_of_row _ _ _ _ _ _ h]
 simp [hk]
theorem MadeB.store {w : World} {g : Nat} {bs : List Bool} (h : MadeB w g bs) (k : Nat) (v : Bool) : MadeB (w.setCell ⟨g, k, none⟩ (.bool v)) g (bs.set k v) := by
 unfold MadeB at *
 simp [World.setCell, Array.getElem?_modify, h, List.map_set]
theorem MadeB.below {w w' : World} {g : Nat} {bs : List Bool} (h : MadeB w g bs) (e : Below w.heap.size w w') : MadeB w' g bs := (e.block g (lt_of_heap h)).trans h
theorem MadeB.ext {w w' : World} {g : Nat} {bs : List Bool} (h : MadeB w g bs) (e : Ext w w') : MadeB w' g bs := h.below e.below
theorem infoBoolT : (Tryz.prog.info? 4).map (fun i => (i.zero, i.size, i.bytes)) = some (some (.bool false), 1, 1) := by kernel_rfl
def BoolsRet (w : World) (bs : List Bool) (e : Ending) (w' : World) : Prop := ∃ g, e = .returned (.slice (some ⟨g, 0, none⟩) bs.length bs.length) ∧ MadeB w' g bs ∧ w.heap.size ≤ g ∧ Ext w w'
end Go.Proofs.YthpmncdfaggkiaaGreat
namespace Go.Proofs.YthpmncdfaggkiaaGreat
open Go.RowKit
attribute [local go_sem] more_drew more_drewN more_size more_cell more_frozen more_setCell drew_more drewN_more lt_add_r lt_add_r2 lt_add_r3 lt_add_r4 lt_add_r5 lt_add_r6 lt_add_r7 lt_add_r8 lt_add_r9 lt_add_r10 lt_self_r lt_self_r2
attribute [local go_sem] Oper.semAt_some
end Go.Proofs.YthpmncdfaggkiaaGreat
namespace Go.Proofs.YthpmncdfaggkiaaGreat
open Go.RowKit
attribute [local go_sem] more_drew more_drewN more_size more_cell more_frozen more_setCell drew_more drewN_more lt_add_r lt_add_r2 lt_add_r3 lt_add_r4 lt_add_r5 lt_add_r6 lt_add_r7 lt_add_r8 lt_add_r9 lt_add_r10 lt_self_r lt_self_r2
section
variable {A : Option Addr} {c : Nat} {ps : List Prt} {w : World}
set_option maxRecDepth 100000 in
set_option maxHeartbeats 2000000 in
theorem rLeaves_yes (h : PS w A c ps) (T : Tree (nds ps)) : Calls Tryz.prog 43 #[.slice A ps.length c] w (IntsRet w (leavesF 0 (nds ps))) := by
 have CH := zh (fun w1 (x : Ext w w1) => rcheck_ok (h.ext x) T)
 have HS := zh h
 have hl := h.few.len
 clear h T
 go_enter Tryz.func43, Tryz.ntmps43
 go_wp2_with fail
 go_loopw [3, 4] (fun v i wr => ∃ (j : Nat) (xs : List Int), j ≤ ps.length ∧ i = .int .i64 j ∧ Hid (RowI wr w.heap.size v xs) ∧ Hid (xs.length ≤ j ∧ leavesF 0 (nds ps) = xs ++ leavesF j ((nds ps).drop j)) ∧ Hid (Ext w wr)) (fun _ i _ => ps.length - (intOf i).toNat)
 case atStart => exact ⟨0, [], Nat.zero_le _, rfl, zh ⟨none, 0, rfl, OwnI.nil _ _⟩, zh ⟨Nat.le_refl _, rfl⟩, zh (by repeat first | exact xr _ | refine xa ?_ _ | refine xm ?_ _ _ | refine xd ?_ | refine xn ?_ _ | refine xs ?_ (by simp <;> omega) _)⟩
 case round =>
  obtain ⟨j, xs, hj, rfl, hr, he, hx⟩ := hrel
  by_cases hlt : j < ps.length
  ·obtain ⟨⟨q, kA, kcap⟩, hq⟩ : ∃ q, ps[j]? = some q := ⟨_, List.getElem?_eq_getElem hlt⟩
   have HE : Hid (leavesF j ((nds ps).drop j) = if LeafK q.kind then (j : Int) :: leavesF (j + 1) ((nds ps).drop (j + 1)) else leavesF (j + 1) ((nds ps).drop (j + 1))) := by
    rw [List.drop_eq_getElem_cons (by rw [nds_length]; exact hlt)]
    have := nds_get hq
    rw [List.getElem?_eq_getElem (by rw [nds_length]; exact hlt)] at this
    injection this with this
    rw [this]
    exact zh rfl
   have HL : Hid (xs.length ≤ 1000000) := zh (by have := he.out.1; omega)
   go_wp2_with fail
   refine (CH.out wr hx.out).mono ?_
   rintro e w3 ⟨rfl, hx3⟩
   obtain ⟨b, off, rfl, hb, hcell⟩ := (HS.out.ext (hx.out.trans hx3)).parts (by omega)
   have d1 := (hcell j _ hq).2.1
   dsimp only at d1
   have HR3 := zh (hr.out.ext hx3)
   have HX3 := zh (hx.out.trans hx3)
   skip
   clear hcell hq hx3 hr hx
   by_cases hk : LeafK q.kind
   ·have hk1 : decide (LeafK q.kind) = true := decide_eq_true hk
    have HE' : Hid (leavesF j ((nds ps).drop j) = (j : Int) :: leavesF (j + 1) ((nds ps).drop (j + 1))) := zh (HE.out.trans (if_pos hk))
    clear hk HE
    go_wp2_with (first
     | (go_at_call 91; refine (leafR_any _ _).mono ?_; rintro e w' ⟨rfl, rfl⟩)
     | (at_builtin; refine app_int w (by rfl) (.tmp 22) (.tmp 24) rfl (HR3.out.ext (by repeat first | exact xr _ | refine xa ?_ _ | refine xm ?_ _ _ | refine xd ?_ | refine xn ?_ _ | refine xs ?_ (by simp <;> omega) _)) j w3.heap.size rfl rfl (by simp) (by simp [go_sem]) HL.out (HX3.out.trans (by repeat first | exact xr _ | refine xa ?_ _ | refine xm ?_ _ _ | refine xd ?_ | refine xn ?_ _ | refine xs ?_ (by simp <;> omega) _)) ?_; intro v7 w7 hr7 hg7 hx7))
    have HR7 := zh hr7
    have HX7 := zh hx7
    clear hr7 hx7 hg7
    go_roundw
    case rel => exact ⟨j + 1, xs ++ [(j : Int)], by omega, by go_num, HR7, zh ⟨by have := he.out.1; simp; omega, by rw [he.out.2, HE'.out]; simp⟩, HX7⟩
    case measure => simp [intOf]; omega
   ·have hk1 : decide (LeafK q.kind) = false := decide_eq_false hk
    have HE' : Hid (leavesF j ((nds ps).drop j) = leavesF (j + 1) ((nds ps).drop (j + 1))) := zh (HE.out.trans (if_neg hk))
    clear hk HE
    go_wp2_with (go_at_call 91; refine (leafR_any _ _).mono ?_; rintro e w' ⟨rfl, rfl⟩)
    go_roundw
    case rel => exact ⟨j + 1, xs, by omega, by go_num, zh (HR3.out.ext (by repeat first | exact xr _ | refine xa ?_ _ | refine xm ?_ _ _ | refine xd ?_ | refine xn ?_ _ | refine xs ?_ (by simp <;> omega) _)), zh ⟨by have := he.out.1; omega, by rw [he.out.2, HE'.out]⟩, zh (HX3.out.trans (by repeat first | exact xr _ | refine xa ?_ _ | refine xm ?_ _ _ | refine xd ?_ | refine xn ?_ _ | refine xs ?_ (by simp <;> omega) _))⟩
    case measure => simp [intOf]; omega
  ·obtain rfl : j = ps.length := by omega
   obtain ⟨A1, c1, rfl, ho⟩ := hr.out
   have HO := zh ho
   have HEE : Hid (leavesF 0 (nds ps) = xs) := zh (by rw [he.out.2, List.drop_eq_nil_of_le (by rw [nds_length]; omega)]; simp [leavesF])
   clear ho
   go_wp2_with fail
   go_ret
   rw [HEE.out]
   exact ⟨A1, c1, rfl, HO.out, hx.out⟩
end
theorem any_take {ks : List Int} {f : Int → Bool} {j : Nat} {x : Int} (h : ks[j]? = some x) : (ks.take (j + 1)).any f = ((ks.take j).any f || f x) := by
 obtain ⟨hl, hx⟩ := List.getElem?_eq_some_iff.1 h
 rw [List.take_succ_eq_append_getElem hl, List.any_append, hx]
 simp
set_option maxRecDepth 100000 in
set_option maxHeartbeats 2000000 in
theorem rstale_any (A : Option Addr) (c : Nat) (ps : List Prt) (w : World) (h : PS w A c ps) (T : Tree (nds ps)) :
 Calls Tryz.prog 83 #[.slice A ps.length c] w fun e w' => ∃ st, StaleOk (nds ps) st ∧ BoolsRet w st e w' := by
 have hl := h.few.len
 have hp := T.pos
 rw [nds_length] at hp
 have S := zh h
 have HT := zh T
 have hmk := run_make_row' (P := Tryz.prog) 128 4 (.bool false) 1 Tryz.underlying128 infoBoolT rfl .i64 .i64 ps.length (by omega) (by omega)
 clear h T
 go_enter Tryz.func83, Tryz.ntmps83
 go_wp2_with fail
 refine (rcheck_ok S.out HT.out).mono ?_
 rintro e w1 ⟨rfl, hx1⟩
 have HX1 := zh hx1
 clear hx1
 go_upto_region 4 with fail
 obtain ⟨g, hg⟩ : ∃ g, w1.heap.size = g := ⟨_, rfl⟩
 have M0 := MadeB.new w1 ps.length
 obtain ⟨W2, hW2⟩ : ∃ W2, w1.alloc (.cells (madeCells #[.bool false] ps.length) 4) = W2 := ⟨_, rfl⟩
 have M2 : Hid (MadeB W2 g (List.replicate ps.length false)) := zh (by rw [← hW2, ← hg]; exact M0)
 have X2 : Hid (Ext w W2) := zh (by rw [← hW2]; exact HX1.out.trans (by repeat first | exact xr _ | refine xa ?_ _ | refine xm ?_ _ _ | refine xd ?_ | refine xn ?_ _ | refine xs ?_ (by simp <;> omega) _))
 have HGW : Hid (w.heap.size ≤ g) := zh (by rw [← hg]; exact HX1.out.size)
 have hwg : w.heap.size ≤ g := HGW.out
 rw [hg, hW2]
 clear M0 hW2 hmk hg
 have ST0 := StaleTo.first (l := nds ps) (bs := List.replicate ps.length false) (by rw [List.length_replicate, nds_length])
 rw [nds_length] at ST0
 have HS0 := zh ST0
 clear ST0
 go_wp2_with fail
 go_loopw [4] (fun v wr => ∃ (k : Nat) (bs : List Bool), k ≤ ps.length ∧ v = .int .i64 ((k : Int) - 1) ∧ Hid (MadeB wr g bs) ∧ Hid (StaleTo (nds ps) k bs) ∧ Hid (Ext w wr)) (fun v _ => (intOf v + 1).toNat)
 case atStart => exact ⟨ps.length, _, Nat.le_refl _, rfl, M2, HS0, X2⟩
 case round =>
  obtain ⟨k, bs, hk, rfl, hM, hST, hx⟩ := hrel
  cases k with
  | zero =>
   have hbl : bs.length = ps.length := by rw [hST.out.len, nds_length]
   have OUT : Hid (∃ st, StaleOk (nds ps) st ∧ BoolsRet w st (.returned (.slice (some ⟨g, 0, none⟩) ps.length ps.length)) wr) := zh ⟨bs, hST.out.last, g, by rw [hbl], hM.out, hwg, hx.out⟩
   clear hbl hM hST
   go_wp2_with fail
   go_ret
   exact OUT.out
  | succ k =>
   have e0 : (((k + 1 : Nat) : Int) - 1) = (k : Int) := by omega
   rw [e0]
   obtain ⟨p, hp'⟩ : ∃ p, ps[k]? = some p := ⟨_, List.getElem?_eq_getElem (by omega)⟩
   have hbl : bs.length = ps.length := by rw [hST.out.len, nds_length]
   obtain ⟨v0, hv0⟩ : ∃ v0, bs[k]? = some v0 := ⟨_, List.getElem?_eq_getElem (by omega)⟩
   obtain ⟨b, off, rfl, hb, hcell⟩ := (S.out.ext hx.out).parts (by omega)
   obtain ⟨_, _, _, _, _, _, d6, d7⟩ := hcell k p hp'
   obtain ⟨f0, f1, f2⟩ := hM.out.cell hv0
   have hcap := S.out.cap
   have HPP := zh hp'
   have HBL := zh hbl
   have HPO := zh (S.out.oks.get hp')
   have hkl : k < ps.length := by omega
   obtain ⟨b1, hb1⟩ : ∃ b1, (p.nd.met != 0) = b1 := ⟨_, rfl⟩
   have HB1 : Hid (b1 = decide (p.nd.met ≠ 0)) := zh (by rw [← hb1]; by_cases h : p.nd.met = 0 <;> simp [h])
   have MS := zh (hM.out.store k b1)
   have XS := zh (hx.out.setCell (p := ⟨g, k, none⟩) hwg (.bool b1))
   have D6 := zh (fun (V : World) (x : Ext w V) => (⟨(x.below.cell (p := ⟨b, off + k * 8 + 6, none⟩) (by
    obtain ⟨b', off', hA', hb', _⟩ := S.out.parts (by omega)
    injection hA' with hA'
    injection hA' with hA'
    show b < _
    omega)).trans (by
    obtain ⟨b', off', hA', hb', hc'⟩ := S.out.parts (by omega)
    injection hA' with hA'
    injection hA' with ea eb
    subst ea eb
    exact (hc' k p hp').2.2.2.2.2.2.1), by
    obtain ⟨b', off', hA', hb', _⟩ := S.out.parts (by omega)
    injection hA' with hA'
    injection hA' with hA'
    have := x.size
    omega⟩ : V.cell? ⟨b, off + k * 8 + 6, none⟩ = some (.slice p.kA p.nd.kids.length p.kc) ∧ b < V.heap.size))
   have hko1 := HPO.out.cap
   have hko2 := HPO.out.top
   clear hcell hp' hbl hv0 hM
   go_upto_region 8 with fail
   obtain ⟨W5, hW5⟩ : ∃ W5, wr.setCell ⟨g, k, none⟩ (.bool b1) = W5 := ⟨_, rfl⟩
   rw [hW5] at MS XS ⊢
   clear hW5 f0 f1 f2 d6 d7 hb1
   go_wp2_with fail
   go_loopw [5] (fun v wr => ∃ j : Nat, j ≤ p.nd.kids.length ∧ v = .int .i64 j ∧ Hid (MadeB wr g (bs.set k (b1 || (p.nd.kids.take j).any fun x => (bs[x.toNat]?).getD false))) ∧ Hid (Ext w wr)) (fun v _ => p.nd.kids.length - (intOf v).toNat)
   case atStart => exact ⟨0, Nat.zero_le _, rfl, zh (by rw [List.take_zero, List.any_nil, Bool.or_false]; exact MS.out), XS⟩
   case round =>
    obtain ⟨j, hj, rfl, hM2, hx2⟩ := hrel
    obtain ⟨kd6, kb⟩ := D6.out wr hx2.out
    by_cases hlt : j < p.nd.kids.length
    ·obtain ⟨x, hxk⟩ : ∃ x, p.nd.kids[j]? = some x := ⟨_, List.getElem?_eq_getElem hlt⟩
     obtain ⟨cn, rfl, hc1, hc2⟩ := HT.out.kid_behind (nds_get HPP.out) x (List.mem_of_getElem? hxk)
     rw [nds_length] at hc2
     obtain ⟨bk, offk, hkA, hbk, hck⟩ := (HPO.out.ext hx2.out).kids (by omega)
     have e1 := hck j hlt
     rw [List.getD_eq_getElem?_getD, hxk] at e1
     dsimp only [Option.getD_some] at e1
     have HAT := zh (any_take (f := fun x => (bs[x.toNat]?).getD false) hxk)
     obtain ⟨v1, hv1⟩ : ∃ v1, bs[cn]? = some v1 := ⟨_, List.getElem?_eq_getElem (by rw [HBL.out]; exact hc2)⟩
     rw [Int.toNat_natCast, hv1, Option.getD_some] at HAT
     obtain ⟨cur, hcur⟩ : ∃ cur, (b1 || (p.nd.kids.take j).any fun x => (bs[x.toNat]?).getD false) = cur := ⟨_, rfl⟩
     have HN : Hid ((b1 || (p.nd.kids.take (j + 1)).any fun x => (bs[x.toNat]?).getD false) = (cur || v1)) := zh (by rw [HAT.out, ← Bool.or_assoc, hcur])
     rw [hcur] at hM2
     obtain ⟨f0, f1, f2⟩ := hM2.out.cell (k := k) (v := cur) (List.getElem?_set_self (by rw [HBL.out]; exact hkl))
     obtain ⟨g0, g1, g2⟩ := hM2.out.cell (k := cn) (v := v1) (by rw [List.getElem?_set_ne (by omega)]; exact hv1)
     have MS2 := zh (fun v => hM2.out.store k v)
     have XS2 := zh (fun v => hx2.out.setCell (p := ⟨g, k, none⟩) hwg (.bool v))
     rw [hkA] at kd6
     clear hck hxk hkA hv1 hcur HAT hM2
     cases cur with
     | true =>
      go_wp2_with fail
      go_roundw
      case rel =>
       refine ⟨j + 1, by omega, by go_num, zh ?_, XS2.out true⟩
       rw [HN.out, Bool.true_or]
       have := MS2.out true
       rwa [set_set'] at this
      case measure => simp [intOf]; omega
     | false =>
      go_wp2_with fail
      go_roundw
      case rel =>
       refine ⟨j + 1, by omega, by go_num, zh ?_, XS2.out v1⟩
       rw [HN.out, Bool.false_or]
       have := MS2.out v1
       rwa [set_set'] at this
      case measure => simp [intOf]; omega
    ·obtain rfl : j = p.nd.kids.length := by omega
     have HS2 := zh (hST.out.step HT.out (nds_get HPP.out))
     rw [List.take_length] at hM2
     rw [HB1.out] at hM2
     go_wp2_with fail
     go_roundw
     case rel => exact ⟨k, _, by omega, by congr 1, hM2, HS2, hx2⟩
     case measure => simp [intOf]
end Go.Proofs.YthpmncdfaggkiaaGreat
