/- The contract of tree.Check. -/
import Derived.Test.YtggmljookcmnkaaA5
import Derived.Test.YtggmljookcmnkaaA7
import Derived.WalkSpells
import Derived.WalkLawsBesides
import Derived.BigRegion
import Derived.Deep.RegionWith
import Derived.Deep.QuietTactic
import Derived.Deep.DeepCutAuto
import Derived.Deep.RegionHeld3
import Derived.Deep.RegionLaw
import Derived.BigQuiet
import Derived.Lib.Hide
namespace Go.Proofs.Ytggmljookcmnkaa
open Go.RowKit
attribute [local go_sem] more_drew more_drewN more_size more_cell more_frozen more_setCell drew_more drewN_more lt_add_r lt_add_r2 lt_add_r3 lt_add_r4 lt_add_r5 lt_add_r6 lt_add_r7 lt_add_r8 lt_add_r9 lt_add_r10 lt_self_r lt_self_r2
attribute [local go_sem] Oper.semAt_some

/-- few parts, few kids -/
structure Few (ps : List Prt) : Prop where
  len : ps.length ≤ 1000
  kids : ∀ j, kc (nds ps) 0 j ≤ 1000000
theorem checkF_few {ps : List Prt} (h : ps.length ≤ 1000) : (Tree (nds ps) → checkF (nds ps) = 0) ∧ (¬ Tree (nds ps) → checkF (nds ps) = 2) := by
  have hl := nds_length ps
  unfold checkF
  rw [if_neg (by omega)]
  exact ⟨fun h => if_pos h, fun h => if_neg h⟩
theorem Tree.ends {l : List Nd} (T : Tree l) {ok : Bool} {M : Nat} (ht : Trek l [0] 0 ok M) : ok = true ∧ M = l.length := T.trek.det ht
theorem trek_ok {l : List Nd} {ok : Bool} (ht : Trek l [0] 0 ok l.length) : kc l 0 l.length + 1 = l.length ↔ ok = true := by
  have := ht.count
  simp only [List.length_singleton] at this
  cases ok with
  | true => have := this.1 rfl; simp; omega
  | false => have := this.2 rfl; simp; omega
theorem heap_alloc_get (w : World) (o : Obj) (j : Nat) : (w.alloc o).heap[j]? = if j = w.heap.size then some o else w.heap[j]? := by
  show (w.heap.push o)[j]? = _
  rw [Array.getElem?_push]
theorem putObj_other (W : World) {D k : Nat} (o : Obj) (h : D ≠ k) : (W.putObj D o).heap[k]? = W.heap[k]? := World.putObj_heap_other (by omega)
def KidsOk (ps : List Prt) : Prop := ∀ p ∈ ps, KidsIn ps.length p.nd.kids
theorem trek_kids {ps : List Prt} (ht : Trek (nds ps) [0] 0 true ps.length) : KidsOk ps := by
  intro p hp k hk
  obtain ⟨j, hj, rfl⟩ := List.getElem_of_mem hp
  obtain ⟨q, m, h1, h2, h3⟩ := ht.inside rfl j (Nat.zero_le _) (by omega)
  rw [nds_get (List.getElem?_eq_getElem hj)] at h1
  injection h1 with h1
  subst h1
  obtain ⟨i, e, _, h5⟩ := h2.kid rfl k hk
  exact ⟨i, e, by omega⟩
theorem Tree.kidsOk {ps : List Prt} (T : Tree (nds ps)) : KidsOk ps := trek_kids (by have := T.trek; rwa [nds_length] at this)
set_option maxRecDepth 100000 in
set_option maxHeartbeats 1000000 in
theorem check1_any (lb : Nat) (A : Option Addr) (c : Nat) (ps : List Prt) (p : Prt) (w : World) (hlb : w.heap[lb]? = some (.cells #[.slice A ps.length c] 23)) (hP : Prts w A ps) (hl : ps.length ≤ 9223372036854775807) (hp : PrtOk w p) (hk : KidsIn ps.length p.nd.kids) :
    Calls Try.prog 99 #[aggV p, pt lb] w fun e w' => e = .returned (.bool (!liesB (nds ps) p.nd.hi p.nd.lo p.nd.kids)) ∧ Ext w w' := by
  have CL := Lib.hid (fun w1 h1 h2 => lies_any A c ps p w1 h1 hl h2 hk)
  have HP := Lib.hid hP
  have HPO := Lib.hid hp
  have c1 := cell_of_row _ _ 0 _ _ _ hlb
  simp at c1
  have l1 := lt_of_heap hlb
  clear hP hp hk hlb
  go_enter Try.func99, Try.ntmps99
  go_wp2_with fail
  refine (CL.out _ (HP.out.ext (by repeat (first | exact Ext.refl _ | refine Ext.alloc ?_ _ | refine Ext.more ?_ _ _ | refine Ext.drew ?_ | refine Ext.drewN ?_ _ | refine Ext.setCell ?_ (by simp <;> omega) _))) (HPO.out.ext (by repeat (first | exact Ext.refl _ | refine Ext.alloc ?_ _ | refine Ext.more ?_ _ _ | refine Ext.drew ?_ | refine Ext.drewN ?_ _ | refine Ext.setCell ?_ (by simp <;> omega) _)))).mono ?_
  rintro e w2 ⟨rfl, hx2⟩
  have HX2 := Lib.hid hx2
  clear hx2
  go_wp2_with fail
  go_ret
  exact ⟨rfl, ((Ext.refl _).alloc _).trans HX2.out⟩
set_option maxRecDepth 100000 in
set_option maxHeartbeats 3000000 in
theorem check_any (A : Option Addr) (c : Nat) (ps : List Prt) (w : World) (hP : Prts w A ps) (hO : PrtsOk w ps) (hf : Few ps) :
    Calls Try.prog 43 #[.slice A ps.length c] w fun e w' => e = .returned (.int .i64 (checkF (nds ps))) ∧ Ext w w' := by
  obtain ⟨ok, M, ht⟩ := trek_all (nds ps) (nds ps).length [0] 0 (by omega)
  have hM : M ≤ ps.length := by have := ht.le.2 (Nat.zero_le _); rwa [nds_length] at this
  have hlen := hf.len
  have HFK := Lib.hid hf.kids
  have HP := Lib.hid hP
  have HO := Lib.hid hO
  have HT := Lib.hid ht
  have HC := Lib.hid (checkF_few hlen)
  clear hP hO ht hf
  have hd0 : decide ((524288 : Int) < (ps.length : Int)) = false := decide_eq_false (by omega)
  refine calls_of_marks Try.func43 rfl ?_
  simp only [Try.ntmps43, List.size_toArray, List.length_cons, List.length_nil, Nat.reduceAdd, Nat.reduceSub, Array.replicate_succ, Array.replicate_zero, List.push_toArray, List.append_toArray, List.nil_append, List.cons_append]
  go_wp2_with (go_at_call 96; refine (walk_make _ _ _ _).mono ?_; rintro e w2 ⟨rfl, rfl⟩)
  obtain ⟨b, hb⟩ : ∃ b, w.heap.size = b := ⟨_, rfl⟩
  obtain ⟨W5, hW5⟩ : ∃ W5, ((((w.alloc (Obj.cells #[Value.slice A ps.length c] 23)).alloc (Obj.cells #[Value.int IntKind.i64 0] 26)).alloc (Obj.cells #[Value.int IntKind.i64 0] 3)).alloc (Obj.cells #[Value.slice A ps.length c] 23)).alloc (Obj.cells #[Value.int IntKind.i64 0] 3) = W5 := ⟨_, rfl⟩
  have X5 : Ext w W5 := by rw [← hW5]; exact (by repeat (first | exact Ext.refl _ | refine Ext.alloc ?_ _ | refine Ext.more ?_ _ _ | refine Ext.drew ?_ | refine Ext.drewN ?_ _ | refine Ext.setCell ?_ (by simp <;> omega) _))
  have S5 : W5.heap.size = b + 5 := by rw [← hW5, ← hb]; simp
  have G0 : W5.heap[b]? = some (.cells #[.slice A ps.length c] 23) := by rw [← hW5, ← hb]; exact (by simp only [heap_alloc_get, World.size_alloc]; (repeat (split; (first | rfl | (exfalso; omega)))); (try (first | (exfalso; omega) | simp_all)))
  have G1 : W5.heap[b + 1]? = some (.cells #[.int .i64 0] 26) := by rw [← hW5, ← hb]; exact (by simp only [heap_alloc_get, World.size_alloc]; (repeat (split; (first | rfl | (exfalso; omega)))); (try (first | (exfalso; omega) | simp_all)))
  have G2 : W5.heap[b + 1 + 1]? = some (.cells #[.int .i64 0] 3) := by rw [← hW5, ← hb]; exact (by simp only [heap_alloc_get, World.size_alloc]; (repeat (split; (first | rfl | (exfalso; omega)))); (try (first | (exfalso; omega) | simp_all)))
  have G3 : W5.heap[b + 1 + 1 + 1]? = some (.cells #[.slice A ps.length c] 23) := by rw [← hW5, ← hb]; exact (by simp only [heap_alloc_get, World.size_alloc]; (repeat (split; (first | rfl | (exfalso; omega)))); (try (first | (exfalso; omega) | simp_all)))
  have G4 : W5.heap[b + 1 + 1 + 1 + 1]? = some (.cells #[.int .i64 0] 3) := by rw [← hW5, ← hb]; exact (by simp only [heap_alloc_get, World.size_alloc]; (repeat (split; (first | rfl | (exfalso; omega)))); (try (first | (exfalso; omega) | simp_all)))
  rw [hW5, hb]
  clear hW5
  refine wp_range (gf := 132) (lb := #[pt (b + 1 + 1 + 1 + 1), pt (b + 1 + 1 + 1)]) (encs := encI) (xs := places M) (S := fun k => k = b + 1 ∨ k = b + 1 + 1 ∨ b + 5 ≤ k) rfl (enters_of Try.func132 (by kernel_rfl) rfl) (fun _ => rfl) (fun k hk => by omega)
    (fun w1 hx _ => walk_iter A c ps w w1 _ _ _ ok M HP.out HO.out (by omega) (X5.trans hx).below (ext_block G3 hx) (by omega) (by omega) (ext_block G4 hx) (by omega) HT.out)
    (fun j W' => W'.heap[b]? = some (.cells #[.slice A ps.length c] 23) ∧ W'.heap[b + 1]? = some (.cells #[.int .i64 0] 26) ∧ W'.heap[b + 1 + 1]? = some (.cells #[.int .i64 (j : Int)] 3) ∧ Below w.heap.size w W' ∧
      ∀ i p, i < j → ps[i]? = some p → Bare p.nd ∧ (0 < i → p.nd.kind ≠ 1))
    (fun cd j W' => cd = .ret ∧ ¬ Tree (nds ps) ∧ W'.heap[b + 1]? = some (.cells #[.int .i64 2] 26) ∧ Below w.heap.size w W') ?_ ?_ ⟨G0, G1, G2, X5.below, fun i p hi => by omega⟩ ?_ ?_ ?_
  · rintro j U U' hbe hsz ⟨i1, i2, i3, i4, i5⟩
    rw [S5] at hbe hsz
    exact ⟨(hbe.block _ (by omega)).trans i1, (hbe.block _ (by omega)).trans i2, (hbe.block _ (by omega)).trans i3, i4.trans (hbe.mono (by omega)), i5⟩
  · rintro cd j U U' hbe hsz ⟨i1, i2, i3, i4⟩
    rw [S5] at hbe hsz
    exact ⟨i1, i2, (hbe.block _ (by omega)).trans i3, i4.trans (hbe.mono (by omega))⟩
  · rintro l j x W' hx _ hsz
    obtain ⟨rfl, hjM⟩ := places_get hx
    simp only [encI]
    gi_wp2
    refine ⟨Ext.refl _, ?_⟩
    rintro W2 t2 ⟨i1, i2, i3, i4, i5⟩ hsz2
    clear hx t2 hsz
    obtain ⟨p, hp⟩ : ∃ p, ps[j]? = some p := ⟨_, List.getElem?_eq_getElem (by omega)⟩
    have c1 := cell_of_row _ _ 0 _ _ _ i1
    have c2 := cell_of_row _ _ 0 _ _ _ i2
    have c3 := cell_of_row _ _ 0 _ _ _ i3
    simp at c1 c2 c3
    have l1 := lt_of_heap i1
    have l2 := lt_of_heap i2
    have l3 := lt_of_heap i3
    have r2 : W2.frozen? ⟨b + 1, 0, none⟩ = false := by simp [World.frozen?, i2]
    have r3 : W2.frozen? ⟨b + 1 + 1, 0, none⟩ = false := by simp [World.frozen?, i3]
    obtain ⟨bA, off, rfl, hbA, hcell⟩ := (HP.out.below i4) (by omega)
    obtain ⟨d0, d1, d2, d3, d4, d5, d6, d7⟩ := hcell j p hp
    have I1 := Lib.hid i1
    have I2 := Lib.hid i2
    have I3 := Lib.hid i3
    have I4 := Lib.hid i4
    have I5 := Lib.hid i5
    have HPJ := Lib.hid hp
    clear i1 i2 i3 i4 i5 hp hcell
    have fin2 : ∀ (os : List Obj) (k : Nat), ¬ Tree (nds ps) → Turn (fun b1 => ((b1 = b + 1 ∨ b1 = b + 1 + 1 ∨ b + 5 ≤ b1) ∧ b1 < W5.heap.size) ∨ W'.heap.size ≤ b1) W2 (more (W2.setCell ⟨b + 1, 0, none⟩ (.int .i64 2)) os k) ∧
        ¬ Tree (nds ps) ∧ (more (W2.setCell ⟨b + 1, 0, none⟩ (.int .i64 2)) os k).heap[b + 1]? = some (.cells #[.int .i64 2] 26) ∧ Below w.heap.size w (more (W2.setCell ⟨b + 1, 0, none⟩ (.int .i64 2)) os k) := fun os k hT => by
      have T := Turn.setCell (S := fun k => k = b + 1) W2 (p := ⟨b + 1, 0, none⟩) rfl (.int .i64 2)
      have E : Ext (W2.setCell ⟨b + 1, 0, none⟩ (.int .i64 2)) (more (W2.setCell ⟨b + 1, 0, none⟩ (.int .i64 2)) os k) := ⟨os, k, rfl⟩
      have T2 := T.trans (Turn.of_ext E)
      refine ⟨T2.mono fun k _ hk => .inl ⟨.inl hk, by omega⟩, hT, ext_block ?_ E, I4.out.trans (T2.below I4.out.size fun k hk => by omega)⟩
      simp [World.setCell, Array.getElem?_modify, I2.out]
    have fin1 : ∀ (os : List Obj) (k : Nat), Bare p.nd ∧ (0 < j → p.nd.kind ≠ 1) → Turn (fun b1 => ((b1 = b + 1 ∨ b1 = b + 1 + 1 ∨ b + 5 ≤ b1) ∧ b1 < W5.heap.size) ∨ W'.heap.size ≤ b1) W2 (more (W2.setCell ⟨b + 1 + 1, 0, none⟩ (.int .i64 ((j : Int) + 1))) os k) ∧
        (more (W2.setCell ⟨b + 1 + 1, 0, none⟩ (.int .i64 ((j : Int) + 1))) os k).heap[b]? = some (.cells #[.slice (some ⟨bA, off, none⟩) ps.length c] 23) ∧ (more (W2.setCell ⟨b + 1 + 1, 0, none⟩ (.int .i64 ((j : Int) + 1))) os k).heap[b + 1]? = some (.cells #[.int .i64 0] 26) ∧
        (more (W2.setCell ⟨b + 1 + 1, 0, none⟩ (.int .i64 ((j : Int) + 1))) os k).heap[b + 1 + 1]? = some (.cells #[.int .i64 ((j + 1 : Nat) : Int)] 3) ∧ Below w.heap.size w (more (W2.setCell ⟨b + 1 + 1, 0, none⟩ (.int .i64 ((j : Int) + 1))) os k) ∧
        ∀ i p, i < j + 1 → ps[i]? = some p → Bare p.nd ∧ (0 < i → p.nd.kind ≠ 1) := fun os k hT => by
      have T := Turn.setCell (S := fun k => k = b + 1 + 1) W2 (p := ⟨b + 1 + 1, 0, none⟩) rfl (.int .i64 ((j : Int) + 1))
      have E : Ext (W2.setCell ⟨b + 1 + 1, 0, none⟩ (.int .i64 ((j : Int) + 1))) (more (W2.setCell ⟨b + 1 + 1, 0, none⟩ (.int .i64 ((j : Int) + 1))) os k) := ⟨os, k, rfl⟩
      have T2 := T.trans (Turn.of_ext E)
      refine ⟨T2.mono fun k _ hk => .inl ⟨.inr (.inl hk), by omega⟩, (T2.block _ l1 (by omega)).trans I1.out, (T2.block _ l2 (by omega)).trans I2.out, ext_block ?_ E, I4.out.trans (T2.below I4.out.size fun k hk => by omega), fun i q hi hq => ?_⟩
      · simp [World.setCell, Array.getElem?_modify, I3.out]
      · rcases (show i < j ∨ i = j by omega) with h | rfl
        · exact I5.out i q h hq
        · rw [HPJ.out] at hq
          injection hq with hq
          subst hq
          exact hT
    have notT : ¬ (Bare p.nd ∧ (0 < j → p.nd.kind ≠ 1)) → ¬ Tree (nds ps) := fun hn T => hn (T.bare j _ (nds_get HPJ.out))
    have F1 := Lib.hid fin1
    have F2 := Lib.hid fin2
    have NT := Lib.hid notT
    clear fin1 fin2 notT
    by_cases hB : Bare p.nd
    · have hBd : decide (Bare p.nd) = true := decide_eq_true hB
      have HB := Lib.hid hB
      clear hB
      by_cases hj : 0 < j
      · have hj1 : decide (0 < j) = true := decide_eq_true hj
        have HJ := Lib.hid hj
        clear hj
        by_cases hk : p.nd.kind = 1
        · have hk1 : (p.nd.kind == 1) = true := by simpa using hk
          have HK := Lib.hid hk
          clear hk
          gi_wp2_with (first | (refine ⟨trivial, rfl, ?_⟩; refine (CallsIn.inRound l (callsIn_wide.2 (bare_any p _))).mono ?_; rintro e w3 ⟨rfl, os3, k3, rfl⟩))
          have h := F2.out os3 k3 (NT.out fun hh => hh.2 HJ.out HK.out)
          exact ⟨h.1, rfl, h.2⟩
        · have hk1 : (p.nd.kind == 1) = false := by simpa using hk
          have HK := Lib.hid hk
          clear hk
          gi_wp2_with (first | (refine ⟨trivial, rfl, ?_⟩; refine (CallsIn.inRound l (callsIn_wide.2 (bare_any p _))).mono ?_; rintro e w3 ⟨rfl, os3, k3, rfl⟩))
          exact F1.out _ _ ⟨HB.out, fun _ => HK.out⟩
      · have hj1 : decide (0 < j) = false := decide_eq_false hj
        have HJ := Lib.hid hj
        clear hj
        gi_wp2_with (first | (refine ⟨trivial, rfl, ?_⟩; refine (CallsIn.inRound l (callsIn_wide.2 (bare_any p _))).mono ?_; rintro e w3 ⟨rfl, os3, k3, rfl⟩))
        exact F1.out _ _ ⟨HB.out, fun h => absurd h HJ.out⟩
    · have hBd : decide (Bare p.nd) = false := decide_eq_false hB
      have HB := Lib.hid hB
      clear hB
      gi_wp2_with (first | (refine ⟨trivial, rfl, ?_⟩; refine (CallsIn.inRound l (callsIn_wide.2 (bare_any p _))).mono ?_; rintro e w3 ⟨rfl, os3, k3, rfl⟩))
      have h := F2.out os3 k3 (NT.out fun hh => HB.out hh.1)
      exact ⟨h.1, rfl, h.2⟩
  · rintro D W' ⟨i1, i2, i3, i4, i5⟩ hD hsz hk
    rw [places_length] at i3 i5
    have c1 := cell_of_row _ _ 0 _ _ _ i1
    have c2 := cell_of_row _ _ 0 _ _ _ i2
    have c3 := cell_of_row _ _ 0 _ _ _ i3
    simp at c1 c2 c3
    have l1 := lt_of_heap i1
    have l2 := lt_of_heap i2
    have l3 := lt_of_heap i3
    have lD := lt_of_heap hk
    have r2 : W'.frozen? ⟨b + 1, 0, none⟩ = false := by simp [World.frozen?, i2]
    have fin : ∀ (X : World) (v : Int), Ext W' X → Ext w ((X.setCell ⟨b + 1, 0, none⟩ (.int .i64 v)).putObj D (.deferred none)) ∧ ((X.setCell ⟨b + 1, 0, none⟩ (.int .i64 v)).putObj D (.deferred none)).cell? ⟨b + 1, 0, none⟩ = some (.int .i64 v) ∧
        (X.setCell ⟨b + 1, 0, none⟩ (.int .i64 v)).heap[D]? = some (.deferred (some [])) := fun X v hX => by
      have T := Turn.setCell (S := fun k => k = b + 1) X (p := ⟨b + 1, 0, none⟩) rfl (.int .i64 v)
      have hX2 := ext_block i2 hX
      have hXD := ext_block hk hX
      have h1 : (X.setCell ⟨b + 1, 0, none⟩ (.int .i64 v)).heap[b + 1]? = some (.cells #[.int .i64 v] 26) := by simp [World.setCell, Array.getElem?_modify, hX2]
      have i4X := i4.trans (hX.below.mono i4.size)
      have i4X2 := i4X.trans (T.below i4X.size fun k hk => by omega)
      refine ⟨Ext.of_below (i4X2.trans ((putObj_turn (S := fun b => b = D) _ _ rfl).below i4X2.size fun k hk => by omega)), ?_, (T.block _ (lt_of_heap hXD) (by omega)).trans hXD⟩
      have := cell_of_row _ _ 0 _ _ _ ((putObj_other (X.setCell ⟨b + 1, 0, none⟩ (.int .i64 v)) (.deferred none) (show D ≠ b + 1 by omega)).trans h1)
      simpa using this
    have FX := Lib.hid (fun (X : World) (hX : Ext W' X) => (⟨(hX.below.cell (p := ⟨b, 0, none⟩) l1).trans c1, (hX.below.cell (p := ⟨b + 1, 0, none⟩) l2).trans c2, (hX.below.frozen (p := ⟨b + 1, 0, none⟩) l2).trans r2, Nat.lt_of_lt_of_le l1 hX.size, Nat.lt_of_lt_of_le l2 hX.size⟩ :
      X.cell? ⟨b, 0, none⟩ = some (.slice A ps.length c) ∧ X.cell? ⟨b + 1, 0, none⟩ = some (.int .i64 0) ∧ X.frozen? ⟨b + 1, 0, none⟩ = false ∧ b < X.heap.size ∧ b + 1 < X.heap.size))
    have I1 := Lib.hid i1
    have I4 := Lib.hid i4
    have I5 := Lib.hid i5
    have FIN := Lib.hid fin
    have HK := Lib.hid hk
    clear i1 i2 i3 i4 i5 fin hk
    by_cases hML : M = ps.length
    · have hm1 : ((M : Int) != (ps.length : Int)) = false := by simp [hML]
      by_cases h0 : M = 0
      · have hm2 : ((M : Int) == 0) = true := by simp [h0]
        have HML := Lib.hid hML
        have H0 := Lib.hid h0
        clear hML h0
        go_wp2_with fail
        obtain ⟨f1, f2, f3⟩ := FIN.out W' 2 (Ext.refl _)
        refine marks_ret1 (D := D) (v := .int .i64 2) rfl f3 (by simp [results, Try.results43, go_sem, f2]) ⟨by rw [HC.out.2 (fun T => by have := T.pos; rw [nds_length] at this; have := HML.out; have := H0.out; omega)], f1⟩
      · have hm2 : ((M : Int) == 0) = false := by simp [h0]
        have HT2 : Hid (Trek (nds ps) [0] 0 ok (nds ps).length) := by rw [nds_length, ← hML]; exact HT.out
        clear hML h0
        go_wp2_with fail
        go_loopw [5, 44] (fun s i wr => ∃ j n : Nat, j ≤ ps.length ∧ i = .int .i64 j ∧ s = .int .i64 n ∧ Hid (n = kc (nds ps) 0 j) ∧ n ≤ 1000000 ∧ Ext W' wr) (fun _ i _ => ps.length - (intOf i).toNat)
        case atStart => exact ⟨0, 0, Nat.zero_le _, rfl, rfl, Lib.hid (kc_self _ _).symm, by omega, Ext.refl _⟩
        case round =>
          obtain ⟨j, n, hj, rfl, rfl, hn, hn2, hx⟩ := hrel
          by_cases hlt : j < ps.length
          · obtain ⟨p, hp⟩ : ∃ p, ps[j]? = some p := ⟨_, List.getElem?_eq_getElem hlt⟩
            obtain ⟨bA, off, rfl, hbA, hcell⟩ := (HP.out.below (I4.out.trans (hx.below.mono I4.out.size))) (by omega)
            obtain ⟨d0, d1, d2, d3, d4, d5, d6, d7⟩ := hcell j p hp
            have HN : Hid (n + p.nd.kids.length = kc (nds ps) 0 (j + 1)) := by rw [kc_add _ (Nat.zero_le j) (show j ≤ j + 1 by omega), kc_one (nds_get hp), ← hn.out]; exact Lib.hid rfl
            have hb1 : n + p.nd.kids.length ≤ 1000000 := by rw [HN.out]; exact HFK.out _
            have HX := Lib.hid hx
            clear hx hcell hp
            go_wp2_with fail
            go_roundw
            case rel => exact ⟨j + 1, n + p.nd.kids.length, by omega, by go_num, by go_num, HN, hb1, HX.out.alloc _⟩
            case measure => simp [intOf]; omega
          · obtain rfl : j = ps.length := by omega
            obtain ⟨g1, g2, g3, g4, g5⟩ := FX.out wr hx
            have HX := Lib.hid hx
            clear hx
            by_cases hke : n + 1 = ps.length
            · have hok : ok = true := (trek_ok HT2.out).1 (by rw [nds_length, ← hn.out]; exact hke)
              have ht3 : Trek (nds ps) [0] 0 true ps.length := by have := HT2.out; rw [hok, nds_length] at this; exact this
              have hke2 : ((n : Int) != (ps.length : Int) - 1) = false := by simp; omega
              have KO := Lib.hid (trek_kids ht3)
              have HT3 := Lib.hid ht3
              have HML2 : Hid (M = ps.length) := Lib.hid (by have := (HT2.out.det HT.out).2; rwa [nds_length] at this)
              have CA := Lib.hid (hasParts 99 #[pt b] (fun p => !liesB (nds ps) p.nd.hi p.nd.lo p.nd.kids) A c ps wr (HP.out.below (I4.out.trans (HX.out.below.mono I4.out.size))) (by omega)
                (enters_of Try.func99 (by kernel_rfl) rfl) (fun w1 p h1 h2 => check1_any b A c ps p w1 (ext_block (ext_block I1.out HX.out) h1) (HP.out.below (I4.out.trans ((HX.out.trans h1).below.mono I4.out.size))) (by omega)
                  ((HO.out p h2).below (I4.out.trans ((HX.out.trans h1).below.mono I4.out.size))) (KO.out p h2)))
              clear hke hok ht3
              go_wp2_with fail
              refine CA.out.mono ?_
              rintro e w2 ⟨rfl, hx2⟩
              obtain ⟨k1, k2, k3, k4, k5⟩ := FX.out w2 (HX.out.trans hx2)
              have HX2 := Lib.hid (HX.out.trans hx2)
              clear hx2
              cases hany : ps.any (fun p => !liesB (nds ps) p.nd.hi p.nd.lo p.nd.kids) with
              | true =>
                have hnT : ¬ Tree (nds ps) := fun T => by
                  obtain ⟨p, hp, hq⟩ := List.any_eq_true.1 hany
                  rw [T.lies p.nd (List.mem_map.2 ⟨p, hp, rfl⟩)] at hq
                  cases hq
                have HNT := Lib.hid hnT
                clear hany hnT
                go_wp2_with fail
                obtain ⟨f1, f2, f3⟩ := FIN.out w2 2 HX2.out
                refine marks_ret1 (D := D) (v := .int .i64 2) rfl f3 (by simp [results, Try.results43, go_sem, f2]) ⟨by rw [HC.out.2 HNT.out], f1⟩
              | false =>
                have hT : Tree (nds ps) := by
                  refine ⟨fun i q hq => ?_, by rw [nds_length]; exact HT3.out, fun q hq => ?_⟩
                  · obtain ⟨p, hp, rfl⟩ := nds_get' hq
                    exact I5.out i p (by have := lt_of_get hp; have := HML2.out; omega) hp
                  · obtain ⟨p, hp, rfl⟩ := List.mem_map.1 hq
                    have := List.any_eq_false.1 hany p hp
                    simpa using this
                have HNT := Lib.hid hT
                clear hany hT
                go_wp2_with fail
                obtain ⟨f1, f2, f3⟩ := FIN.out w2 0 HX2.out
                refine marks_ret1 (D := D) (v := .int .i64 0) rfl f3 (by simp [results, Try.results43, go_sem, f2]) ⟨by rw [HC.out.1 HNT.out], f1⟩
            · have hnT : ¬ Tree (nds ps) := fun T => hke (by
                have h1 := (T.ends HT.out).1
                have := (trek_ok HT2.out).2 h1
                rw [nds_length, ← hn.out] at this
                exact this)
              have HNT := Lib.hid hnT
              have hke2 : ((n : Int) != (ps.length : Int) - 1) = true := by simp; omega
              clear hke hnT
              go_wp2_with fail
              obtain ⟨f1, f2, f3⟩ := FIN.out wr 2 HX.out
              refine marks_ret1 (D := D) (v := .int .i64 2) rfl f3 (by simp [results, Try.results43, go_sem, f2]) ⟨by rw [HC.out.2 HNT.out], f1⟩
    · have hm1 : ((M : Int) != (ps.length : Int)) = true := by simp; omega
      have HML := Lib.hid hML
      clear hML
      go_wp2_with fail
      obtain ⟨f1, f2, f3⟩ := FIN.out W' 2 (Ext.refl _)
      refine marks_ret1 (D := D) (v := .int .i64 2) rfl f3 (by simp [results, Try.results43, go_sem, f2]) ⟨by rw [HC.out.2 (fun T => HML.out (by have := (T.ends HT.out).2; rwa [nds_length] at this))], f1⟩
  · rintro D cd j W' hj ⟨rfl, hT, i3, i4⟩ hD hsz hk
    have hq := (putObj_other W' (.deferred none) (show D ≠ b + 1 by omega)).trans i3
    have c1 := cell_of_row _ _ 0 _ _ _ hq
    simp at c1
    go_wp2_with fail
    refine marks_ret1 (D := D) (v := .int .i64 2) rfl hk (by simp [results, Try.results43, go_sem, c1]) ⟨by rw [HC.out.2 hT], ?_⟩
    exact Ext.of_below (i4.trans ((putObj_turn (S := fun b => b = D) _ _ rfl).below i4.size fun k hk => by omega))
end Go.Proofs.Ytggmljookcmnkaa
