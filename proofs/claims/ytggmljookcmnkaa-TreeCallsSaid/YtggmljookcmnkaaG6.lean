/- Light trees are near; refusals of Stale, Edit; Edit on light trees. -/
import Derived.Test.YtggmljookcmnkaaG4
import Derived.Test.YtggmljookcmnkaaB7
import Derived.Test.YtggmljookcmnkaaE3
import Derived.WalkSpells
import Derived.WalkLawsBesides
import Derived.BigRegion
import Derived.Deep.RegionWith
import Derived.Deep.QuietTactic
import Derived.Deep.DeepCutAuto
import Derived.Deep.RegionHeld3
import Derived.Deep.RegionLaw
import Derived.BigQuiet
import Derived.Lib.Hide
namespace Go.Proofs.Ytggmljookcmnkaa
open Go.RowKit
attribute [local go_sem] more_drew more_drewN more_size more_cell more_frozen more_setCell drew_more drewN_more lt_add_r lt_add_r2 lt_add_r3 lt_add_r4 lt_add_r5 lt_add_r6 lt_add_r7 lt_add_r8 lt_add_r9 lt_add_r10 lt_self_r lt_self_r2

theorem near_of {most : Nat} {ps : List Prt} (h : LightP most ps) (T : Tree (nds ps)) : ∀ p ∈ ps, Near p.nd := by
  intro p hp
  obtain ⟨h1, h2, h3⟩ := h.places p hp
  obtain ⟨j, hj, rfl⟩ := List.getElem_of_mem hp
  have hb := (T.bare j _ (nds_get (List.getElem?_eq_getElem hj))).1
  obtain ⟨b1, b2, b3, b4, b5, b6, b7, b8, b9⟩ := hb
  unfold Lt20 at h1 h2 h3
  refine ⟨?_, ?_, ?_, ?_⟩
  · unfold Lt30'; omega
  · unfold Lt30'
    by_cases ht : TokK ps[j].nd.kind
    · have := b6 ht; omega
    · have := b7 ht; omega
  · unfold Lt30'; omega
  · unfold Lt30'; omega
theorem bits_or_zero {m : Int} (h : 0 ≤ m ∧ m ≤ 18446744073709551615) : bits .or .u64 m 0 = m := by
  rw [bits_or64]
  have e : BitVec.ofInt 64 0 = 0#64 := rfl
  rw [e, BitVec.or_zero, BitVec.toNat_ofInt]
  have : ((2 ^ 64 : Nat) : Int) = 18446744073709551616 := rfl
  rw [this]
  omega
theorem near_unmet {ps : List Prt} {qs : List Prt} (h : ∀ p ∈ ps, Near p.nd) (e : nds qs = (nds ps).map Nd.unmet) : ∀ q ∈ qs, Near q.nd := by
  intro q hq
  have h1 : q.nd ∈ nds qs := List.mem_map_of_mem hq
  rw [e] at h1
  obtain ⟨y, hy, hye⟩ := List.mem_map.1 h1
  obtain ⟨p, hp, rfl⟩ := List.mem_map.1 hy
  have := h p hp
  rw [← hye]
  exact ⟨this.lo, this.inn, this.hi, this.look⟩
theorem LightEd.b30 {a d i : Int} (h : LightEd a d i) : Lt30 a ∧ Lt30 d ∧ Lt30 i := by
  unfold LightEd Lt20 at h
  unfold Lt30
  omega
section
variable {A : Option Addr} {c : Nat} {ps : List Prt} {w : World}
set_option maxRecDepth 100000 in
set_option maxHeartbeats 2000000 in
theorem stale_no (h : PS w A c ps) (T : ¬ Tree (nds ps)) : Calls Try.prog 49 #[.slice A ps.length c] w fun e w' => e = .returned (.slice none 0 0) ∧ Ext w w' := by
  have CH := Lib.hid (check_no h T)
  clear h T
  refine calls_of_marks Try.func49 rfl ?_
  simp only [Try.ntmps49, List.size_toArray, List.length_cons, List.length_nil, Nat.reduceAdd, Nat.reduceSub, Array.replicate_succ, Array.replicate_zero, List.push_toArray, List.append_toArray, List.nil_append, List.cons_append]
  go_wp2_with fail
  refine CH.out.mono ?_
  rintro e w3 ⟨rfl, hx3⟩
  have HX3 := Lib.hid hx3
  clear hx3
  go_wp2_with fail
  exact marks_ret (v := .slice none 0 0) rfl (by simp [results, Try.results49, go_sem]) ⟨rfl, HX3.out⟩
set_option maxRecDepth 100000 in
set_option maxHeartbeats 2000000 in
/-- no tree, or no edit: nothing -/
theorem edit_no (a d i bit : Int) (h : PS w A c ps) (T : ¬ (Tree (nds ps) ∧ 0 ≤ a ∧ 0 ≤ d ∧ 0 ≤ i)) : Calls Try.prog 41 #[.slice A ps.length c, .agg #[.int .i64 a, .int .i64 d, .int .i64 i], .int .u64 bit] w fun e w' => e = .returned (.slice none 0 0) ∧ Ext w w' := by
  have S := Lib.hid h
  have HT := Lib.hid T
  clear h T
  refine calls_of_marks Try.func41 rfl ?_
  simp only [Try.ntmps41, List.size_toArray, List.length_cons, List.length_nil, Nat.reduceAdd, Nat.reduceSub, Array.replicate_succ, Array.replicate_zero, List.push_toArray, List.append_toArray, List.nil_append, List.cons_append]
  go_wp2_with fail
  obtain ⟨b, hb⟩ : ∃ b, w.heap.size = b := ⟨_, rfl⟩
  obtain ⟨W2, hW2⟩ : ∃ W2, (w.alloc (.cells #[.int .i64 a, .int .i64 d, .int .i64 i] 63)).alloc (.cells #[.int .u64 bit] 31) = W2 := ⟨_, rfl⟩
  have X2 : Ext w W2 := by rw [← hW2]; exact (by repeat (first | exact Ext.refl _ | refine Ext.alloc ?_ _ | refine Ext.more ?_ _ _ | refine Ext.drew ?_ | refine Ext.drewN ?_ _ | refine Ext.setCell ?_ (by simp <;> omega) _))
  have G0 : W2.heap[b]? = some (.cells #[.int .i64 a, .int .i64 d, .int .i64 i] 63) := by rw [← hW2, ← hb]; exact (by simp only [heap_alloc_get, World.size_alloc]; (repeat (split; (first | rfl | (exfalso; omega)))); (try (first | (exfalso; omega) | simp_all)))
  rw [hW2, hb]
  clear hW2
  by_cases T : Tree (nds ps)
  · have HT2 := Lib.hid T
    refine (check_ok (S.out.ext X2) T).mono ?_
    rintro e w1 ⟨rfl, hx1⟩
    have HX1 := Lib.hid (X2.trans hx1)
    have HG0 := ext_block G0 hx1
    have k0 := cell_of_row _ _ 0 _ _ _ HG0
    have k1 := cell_of_row _ _ 1 _ _ _ HG0
    have k2 := cell_of_row _ _ 2 _ _ _ HG0
    simp at k0 k1 k2
    have l0 := lt_of_heap HG0
    clear G0 X2 hx1 HG0 T
    have hcase : (decide (a < 0) = true) ∨ (decide (a < 0) = false ∧ decide (d < 0) = true) ∨ (decide (a < 0) = false ∧ decide (d < 0) = false ∧ decide (i < 0) = true) := by
      have := HT.out
      by_cases h1 : a < 0
      · exact .inl (decide_eq_true h1)
      · by_cases h2 : d < 0
        · exact .inr (.inl ⟨decide_eq_false h1, decide_eq_true h2⟩)
        · by_cases h3 : i < 0
          · exact .inr (.inr ⟨decide_eq_false h1, decide_eq_false h2, decide_eq_true h3⟩)
          · exact absurd ⟨HT2.out, by omega, by omega, by omega⟩ this
    rcases hcase with z1 | ⟨z1, z2⟩ | ⟨z1, z2, z3⟩
    all_goals
      go_wp2_with fail
      exact marks_ret (v := .slice none 0 0) rfl (by simp [results, Try.results41, go_sem]) ⟨rfl, HX1.out⟩
  · refine (check_no (S.out.ext X2) T).mono ?_
    rintro e w1 ⟨rfl, hx1⟩
    have HX1 := Lib.hid (X2.trans hx1)
    clear G0 X2 hx1
    go_wp2_with fail
    exact marks_ret (v := .slice none 0 0) rfl (by simp [results, Try.results41, go_sem]) ⟨rfl, HX1.out⟩
end
end Go.Proofs.Ytggmljookcmnkaa
