/- The contracts of example, sub, lives, light of chapter 20. -/
import Derived.Test.YtaffaeompdlecaaV4
import Derived.Test.YtaffaeompdlecaaB7
import Derived.WalkSpells
import Derived.WalkLawsBesides
import Derived.BigRegion
import Derived.Deep.RegionWith
import Derived.Deep.QuietTactic
import Derived.Deep.DeepCutAuto
import Derived.Deep.RegionHeld3
import Derived.Deep.RegionLaw
import Derived.BigQuiet
import Derived.Lib.Hide
namespace Go.Proofs.Ytaffaeompdlecaa
open Go.RowKit
attribute [local go_sem] more_drew more_drewN more_size more_cell more_frozen more_setCell drew_more drewN_more lt_add_r lt_add_r2 lt_add_r3 lt_add_r4 lt_add_r5 lt_add_r6 lt_add_r7 lt_add_r8 lt_add_r9 lt_add_r10 lt_self_r lt_self_r2

/-- the chapter's tree, its token's bits m -/
def exT (m : Int) : List Nd := [⟨-3, 1, 0, 0, 2, 1, [1, 3], 0⟩, ⟨1, 2, 0, 0, 2, 3, [2], 0⟩, ⟨0, 3, 0, 0, 2, 3, [], m⟩, ⟨-2, 6, 2, 2, 2, 3, [], 0⟩]
def exTP (b : Nat) (m : Int) : List Prt := [⟨⟨-3, 1, 0, 0, 2, 1, [1, 3], 0⟩, some ⟨b, 0, none⟩, 2⟩, ⟨⟨1, 2, 0, 0, 2, 3, [2], 0⟩, some ⟨b + 1, 0, none⟩, 1⟩, ⟨⟨0, 3, 0, 0, 2, 3, [], m⟩, none, 0⟩, ⟨⟨-2, 6, 2, 2, 2, 3, [], 0⟩, none, 0⟩]
theorem exTP_nds (b : Nat) (m : Int) : nds (exTP b m) = exT m := rfl
theorem exT_kc (m : Int) (j : Nat) : kc (exT m) 0 j ≤ 1000000 := Nat.le_trans (kc_all (exT m) j) (by show kc (exT m) 0 4 ≤ _; simp [kc, exT])
theorem exT_part (m : Int) : Part (exT m) 1 3 := ⟨by show 1 < 4; omega, Trek.one (l := exT m) (n := 1) (p := ⟨1, 2, 0, 0, 2, 3, [2], 0⟩) rfl (Trek.one (l := exT m) (n := 2) (p := ⟨0, 3, 0, 0, 2, 3, [], m⟩) rfl (.nil 3)), by show 3 ≤ 4; omega⟩
theorem exT_tree (m : Int) : Tree (exT m) := by
  refine ⟨fun i p h => ?_, ?_, fun p hp => ?_⟩
  · rcases get4 h with ⟨rfl, rfl⟩ | ⟨rfl, rfl⟩ | ⟨rfl, rfl⟩ | ⟨rfl, rfl⟩ <;> exact ⟨by simp [Bare, TokK, LeafK], by simp⟩
  · refine Trek.one (p := ⟨-3, 1, 0, 0, 2, 1, [1, 3], 0⟩) rfl ?_
    refine Trek.cons (l := exT m) ⟨1, 2, 0, 0, 2, 3, [2], 0⟩ [3] 1 3 true 4 rfl ?_ ?_
    · exact Trek.one (l := exT m) (n := 2) (p := ⟨0, 3, 0, 0, 2, 3, [], m⟩) rfl (.nil 3)
    · exact Trek.one (l := exT m) (n := 3) (p := ⟨-2, 6, 2, 2, 2, 3, [], 0⟩) rfl (.nil 4)
  · simp only [exT, List.mem_cons, List.not_mem_nil, or_false] at hp
    rcases hp with rfl | rfl | rfl | rfl <;> rfl
/-- the nonterminal anew -/
def exS : List Nd := [⟨1, 2, 0, 0, 2, 3, [1, 2], 0⟩, ⟨0, 3, 0, 0, 1, 3, [], 0⟩, ⟨0, 3, 1, 1, 2, 3, [], 0⟩]
def exSP (b : Nat) : List Prt := [⟨⟨1, 2, 0, 0, 2, 3, [1, 2], 0⟩, some ⟨b, 0, none⟩, 2⟩, ⟨⟨0, 3, 0, 0, 1, 3, [], 0⟩, none, 0⟩, ⟨⟨0, 3, 1, 1, 2, 3, [], 0⟩, none, 0⟩]
theorem exSP_nds (b : Nat) : nds (exSP b) = exS := rfl
theorem exS_kc (j : Nat) : kc exS 0 j ≤ 1000000 := Nat.le_trans (kc_all exS j) (by decide)
theorem get3 {α : Type} {a b c x : α} {i : Nat} (h : [a, b, c][i]? = some x) : (i = 0 ∧ x = a) ∨ (i = 1 ∧ x = b) ∨ (i = 2 ∧ x = c) := by
  match i, h with
  | 0, h => simp at h; exact .inl ⟨rfl, h.symm⟩
  | 1, h => simp at h; exact .inr (.inl ⟨rfl, h.symm⟩)
  | 2, h => simp at h; exact .inr (.inr ⟨rfl, h.symm⟩)
  | i + 3, h => simp at h
theorem exS_tree : Tree exS := by
  refine ⟨fun i p h => ?_, ?_, fun p hp => ?_⟩
  · rcases get3 h with ⟨rfl, rfl⟩ | ⟨rfl, rfl⟩ | ⟨rfl, rfl⟩ <;> exact ⟨by decide, by decide⟩
  · refine Trek.one (p := ⟨1, 2, 0, 0, 2, 3, [1, 2], 0⟩) rfl ?_
    refine Trek.cons (l := exS) ⟨0, 3, 0, 0, 1, 3, [], 0⟩ [2] 1 2 true 3 rfl (.nil 2) ?_
    exact Trek.one (l := exS) (n := 2) (p := ⟨0, 3, 1, 1, 2, 3, [], 0⟩) rfl (.nil 3)
  · have : ∀ p ∈ exS, liesB exS p.hi p.lo p.kids = true := by decide
    exact this p hp
theorem exT_fits (m : Int) : FitsT (exT m) exS (1 : Nat) := ⟨exT_tree m, exS_tree, 1, ⟨1, 2, 0, 0, 2, 3, [2], 0⟩, ⟨1, 2, 0, 0, 2, 3, [1, 2], 0⟩, rfl, rfl, rfl, rfl, rfl, rfl, rfl⟩
theorem exTP_ps {W : World} {b : Nat} {m : Int} (hm : 0 ≤ m ∧ m ≤ 1000000) (G2 : W.heap[b + 1 + 1]? = some (.cells (pv (exTP b m)).toArray 35)) (G0 : W.heap[b]? = some (.cells #[.int .i64 1, .int .i64 3] 3)) (G1 : W.heap[b + 1]? = some (.cells #[.int .i64 2] 3)) : PS W (some ⟨b + 1 + 1, 0, none⟩) 4 (exTP b m) := by
  refine ⟨Prts.of_block G2 (by simp), ?_, ⟨Nat.le_of_ble_eq_true rfl, exT_kc m⟩, Nat.le_refl _, by omega, nofun⟩
  intro p hp
  simp only [exTP, List.mem_cons, List.not_mem_nil, or_false] at hp
  rcases hp with rfl | rfl | rfl | rfl
  · exact PrtOk.lit (Ints.of_block G0 rfl) (Nat.le_of_ble_eq_true rfl) (Nat.le_of_ble_eq_true rfl) nofun rfl
  · exact PrtOk.lit (Ints.of_block G1 rfl) (Nat.le_of_ble_eq_true rfl) (Nat.le_of_ble_eq_true rfl) nofun rfl
  · exact PrtOk.lit Ints.nil (Nat.le_of_ble_eq_true rfl) (Nat.le_of_ble_eq_true rfl) (fun _ => rfl) (by simp [smallB, smI, hm])
  · exact PrtOk.lit Ints.nil (Nat.le_of_ble_eq_true rfl) (Nat.le_of_ble_eq_true rfl) (fun _ => rfl) rfl
theorem exSP_ps {W : World} {b : Nat} (G1 : W.heap[b + 1]? = some (.cells (pv (exSP b)).toArray 35)) (G0 : W.heap[b]? = some (.cells #[.int .i64 1, .int .i64 2] 3)) : PS W (some ⟨b + 1, 0, none⟩) 3 (exSP b) := by
  refine ⟨Prts.of_block G1 (by simp), ?_, ⟨Nat.le_of_ble_eq_true rfl, exS_kc⟩, Nat.le_refl _, by omega, nofun⟩
  intro p hp
  simp only [exSP, List.mem_cons, List.not_mem_nil, or_false] at hp
  rcases hp with rfl | rfl | rfl
  · exact PrtOk.lit (Ints.of_block G0 rfl) (Nat.le_of_ble_eq_true rfl) (Nat.le_of_ble_eq_true rfl) nofun rfl
  · exact PrtOk.lit Ints.nil (Nat.le_of_ble_eq_true rfl) (Nat.le_of_ble_eq_true rfl) (fun _ => rfl) rfl
  · exact PrtOk.lit Ints.nil (Nat.le_of_ble_eq_true rfl) (Nat.le_of_ble_eq_true rfl) (fun _ => rfl) rfl
def Ex20 (w : World) (e : Ending) (w' : World) : Prop :=
  e = .returned (.slice (some ⟨w.heap.size + 1 + 1, 0, none⟩) 4 4) ∧ w'.heap[w.heap.size + 1 + 1]? = some (.cells (pv (exTP w.heap.size 0)).toArray 35) ∧ w'.heap[w.heap.size]? = some (.cells #[.int .i64 1, .int .i64 3] 3) ∧ w'.heap[w.heap.size + 1]? = some (.cells #[.int .i64 2] 3) ∧ Ext w w'
set_option maxRecDepth 100000 in
set_option maxHeartbeats 2000000 in
theorem example20_any (w : World) : Calls Try.prog 78 #[] w (Ex20 w) := by
  go_enter Try.func78, Try.ntmps78
  go_wp2_with fail
  go_ret
  have G0 : (((w.alloc (.cells #[.int .i64 1, .int .i64 3] 3)).alloc (.cells #[.int .i64 2] 3)).alloc (.cells (pv (exTP w.heap.size 0)).toArray 35)).heap[w.heap.size]? = some (.cells #[.int .i64 1, .int .i64 3] 3) := (by simp only [heap_alloc_get, World.size_alloc]; (repeat (split; (first | rfl | (exfalso; omega)))); (try (first | (exfalso; omega) | simp_all)))
  have G1 : (((w.alloc (.cells #[.int .i64 1, .int .i64 3] 3)).alloc (.cells #[.int .i64 2] 3)).alloc (.cells (pv (exTP w.heap.size 0)).toArray 35)).heap[w.heap.size + 1]? = some (.cells #[.int .i64 2] 3) := (by simp only [heap_alloc_get, World.size_alloc]; (repeat (split; (first | rfl | (exfalso; omega)))); (try (first | (exfalso; omega) | simp_all)))
  have G2 : (((w.alloc (.cells #[.int .i64 1, .int .i64 3] 3)).alloc (.cells #[.int .i64 2] 3)).alloc (.cells (pv (exTP w.heap.size 0)).toArray 35)).heap[w.heap.size + 1 + 1]? = some (.cells (pv (exTP w.heap.size 0)).toArray 35) := (by simp only [heap_alloc_get, World.size_alloc]; (repeat (split; (first | rfl | (exfalso; omega)))); (try (first | (exfalso; omega) | simp_all)))
  exact ⟨rfl, G2, G0, G1, (by repeat (first | exact Ext.refl _ | refine Ext.alloc ?_ _ | refine Ext.more ?_ _ _ | refine Ext.drew ?_ | refine Ext.drewN ?_ _ | refine Ext.setCell ?_ (by simp <;> omega) _))⟩
def Sub20 (w : World) (e : Ending) (w' : World) : Prop :=
  e = .returned (.slice (some ⟨w.heap.size + 1, 0, none⟩) 3 3) ∧ w'.heap[w.heap.size + 1]? = some (.cells (pv (exSP w.heap.size)).toArray 35) ∧ w'.heap[w.heap.size]? = some (.cells #[.int .i64 1, .int .i64 2] 3) ∧ Ext w w'
set_option maxRecDepth 100000 in
set_option maxHeartbeats 2000000 in
theorem sub20_any (w : World) : Calls Try.prog 79 #[] w (Sub20 w) := by
  go_enter Try.func79, Try.ntmps79
  go_wp2_with fail
  go_ret
  have G0 : ((w.alloc (.cells #[.int .i64 1, .int .i64 2] 3)).alloc (.cells (pv (exSP w.heap.size)).toArray 35)).heap[w.heap.size]? = some (.cells #[.int .i64 1, .int .i64 2] 3) := (by simp only [heap_alloc_get, World.size_alloc]; (repeat (split; (first | rfl | (exfalso; omega)))); (try (first | (exfalso; omega) | simp_all)))
  have G1 : ((w.alloc (.cells #[.int .i64 1, .int .i64 2] 3)).alloc (.cells (pv (exSP w.heap.size)).toArray 35)).heap[w.heap.size + 1]? = some (.cells (pv (exSP w.heap.size)).toArray 35) := (by simp only [heap_alloc_get, World.size_alloc]; (repeat (split; (first | rfl | (exfalso; omega)))); (try (first | (exfalso; omega) | simp_all)))
  exact ⟨rfl, G1, G0, (by repeat (first | exact Ext.refl _ | refine Ext.alloc ?_ _ | refine Ext.more ?_ _ _ | refine Ext.drew ?_ | refine Ext.drewN ?_ _ | refine Ext.setCell ?_ (by simp <;> omega) _))⟩
def jv : List Dty → List Value
  | [] => []
  | d :: js => dyCells d ++ jv js
theorem jv_get : ∀ (js : List Dty) (k r : Nat) (d : Dty), js[k]? = some d → r < 5 → (jv js)[k * 5 + r]? = (dyCells d)[r]?
  | [], k, r, d, h, _ => by simp at h
  | t :: js, 0, r, d, h, hr => by
    obtain rfl : t = d := by simpa using h
    rw [jv, Nat.zero_mul, Nat.zero_add, List.getElem?_append_left (by simpa [dyCells] using hr)]
  | t :: js, k + 1, r, d, h, hr => by
    have h' : js[k]? = some d := by simpa using h
    rw [jv, List.getElem?_append_right (by simp [dyCells]; omega), ← jv_get js k r d h' hr]
    congr 1
    simp [dyCells]
    omega
theorem JobsAt.of_block {w : World} {g : Nat} {cs : Array Value} {t : TypeId} {js : List Dty} (h : w.heap[g]? = some (.cells cs t)) (hc : cs.toList = jv js) : JobsAt w (some ⟨g, 0, none⟩) js := fun _ => by
  refine ⟨g, 0, rfl, lt_of_heap h, fun k d hk => ?_⟩
  have key : ∀ r, r < 5 → w.cell? ⟨g, k * 5 + r, none⟩ = (dyCells d)[r]? := fun r hr => by
    rw [cell_of_row _ _ _ _ _ (0, 0) h, ← jv_get js k r d hk hr, ← hc, Array.getElem?_toList]
  simp only [Nat.zero_add]
  exact ⟨key 0 (by omega), key 1 (by omega), key 2 (by omega), key 3 (by omega), key 4 (by omega)⟩
def job1 : Dty := ⟨1, 1, 3, 0, 0⟩
theorem job1_no (m : Int) : ¬ DoneOk (exT m) (1 : Nat) job1 := fun ⟨_, _, _, k, _, p, e, hp, _, _, h, _⟩ => by
  obtain rfl : k = 1 := by omega
  injection hp with hp
  subst hp
  exact absurd h (by decide)
/-- spliced, with bits left for the root -/
def exO (m : Int) : List Nd := [⟨-3, 1, 0, 0, 2, 1, [1, 4], m⟩, ⟨1, 2, 0, 0, 2, 3, [2, 3], 0⟩, ⟨0, 3, 0, 0, 1, 3, [], 0⟩, ⟨0, 3, 1, 1, 2, 3, [], 0⟩, ⟨-2, 6, 2, 2, 2, 3, [], 0⟩]
theorem exT_up {m : Int} {us : List Int} (h : ParOk (exT m) us) {u : Int} (hu : us[1]? = some u) : u = 0 := by
  have := h.2.2 1 0 ⟨⟨-3, 1, 0, 0, 2, 1, [1, 3], 0⟩, rfl, by decide⟩
  rw [hu] at this
  exact Option.some.inj this
theorem exO_get {m : Int} {qs : List Prt} (h : nds qs = exO m) (i : Nat) {p : Nd} (hp : (exO m)[i]? = some p) : ∃ q, qs[i]? = some q ∧ q.nd = p := nds_get' (by rw [h]; exact hp)
set_option maxRecDepth 100000 in
set_option maxHeartbeats 2000000 in
theorem lives20_any (w : World) : Calls Try.prog 71 #[] w fun e w' => e = .returned (.bool true) ∧ Ext w w' := by
  go_enter Try.func71, Try.ntmps71
  go_wp2_with fail
  refine (example20_any w).mono ?_
  rintro e w1 ⟨rfl, G2, G0, G1, hx1⟩
  obtain ⟨b, hb⟩ : ∃ b, w.heap.size = b := ⟨_, rfl⟩
  rw [hb] at G0 G1 G2 ⊢
  have HG0 := Lib.hid G0
  have HG1 := Lib.hid G1
  have HG2 := Lib.hid G2
  have HX1 := Lib.hid hx1
  have HB := Lib.hid hb
  have k23 := cell_of_row _ _ 23 _ _ _ G2
  have l23 := lt_of_heap G2
  have f23 : w1.frozen? ⟨b + 1 + 1, 23, none⟩ = false := by simp [World.frozen?, G2]
  simp [pv, exTP, prtCells] at k23
  clear G0 G1 G2 hx1 hb
  go_upto_region 3 with fail
  obtain ⟨w2, hw2⟩ : ∃ w2, w1.setCell ⟨b + 1 + 1, 23, none⟩ (.int .u64 2) = w2 := ⟨_, rfl⟩
  have HG02 : Hid (w2.heap[b]? = some (.cells #[.int .i64 1, .int .i64 3] 3)) := Lib.hid (by rw [← hw2]; simp [World.setCell, Array.getElem?_modify, HG0.out])
  have HG12 : Hid (w2.heap[b + 1]? = some (.cells #[.int .i64 2] 3)) := Lib.hid (by rw [← hw2]; simp [World.setCell, Array.getElem?_modify, HG1.out])
  have HG22 : Hid (w2.heap[b + 1 + 1]? = some (.cells (pv (exTP b 2)).toArray 35)) := Lib.hid (by rw [← hw2]; simp [World.setCell, Array.getElem?_modify, HG2.out]; rfl)
  have X2 : Hid (Ext w w2) := Lib.hid (by
    rw [← hw2]
    exact HX1.out.setCell (by show _ ≤ b + 1 + 1; have := HB.out; omega) _)
  rw [hw2]
  clear hw2 k23 l23 f23
  go_wp2_with fail
  refine (sub20_any w2).mono ?_
  rintro e w3 ⟨rfl, G31, G30, hx3⟩
  obtain ⟨g, hg⟩ : ∃ g, w2.heap.size = g := ⟨_, rfl⟩
  rw [hg] at G31 G30 ⊢
  have HG31 := Lib.hid G31
  have HG30 := Lib.hid G30
  have HX3 := Lib.hid hx3
  clear G31 G30 hx3
  go_wp2_with fail
  have X4 : Ext w2 (w3.alloc (.cells #[.int .i64 1, .int .i64 1, .int .i64 3, .int .i64 0, .int .i64 0] 82)) := HX3.out.alloc _
  have JA : JobsAt (w3.alloc (.cells #[.int .i64 1, .int .i64 1, .int .i64 3, .int .i64 0, .int .i64 0] 82)) (some ⟨w3.heap.size, 0, none⟩) [job1] := JobsAt.of_block (heap_alloc_new w3 _) rfl
  refine (splice_yes (ps := exTP b 2) (ss := exSP g) ((1 : Nat) : Int) (some ⟨w3.heap.size, 0, none⟩) 1 [job1] (exTP_ps (by omega) (ext_block HG22.out X4) (ext_block HG02.out X4) (ext_block HG12.out X4)) (exSP_ps (ext_block HG31.out ((Ext.refl _).alloc _)) (ext_block HG30.out ((Ext.refl _).alloc _)))
    (exT_fits 2) JA (by decide) (by decide)).mono ?_
  rintro e w5 ⟨k, m, us, u, fs, A, c, qs, D, d, hik, hp, hus, hu, hf, rfl, hn, ho, hi, hx⟩
  obtain rfl : k = 1 := by omega
  obtain rfl := (exT_part 2).det hp
  obtain rfl := exT_up hus hu
  obtain ⟨f, rfl⟩ : ∃ f, fs = [f] := by
    match fs, hf.1 with
    | [f], _ => exact ⟨f, rfl⟩
  obtain rfl : f = false := by
    cases f with
    | false => rfl
    | true => exact absurd ((hf.2 0 job1 true rfl rfl).1 rfl) (job1_no 2)
  have hn' : nds qs = exO 2 := by rw [hn, exTP_nds, exSP_nds]; decide
  have hql : qs.length = 5 := by rw [← nds_length, hn']; rfl
  have hdl : (doneL [job1] [false]).length = 0 := rfl
  have X5 : Hid (Ext w w5) := Lib.hid (X2.out.trans (X4.trans hx))
  obtain ⟨b9, off9, rfl, hb9, hc9⟩ := ho.cells.1 (by omega)
  have oc1 := ho.cells.2.1
  have oc2 := ho.cells.2.2.1
  unfold maxLen at oc2
  obtain ⟨q0, e0, n0⟩ := exO_get hn' 0 rfl
  obtain ⟨q1, e1, n1⟩ := exO_get hn' 1 rfl
  obtain ⟨q3, e3, n3⟩ := exO_get hn' 3 rfl
  have c0 := (hc9 0 q0 e0).2.2.2.2.2.2.2
  have c1 := (hc9 1 q1 e1).2.2.2.2.2.2.2
  have c3 := (hc9 3 q3 e3).2.2.1
  rw [n0] at c0
  rw [n1] at c1
  rw [n3] at c3
  rw [hql] at oc1 ⊢
  rw [hdl]
  simp only [Nat.zero_mul, Nat.one_mul, Nat.add_zero, Nat.reduceMul] at c0 c1 c3
  clear hik hp hus hu hf hn ho hi hx hn' hql hdl hc9 e0 e1 e3 n0 n1 n3 JA X4
  go_wp2_with fail
  go_ret
  exact ⟨rfl, X5.out⟩
end Go.Proofs.Ytaffaeompdlecaa
