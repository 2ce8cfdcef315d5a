/- B7: 2 texts in one. -/
import Derived.Test.YtggmljookcmnkaaB3
import Derived.Test.YtggmljookcmnkaaB6
import Derived.WalkSpells
import Derived.WalkLawsBesides
import Derived.BigRegion
import Derived.Deep.RegionWith
import Derived.Deep.QuietTactic
import Derived.Deep.DeepCutAuto
import Derived.Deep.RegionHeld3
import Derived.Deep.RegionLaw
import Derived.BigQuiet
import Derived.Lib.Hide
/- Parts that lie in a row of cells; the example, lives, light of chapter 16. -/
namespace Go.Proofs.Ytggmljookcmnkaa
open Go.RowKit
attribute [local go_sem] more_drew more_drewN more_size more_cell more_frozen more_setCell drew_more drewN_more lt_add_r lt_add_r2 lt_add_r3 lt_add_r4 lt_add_r5 lt_add_r6 lt_add_r7 lt_add_r8 lt_add_r9 lt_add_r10 lt_self_r lt_self_r2

/-- the cells of parts -/
def pv (ps : List Prt) : List Value := ps.flatMap prtCells
theorem pv_length (ps : List Prt) : (pv ps).length = ps.length * 8 := by
  induction ps with
  | nil => rfl
  | cons p ps ih => simp only [pv, List.flatMap_cons, List.length_append, List.length_cons] at *; rw [ih]; simp [prtCells]; omega
theorem pv_append (ps qs : List Prt) : pv (ps ++ qs) = pv ps ++ pv qs := List.flatMap_append
theorem pv_get : ∀ {ps : List Prt} {k : Nat} {p : Prt} (r : Nat), ps[k]? = some p → r < 8 → (pv ps)[k * 8 + r]? = (prtCells p)[r]?
  | [], k, p, r, h, _ => by simp at h
  | q :: ps, 0, p, r, h, hr => by
    simp at h
    subst h
    simp only [pv, List.flatMap_cons, Nat.zero_mul, Nat.zero_add]
    rw [List.getElem?_append_left (by simp [prtCells]; omega)]
  | q :: ps, k + 1, p, r, h, hr => by
    simp only [pv, List.flatMap_cons]
    rw [List.getElem?_append_right (by simp [prtCells]; omega)]
    have := pv_get (ps := ps) (k := k) r (by simpa using h) hr
    rw [← this]
    congr 1
    simp [prtCells]
    omega
theorem Prts.of_cells {w : World} {A : Option Addr} {ps : List Prt} (h : CellsAt w A (pv ps)) : Prts w A ps := fun h0 => by
  obtain ⟨b, off, hA, hb, hc⟩ := h (by rw [pv_length]; omega)
  refine ⟨b, off, hA, hb, fun k p hk => ?_⟩
  have key : ∀ r v, r < 8 → (prtCells p)[r]? = some v → w.cell? ⟨b, off + k * 8 + r, none⟩ = some v := fun r v hr hv => by
    rw [Nat.add_assoc]
    exact hc _ _ ((pv_get r hk hr).trans hv)
  exact ⟨by have := key 0 _ (by omega) rfl; simpa using this, key 1 _ (by omega) rfl, key 2 _ (by omega) rfl, key 3 _ (by omega) rfl, key 4 _ (by omega) rfl, key 5 _ (by omega) rfl, key 6 _ (by omega) rfl, key 7 _ (by omega) rfl⟩
theorem CellsAt.of_prts {w : World} {A : Option Addr} {ps : List Prt} (h : Prts w A ps) : CellsAt w A (pv ps) := fun h0 => by
  rw [pv_length] at h0
  obtain ⟨b, off, hA, hb, hc⟩ := h (by omega)
  refine ⟨b, off, hA, hb, fun j u hu => ?_⟩
  have hj : j < ps.length * 8 := by rw [← pv_length]; exact (List.getElem?_eq_some_iff.1 hu).1
  obtain ⟨k, r, rfl, hr⟩ : ∃ k r, j = k * 8 + r ∧ r < 8 := ⟨j / 8, j % 8, by omega, by omega⟩
  obtain ⟨p, hp⟩ : ∃ p, ps[k]? = some p := ⟨_, List.getElem?_eq_getElem (by omega)⟩
  obtain ⟨c0, c1, c2, c3, c4, c5, c6, c7⟩ := hc k p hp
  rw [pv_get r hp hr] at hu
  rw [← Nat.add_assoc]
  rcases (show r = 0 ∨ r = 1 ∨ r = 2 ∨ r = 3 ∨ r = 4 ∨ r = 5 ∨ r = 6 ∨ r = 7 by omega) with rfl | rfl | rfl | rfl | rfl | rfl | rfl | rfl <;> (cases hu; first | assumption | (simpa using c0))
theorem pv_one (ps : List Prt) : ∀ u ∈ pv ps, u.oneCell' = true := by
  intro u hu
  obtain ⟨x, _, hx⟩ := List.mem_flatMap.1 hu
  simp only [prtCells, List.mem_cons, List.not_mem_nil, or_false] at hx
  rcases hx with rfl | rfl | rfl | rfl | rfl | rfl | rfl | rfl <;> rfl
theorem Prts.of_block {w : World} {g : Nat} {cs : Array Value} {t : TypeId} {ps : List Prt} (h : w.heap[g]? = some (.cells cs t)) (hc : cs.toList = pv ps) : Prts w (some ⟨g, 0, none⟩) ps := by
  refine Prts.of_cells fun _ => ⟨g, 0, rfl, lt_of_heap h, fun k u hu => ?_⟩
  rw [← hc, Array.getElem?_toList] at hu
  rw [Nat.zero_add, cell_of_row _ _ _ _ _ (0, 0) h]
  exact hu
theorem Ints.of_block {w : World} {g : Nat} {cs : Array Value} {t : TypeId} {xs : List Int} (h : w.heap[g]? = some (.cells cs t)) (hc : cs.toList = iv xs) : Ints w (some ⟨g, 0, none⟩) xs := fun h0 => by
  refine ⟨g, 0, rfl, lt_of_heap h, fun k hk => ?_⟩
  have := iv_get hk
  rw [← hc, Array.getElem?_toList] at this
  rw [Nat.zero_add, cell_of_row _ _ _ _ _ (0, 0) h]
  exact this
def smI (x : Int) : Bool := decide (-1000000 ≤ x) && decide (x ≤ 1000000)
theorem smI_ok {x : Int} (h : smI x = true) : I64 x := by
  unfold smI at h
  simp only [Bool.and_eq_true, decide_eq_true_eq] at h
  unfold I64
  omega
def smallB (p : Nd) : Bool := smI p.sym && smI p.kind && smI p.lo && smI p.inn && smI p.hi && smI p.look && (decide (0 ≤ p.met) && decide (p.met ≤ 1000000)) && p.kids.all smI
theorem PrtOk.lit {w : World} {p : Prt} (hk : Ints w p.kA p.nd.kids) (hc : p.nd.kids.length ≤ p.kc) (ht : p.kc ≤ 1000) (hn : p.kA = .none → p.kc = 0) (hs : smallB p.nd = true) : PrtOk w p := by
  unfold smallB at hs
  simp only [Bool.and_eq_true, decide_eq_true_eq] at hs
  obtain ⟨⟨⟨⟨⟨⟨⟨s1, s2⟩, s3⟩, s4⟩, s5⟩, s6⟩, s7⟩, s8⟩ := hs
  exact ⟨hk, hc, by omega, hn, smI_ok s1, smI_ok s2, smI_ok s3, smI_ok s4, smI_ok s5, smI_ok s6, by omega, fun k hk => smI_ok (List.all_eq_true.1 s8 k hk)⟩

/-- the chapter's tree -/
def exN : List Nd := [⟨-3, 1, 0, 0, 2, 1, [1, 3], 0⟩, ⟨1, 2, 0, 0, 2, 3, [2], 0⟩, ⟨0, 3, 0, 0, 2, 3, [], 0⟩, ⟨-2, 6, 2, 2, 2, 3, [], 0⟩]
def exP (b : Nat) : List Prt := [⟨⟨-3, 1, 0, 0, 2, 1, [1, 3], 0⟩, some ⟨b, 0, none⟩, 2⟩, ⟨⟨1, 2, 0, 0, 2, 3, [2], 0⟩, some ⟨b + 1, 0, none⟩, 1⟩, ⟨⟨0, 3, 0, 0, 2, 3, [], 0⟩, none, 0⟩, ⟨⟨-2, 6, 2, 2, 2, 3, [], 0⟩, none, 0⟩]
theorem exP_nds (b : Nat) : nds (exP b) = exN := rfl
theorem exN_kc (j : Nat) : kc exN 0 j ≤ 1000000 := Nat.le_trans (kc_all exN j) (by decide)
theorem get4 {α : Type} {a b c d x : α} {i : Nat} (h : [a, b, c, d][i]? = some x) : (i = 0 ∧ x = a) ∨ (i = 1 ∧ x = b) ∨ (i = 2 ∧ x = c) ∨ (i = 3 ∧ x = d) := by
  match i, h with
  | 0, h => simp at h; exact .inl ⟨rfl, h.symm⟩
  | 1, h => simp at h; exact .inr (.inl ⟨rfl, h.symm⟩)
  | 2, h => simp at h; exact .inr (.inr (.inl ⟨rfl, h.symm⟩))
  | 3, h => simp at h; exact .inr (.inr (.inr ⟨rfl, h.symm⟩))
  | i + 4, h => simp at h
theorem exN_tree : Tree exN := by
  refine ⟨fun i p h => ?_, ?_, fun p hp => ?_⟩
  · rcases get4 h with ⟨rfl, rfl⟩ | ⟨rfl, rfl⟩ | ⟨rfl, rfl⟩ | ⟨rfl, rfl⟩ <;> exact ⟨by decide, by decide⟩
  · refine Trek.one (p := ⟨-3, 1, 0, 0, 2, 1, [1, 3], 0⟩) rfl ?_
    refine Trek.cons (l := exN) ⟨1, 2, 0, 0, 2, 3, [2], 0⟩ [3] 1 3 true 4 rfl ?_ ?_
    · exact Trek.one (l := exN) (n := 2) (p := ⟨0, 3, 0, 0, 2, 3, [], 0⟩) rfl (.nil 3)
    · exact Trek.one (l := exN) (n := 3) (p := ⟨-2, 6, 2, 2, 2, 3, [], 0⟩) rfl (.nil 4)
  · have : ∀ p ∈ exN, liesB exN p.hi p.lo p.kids = true := by decide
    exact this p hp
theorem exN_leaves : leavesF 0 exN = [2, 3] := by decide
def ExRet (w : World) (e : Ending) (w' : World) : Prop :=
  e = .returned (.slice (some ⟨w.heap.size + 1 + 1, 0, none⟩) 4 4) ∧ w'.heap[w.heap.size + 1 + 1]? = some (.cells (pv (exP w.heap.size)).toArray 33) ∧ PS w' (some ⟨w.heap.size + 1 + 1, 0, none⟩) 4 (exP w.heap.size) ∧ Ext w w'
set_option maxRecDepth 100000 in
set_option maxHeartbeats 2000000 in
theorem example16_any (w : World) : Calls Try.prog 35 #[] w (ExRet w) := by
  go_enter Try.func35, Try.ntmps35
  go_wp2_with fail
  go_ret
  have G0 : (((w.alloc (.cells #[.int .i64 1, .int .i64 3] 3)).alloc (.cells #[.int .i64 2] 3)).alloc (.cells (pv (exP w.heap.size)).toArray 33)).heap[w.heap.size]? = some (.cells #[.int .i64 1, .int .i64 3] 3) := (by simp only [heap_alloc_get, World.size_alloc]; (repeat (split; (first | rfl | (exfalso; omega)))); (try (first | (exfalso; omega) | simp_all)))
  have G1 : (((w.alloc (.cells #[.int .i64 1, .int .i64 3] 3)).alloc (.cells #[.int .i64 2] 3)).alloc (.cells (pv (exP w.heap.size)).toArray 33)).heap[w.heap.size + 1]? = some (.cells #[.int .i64 2] 3) := (by simp only [heap_alloc_get, World.size_alloc]; (repeat (split; (first | rfl | (exfalso; omega)))); (try (first | (exfalso; omega) | simp_all)))
  have G2 : (((w.alloc (.cells #[.int .i64 1, .int .i64 3] 3)).alloc (.cells #[.int .i64 2] 3)).alloc (.cells (pv (exP w.heap.size)).toArray 33)).heap[w.heap.size + 1 + 1]? = some (.cells (pv (exP w.heap.size)).toArray 33) := (by simp only [heap_alloc_get, World.size_alloc]; (repeat (split; (first | rfl | (exfalso; omega)))); (try (first | (exfalso; omega) | simp_all)))
  refine ⟨rfl, G2, ⟨Prts.of_block G2 (by simp), ?_, ⟨Nat.le_of_ble_eq_true rfl, exN_kc⟩, Nat.le_refl _, by omega, nofun⟩, (by repeat (first | exact Ext.refl _ | refine Ext.alloc ?_ _ | refine Ext.more ?_ _ _ | refine Ext.drew ?_ | refine Ext.drewN ?_ _ | refine Ext.setCell ?_ (by simp <;> omega) _))⟩
  · intro p hp
    simp only [exP, List.mem_cons, List.not_mem_nil, or_false] at hp
    rcases hp with rfl | rfl | rfl | rfl
    · exact PrtOk.lit (Ints.of_block G0 rfl) (Nat.le_of_ble_eq_true rfl) (Nat.le_of_ble_eq_true rfl) nofun rfl
    · exact PrtOk.lit (Ints.of_block G1 rfl) (Nat.le_of_ble_eq_true rfl) (Nat.le_of_ble_eq_true rfl) nofun rfl
    · exact PrtOk.lit Ints.nil (Nat.le_of_ble_eq_true rfl) (Nat.le_of_ble_eq_true rfl) (fun _ => rfl) rfl
    · exact PrtOk.lit Ints.nil (Nat.le_of_ble_eq_true rfl) (Nat.le_of_ble_eq_true rfl) (fun _ => rfl) rfl
end Go.Proofs.Ytggmljookcmnkaa

/- The contracts of lives, light of chapter 16. -/
namespace Go.Proofs.Ytggmljookcmnkaa
open Go.RowKit
attribute [local go_sem] more_drew more_drewN more_size more_cell more_frozen more_setCell drew_more drewN_more lt_add_r lt_add_r2 lt_add_r3 lt_add_r4 lt_add_r5 lt_add_r6 lt_add_r7 lt_add_r8 lt_add_r9 lt_add_r10 lt_self_r lt_self_r2

set_option maxRecDepth 100000 in
set_option maxHeartbeats 2000000 in
theorem lives16_any (w : World) : Calls Try.prog 38 #[] w fun e w' => e = .returned (.bool true) ∧ Ext w w' := by
  go_enter Try.func38, Try.ntmps38
  go_wp2_with fail
  refine (example16_any _).mono ?_
  rintro e w2 ⟨rfl, _, hp2, hx2⟩
  have HX2 := Lib.hid hx2
  have HP2 := Lib.hid hp2
  clear hx2 hp2
  go_wp2_with fail
  refine (check_ok HP2.out (by rw [exP_nds]; exact exN_tree)).mono ?_
  rintro e w3 ⟨rfl, hx3⟩
  have HX3 := Lib.hid (HX2.out.trans hx3)
  clear hx3 HP2 HX2
  go_wp2_with fail
  refine (example16_any _).mono ?_
  rintro e w4 ⟨rfl, _, hp4, hx4⟩
  have HX4 := Lib.hid (HX3.out.trans hx4)
  have HP4 := Lib.hid hp4
  clear hx4 hp4 HX3
  go_wp2_with fail
  refine (Leaves_yes HP4.out (by rw [exP_nds]; exact exN_tree)).mono ?_
  rintro e w5 ⟨A, c, rfl, ho, hx5⟩
  rw [exP_nds, exN_leaves] at ho
  have HX5 := Lib.hid (HX4.out.trans hx5)
  have HO := Lib.hid ho
  clear hx5 HX4 HP4 ho
  go_wp2_with fail
  refine (same_any A _ [2, 3] [2, 3] c 2 _ (HO.out.ints.1.ext (by repeat (first | exact Ext.refl _ | refine Ext.alloc ?_ _ | refine Ext.more ?_ _ _ | refine Ext.drew ?_ | refine Ext.drewN ?_ _ | refine Ext.setCell ?_ (by simp <;> omega) _))) (Ints.of_block (heap_alloc_new w5 _) rfl) (by decide) (by decide)).mono ?_
  rintro e w6 ⟨rfl, hx6⟩
  have HX6 := Lib.hid ((HX5.out.alloc _).trans hx6)
  clear hx6
  go_wp2_with fail
  go_ret
  exact ⟨rfl, HX6.out⟩
/-- two trees, an edit are gone through -/
def Light2 (most : Nat) (ps qs : List Prt) (a d i : Int) (w : World) (e : Ending) (w' : World) : Prop := ∃ b : Bool, e = .returned (.bool b) ∧ (b = true → LightP most ps ∧ LightP most qs ∧ LightEd a d i) ∧ Ext w w'
set_option maxRecDepth 100000 in
set_option maxHeartbeats 2000000 in
theorem light16_any (A B : Option Addr) (c1 c2 : Nat) (ps qs : List Prt) (a d i : Int) (w : World) (hP : Prts w A ps) (hl : ps.length ≤ 9223372036854775807) (hk : KidsLt ps) (hQ : Prts w B qs) (hlq : qs.length ≤ 9223372036854775807) (hkq : KidsLt qs) :
    Calls Try.prog 51 #[.slice A ps.length c1, .slice B qs.length c2, .agg #[.int .i64 a, .int .i64 d, .int .i64 i]] w (Light2 120 ps qs a d i w) := by
  have C1 := Lib.hid (fun w1 (x : Ext w w1) => lightParts_any 120 A c1 ps w1 (by omega) (hP.ext x) hl hk)
  have C2 := Lib.hid (fun w1 (x : Ext w w1) => lightParts_any 120 B c2 qs w1 (by omega) (hQ.ext x) hlq hkq)
  clear hP hQ hk hkq
  go_enter Try.func51, Try.ntmps51
  go_wp2_with fail
  refine (C1.out _ (by repeat (first | exact Ext.refl _ | refine Ext.alloc ?_ _ | refine Ext.more ?_ _ _ | refine Ext.drew ?_ | refine Ext.drewN ?_ _ | refine Ext.setCell ?_ (by simp <;> omega) _))).mono ?_
  rintro e w2 ⟨b1, rfl, h1, hx2⟩
  have HX2 : Hid (Ext w w2) := Lib.hid (Ext.trans (by repeat (first | exact Ext.refl _ | refine Ext.alloc ?_ _ | refine Ext.more ?_ _ _ | refine Ext.drew ?_ | refine Ext.drewN ?_ _ | refine Ext.setCell ?_ (by simp <;> omega) _)) hx2)
  have hx2' := Lib.hid hx2
  have H1 := Lib.hid h1
  clear hx2 h1
  cases b1 with
  | false =>
    go_wp2_with fail
    go_ret
    exact ⟨false, rfl, nofun, HX2.out⟩
  | true =>
    go_wp2_with fail
    refine (C2.out _ HX2.out).mono ?_
    rintro e w3 ⟨b2, rfl, h2, hx3⟩
    have HX3 := Lib.hid (HX2.out.trans hx3)
    have hc : w3.cell? ⟨w.heap.size, 0, none⟩ = some (.int .i64 a) ∧ w3.cell? ⟨w.heap.size, 1, none⟩ = some (.int .i64 d) ∧ w3.cell? ⟨w.heap.size, 2, none⟩ = some (.int .i64 i) ∧ w.heap.size < w3.heap.size := by
      have hh := ext_block (heap_alloc_new w (.cells #[.int .i64 a, .int .i64 d, .int .i64 i] 63)) (hx2'.out.trans hx3)
      have e0 := cell_of_row _ _ 0 _ _ _ hh
      have e1 := cell_of_row _ _ 1 _ _ _ hh
      have e2 := cell_of_row _ _ 2 _ _ _ hh
      exact ⟨by simpa using e0, by simpa using e1, by simpa using e2, lt_of_heap hh⟩
    obtain ⟨k0, k1, k2, k3⟩ := hc
    have H2 := Lib.hid h2
    clear hx3 h2 hx2'
    cases b2 with
    | false =>
      go_wp2_with fail
      go_ret
      exact ⟨false, rfl, nofun, HX3.out⟩
    | true =>
      go_wp2_with fail
      refine (lightEdit_any a d i _).mono ?_
      rintro e w4 ⟨b3, rfl, h3, hx4⟩
      have HX4 := Lib.hid (HX3.out.trans hx4)
      have H3 := Lib.hid h3
      clear hx4 h3
      go_wp2_with fail
      go_ret
      exact ⟨b3, rfl, fun hb => ⟨H1.out (by simp), H2.out (by simp), H3.out hb⟩, HX4.out⟩
end Go.Proofs.Ytggmljookcmnkaa
