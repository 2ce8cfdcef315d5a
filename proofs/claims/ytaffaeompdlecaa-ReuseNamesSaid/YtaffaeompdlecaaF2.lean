/- The contracts of own; the state of edited. -/
import Derived.Test.YtaffaeompdlecaaF1
import Derived.Test.YtaffaeompdlecaaNh
import Derived.Test.YtaffaeompdlecaaD1
import Derived.WalkSpells
import Derived.WalkLawsBesides
import Derived.BigRegion
import Derived.Deep.RegionWith
import Derived.Deep.QuietTactic
import Derived.Deep.DeepCutAuto
import Derived.Deep.RegionHeld3
import Derived.Deep.RegionLaw
import Derived.BigQuiet
import Derived.Lib.Hide
namespace Go.Proofs.Ytaffaeompdlecaa
open Go.RowKit
attribute [local go_sem] more_drew more_drewN more_size more_cell more_frozen more_setCell drew_more drewN_more lt_add_r lt_add_r2 lt_add_r3 lt_add_r4 lt_add_r5 lt_add_r6 lt_add_r7 lt_add_r8 lt_add_r9 lt_add_r10 lt_self_r lt_self_r2

set_option maxRecDepth 100000 in
set_option maxHeartbeats 1000000 in
theorem own_any (p : Prt) (w : World) : Calls Try.prog 111 #[aggV p] w fun e w' => e = .returned (.agg #[.int .i64 (ownLo p.nd), .int .i64 p.nd.look]) ∧ Ext w w' := by
  obtain ⟨⟨sym, kind, lo, inn, hi, look, kids, met⟩, kA, kc⟩ := p
  by_cases hk : kind = 1
  · have HO : Hid (ownLo ⟨sym, kind, lo, inn, hi, look, kids, met⟩ = -1) := Lib.hid (if_pos hk)
    have hk1 : (kind == 1) = true := by simpa using hk
    clear hk
    go_enter Try.func111, Try.ntmps111
    go_wp2_with fail
    refine bodyPost_ret (v := .agg #[.int .i64 (-1), .int .i64 look]) (by simp [results, Try.results111, go_sem, *]) rfl ⟨?_, (by repeat (first | exact Ext.refl _ | refine Ext.alloc ?_ _ | refine Ext.more ?_ _ _ | refine Ext.drew ?_ | refine Ext.drewN ?_ _ | refine Ext.setCell ?_ (by simp <;> omega) _))⟩
    rw [HO.out]
  · have HO : Hid (ownLo ⟨sym, kind, lo, inn, hi, look, kids, met⟩ = lo) := Lib.hid (if_neg hk)
    have hk1 : (kind == 1) = false := by simpa using hk
    clear hk
    go_enter Try.func111, Try.ntmps111
    go_wp2_with fail
    refine bodyPost_ret (v := .agg #[.int .i64 lo, .int .i64 look]) (by simp [results, Try.results111, go_sem, *]) rfl ⟨?_, (by repeat (first | exact Ext.refl _ | refine Ext.alloc ?_ _ | refine Ext.more ?_ _ _ | refine Ext.drew ?_ | refine Ext.drewN ?_ _ | refine Ext.setCell ?_ (by simp <;> omega) _))⟩
    rw [HO.out]
/-- where 'edited' is: the part, the edit, the result -/
structure EdW (w wr : World) (b : Nat) (a d i : Int) (p : Prt) : Prop where
  part : wr.heap[b]? = some (.cells (prtCells p).toArray 35)
  ed : wr.heap[b + 1]? = some (.cells #[.int .i64 a, .int .i64 d, .int .i64 i] 26)
  res : wr.heap[b + 1 + 1]? = some (.cells #[.int .i64 0, .int .i64 0, .int .i64 0, .int .i64 0, .int .i64 0, .int .i64 0, .slice none 0 0, .int .u64 0] 35)
  ext : Ext w wr
  size : w.heap.size = b
theorem EdW.more {w wr wr' : World} {b : Nat} {a d i : Int} {p : Prt} (h : EdW w wr b a d i p) (e : Ext wr wr') : EdW w wr' b a d i p := ⟨ext_block h.part e, ext_block h.ed e, ext_block h.res e, h.ext.trans e, h.size⟩
theorem EdW.set {w wr : World} {b : Nat} {a d i : Int} {p p' : Prt} (h : EdW w wr b a d i p) {k : Nat} {u : Value} (hc : prtCells p' = (prtCells p).set k u) : EdW w (wr.setCell ⟨b, k, none⟩ u) b a d i p' := by
  refine ⟨?_, by have := h.ed; simp [World.setCell, Array.getElem?_modify, this], by have := h.res; simp [World.setCell, Array.getElem?_modify, this]; intro h; omega, h.ext.setCell (by show _ ≤ b; have := h.size; omega) _, h.size⟩
  rw [hc]
  have := h.part
  simp [World.setCell, Array.getElem?_modify, this]
theorem EdW.cells {w wr : World} {b : Nat} {a d i : Int} {p : Prt} (h : EdW w wr b a d i p) :
    (wr.cell? ⟨b, 0, none⟩ = some (.int .i64 p.nd.sym) ∧ wr.cell? ⟨b, 1, none⟩ = some (.int .i64 p.nd.kind) ∧ wr.cell? ⟨b, 2, none⟩ = some (.int .i64 p.nd.lo) ∧ wr.cell? ⟨b, 3, none⟩ = some (.int .i64 p.nd.inn) ∧ wr.cell? ⟨b, 4, none⟩ = some (.int .i64 p.nd.hi) ∧
      wr.cell? ⟨b, 5, none⟩ = some (.int .i64 p.nd.look) ∧ wr.cell? ⟨b, 6, none⟩ = some (.slice p.kA p.nd.kids.length p.kc) ∧ wr.cell? ⟨b, 7, none⟩ = some (.int .u64 p.nd.met)) ∧
    (wr.cell? ⟨b + 1, 0, none⟩ = some (.int .i64 a) ∧ wr.cell? ⟨b + 1, 1, none⟩ = some (.int .i64 d) ∧ wr.cell? ⟨b + 1, 2, none⟩ = some (.int .i64 i)) ∧ (b < wr.heap.size ∧ b + 1 < wr.heap.size ∧ b + 1 + 1 < wr.heap.size) ∧
    (wr.frozen? ⟨b, 2, none⟩ = false ∧ wr.frozen? ⟨b, 3, none⟩ = false ∧ wr.frozen? ⟨b, 4, none⟩ = false ∧ wr.frozen? ⟨b, 5, none⟩ = false) := by
  have h1 := h.part
  have h2 := h.ed
  have l1 := lt_of_heap h.part
  have l2 := lt_of_heap h.ed
  have l3 := lt_of_heap h.res
  have fz : ∀ k, wr.frozen? ⟨b, k, none⟩ = false := fun k => by simp [World.frozen?, h1]
  refine ⟨?_, ?_, ⟨l1, l2, l3⟩, fz 2, fz 3, fz 4, fz 5⟩
  · refine ⟨?_, ?_, ?_, ?_, ?_, ?_, ?_, ?_⟩ <;> simp [World.cell?, h1, prtCells]
  · refine ⟨?_, ?_, ?_⟩ <;> simp [World.cell?, h2]
theorem EdW.root {w wr : World} {b : Nat} {a d i t v : Int} {p : Prt} (S : EdW w wr b a d i p) (hk : p.nd.kind = 1) (hv : v = hiE ⟨a, d, i, id⟩ t p.nd) :
    EdW w (((wr.setCell ⟨b, 2, none⟩ (.int .i64 0)).setCell ⟨b, 5, none⟩ (.int .i64 1)).setCell ⟨b, 4, none⟩ (.int .i64 v)) b a d i ⟨{ p.nd with lo := loE ⟨a, d, i, id⟩ p.nd, hi := hiE ⟨a, d, i, id⟩ t p.nd, look := lookE ⟨a, d, i, id⟩ p.nd }, p.kA, p.kc⟩ := by
  rw [← hv, show loE ⟨a, d, i, id⟩ p.nd = 0 from if_pos hk, show lookE ⟨a, d, i, id⟩ p.nd = 1 from if_pos hk]
  exact ((S.set (p' := ⟨{ p.nd with lo := 0 }, p.kA, p.kc⟩) (k := 2) (u := .int .i64 0) rfl).set (p' := ⟨{ p.nd with lo := 0, look := 1 }, p.kA, p.kc⟩) (k := 5) (u := .int .i64 1) rfl).set (k := 4) rfl
end Go.Proofs.Ytaffaeompdlecaa
