/- Jobs in memory; the order made; Check. -/
import Derived.Test.YtmgpofdmfmeljaaJi
import Derived.Laws.EntriesVeiled
import Derived.WalkSpells
import Derived.WalkLawsBesides
import Derived.BigRegion
import Derived.Deep.RegionWith
import Derived.Deep.QuietTactic
import Derived.Deep.DeepCutAuto
import Derived.Deep.RegionHeld3
import Derived.Deep.RegionLaw
import Derived.BigQuiet
import Derived.Lib.Hide
namespace Go.Proofs.Ytmgpofdmfmeljaa
open Go.RowKit
attribute [local go_sem] more_drew more_drewN more_size more_cell more_frozen more_setCell drew_more drewN_more lt_add_r lt_add_r2 lt_add_r3 lt_add_r4 lt_add_r5 lt_add_r6 lt_add_r7 lt_add_r8 lt_add_r9 lt_add_r10 lt_self_r lt_self_r2

def d0 : Dt := ⟨0, 0, 0, 0, 0⟩
/-- the slice at A reads as the jobs ds -/
def Jobs (w : World) (A : Option Addr) (ds : List Dt) : Prop :=
  0 < ds.length → ∃ b off, A = some ⟨b, off, none⟩ ∧ b < w.heap.size ∧ ∀ k, k < ds.length → w.cell? ⟨b, off + k * 5, none⟩ = some (.int .i64 (ds.getD k d0).slot) ∧ w.cell? ⟨b, off + k * 5 + 1, none⟩ = some (.int .i64 (ds.getD k d0).lo) ∧
    w.cell? ⟨b, off + k * 5 + 2, none⟩ = some (.int .i64 (ds.getD k d0).hi) ∧ w.cell? ⟨b, off + k * 5 + 3, none⟩ = some (.int .i64 (ds.getD k d0).age) ∧ w.cell? ⟨b, off + k * 5 + 4, none⟩ = some (.int .i64 (ds.getD k d0).lev)
theorem Jobs.nil {w : World} {A : Option Addr} : Jobs w A [] := fun h => by simp at h
theorem Jobs.below {w w' : World} {A : Option Addr} {ds : List Dt} (h : Jobs w A ds) (e : Below w.heap.size w w') : Jobs w' A ds := fun h0 => by
  obtain ⟨b, off, hA, hb, hc⟩ := h h0
  refine ⟨b, off, hA, by have := e.size; omega, fun k hk => ?_⟩
  obtain ⟨a0, a1, a2, a3, a4⟩ := hc k hk
  exact ⟨(e.cell (p := ⟨b, off + k * 5, .none⟩) hb).trans a0, (e.cell (p := ⟨b, off + k * 5 + 1, .none⟩) hb).trans a1, (e.cell (p := ⟨b, off + k * 5 + 2, .none⟩) hb).trans a2, (e.cell (p := ⟨b, off + k * 5 + 3, .none⟩) hb).trans a3, (e.cell (p := ⟨b, off + k * 5 + 4, .none⟩) hb).trans a4⟩
theorem Jobs.ext {w w' : World} {A : Option Addr} {ds : List Dt} (h : Jobs w A ds) (e : Ext w w') : Jobs w' A ds := h.below e.below
/-- may a job be, behind the slot last? -/
def OkD (last : Int) (d : Dt) : Prop := last < d.slot ∧ d.slot < 64 ∧ 0 ≤ d.lo ∧ d.lo ≤ d.hi ∧ 0 ≤ d.age ∧ 0 ≤ d.lev
/-- the slot ahead of place k -/
def lastS (ds : List Dt) (k : Nat) : Int := if k = 0 then -1 else (ds.getD (k - 1) d0).slot
/-- jobs may be -/
def CheckP (ds : List Dt) : Prop := ds.length ≤ 32 ∧ ∀ k, k < ds.length → OkD (lastS ds k) (ds.getD k d0)
theorem order_any (k : Kv) (w : World) : Calls Try.prog 23 #[.agg #[.int .i64 k.lo, .int .i64 k.hi], .int .i64 k.wait] w fun e w' => ∃ o : Od, e = .returned o.V ∧ o.k = k ∧ o.At w' ∧ (w.heap.size ≤ o.bl ∧ w.heap.size ≤ o.bv ∧ w.heap.size ≤ o.bw) ∧ Ext w w' := by
  obtain ⟨W2, hW2⟩ : ∃ W2, (w.alloc (.cells #[.int .i64 k.lo, .int .i64 k.hi] 29)).alloc (.cells #[.int .i64 k.wait] 3) = W2 := ⟨_, rfl⟩
  have X2 : Hid (Ext w W2) := Lib.hid (by rw [← hW2]; exact (by repeat (first | exact Ext.refl _ | refine Ext.alloc ?_ _ | refine Ext.more ?_ _ _ | refine Ext.drew ?_ | refine Ext.drewN ?_ _ | refine Ext.setCell ?_ (by simp <;> omega) _)))
  have G0 : Hid (W2.heap[w.heap.size]? = some (.cells #[.int .i64 k.lo, .int .i64 k.hi] 29)) := Lib.hid (by rw [← hW2]; exact (by simp only [heap_alloc_get, World.size_alloc]; (repeat (split; (first | rfl | (exfalso; omega)))); (try (first | (exfalso; omega) | simp_all))))
  have G1 : Hid (W2.heap[w.heap.size + 1]? = some (.cells #[.int .i64 k.wait] 3)) := Lib.hid (by rw [← hW2]; exact (by simp only [heap_alloc_get, World.size_alloc]; (repeat (split; (first | rfl | (exfalso; omega)))); (try (first | (exfalso; omega) | simp_all))))
  go_enter Try.func23, Try.ntmps23
  go_upto_region 1 with fail
  clear hW2
  go_wp2_with fail
  go_ret
  refine ⟨⟨W2.heap.size, w.heap.size, w.heap.size + 1, k⟩, rfl, rfl, ⟨heap_alloc_new W2 _, ext_block G0.out (by repeat (first | exact Ext.refl _ | refine Ext.alloc ?_ _ | refine Ext.more ?_ _ _ | refine Ext.drew ?_ | refine Ext.drewN ?_ _ | refine Ext.setCell ?_ (by simp <;> omega) _)), ext_block G1.out (by repeat (first | exact Ext.refl _ | refine Ext.alloc ?_ _ | refine Ext.more ?_ _ _ | refine Ext.drew ?_ | refine Ext.drewN ?_ _ | refine Ext.setCell ?_ (by simp <;> omega) _))⟩, ⟨X2.out.size, Nat.le_refl _, by show w.heap.size ≤ w.heap.size + 1; omega⟩, X2.out.trans (by repeat (first | exact Ext.refl _ | refine Ext.alloc ?_ _ | refine Ext.more ?_ _ _ | refine Ext.drew ?_ | refine Ext.drewN ?_ _ | refine Ext.setCell ?_ (by simp <;> omega) _))⟩
set_option maxRecDepth 100000 in
set_option maxHeartbeats 2000000 in
theorem dcheck_ok (A : Option Addr) (c : Nat) (ds : List Dt) (w : World) (h : Jobs w A ds) (hc : CheckP ds) : Calls Try.prog 24 #[.slice A ds.length c] w fun e w' => e = .returned (.int .i64 0) ∧ Ext w w' := by
  have H := Lib.hid h
  have HC := Lib.hid hc
  have hl := hc.1
  clear h hc
  go_enter Try.func24, Try.ntmps24
  go_wp2_with fail
  go_loopw [3, 11] (fun s i wr => ∃ k : Nat, k ≤ ds.length ∧ i = .int .i64 k ∧ s = .int .i64 (lastS ds k) ∧ Hid (Ext w wr)) (fun _ i _ => ds.length - (intOf i).toNat)
  case atStart => exact ⟨0, Nat.zero_le _, rfl, rfl, Lib.hid (Ext.refl _)⟩
  case round =>
    obtain ⟨k, hk, rfl, rfl, hx⟩ := hrel
    by_cases hlt : k < ds.length
    · obtain ⟨b, off, rfl, hb, hcl⟩ := (H.out.ext hx.out) (by omega)
      obtain ⟨x0, x1, x2, x3, x4⟩ := hcl k hlt
      obtain ⟨h1, h2, h3, h4, h5, h6⟩ := HC.out.2 k hlt
      obtain ⟨d, hd⟩ : ∃ d, ds.getD k d0 = d := ⟨_, rfl⟩
      have HL : Hid (lastS ds (k + 1) = d.slot) := Lib.hid (by unfold lastS; rw [if_neg (by omega), Nat.add_sub_cancel, hd])
      obtain ⟨s, hs⟩ : ∃ s, lastS ds k = s := ⟨_, rfl⟩
      rw [hs] at h1 ⊢
      rw [hd] at x0 x1 x2 x3 x4 h1 h2 h3 h4 h5 h6
      have q1 : decide (d.slot ≤ s) = false := decide_eq_false (by omega)
      have q2 : decide (64 ≤ d.slot) = false := decide_eq_false (by omega)
      have q3 : decide (d.lo < 0) = false := decide_eq_false (by omega)
      have q4 : decide (d.hi < d.lo) = false := decide_eq_false (by omega)
      have q5 : (if d.lev < d.age then d.lev else d.age) = min d.age d.lev := by omega
      have q6 : decide (min d.age d.lev < 0) = false := decide_eq_false (by omega)
      clear hcl hd hs h1 h2 h3 h4 h5 h6
      go_wp2_with fail
      go_roundw
      case rel => exact ⟨k + 1, by omega, by go_num, by rw [HL.out], Lib.hid (hx.out.trans (by repeat (first | exact Ext.refl _ | refine Ext.alloc ?_ _ | refine Ext.more ?_ _ _ | refine Ext.drew ?_ | refine Ext.drewN ?_ _ | refine Ext.setCell ?_ (by simp <;> omega) _)))⟩
      case measure => simp [intOf]; omega
    · obtain rfl : k = ds.length := by omega
      go_wp2_with fail
      go_ret
      exact ⟨rfl, hx.out⟩
end Go.Proofs.Ytmgpofdmfmeljaa
