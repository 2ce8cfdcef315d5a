/- The contract of walk: the iterator. -/
import Derived.Test.YtaffaeompdlecaaA5
import Derived.Laws.EntriesVeiled
import Derived.WalkSpells
import Derived.WalkLawsBesides
import Derived.BigRegion
import Derived.Deep.RegionWith
import Derived.Deep.QuietTactic
import Derived.Deep.DeepCutAuto
import Derived.Deep.RegionHeld3
import Derived.Deep.RegionLaw
import Derived.BigQuiet
import Derived.Lib.Hide
namespace Go.Proofs.Ytaffaeompdlecaa
open Go.RowKit
attribute [local go_sem] more_drew more_drewN more_size more_cell more_frozen more_setCell drew_more drewN_more lt_add_r lt_add_r2 lt_add_r3 lt_add_r4 lt_add_r5 lt_add_r6 lt_add_r7 lt_add_r8 lt_add_r9 lt_add_r10 lt_self_r lt_self_r2
attribute [local go_sem] Oper.semAt_some

def places (M : Nat) : List Int := (List.range M).map fun (n : Nat) => (n : Int)
theorem places_get {M j : Nat} {x : Int} (h : (places M)[j]? = some x) : x = (j : Int) ∧ j < M := by
  unfold places at h
  rw [List.getElem?_map] at h
  cases hj : (List.range M)[j]? with
  | none => rw [hj] at h; cases h
  | some k =>
    rw [hj] at h
    injection h with h
    obtain ⟨h1, h2⟩ := List.getElem?_eq_some_iff.1 hj
    rw [List.getElem_range] at h2
    rw [List.length_range] at h1
    subst h2
    exact ⟨h.symm, h1⟩
theorem places_at {M j : Nat} (h : j < M) : (places M)[j]? = some (j : Int) := by
  unfold places
  rw [List.getElem?_map, List.getElem?_range h]
  rfl
theorem places_length (M : Nat) : (places M).length = M := by
  unfold places
  rw [List.length_map, List.length_range]

theorem ext_block {w w' : World} {o : Nat} {ob : Obj} (h : w.heap[o]? = some ob) (e : Ext w w') : w'.heap[o]? = some ob := (e.below.block o (lt_of_heap h)).trans h
theorem walk_make (A : Option Addr) (n c : Nat) (w : World) :
    Calls Try.prog 88 #[.slice A n c, .int .i64 0] w fun e w' => e = .returned (.func (.func 143) #[] #[pt (w.heap.size + 1), pt w.heap.size]) ∧
      w' = (w.alloc (.cells #[.slice A n c] 22)).alloc (.cells #[.int .i64 0] 3) := by
  go_enter Try.func88, Try.ntmps88
  go_wp2_with fail
  go_ret
  exact ⟨rfl, rfl⟩
set_option maxRecDepth 100000 in
set_option maxHeartbeats 3000000 in
theorem walk_iter (A : Option Addr) (c : Nat) (ps : List Prt) (w0 w1 : World) (lb ib : Nat) (S : Nat → Prop) (ok : Bool) (M : Nat) (hP : Prts w0 A ps) (hO : PrtsOk w0 ps) (hlen : ps.length ≤ 1000000)
    (h0 : Below w0.heap.size w0 w1) (hlb : w1.heap[lb]? = some (.cells #[.slice A ps.length c] 22)) (hl0 : w0.heap.size ≤ lb) (hlS : ¬ S lb) (hib : w1.heap[ib]? = some (.cells #[.int .i64 0] 3))
    (hfree : ∀ b, b < w0.heap.size → ¬ S b) (ht : Trek (nds ps) [0] 0 ok M) : IterB Try.prog 143 #[pt ib, pt lb] encI (places M) S w1 := by
  intro l J Jx hJ hJx hY hJ0
  obtain ⟨D, hD⟩ : ∃ D : Dn, D = { w0, A, c, ps, B := w1.heap.size, bl := lb, bY := w1.heap.size, bd := w1.heap.size + 1 + 1, nx := w1.heap.size + 1, lY := l, S, J, Jx } := ⟨_, rfl⟩
  have hlbl := lt_of_heap hlb
  have hibl := lt_of_heap hib
  have c1 := cell_of_row _ _ 0 _ _ _ hib
  simp at c1
  have O : Hid D.Ok := by
    subst hD
    exact ⟨hP, hO, hlen, h0.size, ⟨hl0, hlbl, hlS⟩, Nat.le_refl _, by show w1.heap.size ≤ w1.heap.size + 1 + 1; omega, by show w1.heap.size ≤ w1.heap.size + 1 ∧ w1.heap.size + 1 ≠ w1.heap.size ∧ w1.heap.size + 1 ≠ w1.heap.size + 1 + 1; omega, hfree, hJ, hJx⟩
  have HY : Hid (∀ (j : Nat) (W : World), j < M → D.B ≤ W.heap.size → D.J j W → YieldAt Fence.wide 0 Try.prog D.lY (encI (j : Int)) W fun e W' =>
      (e = .returned (.bool true) ∧ D.J (j + 1) W' ∧ Turn (fun b => D.S b ∧ b < D.B) W W') ∨ (e = .returned (.bool false) ∧ D.Jx (j + 1) W' ∧ Turn (fun b => D.S b ∧ b < D.B) W W')) := by
    subst hD
    exact fun j W hj hB hJj => hY j _ W (places_at hj) hB hJj
  have HD := Lib.hid hD
  have HJ0 := Lib.hid hJ0
  have H0 := Lib.hid h0
  have HT := Lib.hid ht
  have HLB := Lib.hid hlb
  have HJ := Lib.hid hJ
  clear hD hY hJ0 h0 hJ hJx ht hlb hfree hP hO
  simp only [List.append_toArray, List.cons_append, List.nil_append]
  go_enter Try.func143, Try.ntmps143
  go_wp2_with fail
  obtain rfl := HD.out
  obtain ⟨W4, hW4⟩ : ∃ W4, ((w1.alloc (.cells #[.func (.yield l) #[] #[]] 93)).alloc (.cells #[.int .i64 0] 3)).alloc (.cells #[.func (.func 144) #[] #[pt (w1.heap.size + 1), pt lb, pt w1.heap.size, pt (w1.heap.size + 1 + 1)]] 93) = W4 := ⟨_, rfl⟩
  have x4 : Ext w1 W4 := hW4 ▸ (by repeat (first | exact Ext.refl _ | refine Ext.alloc ?_ _ | refine Ext.more ?_ _ _ | refine Ext.drew ?_ | refine Ext.drewN ?_ _ | refine Ext.setCell ?_ (by simp <;> omega) _))
  have s4 : W4.heap.size = w1.heap.size + 3 := by rw [← hW4]; simp
  have g1 : W4.heap[w1.heap.size]? = some (.cells #[.func (.yield l) #[] #[]] 93) := by
    rw [← hW4]
    exact ext_block (heap_alloc_new w1 _) (by repeat (first | exact Ext.refl _ | refine Ext.alloc ?_ _ | refine Ext.more ?_ _ _ | refine Ext.drew ?_ | refine Ext.drewN ?_ _ | refine Ext.setCell ?_ (by simp <;> omega) _))
  have g2 : W4.heap[w1.heap.size + 1]? = some (.cells #[.int .i64 0] 3) := by
    rw [← hW4]
    have := heap_alloc_new (w1.alloc (.cells #[.func (.yield l) #[] #[]] 93)) (.cells #[.int .i64 0] 3)
    rw [World.size_alloc] at this
    exact ext_block this (by repeat (first | exact Ext.refl _ | refine Ext.alloc ?_ _ | refine Ext.more ?_ _ _ | refine Ext.drew ?_ | refine Ext.drewN ?_ _ | refine Ext.setCell ?_ (by simp <;> omega) _))
  have g3 : W4.heap[w1.heap.size + 1 + 1]? = some (.cells #[.func (.func 144) #[] #[pt (w1.heap.size + 1), pt lb, pt w1.heap.size, pt (w1.heap.size + 1 + 1)]] 93) := by
    rw [← hW4]
    have := heap_alloc_new ((w1.alloc (.cells #[.func (.yield l) #[] #[]] 93)).alloc (.cells #[.int .i64 0] 3)) (.cells #[.func (.func 144) #[] #[pt (w1.heap.size + 1), pt lb, pt w1.heap.size, pt (w1.heap.size + 1 + 1)]] 93)
    rw [World.size_alloc, World.size_alloc] at this
    exact this
  rw [hW4]
  refine (down_any _ O.out M HY.out ps.length 0 0 ok M W4 (by show ps.length - 0 ≤ _; omega) (by omega) (Nat.le_refl _) HT.out ⟨H0.out.trans (x4.below.mono H0.out.size), ext_block HLB.out x4, g1, g3, by show w1.heap.size ≤ _; omega⟩ g2 (HJ.out 0 _ _ x4.below HJ0.out)).mono ?_
  rintro e w5 ⟨f5, hp⟩
  have hsz : w1.heap.size ≤ w5.heap.size := f5.2.2.2.2
  rcases hp with ⟨rfl, _, j5⟩ | ⟨rfl, j, hj, j5⟩
  · go_wp2_with fail
    go_end0
    exact ⟨⟨_, rfl⟩, hsz, .inl (by rw [places_length]; exact j5)⟩
  · go_wp2_with fail
    go_end0
    exact ⟨⟨_, rfl⟩, hsz, .inr ⟨j, by rw [places_length]; exact hj, j5⟩⟩
end Go.Proofs.Ytaffaeompdlecaa
