/- Cr: texts that the proof rests on, part 1. -/
import Derived.WalkKit
import Derived.Handy
import Derived.Deep.Draws
import Derived.BigQuiet
import Derived.Lib.Hide
import Derived.Maps.AppendAt
import Derived.Deep.AppendLies
import Derived.RegionTactic
import Derived.OwnWalk
import Derived.Laws.OwnMore
import Derived.RangeFuncNested
import Derived.RangeFuncBound
import Derived.RangeFuncCalls
import Derived.RangeFuncLeaves
import Derived.RangeFuncRecord
import Derived.RangeFuncIn
import Derived.Sort.QuietThIn
import Derived.Orders
import Derived.Deep.Quiet
import Derived.Test.YthpmncdfaggkiaaGreatChecked
import Derived.WalkSpells
import Derived.WalkLawsBesides
import Derived.BigRegion
import Derived.Deep.RegionWith
import Derived.Deep.QuietTactic
import Derived.Deep.DeepCutAuto
import Derived.Deep.RegionHeld3
import Derived.Deep.RegionLaw
import Derived.Laws.Strings
import Derived.Laws.BitsAllLaws
import Derived.Laws.Closers25b
namespace Go.Proofs.YthpmncdfaggkiaaGreat
open Go.RowKit
def more (w : World) (os : List Obj) (k : Nat) : World := { w with heap := w.heap ++ os.toArray, drawn := k }
section
variable (w : World) (os : List Obj) (k : Nat)
theorem more_size : (more w os k).heap.size = w.heap.size + os.length := by simp [more]
theorem more_heap (b : Nat) (h : b < w.heap.size) : (more w os k).heap[b]? = w.heap[b]? := by
 show (w.heap ++ os.toArray)[b]? = _
 rw [Array.getElem?_append_left h]
theorem more_cell (b o : Nat) (h : b < w.heap.size) : (more w os k).cell? ⟨b, o, none⟩ = w.cell? ⟨b, o, none⟩ :=
 World.cell?_of_block (more_heap w os k b h)
theorem more_frozen (b o : Nat) (h : b < w.heap.size) : (more w os k).frozen? ⟨b, o, none⟩ = w.frozen? ⟨b, o, none⟩ :=
 World.frozen?_of_block (more_heap w os k b h)
theorem more_setCell (b o : Nat) (v : Value) (h : b < w.heap.size) : (more w os k).setCell ⟨b, o, none⟩ v = more (w.setCell ⟨b, o, none⟩ v) os k := by
 unfold more World.setCell
 congr 1
 apply Array.ext_getElem?
 intro j
 simp only [Array.getElem?_modify, Array.getElem?_append, Array.size_modify]
 by_cases hj : j < w.heap.size
 ·simp [hj]
 ·have hne : ¬ b = j := by omega
  simp [hj, hne]
theorem more_nil : more w [] w.drawn = w := by simp [more]
theorem more_drew : (more w os k).drew = more w os (k + 1) := rfl
theorem more_drewN (n : Nat) : (more w os k).drewN n = more w os (k + n) := rfl
theorem drew_more : more w.drew os k = more w os k := rfl
theorem drewN_more (n : Nat) : more (w.drewN n) os k = more w os k := rfl
theorem more_alloc (o : Obj) : (more w os k).alloc o = more w (os ++ [o]) k := by
 show World.mk _ _ _ _ _ = World.mk _ _ _ _ _
 congr 1
 show (w.heap ++ os.toArray).push o = w.heap ++ (os ++ [o]).toArray
 simp
theorem more_more (os' : List Obj) (k' : Nat) : more (more w os k) os' k' = more w (os ++ os') k' := by
 show World.mk _ _ _ _ _ = World.mk _ _ _ _ _
 congr 1
 show (w.heap ++ os.toArray) ++ os'.toArray = w.heap ++ (os ++ os').toArray
 simp
theorem lt_add_r {a b c : Nat} (h : a < b) : a < b + c := Nat.lt_of_lt_of_le h (Nat.le_add_right _ _)
theorem lt_add_r2 {a b c d : Nat} (h : a < b) : a < b + c + d := by omega
theorem lt_add_r3 {a b c d e : Nat} (h : a < b) : a < b + c + d + e := by omega
theorem lt_add_r4 {a b c d e f : Nat} (h : a < b) : a < b + c + d + e + f := by omega
theorem lt_add_r5 {a b c d e f g : Nat} (h : a < b) : a < b + c + d + e + f + g := by omega
theorem lt_add_r6 {a b c d e f g i : Nat} (h : a < b) : a < b + c + d + e + f + g + i := by omega
theorem lt_add_r7 {a b c d e f g i j : Nat} (h : a < b) : a < b + c + d + e + f + g + i + j := by omega
theorem lt_add_r8 {a b c d e f g i j k : Nat} (h : a < b) : a < b + c + d + e + f + g + i + j + k := by omega
theorem lt_add_r9 {a b c d e f g i j k l : Nat} (h : a < b) : a < b + c + d + e + f + g + i + j + k + l := by omega
theorem lt_add_r10 {a b c d e f g i j k l m : Nat} (h : a < b) : a < b + c + d + e + f + g + i + j + k + l + m := by omega
theorem lt_self_r {a b : Nat} : a < a + b + 1 := by omega
theorem lt_self_r2 {a b c : Nat} : a < a + b + c + 1 := by omega
end
def Ext (w w' : World) : Prop := ∃ os k, w' = more w os k
theorem Ext.refl (w : World) : Ext w w := ⟨[], w.drawn, (more_nil w).symm⟩
theorem Ext.alloc {w w' : World} (h : Ext w w') (o : Obj) : Ext w (w'.alloc o) := by
 obtain ⟨os, k, rfl⟩ := h
 exact ⟨_, _, more_alloc w os k o⟩
theorem Ext.drew {w w' : World} (h : Ext w w') : Ext w w'.drew := by
 obtain ⟨os, k, rfl⟩ := h
 exact ⟨_, _, more_drew w os k⟩
theorem Ext.drewN {w w' : World} (h : Ext w w') (n : Nat) : Ext w (w'.drewN n) := by
 obtain ⟨os, k, rfl⟩ := h
 exact ⟨_, _, more_drewN w os k n⟩
theorem Ext.trans {a b c : World} (h : Ext a b) (h' : Ext b c) : Ext a c := by
 obtain ⟨os, k, rfl⟩ := h
 obtain ⟨os', k', rfl⟩ := h'
 exact ⟨_, _, more_more a os k os' k'⟩
theorem Ext.more {w w' : World} (h : Ext w w') (os : List Obj) (k : Nat) : Ext w (more w' os k) := h.trans ⟨os, k, rfl⟩
theorem Ext.below {w w' : World} (h : Ext w w') : Below w.heap.size w w' := by
 obtain ⟨os, k, rfl⟩ := h
 exact ⟨rfl, rfl, rfl, by rw [more_size]; omega, fun b hb => more_heap w os k b hb⟩
theorem Ext.of_below {w w' : World} (h : Below w.heap.size w w') : Ext w w' := by
 refine ⟨(w'.heap.extract w.heap.size w'.heap.size).toList, w'.drawn, ?_⟩
 obtain ⟨heap, tape, drawn, os, output⟩ := w
 obtain ⟨heap', tape', drawn', os', output'⟩ := w'
 obtain ⟨h1, h2, h3, h4, h5⟩ := h
 simp only at h1 h2 h3 h4 h5
 subst h1 h2 h3
 show World.mk _ _ _ _ _ = World.mk _ _ _ _ _
 congr 1
 apply Array.ext_getElem?
 intro j
 rw [Array.getElem?_append]
 split
 ·rename_i hj
  exact h5 j hj
 ·rename_i hj
  have hj' : ¬ j < heap.size := hj
  show heap'[j]? = (heap'.extract heap.size heap'.size).toList.toArray[j - heap.size]?
  rw [List.getElem?_toArray, Array.getElem?_toList, Array.getElem?_extract]
  by_cases hl : j < heap'.size
  ·rw [if_pos (by simp only [Nat.min_self]; omega)]
   congr 1
   omega
  ·rw [if_neg (by simp only [Nat.min_self]; omega), Array.getElem?_eq_none (by omega)]
theorem Ext.size {w w' : World} (h : Ext w w') : w.heap.size ≤ w'.heap.size := h.below.size
theorem Ext.grown {w w1 w' : World} (h : Ext w w1) {row : Option Nat} (hg : w1.grownBy w' row) (hr : ∀ g, row = some g → w.heap.size ≤ g) : Ext w w' :=
 Ext.of_below (h.below.grown hg h.size hr)
theorem Ext.setCell {w w' : World} (h : Ext w w') {p : Addr} (hp : w.heap.size ≤ p.block) (u : Value) : Ext w (w'.setCell p u) :=
 Ext.of_below (h.below.setCell hp u)
theorem zh {p : Prop} (h : p) : Hid p := Lib.hid h
theorem xr (w : World) : Ext w w := Ext.refl w
theorem xa {w w' : World} (h : Ext w w') (o : Obj) : Ext w (w'.alloc o) := Ext.alloc h o
theorem xm {w w' : World} (h : Ext w w') (os : List Obj) (k : Nat) : Ext w (more w' os k) := Ext.more h os k
theorem xd {w w' : World} (h : Ext w w') : Ext w w'.drew := Ext.drew h
theorem xn {w w' : World} (h : Ext w w') (k : Nat) : Ext w (w'.drewN k) := Ext.drewN h k
theorem xs {w w' : World} (h : Ext w w') {p : Addr} (hp : w.heap.size ≤ p.block) (u : Value) : Ext w (w'.setCell p u) := Ext.setCell h hp u
theorem ret_int {k : IntKind} {a b : Int} (h : a = b) : Ending.returned (.int k a) = .returned (.int k b) := by rw [h]
theorem ret_bool {a b : Bool} (h : a = b) : Ending.returned (.bool a) = .returned (.bool b) := by rw [h]
structure Lay where
 os : List Obj
 k : Nat
instance layNonempty : Nonempty Lay := ⟨⟨[], 0⟩⟩
def Ints (w : World) (A : Option Addr) (xs : List Int) : Prop :=
 0 < xs.length → ∃ b off, A = some ⟨b, off, none⟩ ∧ b < w.heap.size ∧ ∀ k, k < xs.length → w.cell? ⟨b, off + k, none⟩ = some (.int .i64 (xs.getD k 0))
theorem Ints.nil {w : World} {A : Option Addr} : Ints w A [] := fun h => by simp at h
theorem Ints.ext {w w' : World} {A : Option Addr} {xs : List Int} (h : Ints w A xs) (e : Ext w w') : Ints w' A xs := fun h0 => by
 obtain ⟨b, off, hA, hb, hc⟩ := h h0
 obtain ⟨os, k, rfl⟩ := e
 exact ⟨b, off, hA, by rw [more_size]; omega, fun j hj => by rw [more_cell _ _ _ _ _ hb]; exact hc j hj⟩
def CellsAt (w : World) (A : Option Addr) (cs : List Value) : Prop :=
 0 < cs.length → ∃ b off, A = some ⟨b, off, none⟩ ∧ b < w.heap.size ∧ ∀ k u, cs[k]? = some u → w.cell? ⟨b, off + k, none⟩ = some u
theorem CellsAt.nil {w : World} {A : Option Addr} : CellsAt w A [] := fun h => by simp at h
theorem CellsAt.ext {w w' : World} {A : Option Addr} {cs : List Value} (h : CellsAt w A cs) (e : Ext w w') : CellsAt w' A cs := fun h0 => by
 obtain ⟨b, off, hA, hb, hc⟩ := h h0
 obtain ⟨os, k, rfl⟩ := e
 exact ⟨b, off, hA, by rw [more_size]; omega, fun j u hj => by rw [more_cell _ _ _ _ _ hb]; exact hc j u hj⟩
theorem own_cells {w : World} {base : Nat} {e : TypeId} {size : Nat} {v : Value} {n : Nat} {xs : List Value} (h : w.ownsRow base e size v n xs) :
 ∃ A cap, v = .slice A n cap ∧ CellsAt w A xs ∧ n ≤ cap ∧ cap ≤ maxLen ∧ (A = none → cap = 0) := by
 rcases h.2 with ⟨rfl, rfl⟩ | ⟨g, cap, cur, rfl, hb, hg, h1, h2, h3, rfl⟩
 ·refine ⟨none, 0, rfl, ?_, by omega, by unfold maxLen; omega, fun _ => rfl⟩
  have : xs = [] := List.eq_nil_of_length_eq_zero (by have := h.1; omega)
  subst this
  exact CellsAt.nil
 ·refine ⟨_, cap, rfl, fun h0 => ⟨g, 0, rfl, ?_, fun k u hk => ?_⟩, h1, h2, fun h => by cases h⟩
  ·rcases Nat.lt_or_ge g w.heap.size with hlt | hge
   ·exact hlt
   ·rw [Array.getElem?_eq_none hge] at hg; cases hg
  ·simp only [World.cell?, hg, Nat.zero_add]
   rw [List.getElem?_take] at hk
   split at hk
   ·rw [Array.getElem?_toList] at hk
    exact hk
   ·cases hk
theorem cells_new (w : World) (cs : Array Value) (t : TypeId) : CellsAt (w.alloc (.cells cs t)) (some ⟨w.heap.size, 0, none⟩) cs.toList := fun _ =>
 ⟨_, 0, rfl, by show _ < (w.heap.push _).size; simp, fun k u hk => by rw [cell_of_row _ _ _ _ _ (0, 0) (heap_alloc_new w _)]; simpa using hk⟩
theorem cells_lit (w : World) (e : TypeId) (g : Nat) (cur : Array Value) (cs : List Value) (hg : g = w.heap.size) (hc : cur.toList = cs) : CellsAt (w.alloc (.cells cur e)) (some ⟨g, 0, none⟩) cs := by
 subst hg
 subst hc
 exact cells_new w cur e
theorem own_block {w : World} {base : Nat} {e : TypeId} {size : Nat} {v : Value} {n : Nat} {xs : List Value} (h : w.ownsRow base e size v n xs) : ∀ g, v.ownBlock = some g → base ≤ g := by
 intro g hg
 rcases h.2 with ⟨rfl, _⟩ | ⟨g', cap, cur, rfl, hb, _⟩
 ·cases hg
 ·have : g' = g := by simpa [Value.ownBlock] using hg
  omega
theorem own_old {w : World} {base : Nat} {e : TypeId} {size : Nat} {v : Value} {n : Nat} {xs : List Value} (h : w.ownsRow base e size v n xs) : ∀ g, v.ownBlock = some g → g < w.heap.size := by
 intro g hg
 rcases h.2 with ⟨rfl, _⟩ | ⟨g', cap, cur, rfl, hb, hh, _⟩
 ·cases hg
 ·have : g' = g := by simpa [Value.ownBlock] using hg
  subst this
  rcases Nat.lt_or_ge g' w.heap.size with hlt | hge
  ·exact hlt
  ·rw [Array.getElem?_eq_none hge] at hh
   cases hh
theorem own_keep {w w' : World} {base : Nat} {e : TypeId} {size : Nat} {v : Value} {n : Nat} {xs : List Value} (h : w.ownsRow base e size v n xs) (hk : ∀ g, v.ownBlock = some g → w'.heap[g]? = w.heap[g]?) : w'.ownsRow base e size v n xs := by
 refine ⟨h.1, ?_⟩
 rcases h.2 with h1 | ⟨g, cap, cur, h1, h2, h3, h4⟩
 ·exact .inl h1
 ·exact .inr ⟨g, cap, cur, h1, h2, (hk g (by rw [h1]; rfl)).trans h3, h4⟩
theorem own_lit (w : World) (base : Nat) (e : TypeId) (size : Nat) (g n : Nat) (cur : Array Value) (hg : g = w.heap.size) (hb : base ≤ w.heap.size) (hs : cur.size = n * size) (hn : n ≤ maxLen) :
 (w.alloc (.cells cur e)).ownsRow base e size (.slice (some ⟨g, 0, none⟩) n n) n cur.toList := by
 subst hg
 refine ⟨by rw [Array.length_toList, hs], .inr ⟨w.heap.size, n, cur, rfl, hb, heap_alloc_new w _, Nat.le_refl _, hn, hs, ?_⟩⟩
 rw [List.take_of_length_le (by rw [Array.length_toList, hs]; exact Nat.le_refl _)]
section
variable {P : Program}
theorem run_append_cells (w : World) (base : Nat) (t ty e : TypeId) (i : TypeInfo) (z : Value) (size bytes : Nat) (ht : P.underlying t = some (.slice e)) (hi : P.info? e = some i) (hz : i.zero = some z)
 (hsize : i.size = size) (hby : i.bytes = bytes) (hzs : z.cells.size = size) (hsz : 0 < size)
 (v : Value) (n : Nat) (xs : List Value) (hown : w.ownsRow base e size v n xs)
 (A : Option Addr) (m c : Nat) (news : List Value) (hA : A = none → c = 0) (hl : news.length = m * size) (hn : CellsAt w A news) (h1 : ∀ u ∈ news, u.oneCell' = true)
 (h63 : n + m ≤ maxLen) (hbytes : (n + m) * bytes ≤ 140737488355328) (hbase : base ≤ w.heap.size) :
 ∃ v' w', (Builtin.append_ #[t, t] ty #[v, .slice A m c]).run P w = .ok v' w' ∧ w'.ownsRow base e size v' (n + m) (xs ++ news) ∧ w.grownBy w' v.ownBlock ∧ (v'.ownBlock = v.ownBlock ∨ v'.ownBlock = some w.heap.size) := by
 cases A with
 | none =>
  obtain rfl := hA rfl
  have hm : news = [] := by
   cases news with
   | nil => rfl
   | cons u l =>
    obtain ⟨b, off, h, _⟩ := hn (by simp)
    cases h
  subst hm
  have hm0 : m = 0 := by
   rcases Nat.eq_zero_or_pos m with h | h
   ·exact h
   ·have := Nat.mul_pos h hsz
    simp only [List.length_nil] at hl
    omega
  subst hm0
  exact ⟨v, w, run_append_owned_none (P := P) (w := w) base t ty e i size ht hi v n xs hown, by simpa using hown, World.grownBy.refl w _, .inl rfl⟩
 | some ad =>
  have hcells : ∀ j u, news[j]? = some u → w.cell? (ad.add j) = some u := by
   intro j u hu
   have hlt : j < news.length := (List.getElem?_eq_some_iff.1 hu).1
   obtain ⟨b, off, h, _, hc⟩ := hn (by omega)
   injection h with h
   subst h
   rw [Go.WideShapes.add_plain]
   exact hc j u hu
  obtain ⟨v', w', hrun, h2, h3, _, h5⟩ := run_append_own_at (P := P) (w := w) base t ty e i z size bytes ht hi hz hsize hby hzs hsz v n xs hown ad m c news hl hcells h1 h63 hbytes hbase
  exact ⟨v', w', hrun, h2, h3, h5⟩
theorem wp_append_cells (w : World) {o : Oper} {a : Act} {K : Act → World → Prop} {Q : Exit → Act → World → Prop} (s x : Operand) (t : TypeId)
 (ho : o.op = .call { callee := .builtin .append, args := #[s, x], argTypes := #[t, t] })
 (base : Nat) (e : TypeId) (i : TypeInfo) (z : Value) (size bytes : Nat) (ht : P.underlying t = some (.slice e)) (hi : P.info? e = some i) (hz : i.zero = some z)
 (hsize : i.size = size) (hby : i.bytes = bytes) (hzs : z.cells.size = size) (hsz : 0 < size)
 (v : Value) (n : Nat) (xs : List Value) (hs : a.eval s = v) (hown : w.ownsRow base e size v n xs)
 (A : Option Addr) (m c : Nat) (news : List Value) (hx : a.eval x = .slice A m c) (hA : A = none → c = 0) (hl : news.length = m * size) (hn : CellsAt w A news) (h1 : ∀ u ∈ news, u.oneCell' = true)
 (h63 : n + m ≤ maxLen) (hbytes : (n + m) * bytes ≤ 140737488355328) (hbase : base ≤ w.heap.size)
 (h : ∀ v' w', w'.ownsRow base e size v' (n + m) (xs ++ news) → w.grownBy w' v.ownBlock → (v'.ownBlock = v.ownBlock ∨ v'.ownBlock = some w.heap.size) → K (a.put o.dst v') w') : o.wp P a w K Q := by
 obtain ⟨v', w', hrun, h2, h3, h4⟩ := run_append_cells (P := P) w base t o.type e i z size bytes ht hi hz hsize hby hzs hsz v n xs hown A m c news hA hl hn h1 h63 hbytes hbase
 unfold Oper.wp execOp
 simp only [ho, resolve, invoke, builtin, Sem.run_bind, Sem.run_pure, Result.andThen_ok, List.map_toArray, List.map_cons, List.map_nil, hs, hx, hrun]
 exact h v' w' h2 h3 h4
theorem wpList_append_cells (w : World) {ops : Array Oper} {rest : List Oper} {o : Oper} {a : Act} {Q : Exit → Act → World → Prop} (hw : Region.wanted o (yielded ops a.tmps) = true) (s x : Operand) (t : TypeId)
 (ho : o.op = .call { callee := .builtin .append, args := #[s, x], argTypes := #[t, t] })
 (base : Nat) (e : TypeId) (i : TypeInfo) (z : Value) (size bytes : Nat) (ht : P.underlying t = some (.slice e)) (hi : P.info? e = some i) (hz : i.zero = some z)
 (hsize : i.size = size) (hby : i.bytes = bytes) (hzs : z.cells.size = size) (hsz : 0 < size)
 (v : Value) (n : Nat) (xs : List Value) (hs : a.eval s = v) (hown : w.ownsRow base e size v n xs)
 (A : Option Addr) (m c : Nat) (news : List Value) (hx : a.eval x = .slice A m c) (hA : A = none → c = 0) (hl : news.length = m * size) (hn : CellsAt w A news) (h1 : ∀ u ∈ news, u.oneCell' = true)
 (h63 : n + m ≤ maxLen) (hbytes : (n + m) * bytes ≤ 140737488355328) (hbase : base ≤ w.heap.size)
 (h : ∀ v' w', w'.ownsRow base e size v' (n + m) (xs ++ news) → w.grownBy w' v.ownBlock → (v'.ownBlock = v.ownBlock ∨ v'.ownBlock = some w.heap.size) → wpList P ops Q rest (a.put o.dst v') w') : wpList P ops Q (o :: rest) a w :=
 wpList_step fun K hK => by
  rw [if_pos hw]
  exact wp_append_cells w s x t ho base e i z size bytes ht hi hz hsize hby hzs hsz v n xs hs hown A m c news hx hA hl hn h1 h63 hbytes hbase fun v' w' h2 h3 h4 => hK _ _ (h v' w' h2 h3 h4)
end
structure Turn (S : Nat → Prop) (w w' : World) : Prop where
 os : w'.os = w.os
 tape : w'.tape = w.tape
 output : w'.output = w.output
 size : w.heap.size ≤ w'.heap.size
 block : ∀ b, b < w.heap.size → ¬ S b → w'.heap[b]? = w.heap[b]?
section
variable {S : Nat → Prop}
theorem Turn.refl (w : World) : Turn S w w := ⟨rfl, rfl, rfl, Nat.le_refl _, fun _ _ _ => rfl⟩
theorem Turn.of_ext {w w' : World} (h : Ext w w') : Turn S w w' :=
 ⟨h.below.os, h.below.tape, h.below.output, h.below.size, fun b hb _ => h.below.block b hb⟩
theorem Turn.trans {a b c : World} (h : Turn S a b) (h' : Turn S b c) : Turn S a c :=
 ⟨h'.os.trans h.os, h'.tape.trans h.tape, h'.output.trans h.output, Nat.le_trans h.size h'.size, fun k hk hS => (h'.block k (Nat.lt_of_lt_of_le hk h.size) hS).trans (h.block k hk hS)⟩
theorem Turn.mono {S' : Nat → Prop} {a b : World} (h : Turn S a b) (hs : ∀ k, k < a.heap.size → S k → S' k) : Turn S' a b :=
 ⟨h.os, h.tape, h.output, h.size, fun k hk hS => h.block k hk fun hk' => hS (hs k hk hk')⟩
theorem Turn.andThen {S' S'' : Nat → Prop} {a b c : World} (h : Turn S a b) (h' : Turn S' b c) (h1 : ∀ k, k < a.heap.size → S k → S'' k) (h2 : ∀ k, k < a.heap.size → S' k → S'' k) : Turn S'' a c :=
 ⟨h'.os.trans h.os, h'.tape.trans h.tape, h'.output.trans h.output, Nat.le_trans h.size h'.size, fun k hk hS =>
   (h'.block k (Nat.lt_of_lt_of_le hk h.size) fun hk' => hS (h2 k hk hk')).trans (h.block k hk fun hk' => hS (h1 k hk hk'))⟩
theorem Turn.grown {a b : World} {row : Option Nat} (h : a.grownBy b row) (hs : ∀ g, row = some g → g < a.heap.size → S g) : Turn S a b :=
 ⟨h.os, h.tape, h.output, h.size, fun k hk hS => h.block k hk fun he => hS (hs k he.symm hk)⟩
theorem Turn.setCell (w : World) {p : Addr} (hp : S p.block) (u : Value) : Turn S w (w.setCell p u) :=
 ⟨rfl, rfl, rfl, by simp [World.setCell], fun k _ hS => heap_setCell_other w p k u fun he => hS (he ▸ hp)⟩
theorem Turn.below {a b : World} (h : Turn S a b) {n : Nat} (hn : n ≤ a.heap.size) (hs : ∀ k, S k → n ≤ k) : Below n a b :=
 ⟨h.os, h.tape, h.output, h.size, fun k hk => h.block k (Nat.lt_of_lt_of_le hk hn) fun hS => Nat.lt_irrefl _ (Nat.lt_of_lt_of_le hk (hs k hS))⟩
end
theorem lt_of_heap {w : World} {b : Nat} {o : Obj} (h : w.heap[b]? = some o) : b < w.heap.size := by
 rcases Nat.lt_or_ge b w.heap.size with hlt | hge
 ·exact hlt
 ·rw [Array.getElem?_eq_none hge] at h
  cases h
theorem setCell_id (w : World) (b i : Nat) (cs : Array Value) (t : TypeId) (fr : Nat × Nat) (v : Value) (h : w.heap[b]? = some (.cells cs t fr)) (hv : cs[i]? = some v) : w.setCell ⟨b, i, none⟩ v = w := by
 have hb := lt_of_heap h
 obtain ⟨heap, a2, a3, a4, a5⟩ := w
 simp only [World.setCell]
 congr 1
 apply Array.ext_getElem?
 intro j
 rw [Array.getElem?_modify]
 split
 ·rename_i he
  subst he
  simp only at h
  rw [h]
  have hs : cs.setIfInBounds i v = cs := by
   apply Array.ext_getElem?
   intro k
   rw [Array.getElem?_setIfInBounds]
   split
   ·rename_i hk
    subst hk
    rw [hv]
    simp [(Array.getElem?_eq_some_iff.1 hv).1]
   ·rfl
  simp [hs]
 ·rfl
theorem own_ext {w w' : World} {base : Nat} {e : TypeId} {size : Nat} {v : Value} {n : Nat} {xs : List Value} (h : w.ownsRow base e size v n xs) (x : Ext w w') : w'.ownsRow base e size v n xs :=
 own_keep h fun g hg => x.below.block g (own_old h g hg)
theorem own_obj {w : World} {base : Nat} {e : TypeId} {size : Nat} {v : Value} {n : Nat} {xs : List Value} (h : w.ownsRow base e size v n xs) : ∀ g, v.ownBlock = some g → ∃ cur, w.heap[g]? = some (.cells cur e) := by
 intro g hg
 rcases h.2 with ⟨rfl, _⟩ | ⟨g', cap, cur, rfl, hb, hh, _⟩
 ·cases hg
 ·have : g' = g := by simpa [Value.ownBlock] using hg
  subst this
  exact ⟨cur, hh⟩
variable {P : Program}
section
variable {P : Program} {ops : Array Oper} {md : Region.Mode} {C : World → Prop}
def QN : Exit → Act → World → Prop := fun _ _ _ => False
theorem no_letsOut : ¬ LetsOut QN := fun ⟨_, _, h⟩ => h
theorem wp_monoQ {o : Oper} {a : Act} {w : World} {K K' : Act → World → Prop} {Q Q' : Exit → Act → World → Prop} (h : ∀ a w, K a w → K' a w) (hp : ∀ c a w, Q (.panic c) a w → Q' (.panic c) a w) (hl : LetsOut Q → LetsOut Q')
 (hh : o.wp P a w K Q) : o.wp P a w K' Q' := by
 unfold Oper.wp at *
 generalize (execOp a.eval o).run P w = r at *
 cases r with
 | ok n w' =>
  cases n <;> simp only [Oper.upon] at hh ⊢
  case value u => exact h _ _ hh
  case skip => exact h _ _ hh
  case defer d => exact h _ _ hh
  case enter f args =>
   refine Calls.mono hh fun e w'' he => ?_
   cases e with
   | returned u => exact h _ _ he
   | panicked c => exact hp _ _ _ he
   | outgrown => exact hl he
  case row row args => exact Rows.mono hh fun _ _ he => h _ _ he
 | halt x w' =>
  cases x <;> simp only [Oper.upon] at hh ⊢
  case panic u => exact hp _ _ _ hh
theorem wpOp_of_QN {Q : Exit → Act → World → Prop} {i : Nat} {a : Act} {w : World} {K K' : Act → World → Prop} (h : ∀ a w, K a w → K' a w) (hh : wpOp P ops QN i K a w) : wpOp P ops Q i K' a w := by
 unfold wpOp at *
 split
 ·exact h _ _ (by simpa [*] using hh)
 ·rename_i o ho
  simp only [ho] at hh
  split
  ·rename_i hw
   simp only [hw, if_true] at hh
   rcases hh with hh | ⟨_, hl⟩
   ·exact .inl (wp_monoQ h (fun _ _ _ h => h.elim) (fun h => absurd h no_letsOut) hh)
   ·exact absurd hl no_letsOut
  ·rename_i hw
   simp only [hw] at hh
   exact h _ _ hh
def wpAnyC (P : Program) (md : Region.Mode) (ops : Array Oper) (C : World → Prop) (s : Nat) (Q : Act → World → Prop) : Nat → Array Bool → Act → World → Prop
 | 0, listed, a, w => (listed.getD s false = false → C w) ∧ Region.ready md ops listed = [] ∧ Q a w
 | fuel + 1, listed, a, w => (listed.getD s false = false → C w) ∧ (Region.ready md ops listed = [] → Q a w) ∧
  ∀ i ∈ Region.ready md ops listed, wpOp P ops QN i (wpAnyC P md ops C s Q fuel (listed.setIfInBounds i true)) a w
theorem wpAnyC.cls {s : Nat} {Q : Act → World → Prop} {fuel : Nat} {listed : Array Bool} {a : Act} {w : World} (h : wpAnyC P md ops C s Q fuel listed a w) (hs : listed.getD s false = false) : C w := by
 cases fuel with
 | zero => exact h.1 hs
 | succ n => exact h.1 hs
theorem wpAny_of_C {s : Nat} {Q : Exit → Act → World → Prop} : ∀ (fuel : Nat) (listed : Array Bool) (a : Act) (w : World), wpAnyC P md ops C s (fun a w => Q .normal a w) fuel listed a w → wpAny P md ops Q fuel listed a w
 | 0, _, _, _, h => h.2
 | fuel + 1, _, _, _, h => ⟨h.2.1, fun i hi => wpOp_of_QN (fun a' w' hh => wpAny_of_C fuel _ a' w' hh) (h.2.2 i hi)⟩
theorem wpOpC_put {j : Nat} {oi oj : Oper} {v : Value} (hj : ops[j]? = some oj) (hap : oi.apart ops oj = true) (hsi : ∀ cs b, oi.op ≠ .select cs b) (hsj : ∀ cs b, oj.op ≠ .select cs b) {K : Act → World → Prop} {a : Act} {w : World}
 (hy : YieldsIn P ops C oi v a) (h : wpOp P ops QN j K (a.put oi.dst v) w) : wpOp P ops QN j (fun a' w' => YieldsIn P ops C oi v a' ∧ K (a'.put oi.dst v) w') a w := by
 obtain ⟨h1, h2, h3⟩ := Oper.apart_spec hap
 have keep : ∀ (a : Act), YieldsIn P ops C oi v a → ∀ u, YieldsIn P ops C oi v (a.put oj.dst u) := fun a hy u => hy.of_same (execOp_put oi hsi a oj.dst u h3) (wanted_put oi a oj.dst u h3)
 have keepD : ∀ d, YieldsIn P ops C oi v { a with defers := d :: a.defers } := fun d => hy.of_same rfl rfl
 unfold wpOp at *
 simp only [hj] at *
 rw [wanted_put oj a oi.dst v h1] at h
 split
 ·rename_i hw
  simp only [hw, if_true] at h
  rcases h with h | ⟨_, hl⟩
  case inr => exact absurd hl no_letsOut
  refine .inl ?_
  unfold Oper.wp at *
  rw [execOp_put oj hsj a oi.dst v h1] at h
  generalize (execOp a.eval oj).run P w = r at *
  cases r with
  | ok n w' =>
   cases n <;> simp only [Oper.upon] at h ⊢
   case value u => exact ⟨keep a hy u, by rw [← Act.put_comm a v u h2]; exact h⟩
   case skip => exact ⟨keep a hy _, by rw [← Act.put_comm a v undef h2]; exact h⟩
   case defer d =>
    refine ⟨keep _ (keepD d) _, ?_⟩
    rw [← Act.put_comm _ v undef h2, ← Act.put_defers]
    exact h
   case enter f args =>
    refine Calls.mono h fun e w'' he => ?_
    cases e with
    | returned u => exact ⟨keep a hy u, by rw [← Act.put_comm a v u h2]; exact he⟩
    | panicked c => exact he
    | outgrown => exact he
   case row row args => exact Rows.mono h fun u w'' he => ⟨keep a hy u, by rw [← Act.put_comm a v u h2]; exact he⟩
  | halt x w' =>
   cases x <;> simp only [Oper.upon] at h ⊢
   case panic u => exact h
 ·rename_i hw
  simp only [hw] at h
  exact ⟨keep a hy _, by rw [← Act.put_comm a v undef h2]; exact h⟩
end
def softOp (o : Oper) : Bool := match o.op with
 | .move _ | .assign _ | .nilCheck _ | .pick _ _ _ | .load _ _ | .binOp _ _ _ _ _ | .unOp _ _ _ | .slice _ _ _ _ _ | .fieldAddr _ _ _ | .field _ _ _ | .indexAddr _ _ _ | .index _ _ _ | .extract _ _ | .build _ _ | .convert _ _ _ | .makeFunc _ _ _ => true
 | .call c => match c.callee with
  | .builtin .len | .builtin .cap | .builtin .max | .builtin .min => true
  | _ => false
 | _ => false
theorem bind_value {P : Program} {α : Type} {w w' : World} {n : Next} (s : Sem α) (k : α → Sem Next) (hk : ∀ (a : α) (w1 : World) (n' : Next) (w2 : World), Sem.run P (k a) w1 = .ok n' w2 → ∃ v, n' = .value v) (h : Sem.run P (s >>= k) w = .ok n w') : ∃ v, n = .value v := by
 rw [Sem.run_bind] at h
 cases hs : Sem.run P s w with
 | ok a w1 =>
  rw [hs] at h
  exact hk a w1 n w' h
 | halt x w1 =>
  rw [hs] at h
  cases h
theorem value_only {P : Program} {w w' : World} (s : Sem Value) {n : Next} (h : Sem.run P (do pure (Next.value (← s))) w = .ok n w') : ∃ v, n = .value v := by
 rw [Sem.run_bind] at h
 cases hs : Sem.run P s w with
 | ok v w1 =>
  rw [hs] at h
  simp only [Result.andThen_ok, Sem.run_pure] at h
  cases h
  exact ⟨v, rfl⟩
 | halt x w1 =>
  rw [hs] at h
  cases h
theorem soft_value {P : Program} {o : Oper} (hs : softOp o = true) (ρ : Operand → Value) {w w' : World} {n : Next} (h : (execOp ρ o).run P w = .ok n w') : ∃ v, n = .value v := by
 obtain ⟨dst, op, type, pos, after, guard⟩ := o
 unfold softOp at hs
 cases op <;> simp only [Bool.false_eq_true] at hs <;> simp only [execOp] at h
 case call c =>
  obtain ⟨callee, args, argTypes⟩ := c
  cases callee <;> simp only [Bool.false_eq_true] at hs
  case builtin b =>
   cases b <;> simp only [Bool.false_eq_true] at hs <;> (simp only [resolve, invoke, builtin, Sem.run_bind, Sem.run_pure, Result.andThen_ok] at h; exact value_only _ (by rw [Sem.run_bind]; exact h))
 case pick c a b =>
  rw [Sem.run_bind] at h
  cases hs : Sem.run P (asBool (ρ c)) w with
  | ok v w1 =>
   rw [hs] at h
   simp only [Result.andThen_ok] at h
   cases v <;> simp at h <;> exact ⟨_, h.1.symm⟩
  | halt x w1 =>
   rw [hs] at h
   cases h
 case move x => simp at h; exact ⟨_, h.1.symm⟩
 case assign x => simp at h; exact ⟨_, h.1.symm⟩
 case nilCheck x =>
  split at h
  all_goals first
   | (simp at h; exact ⟨_, h.1.symm⟩)
   | (simp [runtimePanic] at h; done)
   | (split at h <;> first
       | (simp at h; exact ⟨_, h.1.symm⟩)
       | (simp [runtimePanic] at h; done)
       | (refine bind_value _ _ (fun _ _ _ _ h1 => bind_value _ _ (fun _ _ _ _ h2 => ?_) h1) h
          split at h2
          ·exact bind_value _ _ (fun _ _ _ _ h3 => by simp at h3; exact ⟨_, h3.1.symm⟩) h2
          ·simp at h2; exact ⟨_, h2.1.symm⟩))
 all_goals exact value_only _ h
section
variable {P : Program} {ops : Array Oper} {md : Region.Mode} {C : World → Prop}
theorem soft_at {o : Oper} {v : Value} {a : Act} {w : World} (hs : softOp o = true) (h : o.quietAt P a C w v) : (execOp a.eval o).run P w = .ok (.value v) w := by
 unfold Oper.quietAt at h
 cases hr : (execOp a.eval o).run P w with
 | ok n w' =>
  obtain ⟨u, rfl⟩ := soft_value hs _ hr
  rw [hr] at h
  simp only [Oper.quietUpon] at h
  obtain ⟨rfl, rfl⟩ := h
  rfl
 | halt x w' =>
  rw [hr] at h
  simp only [Oper.quietUpon] at h
theorem wpOp_of_soft {i : Nat} {o : Oper} {v : Value} {a : Act} {w : World} {K : Act → World → Prop} (hi : ops[i]? = some o) (hs : softOp o = true) (hy : YieldsIn P ops C o v a) (hC : C w) (hK : K (a.put o.dst v) w) : wpOp P ops QN i K a w := by
 unfold wpOp
 simp only [hi]
 rcases hy with ⟨hw, hv⟩ | ⟨hw, rfl⟩
 ·rw [if_pos hw]
  refine .inl ?_
  unfold Oper.wp
  rw [soft_at hs (hv w hC)]
  exact hK
 ·rw [if_neg (by rw [hw]; exact Bool.false_ne_true)]
  exact hK
end
section
variable {P : Program} {C : World → Prop}
def nthC : List Oper → Nat → List Oper → List Oper
 | [], _, acc => acc
 | o :: _, 0, acc => o :: acc
 | _ :: l, i + 1, acc => nthC l i acc
theorem nthC_some : ∀ {l : List Oper} {i : Nat} {o : Oper} (acc : List Oper), l[i]? = some o → nthC l i acc = o :: acc
 | [], _, _, _, h => by simp at h
 | o :: _, 0, _, _, h => by simp at h; subst h; rfl
 | _ :: l, i + 1, _, acc, h => nthC_some (l := l) acc (by simpa using h)
def pick (l : List Oper) : List Nat → List Oper
 | [] => []
 | i :: is => nthC l i (pick l is)
def segQ (C : World → Prop) (i s : Nat) (next : Act → World → Prop) : Exit → Act → World → Prop
 | .normal, a, w => (i ≠ s → C w) ∧ next a w
 | _, _, _ => False
theorem segQ_mk {i s : Nat} {next : Act → World → Prop} {a : Act} {w : World} (h1 : i ≠ s → C w) (h2 : next a w) : segQ C i s next .normal a w := ⟨h1, h2⟩
theorem wpOp_of_list {l : List Oper} {i s : Nat} {next : Act → World → Prop} {a : Act} {w : World} (hi : i < l.length) (h : wpList P l.toArray (segQ C i s next) (pick l [i]) a w) :
 wpOp P l.toArray QN i (fun a' w' => (i ≠ s → C w') ∧ next a' w') a w := by
 have hi1 : l[i]? = some l[i] := List.getElem?_eq_getElem hi
 have e : pick l [i] = [l[i]] := nthC_some _ hi1
 have hi' : l.toArray[i]? = some l[i] := by rw [List.getElem?_toArray]; exact hi1
 rw [e] at h
 unfold wpOp
 simp only [hi']
 unfold wpList at h
 split
 ·rename_i hw
  rw [if_pos hw] at h
  rcases h with h | ⟨_, a', w', hl⟩
  ·refine .inl (wp_monoQ (fun a w h => h) (fun _ _ _ h => h) ?_ h)
   rintro ⟨_, _, hl⟩
   exact hl.elim
  ·exact hl.elim
 ·rename_i hw
  rw [if_neg hw] at h
  exact h
theorem laid {w w' : World} (h : Ext w w') : ∃ x : Lay, w' = more w x.os x.k := by
 obtain ⟨os, k, h⟩ := h
 exact ⟨⟨os, k⟩, h⟩
end
end Go.Proofs.YthpmncdfaggkiaaGreat
namespace Go.Proofs.YthpmncdfaggkiaaGreat
open Go.RowKit
attribute [local go_sem] more_drew more_drewN more_size more_cell more_frozen more_setCell drew_more drewN_more lt_add_r lt_add_r2 lt_add_r3 lt_add_r4 lt_add_r5 lt_add_r6 lt_add_r7 lt_add_r8 lt_add_r9 lt_add_r10 lt_self_r lt_self_r2
theorem ext_block {w w' : World} {o : Nat} {ob : Obj} (h : w.heap[o]? = some ob) (e : Ext w w') : w'.heap[o]? = some ob := (e.below.block o (lt_of_heap h)).trans h
theorem heap_alloc_get (w : World) (o : Obj) (j : Nat) : (w.alloc o).heap[j]? = if j = w.heap.size then some o else w.heap[j]? := by
 show (w.heap.push o)[j]? = _
 rw [Array.getElem?_push]
theorem row_block {w : World} {base c n : Nat} {A : Option Addr} {e : TypeId} {size : Nat} {xs : List Value} (h : w.ownsRow base e size (.slice A n c) n xs) (h0 : 0 < n) : ∃ g, A = some ⟨g, 0, none⟩ ∧ base ≤ g ∧ g < w.heap.size := by
 rcases h.2 with ⟨h2, rfl⟩ | ⟨g', cap, cur, h2, h3, h4, _⟩
 ·omega
 ·injection h2 with a1 a2 a3
  exact ⟨g', a1, h3, lt_of_heap h4⟩
def iv (xs : List Int) : List Value := xs.map (Value.int .i64)
theorem iv_length (xs : List Int) : (iv xs).length = xs.length := List.length_map _
theorem iv_get {xs : List Int} {k : Nat} (h : k < xs.length) : (iv xs)[k]? = some (.int .i64 (xs.getD k 0)) := by
 unfold iv
 rw [List.getElem?_map, List.getD_eq_getElem?_getD, List.getElem?_eq_getElem h]
 rfl
theorem iv_append (xs ys : List Int) : iv (xs ++ ys) = iv xs ++ iv ys := List.map_append
theorem infoInt : (Tryz.prog.info? 3).map (fun i => (i.zero, i.size, i.bytes)) = some (some (.int .i64 0), 1, 8) := by kernel_rfl
def OwnI (w : World) (base : Nat) (A : Option Addr) (c : Nat) (xs : List Int) : Prop := w.ownsRow base 3 1 (.slice A xs.length c) xs.length (iv xs)
theorem OwnI.ints {w : World} {base : Nat} {A : Option Addr} {c : Nat} {xs : List Int} (h : OwnI w base A c xs) : Ints w A xs ∧ xs.length ≤ c ∧ c ≤ maxLen ∧ (A = none → c = 0) := by
 obtain ⟨A', cap, hv, h1, h2, h3, h4⟩ := own_cells h
 injection hv with a1 a2 a3
 subst a1 a3
 refine ⟨fun h0 => ?_, h2, h3, h4⟩
 obtain ⟨b, off, hA, hb, hc⟩ := h1 (by rw [iv_length]; exact h0)
 exact ⟨b, off, hA, hb, fun k hk => hc k _ (iv_get hk)⟩
theorem OwnI.nil (w : World) (base : Nat) : OwnI w base none 0 [] := World.ownsRow_nil _ _ _ _
theorem OwnI.ext {w w' : World} {base : Nat} {A : Option Addr} {c : Nat} {xs : List Int} (h : OwnI w base A c xs) (e : Ext w w') : OwnI w' base A c xs := own_ext h e
def IntsRet (w : World) (us : List Int) (e : Ending) (w' : World) : Prop := ∃ A c, e = .returned (.slice A us.length c) ∧ OwnI w' w.heap.size A c us ∧ Ext w w'
def RowI (w : World) (base : Nat) (v : Value) (xs : List Int) : Prop := ∃ A c, v = .slice A xs.length c ∧ OwnI w base A c xs
theorem RowI.ext {w w' : World} {base : Nat} {v : Value} {xs : List Int} (h : RowI w base v xs) (e : Ext w w') : RowI w' base v xs := by
 obtain ⟨A, c, hv, ho⟩ := h
 exact ⟨A, c, hv, ho.ext e⟩
theorem app_int (w0 : World) {w : World} {ops : Array Oper} {rest : List Oper} {o : Oper} {a : Act} {Q : Exit → Act → World → Prop} (hw : Region.wanted o (yielded ops a.tmps) = true) (s x : Operand)
 (ho : o.op = .call { callee := .builtin .append, args := #[s, x], argTypes := #[31, 31] }) {xs : List Int} {v : Value} (hr : RowI w w0.heap.size v xs) (y : Int) (g : Nat)
 (hs : a.eval s = v) (hx : a.eval x = .slice (some ⟨g, 0, none⟩) 1 1) (hg : g < w.heap.size) (hc : w.cell? ⟨g, 0, none⟩ = some (.int .i64 y)) (hlen : xs.length ≤ 1000000) (hext : Ext w0 w)
 (h : ∀ v' w', RowI w' w0.heap.size v' (xs ++ [y]) → w.grownBy w' v.ownBlock → Ext w0 w' → wpList Tryz.prog ops Q rest (a.put o.dst v') w') : wpList Tryz.prog ops Q (o :: rest) a w := by
 obtain ⟨A, c, rfl, hown⟩ := hr
 obtain ⟨i3, hi, hz0, hz1, hz2⟩ := info_parts infoInt
 refine wpList_append_cells w hw s x 31 ho w0.heap.size 3 i3 (.int .i64 0) 1 8 Tryz.underlying31 hi hz0 hz1 hz2 rfl (by omega) _ xs.length (iv xs) hs hown (some ⟨g, 0, none⟩) 1 1 (iv [y]) hx (fun h => by cases h) rfl
  (fun _ => ⟨g, 0, rfl, hg, fun k u hk => ?_⟩) (fun u hu => ?_) (by unfold maxLen; omega) (by omega) hext.size fun v' w' h2 h3 h4 => ?_
 ·cases k with
  | zero => simp [iv] at hk; rw [← hk]; exact hc
  | succ k => simp [iv] at hk
 ·simp only [iv, List.map_cons, List.map_nil, List.mem_singleton] at hu
  subst hu
  rfl
 ·obtain ⟨A', c', hv', _⟩ := own_cells h2
  subst hv'
  refine h _ w' ⟨A', c', by rw [List.length_append]; rfl, ?_⟩ h3 (hext.grown h3 fun g hg => own_block hown g hg)
  unfold OwnI
  rw [iv_append, List.length_append]
  exact h2
theorem take_next {xs : List Int} {k : Nat} (h : k < xs.length) : xs.take (k + 1) = xs.take k ++ [xs.getD k 0] := by
 rw [List.take_succ_eq_append_getElem h, List.getD_eq_getElem?_getD, List.getElem?_eq_getElem h]
 rfl
theorem app_intO (w0 : World) {w : World} {ops : Array Oper} {rest : List Oper} {o : Oper} {a : Act} {Q : Exit → Act → World → Prop} (hw : Region.wanted o (yielded ops a.tmps) = true) (s x : Operand)
 (ho : o.op = .call { callee := .builtin .append, args := #[s, x], argTypes := #[31, 31] }) {xs : List Int} {v : Value} (hr : RowI w w0.heap.size v xs) (y : Int) (g : Nat)
 (hs : a.eval s = v) (hx : a.eval x = .slice (some ⟨g, 0, none⟩) 1 1) (hg : g < w.heap.size) (hc : w.cell? ⟨g, 0, none⟩ = some (.int .i64 y)) (hlen : xs.length ≤ 1000000) (hbase : w0.heap.size ≤ w.heap.size)
 (h : ∀ v' w', RowI w' w0.heap.size v' (xs ++ [y]) → w.grownBy w' v.ownBlock → (v'.ownBlock = v.ownBlock ∨ v'.ownBlock = some w.heap.size) → wpList Tryz.prog ops Q rest (a.put o.dst v') w') : wpList Tryz.prog ops Q (o :: rest) a w := by
 obtain ⟨A, c, rfl, hown⟩ := hr
 obtain ⟨i3, hi, hz0, hz1, hz2⟩ := info_parts infoInt
 refine wpList_append_cells w hw s x 31 ho w0.heap.size 3 i3 (.int .i64 0) 1 8 Tryz.underlying31 hi hz0 hz1 hz2 rfl (by omega) _ xs.length (iv xs) hs hown (some ⟨g, 0, none⟩) 1 1 (iv [y]) hx (fun h => by cases h) rfl
  (fun _ => ⟨g, 0, rfl, hg, fun k u hk => ?_⟩) (fun u hu => ?_) (by unfold maxLen; omega) (by omega) hbase fun v' w' h2 h3 h4 => ?_
 ·cases k with
  | zero => simp [iv] at hk; rw [← hk]; exact hc
  | succ k => simp [iv] at hk
 ·simp only [iv, List.map_cons, List.map_nil, List.mem_singleton] at hu
  subst hu
  rfl
 ·obtain ⟨A', c', hv', _⟩ := own_cells h2
  subst hv'
  refine h _ w' ⟨A', c', by rw [List.length_append]; rfl, ?_⟩ h3 h4
  unfold OwnI
  rw [iv_append, List.length_append]
  exact h2
theorem app_ints (w0 : World) {w : World} {ops : Array Oper} {rest : List Oper} {o : Oper} {a : Act} {Q : Exit → Act → World → Prop} (hw : Region.wanted o (yielded ops a.tmps) = true) (s x : Operand)
 (ho : o.op = .call { callee := .builtin .append, args := #[s, x], argTypes := #[31, 31] }) {xs : List Int} {v : Value} (hr : RowI w w0.heap.size v xs) (ys : List Int) (A : Option Addr) (c : Nat)
 (hs : a.eval s = v) (hx : a.eval x = .slice A ys.length c) (hA : A = none → c = 0) (hc : Ints w A ys) (hlen : xs.length + ys.length ≤ 10000000) (hext : Ext w0 w)
 (h : ∀ v' w', RowI w' w0.heap.size v' (xs ++ ys) → w.grownBy w' v.ownBlock → Ext w0 w' → wpList Tryz.prog ops Q rest (a.put o.dst v') w') : wpList Tryz.prog ops Q (o :: rest) a w := by
 obtain ⟨A0, c0, rfl, hown⟩ := hr
 obtain ⟨i3, hi, hz0, hz1, hz2⟩ := info_parts infoInt
 refine wpList_append_cells w hw s x 31 ho w0.heap.size 3 i3 (.int .i64 0) 1 8 Tryz.underlying31 hi hz0 hz1 hz2 rfl (by omega) _ xs.length (iv xs) hs hown A ys.length c (iv ys) hx hA (by rw [iv_length, Nat.mul_one])
  (fun h0 => ?_) (fun u hu => ?_) (by unfold maxLen; omega) (by omega) hext.size fun v' w' h2 h3 h4 => ?_
 ·rw [iv_length] at h0
  obtain ⟨b, off, hA', hb, hcc⟩ := hc h0
  refine ⟨b, off, hA', hb, fun k u hk => ?_⟩
  have hkl : k < ys.length := by rw [← iv_length]; exact (List.getElem?_eq_some_iff.1 hk).1
  exact (hcc k hkl).trans ((iv_get hkl).symm.trans hk)
 ·obtain ⟨x, _, rfl⟩ := List.mem_map.1 hu
  rfl
 ·obtain ⟨A', c', hv', _⟩ := own_cells h2
  subst hv'
  refine h _ w' ⟨A', c', by rw [List.length_append], ?_⟩ h3 (hext.grown h3 fun g hg => own_block hown g hg)
  unfold OwnI
  rw [iv_append, List.length_append]
  exact h2
theorem ownI_empty (w : World) (base : Nat) (hb : base ≤ w.heap.size) : RowI (w.alloc (.cells #[] 3)) base (.slice (some ⟨w.heap.size, 0, none⟩) 0 0) [] :=
 ⟨some ⟨w.heap.size, 0, none⟩, 0, rfl, own_lit w base 3 1 w.heap.size 0 #[] rfl hb rfl (by unfold maxLen; omega)⟩
end Go.Proofs.YthpmncdfaggkiaaGreat
namespace Go.Proofs.YthpmncdfaggkiaaGreat
open Go.RowKit
theorem setCell_row {w : World} {b k : Nat} {cs : Array Value} {T : TypeId} {fr : Nat × Nat} (h : w.heap[b]? = some (.cells cs T fr)) (v : Value) : (w.setCell ⟨b, k, none⟩ v).heap[b]? = some (.cells (cs.setIfInBounds k v) T fr) := by
 simp [World.setCell, Array.getElem?_modify, h]
theorem setCell_row_other {w : World} {b k g : Nat} {ob : Obj} (h : w.heap[b]? = some ob) (hne : g ≠ b) (v : Value) : (w.setCell ⟨g, k, none⟩ v).heap[b]? = some ob := by
 simp [World.setCell, Array.getElem?_modify, h, hne]
theorem row_frozen {w : World} {b : Nat} {cs : Array Value} {T : TypeId} (h : w.heap[b]? = some (.cells cs T)) (k : Nat) : w.frozen? ⟨b, k, none⟩ = false := by
 simp [World.frozen?, h]
def put2 (w : World) (b : Nat) (v0 v1 : Value) : World := (w.setCell ⟨b, 0, none⟩ v0).setCell ⟨b, 1, none⟩ v1
def put3 (w : World) (b : Nat) (v0 v1 v2 : Value) : World := (put2 w b v0 v1).setCell ⟨b, 2, none⟩ v2
def put4 (w : World) (b : Nat) (v0 v1 v2 v3 : Value) : World := (put3 w b v0 v1 v2).setCell ⟨b, 3, none⟩ v3
def put5 (w : World) (b : Nat) (v0 v1 v2 v3 v4 : Value) : World := (put4 w b v0 v1 v2 v3).setCell ⟨b, 4, none⟩ v4
theorem put2_at {w : World} {b : Nat} {T : TypeId} {fr : Nat × Nat} {a0 a1 : Value} (h : w.heap[b]? = some (.cells #[a0, a1] T fr)) (v0 v1 : Value) : (put2 w b v0 v1).heap[b]? = some (.cells #[v0, v1] T fr) :=
 setCell_row (setCell_row h _) _
theorem put3_at {w : World} {b : Nat} {T : TypeId} {fr : Nat × Nat} {a0 a1 a2 : Value} (h : w.heap[b]? = some (.cells #[a0, a1, a2] T fr)) (v0 v1 v2 : Value) : (put3 w b v0 v1 v2).heap[b]? = some (.cells #[v0, v1, v2] T fr) :=
 setCell_row (setCell_row (setCell_row h _) _) _
theorem put4_at {w : World} {b : Nat} {T : TypeId} {fr : Nat × Nat} {a0 a1 a2 a3 : Value} (h : w.heap[b]? = some (.cells #[a0, a1, a2, a3] T fr)) (v0 v1 v2 v3 : Value) : (put4 w b v0 v1 v2 v3).heap[b]? = some (.cells #[v0, v1, v2, v3] T fr) :=
 setCell_row (setCell_row (setCell_row (setCell_row h _) _) _) _
theorem put5_at {w : World} {b : Nat} {T : TypeId} {fr : Nat × Nat} {a0 a1 a2 a3 a4 : Value} (h : w.heap[b]? = some (.cells #[a0, a1, a2, a3, a4] T fr)) (v0 v1 v2 v3 v4 : Value) : (put5 w b v0 v1 v2 v3 v4).heap[b]? = some (.cells #[v0, v1, v2, v3, v4] T fr) :=
 setCell_row (setCell_row (setCell_row (setCell_row (setCell_row h _) _) _) _) _
section
variable {S : Nat → Prop} {w : World} {b : Nat}
theorem put2_turn (hb : S b) (v0 v1 : Value) : Turn S w (put2 w b v0 v1) := (Turn.setCell w (p := ⟨b, 0, none⟩) hb v0).trans (Turn.setCell _ (p := ⟨b, 1, none⟩) hb v1)
theorem put3_turn (hb : S b) (v0 v1 v2 : Value) : Turn S w (put3 w b v0 v1 v2) := (put2_turn hb v0 v1).trans (Turn.setCell _ (p := ⟨b, 2, none⟩) hb v2)
theorem put4_turn (hb : S b) (v0 v1 v2 v3 : Value) : Turn S w (put4 w b v0 v1 v2 v3) := (put3_turn hb v0 v1 v2).trans (Turn.setCell _ (p := ⟨b, 3, none⟩) hb v3)
theorem put5_turn (hb : S b) (v0 v1 v2 v3 v4 : Value) : Turn S w (put5 w b v0 v1 v2 v3 v4) := (put4_turn hb v0 v1 v2 v3).trans (Turn.setCell _ (p := ⟨b, 4, none⟩) hb v4)
end
theorem Turn.ext {S : Nat → Prop} {w w0 w' : World} (h : Turn S w w') (e : Ext w0 w) (hS : ∀ k, S k → w0.heap.size ≤ k) : Ext w0 w' :=
 Ext.of_below (e.below.trans (h.below e.size hS))
theorem idx_eq {s : ByteArray} {k : Nat} {x : UInt8} (h : s[k]? = some x) (i : Int) (hi : i = k) (w : World) : (Instr.index 9 (.string s) (.int .i64 i)).run Tryz.prog w = .ok (.int .u8 x.toNat) w := by
 subst hi
 have hk : k < s.size := by
  rcases Nat.lt_or_ge k s.size with h1 | h1
  ·exact h1
  ·rw [ByteArray.getElem?_ge' s _ (by omega)] at h; cases h
 rw [run_index_string w 9 s .i64 k Tryz.underlying9, dif_pos ⟨by omega, by omega⟩]
 have h2 : s[(k : Int).toNat]? = some x := by simpa using h
 rw [ByteArray.getElem?_lt' s _ (by simpa using hk)] at h2
 injection h2 with h2
 rw [h2]
structure EdS (w0 : World) (g bx : Nat) where
 V : World
 idx : V.heap[g]? = w0.heap[g]?
 box : V.heap[bx]? = w0.heap[bx]?
instance edNonempty (w0 : World) (g bx : Nat) : Nonempty (EdS w0 g bx) := ⟨⟨w0, rfl, rfl⟩⟩
theorem edS_ext {w0 V : World} {g bx : Nat} (e : Ext w0 V) (h1 : g < w0.heap.size) (h2 : bx < w0.heap.size) : ∃ x : EdS w0 g bx, V = x.V := ⟨⟨V, e.below.block _ h1, e.below.block _ h2⟩, rfl⟩
theorem Turn.set1 {w : World} (b k : Nat) (v : Value) : Turn (fun i => i = b) w (w.setCell ⟨b, k, none⟩ v) := Turn.setCell (S := fun i => i = b) w (p := ⟨b, k, none⟩) rfl v
theorem Turn.keep {S : Nat → Prop} {w w' : World} {b : Nat} {ob : Obj} (t : Turn S w w') (h : w.heap[b]? = some ob) (hb : ¬ S b) : w'.heap[b]? = some ob := (t.block b (lt_of_heap h) hb).trans h
theorem ext_cell {w w' : World} {b o : Nat} {v : Value} (h : w.cell? ⟨b, o, none⟩ = some v) (hb : b < w.heap.size) (e : Ext w w') : w'.cell? ⟨b, o, none⟩ = some v :=
 (e.below.cell (p := ⟨b, o, none⟩) hb).trans h
def U64 (x : Int) : Prop := 0 ≤ x ∧ x ≤ 18446744073709551615
def tb (m : Int) (k : Nat) : Bool := m.toNat.testBit k
theorem last_bit {b : Int} (hb : U64 b) (n : Nat) : bits .and .u64 (b / 2 ^ n) 1 = if tb b n then 1 else 0 := by
 obtain ⟨h1, h2⟩ := hb
 obtain ⟨B, rfl⟩ := Int.eq_ofNat_of_zero_le h1
 have e : ((B : Int) / 2 ^ n) = ((B / 2 ^ n : Nat) : Int) := by simp
 have hl : B / 2 ^ n ≤ B := Nat.div_le_self _ _
 rw [e]
 rw [u64_and _ _ (Int.natCast_nonneg _) (by have : ((B / 2 ^ n : Nat) : Int) ≤ (B : Int) := Int.ofNat_le.2 hl; omega) (by decide) (by decide)]
 have : ((B / 2 ^ n : Nat) : Int).toNat &&& (1 : Int).toNat = B / 2 ^ n % 2 := by
  rw [Int.toNat_natCast]
  exact Nat.and_one_is_mod _
 rw [this]
 unfold tb
 rw [Int.toNat_natCast, Nat.testBit_eq_decide_div_mod_eq]
 rcases Nat.mod_two_eq_zero_or_one (B / 2 ^ n) with h | h <;> rw [h] <;> simp
end Go.Proofs.YthpmncdfaggkiaaGreat
namespace Go.Proofs.YthpmncdfaggkiaaGreat
open Go.RowKit
attribute [local go_sem] more_drew more_drewN more_size more_cell more_frozen more_setCell drew_more drewN_more lt_add_r lt_add_r2 lt_add_r3 lt_add_r4 lt_add_r5 lt_add_r6 lt_add_r7 lt_add_r8 lt_add_r9 lt_add_r10 lt_self_r lt_self_r2
structure Cl where
 a : Int
 b : Int
 c : Int
 d : Int
 deriving DecidableEq
def Cl.cells (x : Cl) : List Value := [.int .u64 x.a, .int .u64 x.b, .int .u64 x.c, .int .u64 x.d]
def Cl.V (x : Cl) : Value := .agg #[.int .u64 x.a, .int .u64 x.b, .int .u64 x.c, .int .u64 x.d]
def Cl.get (x : Cl) (q : Nat) : Int := if q = 0 then x.a else if q = 1 then x.b else if q = 2 then x.c else x.d
def Cl.set (x : Cl) (q : Nat) (v : Int) : Cl := if q = 0 then { x with a := v } else if q = 1 then { x with b := v } else if q = 2 then { x with c := v } else { x with d := v }
def Cl.ok (x : Cl) : Prop := U64 x.a ∧ U64 x.b ∧ U64 x.c ∧ U64 x.d
def Cl.zero : Cl := ⟨0, 0, 0, 0⟩
theorem Cl.get_ok {x : Cl} (h : x.ok) (q : Nat) : U64 (x.get q) := by
 obtain ⟨h1, h2, h3, h4⟩ := h
 unfold Cl.get
 repeat' split
 all_goals assumption
theorem Cl.cells_get (x : Cl) {q : Nat} (h : q < 4) : x.cells[q]? = some (.int .u64 (x.get q)) := by
 have hq : q = 0 ∨ q = 1 ∨ q = 2 ∨ q = 3 := by omega
 rcases hq with h | h | h | h <;> rw [h] <;> rfl
theorem Cl.cells_set (x : Cl) {q : Nat} (h : q < 4) (v : Int) : #[Value.int .u64 x.a, .int .u64 x.b, .int .u64 x.c, .int .u64 x.d].setIfInBounds q (.int .u64 v) = #[Value.int .u64 (x.set q v).a, .int .u64 (x.set q v).b, .int .u64 (x.set q v).c, .int .u64 (x.set q v).d] := by
 have hq : q = 0 ∨ q = 1 ∨ q = 2 ∨ q = 3 := by omega
 rcases hq with h | h | h | h <;> rw [h] <;> rfl
def hasF (x : Cl) (b : Nat) : Bool := tb (x.get (b / 64)) (b % 64)
def withF (x : Cl) (b : Nat) : Cl := x.set (b / 64) (bits .or .u64 (x.get (b / 64)) (IntKind.u64.wrap (2 ^ (b % 64))))
def unionF (x y : Cl) : Cl := ⟨bits .or .u64 x.a y.a, bits .or .u64 x.b y.b, bits .or .u64 x.c y.c, bits .or .u64 x.d y.d⟩
theorem Cl.zero_ok : Cl.zero.ok := by unfold Cl.ok Cl.zero U64; decide
set_option maxRecDepth 100000 in
set_option maxHeartbeats 2000000 in
theorem has_any (x : Cl) (b : Nat) (w : World) (hb : b < 256) (hx : x.ok) : Calls Tryz.prog 182 #[x.V, .int .u8 b] w fun e w' => e = .returned (.bool (hasF x b)) ∧ Ext w w' := by
 have B0 := heap_alloc_new w (.cells #[.int .u64 x.a, .int .u64 x.b, .int .u64 x.c, .int .u64 x.d] 191)
 obtain ⟨W, hW⟩ : ∃ W, w.alloc (.cells #[.int .u64 x.a, .int .u64 x.b, .int .u64 x.c, .int .u64 x.d] 191) = W := ⟨_, rfl⟩
 rw [hW] at B0
 have hv := x.get_ok hx (b / 64)
 have c0 : W.cell? ⟨w.heap.size, b / 64, none⟩ = some (.int .u64 (x.get (b / 64))) := by
  rw [cell_of_row _ _ _ _ _ _ B0, ← Cl.cells_get x (show b / 64 < 4 by omega)]
  exact List.getElem?_toArray ..
 have HR : Hid (hasF x b = (bits .and .u64 (x.get (b / 64) / 2 ^ (b % 64)) 1 == 1)) := zh (by
  rw [last_bit hv]
  unfold hasF
  cases tb (x.get (b / 64)) (b % 64) <;> rfl)
 obtain ⟨v, hv⟩ : ∃ v, x.get (b / 64) = v := ⟨_, rfl⟩
 rw [hv] at c0 HR
 have X1 : Hid (Ext w W) := zh (by rw [← hW]; exact (by repeat first | exact xr _ | refine xa ?_ _ | refine xm ?_ _ _ | refine xd ?_ | refine xn ?_ _ | refine xs ?_ (by simp <;> omega) _))
 clear hx B0 hv
 unfold Cl.V
 go_enter Tryz.func182, Tryz.ntmps182
 go_wp2_with fail
 go_ret
 exact ⟨ret_bool HR.out.symm, X1.out⟩
set_option maxRecDepth 100000 in
set_option maxHeartbeats 2000000 in
theorem with_any (x : Cl) (b : Nat) (w : World) (hb : b < 256) : Calls Tryz.prog 202 #[x.V, .int .u8 b] w fun e w' => e = .returned (withF x b).V ∧ Ext w w' := by
 obtain ⟨W, hW⟩ : ∃ W, (w.alloc (.cells #[.int .u64 x.a, .int .u64 x.b, .int .u64 x.c, .int .u64 x.d] 191)).alloc (.cells #[.int .u64 0, .int .u64 0, .int .u64 0, .int .u64 0] 191) = W := ⟨_, rfl⟩
 have B1 : W.heap[w.heap.size + 1]? = some (.cells #[.int .u64 0, .int .u64 0, .int .u64 0, .int .u64 0] 191) := by rw [← hW]; exact (by simp only [heap_alloc_get, World.size_alloc]; (repeat (split; (first | rfl | (exfalso; omega)))); (try (first | (exfalso; omega) | simp_all)))
 have B0 : W.heap[w.heap.size]? = some (.cells #[.int .u64 x.a, .int .u64 x.b, .int .u64 x.c, .int .u64 x.d] 191) := by rw [← hW]; exact (by simp only [heap_alloc_get, World.size_alloc]; (repeat (split; (first | rfl | (exfalso; omega)))); (try (first | (exfalso; omega) | simp_all)))
 have X1 : Hid (Ext w W) := zh (by rw [← hW]; exact (by repeat first | exact xr _ | refine xa ?_ _ | refine xm ?_ _ _ | refine xd ?_ | refine xn ?_ _ | refine xs ?_ (by simp <;> omega) _))
 have hq : b / 64 < 4 := by omega
 have c0 : W.cell? ⟨w.heap.size, b / 64, none⟩ = some (.int .u64 (x.get (b / 64))) := by
  rw [cell_of_row _ _ _ _ _ _ B0, ← Cl.cells_get x hq]
  exact List.getElem?_toArray ..
 have f0 : W.frozen? ⟨w.heap.size, b / 64, none⟩ = false := by simp [World.frozen?, B0]
 obtain ⟨u, hu⟩ : ∃ u, bits .or .u64 (x.get (b / 64)) (IntKind.u64.wrap (2 ^ (b % 64))) = u := ⟨_, rfl⟩
 obtain ⟨y, hy⟩ : ∃ y, withF x b = y := ⟨_, rfl⟩
 have hy2 : x.set (b / 64) u = y := by rw [← hy, ← hu]; rfl
 obtain ⟨g, hg⟩ : ∃ g, w.heap.size = g := ⟨_, rfl⟩
 rw [hg] at B0 B1 c0 f0
 obtain ⟨W1, hW1⟩ : ∃ W1, W.setCell ⟨g, b / 64, none⟩ (.int .u64 u) = W1 := ⟨_, rfl⟩
 have D0 : W1.heap[g]? = some (.cells #[.int .u64 y.a, .int .u64 y.b, .int .u64 y.c, .int .u64 y.d] 191) := by
  rw [← hW1, ← hy2, ← Cl.cells_set x hq]
  simp [World.setCell, Array.getElem?_modify, B0]
 have D1 : W1.heap[g + 1]? = some (.cells #[.int .u64 0, .int .u64 0, .int .u64 0, .int .u64 0] 191) := by
  rw [← hW1, ← B1]
  simp [World.setCell, Array.getElem?_modify]
 have X2 : Hid (Ext w W1) := zh (by rw [← hW1]; exact X1.out.setCell (by show _ ≤ g; omega) _)
 have d0 := cell_of_row _ _ 0 _ _ _ D0
 have d1 := cell_of_row _ _ 1 _ _ _ D0
 have d2 := cell_of_row _ _ 2 _ _ _ D0
 have d3 := cell_of_row _ _ 3 _ _ _ D0
 have e0 := cell_of_row _ _ 0 _ _ _ D1
 have e1 := cell_of_row _ _ 1 _ _ _ D1
 have e2 := cell_of_row _ _ 2 _ _ _ D1
 have e3 := cell_of_row _ _ 3 _ _ _ D1
 have f1 := fun k => row_frozen D1 k
 obtain ⟨W2, hW2⟩ : ∃ W2, put4 W1 (g + 1) (.int .u64 y.a) (.int .u64 y.b) (.int .u64 y.c) (.int .u64 y.d) = W2 := ⟨_, rfl⟩
 have G1 := put4_at D1 (.int .u64 y.a) (.int .u64 y.b) (.int .u64 y.c) (.int .u64 y.d)
 have X3 : Hid (Ext w W2) := zh (by rw [← hW2]; exact (put4_turn (S := fun k => k = g + 1) rfl _ _ _ _).ext X2.out (fun k hk => by omega))
 rw [hW2] at G1
 unfold put4 put3 put2 at hW2
 have g0 := cell_of_row _ _ 0 _ _ _ G1
 have g1 := cell_of_row _ _ 1 _ _ _ G1
 have g2 := cell_of_row _ _ 2 _ _ _ G1
 have g3 := cell_of_row _ _ 3 _ _ _ G1
 simp at d0 d1 d2 d3 e0 e1 e2 e3 g0 g1 g2 g3
 rw [hy]
 obtain ⟨v, hv⟩ : ∃ v, x.get (b / 64) = v := ⟨_, rfl⟩
 rw [hv] at c0 hu
 clear B0 B1 D0 D1 G1 X2 hy hy2 hv hq X1
 unfold Cl.V
 go_enter Tryz.func202, Tryz.ntmps202
 go_upto_region 1 with fail
 clear hW
 go_upto_region 2 with fail
 clear hW1 hu
 go_wp2_with fail
 exact bodyPost_ret (v := .agg #[.int .u64 y.a, .int .u64 y.b, .int .u64 y.c, .int .u64 y.d]) (by simp [results, Tryz.results202, go_sem, *]) rfl ⟨rfl, X3.out⟩
def clArr (x : Cl) : Array Value := #[.int .u64 x.a, .int .u64 x.b, .int .u64 x.c, .int .u64 x.d]
set_option maxRecDepth 100000 in
set_option maxHeartbeats 2000000 in
theorem union_any (x y : Cl) (w : World) : Calls Tryz.prog 200 #[x.V, y.V] w fun e w' => e = .returned (unionF x y).V ∧ Ext w w' := by
 obtain ⟨W, hW⟩ : ∃ W, ((w.alloc (.cells #[.int .u64 x.a, .int .u64 x.b, .int .u64 x.c, .int .u64 x.d] 191)).alloc (.cells #[.int .u64 y.a, .int .u64 y.b, .int .u64 y.c, .int .u64 y.d] 191)).alloc (.cells #[.int .u64 0, .int .u64 0, .int .u64 0, .int .u64 0] 191) = W := ⟨_, rfl⟩
 have B0 : W.heap[w.heap.size]? = some (.cells #[.int .u64 x.a, .int .u64 x.b, .int .u64 x.c, .int .u64 x.d] 191) := by rw [← hW]; exact (by simp only [heap_alloc_get, World.size_alloc]; (repeat (split; (first | rfl | (exfalso; omega)))); (try (first | (exfalso; omega) | simp_all)))
 have B1 : W.heap[w.heap.size + 1]? = some (.cells #[.int .u64 y.a, .int .u64 y.b, .int .u64 y.c, .int .u64 y.d] 191) := by rw [← hW]; exact (by simp only [heap_alloc_get, World.size_alloc]; (repeat (split; (first | rfl | (exfalso; omega)))); (try (first | (exfalso; omega) | simp_all)))
 have B2 : W.heap[w.heap.size + 1 + 1]? = some (.cells #[.int .u64 0, .int .u64 0, .int .u64 0, .int .u64 0] 191) := by rw [← hW]; exact (by simp only [heap_alloc_get, World.size_alloc]; (repeat (split; (first | rfl | (exfalso; omega)))); (try (first | (exfalso; omega) | simp_all)))
 have X1 : Hid (Ext w W) := zh (by rw [← hW]; exact (by repeat first | exact xr _ | refine xa ?_ _ | refine xm ?_ _ _ | refine xd ?_ | refine xn ?_ _ | refine xs ?_ (by simp <;> omega) _))
 obtain ⟨g, hg⟩ : ∃ g, w.heap.size = g := ⟨_, rfl⟩
 rw [hg] at B0 B1 B2
 obtain ⟨z, hz⟩ : ∃ z, unionF x y = z := ⟨_, rfl⟩
 have h0 : bits .or .u64 x.a y.a = z.a := by rw [← hz]; rfl
 have h1 : bits .or .u64 x.b y.b = z.b := by rw [← hz]; rfl
 have h2 : bits .or .u64 x.c y.c = z.c := by rw [← hz]; rfl
 have h3 : bits .or .u64 x.d y.d = z.d := by rw [← hz]; rfl
 have f1 := fun k => row_frozen B2 k
 obtain ⟨W2, hW2⟩ : ∃ W2, put4 W (g + 1 + 1) (.int .u64 z.a) (.int .u64 z.b) (.int .u64 z.c) (.int .u64 z.d) = W2 := ⟨_, rfl⟩
 have G1 := put4_at B2 (.int .u64 z.a) (.int .u64 z.b) (.int .u64 z.c) (.int .u64 z.d)
 have X3 : Hid (Ext w W2) := zh (by rw [← hW2]; exact (put4_turn (S := fun k => k = g + 1 + 1) rfl _ _ _ _).ext X1.out (fun k hk => by omega))
 rw [hW2] at G1
 unfold put4 put3 put2 at hW2
 have a0 := cell_of_row _ _ 0 _ _ _ B0
 have a1 := cell_of_row _ _ 1 _ _ _ B0
 have a2 := cell_of_row _ _ 2 _ _ _ B0
 have a3 := cell_of_row _ _ 3 _ _ _ B0
 have b0 := cell_of_row _ _ 0 _ _ _ B1
 have b1 := cell_of_row _ _ 1 _ _ _ B1
 have b2 := cell_of_row _ _ 2 _ _ _ B1
 have b3 := cell_of_row _ _ 3 _ _ _ B1
 have c0 := cell_of_row _ _ 0 _ _ _ B2
 have c1 := cell_of_row _ _ 1 _ _ _ B2
 have c2 := cell_of_row _ _ 2 _ _ _ B2
 have c3 := cell_of_row _ _ 3 _ _ _ B2
 have g0 := cell_of_row _ _ 0 _ _ _ G1
 have g1 := cell_of_row _ _ 1 _ _ _ G1
 have g2 := cell_of_row _ _ 2 _ _ _ G1
 have g3 := cell_of_row _ _ 3 _ _ _ G1
 simp at a0 a1 a2 a3 b0 b1 b2 b3 c0 c1 c2 c3 g0 g1 g2 g3
 rw [hz]
 clear hz B0 B1 B2 X1 G1
 unfold Cl.V
 go_enter Tryz.func200, Tryz.ntmps200
 go_upto_region 1 with fail
 clear hW
 go_wp2_with fail
 exact bodyPost_ret (v := .agg #[.int .u64 z.a, .int .u64 z.b, .int .u64 z.c, .int .u64 z.d]) (by simp [results, Tryz.results200, go_sem, *]) rfl ⟨rfl, X3.out⟩
def rangeL (lo k : Nat) : Cl := (List.range' lo k).foldl withF Cl.zero
theorem rangeL_succ (lo k : Nat) : rangeL lo (k + 1) = withF (rangeL lo k) (lo + k) := by
 unfold rangeL
 rw [List.range'_concat, List.foldl_append]
 simp
set_option maxRecDepth 100000 in
set_option maxHeartbeats 2000000 in
theorem range_any (lo hi : Nat) (w : World) (hl : lo < 256) (hh : hi < 256) : Calls Tryz.prog 201 #[.int .u8 lo, .int .u8 hi] w fun e w' => e = .returned (rangeL lo (hi + 1 - lo)).V ∧ Ext w w' := by
 obtain ⟨W, hW⟩ : ∃ W, ((w.alloc (.cells #[.int .u64 0, .int .u64 0, .int .u64 0, .int .u64 0] 191)).alloc (.cells #[.int .u64 0, .int .u64 0, .int .u64 0, .int .u64 0] 191)) = W := ⟨_, rfl⟩
 have B0 : W.heap[w.heap.size]? = some (.cells (clArr Cl.zero) 191) := by rw [← hW]; exact (by simp only [heap_alloc_get, World.size_alloc]; (repeat (split; (first | rfl | (exfalso; omega)))); (try (first | (exfalso; omega) | simp_all)))
 have B1 : W.heap[w.heap.size + 1]? = some (.cells (clArr Cl.zero) 191) := by rw [← hW]; exact (by simp only [heap_alloc_get, World.size_alloc]; (repeat (split; (first | rfl | (exfalso; omega)))); (try (first | (exfalso; omega) | simp_all)))
 have X1 : Hid (Ext w W) := zh (by rw [← hW]; exact (by repeat first | exact xr _ | refine xa ?_ _ | refine xm ?_ _ _ | refine xd ?_ | refine xn ?_ _ | refine xs ?_ (by simp <;> omega) _))
 obtain ⟨g, hg⟩ : ∃ g, w.heap.size = g := ⟨_, rfl⟩
 rw [hg] at B0 B1
 have HG := zh hg
 have HB0 := zh B0
 have HB1 := zh B1
 have HW := zh hW
 obtain ⟨y, hy9⟩ : ∃ y, rangeL lo (hi + 1 - lo) = y := ⟨_, rfl⟩
 rw [hy9]
 have HY9 := zh hy9
 unfold Cl.V
 clear B0 B1 hW hg hy9
 go_enter Tryz.func201, Tryz.ntmps201
 go_wp2_with fail
 simp only [HW.out, HG.out]
 go_loopw [6] (fun i wr => ∃ k : Nat, k ≤ hi + 1 - lo ∧ i = .int .i64 ((lo + k : Nat) : Int) ∧ Hid (wr.heap[g]? = some (.cells (clArr Cl.zero) 191)) ∧ Hid (wr.heap[g + 1]? = some (.cells (clArr (rangeL lo k)) 191)) ∧ Hid (Ext w wr)) (fun i _ => 256 - (intOf i).toNat)
 case atStart => exact ⟨0, by omega, rfl, HB0, HB1, X1⟩
 case round =>
  obtain ⟨k, hk, rfl, h0, h1, hx⟩ := hrel
  clear HB0 HB1 X1
  have B0 := h0.out
  have B1 := h1.out
  obtain ⟨j, hj⟩ : ∃ j, lo + k = j := ⟨_, rfl⟩
  rw [hj]
  by_cases hlt : j ≤ hi
  ·have CW := with_any (rangeL lo k) j wr (by omega)
   rw [← hj, ← rangeL_succ] at CW
   obtain ⟨x, hxx⟩ : ∃ x, rangeL lo k = x := ⟨_, rfl⟩
   obtain ⟨z, hy⟩ : ∃ z, rangeL lo (k + 1) = z := ⟨_, rfl⟩
   rw [hxx, hy, hj] at CW
   unfold Cl.V at CW
   rw [hxx] at B1
   unfold clArr at B1
   have HCW := zh CW
   have HY := zh hy
   have HJ := zh hj
   have HB0 := zh B0
   have HB1 := zh B1
   have b0 := cell_of_row _ _ 0 _ _ _ B1
   have b1 := cell_of_row _ _ 1 _ _ _ B1
   have b2 := cell_of_row _ _ 2 _ _ _ B1
   have b3 := cell_of_row _ _ 3 _ _ _ B1
   simp at b0 b1 b2 b3
   clear CW hy hj hxx B0 B1
   go_wp2_with fail
   refine HCW.out.mono ?_
   rintro e V ⟨rfl, hv⟩
   have HX := zh (hx.out.trans hv)
   have C1 := ext_block HB1.out hv
   have C0 := zh (ext_block HB0.out hv)
   have HC1 := zh C1
   have c0 := cell_of_row _ _ 0 _ _ _ C1
   have c1 := cell_of_row _ _ 1 _ _ _ C1
   have c2 := cell_of_row _ _ 2 _ _ _ C1
   have c3 := cell_of_row _ _ 3 _ _ _ C1
   have f1 := fun k => row_frozen C1 k
   simp at c0 c1 c2 c3
   clear C1 hv b0 b1 b2 b3
   go_wp2_with fail
   go_roundw
   case rel => exact ⟨k + 1, by have := HJ.out; omega, by have := HJ.out; go_num, zh ((setCell_row_other (setCell_row_other (setCell_row_other (setCell_row_other C0.out (by omega) _) (by omega) _) (by omega) _) (by omega) _)), zh (by rw [HY.out]; exact put4_at HC1.out _ _ _ _), zh ((put4_turn (S := fun b => b = g + 1) rfl _ _ _ _).ext HX.out (fun b hb => by have := HG.out; omega))⟩
   case measure => have := HJ.out; simp [intOf]; omega
  ·have hkk : k = hi + 1 - lo := by omega
   rw [hkk, HY9.out] at B1
   unfold clArr at B1
   unfold clArr Cl.zero at B0
   have b0 := cell_of_row _ _ 0 _ _ _ B1
   have b1 := cell_of_row _ _ 1 _ _ _ B1
   have b2 := cell_of_row _ _ 2 _ _ _ B1
   have b3 := cell_of_row _ _ 3 _ _ _ B1
   have c0 := cell_of_row _ _ 0 _ _ _ B0
   have c1 := cell_of_row _ _ 1 _ _ _ B0
   have c2 := cell_of_row _ _ 2 _ _ _ B0
   have c3 := cell_of_row _ _ 3 _ _ _ B0
   have f1 := fun k => row_frozen B0 k
   obtain ⟨W2, hW2⟩ : ∃ W2, put4 wr g (.int .u64 y.a) (.int .u64 y.b) (.int .u64 y.c) (.int .u64 y.d) = W2 := ⟨_, rfl⟩
   have G1 := put4_at B0 (.int .u64 y.a) (.int .u64 y.b) (.int .u64 y.c) (.int .u64 y.d)
   have X3 : Hid (Ext w W2) := zh (by rw [← hW2]; exact (put4_turn (S := fun k => k = g) rfl _ _ _ _).ext hx.out (fun k hk => by have := HG.out; omega))
   rw [hW2] at G1
   unfold put4 put3 put2 at hW2
   have g0 := cell_of_row _ _ 0 _ _ _ G1
   have g1 := cell_of_row _ _ 1 _ _ _ G1
   have g2 := cell_of_row _ _ 2 _ _ _ G1
   have g3 := cell_of_row _ _ 3 _ _ _ G1
   simp at b0 b1 b2 b3 c0 c1 c2 c3 g0 g1 g2 g3
   clear hj hkk B0 B1 G1
   go_wp2_with fail
   exact bodyPost_ret (v := .agg #[.int .u64 y.a, .int .u64 y.b, .int .u64 y.c, .int .u64 y.d]) (by simp [results, Tryz.results201, go_sem, *]) rfl ⟨rfl, X3.out⟩
end Go.Proofs.YthpmncdfaggkiaaGreat
namespace Go.Proofs.YthpmncdfaggkiaaGreat
open Go.RowKit
section
variable {P : Program} {ops : Array Oper} {md : Region.Mode} {C : World → Prop}
theorem getD_set_true {listed : Array Bool} {i s : Nat} (h : listed.getD s false = true) : (listed.setIfInBounds i true).getD s false = true := by
 by_cases his : i = s
 ·subst his
  have hlt : i < listed.size := by
   rcases Nat.lt_or_ge i listed.size with h' | h'
   ·exact h'
   ·simp [Nat.not_lt.2 h'] at h
  simp [hlt]
 ·rw [getD_set_ne false his]
  exact h
def ancB (md : Region.Mode) (ops : Array Oper) : Nat → Nat → Nat → Bool
 | 0, _, _ => false
 | n + 1, s, i => match ops[s]? with
  | none => false
  | some o => o.after.any fun e => Region.binds md e && (e.on == i || ancB md ops n e.on i)
def ClosedL (md : Region.Mode) (ops : Array Oper) (listed : Array Bool) : Prop := ∀ (k : Nat) (o : Oper), ops[k]? = some o → listed.getD k false = true → ∀ e ∈ o.after, Region.binds md e = true → listed.getD e.on false = true
theorem anc_listed {listed : Array Bool} (hcl : ClosedL md ops listed) : ∀ (n s i : Nat), ancB md ops n s i = true → (∀ o, ops[s]? = some o → ∀ e ∈ o.after, Region.binds md e = true → listed.getD e.on false = true) → listed.getD i false = true := by
 intro n
 induction n with
 | zero => intro s i h; cases h
 | succ n ih =>
  intro s i h hs
  unfold ancB at h
  cases ho : ops[s]? with
  | none => rw [ho] at h; cases h
  | some o =>
   rw [ho] at h
   obtain ⟨e, he, hb⟩ := Array.any_eq_true'.1 h
   simp only [Bool.and_eq_true, Bool.or_eq_true, beq_iff_eq] at hb
   have h1 := hs o ho e he hb.1
   rcases hb.2 with h2 | h2
   ·rw [← h2]; exact h1
   ·exact ih e.on i h2 fun o' ho' => hcl e.on o' ho' h1
theorem closed_set {listed : Array Bool} (hcl : ClosedL md ops listed) {j : Nat} (hj : j ∈ Region.ready md ops listed) : ClosedL md ops (listed.setIfInBounds j true) := by
 intro k o hk hl e he hb
 refine getD_set_true ?_
 by_cases hjk : j = k
 ·subst hjk
  obtain ⟨_, oj, hoj, hall⟩ := mem_ready.1 hj
  rw [hoj] at hk
  cases hk
  exact hall e he hb
 ·rw [getD_set_ne false hjk] at hl
  exact hcl k o hk hl e he hb
end

inductive Bt where
 | fin : Bt
 | soft (i : Nat) (t : Bt) : Bt
 | pure (i : Nat) (t : Bt) : Bt
 | step (i : Nat) (t : Bt) : Bt
 | late (i : Nat) (t : Bt) : Bt
 | two (a b : Bt) : Bt
def Bt.heads : Bt → List Nat
 | .fin => []
 | .soft _ _ => []
 | .pure _ _ => []
 | .step i _ => [i]
 | .late i _ => [i]
 | .two a b => a.heads ++ b.heads
def Bt.len : Bt → Nat
 | .fin => 0
 | .soft _ t => t.len + 1
 | .pure _ t => t.len + 1
 | .step _ t => t.len + 1
 | .late _ t => t.len + 1
 | .two a _ => a.len
def Bt.even : Bt → Bool
 | .fin => true
 | .soft _ t => t.even
 | .pure _ t => t.even
 | .step _ t => t.even
 | .late _ t => t.even
 | .two a b => a.even && b.even && (a.len == b.len) && !a.heads.isEmpty && !b.heads.isEmpty
section
variable {P : Program} {ops : Array Oper} {md : Region.Mode} {C : World → Prop}
theorem wpAnyC_firstN {s i : Nat} {oi : Oper} {v : Value} {Q : Act → World → Prop} (hi : ops[i]? = some oi) (hso : softOp oi = true) (hsel : ∀ (j : Nat) (o : Oper) cs b, ops[j]? = some o → o.op ≠ .select cs b) (his : i ≠ s)
 (hN : ∀ (listed : Array Bool) (j : Nat), ClosedL md ops listed → listed.getD i false = false → j ∈ Region.ready md ops listed → j ≠ s) :
 ∀ (fuel : Nat) (listed : Array Bool) (a : Act) (w : World), ClosedL md ops listed →
  (∀ j oj, ops[j]? = some oj → j ≠ i → listed.getD j true = false → (∀ e ∈ oj.after, Region.binds md e = true → e.on ≠ i) → oi.apart ops oj = true) →
  i ∈ Region.ready md ops listed → YieldsIn P ops C oi v a → listed.getD s false = false → C w →
  wpAnyC P md ops C s Q fuel (listed.setIfInBounds i true) (a.put oi.dst v) w → wpAnyC P md ops C s Q (fuel + 1) listed a w := by
 intro fuel
 induction fuel with
 | zero =>
  intro listed a w _ _ hr hy hls hC H
  refine ⟨fun _ => hC, fun h => (by rw [h] at hr; cases hr), fun j hj => ?_⟩
  by_cases hji : j = i
  ·subst hji
   exact wpOp_of_soft hi hso hy hC H
  ·have := ready_mono hj hji
   rw [H.2.1] at this
   cases this
 | succ fuel ih =>
  intro listed a w hcl hfree hr hy hls hC H
  refine ⟨fun _ => hC, fun h => (by rw [h] at hr; cases hr), fun j hj => ?_⟩
  by_cases hji : j = i
  ·subst hji
   exact wpOp_of_soft hi hso hy hC H
  ·have h1 := H.2.2 j (ready_mono hj hji)
   obtain ⟨hjun, oj, hoj, hall⟩ := mem_ready.1 hj
   have hil : listed.getD i false = false := by
    have h0 := (mem_ready.1 hr).1
    rcases Nat.lt_or_ge i listed.size with h' | h'
    ·simp [h'] at h0 ⊢; exact h0
    ·simp [Array.getElem?_eq_none h'] at h0
   have hnot : ∀ e ∈ oj.after, Region.binds md e = true → e.on ≠ i := fun e he hb heq => by
    have h1 := hall e he hb
    rw [heq, hil] at h1
    cases h1
   have hjs : j ≠ s := hN listed j hcl hil hj
   have h2 := wpOpC_put hoj (hfree j oj hoj hji hjun hnot) (fun cs b => hsel i oi cs b hi) (fun cs b => hsel j oj cs b hoj) hy h1
   have hfree' : ∀ k ok, ops[k]? = some ok → k ≠ i → (listed.setIfInBounds j true).getD k true = false →
    (∀ e ∈ ok.after, Region.binds md e = true → e.on ≠ i) → oi.apart ops ok = true := fun k ok hk hki hun hno => by
    refine hfree k ok hk hki ?_ hno
    by_cases hjk : j = k
    ·subst hjk; exact hjun
    ·rw [getD_set_ne true hjk] at hun; exact hun
   refine wpOp_mono (fun a' w' h3 => ?_) h2
   have hs1 : (listed.setIfInBounds j true).getD s false = false := by rw [getD_set_ne false hjs]; exact hls
   have hcomm : (listed.setIfInBounds j true).setIfInBounds i true = (listed.setIfInBounds i true).setIfInBounds j true := Array.setIfInBounds_comm _ _ hji
   refine ih (listed.setIfInBounds j true) a' w' (closed_set hcl hj) hfree' (ready_mono hr (Ne.symm hji)) h3.1 hs1 (h3.2.cls (by rw [← hcomm, getD_set_ne false his]; exact hs1)) ?_
   rw [hcomm]
   exact h3.2
abbrev AnyW : World → Prop := fun w' => ∃ x : World, w' = x
theorem wpAnyC_firstP {s i : Nat} {oi : Oper} {v : Value} {Q : Act → World → Prop} (hi : ops[i]? = some oi) (hso : softOp oi = true) (hsel : ∀ (j : Nat) (o : Oper) cs b, ops[j]? = some o → o.op ≠ .select cs b) (his : i ≠ s) :
 ∀ (fuel : Nat) (listed : Array Bool) (a : Act) (w : World), ClosedL md ops listed →
  (∀ j oj, ops[j]? = some oj → j ≠ i → listed.getD j true = false → (∀ e ∈ oj.after, Region.binds md e = true → e.on ≠ i) → oi.apart ops oj = true) →
  i ∈ Region.ready md ops listed → YieldsIn P ops AnyW oi v a → (listed.getD s false = false → C w) →
  wpAnyC P md ops C s Q fuel (listed.setIfInBounds i true) (a.put oi.dst v) w → wpAnyC P md ops C s Q (fuel + 1) listed a w := by
 intro fuel
 induction fuel with
 | zero =>
  intro listed a w _ _ hr hy hC H
  refine ⟨hC, fun h => (by rw [h] at hr; cases hr), fun j hj => ?_⟩
  by_cases hji : j = i
  ·subst hji
   exact wpOp_of_soft (C := AnyW) hi hso hy ⟨w, rfl⟩ H
  ·have := ready_mono hj hji
   rw [H.2.1] at this
   cases this
 | succ fuel ih =>
  intro listed a w hcl hfree hr hy hC H
  refine ⟨hC, fun h => (by rw [h] at hr; cases hr), fun j hj => ?_⟩
  by_cases hji : j = i
  ·subst hji
   exact wpOp_of_soft (C := AnyW) hi hso hy ⟨w, rfl⟩ H
  ·have h1 := H.2.2 j (ready_mono hj hji)
   obtain ⟨hjun, oj, hoj, hall⟩ := mem_ready.1 hj
   have hil : listed.getD i false = false := by
    have h0 := (mem_ready.1 hr).1
    rcases Nat.lt_or_ge i listed.size with h' | h'
    ·simp [h'] at h0 ⊢; exact h0
    ·simp [Array.getElem?_eq_none h'] at h0
   have hnot : ∀ e ∈ oj.after, Region.binds md e = true → e.on ≠ i := fun e he hb heq => by
    have h1 := hall e he hb
    rw [heq, hil] at h1
    cases h1
   have h2 := wpOpC_put (C := AnyW) hoj (hfree j oj hoj hji hjun hnot) (fun cs b => hsel i oi cs b hi) (fun cs b => hsel j oj cs b hoj) hy h1
   have hfree' : ∀ k ok, ops[k]? = some ok → k ≠ i → (listed.setIfInBounds j true).getD k true = false →
    (∀ e ∈ ok.after, Region.binds md e = true → e.on ≠ i) → oi.apart ops ok = true := fun k ok hk hki hun hno => by
    refine hfree k ok hk hki ?_ hno
    by_cases hjk : j = k
    ·subst hjk; exact hjun
    ·rw [getD_set_ne true hjk] at hun; exact hun
   refine wpOp_mono (fun a' w' h3 => ?_) h2
   have hcomm : (listed.setIfInBounds j true).setIfInBounds i true = (listed.setIfInBounds i true).setIfInBounds j true := Array.setIfInBounds_comm _ _ hji
   refine ih (listed.setIfInBounds j true) a' w' (closed_set hcl hj) hfree' (ready_mono hr (Ne.symm hji)) h3.1 (fun hs1 => h3.2.cls (by rw [← hcomm, getD_set_ne false his]; exact hs1)) ?_
   rw [hcomm]
   exact h3.2
def waitB (md : Region.Mode) (ops : Array Oper) (s i : Nat) : Bool := decide (ops.size ≤ s) || ancB md ops ops.size s i
theorem wait_ne {s i : Nat} (h : waitB md ops s i = true) (listed : Array Bool) (j : Nat) (hcl : ClosedL md ops listed) (hil : listed.getD i false = false) (hj : j ∈ Region.ready md ops listed) : j ≠ s := by
 rintro rfl
 obtain ⟨_, oj, hoj, hall⟩ := mem_ready.1 hj
 rcases Bool.or_eq_true _ _ ▸ h with h | h
 ·have h1 := of_decide_eq_true h
  rw [Array.getElem?_eq_none h1] at hoj
  cases hoj
 ·have := anc_listed hcl ops.size j i h fun o ho e he hb => by
   rw [hoj] at ho
   cases ho
   exact hall e he hb
  rw [hil] at this
  cases this
def btB (md : Region.Mode) (ops : Array Oper) (s : Nat) : Bool → Bt → Array Bool → Bool
 | top, .fin, listed => !top || (Region.ready md ops listed == [])
 | top, .soft i t, listed => top && (listed.getD s false == false) && i != s && (Region.ready md ops listed).contains i && Region.free md ops listed i && ((ops[i]?).map softOp).getD false && waitB md ops s i && btB md ops s true t (listed.setIfInBounds i true)
 | top, .pure i t, listed => top && i != s && (Region.ready md ops listed).contains i && Region.free md ops listed i && ((ops[i]?).map softOp).getD false && btB md ops s true t (listed.setIfInBounds i true)
 | top, .step i t, listed => (!top || (Region.ready md ops listed == [i])) && decide (i < ops.size) && decide (i < listed.size) && btB md ops s true t (listed.setIfInBounds i true)
 | top, .late i t, listed => (!top || (Region.ready md ops listed == [i])) && decide (i < ops.size) && decide (i < listed.size) && listed.getD s false && btB md ops s true t (listed.setIfInBounds i true)
 | top, .two a b, listed => (!top || (Region.ready md ops listed == a.heads ++ b.heads)) && btB md ops s false a listed && btB md ops s false b listed
def wpBt (P : Program) (l : List Oper) (C : World → Prop) (s : Nat) (Q : Act → World → Prop) : Bt → Act → World → Prop
 | .fin, a, w => Q a w
 | .soft i t, a, w => wpQuiet P l.toArray C (fun a' => wpBt P l C s Q t a' w) (pick l [i]) a
 | .pure i t, a, w => wpQuiet P l.toArray AnyW (fun a' => wpBt P l C s Q t a' w) (pick l [i]) a
 | .step i t, a, w => wpList P l.toArray (segQ C i s (wpBt P l C s Q t)) (pick l [i]) a w
 | .late i t, a, w => wpList P l.toArray (segQ (fun _ => True) i s (wpBt P l C s Q t)) (pick l [i]) a w
 | .two t u, a, w => wpBt P l C s Q t a w ∧ wpBt P l C s Q u a w
theorem isEmpty_ne {l : List Nat} (h : (!l.isEmpty) = true) : l ≠ [] := by
 rintro rfl
 cases h
theorem bt_all {l : List Oper} {s : Nat} {Q : Act → World → Prop} (hns : Region.noSelect l.toArray = true) : ∀ (t : Bt),
 (∀ (listed : Array Bool) (a : Act) (w : World), t.even = true → btB md l.toArray s true t listed = true → ClosedL md l.toArray listed → (listed.getD s false = false → C w) → wpBt P l C s Q t a w → wpAnyC P md l.toArray C s Q t.len listed a w) ∧
 (∀ (top : Bool) (listed : Array Bool) (a : Act) (w : World) (n : Nat), t.even = true → t.len = n + 1 → btB md l.toArray s top t listed = true → ClosedL md l.toArray listed → (∀ j ∈ t.heads, j ∈ Region.ready md l.toArray listed) → wpBt P l C s Q t a w → ∀ j ∈ t.heads, wpOp P l.toArray QN j (wpAnyC P md l.toArray C s Q n (listed.setIfInBounds j true)) a w)
 | .fin => ⟨fun listed a w _ hB _ hC h => by
  simp only [btB, Bool.not_true, Bool.false_or, beq_iff_eq] at hB
  exact ⟨hC, hB, h⟩, fun top listed a w n _ hl => by cases hl⟩
 | .soft i t => by
  have ih := (bt_all (Q := Q) (s := s) hns t).1
  refine ⟨fun listed a w he hB hcl hC h => ?_, fun top listed a w n _ _ _ _ _ _ j hj => by cases hj⟩
  simp only [btB, Bool.true_and, Bool.and_eq_true, beq_iff_eq, bne_iff_ne, ne_eq] at hB
  obtain ⟨⟨⟨⟨⟨⟨hls, h1⟩, h2⟩, h3⟩, h4⟩, h5⟩, h6⟩ := hB
  obtain ⟨oi, hoi⟩ : ∃ o, l.toArray[i]? = some o := by
   cases ho : l.toArray[i]? with
   | none => rw [ho] at h4; cases h4
   | some o => exact ⟨o, rfl⟩
  rw [hoi] at h4
  have hq : qOp P l.toArray C i (fun a' => wpBt P l C s Q t a' w) a := by
   have h' : wpQuiet P l.toArray C (fun a' => wpBt P l C s Q t a' w) (pick l [i]) a := h
   have hi : l[i]? = some oi := by rw [← hoi, List.getElem?_toArray]
   have e : pick l [i] = [oi] := nthC_some _ hi
   rw [e] at h'
   unfold qOp
   simp only [hoi]
   unfold wpQuiet at h'
   split
   ·rename_i hw
    rw [if_pos hw] at h'
    exact Oper.quiet_mono (fun a' h'' => h'') h'
   ·rename_i hw
    rw [if_neg hw] at h'
    exact h'
  obtain ⟨v, hy, hK⟩ := yieldsIn_of_qOp hoi hq
  have hir : i ∈ Region.ready md l.toArray listed := by simpa using h2
  exact wpAnyC_firstN hoi (by simpa using h4) (Region.noSelect_spec hns) h1 (wait_ne h5) t.len listed a w hcl (Region.free_spec hoi h3) hir hy hls (hC hls)
   (ih _ _ _ he h6 (closed_set hcl hir) (fun _ => hC hls) hK)
 | .pure i t => by
  have ih := (bt_all (Q := Q) (s := s) hns t).1
  refine ⟨fun listed a w he hB hcl hC h => ?_, fun top listed a w n _ _ _ _ _ _ j hj => by cases hj⟩
  simp only [btB, Bool.true_and, Bool.and_eq_true, bne_iff_ne, ne_eq] at hB
  obtain ⟨⟨⟨⟨h1, h2⟩, h3⟩, h4⟩, h6⟩ := hB
  obtain ⟨oi, hoi⟩ : ∃ o, l.toArray[i]? = some o := by
   cases ho : l.toArray[i]? with
   | none => rw [ho] at h4; cases h4
   | some o => exact ⟨o, rfl⟩
  rw [hoi] at h4
  have hq : qOp P l.toArray AnyW i (fun a' => wpBt P l C s Q t a' w) a := by
   have h' : wpQuiet P l.toArray AnyW (fun a' => wpBt P l C s Q t a' w) (pick l [i]) a := h
   have hi : l[i]? = some oi := by rw [← hoi, List.getElem?_toArray]
   have e : pick l [i] = [oi] := nthC_some _ hi
   rw [e] at h'
   unfold qOp
   simp only [hoi]
   unfold wpQuiet at h'
   split
   ·rename_i hw
    rw [if_pos hw] at h'
    exact Oper.quiet_mono (fun a' h'' => h'') h'
   ·rename_i hw
    rw [if_neg hw] at h'
    exact h'
  obtain ⟨v, hy, hK⟩ := yieldsIn_of_qOp hoi hq
  have hir : i ∈ Region.ready md l.toArray listed := by simpa using h2
  exact wpAnyC_firstP hoi (by simpa using h4) (Region.noSelect_spec hns) h1 t.len listed a w hcl (Region.free_spec hoi h3) hir hy hC
   (ih _ _ _ he h6 (closed_set hcl hir) (fun hs => hC (by rw [getD_set_ne false h1] at hs; exact hs)) hK)
 | .step i t => by
  have ih := (bt_all (Q := Q) (s := s) hns t).1
  have K2 : ∀ (top : Bool) (listed : Array Bool) (a : Act) (w : World) (n : Nat), (Bt.step i t).even = true → (Bt.step i t).len = n + 1 → btB md l.toArray s top (.step i t) listed = true → ClosedL md l.toArray listed → (∀ j ∈ (Bt.step i t).heads, j ∈ Region.ready md l.toArray listed) → wpBt P l C s Q (.step i t) a w → ∀ j ∈ (Bt.step i t).heads, wpOp P l.toArray QN j (wpAnyC P md l.toArray C s Q n (listed.setIfInBounds j true)) a w := by
   intro top listed a w n he hl hB hcl hrd h j hj
   have hjr := hrd j hj
   obtain rfl : j = i := List.mem_singleton.1 hj
   simp only [btB, Bool.and_eq_true, decide_eq_true_eq] at hB
   obtain rfl : t.len = n := by simpa [Bt.len] using hl
   refine wpOp_mono (fun a' w' hh => ih _ a' w' he hB.2 (closed_set hcl hjr) (fun h0 => ?_) hh.2) (wpOp_of_list (by simpa using hB.1.1.2) h)
   refine hh.1 fun hjs => ?_
   subst hjs
   have := hB.1.2
   simp [this] at h0
  refine ⟨fun listed a w he hB hcl hC h => ⟨hC, fun h0 => ?_, fun j hj => ?_⟩, K2⟩
  ·simp only [btB, Bool.not_true, Bool.false_or, Bool.and_eq_true, beq_iff_eq] at hB
   rw [hB.1.1.1] at h0
   cases h0
  ·have hB' := hB
   simp only [btB, Bool.not_true, Bool.false_or, Bool.and_eq_true, beq_iff_eq] at hB'
   have hj' := hj
   rw [hB'.1.1.1] at hj
   exact K2 true listed a w t.len he rfl hB hcl (fun k hk => by rw [hB'.1.1.1]; exact hk) h j hj
 | .late i t => by
  have ih := (bt_all (Q := Q) (s := s) hns t).1
  have K2 : ∀ (top : Bool) (listed : Array Bool) (a : Act) (w : World) (n : Nat), (Bt.late i t).even = true → (Bt.late i t).len = n + 1 → btB md l.toArray s top (.late i t) listed = true → ClosedL md l.toArray listed → (∀ j ∈ (Bt.late i t).heads, j ∈ Region.ready md l.toArray listed) → wpBt P l C s Q (.late i t) a w → ∀ j ∈ (Bt.late i t).heads, wpOp P l.toArray QN j (wpAnyC P md l.toArray C s Q n (listed.setIfInBounds j true)) a w := by
   intro top listed a w n he hl hB hcl hrd h j hj
   have hjr := hrd j hj
   obtain rfl : j = i := List.mem_singleton.1 hj
   simp only [btB, Bool.and_eq_true, decide_eq_true_eq] at hB
   obtain rfl : t.len = n := by simpa [Bt.len] using hl
   refine wpOp_mono (fun a' w' hh => ih _ a' w' he hB.2 (closed_set hcl hjr) (fun h0 => ?_) hh.2) (wpOp_of_list (C := fun _ => True) (by simpa using hB.1.1.1.2) h)
   rw [getD_set_true hB.1.2] at h0
   cases h0
  refine ⟨fun listed a w he hB hcl hC h => ⟨hC, fun h0 => ?_, fun j hj => ?_⟩, K2⟩
  ·simp only [btB, Bool.not_true, Bool.false_or, Bool.and_eq_true, beq_iff_eq] at hB
   rw [hB.1.1.1.1] at h0
   cases h0
  ·have hB' := hB
   simp only [btB, Bool.not_true, Bool.false_or, Bool.and_eq_true, beq_iff_eq] at hB'
   have hj' := hj
   rw [hB'.1.1.1.1] at hj
   exact K2 true listed a w t.len he rfl hB hcl (fun k hk => by rw [hB'.1.1.1.1]; exact hk) h j hj
 | .two t u => by
  have iht := (bt_all (Q := Q) (s := s) hns t).2
  have ihu := (bt_all (Q := Q) (s := s) hns u).2
  have K2 : ∀ (top : Bool) (listed : Array Bool) (a : Act) (w : World) (n : Nat), (Bt.two t u).even = true → (Bt.two t u).len = n + 1 → btB md l.toArray s top (.two t u) listed = true → ClosedL md l.toArray listed → (∀ j ∈ (Bt.two t u).heads, j ∈ Region.ready md l.toArray listed) → wpBt P l C s Q (.two t u) a w → ∀ j ∈ (Bt.two t u).heads, wpOp P l.toArray QN j (wpAnyC P md l.toArray C s Q n (listed.setIfInBounds j true)) a w := by
   intro top listed a w n he hl hB hcl hrd h j hj
   simp only [btB, Bool.and_eq_true] at hB
   simp only [Bt.even, Bool.and_eq_true, beq_iff_eq] at he
   have hl' : t.len = n + 1 := hl
   rcases List.mem_append.1 hj with hj | hj
   ·exact iht false listed a w n he.1.1.1.1 hl' hB.1.2 hcl (fun k hk => hrd k (List.mem_append_left _ hk)) h.1 j hj
   ·exact ihu false listed a w n he.1.1.1.2 (he.1.1.2 ▸ hl') hB.2 hcl (fun k hk => hrd k (List.mem_append_right _ hk)) h.2 j hj
  refine ⟨fun listed a w he hB hcl hC h => ?_, K2⟩
  have he' := he
  simp only [Bt.even, Bool.and_eq_true, beq_iff_eq] at he'
  have hne := isEmpty_ne he'.1.2
  obtain ⟨n, hn⟩ : ∃ n, t.len = n + 1 := by
   cases t with
   | fin => exact absurd rfl hne
   | soft i t => exact absurd rfl hne
   | pure i t => exact absurd rfl hne
   | step i t => exact ⟨_, rfl⟩
   | late i t => exact ⟨_, rfl⟩
   | two a b =>
    refine ⟨(Bt.two a b).len - 1, ?_⟩
    have key : ∀ x : Bt, x.even = true → x.heads ≠ [] → x.len ≠ 0 := by
     intro x
     induction x with
     | fin => intro _ h; exact absurd rfl h
     | soft i t _ => intro _ h; exact absurd rfl h
     | pure i t _ => intro _ h; exact absurd rfl h
     | step i t _ => intro _ _ h; cases h
     | late i t _ => intro _ _ h; cases h
     | two a b iha _ =>
      intro hx _ h0
      simp only [Bt.even, Bool.and_eq_true, beq_iff_eq] at hx
      exact iha hx.1.1.1.1 (isEmpty_ne hx.1.2) h0
    have := key _ he'.1.1.1.1 hne
    omega
  have hB' := hB
  simp only [btB, Bool.not_true, Bool.false_or, Bool.and_eq_true, beq_iff_eq] at hB'
  show wpAnyC P md l.toArray C s Q t.len listed a w
  rw [hn]
  refine ⟨hC, fun h0 => ?_, fun j hj => ?_⟩
  ·rw [hB'.1.1] at h0
   exact absurd (List.append_eq_nil_iff.1 h0).1 hne
  ·have hj' := hj
   rw [hB'.1.1] at hj
   exact K2 true listed a w n he hn hB hcl (fun k hk => by rw [hB'.1.1]; exact hk) h j hj
def btOkB (l : List Oper) (s : Nat) (t : Bt) : Bool :=
 Region.noSelect l.toArray && t.even && btB .any l.toArray s true t (Array.replicate l.length false) && (t.len == l.length)
theorem wp_region_bt {id : Nat} {Q : Exit → Act → World → Prop} {a : Act} {w : World} {l : List Oper} (s : Nat) (t : Bt) (hm : P.follows .mixedOrders = true) (hB : btOkB l s t = true)
 (h : wpBt P l (fun w' => ∃ x : Lay, w' = more w x.os x.k) s (fun a' w' => Q .normal a' w') t a w.drew) : (Code.region id l.toArray true).wp P Q a w := by
 unfold btOkB at hB
 simp only [Bool.and_eq_true, beq_iff_eq] at hB
 obtain ⟨⟨⟨h1, h2⟩, h3⟩, h5⟩ := hB
 refine wp_region_any hm (wpAny_of_C (C := fun w' => ∃ x : Lay, w' = more w x.os x.k) (s := s) _ _ _ _ ?_)
 have := (bt_all (P := P) (md := .any) (Q := fun a' w' => Q .normal a' w') (C := fun w' => ∃ x : Lay, w' = more w x.os x.k) (s := s) h1 t).1 (Array.replicate l.length false) a w.drew h2 h3 (fun k o _ hk => by
  rw [Array.getD_eq_getD_getElem?, Array.getElem?_replicate] at hk
  split at hk <;> cases hk) (fun _ => ⟨⟨[], w.drawn + 1⟩, by rw [← more_drew, more_nil]⟩) h
 rw [h5] at this
 simpa using this
theorem wp_region_btC {T : Type} (f : T → World) {id : Nat} {Q : Exit → Act → World → Prop} {a : Act} {w : World} {l : List Oper} (s : Nat) (t : Bt) (hm : P.follows .mixedOrders = true) (hB : btOkB l s t = true) (h0 : ∃ x : T, w.drew = f x)
 (h : wpBt P l (fun w' => ∃ x : T, w' = f x) s (fun a' w' => Q .normal a' w') t a w.drew) : (Code.region id l.toArray true).wp P Q a w := by
 unfold btOkB at hB
 simp only [Bool.and_eq_true, beq_iff_eq] at hB
 obtain ⟨⟨⟨h1, h2⟩, h3⟩, h5⟩ := hB
 refine wp_region_any hm (wpAny_of_C (C := fun w' => ∃ x : T, w' = f x) (s := s) _ _ _ _ ?_)
 have := (bt_all (P := P) (md := .any) (Q := fun a' w' => Q .normal a' w') (C := fun w' => ∃ x : T, w' = f x) (s := s) h1 t).1 (Array.replicate l.length false) a w.drew h2 h3 (fun k o _ hk => by
  rw [Array.getD_eq_getD_getElem?, Array.getElem?_replicate] at hk
  split at hk <;> cases hk) (fun _ => h0) h
 rw [h5] at this
 simpa using this
def softs_bt : List Nat → Bt → Bt
 | [], t => t
 | i :: r, t => .soft i (softs_bt r t)
theorem nthC_none : ∀ {l : List Oper} {i : Nat} (acc : List Oper), l[i]? = none → nthC l i acc = acc
 | [], _, _, _ => rfl
 | o :: _, 0, _, h => by simp at h
 | _ :: l, i + 1, acc, h => nthC_none (l := l) acc (by simpa using h)
theorem bt_softs' {l : List Oper} {s : Nat} {Q : Act → World → Prop} {t : Bt} {w : World} : ∀ (is : List Nat) (a : Act), wpQuiet P l.toArray C (fun a' => wpBt P l C s Q t a' w) (pick l is) a → wpBt P l C s Q (softs_bt is t) a w
 | [], _, h => h
 | i :: is, a, h => by
  show wpQuiet P l.toArray C (fun a' => wpBt P l C s Q (softs_bt is t) a' w) (pick l [i]) a
  have h' : wpQuiet P l.toArray C (fun a' => wpBt P l C s Q t a' w) (nthC l i (pick l is)) a := h
  cases hi : l[i]? with
  | none =>
   rw [nthC_none _ hi] at h'
   have e : pick l [i] = [] := nthC_none _ hi
   rw [e]
   exact bt_softs' is a h'
  | some o =>
   rw [nthC_some _ hi] at h'
   have e : pick l [i] = [o] := nthC_some _ hi
   rw [e]
   unfold wpQuiet at h' ⊢
   split
   ·rename_i hw
    rw [if_pos hw] at h'
    exact Oper.quiet_mono (fun a' h'' => bt_softs' is a' h'') h'
   ·rename_i hw
    rw [if_neg hw] at h'
    exact bt_softs' is _ h'
theorem bt_softs {l : List Oper} {s : Nat} {Q : Act → World → Prop} {t : Bt} {a : Act} {w : World} (is : List Nat) (hh : ∀ K : Act → Prop, (∀ a', wpBt P l C s Q t a' w → K a') → wpQuiet P l.toArray C K (pick l is) a) : wpBt P l C s Q (softs_bt is t) a w :=
 bt_softs' is a (hh _ fun _ h => h)
theorem bt_step {l : List Oper} {s i : Nat} {Q : Act → World → Prop} {t : Bt} {a : Act} {w : World} (hh : ∀ next : Act → World → Prop, (∀ a w, wpBt P l C s Q t a w → next a w) → wpList P l.toArray (segQ C i s next) (pick l [i]) a w) : wpBt P l C s Q (.step i t) a w := hh _ fun _ _ h => h
def pures_bt : List Nat → Bt → Bt
 | [], t => t
 | i :: r, t => .pure i (pures_bt r t)
theorem bt_pures' {l : List Oper} {s : Nat} {Q : Act → World → Prop} {t : Bt} {w : World} : ∀ (is : List Nat) (a : Act), wpQuiet P l.toArray AnyW (fun a' => wpBt P l C s Q t a' w) (pick l is) a → wpBt P l C s Q (pures_bt is t) a w
 | [], _, h => h
 | i :: is, a, h => by
  show wpQuiet P l.toArray AnyW (fun a' => wpBt P l C s Q (pures_bt is t) a' w) (pick l [i]) a
  have h' : wpQuiet P l.toArray AnyW (fun a' => wpBt P l C s Q t a' w) (nthC l i (pick l is)) a := h
  cases hi : l[i]? with
  | none =>
   rw [nthC_none _ hi] at h'
   have e : pick l [i] = [] := nthC_none _ hi
   rw [e]
   exact bt_pures' is a h'
  | some o =>
   rw [nthC_some _ hi] at h'
   have e : pick l [i] = [o] := nthC_some _ hi
   rw [e]
   unfold wpQuiet at h' ⊢
   split
   ·rename_i hw
    rw [if_pos hw] at h'
    exact Oper.quiet_mono (fun a' h'' => bt_pures' is a' h'') h'
   ·rename_i hw
    rw [if_neg hw] at h'
    exact bt_pures' is _ h'
theorem bt_pures {l : List Oper} {s : Nat} {Q : Act → World → Prop} {t : Bt} {a : Act} {w : World} (is : List Nat) (hh : ∀ K : Act → Prop, (∀ a', wpBt P l C s Q t a' w → K a') → wpQuiet P l.toArray AnyW K (pick l is) a) : wpBt P l C s Q (pures_bt is t) a w :=
 bt_pures' is a (hh _ fun _ h => h)
theorem bt_late {l : List Oper} {s i : Nat} {Q : Act → World → Prop} {t : Bt} {a : Act} {w : World} (hh : ∀ next : Act → World → Prop, (∀ a w, wpBt P l C s Q t a w → next a w) → wpList P l.toArray (segQ (fun _ => True) i s next) (pick l [i]) a w) : wpBt P l C s Q (.late i t) a w := hh _ fun _ _ h => h
theorem bt_fin {l : List Oper} {s : Nat} {Q : Act → World → Prop} {a : Act} {w : World} (h : Q a w) : wpBt P l C s Q .fin a w := h
end
end Go.Proofs.YthpmncdfaggkiaaGreat
namespace Go.Proofs.YthpmncdfaggkiaaGreat
open Go.RowKit
attribute [local go_sem] more_drew more_drewN more_size more_cell more_frozen more_setCell drew_more drewN_more lt_add_r lt_add_r2 lt_add_r3 lt_add_r4 lt_add_r5 lt_add_r6 lt_add_r7 lt_add_r8 lt_add_r9 lt_add_r10 lt_self_r lt_self_r2
def RD (w : World) (b : Nat) (s : ByteArray) (at_ : Nat) (v : Value) : Prop := w.heap[b]? = some (.cells #[.string s, .int .i64 at_, v, .int .i64 0] 186)
theorem RD.ext {w w' : World} {b : Nat} {s : ByteArray} {at_ : Nat} {v : Value} (h : RD w b s at_ v) (e : Ext w w') : RD w' b s at_ v := ext_block h e
theorem RD.lt {w : World} {b : Nat} {s : ByteArray} {at_ : Nat} {v : Value} (h : RD w b s at_ v) : b < w.heap.size := lt_of_heap h
theorem RD.cells {w : World} {b : Nat} {s : ByteArray} {at_ : Nat} {v : Value} (h : RD w b s at_ v) : w.cell? ⟨b, 0, none⟩ = some (.string s) ∧ w.cell? ⟨b, 1, none⟩ = some (.int .i64 at_) ∧ w.cell? ⟨b, 2, none⟩ = some v ∧ w.cell? ⟨b, 3, none⟩ = some (.int .i64 0) := by
 unfold RD at h
 exact ⟨cell_of_row _ _ 0 _ _ _ h, cell_of_row _ _ 1 _ _ _ h, cell_of_row _ _ 2 _ _ _ h, cell_of_row _ _ 3 _ _ _ h⟩
theorem RD.move {w : World} {b : Nat} {s : ByteArray} {at_ : Nat} {v : Value} (h : RD w b s at_ v) (n : Nat) : RD (w.setCell ⟨b, 1, none⟩ (.int .i64 n)) b s n v := setCell_row h _
abbrev ptr (b : Nat) : Value := .pointer (some ⟨b, 0, none⟩)
set_option maxRecDepth 100000 in
set_option maxHeartbeats 2000000 in
theorem more_any (b : Nat) (s : ByteArray) (at_ : Nat) (v : Value) (w : World) (h : RD w b s at_ v) : Calls Tryz.prog 140 #[ptr b] w fun e w' => e = .returned (.bool (decide (at_ < s.size))) ∧ Ext w w' := by
 obtain ⟨c0, c1, c2, c3⟩ := h.cells
 have hb := h.lt
 have q0 : ((0 : Int) == 0) = true := rfl
 clear h
 go_enter Tryz.func140, Tryz.ntmps140
 go_upto_region 1 with fail
 refine wp_region_bt (18) (softs_bt [0, 1, 2, 3, 4, 5, 6, 7, 8, 9, 10, 11, 12, 13, 14, 15, 16, 17] .fin) (by kernel_rfl) (by kernel_rfl) ?_
 refine bt_softs _ fun K hK => ?_; simp only [pick, nthC]; (repeat go_big_quiet_step (fail)); refine wpQuiet_nil (hK _ ?_); clear hK K
 (refine bt_fin ?_)
 go_wp2_with fail
 go_ret
 exact ⟨rfl, (by repeat first | exact xr _ | refine xa ?_ _ | refine xm ?_ _ _ | refine xd ?_ | refine xn ?_ _ | refine xs ?_ (by simp <;> omega) _)⟩
set_option maxRecDepth 100000 in
set_option maxHeartbeats 2000000 in
theorem one_any (b : Nat) (s : ByteArray) (at_ : Nat) (v : Value) (w : World) (h : RD w b s at_ v) (x : UInt8) (hx : s[at_]? = some x) (hn : x ≠ 92) (hl : at_ ≤ 1000) :
 Calls Tryz.prog 199 #[ptr b] w fun e w' => e = .returned (.int .u8 x.toNat) ∧ RD w' b s (at_ + 1) v ∧ Turn (fun k => k = b) w w' := by
 obtain ⟨c0, c1, c2, c3⟩ := h.cells
 have hb := h.lt
 have H := zh h
 have q1 : ((x.toNat : Int) == 92) = false := by
  simp
  intro hh
  exact hn (UInt8.toNat_inj.1 (by simpa using (by omega : x.toNat = 92)))
 have I0 := idx_eq hx at_ rfl
 clear h hn hx
 go_enter Tryz.func199, Tryz.ntmps199
 go_upto_region 1 with fail
 refine wp_region_bt (10) (softs_bt [0, 1, 2, 3, 4, 5, 6, 7, 8, 9] .fin) (by kernel_rfl) (by kernel_rfl) ?_
 refine bt_softs _ fun K hK => ?_; simp only [pick, nthC]; (repeat go_big_quiet_step (fail)); refine wpQuiet_nil (hK _ ?_); clear hK K
 (refine bt_fin ?_)
 have D0 := row_frozen H.out 1
 go_wp2_with fail
 go_ret
 exact ⟨rfl, H.out.move (at_ + 1), (Turn.set1 b 1 _).trans (Turn.of_ext (by repeat first | exact xr _ | refine xa ?_ _ | refine xm ?_ _ _ | refine xd ?_ | refine xn ?_ _ | refine xs ?_ (by simp <;> omega) _))⟩
def nodC (k : Int) (c : Cl) (kv : Value) : List Value := [.int .i64 k, .int .u64 c.a, .int .u64 c.b, .int .u64 c.c, .int .u64 c.d, kv]
theorem infoNode : (Tryz.prog.info? 232).map (fun i => (i.zero, i.size, i.bytes)) = some (some (.agg #[.int .i64 0, .int .u64 0, .int .u64 0, .int .u64 0, .int .u64 0, .slice none 0 0]), 6, 64) := by kernel_rfl
set_option maxRecDepth 100000 in
set_option maxHeartbeats 2000000 in
theorem put_any (b base : Nat) (s : ByteArray) (at_ : Nat) (v : Value) (n : Nat) (cs : List Value) (k : Int) (c : Cl) (kA : Option Addr) (kn kc : Nat) (w : World) (h : RD w b s at_ v) (hr : w.ownsRow base 232 6 v n cs) (hb : base ≤ w.heap.size) (hn : n ≤ 1000) :
 Calls Tryz.prog 177 #[ptr b, .int .i64 k, c.V, .slice kA kn kc] w fun e w' => ∃ v', e = .returned (.int .i64 n) ∧ RD w' b s at_ v' ∧ w'.ownsRow base 232 6 v' (n + 1) (cs ++ nodC k c (.slice kA kn kc)) ∧
  Turn (fun i => i = b ∨ v.ownBlock = some i) w w' ∧ (v'.ownBlock = v.ownBlock ∨ ∃ g, v'.ownBlock = some g ∧ w.heap.size ≤ g) := by
 obtain ⟨W, hW⟩ : ∃ W, w.alloc (.cells #[.int .u64 c.a, .int .u64 c.b, .int .u64 c.c, .int .u64 c.d] 191) = W := ⟨_, rfl⟩
 have B0 : W.heap[w.heap.size]? = some (.cells #[.int .u64 c.a, .int .u64 c.b, .int .u64 c.c, .int .u64 c.d] 191) := by rw [← hW]; exact heap_alloc_new _ _
 have X1 : Ext w W := by rw [← hW]; exact (by repeat first | exact xr _ | refine xa ?_ _ | refine xm ?_ _ _ | refine xd ?_ | refine xn ?_ _ | refine xs ?_ (by simp <;> omega) _)
 obtain ⟨g, hg⟩ : ∃ g, w.heap.size = g := ⟨_, rfl⟩
 have hsz : W.heap.size = g + 1 := by rw [← hW, ← hg]; simp
 rw [hg] at B0
 have HX1 := zh X1
 have H1 := zh (h.ext X1)
 have HR1 := zh (own_ext hr X1)
 have HBB : Hid (b < g ∧ base ≤ g) := zh (by have := h.lt; omega)
 have HOB : Hid (∀ i, v.ownBlock = some i → i < g ∧ i ≠ b) := zh (fun i hi => by
  refine ⟨by rw [← hg]; exact own_old hr i hi, fun he => ?_⟩
  subst he
  obtain ⟨cur, hcur⟩ := own_obj hr i hi
  unfold RD at h
  rw [h] at hcur
  injection hcur with hcur
  injection hcur with hcur hcur2
  revert hcur2
  decide)
 have KX : Hid (∀ x : EdS W b g, (x.V.cell? ⟨b, 2, none⟩ = some v) ∧ (x.V.cell? ⟨g, 0, none⟩ = some (.int .u64 c.a)) ∧ (x.V.cell? ⟨g, 1, none⟩ = some (.int .u64 c.b)) ∧ (x.V.cell? ⟨g, 2, none⟩ = some (.int .u64 c.c)) ∧ (x.V.cell? ⟨g, 3, none⟩ = some (.int .u64 c.d)) ∧ b < x.V.heap.size ∧ g < x.V.heap.size) := zh fun x => by
  have e0 := cell_of_row _ _ 0 _ _ _ (x.box.trans B0)
  have e1 := cell_of_row _ _ 1 _ _ _ (x.box.trans B0)
  have e2 := cell_of_row _ _ 2 _ _ _ (x.box.trans B0)
  have e3 := cell_of_row _ _ 3 _ _ _ (x.box.trans B0)
  have e4 : RD x.V b s at_ v := x.idx.trans H1.out
  simp at e0 e1 e2 e3
  exact ⟨e4.cells.2.2.1, e0, e1, e2, e3, e4.lt, lt_of_heap (x.box.trans B0)⟩
 have kx0 := fun x => (KX.out x).1
 have kx1 := fun x => (KX.out x).2.1
 have kx2 := fun x => (KX.out x).2.2.1
 have kx3 := fun x => (KX.out x).2.2.2.1
 have kx4 := fun x => (KX.out x).2.2.2.2.1
 have kx5 := fun x => (KX.out x).2.2.2.2.2.1
 have kx6 := fun x => (KX.out x).2.2.2.2.2.2
 have HW := zh hW
 have HG := zh hg
 have HSZ := zh hsz
 unfold Cl.V
 clear h hr X1 B0 hW hg hsz
 go_enter Tryz.func177, Tryz.ntmps177
 go_upto_region 1 with fail
 simp only [HW.out, HG.out]
 refine wp_region_btC (T := EdS W b g) EdS.V (13) (softs_bt [0, 1, 2, 3, 4, 5, 6, 7, 8] (.step 9 (.step 10 (softs_bt [11, 12] (.step 13 .fin))))) (by kernel_rfl) (by kernel_rfl) ⟨⟨W.drew, rfl, rfl⟩, rfl⟩ ?_
 refine bt_softs _ fun K hK => ?_; simp only [pick, nthC]; (repeat go_big_quiet_step (fail)); refine wpQuiet_nil (hK _ ?_); clear hK K
 clear kx0 kx1 kx2 kx3 kx4 kx5 kx6
 refine bt_step fun next hn => ?_; simp only [pick, nthC]
 go_wp2_with fail
 have X9 : Ext W (W.alloc (.cells #[.int .i64 k, .int .u64 c.a, .int .u64 c.b, .int .u64 c.c, .int .u64 c.d, .slice kA kn kc] 232)).drew := (by repeat first | exact xr _ | refine xa ?_ _ | refine xm ?_ _ _ | refine xd ?_ | refine xn ?_ _ | refine xs ?_ (by simp <;> omega) _)
 have HX9 := zh X9
 have HR9 := zh (own_ext HR1.out X9)
 have HC9 : Hid (CellsAt (W.alloc (.cells #[.int .i64 k, .int .u64 c.a, .int .u64 c.b, .int .u64 c.c, .int .u64 c.d, .slice kA kn kc] 232)).drew (some ⟨g + 1, 0, none⟩) (nodC k c (.slice kA kn kc))) :=
  zh (by rw [← HSZ.out]; exact (cells_lit W _ W.heap.size _ (nodC k c (.slice kA kn kc)) rfl rfl).ext ((Ext.refl _).drew))
 refine segQ_mk (fun _ => edS_ext X9 (by have := HBB.out; have := HSZ.out; omega) (by have := HSZ.out; omega)) (hn _ _ ?_)
 clear hn next X9
 obtain ⟨W9, hW9⟩ : ∃ W9, (W.alloc (.cells #[.int .i64 k, .int .u64 c.a, .int .u64 c.b, .int .u64 c.c, .int .u64 c.d, .slice kA kn kc] 232)).drew = W9 := ⟨_, rfl⟩
 rw [hW9] at HX9 HR9 HC9
 simp only [hW9, HSZ.out]
 have HS9 : Hid (W9.heap.size = g + 2) := zh (by rw [← hW9]; simp [HSZ.out])
 clear hW9
 obtain ⟨i6, hi, hz0, hz1, hz2⟩ := info_parts infoNode
 refine bt_step fun next hn => ?_; simp only [pick, nthC]
 go_wp2_with (at_builtin; refine wpList_append_cells _ (by rfl) (.tmp 13) (.tmp 18) 141 rfl base 232 i6 _ 6 64 Tryz.underlying141 hi hz0 hz1 hz2 rfl (by omega) v n cs rfl HR9.out (some ⟨g + 1, 0, none⟩) 1 1 (nodC k c (.slice kA kn kc)) rfl (by intro h; cases h) rfl HC9.out (by intro u hu; simp only [nodC, List.mem_cons, List.not_mem_nil, or_false] at hu; rcases hu with rfl | rfl | rfl | rfl | rfl | rfl <;> rfl) (by unfold maxLen; omega) (by omega) (by have := HBB.out; have := HS9.out; omega) ?_; intro v10 w10 hown10 hg10 hat10)
 have HB10 : Hid (w10.heap[b]? = W9.heap[b]?) := zh (hg10.block b (by have := HBB.out; have := HS9.out; omega) (fun he => (HOB.out b he.symm).2 rfl))
 have HG10 : Hid (w10.heap[g]? = W9.heap[g]?) := zh (hg10.block g (by have := HS9.out; omega) (fun he => by have := (HOB.out g he.symm).1; omega))
 have HE9 : Hid (W9.heap[b]? = W.heap[b]? ∧ W9.heap[g]? = W.heap[g]?) := zh ⟨HX9.out.below.block _ (by have := HBB.out; have := HSZ.out; omega), HX9.out.below.block _ (by have := HSZ.out; omega)⟩
 refine segQ_mk (fun _ => ⟨⟨w10, HB10.out.trans HE9.out.1, HG10.out.trans HE9.out.2⟩, rfl⟩) (hn _ _ ?_)
 clear hn next
 have H10 : Hid (RD w10 b s at_ v) := zh ((HB10.out.trans HE9.out.1).trans H1.out)
 have HO10 := zh hown10
 have HT10 : Hid (Turn (fun i => v.ownBlock = some i) w w10) := zh ((Turn.of_ext (HX1.out.trans HX9.out)).trans (Turn.grown hg10 fun i hi _ => hi))
 have HA10 : Hid (v10.ownBlock = v.ownBlock ∨ v10.ownBlock = some (g + 2)) := zh (by rw [← HS9.out]; exact hat10)
 have HS10 : Hid (W9.heap.size ≤ w10.heap.size) := zh hg10.size
 clear hown10 hg10 hat10 hi hz0 hz1 hz2 i6
 obtain ⟨A10, c10, hv10, _⟩ := own_cells HO10.out
 subst hv10
 refine bt_softs _ fun K hK => ?_; simp only [pick, nthC]; (repeat go_big_quiet_step (fail)); refine wpQuiet_nil (hK _ ?_); clear hK K
 refine bt_step fun next hn => ?_; simp only [pick, nthC]
 obtain ⟨c0, c1, c2, c3⟩ := H10.out.cells
 have f2 := row_frozen H10.out 2
 go_wp2_with fail
 refine segQ_mk (fun h => absurd rfl h) (hn _ _ ?_)
 clear hn next
 (refine bt_fin ?_)
 have K10 : RD (w10.setCell ⟨b, 2, none⟩ (.slice A10 (n + 1) c10)) b s at_ (.slice A10 (n + 1) c10) := setCell_row H10.out _
 obtain ⟨d0, d1, d2, d3⟩ := K10.cells
 have HK10 := zh K10
 have HNE : Hid (∀ i, (Value.slice A10 (n + 1) c10).ownBlock = some i → i ≠ b) := zh (fun i hi => by
  rcases HA10.out with h | h
  ·exact (HOB.out i (h ▸ hi)).2
  ·rw [h] at hi
   injection hi with hi
   have := HBB.out
   omega)
 have HOK : Hid ((w10.setCell ⟨b, 2, none⟩ (.slice A10 (n + 1) c10)).ownsRow base 232 6 (.slice A10 (n + 1) c10) (n + 1) (cs ++ nodC k c (.slice kA kn kc))) := zh (own_keep HO10.out fun i hi => by
  have := HNE.out i hi
  simp [World.setCell, Array.getElem?_modify, Ne.symm this])
 have HTK : Hid (Turn (fun i => i = b ∨ v.ownBlock = some i) w (w10.setCell ⟨b, 2, none⟩ (.slice A10 (n + 1) c10))) := zh ((HT10.out.mono fun i _ hi => .inr hi).trans ((Turn.set1 b 2 (.slice A10 (n + 1) c10)).mono fun i _ hi => .inl hi))
 clear K10 c0 c1 c2 c3
 have e1 : wrap64 ((n : Int) + 1 - 1) = (n : Int) := by rw [IntWalk.wrap64_in _ (by omega)]; omega
 go_wp2_with fail
 go_ret
 refine ⟨_, ret_int ?_, HK10.out, HOK.out, HTK.out, ?_⟩
 ·omega
 ·rcases HA10.out with h | h
  ·exact .inl h
  ·exact .inr ⟨_, h, by have := HG.out; omega⟩
end Go.Proofs.YthpmncdfaggkiaaGreat
