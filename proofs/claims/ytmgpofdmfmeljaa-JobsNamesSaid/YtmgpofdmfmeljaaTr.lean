/- Tr: 5 texts in one. -/
import Derived.Test.YtmgpofdmfmeljaaW
import Derived.Maps.AppendAt
import Derived.Deep.AppendLies
import Derived.RegionTactic
import Derived.OwnWalk
import Derived.Laws.OwnMore
import Derived.RangeFuncNested
import Derived.RangeFuncBound
import Derived.RangeFuncCalls
import Derived.RangeFuncLeaves
import Derived.RangeFuncRecord
import Derived.RangeFuncIn
import Derived.Sort.QuietThIn
import Derived.Orders
import Derived.Deep.Quiet
/- append onto a row of the call's own, the source any slice whose cells are known. No program is named here. -/
namespace Go.Proofs.Ytmgpofdmfmeljaa
open Go.RowKit

/-- the slice that begins at A lies over the cells cs -/
def CellsAt (w : World) (A : Option Addr) (cs : List Value) : Prop :=
  0 < cs.length → ∃ b off, A = some ⟨b, off, none⟩ ∧ b < w.heap.size ∧ ∀ k u, cs[k]? = some u → w.cell? ⟨b, off + k, none⟩ = some u
theorem CellsAt.nil {w : World} {A : Option Addr} : CellsAt w A [] := fun h => by simp at h
theorem CellsAt.ext {w w' : World} {A : Option Addr} {cs : List Value} (h : CellsAt w A cs) (e : Ext w w') : CellsAt w' A cs := fun h0 => by
  obtain ⟨b, off, hA, hb, hc⟩ := h h0
  obtain ⟨os, k, rfl⟩ := e
  exact ⟨b, off, hA, by rw [more_size]; omega, fun j u hj => by rw [more_cell _ _ _ _ _ hb]; exact hc j u hj⟩
/-- cells of a block that is not the row that was written -/
theorem CellsAt.grown {w w' : World} {A : Option Addr} {cs : List Value} {row : Option Nat} (h : CellsAt w A cs) (e : w.grownBy w' row) (hne : ∀ b off, A = some ⟨b, off, none⟩ → some b ≠ row) : CellsAt w' A cs := fun h0 => by
  obtain ⟨b, off, hA, hb, hc⟩ := h h0
  refine ⟨b, off, hA, by have := e.size; omega, fun j u hj => ?_⟩
  rw [World.cell?_of_block (w := w) (a := ⟨b, off + j, none⟩) (e.block b hb (hne b off hA))]
  exact hc j u hj

theorem own_cells {w : World} {base : Nat} {e : TypeId} {size : Nat} {v : Value} {n : Nat} {xs : List Value} (h : w.ownsRow base e size v n xs) :
    ∃ A cap, v = .slice A n cap ∧ CellsAt w A xs ∧ n ≤ cap ∧ cap ≤ maxLen ∧ (A = none → cap = 0) := by
  rcases h.2 with ⟨rfl, rfl⟩ | ⟨g, cap, cur, rfl, hb, hg, h1, h2, h3, rfl⟩
  · refine ⟨none, 0, rfl, ?_, by omega, by unfold maxLen; omega, fun _ => rfl⟩
    have : xs = [] := List.eq_nil_of_length_eq_zero (by have := h.1; omega)
    subst this
    exact CellsAt.nil
  · refine ⟨_, cap, rfl, fun h0 => ⟨g, 0, rfl, ?_, fun k u hk => ?_⟩, h1, h2, fun h => by cases h⟩
    · rcases Nat.lt_or_ge g w.heap.size with hlt | hge
      · exact hlt
      · rw [Array.getElem?_eq_none hge] at hg; cases hg
    · simp only [World.cell?, hg, Nat.zero_add]
      rw [List.getElem?_take] at hk
      split at hk
      · rw [Array.getElem?_toList] at hk
        exact hk
      · cases hk

/-- a composite literal is owned -/
theorem cells_new (w : World) (cs : Array Value) (t : TypeId) : CellsAt (w.alloc (.cells cs t)) (some ⟨w.heap.size, 0, none⟩) cs.toList := fun _ =>
  ⟨_, 0, rfl, by show _ < (w.heap.push _).size; simp, fun k u hk => by rw [cell_of_row _ _ _ _ _ (0, 0) (heap_alloc_new w _)]; simpa using hk⟩
theorem cells_lit (w : World) (e : TypeId) (g : Nat) (cur : Array Value) (cs : List Value) (hg : g = w.heap.size) (hc : cur.toList = cs) : CellsAt (w.alloc (.cells cur e)) (some ⟨g, 0, none⟩) cs := by
  subst hg
  subst hc
  exact cells_new w cur e
theorem own_block {w : World} {base : Nat} {e : TypeId} {size : Nat} {v : Value} {n : Nat} {xs : List Value} (h : w.ownsRow base e size v n xs) : ∀ g, v.ownBlock = some g → base ≤ g := by
  intro g hg
  rcases h.2 with ⟨rfl, _⟩ | ⟨g', cap, cur, rfl, hb, _⟩
  · cases hg
  · have : g' = g := by simpa [Value.ownBlock] using hg
    omega
/-- a row's block is an old one -/
theorem own_old {w : World} {base : Nat} {e : TypeId} {size : Nat} {v : Value} {n : Nat} {xs : List Value} (h : w.ownsRow base e size v n xs) : ∀ g, v.ownBlock = some g → g < w.heap.size := by
  intro g hg
  rcases h.2 with ⟨rfl, _⟩ | ⟨g', cap, cur, rfl, hb, hh, _⟩
  · cases hg
  · have : g' = g := by simpa [Value.ownBlock] using hg
    subst this
    rcases Nat.lt_or_ge g' w.heap.size with hlt | hge
    · exact hlt
    · rw [Array.getElem?_eq_none hge] at hh
      cases hh
theorem own_keep {w w' : World} {base : Nat} {e : TypeId} {size : Nat} {v : Value} {n : Nat} {xs : List Value} (h : w.ownsRow base e size v n xs) (hk : ∀ g, v.ownBlock = some g → w'.heap[g]? = w.heap[g]?) : w'.ownsRow base e size v n xs := by
  refine ⟨h.1, ?_⟩
  rcases h.2 with h1 | ⟨g, cap, cur, h1, h2, h3, h4⟩
  · exact .inl h1
  · exact .inr ⟨g, cap, cur, h1, h2, (hk g (by rw [h1]; rfl)).trans h3, h4⟩
theorem own_lit (w : World) (base : Nat) (e : TypeId) (size : Nat) (g n : Nat) (cur : Array Value) (hg : g = w.heap.size) (hb : base ≤ w.heap.size) (hs : cur.size = n * size) (hn : n ≤ maxLen) :
    (w.alloc (.cells cur e)).ownsRow base e size (.slice (some ⟨g, 0, none⟩) n n) n cur.toList := by
  subst hg
  refine ⟨by rw [Array.length_toList, hs], .inr ⟨w.heap.size, n, cur, rfl, hb, heap_alloc_new w _, Nat.le_refl _, hn, hs, ?_⟩⟩
  rw [List.take_of_length_le (by rw [Array.length_toList, hs]; exact Nat.le_refl _)]

section
variable {P : Program}
theorem run_append_cells (w : World) (base : Nat) (t ty e : TypeId) (i : TypeInfo) (z : Value) (size bytes : Nat) (ht : P.underlying t = some (.slice e)) (hi : P.info? e = some i) (hz : i.zero = some z)
    (hsize : i.size = size) (hby : i.bytes = bytes) (hzs : z.cells.size = size) (hsz : 0 < size)
    (v : Value) (n : Nat) (xs : List Value) (hown : w.ownsRow base e size v n xs)
    (A : Option Addr) (m c : Nat) (news : List Value) (hA : A = none → c = 0) (hl : news.length = m * size) (hn : CellsAt w A news) (h1 : ∀ u ∈ news, u.oneCell' = true)
    (h63 : n + m ≤ maxLen) (hbytes : (n + m) * bytes ≤ 140737488355328) (hbase : base ≤ w.heap.size) :
    ∃ v' w', (Builtin.append_ #[t, t] ty #[v, .slice A m c]).run P w = .ok v' w' ∧ w'.ownsRow base e size v' (n + m) (xs ++ news) ∧ w.grownBy w' v.ownBlock ∧ (v'.ownBlock = v.ownBlock ∨ v'.ownBlock = some w.heap.size) := by
  cases A with
  | none =>
    obtain rfl := hA rfl
    have hm : news = [] := by
      cases news with
      | nil => rfl
      | cons u l =>
        obtain ⟨b, off, h, _⟩ := hn (by simp)
        cases h
    subst hm
    have hm0 : m = 0 := by
      rcases Nat.eq_zero_or_pos m with h | h
      · exact h
      · have := Nat.mul_pos h hsz
        simp only [List.length_nil] at hl
        omega
    subst hm0
    exact ⟨v, w, run_append_owned_none (P := P) (w := w) base t ty e i size ht hi v n xs hown, by simpa using hown, World.grownBy.refl w _, .inl rfl⟩
  | some ad =>
    have hcells : ∀ j u, news[j]? = some u → w.cell? (ad.add j) = some u := by
      intro j u hu
      have hlt : j < news.length := (List.getElem?_eq_some_iff.1 hu).1
      obtain ⟨b, off, h, _, hc⟩ := hn (by omega)
      injection h with h
      subst h
      rw [Go.WideShapes.add_plain]
      exact hc j u hu
    obtain ⟨v', w', hrun, h2, h3, _, h5⟩ := run_append_own_at (P := P) (w := w) base t ty e i z size bytes ht hi hz hsize hby hzs hsz v n xs hown ad m c news hl hcells h1 h63 hbytes hbase
    exact ⟨v', w', hrun, h2, h3, h5⟩

theorem wp_append_cells (w : World) {o : Oper} {a : Act} {K : Act → World → Prop} {Q : Exit → Act → World → Prop} (s x : Operand) (t : TypeId)
    (ho : o.op = .call { callee := .builtin .append, args := #[s, x], argTypes := #[t, t] })
    (base : Nat) (e : TypeId) (i : TypeInfo) (z : Value) (size bytes : Nat) (ht : P.underlying t = some (.slice e)) (hi : P.info? e = some i) (hz : i.zero = some z)
    (hsize : i.size = size) (hby : i.bytes = bytes) (hzs : z.cells.size = size) (hsz : 0 < size)
    (v : Value) (n : Nat) (xs : List Value) (hs : a.eval s = v) (hown : w.ownsRow base e size v n xs)
    (A : Option Addr) (m c : Nat) (news : List Value) (hx : a.eval x = .slice A m c) (hA : A = none → c = 0) (hl : news.length = m * size) (hn : CellsAt w A news) (h1 : ∀ u ∈ news, u.oneCell' = true)
    (h63 : n + m ≤ maxLen) (hbytes : (n + m) * bytes ≤ 140737488355328) (hbase : base ≤ w.heap.size)
    (h : ∀ v' w', w'.ownsRow base e size v' (n + m) (xs ++ news) → w.grownBy w' v.ownBlock → (v'.ownBlock = v.ownBlock ∨ v'.ownBlock = some w.heap.size) → K (a.put o.dst v') w') : o.wp P a w K Q := by
  obtain ⟨v', w', hrun, h2, h3, h4⟩ := run_append_cells (P := P) w base t o.type e i z size bytes ht hi hz hsize hby hzs hsz v n xs hown A m c news hA hl hn h1 h63 hbytes hbase
  unfold Oper.wp execOp
  simp only [ho, resolve, invoke, builtin, Sem.run_bind, Sem.run_pure, Result.andThen_ok, List.map_toArray, List.map_cons, List.map_nil, hs, hx, hrun]
  exact h v' w' h2 h3 h4

theorem wpList_append_cells (w : World) {ops : Array Oper} {rest : List Oper} {o : Oper} {a : Act} {Q : Exit → Act → World → Prop} (hw : Region.wanted o (yielded ops a.tmps) = true) (s x : Operand) (t : TypeId)
    (ho : o.op = .call { callee := .builtin .append, args := #[s, x], argTypes := #[t, t] })
    (base : Nat) (e : TypeId) (i : TypeInfo) (z : Value) (size bytes : Nat) (ht : P.underlying t = some (.slice e)) (hi : P.info? e = some i) (hz : i.zero = some z)
    (hsize : i.size = size) (hby : i.bytes = bytes) (hzs : z.cells.size = size) (hsz : 0 < size)
    (v : Value) (n : Nat) (xs : List Value) (hs : a.eval s = v) (hown : w.ownsRow base e size v n xs)
    (A : Option Addr) (m c : Nat) (news : List Value) (hx : a.eval x = .slice A m c) (hA : A = none → c = 0) (hl : news.length = m * size) (hn : CellsAt w A news) (h1 : ∀ u ∈ news, u.oneCell' = true)
    (h63 : n + m ≤ maxLen) (hbytes : (n + m) * bytes ≤ 140737488355328) (hbase : base ≤ w.heap.size)
    (h : ∀ v' w', w'.ownsRow base e size v' (n + m) (xs ++ news) → w.grownBy w' v.ownBlock → (v'.ownBlock = v.ownBlock ∨ v'.ownBlock = some w.heap.size) → wpList P ops Q rest (a.put o.dst v') w') : wpList P ops Q (o :: rest) a w :=
  wpList_step fun K hK => by
    rw [if_pos hw]
    exact wp_append_cells w s x t ho base e i z size bytes ht hi hz hsize hby hzs hsz v n xs hs hown A m c news hx hA hl hn h1 h63 hbytes hbase fun v' w' h2 h3 h4 => hK _ _ (h v' w' h2 h3 h4)

theorem step_append_cells (w : World) {ops : Array Oper} {o : Oper} {a : Act} {K : Act → World → Prop} {Q : Exit → Act → World → Prop} {E : Prop} (hw : Region.wanted o (yielded ops a.tmps) = true) (s x : Operand) (t : TypeId)
    (ho : o.op = .call { callee := .builtin .append, args := #[s, x], argTypes := #[t, t] })
    (base : Nat) (e : TypeId) (i : TypeInfo) (z : Value) (size bytes : Nat) (ht : P.underlying t = some (.slice e)) (hi : P.info? e = some i) (hz : i.zero = some z)
    (hsize : i.size = size) (hby : i.bytes = bytes) (hzs : z.cells.size = size) (hsz : 0 < size)
    (v : Value) (n : Nat) (xs : List Value) (hs : a.eval s = v) (hown : w.ownsRow base e size v n xs)
    (A : Option Addr) (m c : Nat) (news : List Value) (hx : a.eval x = .slice A m c) (hA : A = none → c = 0) (hl : news.length = m * size) (hn : CellsAt w A news) (h1 : ∀ u ∈ news, u.oneCell' = true)
    (h63 : n + m ≤ maxLen) (hbytes : (n + m) * bytes ≤ 140737488355328) (hbase : base ≤ w.heap.size)
    (h : ∀ v' w', w'.ownsRow base e size v' (n + m) (xs ++ news) → w.grownBy w' v.ownBlock → (v'.ownBlock = v.ownBlock ∨ v'.ownBlock = some w.heap.size) → K (a.put o.dst v') w') : if Region.wanted o (yielded ops a.tmps) = true then Oper.wp P o a w K Q else E := by
  rw [if_pos hw]
  exact wp_append_cells w s x t ho base e i z size bytes ht hi hz hsize hby hzs hsz v n xs hs hown A m c news hx hA hl hn h1 h63 hbytes hbase h
end
end Go.Proofs.Ytmgpofdmfmeljaa

/- Worlds that turn in some blocks alone; rows of a call's own that stay. No program is named here. -/
namespace Go.Proofs.Ytmgpofdmfmeljaa
open Go.RowKit

/-- everything that w has is as it was, but for the blocks in S -/
structure Turn (S : Nat → Prop) (w w' : World) : Prop where
  os : w'.os = w.os
  tape : w'.tape = w.tape
  output : w'.output = w.output
  size : w.heap.size ≤ w'.heap.size
  block : ∀ b, b < w.heap.size → ¬ S b → w'.heap[b]? = w.heap[b]?
section
variable {S : Nat → Prop}
theorem Turn.refl (w : World) : Turn S w w := ⟨rfl, rfl, rfl, Nat.le_refl _, fun _ _ _ => rfl⟩
theorem Turn.of_ext {w w' : World} (h : Ext w w') : Turn S w w' :=
  ⟨h.below.os, h.below.tape, h.below.output, h.below.size, fun b hb _ => h.below.block b hb⟩
theorem Turn.trans {a b c : World} (h : Turn S a b) (h' : Turn S b c) : Turn S a c :=
  ⟨h'.os.trans h.os, h'.tape.trans h.tape, h'.output.trans h.output, Nat.le_trans h.size h'.size, fun k hk hS => (h'.block k (Nat.lt_of_lt_of_le hk h.size) hS).trans (h.block k hk hS)⟩
theorem Turn.mono {S' : Nat → Prop} {a b : World} (h : Turn S a b) (hs : ∀ k, k < a.heap.size → S k → S' k) : Turn S' a b :=
  ⟨h.os, h.tape, h.output, h.size, fun k hk hS => h.block k hk fun hk' => hS (hs k hk hk')⟩
/-- what is written may lie beyond what the first world had -/
theorem Turn.andThen {S' S'' : Nat → Prop} {a b c : World} (h : Turn S a b) (h' : Turn S' b c) (h1 : ∀ k, k < a.heap.size → S k → S'' k) (h2 : ∀ k, k < a.heap.size → S' k → S'' k) : Turn S'' a c :=
  ⟨h'.os.trans h.os, h'.tape.trans h.tape, h'.output.trans h.output, Nat.le_trans h.size h'.size, fun k hk hS =>
    (h'.block k (Nat.lt_of_lt_of_le hk h.size) fun hk' => hS (h2 k hk hk')).trans (h.block k hk fun hk' => hS (h1 k hk hk'))⟩
theorem Turn.grown {a b : World} {row : Option Nat} (h : a.grownBy b row) (hs : ∀ g, row = some g → g < a.heap.size → S g) : Turn S a b :=
  ⟨h.os, h.tape, h.output, h.size, fun k hk hS => h.block k hk fun he => hS (hs k he.symm hk)⟩
theorem Turn.setCell (w : World) {p : Addr} (hp : S p.block) (u : Value) : Turn S w (w.setCell p u) :=
  ⟨rfl, rfl, rfl, by simp [World.setCell], fun k _ hS => heap_setCell_other w p k u fun he => hS (he ▸ hp)⟩
theorem Turn.putBlock (w : World) {b : Nat} (hp : S b) (o : Obj) : Turn S w { w with heap := w.heap.setIfInBounds b o } :=
  ⟨rfl, rfl, rfl, by simp, fun k _ hS => by
    have hne : b ≠ k := fun he => hS (he ▸ hp)
    show (w.heap.setIfInBounds b o)[k]? = _
    rw [Array.getElem?_setIfInBounds_ne hne]⟩
/-- what lies below a block count that no block of S reaches is as it was -/
theorem Turn.below {a b : World} (h : Turn S a b) {n : Nat} (hn : n ≤ a.heap.size) (hs : ∀ k, S k → n ≤ k) : Below n a b :=
  ⟨h.os, h.tape, h.output, h.size, fun k hk => h.block k (Nat.lt_of_lt_of_le hk hn) fun hS => Nat.lt_irrefl _ (Nat.lt_of_lt_of_le hk (hs k hS))⟩
theorem Turn.of_below {a b : World} {n : Nat} (h : Below n a b) (hsz : a.heap.size ≤ b.heap.size) (hs : ∀ k, n ≤ k → k < a.heap.size → S k) : Turn S a b :=
  ⟨h.os, h.tape, h.output, hsz, fun k hk hS => h.block k (Nat.lt_of_not_le fun hle => hS (hs k hle hk))⟩
end
theorem lt_of_heap {w : World} {b : Nat} {o : Obj} (h : w.heap[b]? = some o) : b < w.heap.size := by
  rcases Nat.lt_or_ge b w.heap.size with hlt | hge
  · exact hlt
  · rw [Array.getElem?_eq_none hge] at h
    cases h
/-- a store of what lies there turns nothing -/
theorem setCell_id (w : World) (b i : Nat) (cs : Array Value) (t : TypeId) (fr : Nat × Nat) (v : Value) (h : w.heap[b]? = some (.cells cs t fr)) (hv : cs[i]? = some v) : w.setCell ⟨b, i, none⟩ v = w := by
  have hb := lt_of_heap h
  obtain ⟨heap, a2, a3, a4, a5⟩ := w
  simp only [World.setCell]
  congr 1
  apply Array.ext_getElem?
  intro j
  rw [Array.getElem?_modify]
  split
  · rename_i he
    subst he
    simp only at h
    rw [h]
    have hs : cs.setIfInBounds i v = cs := by
      apply Array.ext_getElem?
      intro k
      rw [Array.getElem?_setIfInBounds]
      split
      · rename_i hk
        subst hk
        rw [hv]
        simp [(Array.getElem?_eq_some_iff.1 hv).1]
      · rfl
    simp [hs]
  · rfl
theorem own_ext {w w' : World} {base : Nat} {e : TypeId} {size : Nat} {v : Value} {n : Nat} {xs : List Value} (h : w.ownsRow base e size v n xs) (x : Ext w w') : w'.ownsRow base e size v n xs :=
  own_keep h fun g hg => x.below.block g (own_old h g hg)
theorem own_obj {w : World} {base : Nat} {e : TypeId} {size : Nat} {v : Value} {n : Nat} {xs : List Value} (h : w.ownsRow base e size v n xs) : ∀ g, v.ownBlock = some g → ∃ cur, w.heap[g]? = some (.cells cur e) := by
  intro g hg
  rcases h.2 with ⟨rfl, _⟩ | ⟨g', cap, cur, rfl, hb, hh, _⟩
  · cases hg
  · have : g' = g := by simpa [Value.ownBlock] using hg
    subst this
    exact ⟨cur, hh⟩
end Go.Proofs.Ytmgpofdmfmeljaa

/- A range over a function: an iterator that may write memory of its own; what the caller had stays the caller's. No program is named here. -/
namespace Go.Proofs.Ytmgpofdmfmeljaa
open Go.RowKit

/-- An iterator's contract: gf, called with a yield behind lb in w1, hands out xs one by one till a round says no. J j: what the caller knows behind j rounds, Jx j: .. behind a round, the j-th, that said no.
    Both speak of what lies below w1's size. A round turns the blocks of S that w1 had, and new ones. -/
def IterB {α : Type} (P : Program) (gf : FuncId) (lb : Array Value) (encs : α → Array Value) (xs : List α) (S : Nat → Prop) (w1 : World) : Prop :=
  ∀ (l : Nat) (J Jx : Nat → World → Prop),
    (∀ j W W', Below w1.heap.size W W' → J j W → J j W') → (∀ j W W', Below w1.heap.size W W' → Jx j W → Jx j W') →
    (∀ j x W, xs[j]? = some x → w1.heap.size ≤ W.heap.size → J j W → YieldAt Fence.wide 0 P l (encs x) W fun e W' =>
      (e = .returned (.bool true) ∧ J (j + 1) W' ∧ Turn (fun b => S b ∧ b < w1.heap.size) W W') ∨ (e = .returned (.bool false) ∧ Jx (j + 1) W' ∧ Turn (fun b => S b ∧ b < w1.heap.size) W W')) →
    J 0 w1 →
    Calls P gf (#[.func (.yield l) #[] #[]] ++ lb) w1 fun e W' => (∃ v, e = .returned v) ∧ w1.heap.size ≤ W'.heap.size ∧ (J xs.length W' ∨ ∃ j, j ≤ xs.length ∧ Jx j W')

/-- what a round's body comes to: it turns blocks of the caller's in S, and what the round has made (from N on) -/
def bodyB (S : Nat → Prop) (B N : Nat) (W : World) (I : World → Prop) (Ix : Code → World → Prop) : Exit → Act → World → Prop
  | .normal, _, W' => Turn (fun b => (S b ∧ b < B) ∨ N ≤ b) W W' ∧ I W'
  | .ret, _, W' => Turn (fun b => (S b ∧ b < B) ∨ N ≤ b) W W' ∧ Ix .ret W'
  | .exit id, _, W' => Turn (fun b => (S b ∧ b < B) ∨ N ≤ b) W W' ∧ Ix (.exit id) W'
  | .goto t, _, W' => Turn (fun b => (S b ∧ b < B) ∨ N ≤ b) W W' ∧ Ix (.goto t) W'
  | .panic _, _, _ => False
  | .outgrown, _, _ => False

variable {P : Program}
theorem putObj_turn {S : Nat → Prop} (W : World) {l : Nat} (o : Obj) (h : S l) : Turn S W (W.putObj l o) := Turn.putBlock W h o

theorem wp_range {α : Type} {g : Operand} {ps : Array Tmp} {assign body : Code} {Q : Exit → Act → World → Prop} {a : Act} {w : World} {gf : Nat} {lb : Array Value}
    (hg : a.eval g = .func (.func gf) #[] lb) (eg : ∀ args w, (callFunc gf args).run P w = .ok (.enter gf args) w)
    {encs : α → Array Value} (hps : ∀ x, (encs x).size = ps.size) {xs : List α} {S : Nat → Prop} (hlo : ∀ b, w.heap.size ≤ b → S b)
    (hseq : ∀ w1, Ext w w1 → w1.heap.size = w.heap.size + 2 → IterB P gf lb encs xs S w1)
    (I : Nat → World → Prop) (Ix : Code → Nat → World → Prop)
    (hI : ∀ j W W', Below w.heap.size W W' → w.heap.size ≤ W.heap.size → I j W → I j W') (hIx : ∀ c j W W', Below w.heap.size W W' → w.heap.size ≤ W.heap.size → Ix c j W → Ix c j W') (h0 : I 0 w)
    (hround : ∀ (l j : Nat) (x : α) (W : World), xs[j]? = some x → I j W → w.heap.size ≤ W.heap.size →
      assign.wpIn (Fence.wide.inRound l) 0 P (Exit.then (fun a₁ W₁ => Ext W W₁ ∧ ∀ W₂, Turn (fun b => w.heap.size ≤ b ∧ b < W.heap.size) W₁ W₂ → I j W₂ → W.heap.size ≤ W₂.heap.size →
          body.wpIn (Fence.wide.inRound l) 0 P (bodyB S w.heap.size W.heap.size W₂ (I (j + 1)) (fun c => Ix c (j + 1))) a₁ W₂) (fun _ _ _ => False))
        { tmps := (ps.zip (encs x)).foldl (fun t (p, v) => t.setIfInBounds p v) a.tmps, defers := [] } W)
    (hdone : ∀ (D : Nat) (W : World), I xs.length W → w.heap.size ≤ D → w.heap.size ≤ W.heap.size → W.heap[D]? = some (.deferred (some [])) → Q .normal { a with defers := { target := .collected D, args := #[] } :: a.defers } W)
    (hstop : ∀ (D : Nat) (c : Code) (j : Nat) (W : World), j ≤ xs.length → Ix c j W → w.heap.size ≤ D → w.heap.size ≤ W.heap.size → W.heap[D]? = some (.deferred (some [])) → c.wp P Q { a with defers := { target := .collected D, args := #[] } :: a.defers } W) :
    (Code.rangeFunc g ps assign body).wp P Q a w := by
  refine (wpIn_wide (n := 1)).1 (wpIn_rangeFunc ?_)
  intro fn hfn
  obtain ⟨rec, hrec⟩ : ∃ rec : LoopState → Option Code → Loop, rec = fun st pe => { state := st, pending := pe, fn, tmps := a.tmps, params := ps, assign, body, defers := w.heap.size } := ⟨_, rfl⟩
  obtain ⟨W1, hW1⟩ : ∃ W1, (w.alloc (.deferred (some []))).alloc (.loop (rec .ready none)) = W1 := ⟨_, rfl⟩
  have hL1 : W1.heap[w.heap.size + 1]? = some (.loop (rec .ready none)) := by
    rw [← hW1]; have := World.alloc_heap_new (w.alloc (.deferred (some []))) (.loop (rec .ready none)); rwa [World.size_alloc] at this
  have hK1 : W1.heap[w.heap.size]? = some (.deferred (some [])) := by
    rw [← hW1]; exact (Below.heap_alloc _ _ _ (by simp)).trans (World.alloc_heap_new w _)
  have hE1 : Ext w W1 := by rw [← hW1]; exact ((Ext.refl w).alloc _).alloc _
  have hs1 : W1.heap.size = w.heap.size + 2 := by rw [← hW1]; simp
  have hI1 : I 0 W1 := hI _ _ _ hE1.below (Nat.le_refl _) h0
  have hB : ∀ {A B : World}, Below W1.heap.size A B → Below w.heap.size A B := fun h => h.mono (by omega)
  refine ⟨w.heap.size + 1, [{ target := .collected w.heap.size, args := #[] }], W1, { target := .fn (.func gf) lb, args := #[.func (.yield (w.heap.size + 1)) #[] #[]] }, W1, gf,
    #[.func (.yield (w.heap.size + 1)) #[] #[]] ++ lb, W1, ?_, ?_, ?_, ?_, (fun h => by cases h), ?_⟩
  · rw [← hW1, hrec]; exact run_enterLoop_outer _ _ _ _ _
  · simp only [resolve, hg]
    simp [go_sem]
  · intro f' hf'; trivial
  · simp [invoke, go_sem, eg]
  · refine callsIn_wide.2 ((hseq W1 hE1 hs1 (w.heap.size + 1)
      (fun j W => I j W ∧ W.heap[w.heap.size + 1]? = some (.loop (rec .ready none)) ∧ W.heap[w.heap.size]? = some (.deferred (some [])))
      (fun j W => ∃ c, Ix c j W ∧ W.heap[w.heap.size + 1]? = some (.loop (rec .done (some c))) ∧ W.heap[w.heap.size]? = some (.deferred (some [])))
      ?_ ?_ ?_ ⟨hI1, hL1, hK1⟩).mono ?_)
    · rintro j A B hb ⟨h1, h2, h3⟩
      exact ⟨hI _ _ _ (hB hb) (by have := lt_of_heap h3; omega) h1, (hb.block _ (by omega)).trans h2, (hb.block _ (by omega)).trans h3⟩
    · rintro j A B hb ⟨c, h1, h2, h3⟩
      exact ⟨c, hIx _ _ _ _ (hB hb) (by have := lt_of_heap h3; omega) h1, (hb.block _ (by omega)).trans h2, (hb.block _ (by omega)).trans h3⟩
    · rintro j x W hx hsz ⟨hi, hl, hk⟩
      have hlt : w.heap.size + 1 < W.heap.size := lt_of_heap hl
      have hy := run_yield (P := P) (args := encs x) hl (by rw [hrec]; exact hps x)
      rw [hrec] at hy
      refine ⟨fn, _, assign, body, hy, roundIn_of_wpIn hfn (wpIn_mono (hround _ j x W hx hi (by omega)) ?_)⟩
      rintro e a₁ W₂ hp
      cases e with
      | normal =>
        obtain ⟨hE2, hbody⟩ := hp
        have hl2 : W₂.heap[w.heap.size + 1]? = some (.loop (rec .ready none)) := (hE2.below.block _ hlt).trans hl
        have hk2 : W₂.heap[w.heap.size]? = some (.deferred (some [])) := (hE2.below.block _ (by omega)).trans hk
        have hlt2 := lt_of_heap hl2
        refine ⟨_, run_beginRound hl2 (by rw [hrec]), ?_⟩
        have hl3 : (W₂.putObj (w.heap.size + 1) (.loop { rec .ready none with state := .busy })).heap[w.heap.size + 1]? = some (.loop { rec .ready none with state := .busy }) := World.putObj_heap_same hlt2
        have hk3 : (W₂.putObj (w.heap.size + 1) (.loop { rec .ready none with state := .busy })).heap[w.heap.size]? = some (.deferred (some [])) := (World.putObj_heap_other (by omega)).trans hk2
        have hT3 : Turn (fun b => w.heap.size ≤ b ∧ b < W.heap.size) W₂ (W₂.putObj (w.heap.size + 1) (.loop { rec .ready none with state := .busy })) := putObj_turn _ _ ⟨by omega, hlt⟩
        have hI3 : I j (W₂.putObj (w.heap.size + 1) (.loop { rec .ready none with state := .busy })) :=
          hI _ _ _ (hT3.below (by omega) fun k hk => hk.1) (by omega) (hI _ _ _ (hE2.below.mono (by omega)) (by omega) hi)
        have hsz3 : W.heap.size ≤ (W₂.putObj (w.heap.size + 1) (.loop { rec .ready none with state := .busy })).heap.size := by
          have := hE2.size
          simp
          exact this
        refine wpIn_mono (hbody _ hT3 hI3 hsz3) ?_
        have fin : ∀ (jump : Option Code) (W3 : World), Turn (fun b => (S b ∧ b < w.heap.size) ∨ W.heap.size ≤ b) (W₂.putObj (w.heap.size + 1) (.loop { rec .ready none with state := .busy })) W3 →
            (Instr.endRound (w.heap.size + 1) jump).run P W3 = .ok (.bool jump.isNone) (W3.putObj (w.heap.size + 1) (.loop (rec (if jump.isNone then .ready else .done) jump))) ∧
            (W3.putObj (w.heap.size + 1) (.loop (rec (if jump.isNone then .ready else .done) jump))).heap[w.heap.size + 1]? = some (.loop (rec (if jump.isNone then .ready else .done) jump)) ∧
            (W3.putObj (w.heap.size + 1) (.loop (rec (if jump.isNone then .ready else .done) jump))).heap[w.heap.size]? = some (.deferred (some [])) ∧
            Below w.heap.size W3 (W3.putObj (w.heap.size + 1) (.loop (rec (if jump.isNone then .ready else .done) jump))) ∧ w.heap.size ≤ W3.heap.size ∧
            Turn (fun b => S b ∧ b < W1.heap.size) W (W3.putObj (w.heap.size + 1) (.loop (rec (if jump.isNone then .ready else .done) jump))) := fun jump W3 hk4 => by
          have hl4 := (hk4.block _ (lt_of_heap hl3) (by omega)).trans hl3
          have hr := run_endRound (P := P) jump hl4
          have hlt4 := lt_of_heap hl4
          have hr2 : (Instr.endRound (w.heap.size + 1) jump).run P W3 = .ok (.bool jump.isNone) (W3.putObj (w.heap.size + 1) (.loop (rec (if jump.isNone then .ready else .done) jump))) := by
            rw [hrec] at hr ⊢
            exact hr
          refine ⟨hr2, World.putObj_heap_same hlt4, (World.putObj_heap_other (by omega)).trans ((hk4.block _ (lt_of_heap hk3) (by omega)).trans hk3), (putObj_turn (S := fun b => w.heap.size ≤ b) _ _ (by omega)).below (by omega) (fun k hk => hk), by omega, ?_⟩
          have t1 : Turn (fun b => S b ∧ b < W1.heap.size) W W₂ := Turn.of_ext hE2
          have t2 : Turn (fun b => S b ∧ b < W1.heap.size) W (W₂.putObj (w.heap.size + 1) (.loop { rec .ready none with state := .busy })) := t1.trans (putObj_turn _ _ ⟨hlo _ (by omega), by omega⟩)
          exact (t2.andThen (S'' := fun b => S b ∧ b < W1.heap.size) hk4 (fun k _ hS => hS) (fun k hk hS => hS.elim (fun hS => ⟨hS.1, by omega⟩) (fun hS => absurd hk (Nat.not_lt.2 hS)))).trans (putObj_turn _ _ ⟨hlo _ (by omega), by omega⟩)
        rintro e a3 W3 hp
        cases e with
        | normal =>
          obtain ⟨ht, hi3⟩ := hp
          obtain ⟨hr, hl4, hk4, hb4, hs4, ht4⟩ := fin none W3 ht
          exact ⟨_, _, hr, .inl ⟨rfl, ⟨hI _ _ _ hb4 hs4 hi3, hl4, hk4⟩, ht4⟩⟩
        | ret =>
          obtain ⟨ht, hi3⟩ := hp
          obtain ⟨hr, hl4, hk4, hb4, hs4, ht4⟩ := fin (some (.ret)) W3 ht
          exact ⟨_, _, hr, .inr ⟨rfl, ⟨.ret, hIx _ _ _ _ hb4 hs4 hi3, hl4, hk4⟩, ht4⟩⟩
        | exit id =>
          obtain ⟨ht, hi3⟩ := hp
          obtain ⟨hr, hl4, hk4, hb4, hs4, ht4⟩ := fin (some (.exit id)) W3 ht
          exact ⟨_, _, hr, .inr ⟨rfl, ⟨.exit id, hIx _ _ _ _ hb4 hs4 hi3, hl4, hk4⟩, ht4⟩⟩
        | goto t =>
          obtain ⟨ht, hi3⟩ := hp
          obtain ⟨hr, hl4, hk4, hb4, hs4, ht4⟩ := fin (some (.goto t)) W3 ht
          exact ⟨_, _, hr, .inr ⟨rfl, ⟨.goto t, hIx _ _ _ _ hb4 hs4 hi3, hl4, hk4⟩, ht4⟩⟩
        | panic ch => exact hp.elim
        | outgrown => exact hp.elim
      | exit id => exact hp.elim
      | goto l => exact hp.elim
      | ret => exact hp.elim
      | panic ch => exact hp.elim
      | outgrown => exact hp.elim
    · rintro e W2 ⟨⟨v, rfl⟩, hsz, (⟨hi, hl, hk⟩ | ⟨j, hj, c, hi, hl, hk⟩)⟩
      · have hlt := lt_of_heap hl
        have hend := run_endLoop (P := P) hl (by rw [hrec]; simp)
        have hp : (rec .ready none).pending = none := by rw [hrec]
        rw [hp] at hend
        exact ⟨none, _, hend, hdone _ _ (hI _ _ _ ((putObj_turn (S := fun b => w.heap.size ≤ b) _ _ (by omega)).below (by omega) (fun k hk => hk)) (by omega) hi) (Nat.le_refl _) (by simp; omega) ((World.putObj_heap_other (by omega)).trans hk)⟩
      · have hlt := lt_of_heap hl
        have hend := run_endLoop (P := P) hl (by rw [hrec]; simp)
        have hp : (rec .done (some c)).pending = some c := by rw [hrec]
        rw [hp] at hend
        exact ⟨some c, _, hend, wpIn_wide.2 (hstop _ c j _ hj (hIx _ _ _ _ ((putObj_turn (S := fun b => w.heap.size ≤ b) _ _ (by omega)).below (by omega) (fun k hk => hk)) (by omega) hi) (Nat.le_refl _) (by simp; omega) ((World.putObj_heap_other (by omega)).trans hk))⟩

/-- a function that ranges over a function: its contract from its body -/
theorem calls_of_marks {f : FuncId} {fn : Func} {c : Code} {args : Array Value} {w : World} {R : Ending → World → Prop} (hf : P.funcs[f]? = some fn) (hb : fn.body = some c)
    (h : c.wp P (bodyPostM Fence.wide 0 P fn R) { tmps := args ++ Array.replicate (fn.ntmps - args.size) undef, defers := [] } w) : Calls P f args w R :=
  callsIn_wide.1 (callsIn_of_wp_marks hf hb trivial (wpIn_wide.2 h) rfl)
/-- it returns, no range behind it -/
theorem marks_ret {fn : Func} {R : Ending → World → Prop} {a : Act} {w : World} {v : Value} (hd : a.defers = []) (hr : (results fn a.tmps).run P w = .ok v w) (hR : R (.returned v) w) : bodyPostM Fence.wide 0 P fn R .ret a w := by
  show LeavesInM Fence.wide 0 P fn a.tmps R a.defers .returning w
  rw [hd]
  exact ⟨v, hr, hR⟩
/-- it returns, behind one range -/
theorem marks_ret1 {fn : Func} {R : Ending → World → Prop} {a : Act} {w : World} {D : Nat} {v : Value} (hd : a.defers = [{ target := .collected D, args := #[] }]) (hk : w.heap[D]? = some (.deferred (some [])))
    (hr : (results fn a.tmps).run P (w.putObj D (.deferred none)) = .ok v (w.putObj D (.deferred none))) (hR : R (.returned v) (w.putObj D (.deferred none))) : bodyPostM Fence.wide 0 P fn R .ret a w := by
  show LeavesInM Fence.wide 0 P fn a.tmps R a.defers .returning w
  rw [hd]
  exact ⟨by simp, .inl ⟨_, _, rfl, run_takeDeferred hk, v, hr, hR⟩⟩

section
variable {C : World → Prop} {md : Region.Mode} {ops : Array Oper} {F : Fence} {n : Nat}
theorem wpIn_of_quiet' {o : Oper} {a : Act} {K : Act → Prop} {K' : Act → World → Prop} {Q' : Exit → Act → World → Prop} {w : World} (hnd : ∀ c, o.op ≠ .defer c) (hw : C w) (h : ∀ a w', C w' → K a → K' a w')
    (ha : o.askedIn F P a C) (hh : o.quietIn F n P a C K) : o.wpIn F n P a w K' Q' := by
  obtain ⟨v, h1, h2⟩ := hh
  have h3 := h1 w hw
  unfold Oper.quietAtIn at h3
  unfold Oper.wpIn
  refine ⟨ha w hw, ?_⟩
  rw [Oper.semAt_eq _ _ _ hnd]
  generalize (execOp a.eval o).run P w = r at *
  cases r with
  | ok x w' =>
    cases x <;> simp only [Oper.quietUponIn] at h3 <;> simp only [Oper.uponIn]
    case value u =>
      obtain ⟨e1, e2⟩ := h3
      rw [e1, e2]
      exact h _ _ hw h2
    case skip =>
      obtain ⟨e1, e2⟩ := h3
      rw [e1, ← e2]
      exact h _ _ hw h2
    case enter f args =>
      obtain ⟨e1, hd, hc⟩ := h3
      rw [e1]
      exact ⟨hd, hc.mono fun e w'' ⟨he, hw''⟩ => by subst he; exact h _ _ hw'' h2⟩
  | halt x w' => simp only [Oper.quietUponIn] at h3
theorem wpOpIn_of_qOpIn' {i : Nat} {a : Act} {K : Act → Prop} {K' : Act → World → Prop} {Q' : Exit → Act → World → Prop} {w : World} (hnd : ∀ (i : Nat) (o : Oper), ops[i]? = some o → ∀ c : Call, o.op ≠ Op.defer c) (hC : C w) (h : ∀ a w', C w' → K a → K' a w')
    (hh : qOpIn F n P ops C i K a) : wpOpIn F n P ops Q' i K' a w := by
  unfold qOpIn at hh
  unfold wpOpIn
  split
  · rename_i ho; simp only [ho] at hh; exact h _ _ hC hh
  · rename_i o ho
    simp only [ho] at hh
    obtain ⟨ha, hh⟩ := hh
    split
    · rename_i hw; simp only [hw, if_true] at hh; exact wpIn_of_quiet' (hnd i o ho) hC h ha hh
    · rename_i hw; simp only [hw] at hh; exact ⟨ha w hC, h _ _ hC hh⟩
theorem wpAnyIn_of_quiet' {Q : Act → Prop} {Q' : Exit → Act → World → Prop} (hnd : ∀ (i : Nat) (o : Oper), ops[i]? = some o → ∀ c : Call, o.op ≠ Op.defer c) (hQ : ∀ a w, C w → Q a → Q' .normal a w) : ∀ (fuel : Nat) (listed : Array Bool) (a : Act) (w : World), C w →
    wpAnyQIn F n P md ops C Q fuel listed a → wpAnyIn F n P md ops Q' fuel listed a w
  | 0, _, _, _, hw, h => ⟨h.1, hQ _ _ hw h.2⟩
  | fuel + 1, _, _, _, hw, h => ⟨fun h0 => hQ _ _ hw (h.1 h0), fun i hi => wpOpIn_of_qOpIn' hnd hw (fun a' w' hw' => wpAnyIn_of_quiet' hnd hQ fuel _ a' w' hw') (h.2 i hi)⟩
theorem quietIn_of_plain {o : Oper} {a : Act} {K : Act → Prop} (hd : F.depth = none) (_hF : ∀ f, F.fn f) (hCI : ∀ f args w R, Calls P f args w R → CallsIn F (n - 1) P f args w R) (h : o.quiet P a C K) : o.quietIn F n P a C K := by
  obtain ⟨v, h1, h2⟩ := h
  refine ⟨v, fun w hw => ?_, h2⟩
  have h3 := h1 w hw
  unfold Oper.quietAt at h3
  unfold Oper.quietAtIn
  generalize (execOp a.eval o).run P w = r at *
  cases r with
  | ok x w' =>
    cases x <;> simp only [Oper.quietUpon] at h3 <;> simp only [Oper.quietUponIn]
    case value u => exact h3
    case skip => exact h3
    case enter f args => exact ⟨h3.1, (fun e => by rw [hd] at e; cases e), hCI _ _ _ _ h3.2⟩
  | halt x w' => simp only [Oper.quietUpon] at h3
theorem wpQuietIn_of_plain {Q : Act → Prop} (hd : F.depth = none) (hF : ∀ f, F.fn f) (hCI : ∀ f args w R, Calls P f args w R → CallsIn F (n - 1) P f args w R) : ∀ (l : List Oper) (a : Act), wpQuiet P ops C Q l a → wpQuietIn F n P ops C Q l a
  | [], _, h => h
  | o :: l, a, h => by
    refine ⟨fun _ _ f _ => hF f, ?_⟩
    unfold wpQuiet at h
    split
    · rename_i hw
      rw [if_pos hw] at h
      obtain ⟨v, h1, h2⟩ := h
      exact quietIn_of_plain hd hF hCI ⟨v, h1, wpQuietIn_of_plain hd hF hCI l _ h2⟩
    · rename_i hw
      rw [if_neg hw] at h
      exact wpQuietIn_of_plain hd hF hCI l _ h
end
/-- no operation of the list is a defer statement -/
def noDefer (l : List Oper) : Bool := l.all fun o => match o.op with | .defer _ => false | _ => true
/-- A region that draws its order, in a round: as 'wp_region_ext'. -/
theorem wpIn_region_ext {id l0 n : Nat} {Q : Exit → Act → World → Prop} {a : Act} {w : World} {l : List Oper} (hnd : noDefer l = true) (hm : P.follows .mixedOrders = true) (hB : Region.lexB .any l.toArray = true)
    (h : wpQuiet P l.toArray (fun w' => ∃ x : Lay, w' = more w x.os x.k) (fun a' => ∀ w', (∃ x : Lay, w' = more w x.os x.k) → Q .normal a' w') l a) : (Code.region id l.toArray true).wpIn (Fence.wide.inRound l0) n P Q a w := by
  have hnd' : ∀ (i : Nat) (o : Oper), l.toArray[i]? = some o → ∀ c : Call, o.op ≠ Op.defer c := by
    intro i o ho c hc
    have hmem : o ∈ l := by
      rw [List.getElem?_toArray] at ho
      exact List.mem_of_getElem? ho
    have := List.all_eq_true.1 hnd o hmem
    rw [hc] at this
    cases this
  have hB' := hB
  simp only [Region.lexB, Bool.and_eq_true] at hB
  have h' := wpQuietIn_of_plain (F := Fence.wide.inRound l0) (n := n) rfl (fun _ => trivial) (fun _ _ _ _ hc => CallsIn.inRound l0 (callsIn_wide.2 hc)) l a h
  refine wpIn_region_any hm (wpAnyIn_of_quiet' (C := fun w' => ∃ x : Lay, w' = more w x.os x.k) (Q := fun a' => ∀ w', (∃ x : Lay, w' = more w x.os x.k) → Q .normal a' w') hnd' (fun _ w' hw' h => h w' hw') _ _ _ _ ⟨⟨[], w.drawn + 1⟩, by simp [more]⟩ ?_)
  have := wpAnyQIn_lex (F := Fence.wide.inRound l0) (n := n) (C := fun w' => ∃ x : Lay, w' = more w x.os x.k) (md := .any) hB.1 l 0 (Array.replicate l.toArray.size false) a (by simp) (by simpa using hB.2) h'
  simpa using this
end Go.Proofs.Ytmgpofdmfmeljaa

/- A region that draws its order: operations that only read are quiet in a class of worlds; calls (and what writes) come up one at a time, between them, in one order: one walk serves every order. No program is named here. -/
namespace Go.Proofs.Ytmgpofdmfmeljaa
open Go.RowKit

section
variable {P : Program} {ops : Array Oper} {md : Region.Mode} {C : World → Prop}

def QN : Exit → Act → World → Prop := fun _ _ _ => False
theorem no_letsOut : ¬ LetsOut QN := fun ⟨_, _, h⟩ => h
theorem wp_monoQ {o : Oper} {a : Act} {w : World} {K K' : Act → World → Prop} {Q Q' : Exit → Act → World → Prop} (h : ∀ a w, K a w → K' a w) (hp : ∀ c a w, Q (.panic c) a w → Q' (.panic c) a w) (hl : LetsOut Q → LetsOut Q')
    (hh : o.wp P a w K Q) : o.wp P a w K' Q' := by
  unfold Oper.wp at *
  generalize (execOp a.eval o).run P w = r at *
  cases r with
  | ok n w' =>
    cases n <;> simp only [Oper.upon] at hh ⊢
    case value u => exact h _ _ hh
    case skip => exact h _ _ hh
    case defer d => exact h _ _ hh
    case enter f args =>
      refine Calls.mono hh fun e w'' he => ?_
      cases e with
      | returned u => exact h _ _ he
      | panicked c => exact hp _ _ _ he
      | outgrown => exact hl he
    case row row args => exact Rows.mono hh fun _ _ he => h _ _ he
  | halt x w' =>
    cases x <;> simp only [Oper.upon] at hh ⊢
    case panic u => exact hp _ _ _ hh
theorem wpOp_of_QN {Q : Exit → Act → World → Prop} {i : Nat} {a : Act} {w : World} {K K' : Act → World → Prop} (h : ∀ a w, K a w → K' a w) (hh : wpOp P ops QN i K a w) : wpOp P ops Q i K' a w := by
  unfold wpOp at *
  split
  · exact h _ _ (by simpa [*] using hh)
  · rename_i o ho
    simp only [ho] at hh
    split
    · rename_i hw
      simp only [hw, if_true] at hh
      rcases hh with hh | ⟨_, hl⟩
      · exact .inl (wp_monoQ h (fun _ _ _ h => h.elim) (fun h => absurd h no_letsOut) hh)
      · exact absurd hl no_letsOut
    · rename_i hw
      simp only [hw] at hh
      exact h _ _ hh

/-- whatever order is picked from here on; the worlds on the way are of the class, till operation s is done -/
def wpAnyC (P : Program) (md : Region.Mode) (ops : Array Oper) (C : World → Prop) (s : Nat) (Q : Act → World → Prop) : Nat → Array Bool → Act → World → Prop
  | 0, listed, a, w => (listed.getD s false = false → C w) ∧ Region.ready md ops listed = [] ∧ Q a w
  | fuel + 1, listed, a, w => (listed.getD s false = false → C w) ∧ (Region.ready md ops listed = [] → Q a w) ∧
    ∀ i ∈ Region.ready md ops listed, wpOp P ops QN i (wpAnyC P md ops C s Q fuel (listed.setIfInBounds i true)) a w
theorem wpAnyC.cls {s : Nat} {Q : Act → World → Prop} {fuel : Nat} {listed : Array Bool} {a : Act} {w : World} (h : wpAnyC P md ops C s Q fuel listed a w) (hs : listed.getD s false = false) : C w := by
  cases fuel with
  | zero => exact h.1 hs
  | succ n => exact h.1 hs
theorem wpAny_of_C {s : Nat} {Q : Exit → Act → World → Prop} : ∀ (fuel : Nat) (listed : Array Bool) (a : Act) (w : World), wpAnyC P md ops C s (fun a w => Q .normal a w) fuel listed a w → wpAny P md ops Q fuel listed a w
  | 0, _, _, _, h => h.2
  | fuel + 1, _, _, _, h => ⟨h.2.1, fun i hi => wpOp_of_QN (fun a' w' hh => wpAny_of_C fuel _ a' w' hh) (h.2.2 i hi)⟩

theorem wpOpC_put {j : Nat} {oi oj : Oper} {v : Value} (hj : ops[j]? = some oj) (hap : oi.apart ops oj = true) (hsi : ∀ cs b, oi.op ≠ .select cs b) (hsj : ∀ cs b, oj.op ≠ .select cs b) {K : Act → World → Prop} {a : Act} {w : World}
    (hy : YieldsIn P ops C oi v a) (h : wpOp P ops QN j K (a.put oi.dst v) w) : wpOp P ops QN j (fun a' w' => YieldsIn P ops C oi v a' ∧ K (a'.put oi.dst v) w') a w := by
  obtain ⟨h1, h2, h3⟩ := Oper.apart_spec hap
  have keep : ∀ (a : Act), YieldsIn P ops C oi v a → ∀ u, YieldsIn P ops C oi v (a.put oj.dst u) := fun a hy u => hy.of_same (execOp_put oi hsi a oj.dst u h3) (wanted_put oi a oj.dst u h3)
  have keepD : ∀ d, YieldsIn P ops C oi v { a with defers := d :: a.defers } := fun d => hy.of_same rfl rfl
  unfold wpOp at *
  simp only [hj] at *
  rw [wanted_put oj a oi.dst v h1] at h
  split
  · rename_i hw
    simp only [hw, if_true] at h
    rcases h with h | ⟨_, hl⟩
    case inr => exact absurd hl no_letsOut
    refine .inl ?_
    unfold Oper.wp at *
    rw [execOp_put oj hsj a oi.dst v h1] at h
    generalize (execOp a.eval oj).run P w = r at *
    cases r with
    | ok n w' =>
      cases n <;> simp only [Oper.upon] at h ⊢
      case value u => exact ⟨keep a hy u, by rw [← Act.put_comm a v u h2]; exact h⟩
      case skip => exact ⟨keep a hy _, by rw [← Act.put_comm a v undef h2]; exact h⟩
      case defer d =>
        refine ⟨keep _ (keepD d) _, ?_⟩
        rw [← Act.put_comm _ v undef h2, ← Act.put_defers]
        exact h
      case enter f args =>
        refine Calls.mono h fun e w'' he => ?_
        cases e with
        | returned u => exact ⟨keep a hy u, by rw [← Act.put_comm a v u h2]; exact he⟩
        | panicked c => exact he
        | outgrown => exact he
      case row row args => exact Rows.mono h fun u w'' he => ⟨keep a hy u, by rw [← Act.put_comm a v u h2]; exact he⟩
    | halt x w' =>
      cases x <;> simp only [Oper.upon] at h ⊢
      case panic u => exact h
  · rename_i hw
    simp only [hw] at h
    exact ⟨keep a hy _, by rw [← Act.put_comm a v undef h2]; exact h⟩
theorem wpOp_of_yieldsIn {i : Nat} {o : Oper} {v : Value} {a : Act} {w : World} {K : Act → World → Prop} (hi : ops[i]? = some o) (hy : YieldsIn P ops C o v a) (hC : C w) (hK : ∀ w', C w' → K (a.put o.dst v) w') : wpOp P ops QN i K a w :=
  wpOp_of_qOp (C := C) (K := fun a' => ∀ w', C w' → K a' w') hC (fun _ w' hw' h => h w' hw') (hy.qOp hi hK)
end

/-- an operation that enters no function -/
def softOp (o : Oper) : Bool := match o.op with
  | .move _ | .assign _ | .nilCheck _ | .pick _ _ _ | .load _ _ | .binOp _ _ _ _ _ | .unOp _ _ _ | .slice _ _ _ _ _ | .fieldAddr _ _ _ | .field _ _ _ | .indexAddr _ _ _ | .index _ _ _ | .extract _ _ | .build _ _ | .convert _ _ _ | .makeFunc _ _ _ => true
  | .call c => match c.callee with
    | .builtin .len | .builtin .cap | .builtin .max | .builtin .min => true
    | _ => false
  | _ => false
theorem bind_value {P : Program} {α : Type} {w w' : World} {n : Next} (s : Sem α) (k : α → Sem Next) (hk : ∀ (a : α) (w1 : World) (n' : Next) (w2 : World), Sem.run P (k a) w1 = .ok n' w2 → ∃ v, n' = .value v) (h : Sem.run P (s >>= k) w = .ok n w') : ∃ v, n = .value v := by
  rw [Sem.run_bind] at h
  cases hs : Sem.run P s w with
  | ok a w1 =>
    rw [hs] at h
    exact hk a w1 n w' h
  | halt x w1 =>
    rw [hs] at h
    cases h
theorem value_only {P : Program} {w w' : World} (s : Sem Value) {n : Next} (h : Sem.run P (do pure (Next.value (← s))) w = .ok n w') : ∃ v, n = .value v := by
  rw [Sem.run_bind] at h
  cases hs : Sem.run P s w with
  | ok v w1 =>
    rw [hs] at h
    simp only [Result.andThen_ok, Sem.run_pure] at h
    cases h
    exact ⟨v, rfl⟩
  | halt x w1 =>
    rw [hs] at h
    cases h
theorem soft_value {P : Program} {o : Oper} (hs : softOp o = true) (ρ : Operand → Value) {w w' : World} {n : Next} (h : (execOp ρ o).run P w = .ok n w') : ∃ v, n = .value v := by
  obtain ⟨dst, op, type, pos, after, guard⟩ := o
  unfold softOp at hs
  cases op <;> simp only [Bool.false_eq_true] at hs <;> simp only [execOp] at h
  case call c =>
    obtain ⟨callee, args, argTypes⟩ := c
    cases callee <;> simp only [Bool.false_eq_true] at hs
    case builtin b =>
      cases b <;> simp only [Bool.false_eq_true] at hs <;> (simp only [resolve, invoke, builtin, Sem.run_bind, Sem.run_pure, Result.andThen_ok] at h; exact value_only _ (by rw [Sem.run_bind]; exact h))
  case pick c a b =>
    rw [Sem.run_bind] at h
    cases hs : Sem.run P (asBool (ρ c)) w with
    | ok v w1 =>
      rw [hs] at h
      simp only [Result.andThen_ok] at h
      cases v <;> simp at h <;> exact ⟨_, h.1.symm⟩
    | halt x w1 =>
      rw [hs] at h
      cases h
  case move x => simp at h; exact ⟨_, h.1.symm⟩
  case assign x => simp at h; exact ⟨_, h.1.symm⟩
  case nilCheck x =>
    split at h
    all_goals first
      | (simp at h; exact ⟨_, h.1.symm⟩)
      | (simp [runtimePanic] at h; done)
      | (split at h <;> first
          | (simp at h; exact ⟨_, h.1.symm⟩)
          | (simp [runtimePanic] at h; done)
          | (refine bind_value _ _ (fun _ _ _ _ h1 => bind_value _ _ (fun _ _ _ _ h2 => ?_) h1) h
             split at h2
             · exact bind_value _ _ (fun _ _ _ _ h3 => by simp at h3; exact ⟨_, h3.1.symm⟩) h2
             · simp at h2; exact ⟨_, h2.1.symm⟩))
  all_goals exact value_only _ h

section
variable {P : Program} {ops : Array Oper} {md : Region.Mode} {C : World → Prop}
theorem soft_at {o : Oper} {v : Value} {a : Act} {w : World} (hs : softOp o = true) (h : o.quietAt P a C w v) : (execOp a.eval o).run P w = .ok (.value v) w := by
  unfold Oper.quietAt at h
  cases hr : (execOp a.eval o).run P w with
  | ok n w' =>
    obtain ⟨u, rfl⟩ := soft_value hs _ hr
    rw [hr] at h
    simp only [Oper.quietUpon] at h
    obtain ⟨rfl, rfl⟩ := h
    rfl
  | halt x w' =>
    rw [hr] at h
    simp only [Oper.quietUpon] at h
theorem wpOp_of_soft {i : Nat} {o : Oper} {v : Value} {a : Act} {w : World} {K : Act → World → Prop} (hi : ops[i]? = some o) (hs : softOp o = true) (hy : YieldsIn P ops C o v a) (hC : C w) (hK : K (a.put o.dst v) w) : wpOp P ops QN i K a w := by
  unfold wpOp
  simp only [hi]
  rcases hy with ⟨hw, hv⟩ | ⟨hw, rfl⟩
  · rw [if_pos hw]
    refine .inl ?_
    unfold Oper.wp
    rw [soft_at hs (hv w hC)]
    exact hK
  · rw [if_neg (by rw [hw]; exact Bool.false_ne_true)]
    exact hK

theorem ready_getD_false' {listed : Array Bool} {j : Nat} (hj : j ∈ Region.ready md ops listed) : j < listed.size ∧ listed.getD j false = false := by
  have h := (mem_ready.1 hj).1
  rcases Nat.lt_or_ge j listed.size with hlt | hge
  · refine ⟨hlt, ?_⟩
    simp [hlt] at h ⊢
    exact h
  · simp [Array.getElem?_eq_none hge] at h
/-- an operation that may come up now may be taken first, if it only reads -/
theorem wpAnyC_first {s i : Nat} {oi : Oper} {v : Value} {Q : Act → World → Prop} (hi : ops[i]? = some oi) (hso : softOp oi = true) (hsel : ∀ (j : Nat) (o : Oper) cs b, ops[j]? = some o → o.op ≠ .select cs b) (his : i ≠ s)
    (hsw : ∀ os, ops[s]? = some os → ∃ e ∈ os.after, Region.binds md e = true ∧ e.on = i) :
    ∀ (fuel : Nat) (listed : Array Bool) (a : Act) (w : World),
      (∀ j oj, ops[j]? = some oj → j ≠ i → listed.getD j true = false → (∀ e ∈ oj.after, Region.binds md e = true → e.on ≠ i) → oi.apart ops oj = true) →
      i ∈ Region.ready md ops listed → YieldsIn P ops C oi v a → listed.getD s false = false → C w →
      wpAnyC P md ops C s Q fuel (listed.setIfInBounds i true) (a.put oi.dst v) w → wpAnyC P md ops C s Q (fuel + 1) listed a w := by
  intro fuel
  induction fuel with
  | zero =>
    intro listed a w _ hr hy hls hC H
    refine ⟨fun _ => hC, fun h => (by rw [h] at hr; cases hr), fun j hj => ?_⟩
    by_cases hji : j = i
    · subst hji
      exact wpOp_of_soft hi hso hy hC H
    · have := ready_mono hj hji
      rw [H.2.1] at this
      cases this
  | succ fuel ih =>
    intro listed a w hfree hr hy hls hC H
    refine ⟨fun _ => hC, fun h => (by rw [h] at hr; cases hr), fun j hj => ?_⟩
    by_cases hji : j = i
    · subst hji
      exact wpOp_of_soft hi hso hy hC H
    · have h1 := H.2.2 j (ready_mono hj hji)
      obtain ⟨hjun, oj, hoj, hall⟩ := mem_ready.1 hj
      have hil : listed.getD i false = false := by
        have h0 := (mem_ready.1 hr).1
        rcases Nat.lt_or_ge i listed.size with h' | h'
        · simp [h'] at h0 ⊢; exact h0
        · simp [Array.getElem?_eq_none h'] at h0
      have hnot : ∀ e ∈ oj.after, Region.binds md e = true → e.on ≠ i := fun e he hb heq => by
        have h1 := hall e he hb
        rw [heq, hil] at h1
        cases h1
      have hjs : j ≠ s := by
        rintro rfl
        obtain ⟨e, he, hb, heq⟩ := hsw oj hoj
        exact hnot e he hb heq
      have h2 := wpOpC_put hoj (hfree j oj hoj hji hjun hnot) (fun cs b => hsel i oi cs b hi) (fun cs b => hsel j oj cs b hoj) hy h1
      have hfree' : ∀ k ok, ops[k]? = some ok → k ≠ i → (listed.setIfInBounds j true).getD k true = false →
          (∀ e ∈ ok.after, Region.binds md e = true → e.on ≠ i) → oi.apart ops ok = true := fun k ok hk hki hun hno => by
        refine hfree k ok hk hki ?_ hno
        by_cases hjk : j = k
        · subst hjk; exact hjun
        · rw [getD_set_ne true hjk] at hun; exact hun
      refine wpOp_mono (fun a' w' h3 => ?_) h2
      have hs1 : (listed.setIfInBounds j true).getD s false = false := by rw [getD_set_ne false hjs]; exact hls
      have hcomm : (listed.setIfInBounds j true).setIfInBounds i true = (listed.setIfInBounds i true).setIfInBounds j true := Array.setIfInBounds_comm _ _ hji
      refine ih (listed.setIfInBounds j true) a' w' hfree' (ready_mono hr (Ne.symm hji)) h3.1 hs1 (h3.2.cls (by rw [← hcomm, getD_set_ne false his]; exact hs1)) ?_
      rw [hcomm]
      exact h3.2

/-- the walk of a schedule: (true, i): operation i only reads; (false, i): operation i is the only one that may come up -/
def wpSched (P : Program) (ops : Array Oper) (C : World → Prop) (s : Nat) (Q : Act → World → Prop) : List (Bool × Nat) → Act → World → Prop
  | [], a, w => Q a w
  | (true, i) :: r, a, w => qOp P ops C i (fun a' => wpSched P ops C s Q r a' w) a
  | (false, i) :: r, a, w => wpOp P ops QN i (fun a' w' => (i ≠ s → C w') ∧ wpSched P ops C s Q r a' w') a w
def schedB (md : Region.Mode) (ops : Array Oper) (s : Nat) : List (Bool × Nat) → Array Bool → Bool
  | [], listed => (Region.ready md ops listed).isEmpty
  | (true, i) :: r, listed => i != s && (Region.ready md ops listed).contains i && Region.free md ops listed i && ((ops[i]?).map softOp).getD false &&
    (match ops[s]? with | none => true | some os => os.after.any fun e => Region.binds md e && e.on == i) && schedB md ops s r (listed.setIfInBounds i true)
  | (false, i) :: r, listed => (Region.ready md ops listed == [i]) && (i != s || r.isEmpty) && schedB md ops s r (listed.setIfInBounds i true)
theorem wpAnyC_sched {s : Nat} {Q : Act → World → Prop} (hs : Region.noSelect ops = true) : ∀ (l : List (Bool × Nat)) (listed : Array Bool) (a : Act) (w : World), schedB md ops s l listed = true → listed.getD s false = false → C w →
    wpSched P ops C s Q l a w → wpAnyC P md ops C s Q l.length listed a w
  | [], listed, a, w, hB, _, hC, h => ⟨fun _ => hC, by simpa [schedB] using hB, h⟩
  | (true, i) :: r, listed, a, w, hB, hls, hC, h => by
    simp only [schedB, Bool.and_eq_true, bne_iff_ne, ne_eq] at hB
    obtain ⟨⟨⟨⟨⟨h1, h2⟩, h3⟩, h4⟩, h5⟩, h6⟩ := hB
    obtain ⟨oi, hoi⟩ : ∃ o, ops[i]? = some o := by
      cases ho : ops[i]? with
      | none => rw [ho] at h4; cases h4
      | some o => exact ⟨o, rfl⟩
    rw [hoi] at h4
    obtain ⟨v, hy, hK⟩ := yieldsIn_of_qOp hoi h
    refine wpAnyC_first hoi (by simpa using h4) (Region.noSelect_spec hs) h1 (fun os ho => ?_) r.length listed a w (Region.free_spec hoi h3) (by simpa using h2) hy hls hC
      (wpAnyC_sched hs r _ _ w h6 (by rw [getD_set_ne false h1]; exact hls) hC hK)
    rw [ho] at h5
    obtain ⟨e, he, hb⟩ := Array.any_eq_true'.1 h5
    simp only [Bool.and_eq_true, beq_iff_eq] at hb
    exact ⟨e, he, hb.1, hb.2⟩
  | (false, i) :: r, listed, a, w, hB, hls, hC, h => by
    simp only [schedB, Bool.and_eq_true, beq_iff_eq, Bool.or_eq_true, bne_iff_ne, ne_eq] at hB
    obtain ⟨⟨h1, h2⟩, h3⟩ := hB
    refine ⟨fun _ => hC, fun h0 => (by rw [h1] at h0; cases h0), fun j hj => ?_⟩
    rw [h1] at hj
    obtain rfl := List.mem_singleton.1 hj
    have hji : j ∈ Region.ready md ops listed := by rw [h1]; exact List.mem_singleton.2 rfl
    refine wpOp_mono (fun a' w' hh => ?_) h
    by_cases hjs : j = s
    · subst hjs
      have hr : r = [] := by simpa using h2
      subst hr
      refine ⟨fun h0 => ?_, by simpa [schedB] using h3, hh.2⟩
      obtain ⟨hlt, _⟩ := ready_getD_false' hji
      simp [hlt] at h0
    · exact wpAnyC_sched hs r _ a' w' h3 (by rw [getD_set_ne false hjs]; exact hls) (hh.1 hjs) hh.2
end

section
variable {P : Program} {C : World → Prop}
theorem wpQuiet_mono' {ops : Array Oper} {Q Q' : Act → Prop} (h : ∀ a, Q a → Q' a) : ∀ (l : List Oper) (a : Act), wpQuiet P ops C Q l a → wpQuiet P ops C Q' l a
  | [], _, hh => h _ hh
  | o :: l, a, hh => by
    unfold wpQuiet at hh ⊢
    split
    · rename_i hw
      rw [if_pos hw] at hh
      exact Oper.quiet_mono (fun a' h' => wpQuiet_mono' h l a' h') hh
    · rename_i hw
      rw [if_neg hw] at hh
      exact wpQuiet_mono' h l _ hh
def nthC : List Oper → Nat → List Oper → List Oper
  | [], _, acc => acc
  | o :: _, 0, acc => o :: acc
  | _ :: l, i + 1, acc => nthC l i acc
theorem nthC_some : ∀ {l : List Oper} {i : Nat} {o : Oper} (acc : List Oper), l[i]? = some o → nthC l i acc = o :: acc
  | [], _, _, _, h => by simp at h
  | o :: _, 0, _, _, h => by simp at h; subst h; rfl
  | _ :: l, i + 1, _, acc, h => nthC_some (l := l) acc (by simpa using h)
def pick (l : List Oper) : List Nat → List Oper
  | [] => []
  | i :: is => nthC l i (pick l is)
theorem pick_nil (l : List Oper) : pick l [] = [] := rfl
/-- behind an operation that writes or calls -/
def segQ (C : World → Prop) (i s : Nat) (next : Act → World → Prop) : Exit → Act → World → Prop
  | .normal, a, w => (i ≠ s → C w) ∧ next a w
  | _, _, _ => False
theorem segQ_mk {i s : Nat} {next : Act → World → Prop} {a : Act} {w : World} (h1 : i ≠ s → C w) (h2 : next a w) : segQ C i s next .normal a w := ⟨h1, h2⟩
/-- the walk by segments: those that read, one that does not, .. -/
def wpSegs (P : Program) (l : List Oper) (C : World → Prop) (s : Nat) (Q : Act → World → Prop) : List (List Nat × Nat) → List Nat → Act → World → Prop
  | [], fin, a, w => wpQuiet P l.toArray C (fun a' => Q a' w) (pick l fin) a
  | (is, h) :: r, fin, a, w => wpQuiet P l.toArray C (fun a' => wpList P l.toArray (segQ C h s (wpSegs P l C s Q r fin)) (pick l [h]) a' w) (pick l is) a
def segItems : List (List Nat × Nat) → List Nat → List (Bool × Nat)
  | [], fin => fin.map fun i => (true, i)
  | (is, h) :: r, fin => (is.map fun i => (true, i)) ++ (false, h) :: segItems r fin
theorem sched_softs {l : List Oper} {s : Nat} {Q : Act → World → Prop} {r : List (Bool × Nat)} {w : World} : ∀ (is : List Nat) (a : Act), (∀ i ∈ is, i < l.length) →
    wpQuiet P l.toArray C (fun a' => wpSched P l.toArray C s Q r a' w) (pick l is) a → wpSched P l.toArray C s Q ((is.map fun i => (true, i)) ++ r) a w
  | [], _, _, h => h
  | i :: is, a, hl, h => by
    have hlt := hl i (List.mem_cons_self ..)
    have hi : l[i]? = some l[i] := List.getElem?_eq_getElem hlt
    have e : pick l (i :: is) = l[i] :: pick l is := nthC_some _ hi
    rw [e] at h
    show qOp P l.toArray C i _ a
    have hi' : l.toArray[i]? = some l[i] := by rw [List.getElem?_toArray]; exact hi
    unfold qOp
    simp only [hi']
    unfold wpQuiet at h
    split
    · rename_i hw
      rw [if_pos hw] at h
      exact Oper.quiet_mono (fun a' h' => sched_softs is a' (fun k hk => hl k (List.mem_cons_of_mem _ hk)) h') h
    · rename_i hw
      rw [if_neg hw] at h
      exact sched_softs is _ (fun k hk => hl k (List.mem_cons_of_mem _ hk)) h
theorem wpOp_of_list {l : List Oper} {i s : Nat} {next : Act → World → Prop} {a : Act} {w : World} (hi : i < l.length) (h : wpList P l.toArray (segQ C i s next) (pick l [i]) a w) :
    wpOp P l.toArray QN i (fun a' w' => (i ≠ s → C w') ∧ next a' w') a w := by
  have hi1 : l[i]? = some l[i] := List.getElem?_eq_getElem hi
  have e : pick l [i] = [l[i]] := nthC_some _ hi1
  have hi' : l.toArray[i]? = some l[i] := by rw [List.getElem?_toArray]; exact hi1
  rw [e] at h
  unfold wpOp
  simp only [hi']
  unfold wpList at h
  split
  · rename_i hw
    rw [if_pos hw] at h
    rcases h with h | ⟨_, a', w', hl⟩
    · refine .inl (wp_monoQ (fun a w h => h) (fun _ _ _ h => h) ?_ h)
      rintro ⟨_, _, hl⟩
      exact hl.elim
    · exact hl.elim
  · rename_i hw
    rw [if_neg hw] at h
    exact h
theorem sched_segs {l : List Oper} {s : Nat} {Q : Act → World → Prop} {fin : List Nat} (hf : ∀ i ∈ fin, i < l.length) : ∀ (segs : List (List Nat × Nat)) (a : Act) (w : World), (∀ x ∈ segs, (∀ i ∈ x.1, i < l.length) ∧ x.2 < l.length) →
    wpSegs P l C s Q segs fin a w → wpSched P l.toArray C s Q (segItems segs fin) a w
  | [], a, w, _, h => by
    have := sched_softs (s := s) (Q := Q) (r := []) (w := w) fin a hf h
    simpa [segItems] using this
  | (is, hh) :: r, a, w, hl, h => by
    obtain ⟨h1, h2⟩ := hl _ (List.mem_cons_self ..)
    refine sched_softs is a h1 (wpQuiet_mono' (fun a' h' => ?_) (pick l is) a h)
    exact wpOp_mono (fun a2 w2 hx => ⟨hx.1, sched_segs hf r a2 w2 (fun x hx' => hl x (List.mem_cons_of_mem _ hx')) hx.2⟩) (wpOp_of_list h2 h')
def segsB (l : List Oper) (s : Nat) (segs : List (List Nat × Nat)) (fin : List Nat) : Bool :=
  Region.noSelect l.toArray && schedB .any l.toArray s (segItems segs fin) (Array.replicate l.length false) && (segs.all fun x => (x.1.all fun i => decide (i < l.length)) && decide (x.2 < l.length)) && (fin.all fun i => decide (i < l.length)) && ((segItems segs fin).length == l.length)
theorem wp_region_segs {id : Nat} {Q : Exit → Act → World → Prop} {a : Act} {w : World} {l : List Oper} (s : Nat) (segs : List (List Nat × Nat)) (fin : List Nat) (hm : P.follows .mixedOrders = true) (hB : segsB l s segs fin = true)
    (h : wpSegs P l (fun w' => ∃ x : Lay, w' = more w x.os x.k) s (fun a' w' => Q .normal a' w') segs fin a w.drew) : (Code.region id l.toArray true).wp P Q a w := by
  unfold segsB at hB
  simp only [Bool.and_eq_true, List.all_eq_true, decide_eq_true_eq, beq_iff_eq] at hB
  obtain ⟨⟨⟨⟨h1, h2⟩, h3⟩, h4⟩, h5⟩ := hB
  refine wp_region_any hm (wpAny_of_C (C := fun w' => ∃ x : Lay, w' = more w x.os x.k) (s := s) _ _ _ _ ?_)
  have := wpAnyC_sched (Q := fun a' w' => Q .normal a' w') (C := fun w' => ∃ x : Lay, w' = more w x.os x.k) h1 (segItems segs fin) (Array.replicate l.length false) a w.drew h2 (by
    rw [Array.getD_eq_getD_getElem?, Array.getElem?_replicate]
    split <;> rfl) ⟨⟨[], w.drawn + 1⟩, by rw [← more_drew, more_nil]⟩ (sched_segs h4 segs a w.drew h3 h)
  rw [h5] at this
  simpa using this
theorem laid {w w' : World} (h : Ext w w') : ∃ x : Lay, w' = more w x.os x.k := by
  obtain ⟨os, k, h⟩ := h
  exact ⟨⟨os, k⟩, h⟩
theorem segs_cons {l : List Oper} {s h : Nat} {Q : Act → World → Prop} {is fin : List Nat} {r : List (List Nat × Nat)} {a : Act} {w : World}
    (hh : ∀ K : Act → Prop, (∀ a', (∀ next : Act → World → Prop, (∀ a w, wpSegs P l C s Q r fin a w → next a w) → wpList P l.toArray (segQ C h s next) (pick l [h]) a' w) → K a') → wpQuiet P l.toArray C K (pick l is) a) :
    wpSegs P l C s Q ((is, h) :: r) fin a w := hh _ fun _ h' => h' _ fun _ _ h => h
theorem segs_nil {l : List Oper} {s : Nat} {Q : Act → World → Prop} {fin : List Nat} {a : Act} {w : World}
    (hh : ∀ K : Act → Prop, (∀ a', Q a' w → K a') → wpQuiet P l.toArray C K (pick l fin) a) : wpSegs P l C s Q [] fin a w := hh _ fun _ h => h
end
end Go.Proofs.Ytmgpofdmfmeljaa

/- A region that draws its order, in a round of a range over a function: as wp_region_segs. No program is named here. -/
namespace Go.Proofs.Ytmgpofdmfmeljaa
open Go.RowKit

section
variable {P : Program} {ops : Array Oper} {md : Region.Mode} {C : World → Prop}
theorem opIn_of_plain {l0 n : Nat} {o : Oper} {a : Act} {w : World} {K : Act → World → Prop} {Q' : Exit → Act → World → Prop} (hnd : ∀ c : Call, o.op ≠ Op.defer c) (h : o.wp P a w K QN) : o.wpIn (Fence.wide.inRound l0) n P a w K Q' := by
  unfold Oper.wp at h
  unfold Oper.wpIn
  refine ⟨fun _ _ => trivial, ?_⟩
  rw [Oper.semAt_eq _ _ _ hnd]
  generalize (execOp a.eval o).run P w = r at *
  cases r with
  | ok x w' =>
    cases x <;> simp only [Oper.upon] at h <;> simp only [Oper.uponIn]
    case value u => exact h
    case skip => exact h
    case defer d => exact h
    case enter f args =>
      refine ⟨fun e => (by cases e), CallsIn.inRound l0 (callsIn_wide.2 (Calls.mono h fun e w'' he => ?_))⟩
      cases e with
      | returned u => exact he
      | panicked c => exact he.elim
      | outgrown => exact absurd he no_letsOut
    case row row args => exact ⟨fun e => (by cases e), fun c cs _ => let ⟨v, w', r, s⟩ := h c cs; ⟨v, w', r, stepsIn_wide.2 s⟩⟩
  | halt x w' =>
    cases x <;> simp only [Oper.upon] at h
    case panic u => exact h.elim
theorem wpAnyIn_of_C {l0 n s : Nat} {Q : Exit → Act → World → Prop} (hnd : ∀ (i : Nat) (o : Oper), ops[i]? = some o → ∀ c : Call, o.op ≠ Op.defer c) : ∀ (fuel : Nat) (listed : Array Bool) (a : Act) (w : World),
    wpAnyC P md ops C s (fun a w => Q .normal a w) fuel listed a w → wpAnyIn (Fence.wide.inRound l0) n P md ops Q fuel listed a w
  | 0, _, _, _, h => h.2
  | fuel + 1, listed, a, w, h => ⟨h.2.1, fun i hi => by
    have h1 := h.2.2 i hi
    unfold wpOp at h1
    unfold wpOpIn
    split
    · rename_i ho
      simp only [ho] at h1
      exact wpAnyIn_of_C hnd fuel _ _ _ h1
    · rename_i o ho
      simp only [ho] at h1
      split
      · rename_i hw
        simp only [hw, if_true] at h1
        rcases h1 with h1 | ⟨_, hl⟩
        · exact Oper.wpIn_mono (fun a' w' hh => wpAnyIn_of_C hnd fuel _ a' w' hh) (opIn_of_plain (Q' := Q) (hnd i o ho) h1)
        · exact absurd hl no_letsOut
      · rename_i hw
        simp only [hw] at h1
        exact ⟨fun _ _ => trivial, wpAnyIn_of_C hnd fuel _ _ _ h1⟩⟩
theorem wpIn_region_segs {id l0 n : Nat} {Q : Exit → Act → World → Prop} {a : Act} {w : World} {l : List Oper} (s : Nat) (segs : List (List Nat × Nat)) (fin : List Nat) (hnd : noDefer l = true) (hm : P.follows .mixedOrders = true) (hB : segsB l s segs fin = true)
    (h : wpSegs P l (fun w' => ∃ x : Lay, w' = more w x.os x.k) s (fun a' w' => Q .normal a' w') segs fin a w.drew) : (Code.region id l.toArray true).wpIn (Fence.wide.inRound l0) n P Q a w := by
  have hnd' : ∀ (i : Nat) (o : Oper), l.toArray[i]? = some o → ∀ c : Call, o.op ≠ Op.defer c := by
    intro i o ho c hc
    have hmem : o ∈ l := by
      rw [List.getElem?_toArray] at ho
      exact List.mem_of_getElem? ho
    have := List.all_eq_true.1 hnd o hmem
    rw [hc] at this
    cases this
  unfold segsB at hB
  simp only [Bool.and_eq_true, List.all_eq_true, decide_eq_true_eq, beq_iff_eq] at hB
  obtain ⟨⟨⟨⟨h1, h2⟩, h3⟩, h4⟩, h5⟩ := hB
  refine wpIn_region_any hm (wpAnyIn_of_C (C := fun w' => ∃ x : Lay, w' = more w x.os x.k) (s := s) hnd' _ _ _ _ ?_)
  have := wpAnyC_sched (Q := fun a' w' => Q .normal a' w') (C := fun w' => ∃ x : Lay, w' = more w x.os x.k) h1 (segItems segs fin) (Array.replicate l.length false) a w.drew h2 (by
    rw [Array.getD_eq_getD_getElem?, Array.getElem?_replicate]
    split <;> rfl) ⟨⟨[], w.drawn + 1⟩, by rw [← more_drew, more_nil]⟩ (sched_segs h4 segs a w.drew h3 h)
  rw [h5] at this
  simpa using this
end
end Go.Proofs.Ytmgpofdmfmeljaa
