/- Jobs: a job's key; a heap of jobs in memory. No program is named in the first part. -/
import Derived.Test.YtmgpofdmfmeljaaJa
import Derived.WalkSpells
import Derived.WalkLawsBesides
import Derived.BigRegion
import Derived.Deep.RegionWith
import Derived.Deep.QuietTactic
import Derived.Deep.DeepCutAuto
import Derived.Deep.RegionHeld3
import Derived.Deep.RegionLaw
import Derived.BigQuiet
import Derived.Lib.Hide
namespace Go.Proofs.Ytmgpofdmfmeljaa
open Go.RowKit
attribute [local go_sem] more_drew more_drewN more_size more_cell more_frozen more_setCell drew_more drewN_more lt_add_r lt_add_r2 lt_add_r3 lt_add_r4 lt_add_r5 lt_add_r6 lt_add_r7 lt_add_r8 lt_add_r9 lt_add_r10 lt_self_r lt_self_r2

theorem cmpI_lt (a b : Int) : cmpI a b < 0 ↔ a < b := by unfold cmpI; repeat (first | omega | split)
theorem cmpI_eq (a b : Int) : cmpI a b = 0 ↔ a = b := by unfold cmpI; repeat (first | omega | split)
theorem orF2 (x y : Int) : orF [x, y] = if x = 0 then y else x := by
  by_cases h : x = 0 <;> by_cases h2 : y = 0 <;> simp [orF, h, h2]
theorem orF3 (x y z : Int) : orF [x, y, z] = if x = 0 then (if y = 0 then z else y) else x := by
  by_cases h : x = 0 <;> by_cases h2 : y = 0 <;> by_cases h3 : z = 0 <;> simp [orF, h, h2, h3]
/-- a job's key -/
def k1 (k : Kv) (d : Dt) : Int := lateF k d
def k2 (k : Kv) (d : Dt) : Int := if k.wait ≤ d.age then -d.age else farD k d
def k3 (k : Kv) (d : Dt) : Int := if k.wait ≤ d.age then d.slot else d.lo
def k4 (k : Kv) (d : Dt) : Int := if k.wait ≤ d.age then 0 else d.slot
/-- the first is ahead -/
def Lx (a1 a2 a3 a4 a5 b1 b2 b3 b4 b5 : Int) : Prop := a1 < b1 ∨ (a1 = b1 ∧ (a2 < b2 ∨ (a2 = b2 ∧ (a3 < b3 ∨ (a3 = b3 ∧ (a4 < b4 ∨ (a4 = b4 ∧ a5 < b5)))))))
/-- a thing in the heap: its number, its job -/
abbrev It := Int × Dt
def z6 : It := (0, ⟨0, 0, 0, 0, 0⟩)
def LtP (k : Kv) (a b : It) : Prop := Lx (k1 k a.2) (k2 k a.2) (k3 k a.2) (k4 k a.2) a.1 (k1 k b.2) (k2 k b.2) (k3 k b.2) (k4 k b.2) b.1
def LeP (k : Kv) (a b : It) : Prop := ¬ LtP k b a
theorem LtP.trans {k : Kv} {a b c : It} (h : LtP k a b) (h' : LtP k b c) : LtP k a c := by
  unfold LtP Lx at *
  omega
theorem LeP.trans {k : Kv} {a b c : It} (h : LeP k a b) (h' : LeP k b c) : LeP k a c := by
  unfold LeP LtP Lx at *
  omega
theorem LeP.refl (k : Kv) (a : It) : LeP k a a := by
  unfold LeP LtP Lx
  omega
theorem LtP.le {k : Kv} {a b : It} (h : LtP k a b) : LeP k a b := by
  unfold LeP LtP Lx at *
  omega
theorem cmpD_cases (k : Kv) (a b : Dt) : (cmpD k a b < 0 ↔ Lx (k1 k a) (k2 k a) (k3 k a) (k4 k a) 0 (k1 k b) (k2 k b) (k3 k b) (k4 k b) 0) ∧ (cmpD k a b = 0 ↔ k1 k a = k1 k b ∧ k2 k a = k2 k b ∧ k3 k a = k3 k b ∧ k4 k a = k4 k b) := by
  have e1 := cmpI_lt b.age a.age
  have e2 := cmpI_eq b.age a.age
  have e3 := cmpI_lt a.slot b.slot
  have e4 := cmpI_eq a.slot b.slot
  have e5 := cmpI_lt (farD k a) (farD k b)
  have e6 := cmpI_eq (farD k a) (farD k b)
  have e7 := cmpI_lt a.lo b.lo
  have e8 := cmpI_eq a.lo b.lo
  unfold cmpD k1 k2 k3 k4 Lx
  rcases late01 k a with ⟨h1, f1⟩ | ⟨h1, f1⟩ <;> rcases late01 k b with ⟨h2, f2⟩ | ⟨h2, f2⟩
  · simp only [f1, f2, if_pos h1, if_pos h2, orF2, orF3]
    simp only [Int.lt_irrefl, if_false, if_true, eq_self_iff_true, false_or, true_and, and_false, or_false, and_true]
    split <;> refine ⟨⟨fun h => ?_, fun h => ?_⟩, ⟨fun h => ?_, fun h => ?_⟩⟩ <;> omega
  · simp only [f1, f2, if_pos h1, if_neg h2]
    simp
  · simp only [f1, f2, if_neg h1, if_pos h2]
    simp
  · simp only [f1, f2, if_neg h1, if_neg h2, orF2, orF3]
    simp only [Int.lt_irrefl, if_false, false_or, true_and, and_false, or_false, and_true, eq_self_iff_true]
    rw [if_neg (by omega)]
    split
    · split <;> refine ⟨⟨fun h => ?_, fun h => ?_⟩, ⟨fun h => ?_, fun h => ?_⟩⟩ <;> omega
    · refine ⟨⟨fun h => ?_, fun h => ?_⟩, ⟨fun h => ?_, fun h => ?_⟩⟩ <;> omega
/-- one item is ahead of another one -/
def ltI (k : Kv) (a b : It) : Bool := if cmpD k a.2 b.2 = 0 then decide (a.1 < b.1) else decide (cmpD k a.2 b.2 < 0)
theorem ltI_iff (k : Kv) (a b : It) : ltI k a b = true ↔ LtP k a b := by
  obtain ⟨h1, h2⟩ := cmpD_cases k a.2 b.2
  unfold ltI LtP
  split
  · rename_i h
    rw [decide_eq_true_iff]
    rw [h2] at h
    unfold Lx at *
    omega
  · rename_i h
    rw [decide_eq_true_iff, h1]
    rw [h2] at h
    unfold Lx
    omega
theorem not_ltI {k : Kv} {a b : It} (h : ¬ ltI k a b = true) : LeP k b a := fun h' => h ((ltI_iff k a b).2 h')
theorem ltI_le {k : Kv} {a b : It} (h : ltI k a b = true) : LeP k a b := ((ltI_iff k a b).1 h).le

def enc6 (x : It) : List Value := .int .i64 x.1 :: dCells x.2
def flat (X : List It) : List Value := X.flatMap enc6
theorem flat_cons (x : It) (X : List It) : flat (x :: X) = .int .i64 x.1 :: .int .i64 x.2.slot :: .int .i64 x.2.lo :: .int .i64 x.2.hi :: .int .i64 x.2.age :: .int .i64 x.2.lev :: flat X := rfl
theorem flat_length (X : List It) : (flat X).length = X.length * 6 := by
  induction X with
  | nil => rfl
  | cons x X ih => rw [flat_cons]; simp only [List.length_cons, ih]; omega
theorem flat_append (X Y : List It) : flat (X ++ Y) = flat X ++ flat Y := by simp [flat]
theorem flat_one (X : List It) (j : Nat) (hj : j < X.length) : (flat X)[j * 6]? = some (.int .i64 (X.getD j z6).1) ∧ (flat X)[j * 6 + 1]? = some (.int .i64 (X.getD j z6).2.slot) ∧ (flat X)[j * 6 + 2]? = some (.int .i64 (X.getD j z6).2.lo) ∧
    (flat X)[j * 6 + 3]? = some (.int .i64 (X.getD j z6).2.hi) ∧ (flat X)[j * 6 + 4]? = some (.int .i64 (X.getD j z6).2.age) ∧ (flat X)[j * 6 + 5]? = some (.int .i64 (X.getD j z6).2.lev) := by
  induction X generalizing j with
  | nil => simp at hj
  | cons x X ih =>
    rw [flat_cons]
    cases j with
    | zero => simp
    | succ j =>
      have := ih j (by simpa using hj)
      rw [show (j + 1) * 6 = j * 6 + 1 + 1 + 1 + 1 + 1 + 1 by omega]
      simpa using this
theorem flat_set (X : List It) (j : Nat) (x : It) : flat (X.set j x) = ((((((flat X).set (j * 6) (.int .i64 x.1)).set (j * 6 + 1) (.int .i64 x.2.slot)).set (j * 6 + 2) (.int .i64 x.2.lo)).set (j * 6 + 3) (.int .i64 x.2.hi)).set (j * 6 + 4) (.int .i64 x.2.age)).set (j * 6 + 5) (.int .i64 x.2.lev) := by
  induction X generalizing j with
  | nil => rfl
  | cons y X ih =>
    cases j with
    | zero => rfl
    | succ j =>
      rw [List.set_cons_succ, flat_cons, flat_cons, ih, show (j + 1) * 6 = j * 6 + 1 + 1 + 1 + 1 + 1 + 1 by omega]
      rfl
theorem flat_take (X : List It) (j : Nat) : flat (X.take j) = (flat X).take (j * 6) := by
  induction X generalizing j with
  | nil => simp [flat]
  | cons y X ih =>
    cases j with
    | zero => rfl
    | succ j =>
      rw [List.take_succ_cons, flat_cons, flat_cons, ih, show (j + 1) * 6 = j * 6 + 1 + 1 + 1 + 1 + 1 + 1 by omega]
      rfl

/-- where an order lies, and what it is -/
structure Od where
  bl : Nat
  bv : Nat
  bw : Nat
  k : Kv
def Od.V (o : Od) : Value := ordV o.bl o.bv
def Od.At (o : Od) (w : World) : Prop := OrdAt w o.bl o.bv o.bw o.k
/-- the heap object at block p: its order o, its row v of the items X, its count c -/
structure HeapAt (w : World) (p : Nat) (o : Od) (v : Value) (X : List It) (c : Int) : Prop where
  blk : w.heap[p]? = some (.cells #[o.V, v, .int .i64 c] 59)
  row : w.ownsRow 0 63 6 v X.length (flat X)
  ord : o.At w
/-- the blocks that a heap object is -/
def mine (p : Nat) (v : Value) (k : Nat) : Prop := k = p ∨ v.ownBlock = some k
section
variable {w w' : World} {p : Nat} {o : Od} {v : Value} {X : List It} {c : Int}
theorem HeapAt.lt (h : HeapAt w p o v X c) : p < w.heap.size := lt_of_heap h.blk
theorem HeapAt.cell (h : HeapAt w p o v X c) : w.cell? ⟨p, 0, none⟩ = some o.V ∧ w.cell? ⟨p, 1, none⟩ = some v ∧ w.cell? ⟨p, 2, none⟩ = some (.int .i64 c) := by
  simp [World.cell?, h.blk]
theorem HeapAt.frozen (h : HeapAt w p o v X c) (i : Nat) : w.frozen? ⟨p, i, none⟩ = false := by
  simp [World.frozen?, h.blk]
/-- a block of another kind is none of a heap's -/
theorem HeapAt.other (h : HeapAt w p o v X c) {b : Nat} {cs : Array Value} {T : TypeId} (hb : w.heap[b]? = some (.cells cs T)) (h1 : T ≠ 59) (h2 : T ≠ 63) : ¬ mine p v b := by
  rintro (rfl | hm)
  · rw [h.blk] at hb
    injection hb with hb
    injection hb with _ hb
    exact h1 hb.symm
  · obtain ⟨cur, hc⟩ := own_obj h.row b hm
    rw [hc] at hb
    injection hb with hb
    injection hb with _ hb
    exact h2 hb.symm
theorem HeapAt.turn {S : Nat → Prop} (h : HeapAt w p o v X c) (t : Turn S w w') (hp : ¬ S p) (hg : ∀ g, v.ownBlock = some g → ¬ S g) (h1 : ¬ S o.bl) (h2 : ¬ S o.bv) (h3 : ¬ S o.bw) : HeapAt w' p o v X c := by
  refine ⟨(t.block p h.lt hp).trans h.blk, own_keep h.row fun g hgo => t.block g (own_old h.row g hgo) (hg g hgo), (t.block _ (lt_of_heap h.ord.late) h1).trans h.ord.late, (t.block _ (lt_of_heap h.ord.view) h2).trans h.ord.view, (t.block _ (lt_of_heap h.ord.wait) h3).trans h.ord.wait⟩
theorem HeapAt.ext (h : HeapAt w p o v X c) (e : Ext w w') : HeapAt w' p o v X c :=
  h.turn (S := fun _ => False) (Turn.of_ext e) (fun h => h) (fun _ _ h => h) (fun h => h) (fun h => h) (fun h => h)
/-- the order stands, whatever the heap's own blocks become -/
theorem HeapAt.ordT (h : HeapAt w p o v X c) (t : Turn (mine p v) w w') : o.At w' :=
  ⟨(t.block _ (lt_of_heap h.ord.late) (h.other h.ord.late (by decide) (by decide))).trans h.ord.late, (t.block _ (lt_of_heap h.ord.view) (h.other h.ord.view (by decide) (by decide))).trans h.ord.view, (t.block _ (lt_of_heap h.ord.wait) (h.other h.ord.wait (by decide) (by decide))).trans h.ord.wait⟩
/-- the row's form, where there is an item -/
theorem HeapAt.form (h : HeapAt w p o v X c) (h0 : 0 < X.length) : ∃ g cap, v = .slice (some ⟨g, 0, none⟩) X.length cap ∧ g ≠ p ∧ g < w.heap.size ∧ X.length ≤ cap ∧ cap ≤ maxLen := by
  rcases h.row.2 with ⟨_, h2⟩ | ⟨g, cap, cur, h1, h2, h3, h4, h5, _⟩
  · omega
  · refine ⟨g, cap, h1, ?_, lt_of_heap h3, h4, h5⟩
    rintro rfl
    rw [h.blk] at h3
    injection h3 with h3
    injection h3 with _ h3
    cases h3
theorem HeapAt.item {g cap : Nat} (h : HeapAt w p o (.slice (some ⟨g, 0, none⟩) X.length cap) X c) (j : Nat) (hj : j < X.length) :
    w.cell? ⟨g, j * 6, none⟩ = some (.int .i64 (X.getD j z6).1) ∧ w.cell? ⟨g, j * 6 + 1, none⟩ = some (.int .i64 (X.getD j z6).2.slot) ∧ w.cell? ⟨g, j * 6 + 2, none⟩ = some (.int .i64 (X.getD j z6).2.lo) ∧
    w.cell? ⟨g, j * 6 + 3, none⟩ = some (.int .i64 (X.getD j z6).2.hi) ∧ w.cell? ⟨g, j * 6 + 4, none⟩ = some (.int .i64 (X.getD j z6).2.age) ∧ w.cell? ⟨g, j * 6 + 5, none⟩ = some (.int .i64 (X.getD j z6).2.lev) := by
  obtain ⟨a, b, d, e, f, i⟩ := flat_one X j hj
  exact ⟨(h.row.cellAt _ (by omega)).trans a, (h.row.cellAt _ (by omega)).trans b, (h.row.cellAt _ (by omega)).trans d, (h.row.cellAt _ (by omega)).trans e, (h.row.cellAt _ (by omega)).trans f, (h.row.cellAt _ (by omega)).trans i⟩
/-- an item laid at its place -/
def lay6 (w : World) (g j : Nat) (x : It) : World := (((((w.setCell ⟨g, j * 6, none⟩ (.int .i64 x.1)).setCell ⟨g, j * 6 + 1, none⟩ (.int .i64 x.2.slot)).setCell ⟨g, j * 6 + 2, none⟩ (.int .i64 x.2.lo)).setCell ⟨g, j * 6 + 3, none⟩ (.int .i64 x.2.hi)).setCell ⟨g, j * 6 + 4, none⟩ (.int .i64 x.2.age)).setCell ⟨g, j * 6 + 5, none⟩ (.int .i64 x.2.lev)
theorem HeapAt.lay {g cap : Nat} (h : HeapAt w p o (.slice (some ⟨g, 0, none⟩) X.length cap) X c) (j : Nat) (x : It) :
    HeapAt (lay6 w g j x) p o (.slice (some ⟨g, 0, none⟩) X.length cap) (X.set j x) c ∧ Turn (mine p (.slice (some ⟨g, 0, none⟩) X.length cap)) w (lay6 w g j x) := by
  have r0 := h.row
  obtain ⟨r1, t1⟩ := r0.stored (j * 6) (.int .i64 x.1)
  obtain ⟨r2, t2⟩ := r1.stored (j * 6 + 1) (.int .i64 x.2.slot)
  obtain ⟨r3, t3⟩ := r2.stored (j * 6 + 2) (.int .i64 x.2.lo)
  obtain ⟨r4, t4⟩ := r3.stored (j * 6 + 3) (.int .i64 x.2.hi)
  obtain ⟨r5, t5⟩ := r4.stored (j * 6 + 4) (.int .i64 x.2.age)
  obtain ⟨r6, t6⟩ := r5.stored (j * 6 + 5) (.int .i64 x.2.lev)
  have hg : g ≠ p := by
    rcases r0.2 with ⟨h1, _⟩ | ⟨g', cap', cur, h1, h2, h3, _⟩
    · cases h1
    · injection h1 with h1; injection h1 with h1; injection h1 with h1
      subst h1
      rintro rfl
      rw [h.blk] at h3
      injection h3 with h3
      injection h3 with _ h3
      cases h3
  have own : (Value.slice (some ⟨g, 0, none⟩) X.length cap).ownBlock = some g := rfl
  have T : ∀ {a b : World}, a.grownBy b (some g) → Turn (mine p (.slice (some ⟨g, 0, none⟩) X.length cap)) a b := fun t => Turn.grown t fun k hk _ => .inr (by rw [own, hk])
  have T' : ∀ {a b : World}, a.grownBy b (some g) → Turn (fun k => k = g) a b := fun t => Turn.grown t fun k hk _ => by injection hk with hk; exact hk.symm
  have TT : Turn (mine p (.slice (some ⟨g, 0, none⟩) X.length cap)) w (lay6 w g j x) := (((((T t1).trans (T t2)).trans (T t3)).trans (T t4)).trans (T t5)).trans (T t6)
  refine ⟨⟨((((((T' t1).trans (T' t2)).trans (T' t3)).trans (T' t4)).trans (T' t5)).trans (T' t6)).block p h.lt (by omega) |>.trans h.blk, ?_, h.ordT TT⟩, TT⟩
  rw [flat_set, List.length_set]
  exact r6
end
section
variable {P : Program}
theorem run_equalIn_func_nil (w : World) (d : Nat) (t : TypeId) (f : Fn) (a b : Array Value) (ps rs : Array TypeId) (va : Bool) (h : P.underlying t = some (.func ps rs va)) : (Op.equalIn (d + 1) t (.func f a b) .nilFunc).run P w = .ok false w := by
  simp [Op.equalIn, run_underlying h]
theorem run_eql_func_nil (w : World) (t : TypeId) (f : Fn) (a b : Array Value) (ps rs : Array TypeId) (va : Bool) (h : P.underlying t = some (.func ps rs va)) : (binOp .eql t (.func f a b) .nilFunc).run P w = .ok (.bool false) w := by
  simp only [binOp]
  simp [Op.equal, Op.maxDepth, run_equalIn_func_nil w 9999 t f a b ps rs va h]
end
set_option maxRecDepth 100000 in
set_option maxHeartbeats 3000000 in
theorem none_any {p : Nat} {o : Od} {v : Value} {X : List It} {c : Int} (w : World) (h : HeapAt w p o v X c) : Calls Try.prog 26 #[.pointer (some ⟨p, 0, none⟩)] w fun e w' => e = .returned (.bool false) ∧ Ext w w' := by
  have c0 := h.cell.1
  have hp := h.lt
  unfold Od.V ordV at c0
  have e28 := fun w1 a => run_eql_func_nil (P := Try.prog) w1 54 (.func 31) #[] a _ _ _ Try.underlying54
  clear h
  go_enter Try.func26, Try.ntmps26
  go_wp2
  go_ret
  exact ⟨rfl, (by repeat (first | exact Ext.refl _ | refine Ext.alloc ?_ _ | refine Ext.more ?_ _ _ | refine Ext.drew ?_ | refine Ext.drewN ?_ _ | refine Ext.setCell ?_ (by simp <;> omega) _))⟩
end Go.Proofs.Ytmgpofdmfmeljaa
