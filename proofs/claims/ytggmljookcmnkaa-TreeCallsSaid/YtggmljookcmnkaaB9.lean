/- Rows of parts of the call's own; append of one. -/
import Derived.Test.YtggmljookcmnkaaB7
import Derived.WalkSpells
import Derived.WalkLawsBesides
import Derived.BigRegion
import Derived.Deep.RegionWith
import Derived.Deep.QuietTactic
import Derived.Deep.DeepCutAuto
import Derived.Deep.RegionHeld3
import Derived.Deep.RegionLaw
import Derived.BigQuiet
import Derived.Lib.Hide
namespace Go.Proofs.Ytggmljookcmnkaa
open Go.RowKit
attribute [local go_sem] more_drew more_drewN more_size more_cell more_frozen more_setCell drew_more drewN_more lt_add_r lt_add_r2 lt_add_r3 lt_add_r4 lt_add_r5 lt_add_r6 lt_add_r7 lt_add_r8 lt_add_r9 lt_add_r10 lt_self_r lt_self_r2

/-- a part's numbers are numbers -/
structure FineP (p : Prt) : Prop where
  sym : I64 p.nd.sym
  kind : I64 p.nd.kind
  lo : I64 p.nd.lo
  inn : I64 p.nd.inn
  hi : I64 p.nd.hi
  look : I64 p.nd.look
  met : 0 ≤ p.nd.met ∧ p.nd.met ≤ 18446744073709551615
  ks : ∀ k ∈ p.nd.kids, I64 k
theorem PrtOk.fine {w : World} {p : Prt} (h : PrtOk w p) : FineP p := ⟨h.sym, h.kind, h.lo, h.inn, h.hi, h.look, h.met, h.ks⟩
/-- a row of parts, each one's kids a row, of the call's own -/
structure OwnP (w : World) (base : Nat) (A : Option Addr) (c : Nat) (qs : List Prt) : Prop where
  row : w.ownsRow base 33 8 (.slice A qs.length c) qs.length (pv qs)
  kids : ∀ q ∈ qs, OwnI w base q.kA q.kc q.nd.kids
  fine : ∀ q ∈ qs, FineP q
theorem OwnP.nil (w : World) (base : Nat) : OwnP w base none 0 [] := ⟨World.ownsRow_nil _ _ _ _, fun _ h => (by cases h), fun _ h => (by cases h)⟩
theorem OwnP.ext {w w' : World} {base : Nat} {A : Option Addr} {c : Nat} {qs : List Prt} (h : OwnP w base A c qs) (e : Ext w w') : OwnP w' base A c qs := ⟨own_ext h.row e, fun q hq => (h.kids q hq).ext e, h.fine⟩
theorem own_base' {w : World} {base base' : Nat} {e : TypeId} {size : Nat} {v : Value} {n : Nat} {xs : List Value} (h : w.ownsRow base e size v n xs) (hb : base' ≤ base) : w.ownsRow base' e size v n xs :=
  ⟨h.1, h.2.imp id fun ⟨g, cap, cur, h1, h2, h3⟩ => ⟨g, cap, cur, h1, Nat.le_trans hb h2, h3⟩⟩
theorem OwnP.base {w : World} {base base' : Nat} {A : Option Addr} {c : Nat} {qs : List Prt} (h : OwnP w base A c qs) (hb : base' ≤ base) : OwnP w base' A c qs := ⟨own_base' h.row hb, fun q hq => (h.kids q hq).base hb, h.fine⟩
theorem OwnP.cells {w : World} {base : Nat} {A : Option Addr} {c : Nat} {qs : List Prt} (h : OwnP w base A c qs) : Prts w A qs ∧ qs.length ≤ c ∧ c ≤ maxLen ∧ (A = none → c = 0) := by
  obtain ⟨A', cap, hv, h1, h2, h3, h4⟩ := own_cells h.row
  injection hv with a1 a2 a3
  subst a1 a3
  exact ⟨Prts.of_cells h1, h2, h3, h4⟩
theorem OwnP.oks {w : World} {base : Nat} {A : Option Addr} {c : Nat} {qs : List Prt} (h : OwnP w base A c qs) : PrtsOk w qs := fun q hq => by
  obtain ⟨k1, k2, k3, k4⟩ := (h.kids q hq).ints
  have f := h.fine q hq
  unfold maxLen at k3
  exact ⟨k1, k2, k3, k4, f.sym, f.kind, f.lo, f.inn, f.hi, f.look, f.met, f.ks⟩
theorem OwnP.ps {w : World} {base : Nat} {A : Option Addr} {c : Nat} {qs : List Prt} (h : OwnP w base A c qs) (f : Few qs) : PS w A c qs := by
  obtain ⟨h1, h2, h3, h4⟩ := h.cells
  unfold maxLen at h3
  exact ⟨h1, h.oks, f, h2, h3, h4⟩
theorem OwnI.turn {w w' : World} {base : Nat} {A : Option Addr} {c : Nat} {xs : List Int} {S : Nat → Prop} (h : OwnI w base A c xs) (t : Turn S w w') (hS : ∀ k, base ≤ k → ¬ S k) : OwnI w' base A c xs :=
  own_keep h fun g hg => t.block g (own_old h g hg) (hS g (own_block h g hg))
theorem Turn.set {S : Nat → Prop} {a b : World} (h : Turn S a b) {p : Addr} (hp : S p.block) {u : Value} : Turn S a (b.setCell p u) := h.trans (Turn.setCell b hp u)
/-- a row of ints is no row of parts -/
theorem kids_keep {w w' : World} {base base' : Nat} {A : Option Addr} {c : Nat} {xs : List Int} (h : OwnI w base A c xs) {v : Value} {n : Nat} {us : List Value} (hp : w.ownsRow base' 33 8 v n us)
    (hg : ∀ b, b < w.heap.size → some b ≠ v.ownBlock → w'.heap[b]? = w.heap[b]?) : OwnI w' base A c xs := by
  refine own_keep h fun g hgo => hg g (own_old h g hgo) fun he => ?_
  obtain ⟨c1, e1⟩ := own_obj h g hgo
  obtain ⟨c2, e2⟩ := own_obj hp g he.symm
  rw [e1] at e2
  injection e2 with e2
  injection e2 with _ e2
  cases e2
theorem infoPart : (Try.prog.info? 33).map (fun i => (i.zero, i.size, i.bytes)) = some (some (.agg #[.int .i64 0, .int .i64 0, .int .i64 0, .int .i64 0, .int .i64 0, .int .i64 0, .slice none 0 0, .int .u64 0]), 8, 80) := by kernel_rfl
/-- the slot's value is a row of parts of the call's own -/
def RowP (w : World) (base : Nat) (v : Value) (qs : List Prt) : Prop := ∃ A c, v = .slice A qs.length c ∧ OwnP w base A c qs
theorem RowP.ext {w w' : World} {base : Nat} {v : Value} {qs : List Prt} (h : RowP w base v qs) (e : Ext w w') : RowP w' base v qs := by
  obtain ⟨A, c, hv, ho⟩ := h
  exact ⟨A, c, hv, ho.ext e⟩
theorem pv_single (q : Prt) : pv [q] = prtCells q := by simp [pv]
theorem app_part (w0 : World) {w : World} {ops : Array Oper} {rest : List Oper} {o : Oper} {a : Act} {Q : Exit → Act → World → Prop} (hw : Region.wanted o (yielded ops a.tmps) = true) (s x : Operand)
    (ho : o.op = .call { callee := .builtin .append, args := #[s, x], argTypes := #[23, 23] }) {qs : List Prt} {v : Value} (hr : RowP w w0.heap.size v qs) (q : Prt) (g : Nat)
    (hs : a.eval s = v) (hx : a.eval x = .slice (some ⟨g, 0, none⟩) 1 1) (hc : CellsAt w (some ⟨g, 0, none⟩) (prtCells q)) (hk : OwnI w w0.heap.size q.kA q.kc q.nd.kids) (hf : FineP q) (hlen : qs.length ≤ 1000000) (hext : Ext w0 w)
    (h : ∀ v' w', RowP w' w0.heap.size v' (qs ++ [q]) → Ext w0 w' → wpList Try.prog ops Q rest (a.put o.dst v') w') : wpList Try.prog ops Q (o :: rest) a w := by
  obtain ⟨A, c, rfl, hown⟩ := hr
  obtain ⟨i3, hi, hz0, hz1, hz2⟩ := info_parts infoPart
  refine wpList_append_cells w hw s x 23 ho w0.heap.size 33 i3 _ 8 80 Try.underlying23 hi hz0 hz1 hz2 rfl (by omega) _ qs.length (pv qs) hs hown.row (some ⟨g, 0, none⟩) 1 1 (pv [q]) hx (fun h => by cases h) (pv_length _)
    (by rw [pv_single]; exact hc) (pv_one _) (by unfold maxLen; omega) (by omega) hext.size fun v' w' h2 h3 h4 => ?_
  obtain ⟨A', c', hv', _⟩ := own_cells h2
  subst hv'
  have hkeep : ∀ b, b < w.heap.size → some b ≠ (Value.slice A qs.length c).ownBlock → w'.heap[b]? = w.heap[b]? := fun b hb hne => h3.block b hb hne
  refine h _ w' ⟨A', c', by rw [List.length_append]; rfl, ?_, fun p hp => ?_, fun p hp => ?_⟩ (hext.grown h3 fun g hg => own_block hown.row g hg)
  · rw [pv_append, List.length_append]
    exact h2
  · rcases List.mem_append.1 hp with hp | hp
    · exact kids_keep (hown.kids p hp) hown.row hkeep
    · rw [List.mem_singleton.1 hp]
      exact kids_keep hk hown.row hkeep
  · rcases List.mem_append.1 hp with hp | hp
    · exact hown.fine p hp
    · rw [List.mem_singleton.1 hp]
      exact hf
/-- a call's result that is a row of parts -/
def PartsRet (w : World) (l : List Nd) (e : Ending) (w' : World) : Prop := ∃ A c qs, e = .returned (.slice A (qs : List Prt).length c) ∧ nds qs = l ∧ OwnP w' w.heap.size A c qs ∧ Ext w w'
end Go.Proofs.Ytggmljookcmnkaa
