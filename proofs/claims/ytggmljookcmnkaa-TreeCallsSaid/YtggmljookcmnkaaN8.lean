/- The contract of viewportref16.Edit. -/
import Derived.Test.YtggmljookcmnkaaN7
import Derived.Test.YtggmljookcmnkaaR5
import Derived.Test.YtggmljookcmnkaaG3
import Derived.Test.YtggmljookcmnkaaTz
import Derived.WalkSpells
import Derived.WalkLawsBesides
import Derived.BigRegion
import Derived.Deep.RegionWith
import Derived.Deep.QuietTactic
import Derived.Deep.DeepCutAuto
import Derived.Deep.RegionHeld3
import Derived.Deep.RegionLaw
import Derived.BigQuiet
import Derived.Lib.Hide
namespace Go.Proofs.Ytggmljookcmnkaa
open Go.RowKit
attribute [local go_sem] more_drew more_drewN more_size more_cell more_frozen more_setCell drew_more drewN_more lt_add_r lt_add_r2 lt_add_r3 lt_add_r4 lt_add_r5 lt_add_r6 lt_add_r7 lt_add_r8 lt_add_r9 lt_add_r10 lt_self_r lt_self_r2

section
variable {P : Program} {ops : Array Oper} {md : Region.Mode} {C : World → Prop}
theorem wp_region_btC {T : Type} (f : T → World) {id : Nat} {Q : Exit → Act → World → Prop} {a : Act} {w : World} {l : List Oper} (s : Nat) (t : Bt) (hm : P.follows .mixedOrders = true) (hB : btOkB l s t = true) (h0 : ∃ x : T, w.drew = f x)
    (h : wpBt P l (fun w' => ∃ x : T, w' = f x) s (fun a' w' => Q .normal a' w') t a w.drew) : (Code.region id l.toArray true).wp P Q a w := by
  unfold btOkB at hB
  simp only [Bool.and_eq_true, beq_iff_eq] at hB
  obtain ⟨⟨⟨h1, h2⟩, h3⟩, h5⟩ := hB
  refine wp_region_any hm (wpAny_of_C (C := fun w' => ∃ x : T, w' = f x) (s := s) _ _ _ _ ?_)
  have := (bt_all (P := P) (md := .any) (Q := fun a' w' => Q .normal a' w') (C := fun w' => ∃ x : T, w' = f x) (s := s) h1 t).1 (Array.replicate l.length false) a w.drew h2 h3 (fun k o _ hk => by
    rw [Array.getD_eq_getD_getElem?, Array.getElem?_replicate] at hk
    split at hk <;> cases hk) (fun _ => h0) h
  rw [h5] at this
  simpa using this
end
/-- worlds in which two blocks and one cell stand as they were -/
structure EdC (w0 : World) (g o bp be : Nat) where
  V : World
  cel : V.cell? ⟨g, o, none⟩ = w0.cell? ⟨g, o, none⟩
  par : V.heap[bp]? = w0.heap[bp]?
  box : V.heap[be]? = w0.heap[be]?
  sz : w0.heap.size ≤ V.heap.size
instance edcNonempty (w0 : World) (g o bp be : Nat) : Nonempty (EdC w0 g o bp be) := ⟨⟨w0, rfl, rfl, rfl, Nat.le_refl _⟩⟩
theorem edc_ext {w0 V : World} {g o bp be : Nat} (hg : g < w0.heap.size) (hp : bp < w0.heap.size) (he : be < w0.heap.size) (e : Ext w0 V) : ∃ x : EdC w0 g o bp be, V = x.V :=
  ⟨⟨V, World.cell?_of_block (e.below.block g hg), e.below.block bp hp, e.below.block be he, e.size⟩, rfl⟩
theorem edc_set {w0 V : World} {g o o' bp be : Nat} {u : Value} (hg : g < w0.heap.size) (hp : bp < w0.heap.size) (he : be < w0.heap.size) (e : Ext w0 V) (ho : o' ≠ o) (h1 : bp ≠ g) (h2 : be ≠ g) : ∃ x : EdC w0 g o bp be, V.setCell ⟨g, o', none⟩ u = x.V := by
  refine ⟨⟨V.setCell ⟨g, o', none⟩ u, ?_, (by simp [World.setCell, Array.getElem?_modify, Ne.symm h1]; exact e.below.block bp hp), (by simp [World.setCell, Array.getElem?_modify, Ne.symm h2]; exact e.below.block be he), (by simp [World.setCell]; exact e.size)⟩, rfl⟩
  have h3 : (V.setCell ⟨g, o', none⟩ u).cell? ⟨g, o, none⟩ = V.cell? ⟨g, o, none⟩ := by
    simp [go_sem, ho]
  rw [h3]
  exact World.cell?_of_block (e.below.block g hg)
theorem set_self {qs : List Prt} {i : Nat} {q : Prt} (h : qs[i]? = some q) : qs.set i q = qs := by
  apply List.ext_getElem?
  intro j
  rw [List.getElem?_set]
  split
  · rename_i hij
    subst hij
    split
    · exact h.symm
    · rename_i hl
      exact absurd (List.getElem?_eq_some_iff.1 h).1 hl
  · rfl
section
variable {w : World} {base c g i : Nat} {qs : List Prt} {q1 q2 : Prt}
theorem OwnP.putAt (h : OwnP w base (some ⟨g, 0, none⟩) c (qs.set i q1)) (hi : i < qs.length) {r : Nat} {u : Value} (hr : r < 8) (hc : prtCells q2 = (prtCells q1).set r u) (hk : q2.kA = q1.kA ∧ q2.kc = q1.kc ∧ q2.nd.kids = q1.nd.kids) (hf : FineP q2) :
    OwnP (w.setCell ⟨g, i * 8 + r, none⟩ u) base (some ⟨g, 0, none⟩) c (qs.set i q2) := by
  have := h.put (q := q1) (q' := q2) (List.getElem?_set_self hi) hr hc hk hf
  rw [List.set_set] at this
  exact this
theorem OwnP.atSet (h : OwnP w base (some ⟨g, 0, none⟩) c (qs.set i q1)) (hi : i < qs.length) : CellsP w g (i * 8) q1 := h.at (List.getElem?_set_self hi)
end
/-- a block that is not the row's stays behind a store into the row -/
theorem blk_set {V : World} {g k b : Nat} {u : Value} (h : b ≠ g) : (V.setCell ⟨g, k, none⟩ u).heap[b]? = V.heap[b]? := by
  simp [World.setCell, Array.getElem?_modify, Ne.symm h]
/-- an edit's block -/
theorem ed_cells {V : World} {b : Nat} {a d i : Int} (h : V.heap[b]? = some (.cells #[.int .i64 a, .int .i64 d, .int .i64 i] 63)) :
    V.cell? ⟨b, 0, none⟩ = some (.int .i64 a) ∧ V.cell? ⟨b, 1, none⟩ = some (.int .i64 d) ∧ V.cell? ⟨b, 2, none⟩ = some (.int .i64 i) ∧ b < V.heap.size := by
  have c0 := cell_of_row _ _ 0 _ _ _ h
  have c1 := cell_of_row _ _ 1 _ _ _ h
  have c2 := cell_of_row _ _ 2 _ _ _ h
  simp at c0 c1 c2
  exact ⟨c0, c1, c2, lt_of_heap h⟩
/-- a part's block -/
theorem pt_cells {V : World} {b : Nat} {sym kind lo inn hi look met : Int} {kids : List Int} {pA : Option Addr} {pc : Nat} (h : V.heap[b]? = some (.cells #[.int .i64 sym, .int .i64 kind, .int .i64 lo, .int .i64 inn, .int .i64 hi, .int .i64 look, .slice pA kids.length pc, .int .u64 met] 33)) :
    V.cell? ⟨b, 0, none⟩ = some (.int .i64 sym) ∧ V.cell? ⟨b, 1, none⟩ = some (.int .i64 kind) ∧ V.cell? ⟨b, 2, none⟩ = some (.int .i64 lo) ∧ V.cell? ⟨b, 3, none⟩ = some (.int .i64 inn) ∧
    V.cell? ⟨b, 4, none⟩ = some (.int .i64 hi) ∧ V.cell? ⟨b, 5, none⟩ = some (.int .i64 look) ∧ V.cell? ⟨b, 6, none⟩ = some (.slice pA kids.length pc) ∧ V.cell? ⟨b, 7, none⟩ = some (.int .u64 met) ∧ b < V.heap.size := by
  have c0 := cell_of_row _ _ 0 _ _ _ h
  have c1 := cell_of_row _ _ 1 _ _ _ h
  have c2 := cell_of_row _ _ 2 _ _ _ h
  have c3 := cell_of_row _ _ 3 _ _ _ h
  have c4 := cell_of_row _ _ 4 _ _ _ h
  have c5 := cell_of_row _ _ 5 _ _ _ h
  have c6 := cell_of_row _ _ 6 _ _ _ h
  have c7 := cell_of_row _ _ 7 _ _ _ h
  simp at c0 c1 c2 c3 c4 c5 c6 c7
  exact ⟨c0, c1, c2, c3, c4, c5, c6, c7, lt_of_heap h⟩
theorem max_name (x y : Int) : (if x < y then y else x) = max x y := by
  rw [Int.max_def]
  split <;> split <;> omega
theorem min_name (x y : Int) : (if y < x then y else x) = min x y := by
  rw [Int.min_def]
  split <;> split <;> omega
/-- the numbers as the document takes them -/
theorem edit_nums {a d i bit sym kind lo inn hi look met T sl sn eh ek : Int} {kids : List Int} (hT : 0 ≤ T) (hsl : stF lo ⟨a, d, i, bitOr bit⟩ = sl) (hsn : stF inn ⟨a, d, i, bitOr bit⟩ = sn) (heh : enF hi ⟨a, d, i, bitOr bit⟩ = eh) (hek : enF look ⟨a, d, i, bitOr bit⟩ = ek) :
    editedF ⟨a, d, i, bitOr bit⟩ T ⟨sym, kind, lo, inn, hi, look, kids, met⟩ =
      ⟨sym, kind, if kind = 1 then 0 else sl, if inn = lo then (if kind = 1 then 0 else sl) else min (max (if kind = 1 then 0 else sl) sn) (if kind = 1 then max (max 0 T) (hi - d + i) else max (max sl T) eh), if kind = 1 then max (max 0 T) (hi - d + i) else max (max sl T) eh,
        if kind = 1 then 1 else if Meet (ownLo ⟨sym, kind, lo, inn, hi, look, kids, met⟩) look ⟨a, d, i, bitOr bit⟩ then max (max (sl + 1) ek) (a + 1) else max (sl + 1) ek, kids, if Meet (ownLo ⟨sym, kind, lo, inn, hi, look, kids, met⟩) look ⟨a, d, i, bitOr bit⟩ then bits .or .u64 met bit else met⟩ := by
  by_cases hk : kind = 1
  · subst hk
    simp only [editedF, loE, hiE, lookE, innE, metE, bitOr, if_true] at *
    rw [hsn]
    congr 1
    · split
      · rfl
      · congr 1
        omega
    · omega
  · simp only [editedF, loE, hiE, lookE, innE, metE, bitOr, if_neg hk] at *
    rw [hsl, hsn, heh, hek]
    congr 1
    · split
      · rfl
      · congr 1
        omega
    · omega
end Go.Proofs.Ytggmljookcmnkaa
