/- Nt: 2 texts in one. -/
import Derived.Test.YtggmljookcmnkaaNd
import Derived.Test.YtggmljookcmnkaaW
/- Slices of parts as lists. No program is named here. -/
namespace Go.Proofs.Ytggmljookcmnkaa
open Go.RowKit

/-- a part that lies in memory: its kids lie from kA on -/
structure Prt where
  nd : Nd
  kA : Option Addr
  kc : Nat
def I64 (x : Int) : Prop := -9223372036854775808 ≤ x ∧ x ≤ 9223372036854775807
structure PrtOk (w : World) (p : Prt) : Prop where
  kids : Ints w p.kA p.nd.kids
  cap : p.nd.kids.length ≤ p.kc
  top : p.kc ≤ 9223372036854775807
  none : p.kA = none → p.kc = 0
  sym : I64 p.nd.sym
  kind : I64 p.nd.kind
  lo : I64 p.nd.lo
  inn : I64 p.nd.inn
  hi : I64 p.nd.hi
  look : I64 p.nd.look
  met : 0 ≤ p.nd.met ∧ p.nd.met ≤ 18446744073709551615
  ks : ∀ k ∈ p.nd.kids, I64 k
def prtCells (p : Prt) : List Value := [.int .i64 p.nd.sym, .int .i64 p.nd.kind, .int .i64 p.nd.lo, .int .i64 p.nd.inn, .int .i64 p.nd.hi, .int .i64 p.nd.look, .slice p.kA p.nd.kids.length p.kc, .int .u64 p.nd.met]
/-- the parts of a slice lie in the cells from A on -/
def Prts (w : World) (A : Option Addr) (ps : List Prt) : Prop :=
  0 < ps.length → ∃ b off, A = some ⟨b, off, none⟩ ∧ b < w.heap.size ∧ ∀ k p, ps[k]? = some p →
    w.cell? ⟨b, off + k * 8, none⟩ = some (.int .i64 p.nd.sym) ∧ w.cell? ⟨b, off + k * 8 + 1, none⟩ = some (.int .i64 p.nd.kind) ∧
    w.cell? ⟨b, off + k * 8 + 2, none⟩ = some (.int .i64 p.nd.lo) ∧ w.cell? ⟨b, off + k * 8 + 3, none⟩ = some (.int .i64 p.nd.inn) ∧
    w.cell? ⟨b, off + k * 8 + 4, none⟩ = some (.int .i64 p.nd.hi) ∧ w.cell? ⟨b, off + k * 8 + 5, none⟩ = some (.int .i64 p.nd.look) ∧
    w.cell? ⟨b, off + k * 8 + 6, none⟩ = some (.slice p.kA p.nd.kids.length p.kc) ∧ w.cell? ⟨b, off + k * 8 + 7, none⟩ = some (.int .u64 p.nd.met)
def PrtsOk (w : World) (ps : List Prt) : Prop := ∀ p ∈ ps, PrtOk w p
def nds (ps : List Prt) : List Nd := ps.map (·.nd)
theorem nds_get {ps : List Prt} {k : Nat} {p : Prt} (h : ps[k]? = some p) : (nds ps)[k]? = some p.nd := by unfold nds; rw [List.getElem?_map, h]; rfl
theorem nds_get' {ps : List Prt} {k : Nat} {q : Nd} (h : (nds ps)[k]? = some q) : ∃ p, ps[k]? = some p ∧ p.nd = q := by
  unfold nds at h
  rw [List.getElem?_map] at h
  cases hp : ps[k]? with
  | none => rw [hp] at h; cases h
  | some p => rw [hp] at h; exact ⟨p, rfl, by injection h⟩
theorem nds_length (ps : List Prt) : (nds ps).length = ps.length := by unfold nds; rw [List.length_map]
theorem Prts.nil {w : World} {A : Option Addr} : Prts w A [] := fun h => by simp at h
/-- what holds of cells below a block count holds behind -/
theorem Prts.below {w w' : World} {A : Option Addr} {ps : List Prt} (h : Prts w A ps) (e : Below w.heap.size w w') : Prts w' A ps := fun h0 => by
  obtain ⟨b, off, hA, hb, hc⟩ := h h0
  refine ⟨b, off, hA, by have := e.size; omega, fun j p hj => ?_⟩
  obtain ⟨a0, a1, a2, a3, a4, a5, a6, a7⟩ := hc j p hj
  exact ⟨(e.cell (p := ⟨b, off + j * 8, .none⟩) hb).trans a0, (e.cell (p := ⟨b, off + j * 8 + 1, .none⟩) hb).trans a1, (e.cell (p := ⟨b, off + j * 8 + 2, .none⟩) hb).trans a2, (e.cell (p := ⟨b, off + j * 8 + 3, .none⟩) hb).trans a3,
    (e.cell (p := ⟨b, off + j * 8 + 4, .none⟩) hb).trans a4, (e.cell (p := ⟨b, off + j * 8 + 5, .none⟩) hb).trans a5, (e.cell (p := ⟨b, off + j * 8 + 6, .none⟩) hb).trans a6, (e.cell (p := ⟨b, off + j * 8 + 7, .none⟩) hb).trans a7⟩
theorem Prts.ext {w w' : World} {A : Option Addr} {ps : List Prt} (h : Prts w A ps) (e : Ext w w') : Prts w' A ps := h.below e.below
theorem PrtOk.below {w w' : World} {p : Prt} (h : PrtOk w p) (e : Below w.heap.size w w') : PrtOk w' p := ⟨h.kids.below e, h.cap, h.top, h.none, h.sym, h.kind, h.lo, h.inn, h.hi, h.look, h.met, h.ks⟩
theorem PrtOk.ext {w w' : World} {p : Prt} (h : PrtOk w p) (e : Ext w w') : PrtOk w' p := h.below e.below
theorem PrtsOk.ext {w w' : World} {ps : List Prt} (h : PrtsOk w ps) (e : Ext w w') : PrtsOk w' ps := fun p hp => (h p hp).ext e
theorem PrtsOk.below {w w' : World} {ps : List Prt} (h : PrtsOk w ps) (e : Below w.heap.size w w') : PrtsOk w' ps := fun p hp => (h p hp).below e
theorem PrtsOk.get {w : World} {ps : List Prt} (h : PrtsOk w ps) {k : Nat} {p : Prt} (hp : ps[k]? = some p) : PrtOk w p := h p (List.mem_of_getElem? hp)
/-- a part of the slice -/
theorem Prts.drop {w : World} {A : Option Addr} {ps : List Prt} (h : Prts w A ps) (k c : Nat) (hc : ps.length ≤ c) : Prts w (if c = k then A else A.map (·.add (k * 8))) (ps.drop k) := fun h0 => by
  rw [List.length_drop] at h0
  obtain ⟨b, off, rfl, hb, hcell⟩ := h (by omega)
  rw [if_neg (by omega)]
  refine ⟨b, off + k * 8, ?_, hb, fun j p hj => ?_⟩
  · simp only [Option.map_some, Addr.add]
    split <;> rename_i hk <;> simp_all
  · rw [List.getElem?_drop] at hj
    have := hcell (k + j) p hj
    rw [Nat.add_mul, ← Nat.add_assoc] at this
    exact this
end Go.Proofs.Ytggmljookcmnkaa

/- What Edit has done before it comes to a part. No program is named here. -/
namespace Go.Proofs.Ytggmljookcmnkaa

/-- the parts from k on are edited -/
structure EditTo (E : Ed) (l : List Nd) (k : Nat) (out : List Nd) : Prop where
  len : out.length = l.length
  ahead : ∀ (j : Nat) (p : Nd), l[j]? = some p → j < k → out[j]? = some p
  behind : ∀ (j : Nat) (p : Nd), l[j]? = some p → k ≤ j → out[j]? = some (editedF E (maxTo out p.kids) p)
theorem EditTo.first (E : Ed) (l : List Nd) : EditTo E l l.length l := ⟨rfl, fun _ _ h _ => h, fun _ _ h hj => absurd (lt_of_get h) (Nat.not_lt.2 hj)⟩
theorem EditTo.last {E : Ed} {l out : List Nd} (h : EditTo E l 0 out) : EditedR E l out := ⟨h.len, fun j p hp => h.behind j p hp (Nat.zero_le _)⟩
theorem maxTo_set {l out : List Nd} (T : Tree l) {k j : Nat} {p q : Nd} (hp : l[j]? = some p) (hj : k ≤ j) : maxTo (out.set k q) p.kids = maxTo out p.kids :=
  maxTo_congr fun x hx => by
    obtain ⟨c, rfl, h1, h2⟩ := T.kid_behind hp x hx
    simp only [hiAt, Int.toNat_natCast]
    rw [List.getElem?_set_ne (by omega)]
theorem EditTo.step {E : Ed} {l out : List Nd} (T : Tree l) {k : Nat} (h : EditTo E l (k + 1) out) {p : Nd} (hp : l[k]? = some p) : EditTo E l k (out.set k (editedF E (maxTo out p.kids) p)) := by
  have hk := lt_of_get hp
  refine ⟨by rw [List.length_set]; exact h.len, fun j q hq hj => ?_, fun j q hq hj => ?_⟩
  · rw [List.getElem?_set_ne (by omega)]
    exact h.ahead j q hq (by omega)
  · rw [maxTo_set T hq hj]
    rcases Nat.eq_or_lt_of_le hj with rfl | hj
    · rw [hp] at hq
      injection hq with hq
      subst hq
      rw [List.getElem?_set_self (by rw [h.len]; exact hk)]
    · rw [List.getElem?_set_ne (by omega)]
      exact h.behind j q hq hj
/-- numbers up to 2^30: a tree's places -/
def Lt30' (x : Int) : Prop := -1073741824 ≤ x ∧ x ≤ 1073741824
structure Near (p : Nd) : Prop where
  lo : Lt30' p.lo
  inn : Lt30' p.inn
  hi : Lt30' p.hi
  look : Lt30' p.look
/-- the numbers of an edited part -/
theorem edited_bd {a d i t : Int} {om : Int → Int} {p : Nd} (ha : Lt30' a) (hd : Lt30' d) (hi : Lt30' i) (hp : Near p) (ht : 0 ≤ t ∧ t ≤ 8589934592) :
    (-8589934592 ≤ loE ⟨a, d, i, om⟩ p ∧ loE ⟨a, d, i, om⟩ p ≤ 8589934592) ∧ (-8589934592 ≤ innE ⟨a, d, i, om⟩ t p ∧ innE ⟨a, d, i, om⟩ t p ≤ 8589934592) ∧
    (-8589934592 ≤ hiE ⟨a, d, i, om⟩ t p ∧ hiE ⟨a, d, i, om⟩ t p ≤ 8589934592) ∧ (-8589934593 ≤ lookE ⟨a, d, i, om⟩ p ∧ lookE ⟨a, d, i, om⟩ p ≤ 8589934593) := by
  obtain ⟨h1, h2, h3, h4⟩ := hp
  unfold Lt30' at *
  have st : ∀ x : Int, -1073741824 ≤ x ∧ x ≤ 1073741824 → -4294967296 ≤ stF x ⟨a, d, i, om⟩ ∧ stF x ⟨a, d, i, om⟩ ≤ 4294967296 := fun x hx => by
    unfold stF
    dsimp only
    split <;> (try split) <;> omega
  have en : ∀ x : Int, -1073741824 ≤ x ∧ x ≤ 1073741824 → -4294967296 ≤ enF x ⟨a, d, i, om⟩ ∧ enF x ⟨a, d, i, om⟩ ≤ 4294967296 := fun x hx => by
    unfold enF
    dsimp only
    split <;> (try split) <;> omega
  have s1 := st _ h1
  have s2 := st _ h2
  have e3 := en _ h3
  have e4 := en _ h4
  have b1 : -4294967296 ≤ loE ⟨a, d, i, om⟩ p ∧ loE ⟨a, d, i, om⟩ p ≤ 4294967296 := by unfold loE; split <;> omega
  have b2 : -4294967296 ≤ hiE ⟨a, d, i, om⟩ t p ∧ hiE ⟨a, d, i, om⟩ t p ≤ 8589934592 := by unfold hiE; dsimp only; split <;> omega
  refine ⟨by omega, ?_, by omega, ?_⟩
  · unfold innE
    split <;> omega
  · unfold lookE
    dsimp only
    split
    · omega
    · split <;> omega
end Go.Proofs.Ytggmljookcmnkaa
