/- G1: 2 texts in one. -/
import Derived.Test.YtggmljookcmnkaaF1
import Derived.Test.YtggmljookcmnkaaNt
import Derived.WalkSpells
import Derived.WalkLawsBesides
import Derived.BigRegion
import Derived.Deep.RegionWith
import Derived.Deep.QuietTactic
import Derived.Deep.DeepCutAuto
import Derived.Deep.RegionHeld3
import Derived.Deep.RegionLaw
import Derived.BigQuiet
import Derived.Lib.Hide
/- What an edit does, bits aside. -/
namespace Go.Proofs.Ytggmljookcmnkaa

theorem liesB_unmet (l : List Nd) (hi : Int) : ∀ (ks : List Int) (a : Int), liesB (l.map Nd.unmet) hi a ks = liesB l hi a ks
  | [], a => by rw [liesB, liesB]
  | k :: ks, a => by
    have h1 : (l.map Nd.unmet)[k.toNat]? = (l[k.toNat]?).map Nd.unmet := List.getElem?_map ..
    rw [liesB, liesB, h1]
    cases l[k.toNat]? with
    | none => rfl
    | some q => show (decide (a ≤ q.lo) && _) = (decide (a ≤ q.lo) && _); rw [← liesB_unmet l hi ks q.hi]; rfl
theorem Tree.unmet {l : List Nd} (T : Tree l) : Tree (l.map Nd.unmet) := by
  have hget : ∀ (i : Nat) (q : Nd), (l.map Nd.unmet)[i]? = some q → ∃ p, l[i]? = some p ∧ q = p.unmet := fun i q h => by
    rw [List.getElem?_map] at h
    cases hp : l[i]? with
    | none => rw [hp] at h; cases h
    | some p => rw [hp] at h; injection h with h; exact ⟨p, rfl, h.symm⟩
  refine ⟨fun i q hq => ?_, ?_, fun q hq => ?_⟩
  · obtain ⟨p, hp, rfl⟩ := hget i q hq
    exact T.bare i p hp
  · rw [List.length_map]
    exact T.trek.congr (List.length_map ..) fun j p hp => ⟨p.unmet, by rw [List.getElem?_map, hp]; rfl, rfl⟩
  · obtain ⟨p, hp, rfl⟩ := List.mem_map.1 hq
    rw [liesB_unmet]
    exact T.lies p hp
theorem maxTo_unmet (l : List Nd) (ks : List Int) : maxTo (l.map Nd.unmet) ks = maxTo l ks := maxTo_congr fun k _ => by
  unfold hiAt
  rw [List.getElem?_map]
  cases l[k.toNat]? <;> rfl
def Ed.none (E : Ed) : Ed := ⟨E.a, E.d, E.i, fun _ => 0⟩
theorem editedF_unmet (E : Ed) (t : Int) (p : Nd) : (editedF E t p).unmet = editedF E.none t p.unmet := by
  have : metE E.none p.unmet = 0 := by unfold metE; split <;> rfl
  show Nd.mk _ _ _ _ _ _ _ _ = Nd.mk _ _ _ _ _ _ _ _
  rw [this]
  rfl
theorem EditedR.unmet {E : Ed} {l out : List Nd} (h : EditedR E l out) : EditedR E.none (l.map Nd.unmet) (out.map Nd.unmet) := by
  refine ⟨by rw [List.length_map, List.length_map, h.1], fun j p hp => ?_⟩
  rw [List.getElem?_map] at hp ⊢
  cases hq : l[j]? with
  | none => rw [hq] at hp; cases hp
  | some q =>
    rw [hq] at hp
    injection hp with hp
    subst hp
    rw [h.2 j q hq, maxTo_unmet, Option.map_some, editedF_unmet]
    rfl
/-- bits aside it is the same, whatever bits come -/
theorem EditedR.same {E E' : Ed} {l a b : List Nd} (T : Tree l) (ha : EditedR E l a) (hb : EditedR E' l b) (h1 : E.a = E'.a) (h2 : E.d = E'.d) (h3 : E.i = E'.i) : a.map Nd.unmet = b.map Nd.unmet := by
  have e : E.none = E'.none := by unfold Ed.none; rw [h1, h2, h3]
  exact EditedR.one T.unmet ha.unmet (e ▸ hb.unmet)
theorem EditedR.met {E : Ed} {l out : List Nd} (h : EditedR E l out) {j : Nat} {p q : Nd} (hp : l[j]? = some p) (hq : out[j]? = some q) : q.met = if Meet (ownLo p) p.look E then E.om p.met else p.met := by
  rw [h.2 j p hp] at hq
  injection hq with hq
  rw [← hq]
  rfl
/-- the rest of a part behind an edit knows no bits -/
theorem EditedR.of_unmet {E : Ed} {l out : List Nd} (h : EditedR E (l.map Nd.unmet) out) {j : Nat} {p q : Nd} (hp : l[j]? = some p) (hq : out[j]? = some q) : q.met = if Meet (ownLo p) p.look E then E.om 0 else 0 :=
  h.met (p := p.unmet) (by rw [List.getElem?_map, hp]; rfl) hq
end Go.Proofs.Ytggmljookcmnkaa

/- The first blocks of a world; a row of parts in them that is stored into. -/
namespace Go.Proofs.Ytggmljookcmnkaa
open Go.RowKit

/-- what holds of a world that has a world's first n blocks -/
def Low (n : Nat) (W : World) (Φ : World → Prop) : Prop := ∃ U, U.heap.size = n ∧ Below n U W ∧ Φ U
theorem Low.self {W : World} {Φ : World → Prop} (h : Φ W) : Low W.heap.size W Φ := ⟨W, rfl, Below.refl _ _, h⟩
theorem Low.below {n : Nat} {W W' : World} {Φ : World → Prop} (h : Low n W Φ) (e : Below n W W') : Low n W' Φ := by
  obtain ⟨U, h1, h2, h3⟩ := h
  exact ⟨U, h1, h2.trans e, h3⟩
theorem Low.imp {n : Nat} {W : World} {Φ Φ' : World → Prop} (h : Low n W Φ) (f : ∀ U, Φ U → Φ' U) : Low n W Φ' := by
  obtain ⟨U, h1, h2, h3⟩ := h
  exact ⟨U, h1, h2, f U h3⟩
theorem Low.size {n : Nat} {W : World} {Φ : World → Prop} (h : Low n W Φ) : n ≤ W.heap.size := by
  obtain ⟨U, h1, h2, h3⟩ := h
  have := h2.size
  omega
theorem Low.up {n : Nat} {W : World} {Φ : World → Prop} (h : Low n W Φ) (f : ∀ U, Φ U → Below U.heap.size U W → Φ W) : Φ W := by
  obtain ⟨U, h1, h2, h3⟩ := h
  exact f U h3 (h1.symm ▸ h2)
theorem below_set {n : Nat} {A B : World} (h : Below n A B) (p : Addr) (u : Value) : Below n (A.setCell p u) (B.setCell p u) := by
  refine ⟨h.os, h.tape, h.output, by have := h.size; simpa [World.setCell] using this, fun k hk => ?_⟩
  have := h.block k hk
  simp only [World.setCell, Array.getElem?_modify]
  rw [this]
theorem Low.store {n : Nat} {W : World} {Φ Φ' : World → Prop} (h : Low n W Φ) {p : Addr} {u : Value} (f : ∀ U, Φ U → Φ' (U.setCell p u)) : Low n (W.setCell p u) Φ' := by
  obtain ⟨U, h1, h2, h3⟩ := h
  exact ⟨U.setCell p u, by simpa [World.setCell] using h1, below_set h2 p u, f U h3⟩

theorem OwnI.below {w w' : World} {base : Nat} {A : Option Addr} {c : Nat} {xs : List Int} (h : OwnI w base A c xs) (e : Below w.heap.size w w') : OwnI w' base A c xs := own_keep h fun g hg => e.block g (own_old h g hg)
/-- a row of parts of the call's own, the kids' rows, blocks that stand; the kids' rows are those of ks -/
structure RowS (base : Nat) (g c n : Nat) (fs : List (Nat × Obj)) (rs ks : List Prt) (U : World) : Prop where
  row : U.ownsRow base 33 8 (.slice (some ⟨g, 0, none⟩) n c) n (pv rs)
  kids : ∀ q ∈ ks, OwnI U base q.kA q.kc q.nd.kids
  objs : ∀ x ∈ fs, U.heap[x.1]? = some x.2
theorem RowS.below {base g c n : Nat} {fs : List (Nat × Obj)} {rs ks : List Prt} {U W : World} (h : RowS base g c n fs rs ks U) (e : Below U.heap.size U W) : RowS base g c n fs rs ks W :=
  ⟨own_keep h.row fun g hg => e.block g (own_old h.row g hg), fun q hq => (h.kids q hq).below e, fun x hx => (e.block _ (lt_of_heap (h.objs x hx))).trans (h.objs x hx)⟩
/-- no block that stands is one of parts -/
def NoParts (fs : List (Nat × Obj)) : Prop := ∀ x ∈ fs, ∀ cur, x.2 ≠ .cells cur 33
theorem RowS.store {base g c n : Nat} {fs : List (Nat × Obj)} {rs ks : List Prt} {U : World} (h : RowS base g c n fs rs ks U) (hfs : NoParts fs) {i : Nat} {q q' : Prt} {r : Nat} {u : Value} (hi : rs[i]? = some q) (hr : r < 8) (hc : prtCells q' = (prtCells q).set r u) :
    RowS base g c n fs (rs.set i q') ks (U.setCell ⟨g, i * 8 + r, none⟩ u) := by
  refine ⟨row_store h.row hi hr hc, fun x hx => setCell_keep (h.kids x hx) h.row, fun x hx => ?_⟩
  have h1 := h.objs x hx
  have hne : ¬ g = x.1 := fun he => by
    obtain ⟨cur, h2⟩ := own_obj h.row g rfl
    rw [he, h1] at h2
    injection h2 with h2
    exact hfs x hx cur h2
  simp [World.setCell, Array.getElem?_modify, hne, h1]
theorem RowS.at {base g c n : Nat} {fs : List (Nat × Obj)} {rs ks : List Prt} {U : World} (h : RowS base g c n fs rs ks U) {i : Nat} {q : Prt} (hi : rs[i]? = some q) : CellsP U g (i * 8) q := by
  obtain ⟨A', cap, hv, h1, h2, h3, h4⟩ := own_cells h.row
  injection hv with a1 a2 a3
  subst a1 a3
  obtain ⟨b, off, he, hb, hc⟩ := (Prts.of_cells h1) (by have := (List.getElem?_eq_some_iff.1 hi).1; omega)
  injection he with he
  injection he with he1 he2
  subst he1 he2
  obtain ⟨d0, d1, d2, d3, d4, d5, d6, d7⟩ := hc i q hi
  rw [Nat.zero_add] at d0 d1 d2 d3 d4 d5 d6 d7
  exact ⟨d0, d1, d2, d3, d4, d5, d6, d7, hb, fun j => World.ownsRow.frozenAt h.row j⟩
theorem RowS.cap {base g c n : Nat} {fs : List (Nat × Obj)} {rs ks : List Prt} {U : World} (h : RowS base g c n fs rs ks U) : n ≤ c ∧ c ≤ maxLen := by
  obtain ⟨A', cap, hv, h1, h2, h3, h4⟩ := own_cells h.row
  injection hv with a1 a2 a3
  subst a3
  exact ⟨h2, h3⟩
theorem set_set' {α : Type} (l : List α) (i : Nat) (a b : α) : (l.set i a).set i b = l.set i b := List.set_set ..
theorem get_set' {α : Type} {l : List α} {i : Nat} {q : α} (h : l[i]? = some q) (a : α) : (l.set i a)[i]? = some a := List.getElem?_set_self (List.getElem?_eq_some_iff.1 h).1
/-- all of a part's cells are stored anew -/
theorem RowS.store8 {base g c n : Nat} {fs : List (Nat × Obj)} {rs ks : List Prt} {U : World} (h : RowS base g c n fs rs ks U) (hfs : NoParts fs) {i : Nat} {q q' : Prt} (hi : rs[i]? = some q) :
    RowS base g c n fs (rs.set i q') ks ((((((((U.setCell ⟨g, i * 8 + 0, none⟩ (.int .i64 q'.nd.sym)).setCell ⟨g, i * 8 + 1, none⟩ (.int .i64 q'.nd.kind)).setCell ⟨g, i * 8 + 2, none⟩ (.int .i64 q'.nd.lo)).setCell ⟨g, i * 8 + 3, none⟩ (.int .i64 q'.nd.inn)).setCell ⟨g, i * 8 + 4, none⟩ (.int .i64 q'.nd.hi)).setCell
      ⟨g, i * 8 + 5, none⟩ (.int .i64 q'.nd.look)).setCell ⟨g, i * 8 + 6, none⟩ (.slice q'.kA q'.nd.kids.length q'.kc)).setCell ⟨g, i * 8 + 7, none⟩ (.int .u64 q'.nd.met)) := by
  obtain ⟨⟨s, k, l, n', h', lk, ks', m⟩, kA, kc⟩ := q
  obtain ⟨⟨s', k', l', n'', h'', lk', ks'', m'⟩, kA', kc'⟩ := q'
  have key : ∀ {rs' : List Prt} {V : World} {p : Prt} (p' : Prt) (r : Nat) (u : Value), RowS base g c n fs (rs.set i p) ks V → r < 8 → prtCells p' = (prtCells p).set r u → RowS base g c n fs (rs.set i p') ks (V.setCell ⟨g, i * 8 + r, none⟩ u) := fun p' r u hh hr hc => by
    have := hh.store hfs (get_set' hi _) hr hc
    rwa [set_set'] at this
  have e0 : rs.set i ⟨⟨s, k, l, n', h', lk, ks', m⟩, kA, kc⟩ = rs := by
    obtain ⟨hl, hv⟩ := List.getElem?_eq_some_iff.1 hi
    conv => rhs; rw [← List.set_getElem_self hl]
    rw [hv]
  have h0 : RowS base g c n fs (rs.set i ⟨⟨s, k, l, n', h', lk, ks', m⟩, kA, kc⟩) ks U := by rw [e0]; exact h
  have h1 := key (rs' := rs) ⟨⟨s', k, l, n', h', lk, ks', m⟩, kA, kc⟩ 0 (.int .i64 s') h0 (by omega) rfl
  have h2 := key (rs' := rs) ⟨⟨s', k', l, n', h', lk, ks', m⟩, kA, kc⟩ 1 (.int .i64 k') h1 (by omega) rfl
  have h3 := key (rs' := rs) ⟨⟨s', k', l', n', h', lk, ks', m⟩, kA, kc⟩ 2 (.int .i64 l') h2 (by omega) rfl
  have h4 := key (rs' := rs) ⟨⟨s', k', l', n'', h', lk, ks', m⟩, kA, kc⟩ 3 (.int .i64 n'') h3 (by omega) rfl
  have h5 := key (rs' := rs) ⟨⟨s', k', l', n'', h'', lk, ks', m⟩, kA, kc⟩ 4 (.int .i64 h'') h4 (by omega) rfl
  have h6 := key (rs' := rs) ⟨⟨s', k', l', n'', h'', lk', ks', m⟩, kA, kc⟩ 5 (.int .i64 lk') h5 (by omega) rfl
  have h7 := key (rs' := rs) ⟨⟨s', k', l', n'', h'', lk', ks'', m⟩, kA', kc'⟩ 6 (.slice kA' ks''.length kc') h6 (by omega) rfl
  exact key (rs' := rs) ⟨⟨s', k', l', n'', h'', lk', ks'', m'⟩, kA', kc'⟩ 7 (.int .u64 m') h7 (by omega) rfl
theorem part_cells {W : World} {m : Nat} {p : Prt} (h : W.heap[m]? = some (.cells (prtCells p).toArray 33)) : m < W.heap.size ∧ W.cell? ⟨m, 0, none⟩ = some (.int .i64 p.nd.sym) ∧ W.cell? ⟨m, 1, none⟩ = some (.int .i64 p.nd.kind) ∧ W.cell? ⟨m, 2, none⟩ = some (.int .i64 p.nd.lo) ∧
    W.cell? ⟨m, 3, none⟩ = some (.int .i64 p.nd.inn) ∧ W.cell? ⟨m, 4, none⟩ = some (.int .i64 p.nd.hi) ∧ W.cell? ⟨m, 5, none⟩ = some (.int .i64 p.nd.look) ∧ W.cell? ⟨m, 6, none⟩ = some (.slice p.kA p.nd.kids.length p.kc) ∧ W.cell? ⟨m, 7, none⟩ = some (.int .u64 p.nd.met) :=
  ⟨lt_of_heap h, cell_of_row _ _ 0 _ _ _ h, cell_of_row _ _ 1 _ _ _ h, cell_of_row _ _ 2 _ _ _ h, cell_of_row _ _ 3 _ _ _ h, cell_of_row _ _ 4 _ _ _ h, cell_of_row _ _ 5 _ _ _ h, cell_of_row _ _ 6 _ _ _ h, cell_of_row _ _ 7 _ _ _ h⟩
theorem RowS.fresh {base g c n : Nat} {fs : List (Nat × Obj)} {rs : List Prt} {U : World} {k : Nat} {q q' : Prt} (h : RowS base g c n fs (rs.set k q') rs U) (hq : rs[k]? = some q) (hA : q'.kA = q.kA) (hc : q'.kc = q.kc) (hk : q'.nd.kids = q.nd.kids) : RowS base g c n fs (rs.set k q') (rs.set k q') U := by
  refine ⟨h.row, fun x hx => ?_, h.objs⟩
  rcases List.mem_or_eq_of_mem_set hx with hx | rfl
  · exact h.kids x hx
  · rw [hA, hc, hk]
    exact h.kids q (List.mem_of_getElem? hq)
theorem OwnP.rowS {w : World} {base g c : Nat} {qs : List Prt} {fs : List (Nat × Obj)} (h : OwnP w base (some ⟨g, 0, none⟩) c qs) (hf : ∀ x ∈ fs, w.heap[x.1]? = some x.2) : RowS base g c qs.length fs qs qs w := ⟨h.row, h.kids, hf⟩
theorem RowS.own {w : World} {base g c n : Nat} {qs : List Prt} {fs : List (Nat × Obj)} (h : RowS base g c n fs qs qs w) (hn : n = qs.length) (hf : ∀ q ∈ qs, FineP q) : OwnP w base (some ⟨g, 0, none⟩) c qs := by
  subst hn
  exact ⟨h.row, h.kids, hf⟩
end Go.Proofs.Ytggmljookcmnkaa
