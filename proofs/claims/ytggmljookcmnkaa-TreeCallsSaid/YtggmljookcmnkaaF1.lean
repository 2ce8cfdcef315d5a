/- F1: 2 texts in one. -/
import Derived.Test.YtggmljookcmnkaaE3
import Derived.Test.YtggmljookcmnkaaNh
import Derived.Test.YtggmljookcmnkaaD1
import Derived.WalkSpells
import Derived.WalkLawsBesides
import Derived.BigRegion
import Derived.Deep.RegionWith
import Derived.Deep.QuietTactic
import Derived.Deep.DeepCutAuto
import Derived.Deep.RegionHeld3
import Derived.Deep.RegionLaw
import Derived.BigQuiet
import Derived.Lib.Hide
/- Stores into rows of parts; the contract of Bare. -/
namespace Go.Proofs.Ytggmljookcmnkaa
open Go.RowKit
attribute [local go_sem] more_drew more_drewN more_size more_cell more_frozen more_setCell drew_more drewN_more lt_add_r lt_add_r2 lt_add_r3 lt_add_r4 lt_add_r5 lt_add_r6 lt_add_r7 lt_add_r8 lt_add_r9 lt_add_r10 lt_self_r lt_self_r2

theorem OwnP.lens {w : World} {base c _ : Nat} {A : Option Addr} {qs : List Prt} (h : OwnP w base A c qs) (h0 : 0 < qs.length) : ∃ g, A = some ⟨g, 0, none⟩ ∧ base ≤ g ∧ g < w.heap.size := row_block h.row h0
theorem setCell_keep {w : World} {base g n c k : Nat} {qs : List Prt} {u : Value} {A : Option Addr} {kc : Nat} {xs : List Int} (hk : OwnI w base A kc xs) (hr : w.ownsRow base 33 8 (.slice (some ⟨g, 0, none⟩) n c) n (pv qs)) : OwnI (w.setCell ⟨g, k, none⟩ u) base A kc xs :=
  kids_keep hk hr fun b hb hne => by
    have : b ≠ g := fun h => hne (by rw [h]; rfl)
    simp [World.setCell, Array.getElem?_modify, Ne.symm this]
/-- a store into a part, its kids aside -/
theorem OwnP.put {w : World} {base c g : Nat} {qs : List Prt} (h : OwnP w base (some ⟨g, 0, none⟩) c qs) {i : Nat} {q q' : Prt} {r : Nat} {u : Value} (hi : qs[i]? = some q) (hr : r < 8) (hc : prtCells q' = (prtCells q).set r u)
    (hk : q'.kA = q.kA ∧ q'.kc = q.kc ∧ q'.nd.kids = q.nd.kids) (hf : FineP q') : OwnP (w.setCell ⟨g, i * 8 + r, none⟩ u) base (some ⟨g, 0, none⟩) c (qs.set i q') := by
  refine ⟨by rw [List.length_set]; exact row_store h.row hi hr hc, fun x hx => ?_, fun x hx => ?_⟩
  · rcases List.mem_or_eq_of_mem_set hx with hx | rfl
    · exact setCell_keep (h.kids x hx) h.row
    · rw [hk.1, hk.2.1, hk.2.2]
      exact setCell_keep (h.kids q (List.mem_of_getElem? hi)) h.row
  · rcases List.mem_or_eq_of_mem_set hx with hx | rfl
    · exact h.fine x hx
    · exact hf
/-- a part's cells in a row -/
structure CellsP (w : World) (b k : Nat) (p : Prt) : Prop where
  sym : w.cell? ⟨b, k, none⟩ = some (.int .i64 p.nd.sym)
  kind : w.cell? ⟨b, k + 1, none⟩ = some (.int .i64 p.nd.kind)
  lo : w.cell? ⟨b, k + 2, none⟩ = some (.int .i64 p.nd.lo)
  inn : w.cell? ⟨b, k + 3, none⟩ = some (.int .i64 p.nd.inn)
  hi : w.cell? ⟨b, k + 4, none⟩ = some (.int .i64 p.nd.hi)
  look : w.cell? ⟨b, k + 5, none⟩ = some (.int .i64 p.nd.look)
  kids : w.cell? ⟨b, k + 6, none⟩ = some (.slice p.kA p.nd.kids.length p.kc)
  met : w.cell? ⟨b, k + 7, none⟩ = some (.int .u64 p.nd.met)
  lt : b < w.heap.size
  frozen : ∀ j, w.frozen? ⟨b, j, none⟩ = false
theorem OwnP.at {w : World} {base c g : Nat} {qs : List Prt} (h : OwnP w base (some ⟨g, 0, none⟩) c qs) {i : Nat} {q : Prt} (hi : qs[i]? = some q) : CellsP w g (i * 8) q := by
  obtain ⟨b, off, he, hb, hc⟩ := h.cells.1 (by have := (List.getElem?_eq_some_iff.1 hi).1; omega)
  injection he with he
  injection he with he1 he2
  subst he1 he2
  obtain ⟨d0, d1, d2, d3, d4, d5, d6, d7⟩ := hc i q hi
  rw [Nat.zero_add] at d0 d1 d2 d3 d4 d5 d6 d7
  exact ⟨d0, d1, d2, d3, d4, d5, d6, d7, hb, fun j => World.ownsRow.frozenAt h.row j⟩
def Nd.unmet (p : Nd) : Nd := { p with met := 0 }
def Prt.unmet (p : Prt) : Prt := { p with nd := p.nd.unmet }
def unmetTo (qs : List Prt) (j : Nat) : List Prt := (qs.take j).map Prt.unmet ++ qs.drop j
theorem unmetTo_length (qs : List Prt) (j : Nat) : (unmetTo qs j).length = qs.length := by unfold unmetTo; simp; omega
theorem unmetTo_get {qs : List Prt} {j : Nat} {q : Prt} (h : qs[j]? = some q) : (unmetTo qs j)[j]? = some q ∧ (unmetTo qs j).set j q.unmet = unmetTo qs (j + 1) := by
  have hj := (List.getElem?_eq_some_iff.1 h).1
  have hl : ((qs.take j).map Prt.unmet).length = j := by simp; omega
  unfold unmetTo
  refine ⟨by rw [List.getElem?_append_right (by omega), hl, Nat.sub_self, List.getElem?_drop, Nat.add_zero]; exact h, ?_⟩
  rw [List.set_append_right _ _ (by omega), hl, Nat.sub_self, List.drop_eq_getElem_cons hj, List.set_cons_zero, List.take_succ_eq_append_getElem hj, List.map_append, List.append_assoc]
  rw [List.getElem?_eq_getElem hj] at h
  injection h with h
  rw [h]
  rfl
theorem unmetTo_all (qs : List Prt) : nds (unmetTo qs qs.length) = (nds qs).map Nd.unmet := by
  unfold unmetTo nds
  simp
  intro p _
  rfl
set_option maxRecDepth 100000 in
set_option maxHeartbeats 2000000 in
theorem bare_yes (A : Option Addr) (c : Nat) (ps : List Prt) (w : World) (h : PS w A c ps) (T : Tree (nds ps)) : Calls Try.prog 50 #[.slice A ps.length c] w (PartsRet w ((nds ps).map Nd.unmet)) := by
  have hl := h.few.len
  have hp := T.pos
  rw [nds_length] at hp
  have S := Lib.hid h
  have HT := Lib.hid T
  clear h T
  go_enter Try.func50, Try.ntmps50
  go_wp2_with fail
  refine (check_ok S.out HT.out).mono ?_
  rintro e w1 ⟨rfl, hx1⟩
  have HX1 := Lib.hid hx1
  clear hx1
  go_wp2_with fail
  refine (copy_any A c ps w1 (S.out.ext HX1.out).parts (S.out.ext HX1.out).oks S.out.few).mono ?_
  rintro e w2 ⟨A2, c2, qs, rfl, hn, ho, hx⟩
  have hql : qs.length = ps.length := by rw [← nds_length, hn, nds_length]
  obtain ⟨g, rfl, hg1, hg2⟩ := row_block ho.row (by omega)
  have hbase := Nat.le_trans HX1.out.size hg1
  have HN := Lib.hid hn
  have HO : Hid (OwnP w2 w.heap.size (some ⟨g, 0, none⟩) c2 (unmetTo qs 0)) := Lib.hid (by unfold unmetTo; simpa using ho.base HX1.out.size)
  have HX2 := Lib.hid (HX1.out.trans hx)
  have HQL := Lib.hid hql
  have hcp := ho.cells.2.1
  clear hn ho hx hg1 hg2
  rw [hql] at hcp ⊢
  clear hql
  go_wp2_with fail
  go_loopw [12] (fun i wr => ∃ j : Nat, j ≤ ps.length ∧ i = .int .i64 j ∧ Hid (OwnP wr w.heap.size (some ⟨g, 0, none⟩) c2 (unmetTo qs j)) ∧ Hid (Ext w wr)) (fun i _ => ps.length - (intOf i).toNat)
  case atStart => exact ⟨0, Nat.zero_le _, rfl, HO, HX2⟩
  case round =>
    obtain ⟨j, hj, rfl, ho, hx⟩ := hrel
    by_cases hlt : j < ps.length
    · obtain ⟨q, hq⟩ : ∃ q, qs[j]? = some q := ⟨_, List.getElem?_eq_getElem (by rw [HQL.out]; exact hlt)⟩
      have hget := unmetTo_get hq
      have hat := ho.out.at hget.1
      have d7 := hat.met
      have f7 := hat.frozen (j * 8 + 7)
      have l7 := hat.lt
      have HG := Lib.hid hget
      clear hget hat hq
      go_wp2_with fail
      go_roundw
      case rel =>
        refine ⟨j + 1, by omega, by go_num, Lib.hid ?_, Lib.hid (hx.out.setCell hbase _)⟩
        rw [← HG.out.2]
        have f := ho.out.fine q (List.mem_of_getElem? HG.out.1)
        exact ho.out.put HG.out.1 (by omega) rfl ⟨rfl, rfl, rfl⟩ ⟨f.sym, f.kind, f.lo, f.inn, f.hi, f.look, ⟨by show (0 : Int) ≤ 0; omega, by show (0 : Int) ≤ _; omega⟩, f.ks⟩
      case measure => simp [intOf]; omega
    · obtain rfl : j = ps.length := by omega
      go_wp2_with fail
      go_ret
      refine ⟨some ⟨g, 0, none⟩, c2, unmetTo qs ps.length, by rw [unmetTo_length, HQL.out]; rfl, ?_, ho.out, hx.out⟩
      rw [← HQL.out, unmetTo_all, HN.out]
theorem bare_no (A : Option Addr) (c : Nat) (ps : List Prt) (w : World) (h : PS w A c ps) (T : ¬ Tree (nds ps)) : Calls Try.prog 50 #[.slice A ps.length c] w fun e w' => e = .returned (.slice none 0 0) ∧ Ext w w' := by
  have hl := h.few.len
  have S := Lib.hid h
  have HT := Lib.hid T
  clear h T
  go_enter Try.func50, Try.ntmps50
  go_wp2_with fail
  refine (check_no S.out HT.out).mono ?_
  rintro e w1 ⟨rfl, hx1⟩
  have HX1 := Lib.hid hx1
  clear hx1
  go_wp2_with fail
  go_ret
  exact ⟨rfl, HX1.out⟩
end Go.Proofs.Ytggmljookcmnkaa

/- The contracts of own; the state of edited. -/
namespace Go.Proofs.Ytggmljookcmnkaa
open Go.RowKit
attribute [local go_sem] more_drew more_drewN more_size more_cell more_frozen more_setCell drew_more drewN_more lt_add_r lt_add_r2 lt_add_r3 lt_add_r4 lt_add_r5 lt_add_r6 lt_add_r7 lt_add_r8 lt_add_r9 lt_add_r10 lt_self_r lt_self_r2

set_option maxRecDepth 100000 in
set_option maxHeartbeats 1000000 in
theorem own_any (p : Prt) (w : World) : Calls Try.prog 95 #[aggV p] w fun e w' => e = .returned (.agg #[.int .i64 (ownLo p.nd), .int .i64 p.nd.look]) ∧ Ext w w' := by
  obtain ⟨⟨sym, kind, lo, inn, hi, look, kids, met⟩, kA, kc⟩ := p
  by_cases hk : kind = 1
  · have HO : Hid (ownLo ⟨sym, kind, lo, inn, hi, look, kids, met⟩ = -1) := Lib.hid (if_pos hk)
    have hk1 : (kind == 1) = true := by simpa using hk
    clear hk
    go_enter Try.func95, Try.ntmps95
    go_wp2_with fail
    refine bodyPost_ret (v := .agg #[.int .i64 (-1), .int .i64 look]) (by simp [results, Try.results95, go_sem, *]) rfl ⟨?_, (by repeat (first | exact Ext.refl _ | refine Ext.alloc ?_ _ | refine Ext.more ?_ _ _ | refine Ext.drew ?_ | refine Ext.drewN ?_ _ | refine Ext.setCell ?_ (by simp <;> omega) _))⟩
    rw [HO.out]
  · have HO : Hid (ownLo ⟨sym, kind, lo, inn, hi, look, kids, met⟩ = lo) := Lib.hid (if_neg hk)
    have hk1 : (kind == 1) = false := by simpa using hk
    clear hk
    go_enter Try.func95, Try.ntmps95
    go_wp2_with fail
    refine bodyPost_ret (v := .agg #[.int .i64 lo, .int .i64 look]) (by simp [results, Try.results95, go_sem, *]) rfl ⟨?_, (by repeat (first | exact Ext.refl _ | refine Ext.alloc ?_ _ | refine Ext.more ?_ _ _ | refine Ext.drew ?_ | refine Ext.drewN ?_ _ | refine Ext.setCell ?_ (by simp <;> omega) _))⟩
    rw [HO.out]
/-- where 'edited' is: the part, the edit, the result -/
structure EdW (w wr : World) (b : Nat) (a d i : Int) (p : Prt) : Prop where
  part : wr.heap[b]? = some (.cells (prtCells p).toArray 33)
  ed : wr.heap[b + 1]? = some (.cells #[.int .i64 a, .int .i64 d, .int .i64 i] 63)
  res : wr.heap[b + 1 + 1]? = some (.cells #[.int .i64 0, .int .i64 0, .int .i64 0, .int .i64 0, .int .i64 0, .int .i64 0, .slice none 0 0, .int .u64 0] 33)
  ext : Ext w wr
  size : w.heap.size = b
theorem EdW.more {w wr wr' : World} {b : Nat} {a d i : Int} {p : Prt} (h : EdW w wr b a d i p) (e : Ext wr wr') : EdW w wr' b a d i p := ⟨ext_block h.part e, ext_block h.ed e, ext_block h.res e, h.ext.trans e, h.size⟩
theorem EdW.set {w wr : World} {b : Nat} {a d i : Int} {p p' : Prt} (h : EdW w wr b a d i p) {k : Nat} {u : Value} (hc : prtCells p' = (prtCells p).set k u) : EdW w (wr.setCell ⟨b, k, none⟩ u) b a d i p' := by
  refine ⟨?_, by have := h.ed; simp [World.setCell, Array.getElem?_modify, this], by have := h.res; simp [World.setCell, Array.getElem?_modify, this]; intro h; omega, h.ext.setCell (by show _ ≤ b; have := h.size; omega) _, h.size⟩
  rw [hc]
  have := h.part
  simp [World.setCell, Array.getElem?_modify, this]
theorem EdW.cells {w wr : World} {b : Nat} {a d i : Int} {p : Prt} (h : EdW w wr b a d i p) :
    (wr.cell? ⟨b, 0, none⟩ = some (.int .i64 p.nd.sym) ∧ wr.cell? ⟨b, 1, none⟩ = some (.int .i64 p.nd.kind) ∧ wr.cell? ⟨b, 2, none⟩ = some (.int .i64 p.nd.lo) ∧ wr.cell? ⟨b, 3, none⟩ = some (.int .i64 p.nd.inn) ∧ wr.cell? ⟨b, 4, none⟩ = some (.int .i64 p.nd.hi) ∧
      wr.cell? ⟨b, 5, none⟩ = some (.int .i64 p.nd.look) ∧ wr.cell? ⟨b, 6, none⟩ = some (.slice p.kA p.nd.kids.length p.kc) ∧ wr.cell? ⟨b, 7, none⟩ = some (.int .u64 p.nd.met)) ∧
    (wr.cell? ⟨b + 1, 0, none⟩ = some (.int .i64 a) ∧ wr.cell? ⟨b + 1, 1, none⟩ = some (.int .i64 d) ∧ wr.cell? ⟨b + 1, 2, none⟩ = some (.int .i64 i)) ∧ (b < wr.heap.size ∧ b + 1 < wr.heap.size ∧ b + 1 + 1 < wr.heap.size) ∧
    (wr.frozen? ⟨b, 2, none⟩ = false ∧ wr.frozen? ⟨b, 3, none⟩ = false ∧ wr.frozen? ⟨b, 4, none⟩ = false ∧ wr.frozen? ⟨b, 5, none⟩ = false) := by
  have h1 := h.part
  have h2 := h.ed
  have l1 := lt_of_heap h.part
  have l2 := lt_of_heap h.ed
  have l3 := lt_of_heap h.res
  have fz : ∀ k, wr.frozen? ⟨b, k, none⟩ = false := fun k => by simp [World.frozen?, h1]
  refine ⟨?_, ?_, ⟨l1, l2, l3⟩, fz 2, fz 3, fz 4, fz 5⟩
  · refine ⟨?_, ?_, ?_, ?_, ?_, ?_, ?_, ?_⟩ <;> simp [World.cell?, h1, prtCells]
  · refine ⟨?_, ?_, ?_⟩ <;> simp [World.cell?, h2]
theorem EdW.root {w wr : World} {b : Nat} {a d i t v : Int} {p : Prt} (S : EdW w wr b a d i p) (hk : p.nd.kind = 1) (hv : v = hiE ⟨a, d, i, id⟩ t p.nd) :
    EdW w (((wr.setCell ⟨b, 2, none⟩ (.int .i64 0)).setCell ⟨b, 5, none⟩ (.int .i64 1)).setCell ⟨b, 4, none⟩ (.int .i64 v)) b a d i ⟨{ p.nd with lo := loE ⟨a, d, i, id⟩ p.nd, hi := hiE ⟨a, d, i, id⟩ t p.nd, look := lookE ⟨a, d, i, id⟩ p.nd }, p.kA, p.kc⟩ := by
  rw [← hv, show loE ⟨a, d, i, id⟩ p.nd = 0 from if_pos hk, show lookE ⟨a, d, i, id⟩ p.nd = 1 from if_pos hk]
  exact ((S.set (p' := ⟨{ p.nd with lo := 0 }, p.kA, p.kc⟩) (k := 2) (u := .int .i64 0) rfl).set (p' := ⟨{ p.nd with lo := 0, look := 1 }, p.kA, p.kc⟩) (k := 5) (u := .int .i64 1) rfl).set (k := 4) rfl
end Go.Proofs.Ytggmljookcmnkaa
