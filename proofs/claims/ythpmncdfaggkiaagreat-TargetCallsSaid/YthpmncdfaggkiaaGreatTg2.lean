/- Tg: texts that the proof rests on, part 2. -/
import Derived.Test.YthpmncdfaggkiaaGreatCr1
import Derived.Test.YthpmncdfaggkiaaGreatCr10
import Derived.Test.YthpmncdfaggkiaaGreatCr11
import Derived.Test.YthpmncdfaggkiaaGreatCr2
import Derived.Test.YthpmncdfaggkiaaGreatCr3
import Derived.Test.YthpmncdfaggkiaaGreatCr5
import Derived.Test.YthpmncdfaggkiaaGreatCr6
import Derived.Test.YthpmncdfaggkiaaGreatCr7
import Derived.Test.YthpmncdfaggkiaaGreatCr8
import Derived.Test.YthpmncdfaggkiaaGreatCr9
import Derived.Test.YthpmncdfaggkiaaGreatTg1
import Derived.Deep.OwnRows
import Derived.WalkSpells
import Derived.WalkLawsBesides
import Derived.BigRegion
import Derived.Deep.RegionWith
import Derived.Deep.QuietTactic
import Derived.Deep.DeepCutAuto
import Derived.Deep.RegionHeld3
import Derived.Deep.RegionLaw
import Derived.BigQuiet
import Derived.Lib.Hide
import Derived.Test.YthpmncdfaggkiaaGreatChecked
import Derived.Maps.AppendAt
import Derived.Deep.AppendLies
import Derived.RegionTactic
import Derived.OwnWalk
import Derived.Laws.OwnMore
import Derived.RangeFuncNested
import Derived.RangeFuncBound
import Derived.RangeFuncCalls
import Derived.RangeFuncLeaves
import Derived.RangeFuncRecord
import Derived.RangeFuncIn
import Derived.Sort.QuietThIn
import Derived.Orders
import Derived.Deep.Quiet
import Derived.WalkKit
import Derived.Handy
import Derived.Deep.Draws
import Derived.OwnWalkIn
import Derived.TacticsInMore
import Derived.LoopNIn
import Derived.LoopIn
import Derived.Deep.LoopGhost
import Derived.Laws.EntriesVeiled
import Derived.Test.YthpmncdfaggkiaaGreatRows
import Derived.Shelf.Abstract
import Derived.Lib.AppendZeros
import Derived.Laws.BitsAllLaws
import Derived.Laws.Closers25b
import Derived.WalkMore
import Derived.ProofKit
import Derived.OpenShut
import Derived.SizedLaws
import Derived.Lib.SmallJoins
import Derived.Deep.Slices
import Derived.Deep.Fields
import Derived.ChangeSame
import Derived.Laws.Strings
import Derived.Laws.MakeOwn
import Derived.Lib.SlicesS
import Derived.Laws.StructEq
import Derived.Maps.OwnOps
import Derived.Maps.OwnSet
import Derived.Maps.Views
import Derived.Laws.BytesArg
namespace Go.Proofs.YthpmncdfaggkiaaGreat
open Go.RowKit
attribute [local go_sem] more_drew more_drewN more_size more_cell more_frozen more_setCell drew_more drewN_more lt_add_r lt_add_r2 lt_add_r3 lt_add_r4 lt_add_r5 lt_add_r6 lt_add_r7 lt_add_r8 lt_add_r9 lt_add_r10 lt_self_r lt_self_r2
def MadeI (w : World) (g : Nat) (us : List Int) : Prop := w.heap[g]? = some (.cells (iv us).toArray 3)
theorem made_cells (v : Value) (n : Nat) : madeCells #[v] n = (List.replicate n v).toArray := by
  apply Array.ext
  · simp [madeCells]
  · intro i h1 h2
    simp [madeCells, Nat.mod_one]
theorem MadeI.new (w : World) (n : Nat) : MadeI (w.alloc (.cells (madeCells #[.int .i64 0] n) 3)) w.heap.size (List.replicate n 0) := by
  unfold MadeI
  rw [heap_alloc_new, made_cells]
  unfold iv
  rw [List.map_replicate]
theorem MadeI.cell {w : World} {g : Nat} {us : List Int} (h : MadeI w g us) {k : Nat} (hk : k < us.length) : w.cell? ⟨g, k, none⟩ = some (.int .i64 (us.getD k 0)) ∧ w.frozen? ⟨g, k, none⟩ = false ∧ g < w.heap.size := by
  refine ⟨?_, by simp [World.frozen?, show w.heap[g]? = _ from h], lt_of_heap h⟩
  have := cell_of_row _ _ k _ _ _ h
  rw [this]
  simpa using iv_get hk
theorem MadeI.store {w : World} {g : Nat} {us : List Int} (h : MadeI w g us) (k : Nat) (x : Int) : MadeI (w.setCell ⟨g, k, none⟩ (.int .i64 x)) g (us.set k x) := by
  unfold MadeI at *
  simp [World.setCell, Array.getElem?_modify, h, iv, List.map_set]
theorem MadeI.ext {w w' : World} {g : Nat} {us : List Int} (h : MadeI w g us) (e : Ext w w') : MadeI w' g us := (e.below.block g (lt_of_heap h)).trans h
theorem MadeI.own {w : World} {g base : Nat} {us : List Int} (h : MadeI w g us) (hb : base ≤ g) (hl : us.length ≤ 1000000) : OwnI w base (some ⟨g, 0, none⟩) us.length us := by
  refine ⟨by rw [iv_length, Nat.mul_one], .inr ⟨g, us.length, (iv us).toArray, rfl, hb, h, Nat.le_refl _, by unfold maxLen; omega, by simp [iv_length], ?_⟩⟩
  rw [List.take_of_length_le (by simp [iv_length])]
structure ParUpto (l : List Nd) (us : List Int) (J K : Nat) : Prop where
  len : us.length = l.length
  root : us[0]? = some (-1)
  up : ∀ (i j : Nat) (p : Nd), l[j]? = some p → (j < J ∧ (i : Int) ∈ p.kids) ∨ (j = J ∧ (i : Int) ∈ p.kids.take K) → us[i]? = some (j : Int)
theorem ParUpto.first {l : List Nd} {us : List Int} (h : us.length = l.length) (h0 : us[0]? = some (-1)) : ParUpto l us 0 0 := ⟨h, h0, fun i j p _ hh => by
  rcases hh with ⟨h1, _⟩ | ⟨_, h2⟩
  · omega
  · simp at h2⟩
theorem ParUpto.kid {l : List Nd} (T : Tree l) {us : List Int} {J K : Nat} (h : ParUpto l us J K) {p : Nd} (hp : l[J]? = some p) {c : Nat} (hc : p.kids[K]? = some (c : Int)) : ParUpto l (us.set c (J : Int)) J (K + 1) := by
  have hcm : (c : Int) ∈ p.kids := List.mem_of_getElem? hc
  obtain ⟨c', e, h1, h2⟩ := T.kid_behind hp _ hcm
  obtain rfl : c = c' := by omega
  refine ⟨by rw [List.length_set]; exact h.len, by rw [List.getElem?_set_ne (by omega)]; exact h.root, fun i j q hq hh => ?_⟩
  by_cases hic : i = c
  · subst hic
    have : j = J := T.up_one (i := i) ⟨q, hq, by rcases hh with ⟨_, h⟩ | ⟨_, h⟩; exact h; exact List.mem_of_mem_take h⟩ ⟨p, hp, hcm⟩
    subst this
    rw [List.getElem?_set_self (by rw [h.len]; exact h2)]
  · rw [List.getElem?_set_ne (by omega)]
    refine h.up i j q hq ?_
    rcases hh with hh | ⟨rfl, hm⟩
    · exact .inl hh
    · refine .inr ⟨rfl, ?_⟩
      rw [hp] at hq
      cases hq
      rw [List.take_add_one, hc] at hm
      simp only [Option.toList_some, List.mem_append, List.mem_singleton] at hm
      rcases hm with hm | hm
      · exact hm
      · omega
theorem ParUpto.next {l : List Nd} {us : List Int} {J : Nat} {p : Nd} (hp : l[J]? = some p) (h : ParUpto l us J p.kids.length) : ParUpto l us (J + 1) 0 := by
  refine ⟨h.len, h.root, fun i j q hq hh => h.up i j q hq ?_⟩
  rcases hh with ⟨h1, h2⟩ | ⟨_, h2⟩
  · rcases Nat.lt_or_ge j J with hj | hj
    · exact .inl ⟨hj, h2⟩
    · obtain rfl : j = J := by omega
      rw [hp] at hq
      cases hq
      exact .inr ⟨rfl, by rwa [List.take_length]⟩
  · simp at h2
theorem ParUpto.done {l : List Nd} {us : List Int} (h : ParUpto l us l.length 0) : ParOk l us := ⟨h.len, h.root, fun i j ⟨p, hp, hk⟩ => h.up i j p hp (.inl ⟨lt_of_get hp, hk⟩)⟩
section
variable {A : Option Addr} {c : Nat} {ps : List Prt} {w : World}
def ParsRet (w : World) (l : List Nd) (e : Ending) (w' : World) : Prop := ∃ us, ParOk l us ∧ IntsRet w us e w'
set_option maxRecDepth 100000 in
set_option maxHeartbeats 1000000 in
theorem Parents_yes (h : PS w A c ps) (T : Tree (nds ps)) : Calls Tryz.prog 53 #[.slice A ps.length c] w (ParsRet w (nds ps)) := by
  have CH := zh (check_ok h T)
  have HS := zh h
  have hl := h.few.len
  have hl0 : 0 < ps.length := by have := T.pos; rwa [nds_length] at this
  have HT := zh T
  have hmk := run_make_row' (P := Tryz.prog) 31 3 (.int .i64 0) 8 Tryz.underlying31 infoInt rfl .i64 .i64 ps.length (by omega) (by omega)
  clear h T
  go_enter Tryz.func53, Tryz.ntmps53
  go_wp2_with fail
  refine CH.out.mono ?_
  rintro e w3 ⟨rfl, hx3⟩
  have HX3 := zh hx3
  clear hx3
  go_upto_region 4 with fail
  obtain ⟨W4, hW4⟩ : ∃ W4, w3.alloc (.cells (madeCells #[.int .i64 0] ps.length) 3) = W4 := ⟨_, rfl⟩
  have M4 : Hid (MadeI W4 w3.heap.size (List.replicate ps.length 0)) := hW4 ▸ MadeI.new _ _
  have X4 : Hid (Ext w W4) := hW4 ▸ HX3.out.alloc _
  have hg : w.heap.size ≤ w3.heap.size := HX3.out.size
  rw [hW4]
  generalize w3.heap.size = g at *
  obtain ⟨m1, m2, m3⟩ := M4.out.cell (k := 0) (by simp; omega)
  have M5 := zh (M4.out.store 0 (-1))
  have X5 := zh (X4.out.setCell (p := ⟨g, 0, none⟩) hg (.int .i64 (-1)))
  clear hW4 hmk
  go_wp2_with fail
  generalize hW5 : W4.setCell ⟨g, 0, none⟩ (.int .i64 (-1)) = W5 at *
  clear hW5 m1 m2 m3
  go_loopw [18] (fun i wr => ∃ (j : Nat) (us : List Int), j ≤ ps.length ∧ i = .int .i64 j ∧ Hid (MadeI wr g us) ∧ Hid (ParUpto (nds ps) us j 0) ∧ Hid (Ext w wr)) (fun i _ => ps.length - (intOf i).toNat)
  case atStart => exact ⟨0, _, Nat.zero_le _, rfl, M5, zh (ParUpto.first (by simp [nds_length]) (by rw [List.getElem?_set_self (by rw [List.length_replicate]; exact hl0)])), X5⟩
  case round =>
    obtain ⟨j, us, hj, rfl, hM, hU, hX⟩ := hrel
    by_cases hlt : j < ps.length
    · obtain ⟨⟨q, kA, kcap⟩, hq⟩ : ∃ q, ps[j]? = some q := ⟨_, List.getElem?_eq_getElem hlt⟩
      obtain ⟨b, off, rfl, hb, hcell⟩ := (HS.out.ext hX.out).parts (by omega)
      obtain ⟨d0, d1, d2, d3, d4, d5, d6, d7⟩ := hcell j _ hq
      have ho := (HS.out.oks.get hq)
      have o1 : q.kids.length ≤ kcap := ho.cap
      have o2 : kcap ≤ 9223372036854775807 := ho.top
      dsimp only at d0 d1 d2 d3 d4 d5 d6 d7
      have HOQ := zh ho
      have HQ := zh (nds_get hq)
      clear hcell hq ho
      go_wp2_with fail
      have M6 := zh (hM.out.ext (w' := wr.alloc (.cells #[.int .i64 q.sym, .int .i64 q.kind, .int .i64 q.lo, .int .i64 q.inn, .int .i64 q.hi, .int .i64 q.look, .slice kA q.kids.length kcap, .int .u64 q.met] 34)) ((Ext.refl _).alloc _))
      have X6 := zh (hX.out.alloc (.cells #[.int .i64 q.sym, .int .i64 q.kind, .int .i64 q.lo, .int .i64 q.inn, .int .i64 q.hi, .int .i64 q.look, .slice kA q.kids.length kcap, .int .u64 q.met] 34))
      generalize wr.alloc (.cells #[.int .i64 q.sym, .int .i64 q.kind, .int .i64 q.lo, .int .i64 q.inn, .int .i64 q.hi, .int .i64 q.look, .slice kA q.kids.length kcap, .int .u64 q.met] 34) = W6 at *
      clear d0 d1 d2 d3 d4 d5 d6 d7 hM hX
      go_loopw [26] (fun i wr => ∃ (k : Nat) (us : List Int), k ≤ q.kids.length ∧ i = .int .i64 k ∧ Hid (MadeI wr g us) ∧ Hid (ParUpto (nds ps) us j k) ∧ Hid (Ext w wr)) (fun i _ => q.kids.length - (intOf i).toNat)
      case atStart => exact ⟨0, us, Nat.zero_le _, rfl, M6, hU, X6⟩
      case round =>
        obtain ⟨k, us, hk, rfl, hM, hU, hX⟩ := hrel
        by_cases hkl : k < q.kids.length
        · obtain ⟨b2, off2, hkA, hb2, hc2⟩ := (HOQ.out.ext hX.out).kids (by show 0 < q.kids.length; omega)
          change kA = _ at hkA
          subst hkA
          have e1 := hc2 k hkl
          obtain ⟨i, hi1, hi2, hi3⟩ := HT.out.kid_behind HQ.out (q.kids.getD k 0) (by rw [List.getD_eq_getElem?_getD, List.getElem?_eq_getElem hkl]; exact List.getElem_mem hkl)
          dsimp only at e1
          rw [hi1] at e1
          rw [nds_length] at hi3
          have hlen := hU.out.len
          rw [nds_length] at hlen
          obtain ⟨m1, m2, m3⟩ := hM.out.cell (k := i) (by omega)
          have M7 := zh (hM.out.store i j)
          have X7 := zh (hX.out.setCell (p := ⟨g, i, none⟩) hg (.int .i64 (j : Int)))
          have U7 := zh (hU.out.kid HT.out HQ.out (c := i) (K := k) (by rw [← hi1, List.getD_eq_getElem?_getD, List.getElem?_eq_getElem hkl]; rfl))
          clear hc2 hi1 hM hU hX hlen
          go_wp2_with fail
          go_roundw
          case rel => exact ⟨k + 1, _, by omega, by go_num, M7, U7, X7⟩
          case measure => simp [intOf]; omega
        · obtain rfl : k = q.kids.length := by omega
          go_wp2_with fail
          go_roundw
          case rel => exact ⟨j + 1, us, by omega, by go_num, hM, zh (ParUpto.next HQ.out hU.out), hX⟩
          case measure => simp [intOf]; omega
    · obtain rfl : j = ps.length := by omega
      go_wp2_with fail
      go_ret
      have hlen := hU.out.len
      rw [nds_length] at hlen
      have e : (Value.slice (some ⟨g, 0, none⟩) ps.length ps.length) = .slice (some ⟨g, 0, none⟩) us.length us.length := by rw [hlen]
      exact ⟨us, ParUpto.done (by rw [nds_length]; exact hU.out), some ⟨g, 0, none⟩, us.length, by rw [← e]; rfl, hM.out.own hg (by omega), hX.out⟩
end

theorem pv_length (ps : List Prt) : (pv ps).length = ps.length * 8 := by
  induction ps with
  | nil => rfl
  | cons p ps ih => simp only [pv, List.flatMap_cons, List.length_append, List.length_cons] at *; rw [ih]; simp [prtCells]; omega
theorem pv_get : ∀ {ps : List Prt} {k : Nat} {p : Prt} (r : Nat), ps[k]? = some p → r < 8 → (pv ps)[k * 8 + r]? = (prtCells p)[r]?
  | [], k, p, r, h, _ => by simp at h
  | q :: ps, 0, p, r, h, hr => by
    simp at h
    subst h
    simp only [pv, List.flatMap_cons, Nat.zero_mul, Nat.zero_add]
    rw [List.getElem?_append_left (by simp [prtCells]; omega)]
  | q :: ps, k + 1, p, r, h, hr => by
    simp only [pv, List.flatMap_cons]
    rw [List.getElem?_append_right (by simp [prtCells]; omega)]
    have := pv_get (ps := ps) (k := k) r (by simpa using h) hr
    rw [← this]
    congr 1
    simp [prtCells]
    omega
theorem Prts.of_cells {w : World} {A : Option Addr} {ps : List Prt} (h : CellsAt w A (pv ps)) : Prts w A ps := fun h0 => by
  obtain ⟨b, off, hA, hb, hc⟩ := h (by rw [pv_length]; omega)
  refine ⟨b, off, hA, hb, fun k p hk => ?_⟩
  have key : ∀ r v, r < 8 → (prtCells p)[r]? = some v → w.cell? ⟨b, off + k * 8 + r, none⟩ = some v := fun r v hr hv => by
    rw [Nat.add_assoc]
    exact hc _ _ ((pv_get r hk hr).trans hv)
  exact ⟨by have := key 0 _ (by omega) rfl; simpa using this, key 1 _ (by omega) rfl, key 2 _ (by omega) rfl, key 3 _ (by omega) rfl, key 4 _ (by omega) rfl, key 5 _ (by omega) rfl, key 6 _ (by omega) rfl, key 7 _ (by omega) rfl⟩


theorem kc_same : ∀ {l l' : List Nd}, l.map (fun p => p.kids.length) = l'.map (fun p => p.kids.length) → ∀ n m, kc l n m = kc l' n m := by
  intro l l' h n m
  unfold kc
  rw [List.map_drop, List.map_take, h, ← List.map_take, ← List.map_drop]
theorem pv_set : ∀ {qs : List Prt} {i : Nat} {q q' : Prt} {r : Nat} {u : Value}, qs[i]? = some q → r < 8 → prtCells q' = (prtCells q).set r u → pv (qs.set i q') = (pv qs).set (i * 8 + r) u
  | [], i, q, q', r, u, h, _, _ => by simp at h
  | p :: qs, 0, q, q', r, u, h, hr, hc => by
    simp at h
    subst h
    simp only [List.set_cons_zero, pv, List.flatMap_cons, Nat.zero_mul, Nat.zero_add]
    rw [hc, List.set_append_left _ _ (by simp [prtCells]; omega)]
  | p :: qs, i + 1, q, q', r, u, h, hr, hc => by
    have ih := pv_set (qs := qs) (i := i) (q := q) (q' := q') (r := r) (u := u) (by simpa using h) hr hc
    simp only [List.set_cons_succ]
    have e : pv (p :: qs.set i q') = prtCells p ++ pv (qs.set i q') := by simp [pv]
    have e2 : pv (p :: qs) = prtCells p ++ pv qs := by simp [pv]
    rw [e, e2, ih, List.set_append_right _ _ (by simp [prtCells]; omega)]
    congr 2
    simp [prtCells]
    omega
theorem row_store {w : World} {base g c n : Nat} {qs : List Prt} (h : w.ownsRow base 34 8 (.slice (some ⟨g, 0, none⟩) n c) n (pv qs)) {i : Nat} {q q' : Prt} {r : Nat} {u : Value} (hi : qs[i]? = some q) (hr : r < 8) (hc : prtCells q' = (prtCells q).set r u) :
    (w.setCell ⟨g, i * 8 + r, none⟩ u).ownsRow base 34 8 (.slice (some ⟨g, 0, none⟩) n c) n (pv (qs.set i q')) := by
  obtain ⟨h1, h2⟩ := h
  rw [pv_set hi hr hc]
  rcases h2 with ⟨h2, _⟩ | ⟨g', cap, cur, h2, h3, h4, h5, h6, h7, h8⟩
  · cases h2
  · injection h2 with a1 a2 a3
    injection a1 with a1
    injection a1 with a1
    subst a1 a3
    refine ⟨by rw [List.length_set]; exact h1, .inr ⟨g, c, cur.setIfInBounds (i * 8 + r) u, rfl, h3, by simp [World.setCell, Array.getElem?_modify, h4], h5, h6, by rw [Array.size_setIfInBounds]; exact h7, ?_⟩⟩
    rw [Array.toList_setIfInBounds, List.take_set, h8]
end Go.Proofs.YthpmncdfaggkiaaGreat
namespace Go.Proofs.YthpmncdfaggkiaaGreat
open Go.RowKit
end Go.Proofs.YthpmncdfaggkiaaGreat
namespace Go.Proofs.YthpmncdfaggkiaaGreat
end Go.Proofs.YthpmncdfaggkiaaGreat
namespace Go.Proofs.YthpmncdfaggkiaaGreat
open Go.RowKit
theorem part_cells {W : World} {m : Nat} {p : Prt} (h : W.heap[m]? = some (.cells (prtCells p).toArray 34)) : m < W.heap.size ∧ W.cell? ⟨m, 0, none⟩ = some (.int .i64 p.nd.sym) ∧ W.cell? ⟨m, 1, none⟩ = some (.int .i64 p.nd.kind) ∧ W.cell? ⟨m, 2, none⟩ = some (.int .i64 p.nd.lo) ∧
    W.cell? ⟨m, 3, none⟩ = some (.int .i64 p.nd.inn) ∧ W.cell? ⟨m, 4, none⟩ = some (.int .i64 p.nd.hi) ∧ W.cell? ⟨m, 5, none⟩ = some (.int .i64 p.nd.look) ∧ W.cell? ⟨m, 6, none⟩ = some (.slice p.kA p.nd.kids.length p.kc) ∧ W.cell? ⟨m, 7, none⟩ = some (.int .u64 p.nd.met) :=
  ⟨lt_of_heap h, cell_of_row _ _ 0 _ _ _ h, cell_of_row _ _ 1 _ _ _ h, cell_of_row _ _ 2 _ _ _ h, cell_of_row _ _ 3 _ _ _ h, cell_of_row _ _ 4 _ _ _ h, cell_of_row _ _ 5 _ _ _ h, cell_of_row _ _ 6 _ _ _ h, cell_of_row _ _ 7 _ _ _ h⟩
end Go.Proofs.YthpmncdfaggkiaaGreat
namespace Go.Proofs.YthpmncdfaggkiaaGreat
open Go.RowKit
attribute [local go_sem] more_drew more_drewN more_size more_cell more_frozen more_setCell drew_more drewN_more lt_add_r lt_add_r2 lt_add_r3 lt_add_r4 lt_add_r5 lt_add_r6 lt_add_r7 lt_add_r8 lt_add_r9 lt_add_r10 lt_self_r lt_self_r2
attribute [local go_sem] Oper.semAt_some
def encM (x : Nat × Int) : Array Value := #[.int .i64 (x.1 : Int), .int .u64 x.2]
def mets (l : List Nd) : List (Nat × Int) := l.mapIdx fun i p => (i, p.met)
theorem mets_length (l : List Nd) : (mets l).length = l.length := List.length_mapIdx
theorem mets_get (l : List Nd) (j : Nat) : (mets l)[j]? = (l[j]?).map fun p => (j, p.met) := List.getElem?_mapIdx
theorem met_make (A : Option Addr) (n c : Nat) (w : World) :
    Calls Tryz.prog 132 #[.slice A n c] w fun e w' => e = .returned (.func (.func 175) #[] #[pt w.heap.size]) ∧ w' = w.alloc (.cells #[.slice A n c] 22) := by
  go_enter Tryz.func132, Tryz.ntmps132
  go_wp2_with fail
  go_ret
  exact ⟨rfl, rfl⟩
def From (A : Option Addr) (ps : List Prt) (j : Nat) (W : World) : Prop := ∃ qs, Prts W A qs ∧ qs.length = ps.length ∧ ∀ k, j ≤ k → qs[k]? = ps[k]?
set_option maxRecDepth 100000 in
set_option maxHeartbeats 2000000 in
theorem met_iter (A : Option Addr) (c : Nat) (ps : List Prt) (w1 : World) (fb : Nat) (S : Nat → Prop) (hlen : ps.length ≤ 1000) (hcap : ps.length ≤ c) (htop : c ≤ 9223372036854775807)
    (hfb : w1.heap[fb]? = some (.cells #[.slice A ps.length c] 22)) :
    IterG Tryz.prog 175 #[pt fb] encM (mets (nds ps)) S (From A ps) w1 := by
  intro l J Jx K0 hSl hlw hK0 hJ hJx hR hY hJ0
  have HY := zh hY
  have HJ := zh hJ
  have HR0 := zh hR
  have c0 := cell_of_row _ _ 0 _ _ _ hfb
  simp at c0
  have l0 := lt_of_heap hfb
  have S0 : Hid (w1.heap.size ≤ w1.heap.size ∧ J 0 K0 w1) := zh ⟨Nat.le_refl _, hJ0⟩
  clear hY hJ hJx hJ0 hfb hSl hlw hK0 hR
  simp only [List.append_toArray, List.cons_append, List.nil_append]
  go_enter Tryz.func175, Tryz.ntmps175
  go_wp2_with fail
  clear c0 l0
  go_loopw [7] (fun v wr => ∃ (j : Nat) (K : Nat → Prop), j ≤ ps.length ∧ v = .int .i64 j ∧ Hid (w1.heap.size ≤ wr.heap.size ∧ J j K wr)) (fun v _ => ps.length - (intOf v).toNat)
  case atStart => exact ⟨0, K0, Nat.zero_le _, rfl, S0⟩
  case round =>
    obtain ⟨j, K, hj, rfl, hs⟩ := hrel
    by_cases hlt : j < ps.length
    · obtain ⟨p, hp⟩ : ∃ p, ps[j]? = some p := ⟨_, List.getElem?_eq_getElem hlt⟩
      obtain ⟨s2, s3⟩ := hs.out
      obtain ⟨qs, hq1, hq2, hq3⟩ := HR0.out _ _ _ s3
      obtain ⟨b, off, hA, hb, hcell⟩ := hq1 (by omega)
      obtain ⟨d0, d1, d2, d3, d4, d5, d6, d7⟩ := hcell j p ((hq3 j (Nat.le_refl _)).trans hp)
      have hpm : (mets (nds ps))[j]? = some (j, p.nd.met) := by rw [mets_get, nds_get hp]; rfl
      obtain ⟨W4, hW4⟩ : ∃ W4, wr.alloc (.cells (prtCells p).toArray 34) = W4 := ⟨_, rfl⟩
      have X4 : Ext wr W4 := by rw [← hW4]; exact (by repeat first | exact xr _ | refine xa ?_ _ | refine xm ?_ _ _ | refine xd ?_ | refine xn ?_ _ | refine xs ?_ (by simp <;> omega) _)
      have hP4 : W4.heap[wr.heap.size]? = some (.cells (prtCells p).toArray 34) := by rw [← hW4]; exact heap_alloc_new _ _
      obtain ⟨fn, tmps, assign, body, hy, hRound⟩ := HY.out j _ K W4 hpm (Nat.le_trans s2 X4.size) (HJ.out _ _ _ _ X4 s3)
      unfold encM at hy
      have HR := zh hRound
      have HW4 := zh hW4
      obtain ⟨ly, y0, y1, y2, y3, y4, y5, y6, y7⟩ := part_cells hP4
      rw [hA]
      have HX4 := zh X4
      clear hRound hcell hp s2 s3 hA hW4 X4 hP4 hq1 hq2 hq3 hpm
      go_upto_region 3 with fail
      rw [show wr.alloc (.cells #[.int .i64 p.nd.sym, .int .i64 p.nd.kind, .int .i64 p.nd.lo, .int .i64 p.nd.inn, .int .i64 p.nd.hi, .int .i64 p.nd.look, .slice p.kA p.nd.kids.length p.kc, .int .u64 p.nd.met] 34) = W4 from HW4.out]
      refine (wpIn_wide (n := 1)).1 ?_
      gi_wp2
      refine HR.out.mono ?_
      rintro e w8 ⟨t8, (⟨rfl, K', hK', hJ8⟩ | ⟨rfl, hJ8⟩)⟩
      · have n2 := Nat.le_trans hs.out.1 (Nat.le_trans HX4.out.size t8.size)
        have N8 := zh (show w1.heap.size ≤ w8.heap.size ∧ J (j + 1) K' w8 from ⟨n2, hJ8⟩)
        clear n2 hK' t8 hJ8 hs y0 y1 y2 y3 y4 y5 y6 y7 ly
        gi_wp2
        go_wp2_with fail
        go_roundw
        case rel => exact ⟨j + 1, K', by omega, by go_num, N8⟩
        case measure => simp [intOf]; omega
      · have n3 := Nat.le_trans hs.out.1 (Nat.le_trans HX4.out.size t8.size)
        clear t8 hs
        gi_wp2
        go_wp2_with fail
        refine bodyPost_ret (results_none rfl _ _ _) rfl ?_
        exact ⟨⟨_, rfl⟩, n3, .inr ⟨j + 1, by rw [mets_length, nds_length]; omega, hJ8⟩⟩
    · obtain rfl : j = ps.length := by omega
      go_wp2_with fail
      go_end0
      exact ⟨⟨_, rfl⟩, hs.out.1, .inl ⟨K, by rw [mets_length, nds_length]; exact hs.out.2⟩⟩
end Go.Proofs.YthpmncdfaggkiaaGreat
namespace Go.Proofs.YthpmncdfaggkiaaGreat
open Go.RowKit
attribute [local go_sem] more_drew more_drewN more_size more_cell more_frozen more_setCell drew_more drewN_more lt_add_r lt_add_r2 lt_add_r3 lt_add_r4 lt_add_r5 lt_add_r6 lt_add_r7 lt_add_r8 lt_add_r9 lt_add_r10 lt_self_r lt_self_r2
attribute [local go_sem] Oper.semAt_some
theorem From.of_prts {A : Option Addr} {ps : List Prt} {W : World} (h : Prts W A ps) (j : Nat) : From A ps j W := ⟨ps, h, rfl, fun _ _ => rfl⟩
theorem slot_any (n : Int) (w : World) : Calls Tryz.prog 130 #[.int .i64 n] w fun e w' => e = .returned (.bool (decide (0 ≤ n ∧ n < 64))) ∧ w = w' := by
  by_cases h1 : 0 ≤ n
  · by_cases h2 : n < 64
    · go_enter Tryz.func130, Tryz.ntmps130
      go_wp2_with fail
      go_ret
      exact ⟨ret_bool (by simp [h1, h2]), rfl⟩
    · go_enter Tryz.func130, Tryz.ntmps130
      go_wp2_with fail
      go_ret
      exact ⟨ret_bool (by simp [h1, h2]), rfl⟩
  · go_enter Tryz.func130, Tryz.ntmps130
    go_wp2_with fail
    go_ret
    exact ⟨ret_bool (by simp; omega), rfl⟩
end Go.Proofs.YthpmncdfaggkiaaGreat
namespace Go.Proofs.YthpmncdfaggkiaaGreat
open Go.RowKit
attribute [local go_sem] more_drew more_drewN more_size more_cell more_frozen more_setCell drew_more drewN_more lt_add_r lt_add_r2 lt_add_r3 lt_add_r4 lt_add_r5 lt_add_r6 lt_add_r7 lt_add_r8 lt_add_r9 lt_add_r10 lt_self_r lt_self_r2
def TellsB (w : World) (X : Prop) (e : Ending) (w' : World) : Prop := ∃ b, e = .returned (.bool b) ∧ (b = true ↔ X) ∧ Ext w w'
attribute [local go_sem] Oper.semAt_some
structure Dty where
  slot : Int
  lo : Int
  hi : Int
  age : Int
  level : Int
def dyV (d : Dty) : Value := .agg #[.int .i64 d.slot, .int .i64 d.lo, .int .i64 d.hi, .int .i64 d.age, .int .i64 d.level]
def DoneOk (l : List Nd) (i : Int) (d : Dty) : Prop := Tree l ∧ SlotN d.slot ∧ d.lo ≤ d.hi ∧ ∃ (k m : Nat) (p : Nd), i = (k : Int) ∧ l[k]? = some p ∧ Part l k m ∧ p.lo ≤ d.lo ∧ d.hi ≤ p.hi ∧ ∀ (n : Nat) (q : Nd), l[n]? = some q → tb q.met d.slot.toNat = true → k ≤ n ∧ n < m
section
variable {A : Option Addr} {c : Nat} {ps : List Prt} {w : World}
set_option maxRecDepth 100000 in
set_option maxHeartbeats 4000000 in
theorem done_any (i : Int) (d : Dty) (h : PS w A c ps) : Calls Tryz.prog 76 #[.slice A ps.length c, .int .i64 i, dyV d] w (TellsB w (DoneOk (nds ps) i d)) := by
  have HL := h.few.len
  have S := zh h
  clear h
  obtain ⟨slot, lo, hi', age, level⟩ := d
  unfold dyV
  dsimp only
  refine calls_of_marks Tryz.func76 rfl ?_
  simp only [Tryz.ntmps76, List.size_toArray, List.length_cons, List.length_nil, Nat.reduceAdd, Nat.reduceSub, Array.replicate_succ, Array.replicate_zero, List.push_toArray, List.append_toArray, List.nil_append, List.cons_append]
  go_upto_region 1 with fail
  obtain ⟨b, hb⟩ : ∃ b, w.heap.size = b := ⟨_, rfl⟩
  obtain ⟨W3, hW3⟩ : ∃ W3, ((w.alloc (.cells #[.int .i64 i] 3)).alloc (.cells #[.int .i64 slot, .int .i64 lo, .int .i64 hi', .int .i64 age, .int .i64 level] 26)).alloc (.cells #[.bool false] 4) = W3 := ⟨_, rfl⟩
  have X3 : Ext w W3 := by rw [← hW3]; exact (by repeat first | exact xr _ | refine xa ?_ _ | refine xm ?_ _ _ | refine xd ?_ | refine xn ?_ _ | refine xs ?_ (by simp <;> omega) _)
  have S3 : W3.heap.size = b + 3 := by rw [← hW3, ← hb]; simp
  have G0 : W3.heap[b]? = some (.cells #[.int .i64 i] 3) := by rw [← hW3, ← hb]; exact (by simp only [heap_alloc_get, World.size_alloc]; (repeat (split; (first | rfl | (exfalso; omega)))); (try (first | (exfalso; omega) | simp_all)))
  have G1 : W3.heap[b + 1]? = some (.cells #[.int .i64 slot, .int .i64 lo, .int .i64 hi', .int .i64 age, .int .i64 level] 26) := by rw [← hW3, ← hb]; exact (by simp only [heap_alloc_get, World.size_alloc]; (repeat (split; (first | rfl | (exfalso; omega)))); (try (first | (exfalso; omega) | simp_all)))
  have G2 : W3.heap[b + 1 + 1]? = some (.cells #[.bool false] 4) := by rw [← hW3, ← hb]; exact (by simp only [heap_alloc_get, World.size_alloc]; (repeat (split; (first | rfl | (exfalso; omega)))); (try (first | (exfalso; omega) | simp_all)))
  rw [hW3, hb]
  have HBW : Hid (w.heap.size = b) := zh hb
  have HX3 := zh X3
  have HG1 := zh G1
  have HG2 := zh G2
  have HG0 := zh G0
  have CEL := zh (fun (V : World) (x : Ext W3 V) => (⟨by simpa using cell_of_row _ _ 0 _ _ _ (ext_block HG0.out x), by simpa using cell_of_row _ _ 0 _ _ _ (ext_block HG1.out x), by simpa using cell_of_row _ _ 1 _ _ _ (ext_block HG1.out x), by simpa using cell_of_row _ _ 2 _ _ _ (ext_block HG1.out x),
    by simpa using cell_of_row _ _ 0 _ _ _ (ext_block HG2.out x), by simp [World.frozen?, ext_block HG2.out x], lt_of_heap (ext_block HG0.out x), lt_of_heap (ext_block HG1.out x), lt_of_heap (ext_block HG2.out x)⟩ :
    V.cell? ⟨b, 0, none⟩ = some (.int .i64 i) ∧ V.cell? ⟨b + 1, 0, none⟩ = some (.int .i64 slot) ∧ V.cell? ⟨b + 1, 1, none⟩ = some (.int .i64 lo) ∧ V.cell? ⟨b + 1, 2, none⟩ = some (.int .i64 hi') ∧ V.cell? ⟨b + 1 + 1, 0, none⟩ = some (.bool false) ∧ V.frozen? ⟨b + 1 + 1, 0, none⟩ = false ∧
      b < V.heap.size ∧ b + 1 < V.heap.size ∧ b + 1 + 1 < V.heap.size))
  have FIN : Hid (∀ (v : Bool) (V : World), Ext W3 V → Ext w (V.setCell ⟨b + 1 + 1, 0, none⟩ (.bool v)) ∧ (V.setCell ⟨b + 1 + 1, 0, none⟩ (.bool v)).cell? ⟨b + 1 + 1, 0, none⟩ = some (.bool v)) := zh fun v V x => by
    refine ⟨(HX3.out.trans x).setCell (by show w.heap.size ≤ b + 1 + 1; have := HBW.out; omega) _, ?_⟩
    have h1 := ext_block HG2.out x
    have h2 : (V.setCell ⟨b + 1 + 1, 0, none⟩ (.bool v)).heap[b + 1 + 1]? = some (.cells #[.bool v] 4) := by simp [World.setCell, Array.getElem?_modify, h1]
    simpa using cell_of_row _ _ 0 _ _ _ h2
  obtain ⟨k0, k1, k2, k3, k4, k5, l0, l1, l2⟩ := CEL.out W3 (Ext.refl _)
  clear hW3 hb X3 G0 G1 G2
  by_cases T : Tree (nds ps)
  · have HT := zh T
    clear T
    by_cases h0 : i < 0
    · have NO : Hid (¬ DoneOk (nds ps) i ⟨slot, lo, hi', age, level⟩) := zh (fun ⟨_, _, _, k, m, p, e, _⟩ => by omega)
      go_wp2_with fail
      refine (check_ok (S.out.ext HX3.out) HT.out).mono ?_
      rintro e w1 ⟨rfl, hx1⟩
      have HX1 := zh hx1
      clear k0 k1 k2 k3 k4 k5 l0 l1 l2
      obtain ⟨k0, k1, k2, k3, k4, k5, l0, l1, l2⟩ := CEL.out w1 HX1.out
      clear hx1
      go_wp2_with fail
      exact marks_ret (v := .bool false) rfl (by simp [results, Tryz.results76, go_sem, (FIN.out false _ HX1.out).2]) ⟨false, rfl, ⟨nofun, fun h => absurd h NO.out⟩, (FIN.out false _ HX1.out).1⟩
    · by_cases h1 : i < (ps.length : Int)
      · by_cases hs : SlotN slot
        · have h12 : 0 ≤ slot ∧ slot < 64 := hs
          obtain ⟨j, rfl⟩ : ∃ j : Nat, i = (j : Int) := ⟨i.toNat, by omega⟩
          have hjl : j < ps.length := by omega
          obtain ⟨p, hp⟩ : ∃ p, ps[j]? = some p := ⟨_, List.getElem?_eq_getElem hjl⟩
          have HPP := zh hp
          have HS := zh hs
          have HS12 := zh h12
          clear hp hs h0 h1 h12
          go_wp2_with fail
          refine (check_ok (S.out.ext HX3.out) HT.out).mono ?_
          rintro e w1 ⟨rfl, hx1⟩
          have HX1 := zh hx1
          clear k0 k1 k2 k3 k4 k5 l0 l1 l2
          obtain ⟨k0, k1, k2, k3, k4, k5, l0, l1, l2⟩ := CEL.out w1 HX1.out
          clear hx1
          go_wp2_with fail
          refine (slot_any slot _).mono ?_
          rintro e w2 ⟨rfl, rfl⟩
          rw [decide_eq_true HS12.out]
          go_upto_region 4 with fail
          obtain ⟨m4, hm4⟩ : ∃ m4, w1.heap.size = m4 := ⟨_, rfl⟩
          obtain ⟨W4, hW4⟩ : ∃ W4, w1.alloc (.cells #[.int .i64 lo, .int .i64 hi'] 24) = W4 := ⟨_, rfl⟩
          have X4 : Ext w1 W4 := by rw [← hW4]; exact (by repeat first | exact xr _ | refine xa ?_ _ | refine xm ?_ _ _ | refine xd ?_ | refine xn ?_ _ | refine xs ?_ (by simp <;> omega) _)
          have P4 : W4.heap[m4]? = some (.cells #[.int .i64 lo, .int .i64 hi'] 24) := by rw [← hW4, ← hm4]; exact heap_alloc_new _ _
          rw [hW4, hm4]
          have x0 := cell_of_row _ _ 0 _ _ _ P4
          have x1 := cell_of_row _ _ 1 _ _ _ P4
          simp at x0 x1
          have lm := lt_of_heap P4
          have HX4 := zh (HX1.out.trans X4)
          clear k0 k1 k2 k3 k4 k5 l0 l1 l2 hW4 hm4 X4 P4
          obtain ⟨k0, k1, k2, k3, k4, k5, l0, l1, l2⟩ := CEL.out W4 HX4.out
          obtain ⟨bA, off, rfl, hbA, hcell⟩ := (S.out.ext (HX3.out.trans HX4.out)).parts (by omega)
          have d2 := (hcell j p HPP.out).2.2.1
          have d4 := (hcell j p HPP.out).2.2.2.2.1
          obtain ⟨m, hpart⟩ := HT.out.part (i := j) (by rw [nds_length]; exact hjl)
          have HPT := zh hpart
          clear hcell hpart
          by_cases c1 : hi' < lo
          · have NO : Hid (¬ DoneOk (nds ps) (j : Int) ⟨slot, lo, hi', age, level⟩) := zh (fun ⟨_, _, h, _⟩ => by dsimp only at h; omega)
            refine wp_region_bt (25) (softs_bt [0, 1, 2, 3, 4, 5, 6, 7, 8, 9, 10, 11, 12, 13, 14, 15, 16, 17, 18, 19, 20, 21, 22, 23, 24] .fin) (by kernel_rfl) (by kernel_rfl) ?_
            refine bt_softs _ fun K hK => ?_; simp only [pick, nthC]; (repeat go_big_quiet_step (fail)); refine wpQuiet_nil (hK _ ?_); clear hK K
            (refine bt_fin ?_)
            go_wp2_with fail
            exact marks_ret (v := .bool false) rfl (by simp [results, Tryz.results76, go_sem, (FIN.out false W4 HX4.out).2]) ⟨false, rfl, ⟨nofun, fun h => absurd h NO.out⟩, (FIN.out false W4 HX4.out).1.drew⟩
          · by_cases c2 : lo < p.nd.lo
            · have NO : Hid (¬ DoneOk (nds ps) (j : Int) ⟨slot, lo, hi', age, level⟩) := zh (fun ⟨_, _, _, k', m', p', e, hp', _, h, _⟩ => by
                obtain rfl : j = k' := by omega
                rw [nds_get HPP.out] at hp'
                cases hp'
                dsimp only at h
                omega)
              refine wp_region_bt (25) (softs_bt [0, 1, 2, 3, 4, 5, 6, 7, 8, 9, 10, 11, 12, 13, 14, 15, 16, 17, 18, 19, 20, 21, 22, 23, 24] .fin) (by kernel_rfl) (by kernel_rfl) ?_
              refine bt_softs _ fun K hK => ?_; simp only [pick, nthC]; (repeat go_big_quiet_step (fail)); refine wpQuiet_nil (hK _ ?_); clear hK K
              (refine bt_fin ?_)
              go_wp2_with fail
              exact marks_ret (v := .bool false) rfl (by simp [results, Tryz.results76, go_sem, (FIN.out false W4 HX4.out).2]) ⟨false, rfl, ⟨nofun, fun h => absurd h NO.out⟩, (FIN.out false W4 HX4.out).1.drew⟩
            · by_cases c3 : p.nd.hi < hi'
              · have NO : Hid (¬ DoneOk (nds ps) (j : Int) ⟨slot, lo, hi', age, level⟩) := zh (fun ⟨_, _, _, k', m', p', e, hp', _, _, h, _⟩ => by
                  obtain rfl : j = k' := by omega
                  rw [nds_get HPP.out] at hp'
                  cases hp'
                  dsimp only at h
                  omega)
                refine wp_region_bt (25) (softs_bt [0, 1, 2, 3, 4, 5, 6, 7, 8, 9, 10, 11, 12, 13, 14, 15, 16, 17, 18, 19, 20, 21, 22, 23, 24] .fin) (by kernel_rfl) (by kernel_rfl) ?_
                refine bt_softs _ fun K hK => ?_; simp only [pick, nthC]; (repeat go_big_quiet_step (fail)); refine wpQuiet_nil (hK _ ?_); clear hK K
                (refine bt_fin ?_)
                go_wp2_with fail
                exact marks_ret (v := .bool false) rfl (by simp [results, Tryz.results76, go_sem, (FIN.out false W4 HX4.out).2]) ⟨false, rfl, ⟨nofun, fun h => absurd h NO.out⟩, (FIN.out false W4 HX4.out).1.drew⟩
              · have HC : Hid (lo ≤ hi' ∧ p.nd.lo ≤ lo ∧ hi' ≤ p.nd.hi) := zh ⟨by omega, by omega, by omega⟩
                have CE := zh (End_yes j m (S.out.ext (HX3.out.trans HX4.out.drew)) HT.out HPT.out)
                have YES : Hid ((∀ (n : Nat) (q : Nd), (nds ps)[n]? = some q → tb q.met slot.toNat = true → j ≤ n ∧ n < m) ↔ DoneOk (nds ps) (j : Int) ⟨slot, lo, hi', age, level⟩) := zh ⟨fun h => ⟨HT.out, HS.out, HC.out.1, j, m, p.nd, rfl, nds_get HPP.out, HPT.out, HC.out.2.1, HC.out.2.2, h⟩, fun ⟨_, _, _, k', m', p', e, hp', hm', _, _, h⟩ => by
                  obtain rfl : j = k' := by omega
                  obtain rfl := HPT.out.det hm'
                  exact h⟩
                refine wp_region_bt (25) (softs_bt [0, 1, 2, 3, 4, 5, 6, 7, 8, 9, 10, 11, 12, 13, 14, 15, 16, 17, 18, 19, 20, 21, 22, 23, 24] .fin) (by kernel_rfl) (by kernel_rfl) ?_
                refine bt_softs _ fun K hK => ?_; simp only [pick, nthC]; (repeat go_big_quiet_step (fail)); refine wpQuiet_nil (hK _ ?_); clear hK K
                (refine bt_fin ?_)
                clear x0 x1 lm d2 d4 c1 c2 c3
                go_wp2_with fail
                refine CE.out.mono ?_
                rintro e w5 ⟨rfl, hx5⟩
                have HX5 := zh (HX4.out.drew.trans hx5)
                clear k0 k1 k2 k3 k4 k5 l0 l1 l2 hx5
                obtain ⟨k0, k1, k2, k3, k4, k5, l0, l1, l2⟩ := CEL.out w5 HX5.out
                go_wp2_with fail
                obtain ⟨g, hg⟩ : ∃ g, w5.heap.size = g := ⟨_, rfl⟩
                refine (met_make _ ps.length c _).mono ?_
                rintro e w6 ⟨rfl, hw6⟩
                have X6 : Ext w5 w6 := by rw [hw6]; exact (by repeat first | exact xr _ | refine xa ?_ _ | refine xm ?_ _ _ | refine xd ?_ | refine xn ?_ _ | refine xs ?_ (by simp <;> omega) _)
                have S6 : w6.heap.size = g + 2 := by rw [hw6, ← hg]; simp
                have G6 : w6.heap[g]? = some (.cells #[.int .i64 m] 3) := by rw [hw6, ← hg]; exact (by simp only [heap_alloc_get, World.size_alloc]; (repeat (split; (first | rfl | (exfalso; omega)))); (try (first | (exfalso; omega) | simp_all)))
                have G7 : w6.heap[g + 1]? = some (.cells #[.slice (some ⟨bA, off, none⟩) ps.length c] 22) := by rw [hw6, ← hg]; exact (by simp only [heap_alloc_get, World.size_alloc]; (repeat (split; (first | rfl | (exfalso; omega)))); (try (first | (exfalso; omega) | simp_all)))
                have hgb : b + 3 ≤ g := by have := HX5.out.size; omega
                have HX6 := zh (HX5.out.trans X6)
                rw [World.size_alloc, hg]
                clear k0 k1 k2 k3 k4 k5 l0 l1 l2 hw6 X6 hg
                go_wp2_with fail
                refine wp_rangeG (gf := 175) (lb := #[pt (g + 1)]) (encs := encM) (xs := mets (nds ps)) (S := fun k => w.heap.size ≤ k) (R := From (some ⟨bA, off, none⟩) ps) rfl (enters_of Tryz.func175 (by kernel_rfl) rfl) (fun _ => rfl) (by have := HBW.out; omega)
                  (fun w7 hx _ => met_iter (some ⟨bA, off, none⟩) c ps w7 (g + 1) _ HL S.out.cap S.out.top (ext_block G7 hx))
                  (fun n K W => W.heap[b]? = some (.cells #[.int .i64 (j : Int)] 3) ∧ W.heap[b + 1]? = some (.cells #[.int .i64 slot, .int .i64 lo, .int .i64 hi', .int .i64 age, .int .i64 level] 26) ∧ W.heap[b + 1 + 1]? = some (.cells #[.bool false] 4) ∧ W.heap[g]? = some (.cells #[.int .i64 m] 3) ∧
                    Below w.heap.size w W ∧ (∀ k, K k ↔ k = b + 1 + 1) ∧ ∀ (k : Nat) (q : Nd), k < n → (nds ps)[k]? = some q → tb q.met slot.toNat = true → j ≤ k ∧ k < m)
                  (fun cd _ W => cd = .ret ∧ ¬ DoneOk (nds ps) (j : Int) ⟨slot, lo, hi', age, level⟩ ∧ W.heap[b + 1 + 1]? = some (.cells #[.bool false] 4) ∧ Below w.heap.size w W) (fun k => k = b + 1 + 1)
                  (fun k hk => ⟨by have := HBW.out; omega, by omega⟩) ?_ ?_ ?_ ?_ ?_ ?_ ?_ ?_
                · rintro n K U U' ht hsz ⟨i1, i2, i3, i4, i5, i6, i7⟩
                  rw [S6] at ht hsz
                  have hbw := HBW.out
                  exact ⟨(ht.block _ (lt_of_heap i1) (by omega)).trans i1, (ht.block _ (lt_of_heap i2) (by omega)).trans i2, (ht.block _ (lt_of_heap i3) (by omega)).trans i3, (ht.block _ (lt_of_heap i4) (by omega)).trans i4, i5.trans (ht.below (by omega) fun k hk => by omega), i6, i7⟩
                · rintro cd n U U' ht hsz ⟨i1, i2, i3, i4⟩
                  rw [S6] at ht hsz
                  have hbw := HBW.out
                  exact ⟨i1, i2, (ht.block _ (lt_of_heap i3) (by omega)).trans i3, i4.trans (ht.below (by omega) fun k hk => by omega)⟩
                · rintro n K U ⟨i1, i2, i3, i4, i5, i6, i7⟩
                  rw [S6]
                  exact ⟨fun h => by have := (i6 _).1 h; omega, fun h => by have := (i6 _).1 h; omega⟩
                · rintro n K U ⟨i1, i2, i3, i4, i5, i6, i7⟩
                  exact From.of_prts (S.out.parts.below i5) n
                · intro U hU
                  have hU6 := HX6.out.trans hU
                  exact ⟨ext_block HG0.out hU6, ext_block HG1.out hU6, ext_block HG2.out hU6, ext_block G6 hU, (HX3.out.trans hU6).below, fun _ => Iff.rfl, fun k q hk => by omega⟩
                · rintro l n x K W hx hI hsz
                  clear hI
                  rw [mets_get] at hx
                  obtain ⟨nd, hnd, rfl⟩ := Option.map_eq_some_iff.1 hx
                  clear hx
                  simp only [encM]
                  gi_wp2
                  refine ⟨(by repeat first | exact xr _ | refine xa ?_ _ | refine xm ?_ _ _ | refine xd ?_ | refine xn ?_ _ | refine xs ?_ (by simp <;> omega) _), ?_⟩
                  rintro W2 t2 ⟨i1, i2, i3, i4, i5, i6, i7⟩ hsz2
                  obtain ⟨qp, hqp, rfl⟩ := nds_get' hnd
                  have hmu : U64 qp.nd.met := (S.out.oks.get hqp).met
                  have hz := last_bit hmu slot.toNat
                  have y0 := cell_of_row _ _ 0 _ _ _ i1
                  have y1 := cell_of_row _ _ 0 _ _ _ i2
                  have y2 := cell_of_row _ _ 0 _ _ _ i3
                  have y3 := cell_of_row _ _ 0 _ _ _ i4
                  simp at y0 y1 y2 y3
                  have l0 := lt_of_heap i1
                  have l1 := lt_of_heap i2
                  have l2 := lt_of_heap i3
                  have l3 := lt_of_heap i4
                  have f2 : W2.frozen? ⟨b + 1 + 1, 0, none⟩ = false := by simp [World.frozen?, i3]
                  have I1 := zh i1
                  have I2 := zh i2
                  have I3 := zh i3
                  have I4 := zh i4
                  have I5 := zh i5
                  have I6 := zh i6
                  have I7 := zh i7
                  have HND := zh hnd
                  obtain ⟨hs1, hs2⟩ := HS12.out
                  have FNO : Hid ((¬ (j ≤ n ∧ n < m) ∧ tb qp.nd.met slot.toNat = true) → ∀ (V : World), Ext W2 V → Turn (fun k => K k ∨ W.heap.size ≤ k) W2 (V.setCell ⟨b + 1 + 1, 0, none⟩ (.bool false)) ∧ ¬ DoneOk (nds ps) (j : Int) ⟨slot, lo, hi', age, level⟩ ∧ (V.setCell ⟨b + 1 + 1, 0, none⟩ (.bool false)).heap[b + 1 + 1]? = some (.cells #[.bool false] 4) ∧ Below w.heap.size w (V.setCell ⟨b + 1 + 1, 0, none⟩ (.bool false))) := zh fun ⟨hn, ht⟩ V hV => by
                    have T1 : Turn (fun k => K k ∨ W.heap.size ≤ k) W2 (V.setCell ⟨b + 1 + 1, 0, none⟩ (.bool false)) := (Turn.of_ext hV).trans (Turn.setCell V (p := ⟨b + 1 + 1, 0, none⟩) (.inl ((I6.out _).2 rfl)) _)
                    refine ⟨T1, fun h => hn (YES.out.2 h n qp.nd HND.out ht), ?_, I5.out.trans (T1.below I5.out.size fun k hk => ?_)⟩
                    · have := ext_block I3.out hV
                      simp [World.setCell, Array.getElem?_modify, this]
                    · have hbw := HBW.out
                      rcases hk with hk | hk
                      · have := (I6.out k).1 hk; omega
                      · have := HX6.out.size; have := HX3.out.size; omega
                  have FOK : Hid (((j ≤ n ∧ n < m) ∨ tb qp.nd.met slot.toNat = false) → ∀ (k : Nat) (q : Nd), k < n + 1 → (nds ps)[k]? = some q → tb q.met slot.toNat = true → j ≤ k ∧ k < m) := zh fun h k q hk hq ht => by
                    rcases (show k < n ∨ k = n by omega) with h1 | rfl
                    · exact I7.out k q h1 hq ht
                    · rw [HND.out] at hq
                      cases hq
                      rcases h with h | h
                      · exact h
                      · rw [h] at ht; cases ht
                  clear i1 i2 i3 i4 i5 i6 i7 hnd hqp hmu t2
                  by_cases a1 : n < j
                  · cases ht : tb qp.nd.met slot.toNat with
                    | true =>
                      rw [ht, if_pos rfl] at hz
                      have R := zh (FNO.out ⟨by omega, ht⟩)
                      clear ht
                      gi_wp2
                      exact ⟨(R.out _ (Ext.refl _)).1, rfl, (R.out _ (Ext.refl _)).2⟩
                    | false =>
                      rw [ht, if_neg Bool.false_ne_true] at hz
                      have R := zh (FOK.out (.inr ht))
                      clear ht
                      gi_wp2
                      exact ⟨Turn.refl _, K, fun k hk => .inl hk, I1.out, I2.out, I3.out, I4.out, I5.out, I6.out, R.out⟩
                  · by_cases a2 : m ≤ n
                    · cases ht : tb qp.nd.met slot.toNat with
                      | true =>
                        rw [ht, if_pos rfl] at hz
                        have R := zh (FNO.out ⟨by omega, ht⟩)
                        clear ht
                        gi_wp2
                        exact ⟨(R.out _ (Ext.refl _)).1, rfl, (R.out _ (Ext.refl _)).2⟩
                      | false =>
                        rw [ht, if_neg Bool.false_ne_true] at hz
                        have R := zh (FOK.out (.inr ht))
                        clear ht
                        gi_wp2
                        exact ⟨Turn.refl _, K, fun k hk => .inl hk, I1.out, I2.out, I3.out, I4.out, I5.out, I6.out, R.out⟩
                    · have R := zh (FOK.out (.inl ⟨by omega, by omega⟩))
                      clear hz
                      gi_wp2
                      exact ⟨Turn.refl _, K, fun k hk => .inl hk, I1.out, I2.out, I3.out, I4.out, I5.out, I6.out, R.out⟩
                · rintro K V ⟨i1, i2, i3, i4, i5, i6, i7⟩ hsz hk
                  rw [S6] at hsz hk ⊢
                  rw [mets_length, nds_length] at i7
                  have y2 := cell_of_row _ _ 0 _ _ _ i3
                  simp at y2
                  have l2 := lt_of_heap i3
                  have f2 : V.frozen? ⟨b + 1 + 1, 0, none⟩ = false := by simp [World.frozen?, i3]
                  have D0 := YES.out.1 fun k q hq ht => i7 k q (by have := (List.getElem?_eq_some_iff.1 hq).1; rwa [nds_length] at this) hq ht
                  have T1 : Turn (fun k => k = b + 1 + 1 ∨ k = g + 2) V (V.setCell ⟨b + 1 + 1, 0, none⟩ (.bool true)) := Turn.setCell V (p := ⟨b + 1 + 1, 0, none⟩) (.inl rfl) _
                  have tD : Turn (fun k => k = b + 1 + 1 ∨ k = g + 2) (V.setCell ⟨b + 1 + 1, 0, none⟩ (.bool true)) ((V.setCell ⟨b + 1 + 1, 0, none⟩ (.bool true)).putObj (g + 2) (.deferred none)) := putObj_turn _ _ (.inr rfl)
                  have hbw := HBW.out
                  have OUT := zh (Ext.of_below (i5.trans ((T1.trans tD).below (n := w.heap.size) (by omega) fun k hk => by omega)))
                  have hk2 := ((Turn.setCell (S := fun k => k = b + 1 + 1) V (p := ⟨b + 1 + 1, 0, none⟩) rfl (.bool true)).block _ (lt_of_heap hk) (by omega)).trans hk
                  have hc2 : (V.setCell ⟨b + 1 + 1, 0, none⟩ (.bool true)).heap[b + 1 + 1]? = some (.cells #[.bool true] 4) := by simp [World.setCell, Array.getElem?_modify, i3]
                  have hc3 := cell_of_row _ _ 0 _ _ _ ((putObj_other (V.setCell ⟨b + 1 + 1, 0, none⟩ (.bool true)) (.deferred none) (show g + 2 ≠ b + 1 + 1 by omega)).trans hc2)
                  simp at hc3
                  have DD := zh D0
                  have HK2 := zh hk2
                  have HC3 := zh hc3
                  clear T1 tD i1 i2 i3 i4 i5 i6 i7 D0 hk2 hc2 hc3
                  go_wp2_with fail
                  exact marks_ret1 (D := g + 2) (v := .bool true) rfl HK2.out (by simp [results, Tryz.results76, go_sem, HC3.out]) ⟨true, rfl, ⟨fun _ => DD.out, fun _ => rfl⟩, OUT.out⟩
                · rintro cd n V hn ⟨rfl, hD, i3, i4⟩ hsz hk
                  rw [S6] at hsz hk ⊢
                  have tD : Turn (fun k => k = g + 2) V (V.putObj (g + 2) (.deferred none)) := putObj_turn _ _ rfl
                  have hbw := HBW.out
                  have OUT := zh (Ext.of_below (i4.trans (tD.below (n := w.heap.size) (by omega) fun k hk => by omega)))
                  have hc3 := cell_of_row _ _ 0 _ _ _ ((putObj_other V (.deferred none) (show g + 2 ≠ b + 1 + 1 by omega)).trans i3)
                  simp at hc3
                  go_wp2_with fail
                  exact marks_ret1 (D := g + 2) (v := .bool false) rfl hk (by simp [results, Tryz.results76, go_sem, hc3]) ⟨false, rfl, ⟨nofun, fun h => absurd h hD⟩, OUT.out⟩
        · have NO : Hid (¬ DoneOk (nds ps) i ⟨slot, lo, hi', age, level⟩) := zh (fun ⟨_, h, _⟩ => hs h)
          have h12 : ¬ (0 ≤ slot ∧ slot < 64) := hs
          have HS12 := zh h12
          clear hs h12
          go_wp2_with fail
          refine (check_ok (S.out.ext HX3.out) HT.out).mono ?_
          rintro e w1 ⟨rfl, hx1⟩
          have HX1 := zh hx1
          clear k0 k1 k2 k3 k4 k5 l0 l1 l2
          obtain ⟨k0, k1, k2, k3, k4, k5, l0, l1, l2⟩ := CEL.out w1 HX1.out
          clear hx1
          go_wp2_with fail
          refine (slot_any slot _).mono ?_
          rintro e w2 ⟨rfl, rfl⟩
          rw [decide_eq_false HS12.out]
          go_wp2_with fail
          exact marks_ret (v := .bool false) rfl (by simp [results, Tryz.results76, go_sem, (FIN.out false _ HX1.out).2]) ⟨false, rfl, ⟨nofun, fun h => absurd h NO.out⟩, (FIN.out false _ HX1.out).1⟩
      · have NO : Hid (¬ DoneOk (nds ps) i ⟨slot, lo, hi', age, level⟩) := zh (fun ⟨_, _, _, k, m, p, e, hk, _⟩ => by have := (List.getElem?_eq_some_iff.1 hk).1; rw [nds_length] at this; omega)
        go_wp2_with fail
        refine (check_ok (S.out.ext HX3.out) HT.out).mono ?_
        rintro e w1 ⟨rfl, hx1⟩
        have HX1 := zh hx1
        clear k0 k1 k2 k3 k4 k5 l0 l1 l2
        obtain ⟨k0, k1, k2, k3, k4, k5, l0, l1, l2⟩ := CEL.out w1 HX1.out
        clear hx1
        go_wp2_with fail
        exact marks_ret (v := .bool false) rfl (by simp [results, Tryz.results76, go_sem, (FIN.out false _ HX1.out).2]) ⟨false, rfl, ⟨nofun, fun h => absurd h NO.out⟩, (FIN.out false _ HX1.out).1⟩
  · have NO : Hid (¬ DoneOk (nds ps) i ⟨slot, lo, hi', age, level⟩) := zh (fun ⟨h, _⟩ => T h)
    have CH := zh (check_no (S.out.ext HX3.out) T)
    clear T
    go_wp2_with fail
    refine (CH.out).mono ?_
    rintro e w1 ⟨rfl, hx1⟩
    have HX1 := zh hx1
    clear k0 k1 k2 k3 k4 k5 l0 l1 l2
    obtain ⟨k0, k1, k2, k3, k4, k5, l0, l1, l2⟩ := CEL.out w1 HX1.out
    clear hx1
    go_wp2_with fail
    exact marks_ret (v := .bool false) rfl (by simp [results, Tryz.results76, go_sem, (FIN.out false _ HX1.out).2]) ⟨false, rfl, ⟨nofun, fun h => absurd h NO.out⟩, (FIN.out false _ HX1.out).1⟩
end
end Go.Proofs.YthpmncdfaggkiaaGreat
namespace Go.Proofs.YthpmncdfaggkiaaGreat
def MayOk (l : List Nd) : Prop := Tree l ∧ ∃ p, l[0]? = some p ∧ p.kind = 1
def InnerAt (l : List Nd) (i : Int) : Prop := ∃ (k : Nat) (p : Nd), i = (k : Int) ∧ l[k]? = some p ∧ (p.kind = 1 ∨ p.kind = 2)
def HoldsOk (l : List Nd) (i : Int) (d : Dty) : Prop := MayOk l ∧ InnerAt l i ∧ DoneOk l i d
inductive BaseR (l : List Nd) (d : Dty) : Nat → Nat → Prop
  | stop (i : Nat) (p : Nd) : l[i]? = some p → (∀ k ∈ p.kids, ¬ HoldsOk l k d) → BaseR l d i i
  | go (i : Nat) (p : Nd) (j k r : Nat) : l[i]? = some p → p.kids[j]? = some (k : Int) → (∀ (j' : Nat) (x : Int), j' < j → p.kids[j']? = some x → ¬ HoldsOk l x d) → HoldsOk l (k : Int) d → BaseR l d k r → BaseR l d i r
theorem BaseR.stay {l : List Nd} {d : Dty} {i r : Nat} {p : Nd} (h : BaseR l d i r) (hp : l[i]? = some p) (hn : ∀ k ∈ p.kids, ¬ HoldsOk l k d) : r = i := by
  cases h with
  | stop _ p' hp' hn' => rfl
  | go _ p' j k r hp' hj hb hh hr =>
    rw [hp] at hp'
    cases hp'
    exact absurd hh (hn _ (List.mem_of_getElem? hj))
theorem BaseR.down {l : List Nd} {d : Dty} {i r : Nat} {p : Nd} {j k : Nat} (h : BaseR l d i r) (hp : l[i]? = some p) (hj : p.kids[j]? = some (k : Int)) (hb : ∀ (j' : Nat) (x : Int), j' < j → p.kids[j']? = some x → ¬ HoldsOk l x d) (hh : HoldsOk l (k : Int) d) : BaseR l d k r := by
  cases h with
  | stop _ p' hp' hn' =>
    rw [hp] at hp'
    cases hp'
    exact absurd hh (hn' _ (List.mem_of_getElem? hj))
  | go _ p' j' k' r hp' hj' hb' hh' hr =>
    rw [hp] at hp'
    cases hp'
    rcases Nat.lt_trichotomy j j' with hlt | rfl | hgt
    · exact absurd hh (hb' j _ hlt hj)
    · rw [hj] at hj'
      have : (k : Int) = (k' : Int) := by injection hj'
      obtain rfl : k = k' := by omega
      exact hr
    · exact absurd hh' (hb j' _ hgt hj')
theorem BaseR.lt {l : List Nd} {d : Dty} {i r : Nat} (h : BaseR l d i r) : r < l.length := by
  induction h with
  | stop i p hp hn => exact (List.getElem?_eq_some_iff.1 hp).1
  | go i p j k r hp hj hb hh _ ih => exact ih
def climbF (us : List Int) : Nat → Int → Int
  | 0, i => i
  | n + 1, i => if 0 < i then climbF us n ((us[i.toNat]?).getD 0) else i
theorem climbF_low {us : List Int} : ∀ (n : Nat) {i : Int}, i ≤ 0 → climbF us n i = i
  | 0, _, _ => rfl
  | n + 1, i, h => by rw [climbF, if_neg (by omega)]
theorem ParOk.step {l : List Nd} {us : List Int} (T : Tree l) (h : ParOk l us) {i : Nat} (h0 : 0 < i) (hi : i < l.length) : ∃ j : Nat, us[i]? = some (j : Int) ∧ j < i ∧ Up l i j := by
  obtain ⟨j, hu, hj⟩ := T.up' h0 hi
  exact ⟨j, h.2.2 i j hu, hj, hu⟩
def TargetOk (l : List Nd) (d : Dty) (up r : Int) : Prop := (MayOk l → d.level < up → ∃ us b, ParOk l us ∧ BaseR l d 0 b ∧ r = climbF us d.level.toNat (b : Int)) ∧ (¬ (MayOk l ∧ d.level < up) → r = 0)
theorem MayOk.pos {l : List Nd} (h : MayOk l) : 0 < l.length := h.1.pos
end Go.Proofs.YthpmncdfaggkiaaGreat
namespace Go.Proofs.YthpmncdfaggkiaaGreat
open Go.RowKit
attribute [local go_sem] more_drew more_drewN more_size more_cell more_frozen more_setCell drew_more drewN_more lt_add_r lt_add_r2 lt_add_r3 lt_add_r4 lt_add_r5 lt_add_r6 lt_add_r7 lt_add_r8 lt_add_r9 lt_add_r10 lt_self_r lt_self_r2
section
variable {A : Option Addr} {c : Nat} {ps : List Prt} {w : World}
set_option maxRecDepth 100000 in
set_option maxHeartbeats 1000000 in
theorem mayT_any (h : PS w A c ps) : Calls Tryz.prog 51 #[.slice A ps.length c] w (TellsB w (MayOk (nds ps))) := by
  have S := zh h
  have hl := h.few.len
  by_cases T : Tree (nds ps)
  · have hp := T.pos
    rw [nds_length] at hp
    obtain ⟨p, hpp⟩ : ∃ p, ps[0]? = some p := ⟨_, List.getElem?_eq_getElem hp⟩
    have YES : Hid (p.nd.kind = 1 ↔ MayOk (nds ps)) := zh ⟨fun hk => ⟨T, _, nds_get hpp, hk⟩, fun ⟨_, q, hq, hk⟩ => by rw [nds_get hpp] at hq; cases hq; exact hk⟩
    have HPP := zh hpp
    have HT := zh T
    clear T h hpp
    go_enter Tryz.func51, Tryz.ntmps51
    go_wp2_with fail
    refine (check_ok S.out HT.out).mono ?_
    rintro e w1 ⟨rfl, hx1⟩
    have HX1 := zh hx1
    obtain ⟨bA, off, rfl, hbA, hcell⟩ := (S.out.ext hx1).parts (by omega)
    have d1 := (hcell 0 p HPP.out).2.1
    simp only [Nat.zero_mul, Nat.add_zero] at d1
    clear hcell hx1
    go_wp2_with fail
    go_ret
    exact ⟨_, rfl, by rw [← YES.out]; simp, HX1.out⟩
  · have HT := zh T
    have NO : Hid (¬ MayOk (nds ps)) := zh (fun h => T h.1)
    clear T h
    go_enter Tryz.func51, Tryz.ntmps51
    go_wp2_with fail
    refine (check_no S.out (fun h => HT.out h)).mono ?_
    rintro e w1 ⟨rfl, hx1⟩
    have HX1 := zh hx1
    clear hx1
    go_wp2_with fail
    go_ret
    exact ⟨false, rfl, ⟨nofun, fun h => absurd h NO.out⟩, HX1.out⟩
theorem dy_cells {V : World} {b : Nat} {d : Dty} (h : V.heap[b]? = some (.cells #[.int .i64 d.slot, .int .i64 d.lo, .int .i64 d.hi, .int .i64 d.age, .int .i64 d.level] 26)) :
    V.cell? ⟨b, 0, none⟩ = some (.int .i64 d.slot) ∧ V.cell? ⟨b, 1, none⟩ = some (.int .i64 d.lo) ∧ V.cell? ⟨b, 2, none⟩ = some (.int .i64 d.hi) ∧ V.cell? ⟨b, 3, none⟩ = some (.int .i64 d.age) ∧ V.cell? ⟨b, 4, none⟩ = some (.int .i64 d.level) ∧ b < V.heap.size :=
  ⟨by simpa using cell_of_row _ _ 0 _ _ _ h, by simpa using cell_of_row _ _ 1 _ _ _ h, by simpa using cell_of_row _ _ 2 _ _ _ h, by simpa using cell_of_row _ _ 3 _ _ _ h, by simpa using cell_of_row _ _ 4 _ _ _ h, lt_of_heap h⟩
set_option maxRecDepth 100000 in
set_option maxHeartbeats 2000000 in
theorem holds_any (i : Int) (d : Dty) (h : PS w A c ps) : Calls Tryz.prog 31 #[.slice A ps.length c, .int .i64 i, dyV d] w (TellsB w (HoldsOk (nds ps) i d)) := by
  have S := zh h
  have hl := h.few.len
  have hcp := h.cap
  have htp := h.top
  have CM := zh (fun (V : World) (x : Ext w V) => mayT_any (h.ext x))
  have CD := zh (fun (V : World) (x : Ext w V) => done_any i d (h.ext x))
  clear h
  obtain ⟨slot, lo, hi', age, level⟩ := d
  unfold dyV at CD ⊢
  dsimp only at CD ⊢
  go_enter Tryz.func31, Tryz.ntmps31
  go_upto_region 1 with fail
  obtain ⟨b, hb⟩ : ∃ b, w.heap.size = b := ⟨_, rfl⟩
  obtain ⟨W1, hW1⟩ : ∃ W1, w.alloc (.cells #[.int .i64 slot, .int .i64 lo, .int .i64 hi', .int .i64 age, .int .i64 level] 26) = W1 := ⟨_, rfl⟩
  have X1 : Hid (Ext w W1) := zh (by rw [← hW1]; exact (by repeat first | exact xr _ | refine xa ?_ _ | refine xm ?_ _ _ | refine xd ?_ | refine xn ?_ _ | refine xs ?_ (by simp <;> omega) _))
  have G1 : W1.heap[b]? = some (.cells #[.int .i64 slot, .int .i64 lo, .int .i64 hi', .int .i64 age, .int .i64 level] 26) := by rw [← hW1, ← hb]; exact heap_alloc_new _ _
  rw [hW1, hb]
  have HG := zh G1
  clear hW1 hb G1
  go_wp2_with fail
  refine (CM.out W1 X1.out).mono ?_
  rintro e w2 ⟨bm, rfl, hbm, hx2⟩
  have HX2 := zh (X1.out.trans hx2)
  have HX12 := zh hx2
  have HM := zh hbm
  clear hx2 hbm
  cases bm with
  | false =>
    have NO : Hid (¬ HoldsOk (nds ps) i ⟨slot, lo, hi', age, level⟩) := zh (fun h => by have := HM.out.2 h.1; cases this)
    go_wp2_with fail
    go_ret
    exact ⟨false, rfl, ⟨nofun, fun h => absurd h NO.out⟩, HX2.out⟩
  | true =>
    have HMY : Hid (MayOk (nds ps)) := zh (HM.out.1 rfl)
    by_cases h0 : i < 0
    · have NO : Hid (¬ HoldsOk (nds ps) i ⟨slot, lo, hi', age, level⟩) := zh (fun ⟨_, ⟨k, _, e, _⟩, _⟩ => by omega)
      have g0 : decide (i < 0) = true := decide_eq_true h0
      clear h0
      go_wp2_with fail
      go_ret
      exact ⟨false, rfl, ⟨nofun, fun h => absurd h NO.out⟩, HX2.out⟩
    · by_cases h1 : i < (ps.length : Int)
      · obtain ⟨j, rfl⟩ : ∃ j : Nat, i = (j : Int) := ⟨i.toNat, by omega⟩
        have hjl : j < ps.length := by omega
        obtain ⟨p, hp⟩ : ∃ p, ps[j]? = some p := ⟨_, List.getElem?_eq_getElem hjl⟩
        obtain ⟨bA, off, rfl, hbA, hcell⟩ := (S.out.ext HX2.out).parts (by omega)
        have d1 := (hcell j p hp).2.1
        obtain ⟨q0, q1, q2, q3, q4, ql⟩ := dy_cells (d := ⟨slot, lo, hi', age, level⟩) (ext_block HG.out HX12.out)
        dsimp only at q0 q1 q2 q3 q4
        obtain ⟨b1, hb1⟩ : ∃ b1, decide (p.nd.kind = 1) = b1 := ⟨_, rfl⟩
        obtain ⟨b2, hb2⟩ : ∃ b2, decide (p.nd.kind = 2) = b2 := ⟨_, rfl⟩
        have HIN : Hid ((b1 || b2) = true ↔ InnerAt (nds ps) (j : Int)) := zh (by
          rw [← hb1, ← hb2, Bool.or_eq_true, decide_eq_true_iff, decide_eq_true_iff]
          exact ⟨fun h => ⟨j, p.nd, rfl, nds_get hp, h⟩, fun ⟨k, q, e, hq, h⟩ => by
            obtain rfl : j = k := by omega
            rw [nds_get hp] at hq
            cases hq
            exact h⟩)
        clear hcell hp h0 h1
        cases b1 <;> cases b2
        · have NO : Hid (¬ HoldsOk (nds ps) (j : Int) ⟨slot, lo, hi', age, level⟩) := zh (fun h => by have := HIN.out.2 h.2.1; cases this)
          have hk1 : ¬ p.nd.kind = 1 := of_decide_eq_false hb1
          have hk2 : ¬ p.nd.kind = 2 := of_decide_eq_false hb2
          go_wp2_with fail
          go_ret
          exact ⟨false, rfl, ⟨nofun, fun h => absurd h NO.out⟩, HX2.out⟩
        all_goals
          have YES : Hid (DoneOk (nds ps) (j : Int) ⟨slot, lo, hi', age, level⟩ ↔ HoldsOk (nds ps) (j : Int) ⟨slot, lo, hi', age, level⟩) := zh ⟨fun h => ⟨HMY.out, HIN.out.1 rfl, h⟩, fun h => h.2.2⟩
        · have hk1 : ¬ p.nd.kind = 1 := of_decide_eq_false hb1
          have hk2 : p.nd.kind = 2 := of_decide_eq_true hb2
          go_wp2_with fail
          refine (CD.out _ HX2.out).mono ?_
          rintro e w3 ⟨b3, rfl, hb3, hx3⟩
          have HX3 := zh (HX2.out.trans hx3)
          have HB3 := zh hb3
          clear hx3 hb3
          go_wp2_with fail
          go_ret
          exact ⟨b3, rfl, HB3.out.trans YES.out, HX3.out⟩
        all_goals
          have hk1 : p.nd.kind = 1 := of_decide_eq_true hb1
          clear hb2
          go_wp2_with fail
          refine (CD.out _ HX2.out).mono ?_
          rintro e w3 ⟨b3, rfl, hb3, hx3⟩
          have HX3 := zh (HX2.out.trans hx3)
          have HB3 := zh hb3
          clear hx3 hb3
          go_wp2_with fail
          go_ret
          exact ⟨b3, rfl, HB3.out.trans YES.out, HX3.out⟩
      · have NO : Hid (¬ HoldsOk (nds ps) i ⟨slot, lo, hi', age, level⟩) := zh (fun ⟨_, ⟨k, p, e, hk, _⟩, _⟩ => by have := (List.getElem?_eq_some_iff.1 hk).1; rw [nds_length] at this; omega)
        have g0 : decide (i < 0) = false := decide_eq_false h0
        have g1 : decide (i < (ps.length : Int)) = false := decide_eq_false h1
        go_wp2_with fail
        go_ret
        exact ⟨false, rfl, ⟨nofun, fun h => absurd h NO.out⟩, HX2.out⟩
end
section
variable {A : Option Addr} {c : Nat} {ps : List Prt} {w : World}
set_option maxRecDepth 100000 in
set_option maxHeartbeats 2000000 in
theorem base_yes (d : Dty) (r : Nat) (h : PS w A c ps) (hm : MayOk (nds ps)) (hr : BaseR (nds ps) d 0 r) : Calls Tryz.prog 14 #[.slice A ps.length c, dyV d] w fun e w' => e = .returned (.int .i64 r) ∧ Ext w w' := by
  have S := zh h
  have hl := h.few.len
  have hcp := h.cap
  have htp := h.top
  have HMY := zh hm
  have hp0 := hm.pos
  rw [nds_length] at hp0
  have CM := zh (fun (V : World) (x : Ext w V) => mayT_any (h.ext x))
  have CD := zh (fun (i : Int) (V : World) (x : Ext w V) => holds_any i d (h.ext x))
  have HR0 := zh hr
  clear h hm hr
  obtain ⟨slot, lo, hi', age, level⟩ := d
  unfold dyV at CD ⊢
  dsimp only at CD ⊢
  go_enter Tryz.func14, Tryz.ntmps14
  go_wp2_with fail
  go_step3
  go_upto_region 1 with fail
  obtain ⟨b, hb⟩ : ∃ b, w.heap.size = b := ⟨_, rfl⟩
  obtain ⟨W1, hW1⟩ : ∃ W1, w.alloc (.cells #[.int .i64 slot, .int .i64 lo, .int .i64 hi', .int .i64 age, .int .i64 level] 26) = W1 := ⟨_, rfl⟩
  have X1 : Hid (Ext w W1) := zh (by rw [← hW1]; exact (by repeat first | exact xr _ | refine xa ?_ _ | refine xm ?_ _ _ | refine xd ?_ | refine xn ?_ _ | refine xs ?_ (by simp <;> omega) _))
  have G1 : W1.heap[b]? = some (.cells #[.int .i64 slot, .int .i64 lo, .int .i64 hi', .int .i64 age, .int .i64 level] 26) := by rw [← hW1, ← hb]; exact heap_alloc_new _ _
  rw [hW1, hb]
  have HG := zh G1
  clear hW1 hb G1
  go_wp2_with fail
  refine (CM.out W1 X1.out).mono ?_
  rintro e w2 ⟨bm, rfl, hbm, hx2⟩
  have HX2 := zh (X1.out.trans hx2)
  have HG2 := zh (ext_block HG.out hx2)
  obtain rfl : bm = true := hbm.2 HMY.out
  clear hx2 hbm HG
  go_wp2_with fail
  go_step3
  go_wp2_with fail
  go_loopg [5] (ps.length) (fun g v wr => ∃ i : Nat, i + g = ps.length ∧ i < ps.length ∧ v = .int .i64 i ∧ Hid (BaseR (nds ps) ⟨slot, lo, hi', age, level⟩ i r) ∧ Hid (Ext w2 wr))
  case atStart => exact ⟨0, by omega, hp0, rfl, HR0, zh (Ext.refl _)⟩
  case round =>
    obtain ⟨i, hig, hi, rfl, hb, hx⟩ := hrel
    obtain ⟨G, hG⟩ : ∃ G, gk = G := ⟨_, rfl⟩
    have HIG : Hid (i + G = ps.length) := zh (by omega)
    obtain ⟨⟨q, kA, kcap⟩, hp⟩ : ∃ p, ps[i]? = some p := ⟨_, List.getElem?_eq_getElem hi⟩
    obtain ⟨bA, off, rfl, hbA, hcell⟩ := (S.out.ext (HX2.out.trans hx.out)).parts (by omega)
    have d6 := (hcell i _ hp).2.2.2.2.2.2.1
    have HPP := zh hp
    have HPO := zh (S.out.oks.get hp)
    have hko1 : q.kids.length ≤ kcap := HPO.out.cap
    have hko2 : kcap ≤ 9223372036854775807 := HPO.out.top
    dsimp only at d6
    clear hcell hp
    go_upto_region 5 with fail
    go_loopg [5, 17] (q.kids.length) (fun g2 v5 v wr => ∃ j : Nat, j + g2 = q.kids.length ∧ j ≤ q.kids.length ∧ v5 = .int .i64 i ∧ v = .int .i64 j ∧ Hid (∀ (j' : Nat) (x : Int), j' < j → q.kids[j']? = some x → ¬ HoldsOk (nds ps) x ⟨slot, lo, hi', age, level⟩) ∧ Hid (Ext w2 wr))
    case atStart => exact ⟨0, by omega, Nat.zero_le _, rfl, rfl, zh (fun j' x h => absurd h (Nat.not_lt_zero _)), hx⟩
    case round =>
      obtain ⟨j, hjg, hj, rfl, rfl, hbf, hx2⟩ := hrel
      by_cases hlt : j < q.kids.length
      · obtain ⟨x, hxk⟩ : ∃ x, q.kids[j]? = some x := ⟨_, List.getElem?_eq_getElem hlt⟩
        obtain ⟨cn, rfl, hc1, hc2⟩ := HMY.out.1.kid_behind (nds_get HPP.out) x (List.mem_of_getElem? hxk)
        rw [nds_length] at hc2
        obtain ⟨bk, offk, hkA, hbk, hck⟩ := (HPO.out.ext (HX2.out.trans hx2.out)).kids (by show 0 < q.kids.length; omega)
        change kA = _ at hkA
        subst hkA
        have e1 := hck j hlt
        rw [List.getD_eq_getElem?_getD] at e1
        dsimp only at e1
        rw [hxk] at e1
        dsimp only [Option.getD_some] at e1
        have HXK := zh hxk
        obtain ⟨q0, q1, q2, q3, q4, ql⟩ := dy_cells (d := ⟨slot, lo, hi', age, level⟩) (ext_block HG2.out hx2.out)
        dsimp only at q0 q1 q2 q3 q4
        clear hck hxk
        go_wp2_with fail
        refine (CD.out cn wr (HX2.out.trans hx2.out)).mono ?_
        rintro e w3 ⟨bh, rfl, hbh, hx3⟩
        have HX3 := zh (hx2.out.trans hx3)
        have HBH := zh hbh
        clear hx3 hbh
        cases bh with
        | true =>
          have HN := zh (hb.out.down (nds_get HPP.out) HXK.out hbf.out (HBH.out.1 rfl))
          go_wp2_with fail
          go_roundg (ps.length - cn)
          case measure => have := HIG.out; omega
          case rel => exact ⟨cn, by omega, hc2, rfl, HN, HX3⟩
        | false =>
          go_wp2_with fail
          go_roundg (q.kids.length - (j + 1))
          case measure => omega
          case rel => exact ⟨j + 1, by omega, by omega, rfl, by go_num, zh (fun j' x h hx' => by
            rcases Nat.lt_or_ge j' j with h1 | h1
            · exact hbf.out j' x h1 hx'
            · obtain rfl : j' = j := by omega
              rw [HXK.out] at hx'
              cases hx'
              intro hh
              have := HBH.out.2 hh
              cases this), HX3⟩
      · obtain rfl : j = q.kids.length := by omega
        have HE : Hid (r = i) := zh (hb.out.stay (nds_get HPP.out) (fun k hk => by
          obtain ⟨j', hj'⟩ := List.getElem?_of_mem hk
          exact hbf.out j' k (List.getElem?_eq_some_iff.1 hj').1 hj'))
        go_wp2_with fail
        try rw [Exit.noGoto_ret]
        go_ret
        exact ⟨ret_int (by rw [HE.out]), HX2.out.trans hx2.out⟩
end
section
variable {A : Option Addr} {c : Nat} {ps : List Prt} {w : World}
theorem of25_any (B : Option Addr) (cb : Nat) (us : List Int) (k : Nat) (x : Int) (w : World) (hI : Ints w B us) (hk : us[k]? = some x) (h0 : 0 ≤ x) (hc : us.length ≤ cb) : Calls Tryz.prog 55 #[.slice B us.length cb, .int .i64 k] w fun e w' => e = .returned (.int .i64 x) ∧ Ext w w' := by
  have hkl := (List.getElem?_eq_some_iff.1 hk).1
  obtain ⟨b, off, rfl, hb, hcell⟩ := hI (by omega)
  have d0 := hcell k hkl
  rw [List.getD_eq_getElem?_getD, hk] at d0
  dsimp only [Option.getD_some] at d0
  obtain ⟨mx, hmx⟩ : ∃ mx, (if (0 : Int) < x then x else 0) = mx := ⟨_, rfl⟩
  have HM : Hid (mx = x) := zh (by rw [← hmx]; split <;> omega)
  clear hcell hk hI
  go_enter Tryz.func55, Tryz.ntmps55
  go_wp2_with fail
  go_ret
  exact ⟨ret_int (by rw [HM.out]), Ext.refl _⟩
set_option maxRecDepth 100000 in
set_option maxHeartbeats 1000000 in
theorem climb_any (B : Option Addr) (cb : Nat) (us : List Int) (l : List Nd) (i : Nat) (times : Int) (w : World) (T : Tree l) (hu : ParOk l us) (hi : i < l.length) (hI : Ints w B us) (hc : us.length ≤ cb) (ht : I64 times) :
    Calls Tryz.prog 54 #[.int .i64 i, .int .i64 times, .func (.func 55) #[.slice B us.length cb] #[]] w fun e w' => e = .returned (.int .i64 (climbF us times.toNat i)) ∧ Ext w w' := by
  have HI := zh hI
  have HT := zh T
  have HU := zh hu
  have HC := zh hc
  have ht2 : times ≤ 9223372036854775807 := by unfold I64 at ht; omega
  obtain ⟨r, hr⟩ : ∃ r, climbF us times.toNat (i : Int) = r := ⟨_, rfl⟩
  have HR := zh hr
  rw [hr]
  clear hr hI T hu hc ht
  go_enter Tryz.func54, Tryz.ntmps54
  go_wp2_with fail
  go_loopw [0, 1] (fun vi vt wr => ∃ (k : Nat) (n : Int), k < l.length ∧ vi = .int .i64 k ∧ vt = .int .i64 n ∧ n ≤ 9223372036854775807 ∧ Hid (climbF us n.toNat (k : Int) = r) ∧ Hid (Ext w wr)) (fun _ vt _ => (intOf vt).toNat)
  case atStart => exact ⟨i, times, hi, rfl, rfl, ht2, HR, zh (Ext.refl _)⟩
  case round =>
    obtain ⟨k, n, hk, rfl, rfl, hn, he, hx⟩ := hrel
    by_cases h0 : 0 < n
    · have g0 : decide (0 < n) = true := decide_eq_true h0
      by_cases hk0 : 0 < k
      · have g1 : decide (0 < (k : Int)) = true := decide_eq_true (by omega)
        obtain ⟨j, hj, hlt, _⟩ := HU.out.step HT.out hk0 hk
        have CO := zh (of25_any B cb us k j wr (fun h => (HI.out.ext hx.out) h) hj (by omega) HC.out)
        have HN : Hid (climbF us (n - 1).toNat (j : Int) = r) := zh (by
          rw [← he.out, show n.toNat = (n - 1).toNat + 1 from by omega, climbF, if_pos (by omega), Int.toNat_natCast, hj]
          rfl)
        have hw1 : wrap64 (n - 1) = n - 1 := IntWalk.wrap64_in _ (by omega)
        clear hj
        go_wp2_with fail
        refine CO.out.mono ?_
        rintro e w3 ⟨rfl, hx3⟩
        have HX3 := zh (hx.out.trans hx3)
        clear hx3
        go_wp2_with fail
        go_roundw
        case rel => exact ⟨j, n - 1, by omega, rfl, by first | rfl | rw [hw1], by omega, HN, HX3⟩
        case measure => simp [intOf, hw1]; omega
      · obtain rfl : k = 0 := by omega
        have HE : Hid (r = 0) := zh (by rw [← he.out, climbF_low _ (by simp)]; rfl)
        go_wp2_with fail
        go_ret
        exact ⟨ret_int (by rw [HE.out]; rfl), hx.out⟩
    · have g0 : decide (0 < n) = false := decide_eq_false h0
      have HE : Hid (r = (k : Int)) := zh (by rw [← he.out, show n.toNat = 0 from by omega]; rfl)
      go_wp2_with fail
      go_ret
      exact ⟨ret_int (by rw [HE.out]), hx.out⟩
end
section
variable {A : Option Addr} {c : Nat} {ps : List Prt} {w : World}
theorem target_no (d : Dty) (up : Int) (h : PS w A c ps) (hn : ¬ (MayOk (nds ps) ∧ d.level < up)) : Calls Tryz.prog 17 #[.slice A ps.length c, dyV d, .int .i64 up] w fun e w' => e = .returned (.int .i64 0) ∧ Ext w w' := by
  have CM := zh (fun (V : World) (x : Ext w V) => mayT_any (h.ext x))
  have HN := zh hn
  clear h hn
  obtain ⟨slot, lo, hi', age, level⟩ := d
  unfold dyV
  dsimp only
  go_enter Tryz.func17, Tryz.ntmps17
  go_upto_region 1 with fail
  obtain ⟨b, hb⟩ : ∃ b, w.heap.size = b := ⟨_, rfl⟩
  obtain ⟨W1, hW1⟩ : ∃ W1, w.alloc (.cells #[.int .i64 slot, .int .i64 lo, .int .i64 hi', .int .i64 age, .int .i64 level] 26) = W1 := ⟨_, rfl⟩
  have X1 : Hid (Ext w W1) := zh (by rw [← hW1]; exact (by repeat first | exact xr _ | refine xa ?_ _ | refine xm ?_ _ _ | refine xd ?_ | refine xn ?_ _ | refine xs ?_ (by simp <;> omega) _))
  have G1 : W1.heap[b]? = some (.cells #[.int .i64 slot, .int .i64 lo, .int .i64 hi', .int .i64 age, .int .i64 level] 26) := by rw [← hW1, ← hb]; exact heap_alloc_new _ _
  rw [hW1, hb]
  have HG := zh G1
  clear hW1 hb G1
  go_wp2_with fail
  refine (CM.out W1 X1.out).mono ?_
  rintro e w2 ⟨bm, rfl, hbm, hx2⟩
  have HX2 := zh (X1.out.trans hx2)
  have HG2 := zh (ext_block HG.out hx2)
  have HM := zh hbm
  clear hx2 hbm HG
  obtain ⟨q0, q1, q2, q3, q4, ql⟩ := dy_cells (d := ⟨slot, lo, hi', age, level⟩) HG2.out
  dsimp only at q0 q1 q2 q3 q4
  cases bm with
  | false =>
    go_wp2_with fail
    go_ret
    exact ⟨rfl, HX2.out⟩
  | true =>
    have hlv : ¬ level < up := fun h => HN.out ⟨HM.out.1 rfl, h⟩
    have g1 : decide (level < up) = false := decide_eq_false hlv
    go_wp2_with fail
    go_ret
    exact ⟨rfl, HX2.out⟩
set_option maxRecDepth 100000 in
set_option maxHeartbeats 2000000 in
theorem target_yes (d : Dty) (up r : Int) (h : PS w A c ps) (hm : MayOk (nds ps)) (hlv : d.level < up) (hr : TargetOk (nds ps) d up r) (ht : I64 d.level) : Calls Tryz.prog 17 #[.slice A ps.length c, dyV d, .int .i64 up] w fun e w' => e = .returned (.int .i64 r) ∧ Ext w w' := by
  have CM := zh (fun (V : World) (x : Ext w V) => mayT_any (h.ext x))
  have CP := zh (fun (V : World) (x : Ext w V) => Parents_yes (h.ext x) hm.1)
  obtain ⟨us0, b0, hu0, hb0, hr0⟩ := hr.1 hm hlv
  have CB := zh (fun (V : World) (x : Ext w V) => base_yes d b0 (h.ext x) hm hb0)
  have HMY := zh hm
  have HU0 := zh hu0
  have HB0 := zh hb0.lt
  have HR0 := zh hr0
  have HTL := zh ht
  have hl := h.few.len
  clear h hm hr hu0 hb0 hr0 ht
  obtain ⟨slot, lo, hi', age, level⟩ := d
  unfold dyV at CB ⊢
  dsimp only at CB hlv HR0 HTL ⊢
  go_enter Tryz.func17, Tryz.ntmps17
  go_upto_region 1 with fail
  obtain ⟨b, hb⟩ : ∃ b, w.heap.size = b := ⟨_, rfl⟩
  obtain ⟨W1, hW1⟩ : ∃ W1, w.alloc (.cells #[.int .i64 slot, .int .i64 lo, .int .i64 hi', .int .i64 age, .int .i64 level] 26) = W1 := ⟨_, rfl⟩
  have X1 : Hid (Ext w W1) := zh (by rw [← hW1]; exact (by repeat first | exact xr _ | refine xa ?_ _ | refine xm ?_ _ _ | refine xd ?_ | refine xn ?_ _ | refine xs ?_ (by simp <;> omega) _))
  have G1 : W1.heap[b]? = some (.cells #[.int .i64 slot, .int .i64 lo, .int .i64 hi', .int .i64 age, .int .i64 level] 26) := by rw [← hW1, ← hb]; exact heap_alloc_new _ _
  rw [hW1, hb]
  have HG := zh G1
  clear hW1 hb G1
  have g1 : decide (level < up) = true := decide_eq_true hlv
  go_wp2_with fail
  refine (CM.out W1 X1.out).mono ?_
  rintro e w2 ⟨bm, rfl, hbm, hx2⟩
  have HX2 := zh (X1.out.trans hx2)
  have HG2 := zh (ext_block HG.out hx2)
  obtain rfl : bm = true := hbm.2 HMY.out
  clear hx2 hbm HG
  obtain ⟨q0, q1, q2, q3, q4, ql⟩ := dy_cells (d := ⟨slot, lo, hi', age, level⟩) HG2.out
  dsimp only at q0 q1 q2 q3 q4
  go_wp2_with fail
  refine (CP.out _ HX2.out).mono ?_
  rintro e w3 ⟨us, hu, B, cb, rfl, ho, hx3⟩
  have HX3 := zh (HX2.out.trans hx3)
  have HG3 := zh (ext_block HG2.out hx3)
  obtain rfl := hu.one HMY.out.1 HU0.out
  have HI := zh ho
  have HU := zh hu
  clear q0 q1 q2 q3 q4 ql hx3 ho hu HG2
  obtain ⟨q0, q1, q2, q3, q4, ql⟩ := dy_cells (d := ⟨slot, lo, hi', age, level⟩) HG3.out
  dsimp only at q0 q1 q2 q3 q4
  go_upto_region 4 with fail
  refine wp_region_bt (9) (pures_bt [0, 3, 5] (softs_bt [1, 4, 6] (.step 2 (.step 7 (pures_bt [8] .fin))))) (by kernel_rfl) (by kernel_rfl) ?_
  refine bt_pures _ fun K hK => ?_; simp only [pick, nthC]; (repeat go_big_quiet_step (fail)); refine wpQuiet_nil (hK _ ?_); clear hK K
  refine bt_softs _ fun K hK => ?_; simp only [pick, nthC]; (repeat go_big_quiet_step (fail)); refine wpQuiet_nil (hK _ ?_); clear hK K
  refine bt_step fun next hn => ?_; simp only [pick, nthC]
  go_wp2_with fail
  refine (CB.out _ (HX3.out.trans (by repeat first | exact xr _ | refine xa ?_ _ | refine xm ?_ _ _ | refine xd ?_ | refine xn ?_ _ | refine xs ?_ (by simp <;> omega) _))).mono ?_
  rintro e w4 ⟨rfl, hx4⟩
  have HX34 := zh (((by repeat first | exact xr _ | refine xa ?_ _ | refine xm ?_ _ _ | refine xd ?_ | refine xn ?_ _ | refine xs ?_ (by simp <;> omega) _) : Ext w3 w3.drew).trans hx4)
  have HX4 := zh (HX3.out.trans HX34.out)
  clear hx4
  go_wp2_with fail
  refine segQ_mk (fun _ => laid HX34.out) (hn _ _ ?_)
  clear hn next
  refine bt_step fun next hn => ?_; simp only [pick, nthC]
  go_wp2_with fail
  refine (climb_any B cb us (nds ps) b0 level w4 HMY.out.1 HU0.out HB0.out (HI.out.ints.1.ext HX34.out) HI.out.ints.2.1 HTL.out).mono ?_
  rintro e w5 ⟨rfl, hx5⟩
  have HX5 := zh (HX34.out.trans hx5)
  clear hx5
  go_wp2_with fail
  refine segQ_mk (fun _ => laid HX5.out) (hn _ _ ?_)
  clear hn next
  refine bt_pures _ fun K hK => ?_; simp only [pick, nthC]; (repeat go_big_quiet_step (fail)); refine wpQuiet_nil (hK _ ?_); clear hK K
  (refine bt_fin ?_)
  go_wp2_with fail
  go_ret
  exact ⟨ret_int (by rw [HR0.out]), HX3.out.trans HX5.out⟩
end
end Go.Proofs.YthpmncdfaggkiaaGreat
namespace Go.Proofs.YthpmncdfaggkiaaGreat
open Go.ChangeShapes Go.WideShapes Go.ChangeAt Go.RowKit
theorem laidOut : laidOutB Tryz.prog = true := by kernel_rfl
theorem trodAll_below {H : Type} {enc : TypeId × Value → H} {P : Program} (hl : laidOutB P = true) {W W' : World} (hb : Below W.heap.size W W') :
    ∀ {ts : List TypeId} {vs : List Value} {ds : List (DataW H)} {ps : List MemPlace}, (∀ t ∈ ts, P.readableRec t = true ∧ t < P.types.size) →
      DataW.TrodAll enc P W 0 (fun _ => true) true ts vs ds ps → (∀ x ∈ ps, x.block < W.heap.size) → DataW.TrodAll enc P W' 0 (fun b => decide (b < W.heap.size)) true ts vs ds ps
  | [], [], [], _, _, h, _ => h
  | t :: ts, v :: vs, d :: ds, ps, hr, h, hlt => by
    obtain ⟨p, q, h1, h2, rfl⟩ := h
    exact ⟨p, q, Below.trod hl (hr t (by simp)).1 (hr t (by simp)).2 h1 hb (fun x hx => hlt x (by simp [hx])),
      trodAll_below hl hb (fun u hu => hr u (by simp [hu])) h2 (fun x hx => hlt x (by simp [hx])), rfl⟩
  | [], [], _ :: _, _, _, h, _ => h.elim
  | [], _ :: _, [], _, _, h, _ => h.elim
  | [], _ :: _, _ :: _, _, _, h, _ => h.elim
  | _ :: _, [], [], _, _, h, _ => h.elim
  | _ :: _, [], _ :: _, _, _, h, _ => h.elim
  | _ :: _, _ :: _, [], _, _, h, _ => h.elim
theorem trodAll_length {H : Type} {enc : TypeId × Value → H} {P : Program} {W : World} {b : Nat} {sp : Nat → Bool} {hd : Bool} :
    ∀ {ts : List TypeId} {vs : List Value} {ds : List (DataW H)} {ps : List MemPlace}, DataW.TrodAll enc P W b sp hd ts vs ds ps → ds.length = ts.length ∧ vs.length = ts.length
  | [], [], [], _, _ => ⟨rfl, rfl⟩
  | t :: ts, v :: vs, d :: ds, ps, h => by
    obtain ⟨p, q, h1, h2, rfl⟩ := h
    have := trodAll_length h2
    simp [this.1, this.2]
  | [], [], _ :: _, _, h => h.elim
  | [], _ :: _, [], _, h => h.elim
  | [], _ :: _, _ :: _, _, h => h.elim
  | _ :: _, [], [], _, h => h.elim
  | _ :: _, [], _ :: _, _, h => h.elim
  | _ :: _, _ :: _, [], _, h => h.elim
set_option maxRecDepth 100000 in
theorem law_lifted {os : Os} (started : os.Started) {H : Type} {enc : TypeId × Value → H} {f : FuncId} {fn : Func} {s : ChangeSpec} {conds : List PathCond}
    (noInit : Tryz.checked.prog.inits.idxOf? f = none) (hfn : Tryz.checked.prog.funcs[f]? = some fn)
    (witness : ∃ (w : World) (tape : Tape) (i : Input), w.os = os ∧ (w.forCall tape i).Shaped Tryz.checked.prog ∧ i.vars = [] ∧ Input.okWide Tryz.checked.prog (w.forCall tape i) .any w.heap.size f i ∧
      s.pre6 enc Tryz.checked.prog fn conds false (w.forCall tape i).memory i.args ∧ Assume.holds {} Tryz.checked.prog (lone (Frame.enter Tryz.checked.prog f i.args .normal) [] (w.forCall tape i)))
    (hvars : s.vars = [])
    (hres : fn.resultTypes = #[4]) (hu : Tryz.prog.underlying 4 = some .bool)
    (hread : ∀ t ∈ fn.params.toList, Tryz.prog.readableRec t = true ∧ t < Tryz.prog.types.size)
    (hspec : ∀ ds : List (DataW H), ds.length = fn.params.toList.length → s.fn H ds = { results := [.lit (.bool true)], args := ds })
    (walk : ∀ (W : World) (base : Nat) (args : Array Value) (ds : List (DataW H)) (ps : List MemPlace),
      (∀ (j : Nat) t v, fn.params.toList[j]? = some t → args.toList[j]? = some v → Value.okWide Tryz.prog W .any base t v) →
      DataW.TrodAll enc Tryz.prog W 0 (fun _ => true) true fn.params.toList args.toList ds ps →
      (DataW.weightsEach Tryz.prog fn.params.toList ds).all (· ≤ reachBytes) = true →
      Calls Tryz.prog f args W fun e w' => e = .returned (.bool true) ∧ Below W.heap.size W w') :
    ReturnsInHanded {} Tryz.checked os f .any (s.pre6 enc Tryz.checked.prog fn conds false) (s.post enc Tryz.checked.prog fn false true false false) := by
  refine returnsInHanded_of_change_sized own started noInit hfn witness ?_
  intro W base args ds gs before hval hW _ hsz _
  have hW' := hW
  obtain ⟨p, q, hA, hV, hps, _, _⟩ := hW
  rw [hvars] at hV
  obtain ⟨rfl, rfl⟩ := trodVars_none hV
  rw [List.append_nil] at hps
  subst hps
  have hsz' : (DataW.weightsEach Tryz.prog fn.params.toList ds).all (· ≤ reachBytes) = true := by
    have hv : s.plain.varTypes Tryz.checked.prog = [] := by
      show (s.vars.filterMap _) = []
      rw [hvars]
      rfl
    rw [hv, List.append_nil, List.append_nil] at hsz
    exact hsz
  have hlen := trodAll_length hA
  refine (walk W base args ds before (fun j t v ht hv => hval j t v (by rw [← Array.getElem?_toList]; exact ht) (by rw [← Array.getElem?_toList]; exact hv)) hA hsz').mono fun e W' ⟨he, hb⟩ => ⟨_, he, ?_⟩
  have hsp := hspec ds hlen.1
  refine ⟨ds, [], before, [], before, [], hW', ?_, ?_, ?_, hb.frame _, fun h => by cases h⟩
  · rw [List.append_nil, hsp, hres]
    exact trodAll_cons_mk (shut_bool hu _) trodAll_mk0
  · rw [List.append_nil, hsp]
    exact trodAll_below laidOut hb hread hA (fun x hx => by simpa using hW'.lt x hx)
  · rw [List.append_nil, hsp, hvars]
    rfl
end Go.Proofs.YthpmncdfaggkiaaGreat
namespace Go.Proofs.YthpmncdfaggkiaaGreat
open Go.ChangeShapes Go.WideShapes Go.ChangeAt Go.RowKit Go.Joins Go.Deep
end Go.Proofs.YthpmncdfaggkiaaGreat
namespace Go.Proofs.YthpmncdfaggkiaaGreat
open Go.RowKit
def toPrt (p : Pt) : Prt := ⟨nd1 p.nd, p.kA, p.kc⟩
theorem pv_toPrt (ps : List Pt) : pv (ps.map toPrt) = pw ps := by
  unfold pv pw
  rw [List.flatMap_map]
  rfl
theorem nds_toPrt (ps : List Pt) : nds (ps.map toPrt) = (shs ps).map nd1 := by simp [nds, shs, toPrt]
def I64s (t : Sh) : Prop := I64 t.sym ∧ I64 t.kind ∧ I64 t.lo ∧ I64 t.inn ∧ I64 t.hi ∧ I64 t.look ∧ ∀ k ∈ t.ks, I64 k
theorem kc_le (l : List Nd) (j : Nat) : kc l 0 j ≤ kc l 0 l.length := by
  by_cases h : j ≤ l.length
  · have := kc_add l (Nat.zero_le j) h
    omega
  · unfold kc
    rw [List.take_of_length_le (by omega), List.take_of_length_le (Nat.le_refl _)]
    exact Nat.le_refl _
theorem RowA.ps {w : World} {base : Nat} {v : Value} {rs : List Pt} {ts : List Sh} (h : RowA w base v rs) (hs : shs rs = ts) (hb : ∀ t ∈ ts, I64s t) (hl : ts.length ≤ 1000) (hk : kc (ts.map nd1) 0 (ts.map nd1).length ≤ 1000000) : ∃ A c, v = .slice A rs.length c ∧ PS w A c (rs.map toPrt) := by
  obtain ⟨A, c, hv, hc, hlc, hcm, hn⟩ := own_cells h.own
  have hlen := shs_length hs
  refine ⟨A, c, hv, ?_⟩
  refine ⟨Prts.of_cells (by rw [pv_toPrt]; exact hc), fun p hp => ?_, ⟨by rw [List.length_map]; omega, fun j => ?_⟩, by rw [List.length_map]; exact hlc, by unfold maxLen at hcm; exact hcm, hn⟩
  · obtain ⟨q, hq, rfl⟩ := List.mem_map.1 hp
    have hkk := h.kids q hq
    have hm : q.nd ∈ ts := by rw [← hs]; exact List.mem_map_of_mem hq
    obtain ⟨b1, b2, b3, b4, b5, b6, b7⟩ := hb _ hm
    have htop := hkk.top
    unfold maxLen at htop
    exact ⟨hkk.ints, hkk.cap, htop, hkk.nil, b1, b2, b3, b4, b5, b6, by show 0 ≤ (0 : Int) ∧ (0 : Int) ≤ 18446744073709551615; omega, b7⟩
  · have h1 := kc_le (nds (rs.map toPrt)) j
    rw [nds_toPrt, hs] at h1 ⊢
    exact Nat.le_trans h1 hk
end Go.Proofs.YthpmncdfaggkiaaGreat
namespace Go.Proofs.YthpmncdfaggkiaaGreat
open Go.RowKit
attribute [local go_sem] more_drew more_drewN more_size more_cell more_frozen more_setCell drew_more drewN_more lt_add_r lt_add_r2 lt_add_r3 lt_add_r4 lt_add_r5 lt_add_r6 lt_add_r7 lt_add_r8 lt_add_r9 lt_add_r10 lt_self_r lt_self_r2
theorem nds_set (ps : List Prt) (i : Nat) (p : Prt) : nds (ps.set i p) = (nds ps).set i p.nd := by simp [nds, List.map_set]
theorem RowA.met {w : World} {base : Nat} {v : Value} {rs : List Pt} {ts : List Sh} (h : RowA w base v rs) (hs : shs rs = ts) (hb : ∀ t ∈ ts, I64s t) (hl : ts.length ≤ 1000) (hkc : kc (ts.map nd1) 0 (ts.map nd1).length ≤ 1000000) (k : Nat) (hk : k < ts.length) (m : Int) (hm : 0 ≤ m ∧ m ≤ 18446744073709551615) :
    ∃ g c q ps, v = .slice (some ⟨g, 0, none⟩) rs.length c ∧ base ≤ g ∧ g < w.heap.size ∧ w.frozen? ⟨g, k * 8 + 7, none⟩ = false ∧ w.cell? ⟨g, k * 8 + 7, none⟩ = some q ∧ rs.length ≤ c ∧ c ≤ maxLen ∧ ps.length = rs.length ∧ PS (w.setCell ⟨g, k * 8 + 7, none⟩ (.int .u64 m)) (some ⟨g, 0, none⟩) c ps ∧ nds ps = (ts.map nd1).mapIdx fun i p => if i = k then { p with met := m } else p := by
  have hlen := shs_length hs
  have hps := h.ps hs hb hl hkc
  obtain ⟨A, c, hv, hS⟩ := hps
  have ho := h.own
  rw [hv, ← pv_toPrt] at ho
  obtain ⟨g, rfl, hg1, hg2⟩ := row_block ho (by omega)
  obtain ⟨p, hp⟩ : ∃ p, (rs.map toPrt)[k]? = some p := ⟨_, List.getElem?_eq_getElem (by rw [List.length_map]; omega)⟩
  have hst := row_store ho (q' := { p with nd := { p.nd with met := m } }) (u := .int .u64 m) (r := 7) hp (by omega) rfl
  obtain ⟨b', off', hA', hb', hcell⟩ := hS.parts (by rw [List.length_map]; omega)
  injection hA' with hA'
  injection hA' with e1 e2
  subst e1 e2
  have d7 := (hcell k p hp).2.2.2.2.2.2.2
  have hfz : w.frozen? ⟨g, k * 8 + 7, none⟩ = false := by
    obtain ⟨cur, hcur⟩ := own_obj ho g rfl
    simp [World.frozen?, hcur]
  have hn : nds ((rs.map toPrt).set k { p with nd := { p.nd with met := m } }) = (ts.map nd1).mapIdx fun i p => if i = k then { p with met := m } else p := by
    have h1 := nds_toPrt rs
    rw [hs] at h1
    have h2 : (ts.map nd1)[k]? = some p.nd := by rw [← h1]; exact nds_get hp
    rw [nds_set, h1]
    apply List.ext_getElem?
    intro i
    rw [List.getElem?_mapIdx, List.getElem?_set]
    by_cases hik : k = i
    · subst hik
      rw [h2]
      simp [hk]
    · rw [if_neg hik]
      cases (ts.map nd1)[i]? with
      | none => rfl
      | some x => simp [Ne.symm hik]
  refine ⟨g, c, .int .u64 p.nd.met, (rs.map toPrt).set k { p with nd := { p.nd with met := m } }, by rw [hv], hg1, hg2, hfz, by simpa using d7, by have := hS.cap; rwa [List.length_map] at this, by have := hS.top; unfold maxLen; exact this, by rw [List.length_set, List.length_map], ?_, hn⟩
  obtain ⟨A2, c2, hv2, hc2, hlc, hcm, hnn⟩ := own_cells hst
  injection hv2 with a1 a2 a3
  subst a1 a3
  refine ⟨Prts.of_cells hc2, fun q hq => ?_, ⟨by rw [List.length_set, List.length_map]; omega, fun j => ?_⟩, by rw [List.length_set, List.length_map]; omega, by unfold maxLen at hcm; exact hcm, hnn⟩
  · have hold : ∀ q0 ∈ rs.map toPrt, PrtOk (w.setCell ⟨g, k * 8 + 7, none⟩ (.int .u64 m)) q0 := fun q0 hq0 => by
      obtain ⟨r, hr, rfl⟩ := List.mem_map.1 hq0
      have hkk := (h.kids r hr).turn (Turn.setCell (S := fun b => b = g) w (p := ⟨g, k * 8 + 7, none⟩) rfl (.int .u64 m)) (fun b cs hb he => by
        subst he
        obtain ⟨cur, hcur⟩ := own_obj ho b rfl
        rw [hcur] at hb
        injection hb with hb
        injection hb with _ hb
        exact absurd hb (by decide))
      have hmm : r.nd ∈ ts := by rw [← hs]; exact List.mem_map_of_mem hr
      obtain ⟨b1, b2, b3, b4, b5, b6, b7⟩ := hb _ hmm
      have htop := hkk.top
      unfold maxLen at htop
      exact ⟨hkk.ints, hkk.cap, htop, hkk.nil, b1, b2, b3, b4, b5, b6, by show 0 ≤ (0 : Int) ∧ (0 : Int) ≤ 18446744073709551615; omega, b7⟩
    rcases List.mem_or_eq_of_mem_set hq with hq | rfl
    · exact hold q hq
    · have := hold p (List.mem_of_getElem? hp)
      exact ⟨this.1, this.2, this.3, this.4, this.5, this.6, this.7, this.8, this.9, this.10, hm, this.12⟩
  · have h1 := kc_le (nds (rs.map toPrt)) j
    have h3 : kc (nds ((rs.map toPrt).set k { p with nd := { p.nd with met := m } })) 0 j = kc (nds (rs.map toPrt)) 0 j := by
      refine kc_same ?_ 0 j
      rw [nds_set]
      apply List.ext_getElem?
      intro i
      rw [List.getElem?_map, List.getElem?_map, List.getElem?_set]
      by_cases hik : k = i
      · subst hik
        rw [nds_get hp]
        simp [nds_length, hlen, hk]
      · rw [if_neg hik]
    rw [h3]
    refine Nat.le_trans h1 ?_
    rw [nds_toPrt, hs]
    exact hkc
end Go.Proofs.YthpmncdfaggkiaaGreat
namespace Go.Proofs.YthpmncdfaggkiaaGreat
def holdsB (l : List Nd) (en : List Nat) (i : Int) (d : Dty) : Bool :=
  decide (0 ≤ i) && match l[i.toNat]?, en[i.toNat]? with
  | some p, some m => (decide (p.kind = 1) || decide (p.kind = 2)) && decide (0 ≤ d.slot) && decide (d.slot < 64) && decide (d.lo ≤ d.hi) && decide (p.lo ≤ d.lo) && decide (d.hi ≤ p.hi) && (List.range l.length).all fun n => match l[n]? with
    | some q => !(tb q.met d.slot.toNat) || (decide (i.toNat ≤ n) && decide (n < m))
    | none => true
  | _, _ => false
structure EndsOk (l : List Nd) (en : List Nat) : Prop where
  len : en.length = l.length
  part : ∀ k m, en[k]? = some m → Part l k m
theorem holdsB_iff {l : List Nd} {en : List Nat} (hm : MayOk l) (he : EndsOk l en) (i : Int) (d : Dty) : holdsB l en i d = true ↔ HoldsOk l i d := by
  unfold holdsB
  rw [Bool.and_eq_true, decide_eq_true_iff]
  constructor
  · rintro ⟨h0, h⟩
    split at h
    · rename_i p m hp hm'
      simp only [Bool.and_eq_true, Bool.or_eq_true, decide_eq_true_iff, List.all_eq_true] at h
      obtain ⟨⟨⟨⟨⟨⟨hk, h1⟩, h2⟩, h3⟩, h4⟩, h5⟩, h6⟩ := h
      refine ⟨hm, ⟨i.toNat, p, by omega, hp, hk⟩, hm.1, ⟨h1, h2⟩, h3, i.toNat, m, p, by omega, hp, he.part _ _ hm', h4, h5, fun n q hq ht => ?_⟩
      have := h6 n (List.mem_range.2 (List.getElem?_eq_some_iff.1 hq).1)
      rw [hq] at this
      simp only [ht, Bool.not_true, Bool.false_or, Bool.and_eq_true, decide_eq_true_iff] at this
      exact this
    · cases h
  · rintro ⟨_, ⟨k, p, rfl, hp, hk⟩, _, ⟨h1, h2⟩, h3, k', m, p', e, hp', hpt, h4, h5, h6⟩
    obtain rfl : k = k' := by omega
    rw [hp] at hp'
    cases hp'
    have hkl := (List.getElem?_eq_some_iff.1 hp).1
    obtain ⟨m', hm'⟩ : ∃ m', en[k]? = some m' := ⟨_, List.getElem?_eq_getElem (by rw [he.len]; exact hkl)⟩
    obtain rfl := hpt.det (he.part _ _ hm')
    refine ⟨by omega, ?_⟩
    rw [Int.toNat_natCast, hp, hm']
    simp only [Bool.and_eq_true, Bool.or_eq_true, decide_eq_true_iff, List.all_eq_true]
    refine ⟨⟨⟨⟨⟨⟨hk, h1⟩, h2⟩, h3⟩, h4⟩, h5⟩, fun n hn => ?_⟩
    split
    · rename_i q hq
      cases ht : tb q.met d.slot.toNat with
      | false => rfl
      | true =>
        obtain ⟨a, b⟩ := h6 n q hq ht
        simp [a, b]
    · rfl
def firstB (f : Int → Bool) : List Int → Option Int
  | [] => none
  | k :: ks => if f k then some k else firstB f ks
theorem firstB_some {f : Int → Bool} : ∀ {ks : List Int} {x : Int}, firstB f ks = some x → ∃ j : Nat, ks[j]? = some x ∧ f x = true ∧ ∀ (j' : Nat) (x' : Int), j' < j → ks[j']? = some x' → f x' = false
  | [], x, h => by simp [firstB] at h
  | k :: ks, x, h => by
    unfold firstB at h
    split at h
    · rename_i hk
      injection h with h
      subst h
      exact ⟨0, rfl, hk, fun j' x' h => absurd h (Nat.not_lt_zero _)⟩
    · rename_i hk
      obtain ⟨j, h1, h2, h3⟩ := firstB_some h
      refine ⟨j + 1, h1, h2, fun j' x' hj hx' => ?_⟩
      match j', hx' with
      | 0, hx' =>
        obtain rfl : k = x' := by simpa using hx'
        simpa using hk
      | j' + 1, hx' => exact h3 j' x' (by omega) (by simpa using hx')
theorem firstB_none {f : Int → Bool} : ∀ {ks : List Int}, firstB f ks = none → ∀ k ∈ ks, f k = false
  | [], _, k, hk => by cases hk
  | k :: ks, h, y, hy => by
    unfold firstB at h
    split at h
    · cases h
    · rename_i hk
      rcases List.mem_cons.1 hy with rfl | hy
      · simpa using hk
      · exact firstB_none h y hy
def baseB (l : List Nd) (en : List Nat) (d : Dty) : Nat → Nat → Nat
  | 0, i => i
  | n + 1, i => match l[i]? with
    | none => i
    | some p => match firstB (fun k => holdsB l en k d) p.kids with
      | none => i
      | some k => baseB l en d n k.toNat
theorem baseB_ok {l : List Nd} {en : List Nat} (hm : MayOk l) (he : EndsOk l en) (d : Dty) : ∀ (n i : Nat), l.length - i ≤ n → i < l.length → BaseR l d i (baseB l en d n i) := by
  intro n
  induction n with
  | zero => intro i h1 h2; omega
  | succ n ih =>
    intro i h1 h2
    obtain ⟨p, hp⟩ : ∃ p, l[i]? = some p := ⟨_, List.getElem?_eq_getElem h2⟩
    unfold baseB
    rw [hp]
    simp only
    cases hf : firstB (fun k => holdsB l en k d) p.kids with
    | none =>
      refine .stop i p hp fun k hk hh => ?_
      have := firstB_none hf k hk
      rw [(holdsB_iff hm he k d).2 hh] at this
      cases this
    | some k =>
      obtain ⟨j, hj, hk, hb⟩ := firstB_some hf
      obtain ⟨c, rfl, c1, c2⟩ := hm.1.kid_behind hp k (List.mem_of_getElem? hj)
      show BaseR l d i (baseB l en d n (c : Int).toNat)
      rw [Int.toNat_natCast]
      refine .go i p j c _ hp hj (fun j' x hj' hx hh => ?_) ((holdsB_iff hm he c d).1 hk) (ih c (by omega) c2)
      have := hb j' x hj' hx
      rw [(holdsB_iff hm he x d).2 hh] at this
      cases this
theorem baseB_at {l : List Nd} {en : List Nat} (hm : MayOk l) (he : EndsOk l en) (d : Dty) (r : Nat) (h : baseB l en d l.length 0 = r) : BaseR l d 0 r := h ▸ baseB_ok hm he d l.length 0 (by omega) hm.pos
def ndT : List Nd := (treeAB.map nd1).mapIdx fun i p => if i = 4 then { p with met := 2 } else p
theorem ndT_eq : ndT = [⟨-3, 1, 0, 0, 3, 1, [1, 6], 0⟩, ⟨1, 2, 0, 0, 3, 2, [2, 3], 0⟩, ⟨0, 3, 0, 0, 1, 2, [], 0⟩, ⟨1, 2, 1, 1, 3, 4, [4, 5], 0⟩, ⟨0, 3, 1, 2, 3, 4, [], 2⟩, ⟨1, 2, 3, 3, 3, 4, [], 0⟩, ⟨-2, 6, 3, 3, 3, 4, [], 0⟩] := rfl
theorem ab_tree (m : Int) (hm : 0 ≤ m) : Tree [⟨-3, 1, 0, 0, 3, 1, [1, 6], 0⟩, ⟨1, 2, 0, 0, 3, 2, [2, 3], 0⟩, ⟨0, 3, 0, 0, 1, 2, [], 0⟩, ⟨1, 2, 1, 1, 3, 4, [4, 5], 0⟩, ⟨0, 3, 1, 2, 3, 4, [], m⟩, ⟨1, 2, 3, 3, 3, 4, [], 0⟩, ⟨-2, 6, 3, 3, 3, 4, [], 0⟩] := by
  refine ⟨fun i p hp => ?_, ?_, ?_⟩
  · have hi : i < 7 := (List.getElem?_eq_some_iff.1 hp).1
    rcases (show i = 0 ∨ i = 1 ∨ i = 2 ∨ i = 3 ∨ i = 4 ∨ i = 5 ∨ i = 6 by omega) with rfl | rfl | rfl | rfl | rfl | rfl | rfl
    all_goals
      injection hp with hp
      subst hp
      exact ⟨by unfold Bare; simp [TokK, LeafK] , by simp⟩
  · refine .cons _ _ 0 7 _ _ rfl ?_ (.nil 7)
    refine .cons _ _ 1 6 _ _ rfl ?_ (.cons _ _ 6 7 _ _ rfl (.nil 7) (.nil 7))
    refine .cons _ _ 2 3 _ _ rfl (.nil 3) (.cons _ _ 3 6 _ _ rfl ?_ (.nil 6))
    exact .cons _ _ 4 5 _ _ rfl (.nil 5) (.cons _ _ 5 6 _ _ rfl (.nil 6) (.nil 6))
  · intro p hp
    simp only [List.mem_cons, List.not_mem_nil, or_false] at hp
    rcases hp with rfl | rfl | rfl | rfl | rfl | rfl | rfl <;> simp [liesB]
theorem ndT_tree : Tree ndT := by rw [ndT_eq]; exact ab_tree 2 (by omega)
theorem ndT_may : MayOk ndT := ⟨ndT_tree, _, rfl, rfl⟩
theorem ndT_ends : EndsOk ndT [7, 6, 3, 6, 5, 6, 7] := by
  refine ⟨rfl, fun k m hk => ?_⟩
  have hi : k < 7 := (List.getElem?_eq_some_iff.1 hk).1
  rw [ndT_eq]
  rcases (show k = 0 ∨ k = 1 ∨ k = 2 ∨ k = 3 ∨ k = 4 ∨ k = 5 ∨ k = 6 by omega) with rfl | rfl | rfl | rfl | rfl | rfl | rfl
  all_goals
    injection hk with hk
    subst hk
    refine ⟨by simp, ?_, by simp⟩
  · have := (ab_tree 2 (by omega)).trek
    exact this
  · refine .cons _ _ 1 6 _ _ rfl ?_ (.nil 6)
    refine .cons _ _ 2 3 _ _ rfl (.nil 3) (.cons _ _ 3 6 _ _ rfl ?_ (.nil 6))
    exact .cons _ _ 4 5 _ _ rfl (.nil 5) (.cons _ _ 5 6 _ _ rfl (.nil 6) (.nil 6))
  · exact .cons _ _ 2 3 _ _ rfl (.nil 3) (.nil 3)
  · refine .cons _ _ 3 6 _ _ rfl ?_ (.nil 6)
    exact .cons _ _ 4 5 _ _ rfl (.nil 5) (.cons _ _ 5 6 _ _ rfl (.nil 6) (.nil 6))
  · exact .cons _ _ 4 5 _ _ rfl (.nil 5) (.nil 5)
  · exact .cons _ _ 5 6 _ _ rfl (.nil 6) (.nil 6)
  · exact .cons _ _ 6 7 _ _ rfl (.nil 7) (.nil 7)
theorem treeAB_i64 : ∀ t ∈ treeAB, I64s t := by
  unfold treeAB I64s I64
  decide
end Go.Proofs.YthpmncdfaggkiaaGreat
namespace Go.Proofs.YthpmncdfaggkiaaGreat
open Go.RowKit
attribute [local go_sem] more_drew more_drewN more_size more_cell more_frozen more_setCell drew_more drewN_more lt_add_r lt_add_r2 lt_add_r3 lt_add_r4 lt_add_r5 lt_add_r6 lt_add_r7 lt_add_r8 lt_add_r9 lt_add_r10 lt_self_r lt_self_r2
set_option maxRecDepth 100000 in
set_option maxHeartbeats 2000000 in
theorem example25_any (w : World) : Calls Tryz.prog 29 #[] w fun e w' => ∃ A c ps, e = .returned (.slice A (ps : List Prt).length c) ∧ PS w' A c ps ∧ nds ps = ndT ∧ Ext w w' := by
  go_enter Tryz.func29, Tryz.ntmps29
  go_wp2_with fail
  refine (words_run w).mono ?_
  rintro e W3 ⟨rb, a', b', rfl, hr3, hg3, hx3⟩
  have HBU := zh (build17_words rb 2 a' b' 2 W3 hr3 hg3)
  have HX3 := zh hx3
  unfold gramV at HBU ⊢
  clear hr3 hg3 hx3
  go_wp2_with fail
  refine HBU.out.mono ?_
  rintro e W4 ⟨lb, rfl, hl4, hx4⟩
  have HX4 := zh (HX3.out.trans hx4)
  have HFR := zh (fresh_ab lb W4 hl4)
  clear HBU hl4 hx4 HX3
  go_wp2_with fail
  refine HFR.out.mono ?_
  rintro e W6 ⟨v, rs, rfl, hrw, hsh, hx6⟩
  obtain ⟨g, c, q, ps, rfl, hg1, hg2, hfz, hcl, hc1, hc2, hpl, hps, hnd⟩ := hrw.met hsh treeAB_i64 (by decide) (by decide) 4 (by decide) 2 (by omega)
  have hrl : rs.length = 7 := by rw [shs_length hsh]; rfl
  rw [hrl] at hpl hc1 ⊢
  have HPS := zh hps
  have HND := zh hnd
  have HPL := zh hpl
  have X6 : Hid (Ext w (W6.setCell ⟨g, 4 * 8 + 7, none⟩ (.int .u64 2))) := zh ((HX4.out.trans hx6).setCell (p := ⟨g, 4 * 8 + 7, none⟩) (by show w.heap.size ≤ g; have := HX4.out.size; omega) _)
  unfold maxLen at hc2
  simp only [Nat.reduceMul, Nat.reduceAdd] at hfz hcl HPS X6
  clear hrw hsh hx6 hps hnd hpl hrl HFR HX4
  go_wp2_with fail
  go_ret
  refine ⟨some ⟨g, 0, none⟩, c, ps, by rw [HPL.out]; rfl, HPS.out, HND.out, X6.out⟩
set_option maxRecDepth 100000 in
set_option maxHeartbeats 1000000 in
theorem lives25_any (w : World) : Calls Tryz.prog 11 #[] w fun e w' => e = .returned (.bool true) ∧ Ext w w' := by
  go_enter Tryz.func11, Tryz.ntmps11
  go_wp2_with fail
  refine (example25_any w).mono ?_
  rintro e w1 ⟨A, c, ps, rfl, hps, hnd, hx1⟩
  have HX1 := zh hx1
  have HB := zh (base_yes ⟨1, 2, 2, 0, 0⟩ 3 hps (by rw [hnd]; exact ndT_may) (by rw [hnd]; exact baseB_at ndT_may ndT_ends _ 3 (by decide)))
  unfold dyV at HB
  dsimp only at HB
  clear hps hnd hx1
  go_wp2_with fail
  refine HB.out.mono ?_
  rintro e w2 ⟨rfl, hx2⟩
  have HX2 := zh (HX1.out.trans hx2)
  clear hx2
  go_wp2_with fail
  go_ret
  exact ⟨rfl, HX2.out⟩
end Go.Proofs.YthpmncdfaggkiaaGreat
