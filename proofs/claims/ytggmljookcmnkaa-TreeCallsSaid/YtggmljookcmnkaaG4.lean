/- G4: 2 texts in one. -/
import Derived.Test.YtggmljookcmnkaaG3
import Derived.Test.YtggmljookcmnkaaB3
import Derived.WalkSpells
import Derived.WalkLawsBesides
import Derived.BigRegion
import Derived.Deep.RegionWith
import Derived.Deep.QuietTactic
import Derived.Deep.DeepCutAuto
import Derived.Deep.RegionHeld3
import Derived.Deep.RegionLaw
import Derived.BigQuiet
import Derived.Lib.Hide
/- The contract of tree.Stale. -/
namespace Go.Proofs.Ytggmljookcmnkaa
open Go.RowKit
attribute [local go_sem] more_drew more_drewN more_size more_cell more_frozen more_setCell drew_more drewN_more lt_add_r lt_add_r2 lt_add_r3 lt_add_r4 lt_add_r5 lt_add_r6 lt_add_r7 lt_add_r8 lt_add_r9 lt_add_r10 lt_self_r lt_self_r2
attribute [local go_sem] Oper.semAt_some

/-- what of stale is told from k on -/
structure StaleTo (l : List Nd) (k : Nat) (bs : List Bool) : Prop where
  len : bs.length = l.length
  behind : ∀ (j : Nat) (p : Nd), l[j]? = some p → k ≤ j → bs[j]? = some (decide (p.met ≠ 0) || p.kids.any fun x => (bs[x.toNat]?).getD false)
theorem StaleTo.first {l : List Nd} {bs : List Bool} (h : bs.length = l.length) : StaleTo l l.length bs := ⟨h, fun _ _ hp hj => absurd (lt_of_get hp) (Nat.not_lt.2 hj)⟩
theorem StaleTo.last {l : List Nd} {bs : List Bool} (h : StaleTo l 0 bs) : StaleOk l bs := ⟨h.len, fun j p hp => h.behind j p hp (Nat.zero_le _)⟩
theorem stale_set {l : List Nd} {bs : List Bool} (T : Tree l) {k j : Nat} {p : Nd} {v : Bool} (hp : l[j]? = some p) (hj : k ≤ j) : (p.kids.any fun x => ((bs.set k v)[x.toNat]?).getD false) = p.kids.any fun x => (bs[x.toNat]?).getD false :=
  any_congr' fun x hx => by
    obtain ⟨c, rfl, h1, h2⟩ := T.kid_behind hp x hx
    rw [Int.toNat_natCast, List.getElem?_set_ne (by omega)]
theorem StaleTo.step {l : List Nd} {bs : List Bool} (T : Tree l) {k : Nat} (h : StaleTo l (k + 1) bs) {p : Nd} (hp : l[k]? = some p) : StaleTo l k (bs.set k (decide (p.met ≠ 0) || p.kids.any fun x => (bs[x.toNat]?).getD false)) := by
  have hk := lt_of_get hp
  refine ⟨by rw [List.length_set]; exact h.len, fun j q hq hj => ?_⟩
  rw [stale_set T hq hj]
  rcases Nat.eq_or_lt_of_le hj with rfl | hj
  · rw [hp] at hq
    injection hq with hq
    subst hq
    rw [List.getElem?_set_self (by rw [h.len]; exact hk)]
  · rw [List.getElem?_set_ne (by omega)]
    exact h.behind j q hq hj
/-- a block of bools -/
def MadeB (w : World) (g : Nat) (bs : List Bool) : Prop := w.heap[g]? = some (.cells (bs.map Value.bool).toArray 4)
theorem MadeB.new (w : World) (n : Nat) : MadeB (w.alloc (.cells (madeCells #[.bool false] n) 4)) w.heap.size (List.replicate n false) := by
  unfold MadeB
  rw [heap_alloc_new, made_cells, List.map_replicate]
theorem MadeB.cell {w : World} {g : Nat} {bs : List Bool} (h : MadeB w g bs) {k : Nat} {v : Bool} (hk : bs[k]? = some v) : w.cell? ⟨g, k, none⟩ = some (.bool v) ∧ w.frozen? ⟨g, k, none⟩ = false ∧ g < w.heap.size := by
  unfold MadeB at h
  refine ⟨?_, by simp [World.frozen?, h], lt_of_heap h⟩
  rw [cell_of_row _ _ _ _ _ _ h]
  simp [hk]
theorem MadeB.store {w : World} {g : Nat} {bs : List Bool} (h : MadeB w g bs) (k : Nat) (v : Bool) : MadeB (w.setCell ⟨g, k, none⟩ (.bool v)) g (bs.set k v) := by
  unfold MadeB at *
  simp [World.setCell, Array.getElem?_modify, h, List.map_set]
theorem MadeB.below {w w' : World} {g : Nat} {bs : List Bool} (h : MadeB w g bs) (e : Below w.heap.size w w') : MadeB w' g bs := (e.block g (lt_of_heap h)).trans h
theorem MadeB.ext {w w' : World} {g : Nat} {bs : List Bool} (h : MadeB w g bs) (e : Ext w w') : MadeB w' g bs := h.below e.below
theorem infoBool : (Try.prog.info? 4).map (fun i => (i.zero, i.size, i.bytes)) = some (some (.bool false), 1, 1) := by kernel_rfl
/-- a call's result that is a row of bools -/
def BoolsRet (w : World) (bs : List Bool) (e : Ending) (w' : World) : Prop := ∃ g, e = .returned (.slice (some ⟨g, 0, none⟩) bs.length bs.length) ∧ MadeB w' g bs ∧ w.heap.size ≤ g ∧ Ext w w'
/-- where a round of Stale is -/
structure StV (w W2 : World) (n0 m g d3 n : Nat) (p : Prt) (bs : List Bool) (V : World) : Prop where
  low : Low n0 V (fun U => MadeB U g bs ∧ U.heap[d3]? = some (.cells #[.slice (some ⟨g, 0, none⟩) n n] 66) ∧ Below w.heap.size w U)
  part : V.heap[m]? = some (.cells (prtCells p).toArray 33)
  turn : Turn (fun k => ((k = g ∨ n0 ≤ k) ∧ k < n0) ∨ m ≤ k) W2 V
  hm : n0 ≤ m
  hg : g < n0
  hd : d3 ≠ g
section
variable {w W2 V V' : World} {n0 m g d3 n : Nat} {p : Prt} {bs : List Bool}
theorem StV.ext (h : StV w W2 n0 m g d3 n p bs V) (e : Ext V V') : StV w W2 n0 m g d3 n p bs V' := ⟨h.low.below (e.below.mono h.low.size), ext_block h.part e, h.turn.trans (Turn.of_ext e), h.hm, h.hg, h.hd⟩
theorem StV.made (h : StV w W2 n0 m g d3 n p bs V) : MadeB V g bs := Low.up (Φ := fun U => MadeB U g bs) (h.low.imp fun _ h => h.1) fun _ h e => h.below e
theorem StV.out (h : StV w W2 n0 m g d3 n p bs V) : V.heap[d3]? = some (.cells #[.slice (some ⟨g, 0, none⟩) n n] 66) := Low.up (Φ := fun U => U.heap[d3]? = some (.cells #[.slice (some ⟨g, 0, none⟩) n n] 66)) (h.low.imp fun _ h => h.2.1) fun _ h e => (e.block _ (lt_of_heap h)).trans h
theorem StV.below (h : StV w W2 n0 m g d3 n p bs V) : Below w.heap.size w V := Low.up (Φ := Below w.heap.size w) (h.low.imp fun _ h => h.2.2) fun _ h e => h.trans (e.mono h.size)
theorem StV.store (h : StV w W2 n0 m g d3 n p bs V) (hwg : w.heap.size ≤ g) (k : Nat) (v : Bool) : StV w W2 n0 m g d3 n p (bs.set k v) (V.setCell ⟨g, k, none⟩ (.bool v)) := by
  have hmg : ¬ g = m := by have := h.hm; have := h.hg; omega
  refine ⟨h.low.store fun U hU => ⟨hU.1.store k v, ?_, hU.2.2.setCell hwg _⟩, ?_, h.turn.trans (Turn.setCell V (p := ⟨g, k, none⟩) (.inl ⟨.inl rfl, h.hg⟩) _), h.hm, h.hg, h.hd⟩
  · have := hU.2.1
    have h3 := h.hd
    simp [World.setCell, Array.getElem?_modify, Ne.symm h3, this]
  · have := h.part
    simp [World.setCell, Array.getElem?_modify, hmg, this]
end
/-- what Stale has done before it comes to a part -/
def StI (w : World) (n0 g d3 n : Nat) (ps : List Prt) (k : Nat) (W : World) : Prop :=
  ∃ bs : List Bool, Low n0 W (fun U => MadeB U g bs ∧ U.heap[d3]? = some (.cells #[.slice (some ⟨g, 0, none⟩) n n] 66) ∧ Below w.heap.size w U) ∧ StaleTo (nds ps) k bs
set_option maxRecDepth 100000 in
set_option maxHeartbeats 1000000 in
theorem stale1_any (x : Int) (c g d3 n : Nat) (bs : List Bool) (w : World) (hx : x = (c : Int)) (hc : c < bs.length) (hn : bs.length = n) (_ : n ≤ 1000000) (hM : MadeB w g bs) (hd : w.heap[d3]? = some (.cells #[.slice (some ⟨g, 0, none⟩) n n] 66)) :
    Calls Try.prog 106 #[.int .i64 x, pt d3] w fun e w' => e = .returned (.bool ((bs[x.toNat]?).getD false)) ∧ Ext w w' := by
  subst hx
  obtain ⟨v, hv⟩ : ∃ v, bs[c]? = some v := ⟨_, List.getElem?_eq_getElem hc⟩
  obtain ⟨d1, d2, d4⟩ := hM.cell hv
  have HV : Hid ((bs[(c : Int).toNat]?).getD false = v) := Lib.hid (by rw [Int.toNat_natCast, hv]; rfl)
  have k0 := cell_of_row _ _ 0 _ _ _ hd
  simp at k0
  have l0 := lt_of_heap hd
  rw [hn] at hc
  clear hM hd hv
  go_enter Try.func106, Try.ntmps106
  go_wp2_with fail
  go_ret
  exact ⟨ret_bool HV.out.symm, Ext.refl _⟩
end Go.Proofs.Ytggmljookcmnkaa

/- The contract of tree.Stale. -/
namespace Go.Proofs.Ytggmljookcmnkaa
open Go.RowKit
attribute [local go_sem] more_drew more_drewN more_size more_cell more_frozen more_setCell drew_more drewN_more lt_add_r lt_add_r2 lt_add_r3 lt_add_r4 lt_add_r5 lt_add_r6 lt_add_r7 lt_add_r8 lt_add_r9 lt_add_r10 lt_self_r lt_self_r2
attribute [local go_sem] Oper.semAt_some

set_option maxRecDepth 100000 in
set_option maxHeartbeats 4000000 in
theorem stale_any (A : Option Addr) (c : Nat) (ps : List Prt) (w : World) (h : PS w A c ps) (T : Tree (nds ps)) :
    Calls Try.prog 49 #[.slice A ps.length c] w fun e w' => ∃ st, StaleOk (nds ps) st ∧ BoolsRet w st e w' := by
  have hl := h.few.len
  have hp := T.pos
  rw [nds_length] at hp
  have S := Lib.hid h
  have HT := Lib.hid T
  have hmk := run_make_row' (P := Try.prog) 66 4 (.bool false) 1 Try.underlying66 infoBool rfl .i64 .i64 ps.length (by omega) (by omega)
  clear h T
  refine calls_of_marks Try.func49 rfl ?_
  simp only [Try.ntmps49, List.size_toArray, List.length_cons, List.length_nil, Nat.reduceAdd, Nat.reduceSub, Array.replicate_succ, Array.replicate_zero, List.push_toArray, List.append_toArray, List.nil_append, List.cons_append]
  go_wp2_with fail
  refine (check_ok S.out HT.out).mono ?_
  rintro e w1 ⟨rfl, hx1⟩
  have HX1 := Lib.hid hx1
  clear hx1
  go_upto_region 4 with fail
  obtain ⟨g, hg⟩ : ∃ g, w1.heap.size = g := ⟨_, rfl⟩
  have M0 := MadeB.new w1 ps.length
  obtain ⟨W2, hW2⟩ : ∃ W2, (w1.alloc (.cells (madeCells #[.bool false] ps.length) 4)).alloc (.cells #[.slice (some ⟨g, 0, none⟩) ps.length ps.length] 66) = W2 := ⟨_, rfl⟩
  have M2 : MadeB W2 g (List.replicate ps.length false) := by rw [← hW2, ← hg]; exact M0.ext (by repeat (first | exact Ext.refl _ | refine Ext.alloc ?_ _ | refine Ext.more ?_ _ _ | refine Ext.drew ?_ | refine Ext.drewN ?_ _ | refine Ext.setCell ?_ (by simp <;> omega) _))
  have G2 : W2.heap[g + 1]? = some (.cells #[.slice (some ⟨g, 0, none⟩) ps.length ps.length] 66) := by
    rw [← hW2, ← hg]
    exact (by simp only [heap_alloc_get, World.size_alloc]; (repeat (split; (first | rfl | (exfalso; omega)))); (try (first | (exfalso; omega) | simp_all)))
  have X2 : Ext w W2 := by rw [← hW2]; exact HX1.out.trans (by repeat (first | exact Ext.refl _ | refine Ext.alloc ?_ _ | refine Ext.more ?_ _ _ | refine Ext.drew ?_ | refine Ext.drewN ?_ _ | refine Ext.setCell ?_ (by simp <;> omega) _))
  have S2 : W2.heap.size = g + 2 := by rw [← hW2, ← hg]; simp
  have HGW : Hid (w.heap.size ≤ g) := Lib.hid (by rw [← hg]; exact HX1.out.size)
  rw [hg, hW2]
  clear M0 hW2 hmk
  go_wp2_with fail
  refine (back_make A ps.length c _).mono ?_
  rintro e w3 ⟨rfl, hw3⟩
  have X3 : Ext W2 w3 := by rw [hw3]; exact (by repeat (first | exact Ext.refl _ | refine Ext.alloc ?_ _ | refine Ext.more ?_ _ _ | refine Ext.drew ?_ | refine Ext.drewN ?_ _ | refine Ext.setCell ?_ (by simp <;> omega) _))
  have S3 : w3.heap.size = g + 3 := by rw [hw3]; simp [S2]
  have G8 : w3.heap[g + 2]? = some (.cells #[.slice A ps.length c] 23) := by rw [hw3, ← S2]; exact heap_alloc_new _ _
  rw [S2]
  clear hw3
  go_wp2_with fail
  have I0 : StI w (g + 3) g (g + 1) ps.length ps ps.length w3 := by
    refine ⟨List.replicate ps.length false, ⟨w3, S3, Below.refl _ _, M2.ext X3, ext_block G2 X3, (X2.trans X3).below⟩, ?_⟩
    have := StaleTo.first (l := nds ps) (bs := List.replicate ps.length false) (by rw [List.length_replicate, nds_length])
    rwa [nds_length] at this
  have hwg : w.heap.size ≤ g := HGW.out
  refine wp_range (gf := 127) (lb := #[pt (g + 2)]) (encs := encB) (xs := backs ps) (S := fun k => k = g ∨ g + 3 ≤ k) rfl (enters_of Try.func127 (by kernel_rfl) rfl) (fun _ => rfl) (fun k hk => by omega)
    (fun w1 hx _ => back_iter A c ps w w1 (g + 2) _ S.out.parts (by omega) S.out.cap S.out.top ((X2.trans X3).trans hx).below (ext_block G8 hx) (by omega) (fun k hk => by omega))
    (fun j W' => StI w (g + 3) g (g + 1) ps.length ps (ps.length - j) W') (fun _ _ _ => False) ?_ (fun _ _ _ _ _ _ h => h) I0 ?_ ?_ (fun _ _ _ _ _ h => h.elim)
  · rintro j U U' hbe hsz ⟨rs, h1, h2⟩
    exact ⟨rs, h1.below (by rw [← S3]; exact hbe), h2⟩
  · rintro l j ⟨k, p⟩ W' hx hI hsz
    obtain ⟨hj, hk, hp⟩ := backs_get hx
    dsimp only at hk hp
    have HKK := Lib.hid hk
    have hkl : k < ps.length := by omega
    clear hI hx hk
    simp only [encB, aggV]
    gi_wp2
    refine ⟨(Ext.refl _).alloc _, ?_⟩
    obtain ⟨m, hm⟩ : ∃ m, W'.heap.size = m := ⟨_, rfl⟩
    have hP0 := heap_alloc_new W' (.cells (prtCells p).toArray 33)
    rw [hm] at hP0 ⊢
    intro W2' t2 hI2 hsz2
    obtain ⟨bs, hlow, hE⟩ := hI2
    have hmn : g + 3 ≤ m := by omega
    have V0 : StV w W2' (g + 3) m g (g + 1) ps.length p bs W2' := ⟨hlow, (t2.block m (by have := lt_of_heap hP0; exact this) (by omega)).trans hP0, Turn.refl _, hmn, by omega, by omega⟩
    have HV0 := Lib.hid V0
    have HE := Lib.hid hE
    have HPP := Lib.hid hp
    have HJ := Lib.hid hj
    clear t2 hlow hE V0 hP0 hp hsz hsz2 hm hj
    obtain ⟨ly, y0, y1, y2, y3, y4, y5, y6, y7⟩ := part_cells HV0.out.part
    have k0 := cell_of_row _ _ 0 _ _ _ HV0.out.out
    simp at k0
    have l0 := lt_of_heap HV0.out.out
    have hbl : bs.length = ps.length := by rw [HE.out.len, nds_length]
    obtain ⟨v0, hv0⟩ : ∃ v0, bs[k]? = some v0 := ⟨_, List.getElem?_eq_getElem (by omega)⟩
    -- what a round comes to
    have FIN : Hid (∀ V, StV w W2' (g + 3) m g (g + 1) ps.length p (bs.set k (decide (p.nd.met ≠ 0) || p.nd.kids.any fun x => (bs[x.toNat]?).getD false)) V →
        Turn (fun b1 => ((b1 = g ∨ g + 3 ≤ b1) ∧ b1 < w3.heap.size) ∨ m ≤ b1) W2' V ∧ StI w (g + 3) g (g + 1) ps.length ps (ps.length - (j + 1)) V) := Lib.hid (by
      intro V hV
      have hkk : ps.length - (j + 1) = k := by have := HKK.out; omega
      have hkj : ps.length - j = k + 1 := by have := HKK.out; have := HJ.out; omega
      rw [S3, hkk]
      have hE := HE.out
      rw [hkj] at hE
      exact ⟨hV.turn, _, hV.low, hE.step HT.out (nds_get HPP.out)⟩)
    have HBL := Lib.hid hbl
    obtain ⟨bv, hbv⟩ : ∃ bv, (p.nd.kids.any fun x => (bs[x.toNat]?).getD false) = bv := ⟨_, rfl⟩
    have HBV := Lib.hid hbv
    have CC := Lib.hid (fun (V : World) (x : Ext W2' V) => hasInts 106 #[pt (g + 1)] (fun x => (bs[x.toNat]?).getD false) p.kA p.kc p.nd.kids V
      (((S.out.oks.get HPP.out).below (HV0.out.ext x).below).kids) (by have := (S.out.oks.get HPP.out).cap; have := (S.out.few.kids_le (List.mem_of_getElem? HPP.out)); omega) (enters_of Try.func106 (by kernel_rfl) rfl)
      (fun wr y hx hy => by
        obtain ⟨cn, rfl, hc1, hc2⟩ := HT.out.kid_behind (nds_get HPP.out) y hy
        rw [nds_length] at hc2
        have HVx := HV0.out.ext (x.trans hx)
        exact stale1_any _ cn g (g + 1) ps.length bs wr rfl (by rw [HBL.out]; exact hc2) HBL.out (by omega) HVx.made HVx.out))
    obtain ⟨b1, hb1⟩ : ∃ b1, (p.nd.met != 0) = b1 := ⟨_, rfl⟩
    rw [hbv] at FIN CC
    clear hbl hbv
    gi_wp2
    cases b1 with
    | true =>
      refine wpIn_region_segs (12) [([0, 1, 2, 3, 4, 5, 6, 7, 8], 9), ([10, 11], 12)] [] (by kernel_rfl) (by kernel_rfl) (by kernel_rfl) ?_
      (refine segs_cons fun K hK => ?_); (first | (simp only [pick_nil]) | (simp only [pick, nthC])); (repeat (go_big_quiet_step (fail))); (refine wpQuiet_nil (hK _ fun next hn => ?_)); (clear hK K); (simp only [pick, nthC])
      go_wp2_with fail
      refine segQ_mk (fun _ => laid (Ext.refl _).drew) (hn _ _ ?_)
      clear hn next
      (refine segs_cons fun K hK => ?_); (first | (simp only [pick_nil]) | (simp only [pick, nthC])); (repeat (go_big_quiet_step (fail))); (refine wpQuiet_nil (hK _ fun next hn => ?_)); (clear hK K); (simp only [pick, nthC])
      have HVd := Lib.hid (HV0.out.ext (Ext.refl _).drew)
      obtain ⟨c1, c2, c3⟩ := HVd.out.made.cell hv0
      go_wp2_with fail
      refine segQ_mk (fun h => absurd rfl h) (hn _ _ ?_)
      clear hn next
      (refine segs_nil fun K hK => ?_); (first | (simp only [pick_nil]) | (simp only [pick, nthC])); (repeat (go_big_quiet_step (fail))); (refine wpQuiet_nil (hK _ ?_)); (clear hK K)
      have HV9 := HVd.out.store hwg k true
      have e1 : (decide (p.nd.met ≠ 0) || bv) = true := by
        have : p.nd.met ≠ 0 := by simpa using hb1
        simp [this]
      rw [e1] at FIN
      gi_wp2
      exact FIN.out _ HV9
    | false =>
      refine wpIn_region_segs (12) [([0, 1, 2, 3, 4, 5, 6, 7, 8], 9), ([10, 11], 12)] [] (by kernel_rfl) (by kernel_rfl) (by kernel_rfl) ?_
      (refine segs_cons fun K hK => ?_); (first | (simp only [pick_nil]) | (simp only [pick, nthC])); (repeat (go_big_quiet_step (fail))); (refine wpQuiet_nil (hK _ fun next hn => ?_)); (clear hK K); (simp only [pick, nthC])
      go_wp2_with fail
      refine (CC.out _ (Ext.refl _).drew).mono ?_
      rintro e w8 ⟨rfl, hx8⟩
      have HX8 : Hid (Ext W2' w8) := Lib.hid (((Ext.refl _).drew).trans hx8)
      clear hx8 ly y0 y1 y2 y3 y4 y5 y6 y7 k0 l0
      go_wp2_with fail
      refine segQ_mk (fun _ => laid HX8.out) (hn _ _ ?_)
      clear hn next
      (refine segs_cons fun K hK => ?_); (first | (simp only [pick_nil]) | (simp only [pick, nthC])); (repeat (go_big_quiet_step (fail))); (refine wpQuiet_nil (hK _ fun next hn => ?_)); (clear hK K); (simp only [pick, nthC])
      have HVd := Lib.hid (HV0.out.ext HX8.out)
      obtain ⟨c1, c2, c3⟩ := HVd.out.made.cell hv0
      go_wp2_with fail
      refine segQ_mk (fun h => absurd rfl h) (hn _ _ ?_)
      clear hn next
      (refine segs_nil fun K hK => ?_); (first | (simp only [pick_nil]) | (simp only [pick, nthC])); (repeat (go_big_quiet_step (fail))); (refine wpQuiet_nil (hK _ ?_)); (clear hK K)
      have HV9 := HVd.out.store hwg k bv
      have e1 : (decide (p.nd.met ≠ 0) || bv) = bv := by
        have : p.nd.met = 0 := by simpa using hb1
        simp [this]
      rw [e1] at FIN
      gi_wp2
      exact FIN.out _ HV9
  · rintro D V ⟨bs, hlow, hE⟩ hD hsz hk
    rw [backs_length, Nat.sub_self] at hE
    have k7 := cell_of_row _ _ 0 _ _ _ (Low.up (Φ := fun U => U.heap[g + 1]? = some (.cells #[.slice (some ⟨g, 0, none⟩) ps.length ps.length] 66)) (hlow.imp fun _ h => h.2.1) fun U h e => (e.block _ (lt_of_heap h)).trans h)
    simp at k7
    have l7 : g + 1 < V.heap.size := by have := hlow.size; omega
    have tD : Turn (fun b => b = D) V (V.putObj D (.deferred none)) := putObj_turn _ _ rfl
    have hlow2 := hlow.below (tD.below hlow.size fun k hk => by omega)
    have hM2 := Low.up (Φ := fun U => MadeB U g bs) (hlow2.imp fun _ h => h.1) fun U h e => h.below e
    have hB2 : Below w.heap.size w (V.putObj D (.deferred none)) := Low.up (Φ := Below w.heap.size w) (hlow2.imp fun _ h => h.2.2) fun U h e => h.trans (e.mono h.size)
    have hbl : bs.length = ps.length := by rw [hE.len, nds_length]
    have OUT : Hid (∃ st, StaleOk (nds ps) st ∧ BoolsRet w st (.returned (.slice (some ⟨g, 0, none⟩) ps.length ps.length)) (V.putObj D (.deferred none))) := Lib.hid
      ⟨bs, hE.last, g, by rw [hbl], hM2, hwg, Ext.of_below hB2⟩
    clear hlow hE tD hlow2 hM2 hB2 hbl
    go_wp2_with fail
    exact marks_ret1 (D := D) (v := .slice (some ⟨g, 0, none⟩) ps.length ps.length) rfl hk (by simp [results, Try.results49, go_sem]) OUT.out
end Go.Proofs.Ytggmljookcmnkaa
