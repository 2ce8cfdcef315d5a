/- Pairs of contracts: what the program tells of trees is what the document tells. -/
import Derived.Test.YtggmljookcmnkaaN3
import Derived.Test.YtggmljookcmnkaaN5
import Derived.Test.YtggmljookcmnkaaN6
import Derived.Test.YtggmljookcmnkaaN9
import Derived.Test.YtggmljookcmnkaaG6
import Derived.Test.YtggmljookcmnkaaR8
import Derived.Test.YtggmljookcmnkaaR9
import Derived.Test.YtggmljookcmnkaaR4
import Derived.Test.YtggmljookcmnkaaVp
import Derived.WalkSpells
import Derived.WalkLawsBesides
import Derived.BigRegion
import Derived.Deep.RegionWith
import Derived.Deep.QuietTactic
import Derived.Deep.DeepCutAuto
import Derived.Deep.RegionHeld3
import Derived.Deep.RegionLaw
import Derived.BigQuiet
import Derived.Lib.Hide
namespace Go.Proofs.Ytggmljookcmnkaa
open Go.RowKit
attribute [local go_sem] more_drew more_drewN more_size more_cell more_frozen more_setCell drew_more drewN_more lt_add_r lt_add_r2 lt_add_r3 lt_add_r4 lt_add_r5 lt_add_r6 lt_add_r7 lt_add_r8 lt_add_r9 lt_add_r10 lt_self_r lt_self_r2

/-- one value alone is so -/
def One {α : Type} (R : α → Prop) : Prop := ∀ x y, R x → R y → x = y
theorem one_eq {α : Type} (a : α) : One (fun x => x = a) := fun _ _ h k => h.trans k.symm
/-- a result that is a slice of parts -/
def GotP (R : List Nd → Prop) (w : World) (e : Ending) (w' : World) : Prop := ∃ A c qs, e = .returned (.slice A (qs : List Prt).length c) ∧ R (nds qs) ∧ Prts w' A qs ∧ PrtsOk w' qs ∧ qs.length ≤ 1000000 ∧ Ext w w'
theorem GotP.nil {w w' : World} {e : Ending} (h : e = .returned (.slice none 0 0) ∧ Ext w w') : GotP (fun x => x = []) w e w' := ⟨none, 0, [], h.1, rfl, Prts.nil, fun p hp => (by cases hp), by decide, h.2⟩
theorem PartsRet.got {R : List Nd → Prop} {l : List Nd} {w w' : World} {e : Ending} (h : PartsRet w l e w') (hR : R l) (hl : l.length ≤ 1000000) : GotP R w e w' := by
  obtain ⟨A, c, qs, he, hn, ho, hx⟩ := h
  exact ⟨A, c, qs, he, by rw [hn]; exact hR, ho.cells.1, ho.oks, by rw [← nds_length, hn]; exact hl, hx⟩
/-- a result that is a slice of ints -/
def GotI (R : List Int → Prop) (w : World) (e : Ending) (w' : World) : Prop := ∃ A c us, e = .returned (.slice A (us : List Int).length c) ∧ R us ∧ Ints w' A us ∧ us.length ≤ 1000000 ∧ Ext w w'
theorem GotI.nil {w w' : World} {e : Ending} (h : e = .returned (.slice none 0 0) ∧ Ext w w') : GotI (fun x => x = []) w e w' := ⟨none, 0, [], h.1, rfl, Ints.nil, by decide, h.2⟩
theorem IntsRet.got {R : List Int → Prop} {us : List Int} {w w' : World} {e : Ending} (h : IntsRet w us e w') (hR : R us) (hl : us.length ≤ 1000000) : GotI R w e w' := by
  obtain ⟨A, c, he, ho, hx⟩ := h
  exact ⟨A, c, us, he, hR, ho.ints.1, hl, hx⟩
/-- a result that is a slice of bools -/
def GotB (R : List Bool → Prop) (w : World) (e : Ending) (w' : World) : Prop := ∃ A c us, e = .returned (.slice A (us : List Bool).length c) ∧ R us ∧ Bls w' A us ∧ us.length ≤ 1000000 ∧ Ext w w'
theorem GotB.nil {w w' : World} {e : Ending} (h : e = .returned (.slice none 0 0) ∧ Ext w w') : GotB (fun x => x = []) w e w' := ⟨none, 0, [], h.1, rfl, fun h0 => absurd h0 (by decide), by decide, h.2⟩
/-- a result that is a slice of parts and an errno -/
def GotPE (R : List Nd × Int → Prop) (w : World) (e : Ending) (w' : World) : Prop := ∃ A c qs n, e = .returned (.tuple #[.slice A (qs : List Prt).length c, .int .i64 n]) ∧ R (nds qs, n) ∧ Prts w' A qs ∧ PrtsOk w' qs ∧ qs.length ≤ 1000000 ∧ Ext w w'
theorem GotPE.nil {w w' : World} {e : Ending} (h : e = .returned (.tuple #[.slice none 0 0, .int .i64 2]) ∧ Ext w w') : GotPE (fun x => x = ([], 2)) w e w' := ⟨none, 0, [], 2, h.1, rfl, Prts.nil, fun p hp => (by cases hp), by decide, h.2⟩
theorem PartsErr.got {l : List Nd} {n : Int} {w w' : World} {e : Ending} (h : PartsErr w l n e w') (hl : l.length ≤ 1000000) : GotPE (fun x => x = (l, n)) w e w' := by
  obtain ⟨A, c, qs, he, hn, ho, hx⟩ := h
  exact ⟨A, c, qs, n, he, by rw [hn], ho.cells.1, ho.oks, by rw [← nds_length, hn]; exact hl, hx⟩
/-- both functions tell the same of the same -/
def Twin {α : Type} (W : World) (f g : FuncId) (G : (α → Prop) → World → Ending → World → Prop) (args : Array Value) : Prop :=
  ∃ R : α → Prop, One R ∧ (∀ V, Ext W V → Calls Try.prog f args V (G R V)) ∧ ∀ V, Ext W V → Calls Try.prog g args V (G R V)
/-- both functions tell this one value -/
def Twice (W : World) (f g : FuncId) (args : Array Value) (v : Value) : Prop :=
  (∀ V, Ext W V → Calls Try.prog f args V fun e w' => e = .returned v ∧ Ext V w') ∧ ∀ V, Ext W V → Calls Try.prog g args V fun e w' => e = .returned v ∧ Ext V w'
section
variable {A B : Option Addr} {c d : Nat} {ps ss : List Prt} {W : World}
theorem rstale_no16 {w : World} (h : PS w A c ps) (T : ¬ Tree (nds ps)) : Calls Try.prog 62 #[.slice A ps.length c] w fun e w' => e = .returned (.slice none 0 0) ∧ Ext w w' := by
  have CH := Lib.hid (rcheck_no h T)
  clear h T
  go_enter Try.func62, Try.ntmps62
  go_wp2_with fail
  refine CH.out.mono ?_
  rintro e w3 ⟨rfl, hx3⟩
  have HX3 := Lib.hid hx3
  clear hx3
  go_wp2_with fail
  go_ret
  exact ⟨rfl, HX3.out⟩
theorem check_twin (h : PS W A c ps) : ∃ n : Int, Twice W 43 10 #[.slice A ps.length c] (.int .i64 n) := by
  by_cases T : Tree (nds ps)
  · exact ⟨0, fun V x => check_ok (h.ext x) T, fun V x => rcheck_ok (h.ext x) T⟩
  · exact ⟨2, fun V x => check_no (h.ext x) T, fun V x => rcheck_no (h.ext x) T⟩
theorem end_twin (h : PS W A c ps) (i : Int) : ∃ n : Int, Twice W 47 54 #[.slice A ps.length c, .int .i64 i] (.int .i64 n) := by
  by_cases T : IsP (nds ps) i
  · obtain ⟨T, h0, h1⟩ := T
    obtain ⟨k, rfl⟩ : ∃ k : Nat, i = (k : Int) := ⟨i.toNat, by omega⟩
    obtain ⟨m, hm⟩ := T.part (i := k) (by omega)
    exact ⟨m, fun V x => End_yes k m (h.ext x) T hm, fun V x => rEnd_yes k m (h.ext x) T hm⟩
  · exact ⟨0, fun V x => End_no i (h.ext x) T, fun V x => rEnd_no i (h.ext x) (by rw [← nds_length]; exact T)⟩
theorem find_twin (h : PS W A c ps) (sym at_ : Int) : ∃ (n : Int) (b : Bool), Twice W 36 53 #[.slice A ps.length c, .int .i64 sym, .int .i64 at_] (.tuple #[.int .i64 n, .bool b]) := by
  by_cases T : Tree (nds ps)
  · exact ⟨_, _, fun V x => Find_yes sym at_ (h.ext x) T, fun V x => rfind_yes sym at_ (h.ext x) T⟩
  · exact ⟨_, _, fun V x => Find_no sym at_ (h.ext x) T, fun V x => rfind_no sym at_ (h.ext x) T⟩
theorem sub_twin (h : PS W A c ps) (i : Int) : Twin W 39 55 GotP #[.slice A ps.length c, .int .i64 i] := by
  have hl := h.few.len
  by_cases T : IsP (nds ps) i
  · obtain ⟨T, h0, h1⟩ := T
    obtain ⟨k, rfl⟩ : ∃ k : Nat, i = (k : Int) := ⟨i.toNat, by omega⟩
    obtain ⟨m, hm⟩ := T.part (i := k) (by omega)
    have hs : (subF (nds ps) k m).length ≤ 1000000 := by
      rw [len_sub hm.le]
      have := hm.le
      rw [nds_length] at this
      omega
    exact ⟨_, one_eq (subF (nds ps) k m), fun V x => (Sub_yes k m (h.ext x) T hm).mono fun e w' r => r.got rfl hs, fun V x => (rsub_yes k m (h.ext x) T hm).mono fun e w' r => r.got rfl hs⟩
  · exact ⟨_, one_eq [], fun V x => (Sub_no i (h.ext x) T).mono fun e w' r => GotP.nil r, fun V x => (rsub_no i (h.ext x) T).mono fun e w' r => GotP.nil r⟩
theorem parents_twin (h : PS W A c ps) : Twin W 46 56 GotI #[.slice A ps.length c] := by
  have hl := h.few.len
  by_cases T : Tree (nds ps)
  · exact ⟨ParOk (nds ps), fun x y hx hy => ParOk.one T hx hy, fun V x => (Parents_yes (h.ext x) T).mono fun e w' ⟨us, hu, r⟩ => r.got hu (by rw [hu.1, nds_length]; omega), fun V x => (rParents_yes (h.ext x) T).mono fun e w' ⟨us, hu, r⟩ => r.got hu (by rw [hu.1, nds_length]; omega)⟩
  · exact ⟨_, one_eq [], fun V x => (Parents_no (h.ext x) T).mono fun e w' r => GotI.nil r, fun V x => (rParents_no (h.ext x) T).mono fun e w' r => GotI.nil r⟩
theorem path_twin (h : PS W A c ps) (i : Int) : Twin W 45 13 GotI #[.slice A ps.length c, .int .i64 i] := by
  have hl := h.few.len
  by_cases T : IsP (nds ps) i
  · obtain ⟨T, h0, h1⟩ := T
    obtain ⟨k, rfl⟩ : ∃ k : Nat, i = (k : Int) := ⟨i.toNat, by omega⟩
    obtain ⟨ws, hw⟩ := Way.all T k k (Nat.le_refl _) (by omega)
    have hs : ws.length ≤ 1000000 := by
      have := hw.length T
      rw [nds_length] at h1
      omega
    rw [nds_length] at h1
    exact ⟨_, one_eq ws, fun V x => (Path_yes k ws (h.ext x) T hw (by omega)).mono fun e w' r => r.got rfl hs, fun V x => (rPath_yes k ws (h.ext x) T hw (by omega)).mono fun e w' r => r.got rfl hs⟩
  · exact ⟨_, one_eq [], fun V x => (Path_no i (h.ext x) T).mono fun e w' r => GotI.nil r, fun V x => (rPath_no i (h.ext x) T).mono fun e w' r => GotI.nil r⟩
theorem leaves_twin (h : PS W A c ps) : Twin W 57 58 GotI #[.slice A ps.length c] := by
  have hl := h.few.len
  by_cases T : Tree (nds ps)
  · have hs : (leavesF 0 (nds ps)).length ≤ 1000000 := by
      have := leavesF_len (nds ps) 0
      rw [nds_length] at this
      omega
    exact ⟨_, one_eq (leavesF 0 (nds ps)), fun V x => (Leaves_yes (h.ext x) T).mono fun e w' r => r.got rfl hs, fun V x => (rLeaves_yes (h.ext x) T).mono fun e w' r => r.got rfl hs⟩
  · exact ⟨_, one_eq [], fun V x => (Leaves_no (h.ext x) T).mono fun e w' r => GotI.nil r, fun V x => (rLeaves_no (h.ext x) T).mono fun e w' r => GotI.nil r⟩
theorem bare_twin (h : PS W A c ps) : Twin W 50 59 GotP #[.slice A ps.length c] := by
  have hl := h.few.len
  by_cases T : Tree (nds ps)
  · have hs : ((nds ps).map Nd.unmet).length ≤ 1000000 := by
      rw [List.length_map, nds_length]
      omega
    exact ⟨_, one_eq ((nds ps).map Nd.unmet), fun V x => (bare_yes A c ps V (h.ext x) T).mono fun e w' r => r.got rfl hs, fun V x => (rbare_yes A c ps V (h.ext x) T).mono fun e w' r => r.got rfl hs⟩
  · exact ⟨_, one_eq [], fun V x => (bare_no A c ps V (h.ext x) T).mono fun e w' r => GotP.nil r, fun V x => (rbare_no A c ps V (h.ext x) T).mono fun e w' r => GotP.nil r⟩
theorem move_twin (h : PS W A c ps) (n : Int) (hn : Tree (nds ps) → ∀ p ∈ nds ps, NearN p) (hd : I64 n) : Twin W 42 60 GotP #[.slice A ps.length c, .int .i64 n] := by
  have hl := h.few.len
  by_cases T : MvOk (nds ps) n
  · have hs : ((nds ps).map (Nd.mv n)).length ≤ 1000000 := by
      rw [List.length_map, nds_length]
      omega
    exact ⟨_, one_eq ((nds ps).map (Nd.mv n)), fun V x => (move_any A c ps n V (h.ext x) hn hd).mono fun e w' r => (r.1 T).got rfl hs, fun V x => (rmove_any A c ps n V (h.ext x) hn hd).mono fun e w' r => (r.1 T).got rfl hs⟩
  · exact ⟨_, one_eq [], fun V x => (move_any A c ps n V (h.ext x) hn hd).mono fun e w' r => GotP.nil (r.2 T), fun V x => (rmove_any A c ps n V (h.ext x) hn hd).mono fun e w' r => GotP.nil (r.2 T)⟩
theorem MadeB.got {R : List Bool → Prop} {bs : List Bool} {w w' : World} {e : Ending} (h : BoolsRet w bs e w') (hR : R bs) (hl : bs.length ≤ 1000000) : GotB R w e w' := by
  obtain ⟨g, he, hm, _, hx⟩ := h
  exact ⟨_, _, bs, he, hR, Bls.of_block hm, hl, hx⟩
theorem stale_twin (h : PS W A c ps) : Twin W 49 62 GotB #[.slice A ps.length c] := by
  have hl := h.few.len
  by_cases T : Tree (nds ps)
  · exact ⟨StaleOk (nds ps), fun x y hx hy => StaleOk.one T hx hy, fun V x => (stale_any A c ps V (h.ext x) T).mono fun e w' ⟨st, hs, r⟩ => MadeB.got r hs (by rw [hs.1, nds_length]; omega), fun V x => (rstale_any A c ps V (h.ext x) T).mono fun e w' ⟨st, hs, r⟩ => MadeB.got r hs (by rw [hs.1, nds_length]; omega)⟩
  · exact ⟨_, one_eq [], fun V x => (stale_no (h.ext x) T).mono fun e w' r => GotB.nil r, fun V x => (rstale_no16 (h.ext x) T).mono fun e w' r => GotB.nil r⟩
theorem put_twin (h : PS W A c ps) (hs : PS W B d ss) (i : Int) (hl : ps.length ≤ 200) (hl2 : ss.length ≤ 200) :
    ∃ R : List Nd × Int → Prop, One R ∧ (∀ V A3 c3 qs, nds qs = nds ps → PS V A3 c3 qs → Ext W V → Calls Try.prog 40 #[.slice A3 qs.length c3, .int .i64 i, .slice B ss.length d] V (GotPE R V)) ∧
      ∀ V, Ext W V → Calls Try.prog 52 #[.slice A ps.length c, .int .i64 i, .slice B ss.length d] V (GotPE R V) := by
  by_cases T : Tree (nds ps)
  · by_cases T2 : Tree (nds ss)
    · by_cases hf : FitsP (nds ps) (nds ss) i
      · obtain ⟨k, p, q, rfl, hf'⟩ := id hf
        obtain ⟨m, hm⟩ := T.part (i := k) (List.getElem?_eq_some_iff.1 hf'.1).1
        have hlp : (putF (nds ps) k m (nds ss)).length ≤ 1000000 := by
          have h1 := hm.le
          have h2 := hm.lt
          rw [len_put (Nat.le_of_lt h2) h1, nds_length, nds_length]
          rw [nds_length] at h1 h2
          omega
        exact ⟨_, one_eq (putF (nds ps) k m (nds ss), 0), fun V A3 c3 qs hn P x => (Put_ok k m P (by rw [hn]; exact T) (hs.ext x) T2 (by rw [hn]; exact hf) (by rw [hn]; exact hm)).mono fun e w' r => PartsErr.got (by rw [hn] at r; exact r) hlp,
          fun V x => (rPut_ok k m (h.ext x) T (hs.ext x) T2 hf hm).mono fun e w' r => PartsErr.got r hlp⟩
      · exact ⟨_, one_eq ([], 2), fun V A3 c3 qs hn P x => (Put_bad i P (by rw [hn]; exact T) (hs.ext x) T2 (by rw [hn]; exact hf)).mono fun e w' r => GotPE.nil r, fun V x => (rPut_bad i (h.ext x) T (hs.ext x) T2 hf).mono fun e w' r => GotPE.nil r⟩
    · exact ⟨_, one_eq ([], 2), fun V A3 c3 qs hn P x => (Put_no2 i P (by rw [hn]; exact T) (hs.ext x) T2).mono fun e w' r => GotPE.nil r, fun V x => (rPut_no2 i (h.ext x) T (hs.ext x) T2).mono fun e w' r => GotPE.nil r⟩
  · exact ⟨_, one_eq ([], 2), fun V A3 c3 qs hn P x => (Put_no1 i P (by rw [hn]; exact T) _).mono fun e w' r => GotPE.nil r, fun V x => (rPut_no1 i (h.ext x) T _).mono fun e w' r => GotPE.nil r⟩
set_option maxRecDepth 100000 in
set_option maxHeartbeats 2000000 in
/-- no tree, or no edit: nothing -/
theorem rEdit_no (a d i bit : Int) {w : World} (h : PS w A c ps) (T : ¬ (Tree (nds ps) ∧ 0 ≤ a ∧ 0 ≤ d ∧ 0 ≤ i)) : Calls Try.prog 61 #[.slice A ps.length c, .agg #[.int .i64 a, .int .i64 d, .int .i64 i], .int .u64 bit] w fun e w' => e = .returned (.slice none 0 0) ∧ Ext w w' := by
  have S := Lib.hid h
  have HT := Lib.hid T
  clear h T
  obtain ⟨be, hbe⟩ : ∃ be, w.heap.size = be := ⟨_, rfl⟩
  obtain ⟨W1, hW1⟩ : ∃ W1, w.alloc (.cells #[.int .i64 a, .int .i64 d, .int .i64 i] 63) = W1 := ⟨_, rfl⟩
  have X1 : Hid (Ext w W1) := Lib.hid (by rw [← hW1]; exact (by repeat (first | exact Ext.refl _ | refine Ext.alloc ?_ _ | refine Ext.more ?_ _ _ | refine Ext.drew ?_ | refine Ext.drewN ?_ _ | refine Ext.setCell ?_ (by simp <;> omega) _)))
  have BE : Hid (W1.heap[be]? = some (.cells #[.int .i64 a, .int .i64 d, .int .i64 i] 63)) := Lib.hid (by rw [← hW1, ← hbe]; exact heap_alloc_new _ _)
  go_enter Try.func61, Try.ntmps61
  go_upto_region 1 with fail
  clear hW1 hbe
  by_cases T : Tree (nds ps)
  · have HT2 := Lib.hid T
    clear T
    go_wp2_with fail
    refine (rcheck_ok (S.out.ext X1.out) HT2.out).mono ?_
    rintro e w1 ⟨rfl, hx1⟩
    have HX1 := Lib.hid (X1.out.trans hx1)
    obtain ⟨e0, e1, e2, el⟩ := ed_cells (ext_block BE.out hx1)
    clear hx1
    have hcase : (decide (a < 0) = true) ∨ (decide (a < 0) = false ∧ decide (d < 0) = true) ∨ (decide (a < 0) = false ∧ decide (d < 0) = false ∧ decide (i < 0) = true) := by
      have := HT.out
      by_cases h1 : a < 0
      · exact .inl (decide_eq_true h1)
      · by_cases h2 : d < 0
        · exact .inr (.inl ⟨decide_eq_false h1, decide_eq_true h2⟩)
        · by_cases h3 : i < 0
          · exact .inr (.inr ⟨decide_eq_false h1, decide_eq_false h2, decide_eq_true h3⟩)
          · exact absurd ⟨HT2.out, by omega, by omega, by omega⟩ this
    rcases hcase with z1 | ⟨z1, z2⟩ | ⟨z1, z2, z3⟩
    all_goals
      go_wp2_with fail
      go_ret
      exact ⟨rfl, HX1.out⟩
  · have HT2 := Lib.hid T
    clear T
    go_wp2_with fail
    refine (rcheck_no (S.out.ext X1.out) HT2.out).mono ?_
    rintro e w1 ⟨rfl, hx1⟩
    have HX1 := Lib.hid (X1.out.trans hx1)
    clear hx1
    go_wp2_with fail
    go_ret
    exact ⟨rfl, HX1.out⟩
theorem edit_twin (h : PS W A c ps) (a d i bit : Int) (ha : Lt30 a) (hd : Lt30 d) (hi : Lt30 i) (hb : 0 ≤ bit ∧ bit ≤ 18446744073709551615) (hn : Tree (nds ps) → ∀ p ∈ ps, Near p.nd) :
    Twin W 41 61 GotP #[.slice A ps.length c, .agg #[.int .i64 a, .int .i64 d, .int .i64 i], .int .u64 bit] := by
  have hl := h.few.len
  by_cases T : Tree (nds ps) ∧ 0 ≤ a ∧ 0 ≤ d ∧ 0 ≤ i
  · obtain ⟨T, h1, h2, h3⟩ := T
    have hn := hn T
    exact ⟨EditedR ⟨a, d, i, bitOr bit⟩ (nds ps), fun x y hx hy => EditedR.one T hx hy, fun V x => (edit_any A c ps a d i bit V (h.ext x) T ha hd hi h1 h2 h3 hb hn).mono fun e w' ⟨out, ho, r⟩ => r.got ho (by rw [ho.1, nds_length]; omega),
      fun V x => (rEdit_yes A c ps a d i bit V (h.ext x) T ha hd hi h1 h2 h3 hb hn).mono fun e w' ⟨out, ho, r⟩ => r.got ho (by rw [ho.1, nds_length]; omega)⟩
  · exact ⟨_, one_eq [], fun V x => (edit_no a d i bit (h.ext x) T).mono fun e w' r => GotP.nil r, fun V x => (rEdit_no a d i bit (h.ext x) T).mono fun e w' r => GotP.nil r⟩
end
end Go.Proofs.Ytggmljookcmnkaa
