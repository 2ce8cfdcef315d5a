/- The contracts of splice.Clear$1, Give$1. -/
import Derived.Test.YtaffaeompdlecaaU2
import Derived.Test.YtaffaeompdlecaaF1
import Derived.Test.YtaffaeompdlecaaV2
import Derived.WalkSpells
import Derived.WalkLawsBesides
import Derived.BigRegion
import Derived.Deep.RegionWith
import Derived.Deep.QuietTactic
import Derived.Deep.DeepCutAuto
import Derived.Deep.RegionHeld3
import Derived.Deep.RegionLaw
import Derived.BigQuiet
import Derived.Lib.Hide
namespace Go.Proofs.Ytaffaeompdlecaa
open Go.RowKit
attribute [local go_sem] more_drew more_drewN more_size more_cell more_frozen more_setCell drew_more drewN_more lt_add_r lt_add_r2 lt_add_r3 lt_add_r4 lt_add_r5 lt_add_r6 lt_add_r7 lt_add_r8 lt_add_r9 lt_add_r10 lt_self_r lt_self_r2
attribute [local go_sem] Oper.semAt_some

set_option maxRecDepth 100000 in
set_option maxHeartbeats 1000000 in
theorem clear1_any (b n : Int) (nb : Nat) (w : World) (hnb : w.heap[nb]? = some (.cells #[.int .i64 n] 3)) :
    Calls Try.prog 139 #[.int .u64 b, pt nb] w fun e w' => e = .returned (.int .u64 (clearF n b)) ∧ Ext w w' := by
  have c1 := cell_of_row _ _ 0 _ _ _ hnb
  simp at c1
  have l1 := lt_of_heap hnb
  clear hnb
  by_cases h : SlotN n
  · have h12 : 0 ≤ n ∧ n < 64 := h
    obtain ⟨h1, h2⟩ := h
    go_enter Try.func139, Try.ntmps139
    go_wp2_with fail
    refine (slot_any n _).mono ?_
    rintro e w2 ⟨rfl, rfl⟩
    rw [decide_eq_true h12]
    go_wp2_with fail
    go_ret
    exact ⟨by rw [clearF, if_pos (show SlotN n from h12)]; rfl, Ext.refl _⟩
  · have h12 : ¬ (0 ≤ n ∧ n < 64) := h
    go_enter Try.func139, Try.ntmps139
    go_wp2_with fail
    refine (slot_any n _).mono ?_
    rintro e w2 ⟨rfl, rfl⟩
    rw [decide_eq_false h12]
    go_wp2_with fail
    go_ret
    exact ⟨by rw [clearF, if_neg h]; rfl, Ext.refl _⟩
set_option maxRecDepth 100000 in
set_option maxHeartbeats 1000000 in
theorem give1_any (b n m : Int) (nb mb : Nat) (w : World) (hb : U64 b) (hnb : w.heap[nb]? = some (.cells #[.int .i64 n] 3)) (hmb : w.heap[mb]? = some (.cells #[.int .i64 m] 3)) :
    Calls Try.prog 137 #[.int .u64 b, pt nb, pt mb] w fun e w' => e = .returned (.int .u64 (giveF n m b)) ∧ Ext w w' := by
  have c1 := cell_of_row _ _ 0 _ _ _ hnb
  simp at c1
  have l1 := lt_of_heap hnb
  have c2 := cell_of_row _ _ 0 _ _ _ hmb
  simp at c2
  have l2 := lt_of_heap hmb
  have hz := last_bit hb n.toNat
  clear hnb hmb hb
  by_cases h : SlotN n
  · have h12 : 0 ≤ n ∧ n < 64 := h
    have H := Lib.hid h
    obtain ⟨h1, h2⟩ := h
    by_cases h' : SlotN m
    · have h34 : 0 ≤ m ∧ m < 64 := h'
      have H' := Lib.hid h'
      obtain ⟨h3, h4⟩ := h'
      cases ht : tb b n.toNat with
      | true =>
        have HTB := Lib.hid ht
        rw [ht, if_pos rfl] at hz
        clear ht
        go_enter Try.func137, Try.ntmps137
        go_wp2_with fail
        refine (slot_any n _).mono ?_
        rintro e w2 ⟨rfl, rfl⟩
        rw [decide_eq_true h12]
        go_wp2_with fail
        refine (slot_any m _).mono ?_
        rintro e w2 ⟨rfl, rfl⟩
        rw [decide_eq_true h34]
        go_wp2_with fail
        go_ret
        exact ⟨by rw [giveF, if_pos ⟨H.out, H'.out, HTB.out⟩]; rfl, Ext.refl _⟩
      | false =>
        have HTB := Lib.hid ht
        rw [ht, if_neg Bool.false_ne_true] at hz
        clear ht
        go_enter Try.func137, Try.ntmps137
        go_wp2_with fail
        refine (slot_any n _).mono ?_
        rintro e w2 ⟨rfl, rfl⟩
        rw [decide_eq_true h12]
        go_wp2_with fail
        refine (slot_any m _).mono ?_
        rintro e w2 ⟨rfl, rfl⟩
        rw [decide_eq_true h34]
        go_wp2_with fail
        go_ret
        exact ⟨by rw [giveF, if_neg (fun h => by rw [HTB.out] at h; cases h.2.2)]; rfl, Ext.refl _⟩
    · have h34 : ¬ (0 ≤ m ∧ m < 64) := h'
      have H' := Lib.hid h'
      clear h' hz
      go_enter Try.func137, Try.ntmps137
      go_wp2_with fail
      refine (slot_any n _).mono ?_
      rintro e w2 ⟨rfl, rfl⟩
      rw [decide_eq_true h12]
      go_wp2_with fail
      refine (slot_any m _).mono ?_
      rintro e w2 ⟨rfl, rfl⟩
      rw [decide_eq_false h34]
      go_wp2_with fail
      go_ret
      exact ⟨by rw [giveF, if_neg (fun h => H'.out h.2.1)]; rfl, Ext.refl _⟩
  · have h12 : ¬ (0 ≤ n ∧ n < 64) := h
    have H := Lib.hid h
    clear h hz
    go_enter Try.func137, Try.ntmps137
    go_wp2_with fail
    refine (slot_any n _).mono ?_
    rintro e w2 ⟨rfl, rfl⟩
    rw [decide_eq_false h12]
    go_wp2_with fail
    go_ret
    exact ⟨by rw [giveF, if_neg (fun h => H.out h.1)]; rfl, Ext.refl _⟩
/-- the first j parts have other bits -/
def Prt.mets (f : Int → Int) (p : Prt) : Prt := { p with nd := { p.nd with met := f p.nd.met } }
def Nd.mets (f : Int → Int) (p : Nd) : Nd := { p with met := f p.met }
def metTo (f : Int → Int) (qs : List Prt) (j : Nat) : List Prt := (qs.take j).map (Prt.mets f) ++ qs.drop j
theorem metTo_length (f : Int → Int) (qs : List Prt) (j : Nat) : (metTo f qs j).length = qs.length := by unfold metTo; simp; omega
theorem metTo_get {f : Int → Int} {qs : List Prt} {j : Nat} {q : Prt} (h : qs[j]? = some q) : (metTo f qs j)[j]? = some q ∧ (metTo f qs j).set j (q.mets f) = metTo f qs (j + 1) := by
  have hj := (List.getElem?_eq_some_iff.1 h).1
  have hl : ((qs.take j).map (Prt.mets f)).length = j := by simp; omega
  unfold metTo
  refine ⟨by rw [List.getElem?_append_right (by omega), hl, Nat.sub_self, List.getElem?_drop, Nat.add_zero]; exact h, ?_⟩
  rw [List.set_append_right _ _ (by omega), hl, Nat.sub_self, List.drop_eq_getElem_cons hj, List.set_cons_zero, List.take_succ_eq_append_getElem hj, List.map_append, List.append_assoc]
  rw [List.getElem?_eq_getElem hj] at h
  injection h with h
  rw [h]
  rfl
theorem metTo_all (f : Int → Int) (qs : List Prt) : nds (metTo f qs qs.length) = (nds qs).map (Nd.mets f) := by
  unfold metTo nds
  simp
  intro p _
  rfl
theorem metTo_from (f : Int → Int) (qs : List Prt) {j k : Nat} (h : j ≤ k) : (metTo f qs j)[k]? = qs[k]? := by
  unfold metTo
  rcases Nat.lt_or_ge j qs.length with hj | hj
  · have hl : ((qs.take j).map (Prt.mets f)).length = j := by simp; omega
    rw [List.getElem?_append_right (by omega), hl, List.getElem?_drop]
    congr 1
    omega
  · rw [List.drop_eq_nil_of_le hj, List.append_nil, List.getElem?_eq_none (by simp; omega), List.getElem?_eq_none (by omega)]
end Go.Proofs.Ytaffaeompdlecaa
