/- The closures of Merge; slices of spans that are the same; insertion sort: plain. -/
import Derived.Test.YtfjkghbnlmhcnaaSb
import Derived.WalkSpells
import Derived.WalkLawsBesides
import Derived.BigRegion
import Derived.Deep.RegionWith
import Derived.Deep.QuietTactic
import Derived.Deep.DeepCutAuto
import Derived.Deep.RegionHeld3
import Derived.Deep.RegionLaw
import Derived.BigQuiet
import Derived.Lib.Hide
namespace Go.Proofs.Ytfjkghbnlmhcnaa
open Go.RowKit
attribute [local go_sem] more_drew more_drewN more_size more_cell more_frozen more_setCell drew_more drewN_more lt_add_r lt_add_r2 lt_add_r3 lt_add_r4 lt_add_r5 lt_add_r6 lt_add_r7 lt_add_r8 lt_add_r9 lt_add_r10 lt_self_r lt_self_r2

def cmpI (a b : Int) : Int := if a < b then -1 else if b < a then 1 else 0
set_option maxHeartbeats 400000 in
theorem compare_any (a b : Int) (w : World) : Calls Try.prog 50 #[.int .i64 a, .int .i64 b] w fun e w' => e = .returned (.int .i64 (cmpI a b)) ∧ Ext w w' := by
  go_enter Try.func50, Try.ntmps50
  go_wp2_with (go_in)
  all_goals go_ret
  all_goals exact ⟨ret_int (by unfold cmpI; repeat (first | omega | split)), (by repeat (first | exact Ext.refl _ | refine Ext.alloc ?_ _ | refine Ext.more ?_ _ _ | refine Ext.drew ?_ | refine Ext.drewN ?_ _ | refine Ext.setCell ?_ (by simp <;> omega) _))⟩
theorem cmpS_any (a b : Sn) (w : World) : Calls Try.prog 49 #[agS a, agS b] w fun e w' => e = .returned (.int .i64 (cmpI a.1 b.1)) ∧ Ext w w' := by
  obtain ⟨a1, a2⟩ := a
  obtain ⟨b1, b2⟩ := b
  unfold agS
  go_enter Try.func49, Try.ntmps49
  go_wp2_with (go_at_call 50; refine (compare_any _ _ _).mono ?_; rintro e w1 ⟨rfl, os1, k1, rfl⟩)
  go_ret
  exact ⟨rfl, (by repeat (first | exact Ext.refl _ | refine Ext.alloc ?_ _ | refine Ext.more ?_ _ _ | refine Ext.drew ?_ | refine Ext.drewN ?_ _ | refine Ext.setCell ?_ (by simp <;> omega) _))⟩
/-- spans within bounds -/
def BigS (s : Sn) : Prop := BdS 1099511627776 s
theorem touchF_in {y x : Sn} (hy : BigS y) (hx : BigS x) : touchF y.1 y.2 x.1 x.2 = touchP y x := by
  unfold BigS BdS at hy hx
  unfold touchF touchP
  rw [clamp_in (by omega) (by omega), clamp_in (a := x.2) (by omega) (by omega), clamp_in (a := x.1) (by omega) (by omega), clamp_in (a := y.2) (by omega) (by omega)]
theorem touchS_any (g : Nat) (y x : Sn) (w : World) (hy : BigS y) (hx : BigS x) (h0 : w.cell? ⟨g, 0, none⟩ = some (.int .i64 x.1)) (h1 : w.cell? ⟨g, 1, none⟩ = some (.int .i64 x.2)) (hg : g < w.heap.size) :
    Calls Try.prog 46 #[agS y, .pointer (some ⟨g, 0, none⟩)] w fun e w' => e = .returned (.bool (touchP y x)) ∧ Ext w w' := by
  have HT := Lib.hid (touchF_in hy hx)
  obtain ⟨a1, a2⟩ := y
  obtain ⟨b1, b2⟩ := x
  clear hy hx
  unfold agS
  go_enter Try.func46, Try.ntmps46
  go_wp2_with (go_at_call 39; refine (touch_any _ _ _ _ _).mono ?_; rintro e w1 ⟨rfl, os1, k1, rfl⟩)
  go_ret
  exact ⟨ret_bool HT.out, (by repeat (first | exact Ext.refl _ | refine Ext.alloc ?_ _ | refine Ext.more ?_ _ _ | refine Ext.drew ?_ | refine Ext.drewN ?_ _ | refine Ext.setCell ?_ (by simp <;> omega) _))⟩
/-- all put in by their beginnings -/
def insAll (l : List Sn) : List Sn := l.foldl insP []
theorem insAll_snoc (l : List Sn) (x : Sn) : insAll (l ++ [x]) = insP (insAll l) x := by
  unfold insAll
  rw [List.foldl_append]
  rfl
theorem insAll_rise (l : List Sn) : RiseS (insAll l) := by
  have h : ∀ (l : List Sn) (o : List Sn), RiseS o → RiseS (l.foldl insP o) := by
    intro l
    induction l with
    | nil => exact fun o h => h
    | cons x r ih => exact fun o h => ih _ (insP_rise h)
  exact h l [] List.Pairwise.nil
theorem insAll_length (l : List Sn) : (insAll l).length = l.length := by
  have h : ∀ (l : List Sn) (o : List Sn), (l.foldl insP o).length = o.length + l.length := by
    intro l
    induction l with
    | nil => exact fun o => rfl
    | cons x r ih => intro o; rw [List.foldl_cons, ih, insP_length, List.length_cons]; omega
  have := h l []
  rw [List.length_nil, Nat.zero_add] at this
  exact this
theorem insAll_same {l : List Sn} (h : RiseS l) : insAll l = l := by
  have aux : ∀ (l o : List Sn), RiseS (o ++ l) → l.foldl insP o = o ++ l := by
    intro l
    induction l with
    | nil => intro o _; rw [List.append_nil]; rfl
    | cons x r ih =>
      intro o ho
      obtain ⟨_, h2, h3⟩ := List.pairwise_append.1 ho
      have hs : insP o x = o ++ [x] := by
        have := insP_mid (B := []) (x := x) (fun b hb => by cases hb) o (fun a ha => h3 a ha x List.mem_cons_self)
        rw [List.append_nil] at this
        exact this
      rw [List.foldl_cons, hs, ih (o ++ [x]) (by rw [List.append_assoc]; exact ho), List.append_assoc]
      rfl
  exact aux l [] h
/-- the row while x sinks to its place: j behind which it lies -/
def sinkL (S : List Sn) (x : Sn) (j : Nat) (R : List Sn) : List Sn := S.take j ++ x :: (S.drop j ++ R)
theorem sinkL_top (S : List Sn) (x : Sn) (R : List Sn) : sinkL S x S.length R = S ++ x :: R := by
  unfold sinkL
  rw [List.take_length, List.drop_length]
  rfl
theorem sinkL_length (S : List Sn) (x : Sn) (j : Nat) (R : List Sn) (hj : j ≤ S.length) : (sinkL S x j R).length = S.length + 1 + R.length := by
  unfold sinkL
  rw [List.length_append, List.length_cons, List.length_append, List.length_take, List.length_drop]
  omega
theorem sinkL_x (S : List Sn) (x : Sn) (j : Nat) (R : List Sn) (hj : j ≤ S.length) : (sinkL S x j R)[j]? = some x := by
  unfold sinkL
  rw [List.getElem?_append_right (by rw [List.length_take]; omega), List.length_take, Nat.min_eq_left hj, Nat.sub_self]
  rfl
theorem sinkL_y (S : List Sn) (x : Sn) (j : Nat) (R : List Sn) (hj : j < S.length) : (sinkL S x (j + 1) R)[j]? = some S[j] := by
  unfold sinkL
  rw [List.getElem?_append_left (by rw [List.length_take]; omega), List.getElem?_take_of_lt (by omega), List.getElem?_eq_getElem hj]
theorem sinkL_swap (S : List Sn) (x : Sn) (j : Nat) (R : List Sn) (hj : j < S.length) : ((sinkL S x (j + 1) R).set (j + 1) S[j]).set j x = sinkL S x j R := by
  have e1 : S.take (j + 1) = S.take j ++ [S[j]] := by rw [List.take_add_one, List.getElem?_eq_getElem hj]; rfl
  have hl : (S.take j).length = j := by rw [List.length_take]; omega
  unfold sinkL
  rw [e1, ← List.getElem_cons_drop (h := hj), List.append_assoc]
  obtain ⟨P, hP⟩ : ∃ P, S.take j = P := ⟨_, rfl⟩
  rw [hP] at hl ⊢
  rw [List.set_append_right _ _ (by omega), List.set_append_right _ _ (by omega), hl, Nat.sub_self, show j + 1 - j = 1 by omega]
  rfl
/-- x has come to its place -/
theorem sinkL_done {S : List Sn} {x : Sn} {j : Nat} {R : List Sn} (hS : RiseS S) (hB : ∀ b ∈ S.drop j, x.1 < b.1) (h : ∀ k (hk : k < S.length), k + 1 = j → S[k].1 ≤ x.1) (hj : j ≤ S.length) : sinkL S x j R = insP S x ++ R := by
  have : insP S x = S.take j ++ x :: S.drop j := by
    have e := insP_mid (B := S.drop j) (x := x) hB (S.take j) (fun a ha => by
      obtain ⟨i, hi, rfl⟩ := List.getElem_of_mem ha
      rw [List.length_take] at hi
      rw [List.getElem_take]
      by_cases hij : i + 1 = j
      · exact h i (by omega) hij
      · have h1 := h (j - 1) (by omega) (by omega)
        have h2 := List.pairwise_iff_getElem.1 hS i (j - 1) (by omega) (by omega) (by omega)
        omega)
    rw [List.take_append_drop] at e
    exact e
  unfold sinkL
  rw [this, List.append_assoc]
  rfl
end Go.Proofs.Ytfjkghbnlmhcnaa
