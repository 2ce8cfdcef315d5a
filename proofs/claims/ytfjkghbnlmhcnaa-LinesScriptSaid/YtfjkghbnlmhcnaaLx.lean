/- An index's Edit at any text: the plain law of where lines begin, and the contract. -/
import Derived.Test.YtfjkghbnlmhcnaaLo
import Derived.Test.YtfjkghbnlmhcnaaLk
import Derived.WalkSpells
import Derived.WalkLawsBesides
import Derived.BigRegion
import Derived.Deep.RegionWith
import Derived.Deep.QuietTactic
import Derived.Deep.DeepCutAuto
import Derived.Deep.RegionHeld3
import Derived.Deep.RegionLaw
import Derived.BigQuiet
import Derived.Lib.Hide
namespace Go.Proofs.Ytfjkghbnlmhcnaa
open Go.RowKit
attribute [local go_sem] more_drew more_drewN more_size more_cell more_frozen more_setCell drew_more drewN_more lt_add_r lt_add_r2 lt_add_r3 lt_add_r4 lt_add_r5 lt_add_r6 lt_add_r7 lt_add_r8 lt_add_r9 lt_add_r10 lt_self_r lt_self_r2

theorem behF_shift (k : Int) : ∀ (l : List UInt8) (b : Int), behF (b + k) l = (behF b l).map (· + k)
  | [], b => by simp [behF]
  | x :: l, b => by
    have ih := behF_shift k l (b + 1)
    have e : b + 1 + k = b + k + 1 := by omega
    rw [e] at ih
    simp only [behF]
    split
    · rw [ih, List.map_cons, e]
    · exact ih
theorem found_split {P Q : List Int} {t : Int} (h1 : ∀ x ∈ P, x < t) (h2 : ∀ x ∈ Q, t ≤ x) : FoundAt (P ++ Q) t P.length (decide (Q[0]? = some t)) := by
  refine ⟨by rw [List.length_append]; omega, fun k x hk => ?_, ?_⟩
  · rcases Nat.lt_or_ge k P.length with h | h
    · rw [List.getElem?_append_left h] at hk
      exact ⟨fun _ => h1 x (List.mem_of_getElem? hk), fun _ => h⟩
    · rw [List.getElem?_append_right h] at hk
      have := h2 x (List.mem_of_getElem? hk)
      exact ⟨fun h' => by omega, fun h' => by omega⟩
  · rw [List.getElem?_append_right (Nat.le_refl _), Nat.sub_self, decide_eq_true_iff]
theorem shift_app (U T : List Int) (by_ : Int) : ShiftTo (U ++ T) U.length (U ++ T).length by_ (U ++ T.map (· + by_)) := by
  refine ⟨by simp, fun i y hy => ?_⟩
  have hi := (List.getElem?_eq_some_iff.1 hy).1
  rcases Nat.lt_or_ge i U.length with h | h
  · rw [if_neg (by omega), List.getElem?_append_left h]
    rwa [List.getElem?_append_left h] at hy
  · rw [if_pos ⟨h, hi⟩, List.getElem?_append_right h, List.getElem?_map]
    rw [List.getElem?_append_right h] at hy
    rw [hy]
    rfl
theorem starts_split (l : List UInt8) (a : Nat) (h : a ≤ l.length) : startsF l = (0 :: behF 0 (l.take a)) ++ behF a (l.drop a) ∧ (∀ x ∈ (0 :: behF 0 (l.take a) : List Int), x < (a : Int) + 1) ∧ ∀ x ∈ behF a (l.drop a), (a : Int) + 1 ≤ x := by
  have hl : (l.take a).length = a := by rw [List.length_take]; omega
  refine ⟨?_, fun x hx => ?_, fun x hx => (behF_bd hx).1⟩
  · have e := behF_app 0 (l.take a) (l.drop a)
    rw [List.take_append_drop, hl, Int.zero_add] at e
    unfold startsF
    rw [e]
    rfl
  · rcases List.mem_cons.1 hx with rfl | hx
    · omega
    · have := behF_bd hx
      rw [hl] at this
      omega
def editL (l : List UInt8) (a d : Nat) (ins : List UInt8) : List UInt8 := l.take a ++ ins ++ l.drop (a + d)
theorem starts_edit (l ins : List UInt8) (a d : Nat) (h : a + d ≤ l.length) : ∃ i j f1 f2, FoundAt (startsF l) ((a : Int) + 1) i f1 ∧ FoundAt (startsF l) ((a : Int) + d + 1) j f2 ∧ i ≤ j ∧ j ≤ (startsF l).length ∧ i ≤ (startsF l).length ∧
    ∀ zs, ShiftTo ((startsF l).take i ++ behF a ins ++ (startsF l).drop j) (i + (behF 0 ins).length) ((startsF l).take i ++ behF a ins ++ (startsF l).drop j).length ((ins.length : Int) - d) zs → zs = startsF (editL l a d ins) := by
  obtain ⟨s1, p1, q1⟩ := starts_split l a (by omega)
  obtain ⟨s2, p2, q2⟩ := starts_split l (a + d) h
  have f1 := found_split p1 q1
  have f2 := found_split p2 q2
  rw [← s1] at f1
  rw [← s2] at f2
  have hla : (l.take a).length = a := by rw [List.length_take]; omega
  have e0 : ((a + d : Nat) : Int) + 1 = (a : Int) + d + 1 := by omega
  rw [e0] at f2
  have ht : (startsF l).take (0 :: behF 0 (l.take a) : List Int).length = 0 :: behF 0 (l.take a) := by
    rw [s1, List.take_append_of_le_length (Nat.le_refl _), List.take_length]
  have hd : (startsF l).drop (0 :: behF 0 (l.take (a + d)) : List Int).length = behF ((a + d : Nat) : Int) (l.drop (a + d)) := by
    rw [s2, List.drop_append_of_le_length (Nat.le_refl _), List.drop_length]
    rfl
  have hij : (0 :: behF 0 (l.take a) : List Int).length ≤ (0 :: behF 0 (l.take (a + d)) : List Int).length := by
    have e : l.take (a + d) = l.take a ++ (l.drop a).take d := List.take_add
    rw [e, behF_app, List.length_cons, List.length_cons, List.length_append]
    omega
  refine ⟨_, _, _, _, f1, f2, hij, f2.1, Nat.le_trans hij f2.1, fun zs hz => ?_⟩
  rw [ht, hd] at hz
  have e1 : behF (a : Int) ins = (behF 0 ins).map (· + (a : Int)) := by rw [← behF_shift, Int.zero_add]
  have e2 : (0 :: behF 0 (l.take a) : List Int).length + (behF 0 ins).length = ((0 :: behF 0 (l.take a)) ++ behF a ins : List Int).length := by
    rw [List.length_append, e1, List.length_map]
  rw [e2] at hz
  have e3 := ShiftTo.det (shift_app _ _ _) hz
  rw [e3, ← behF_shift]
  unfold startsF editL
  rw [behF_app, behF_app, hla, Int.zero_add, List.length_append, hla]
  have e4 : ((a + d : Nat) : Int) + ((ins.length : Int) - d) = 0 + ((a + ins.length : Nat) : Int) := by omega
  rw [e4]
  rfl
theorem starts_len (l : List UInt8) : (startsF l).length ≤ l.length + 1 := by
  have := behF_length l 0
  show (behF 0 l).length + 1 ≤ _
  omega
theorem editL_length (l : List UInt8) (a d : Nat) (ins : List UInt8) (h : a + d ≤ l.length) : (editL l a d ins).length = l.length - d + ins.length := by
  unfold editL
  rw [List.length_append, List.length_append, List.length_take, List.length_drop]
  omega
def EditYes (w : World) (base g : Nat) (l : List UInt8) (n : Nat) (e : Ending) (w' : World) : Prop := e = .returned (.int .i64 0) ∧ IdxAt w' base g (startsF l) n ∧ Turn (fun k => k = g ∨ RowAt w g k ∨ w.heap.size ≤ k) w w'
theorem edit_yes {w : World} {base g n : Nat} (l : List UInt8) (a d : Nat) (s : ByteArray) (hn : n = l.length) (h : IdxAt w base g (startsF l) n) (hb : base ≤ w.heap.size) (hl : n ≤ 30000) (hs : s.size ≤ 30000) (had : a + d ≤ n) :
    Calls Try.prog 15 #[pt g, .agg #[.int .i64 a, .int .i64 d, .int .i64 s.size], .string s] w (EditYes w base g (editL l a d s.data.toList) (n - d + s.size)) := by
  obtain ⟨i, j, f1, f2, hf1, hf2, hij, hj, hi, hz⟩ := starts_edit l s.data.toList a d (by omega)
  have hx := starts_len l
  have hsl : s.data.toList.length = s.size := by rw [Array.length_toList]; rfl
  have hv := behF_length s.data.toList a
  have hv0 := behF_length s.data.toList 0
  have e1 : (behF a s.data.toList).length = (behF 0 s.data.toList).length := by rw [show (a : Int) = 0 + (a : Int) by omega, behF_shift, List.length_map]
  have hR := rep_any base (startsF l) (behF a s.data.toList) i j hij hj (Nat.succ_pos _) (by omega) (by omega)
  have hyl : ((startsF l).take i ++ behF a s.data.toList ++ (startsF l).drop j).length = i + (behF a s.data.toList).length + ((startsF l).length - j) := by rw [List.length_append, List.length_append, List.length_take, List.length_drop]; omega
  refine (edit_ok a d i j f1 f2 s h hb (starts_rise l).mono (by omega) (by omega) had (by omega) (by omega) hf1 hf2 hR (by omega) (by omega) fun y hy => ?_).mono ?_
  · rcases List.mem_append.1 hy with hy | hy
    · rcases List.mem_append.1 hy with hy | hy
      · have := starts_within l y (List.mem_of_mem_take hy)
        omega
      · have := behF_bd hy
        omega
    · have := starts_within l y (List.mem_of_mem_drop hy)
      omega
  · rintro e w' ⟨zs, he, hzs, hi', ht⟩
    rw [← hsl] at hzs
    rw [hz zs hzs] at hi'
    exact ⟨he, hi', ht⟩
theorem EditYes.ext {w w' : World} {base g n : Nat} {l l' : List UInt8} {m : Nat} {e : Ending} {W : World} (hx : Ext W w) (h : IdxAt w base g (startsF l) n) (hb : W.heap.size ≤ base) (hw : base ≤ w.heap.size) (r : EditYes w base g l' m e w') : Ext W w' := by
  refine Ext.of_below ((hx.below).trans (r.2.2.below hx.size fun k hk => ?_))
  obtain ⟨A, c, h1, h2, h3⟩ := h
  rcases hk with rfl | hk | hk
  · omega
  · have := own_block h2 k (blk_own (RowAt.of h1 hk)); omega
  · omega
end Go.Proofs.Ytfjkghbnlmhcnaa
