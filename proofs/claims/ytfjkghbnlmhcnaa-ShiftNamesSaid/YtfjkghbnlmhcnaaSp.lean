/- Spans that are merged: plain facts. No program is named here. -/
import Derived.Test.YtfjkghbnlmhcnaaW
namespace Go.Proofs.Ytfjkghbnlmhcnaa
open Go.RowKit

abbrev Sn := Int × Int
def touchP (y x : Sn) : Bool := decide (y.1 ≤ x.2) && decide (x.1 ≤ y.2)
def joinP (y x : Sn) : Sn := (min y.1 x.1, max y.2 x.2)
theorem touchP_yes {y x : Sn} (h : touchP y x = true) : y.1 ≤ x.2 ∧ x.1 ≤ y.2 := by
  unfold touchP at h
  simpa using h
theorem touchP_no {y x : Sn} (h : touchP y x = false) : x.2 < y.1 ∨ y.2 < x.1 := by
  unfold touchP at h
  simp at h
  omega
/-- what x touches is taken into it -/
def absorb : Nat → List Sn → Sn → List Sn × Sn
  | 0, out, x => (out, x)
  | n + 1, out, x => match out.findIdx? (fun y => touchP y x) with
    | none => (out, x)
    | some i => absorb n (out.take i ++ out.drop (i + 1)) (joinP (out.getD i (0, 0)) x)
def insP : List Sn → Sn → List Sn
  | [], x => [x]
  | y :: r, x => if x.1 < y.1 then x :: y :: r else y :: insP r x
def stepP (out : List Sn) (x : Sn) : List Sn := insP (absorb out.length out x).1 (absorb out.length out x).2
def mergeP (l : List Sn) : List Sn := l.foldl stepP []
theorem absorb_none {n : Nat} {out : List Sn} {x : Sn} (h : out.findIdx? (fun y => touchP y x) = none) : absorb n out x = (out, x) := by
  cases n with
  | zero => rfl
  | succ n => unfold absorb; rw [h]
theorem absorb_some {n i : Nat} {out : List Sn} {x : Sn} (h : out.findIdx? (fun y => touchP y x) = some i) : absorb (n + 1) out x = absorb n (out.take i ++ out.drop (i + 1)) (joinP (out.getD i (0, 0)) x) := by
  show (match out.findIdx? (fun y => touchP y x) with | none => (out, x) | some i => absorb n (out.take i ++ out.drop (i + 1)) (joinP (out.getD i (0, 0)) x)) = _
  rw [h]
theorem idx_some {out : List Sn} {p : Sn → Bool} {i : Nat} (h : out.findIdx? p = some i) : ∃ h : i < out.length, p out[i] = true := by
  obtain ⟨h1, h2, _⟩ := List.findIdx?_eq_some_iff_getElem.1 h
  exact ⟨h1, h2⟩
theorem idx_none {out : List Sn} {p : Sn → Bool} (h : out.findIdx? p = none) : ∀ y ∈ out, p y = false := by
  rw [List.findIdx?_eq_none_iff] at h
  intro y hy
  have := h y hy
  simpa using this
theorem cut_sub (out : List Sn) (i : Nat) : (out.take i ++ out.drop (i + 1)).Sublist out := by
  rw [← List.eraseIdx_eq_take_drop_succ]
  exact List.eraseIdx_sublist out i
theorem cut_split {out : List Sn} {i : Nat} (h : i < out.length) : out = out.take i ++ out[i] :: out.drop (i + 1) := by
  rw [List.getElem_cons_drop, List.take_append_drop]
theorem getD_at {out : List Sn} {i : Nat} (h : i < out.length) : out.getD i (0, 0) = out[i] := by
  rw [List.getD_eq_getElem?_getD, List.getElem?_eq_getElem h]
  rfl
def OkS (s : Sn) : Prop := s.1 ≤ s.2
def inS (p : Int) (s : Sn) : Prop := s.1 ≤ p ∧ p ≤ s.2
def BdS (n : Int) (s : Sn) : Prop := -n ≤ s.1 ∧ s.1 ≤ n ∧ -n ≤ s.2 ∧ s.2 ≤ n
theorem absorb_facts : ∀ (n : Nat) (out : List Sn) (x : Sn), out.length = n →
    (absorb n out x).1.Sublist out ∧ (∀ y ∈ (absorb n out x).1, touchP y (absorb n out x).2 = false) ∧
    ((∀ y ∈ out, OkS y) → OkS x → OkS (absorb n out x).2 ∧ ∀ p, ((∃ y ∈ (absorb n out x).1, inS p y) ∨ inS p (absorb n out x).2) ↔ ((∃ y ∈ out, inS p y) ∨ inS p x)) ∧
    (∀ b, (∀ y ∈ out, BdS b y) → BdS b x → BdS b (absorb n out x).2)
  | n, out, x, hn => by
    cases hf : out.findIdx? (fun y => touchP y x) with
    | none =>
      rw [absorb_none hf]
      exact ⟨List.Sublist.refl _, idx_none hf, fun _ h => ⟨h, fun p => Iff.rfl⟩, fun b _ h => h⟩
    | some i =>
      obtain ⟨hi, ht⟩ := idx_some hf
      cases n with
      | zero => omega
      | succ m =>
        have hlen : (out.take i ++ out.drop (i + 1)).length = m := by rw [List.length_append, List.length_take, List.length_drop]; omega
        obtain ⟨h1, h2, h3, h4⟩ := absorb_facts m (out.take i ++ out.drop (i + 1)) (joinP (out.getD i (0, 0)) x) hlen
        rw [absorb_some hf]
        have hsub := cut_sub out i
        rw [getD_at hi] at h1 h2 h3 h4 ⊢
        have hy : out[i] ∈ out := List.getElem_mem hi
        have ht := touchP_yes ht
        refine ⟨h1.trans hsub, h2, fun ho hx => ?_, fun b hb hx => h4 b (fun y hm => hb y (hsub.subset hm)) ?_⟩
        · have hyo := ho _ hy
          unfold OkS at hyo hx
          obtain ⟨h5, h6⟩ := h3 (fun y hm => ho y (hsub.subset hm)) (by unfold OkS joinP; simp only; omega)
          refine ⟨h5, fun p => (h6 p).trans ?_⟩
          constructor
          · rintro (⟨y, hm, hp⟩ | hp)
            · exact .inl ⟨y, hsub.subset hm, hp⟩
            · unfold inS joinP at hp
              simp only at hp
              by_cases hpx : inS p x
              · exact .inr hpx
              · refine .inl ⟨_, hy, ?_⟩
                unfold inS at hpx ⊢
                omega
          · rintro (⟨y, hm, hp⟩ | hp)
            · rw [cut_split hi] at hm
              rcases List.mem_append.1 hm with hm | hm
              · exact .inl ⟨y, List.mem_append.2 (.inl hm), hp⟩
              · rcases List.mem_cons.1 hm with rfl | hm
                · refine .inr ?_
                  unfold inS joinP
                  unfold inS at hp
                  simp only
                  omega
                · exact .inl ⟨y, List.mem_append.2 (.inr hm), hp⟩
            · refine .inr ?_
              unfold inS joinP
              unfold inS at hp
              simp only
              omega
        · have h7 := hb _ hy
          unfold BdS joinP at *
          simp only
          omega
theorem insP_mem {out : List Sn} {x y : Sn} : y ∈ insP out x ↔ y = x ∨ y ∈ out := by
  induction out with
  | nil => simp [insP]
  | cons a r ih =>
    unfold insP
    split
    · simp
    · simp only [List.mem_cons, ih]
      constructor
      · rintro (h | h | h)
        · exact .inr (.inl h)
        · exact .inl h
        · exact .inr (.inr h)
      · rintro (h | h | h)
        · exact .inr (.inl h)
        · exact .inl h
        · exact .inr (.inr h)
theorem insP_length (out : List Sn) (x : Sn) : (insP out x).length = out.length + 1 := by
  induction out with
  | nil => rfl
  | cons a r ih =>
    unfold insP
    split
    · rfl
    · rw [List.length_cons, ih, List.length_cons]
/-- x between those ahead and those behind -/
theorem insP_mid {B : List Sn} {x : Sn} (hB : ∀ b ∈ B, x.1 < b.1) : ∀ (A : List Sn), (∀ a ∈ A, a.1 ≤ x.1) → insP (A ++ B) x = A ++ x :: B
  | [], _ => by
    cases B with
    | nil => rfl
    | cons b r => show (if x.1 < b.1 then x :: b :: r else b :: insP r x) = _; rw [if_pos (hB b List.mem_cons_self)]; rfl
  | a :: A, h => by
    show (if x.1 < a.1 then x :: a :: (A ++ B) else a :: insP (A ++ B) x) = _
    have := h a List.mem_cons_self
    rw [if_neg (by omega), insP_mid hB A (fun a hm => h a (List.mem_cons_of_mem _ hm))]
    rfl
def RiseS (out : List Sn) : Prop := out.Pairwise fun a b => a.1 ≤ b.1
def ApartS (out : List Sn) : Prop := out.Pairwise fun a b => a.2 < b.1
theorem insP_rise {out : List Sn} {x : Sn} (h : RiseS out) : RiseS (insP out x) := by
  induction out with
  | nil => exact List.pairwise_singleton _ _
  | cons a r ih =>
    obtain ⟨h1, h2⟩ := List.pairwise_cons.1 h
    unfold insP
    split
    · refine List.pairwise_cons.2 ⟨fun b hb => ?_, h⟩
      rcases List.mem_cons.1 hb with rfl | hb
      · omega
      · have := h1 b hb
        omega
    · refine List.pairwise_cons.2 ⟨fun b hb => ?_, ih h2⟩
      rcases insP_mem.1 hb with rfl | hb
      · omega
      · exact h1 b hb
theorem insP_apart {out : List Sn} {x : Sn} (h : ApartS out) (ho : ∀ y ∈ out, OkS y) (hx : OkS x) (ht : ∀ y ∈ out, touchP y x = false) : ApartS (insP out x) := by
  induction out with
  | nil => exact List.pairwise_singleton _ _
  | cons a r ih =>
    obtain ⟨h1, h2⟩ := List.pairwise_cons.1 h
    have oa := ho a List.mem_cons_self
    have ta := touchP_no (ht a List.mem_cons_self)
    unfold OkS at hx oa
    unfold insP
    split
    · refine List.pairwise_cons.2 ⟨fun b hb => ?_, h⟩
      rcases List.mem_cons.1 hb with rfl | hb
      · omega
      · have := h1 b hb
        omega
    · refine List.pairwise_cons.2 ⟨fun b hb => ?_, ih h2 (fun y hy => ho y (List.mem_cons_of_mem _ hy)) (fun y hy => ht y (List.mem_cons_of_mem _ hy))⟩
      rcases insP_mem.1 hb with rfl | hb
      · omega
      · exact h1 b hb
/-- what holds of the merged ones -/
structure MergedS (l out : List Sn) : Prop where
  apart : ApartS out
  ok : ∀ y ∈ out, OkS y
  places : ∀ p, (∃ y ∈ out, inS p y) ↔ ∃ y ∈ l, inS p y
theorem stepP_merged {l out : List Sn} {x : Sn} (h : MergedS l out) (hx : OkS x) : MergedS (l ++ [x]) (stepP out x) := by
  obtain ⟨h1, h2, h3, _⟩ := absorb_facts out.length out x rfl
  obtain ⟨h4, h5⟩ := h3 h.ok hx
  have ho : ∀ y ∈ (absorb out.length out x).1, OkS y := fun y hy => h.ok y (h1.subset hy)
  refine ⟨insP_apart (h.apart.sublist h1) ho h4 h2, fun y hy => ?_, fun p => ?_⟩
  · rcases insP_mem.1 hy with rfl | hy
    · exact h4
    · exact ho y hy
  · constructor
    · rintro ⟨y, hy, hp⟩
      have : (∃ y ∈ out, inS p y) ∨ inS p x := by
        rcases insP_mem.1 hy with rfl | hy
        · exact (h5 p).1 (.inr hp)
        · exact (h5 p).1 (.inl ⟨y, hy, hp⟩)
      rcases this with this | this
      · obtain ⟨z, hz, hzp⟩ := (h.places p).1 this
        exact ⟨z, List.mem_append.2 (.inl hz), hzp⟩
      · exact ⟨x, List.mem_append.2 (.inr (List.mem_singleton.2 rfl)), this⟩
    · rintro ⟨y, hy, hp⟩
      have : (∃ y ∈ out, inS p y) ∨ inS p x := by
        rcases List.mem_append.1 hy with hy | hy
        · exact .inl ((h.places p).2 ⟨y, hy, hp⟩)
        · rw [List.mem_singleton.1 hy] at hp
          exact .inr hp
      rcases (h5 p).2 this with ⟨z, hz, hzp⟩ | hz
      · exact ⟨z, insP_mem.2 (.inr hz), hzp⟩
      · exact ⟨_, insP_mem.2 (.inl rfl), hz⟩
theorem mergeP_snoc (l : List Sn) (x : Sn) : mergeP (l ++ [x]) = stepP (mergeP l) x := by
  unfold mergeP
  rw [List.foldl_append]
  rfl
theorem merged_aux : ∀ (l a out : List Sn), MergedS a out → (∀ x ∈ l, OkS x) → MergedS (a ++ l) (l.foldl stepP out)
  | [], a, out, h, _ => by rw [List.append_nil]; exact h
  | x :: r, a, out, h, hl => by
    have := merged_aux r (a ++ [x]) (stepP out x) (stepP_merged h (hl x List.mem_cons_self)) (fun y hy => hl y (List.mem_cons_of_mem _ hy))
    rw [List.append_assoc] at this
    exact this
theorem mergeP_merged {l : List Sn} (h : ∀ x ∈ l, OkS x) : MergedS l (mergeP l) :=
  merged_aux l [] [] ⟨List.Pairwise.nil, (fun _ h => by cases h), fun p => ⟨(fun ⟨_, h, _⟩ => by cases h), fun ⟨_, h, _⟩ => by cases h⟩⟩ h
theorem stepP_length (out : List Sn) (x : Sn) : (stepP out x).length ≤ out.length + 1 := by
  unfold stepP
  rw [insP_length]
  have := (absorb_facts out.length out x rfl).1.length_le
  omega
theorem stepP_rise {out : List Sn} {x : Sn} (h : RiseS out) : RiseS (stepP out x) :=
  insP_rise (h.sublist (absorb_facts out.length out x rfl).1)
theorem stepP_bd {b : Int} {out : List Sn} {x : Sn} (h : ∀ y ∈ out, BdS b y) (hx : BdS b x) : ∀ y ∈ stepP out x, BdS b y := fun y hy => by
  obtain ⟨h1, _, _, h4⟩ := absorb_facts out.length out x rfl
  rcases insP_mem.1 hy with rfl | hy
  · exact h4 b h hx
  · exact h y (h1.subset hy)
theorem again_aux : ∀ (l out : List Sn), ApartS (out ++ l) → (∀ y ∈ out ++ l, OkS y) → l.foldl stepP out = out ++ l
  | [], out, _, _ => by rw [List.append_nil]; rfl
  | x :: r, out, h, ho => by
    obtain ⟨_, h2, h3⟩ := List.pairwise_append.1 h
    have hn : out.findIdx? (fun y => touchP y x) = none := by
      rw [List.findIdx?_eq_none_iff]
      intro y hy
      have a1 := h3 y hy x List.mem_cons_self
      unfold touchP
      simp
      omega
    have hs : stepP out x = out ++ [x] := by
      unfold stepP
      rw [absorb_none hn]
      have := insP_mid (B := []) (x := x) (fun b hb => by cases hb) out (fun a ha => by
        have a1 := h3 a ha x List.mem_cons_self
        have a2 := ho a (List.mem_append.2 (.inl ha))
        unfold OkS at a2
        omega)
      rw [List.append_nil] at this
      exact this
    show r.foldl stepP (stepP out x) = _
    rw [hs, again_aux r (out ++ [x]) (by rw [List.append_assoc]; exact h) (by rw [List.append_assoc]; exact ho), List.append_assoc]
    rfl
/-- merged again they are the same -/
theorem mergeP_again {l m : List Sn} (h : MergedS l m) : mergeP m = m := again_aux m [] h.apart h.ok
end Go.Proofs.Ytfjkghbnlmhcnaa
namespace Go.Proofs.Ytfjkghbnlmhcnaa
theorem mergeP_facts {b : Int} : ∀ (l out : List Sn), RiseS out → (∀ y ∈ out, BdS b y) → (∀ y ∈ l, BdS b y) → RiseS (l.foldl stepP out) ∧ (∀ y ∈ l.foldl stepP out, BdS b y) ∧ (l.foldl stepP out).length ≤ out.length + l.length
  | [], out, h, ho, _ => ⟨h, ho, Nat.le_refl _⟩
  | x :: r, out, h, ho, hl => by
    obtain ⟨h1, h2, h3⟩ := mergeP_facts r (stepP out x) (stepP_rise h) (stepP_bd ho (hl x List.mem_cons_self)) (fun y hy => hl y (List.mem_cons_of_mem _ hy))
    have := stepP_length out x
    refine ⟨h1, h2, ?_⟩
    rw [List.foldl_cons, List.length_cons]
    omega
end Go.Proofs.Ytfjkghbnlmhcnaa
