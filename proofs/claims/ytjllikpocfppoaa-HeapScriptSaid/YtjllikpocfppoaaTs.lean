/- A region that draws its order, by an invariant over the operations that are done: each operation is walked once. No program is named here. -/
import Derived.Test.YtjllikpocfppoaaW
import Derived.Orders
namespace Go.Proofs.Ytjllikpocfppoaa
open Go.RowKit

variable {P : Program} {ops : Array Oper} {md : Region.Mode} {Q : Exit → Act → World → Prop}

/-- each operation waits for earlier ones alone -/
def lexEdges (md : Region.Mode) (l : List Oper) (n : Nat) : Bool :=
  match l with
  | [] => true
  | o :: l => o.after.all (fun e => !Region.binds md e || decide (e.on < n)) && lexEdges md l (n + 1)
theorem lexEdges_spec : ∀ (l : List Oper) (n : Nat), lexEdges md l n = true → ∀ (i : Nat) (o : Oper), l[i]? = some o → ∀ e ∈ o.after, Region.binds md e = true → e.on < n + i
  | [], _, _, i, o, h, _, _, _ => by simp at h
  | o' :: l, n, hb, i, o, h, e, he, hbi => by
    simp only [lexEdges, Bool.and_eq_true] at hb
    cases i with
    | zero =>
      simp at h
      subst h
      have := Array.all_eq_true_iff_forall_mem.1 hb.1 e he
      simp [hbi] at this
      simpa using this
    | succ i =>
      have := lexEdges_spec l (n + 1) hb.2 i o (by simpa using h) e he hbi
      omega
theorem all_listed (hedge : ∀ (i : Nat) (o : Oper), ops[i]? = some o → ∀ e ∈ o.after, Region.binds md e = true → e.on < i) {listed : Array Bool} (hs : listed.size = ops.size) (hr : Region.ready md ops listed = []) :
    ∀ j, j < ops.size → listed.getD j false = true := by
  intro j
  induction j using Nat.strongRecOn with
  | ind j ih =>
    intro hj
    cases hb : listed.getD j true with
    | true =>
      have : listed[j]? = some listed[j] := Array.getElem?_eq_getElem (by omega)
      simp only [Array.getD_eq_getD_getElem?, this] at hb ⊢
      exact hb
    | false =>
      exfalso
      have : j ∈ Region.ready md ops listed := mem_ready.2 ⟨hb, ops[j], Array.getElem?_eq_getElem hj, fun e he hbi => by
        have := hedge j ops[j] (Array.getElem?_eq_getElem hj) e he hbi
        exact ih e.on this (by omega)⟩
      rw [hr] at this
      cases this
theorem wpAny_inv {Inv : Array Bool → Act → World → Prop} (hedge : ∀ (i : Nat) (o : Oper), ops[i]? = some o → ∀ e ∈ o.after, Region.binds md e = true → e.on < i)
    (hstep : ∀ (listed : Array Bool) (i : Nat) (o : Oper) (a : Act) (w : World), ops[i]? = some o → listed.size = ops.size → listed.getD i false = false → (∀ e ∈ o.after, Region.binds md e = true → listed.getD e.on false = true) →
      Inv listed a w → wpOp P ops Q i (Inv (listed.setIfInBounds i true)) a w)
    (hend : ∀ (listed : Array Bool) (a : Act) (w : World), (∀ j, j < ops.size → listed.getD j false = true) → Inv listed a w → Q .normal a w) :
    ∀ (fuel : Nat) (listed : Array Bool) (a : Act) (w : World), listed.size = ops.size → listed.toList.count false = fuel → Inv listed a w → wpAny P md ops Q fuel listed a w
  | 0, listed, a, w, hs, hc, h => by
    have hall : ∀ j, j < ops.size → listed.getD j false = true := fun j hj => by
      have h1 : listed[j]? = some listed[j] := Array.getElem?_eq_getElem (by omega)
      cases hb : listed[j] with
      | true => simp only [Array.getD_eq_getD_getElem?, h1, hb]; rfl
      | false =>
        have : false ∈ listed.toList := by
          rw [← hb]
          exact Array.getElem_mem_toList (by omega)
        rw [List.count_eq_zero] at hc
        exact absurd this hc
    refine ⟨?_, hend listed a w hall h⟩
    cases hr : Region.ready md ops listed with
    | nil => rfl
    | cons i l =>
      have hi : i ∈ Region.ready md ops listed := by rw [hr]; exact List.mem_cons_self
      obtain ⟨h0, o, ho, _⟩ := mem_ready.1 hi
      have hj : i < ops.size := (Array.getElem?_eq_some_iff.1 ho).1
      have := hall i hj
      have h1 : listed[i]? = some listed[i] := Array.getElem?_eq_getElem (by omega)
      simp only [Array.getD_eq_getD_getElem?, h1] at h0 this
      simp at h0 this
      rw [h0] at this
      cases this
  | fuel + 1, listed, a, w, hs, hc, h => by
    refine ⟨fun hr => hend listed a w (all_listed hedge hs hr) h, fun i hi => ?_⟩
    obtain ⟨h0, o, ho, hall⟩ := mem_ready.1 hi
    have hj : i < listed.size := by rw [hs]; exact (Array.getElem?_eq_some_iff.1 ho).1
    have h1 : listed[i]? = some listed[i] := Array.getElem?_eq_getElem hj
    have h2 : listed[i] = false := by
      simp only [Array.getD_eq_getD_getElem?, h1] at h0
      simpa using h0
    refine wpOp_mono (fun a' w' h' => wpAny_inv hedge hstep hend fuel _ a' w' (by rw [Array.size_setIfInBounds]; exact hs) ?_ h')
      (hstep listed i o a w ho hs (by simp only [Array.getD_eq_getD_getElem?, h1, h2]; rfl) hall h)
    rw [Array.toList_setIfInBounds, List.count_set (by rw [Array.length_toList]; exact hj)]
    have h3 : listed.toList[i]'(by rw [Array.length_toList]; exact hj) = false := by rw [Array.getElem_toList]; exact h2
    rw [h3, hc]
    simp

/-- the facts of what is done -/
def Done (listed : Array Bool) (j : Nat) : Prop := listed.getD j false = true

theorem wp_region_inv {id : Nat} {a : Act} {w : World} {l : List Oper} (hm : P.follows .mixedOrders = true) (hE : lexEdges .any l 0 = true) (Inv : Array Bool → Act → World → Prop)
    (h0 : Inv (Array.replicate l.length false) a w.drew)
    (hstep : ∀ (listed : Array Bool) (i : Nat) (o : Oper) (a : Act) (w : World), l[i]? = some o → listed.size = l.length → ¬ Done listed i → (∀ e ∈ o.after, Region.binds .any e = true → Done listed e.on) →
      Inv listed a w → wpOp P l.toArray Q i (Inv (listed.setIfInBounds i true)) a w)
    (hend : ∀ (listed : Array Bool) (a : Act) (w : World), (∀ j, j < l.length → Done listed j) → Inv listed a w → Q .normal a w) :
    (Code.region id l.toArray true).wp P Q a w := by
  refine wp_region_any hm (wpAny_inv (Inv := Inv) (fun i o ho => ?_) (fun listed i o a w ho hs hn hall hi => ?_) (fun listed a w hall hi => hend listed a w (fun j hj => hall j (by simpa using hj)) hi) _ _ _ _ (by simp) (by simp) (by simpa using h0))
  · have := lexEdges_spec l 0 hE i o (by simpa using ho)
    simpa using this
  · exact hstep listed i o a w (by simpa using ho) (by simpa using hs) (by unfold Done; rw [hn]; simp) hall hi
theorem wpOp_of_wp {i : Nat} {o : Oper} {a : Act} {w : World} {K : Act → World → Prop} (ho : ops[i]? = some o) (hg : o.guard = none) (h : o.wp P a w K Q) : wpOp P ops Q i K a w := by
  unfold wpOp
  simp only [ho]
  rw [if_pos (by simp [Region.wanted, hg])]
  exact .inl h
theorem done_set {listed : Array Bool} {i j : Nat} (h : Done (listed.setIfInBounds i true) j) : Done listed j ∨ j = i := by
  by_cases hij : j = i
  · exact .inr hij
  · left
    unfold Done at *
    rw [Array.getD_eq_getD_getElem?, Array.getElem?_setIfInBounds_ne (Ne.symm hij)] at h
    rw [Array.getD_eq_getD_getElem?]
    exact h
theorem wpOp_step {i : Nat} {o : Oper} {a : Act} {w : World} {K0 : Act → World → Prop} (ho : ops[i]? = some o) (hg : o.guard = none) (h : ∀ K : Act → World → Prop, (∀ a w, K0 a w → K a w) → o.wp P a w K Q) : wpOp P ops Q i K0 a w :=
  wpOp_of_wp ho hg (h K0 fun _ _ h => h)
/-- the frame whose slots from m on, n of them, are us -/
def frameOf (a : Act) (m n : Nat) (us : List Value) : Act := ⟨(a.tmps.toList.take m ++ (us ++ a.tmps.toList.drop (m + n))).toArray, a.defers⟩
theorem frameOf_self (a : Act) (m n : Nat) : frameOf a m n ((a.tmps.toList.drop m).take n) = a := by
  unfold frameOf
  have : (a.tmps.toList.take m ++ ((a.tmps.toList.drop m).take n ++ a.tmps.toList.drop (m + n))).toArray = a.tmps := by
    rw [← List.drop_drop, List.take_append_drop, List.take_append_drop]
  rw [this]
theorem done_same {listed : Array Bool} {i : Nat} (h : i < listed.size) : Done (listed.setIfInBounds i true) i := by
  unfold Done
  rw [Array.getD_eq_getD_getElem?, Array.getElem?_setIfInBounds_self_of_lt h]
  rfl
theorem done_mono {listed : Array Bool} {i j : Nat} (h : Done listed j) : Done (listed.setIfInBounds i true) j := by
  by_cases hij : j = i
  · subst hij
    refine done_same ?_
    rcases Nat.lt_or_ge j listed.size with hlt | hge
    · exact hlt
    · unfold Done at h
      rw [Array.getD_eq_getD_getElem?, Array.getElem?_eq_none hge] at h
      cases h
  · unfold Done at *
    rw [Array.getD_eq_getD_getElem?, Array.getElem?_setIfInBounds_ne (Ne.symm hij)]
    rwa [Array.getD_eq_getD_getElem?] at h
theorem done_other {listed : Array Bool} {i j : Nat} (hij : j ≠ i) (h : Done (listed.setIfInBounds i true) j) : Done listed j := (done_set h).resolve_right hij
theorem done_set_iff {listed : Array Bool} {i j : Nat} (h : i < listed.size) : Done (listed.setIfInBounds i true) j ↔ (Done listed j ∨ j = i) :=
  ⟨done_set, fun hh => hh.elim done_mono fun e => by subst e; exact done_same h⟩
theorem not_done_replicate (n j : Nat) : ¬ Done (Array.replicate n false) j := by
  unfold Done
  rw [Array.getD_eq_getD_getElem?, Array.getElem?_replicate]
  split <;> simp
/-- the same, over the slots that the region writes; what is done has all that it waits for done -/
theorem wp_region_inv2 {id : Nat} {a : Act} {w : World} {l : List Oper} (m n : Nat) (hmn : m + n ≤ a.tmps.size) (hm : P.follows .mixedOrders = true) (hE : lexEdges .any l 0 = true) (Inv : Array Bool → List Value → World → Prop)
    (h0 : ∀ us, us.length = n → Inv (Array.replicate l.length false) us w.drew)
    (hstep : ∀ (listed : Array Bool) (i : Nat) (o : Oper) (us : List Value) (w : World), l[i]? = some o → us.length = n → ¬ Done listed i → (∀ e ∈ o.after, Region.binds .any e = true → Done listed e.on) → listed.size = l.length →
      (∀ (j : Nat) (o : Oper), l[j]? = some o → Done listed j → ∀ e ∈ o.after, Region.binds .any e = true → Done listed e.on) →
      Inv listed us w → wpOp P l.toArray Q i (fun a' w' => ∃ us', us'.length = n ∧ a' = frameOf a m n us' ∧ Inv (listed.setIfInBounds i true) us' w') (frameOf a m n us) w)
    (hend : ∀ (listed : Array Bool) (us : List Value) (w : World), us.length = n → (∀ j, j < l.length → Done listed j) → Inv listed us w → Q .normal (frameOf a m n us) w) :
    (Code.region id l.toArray true).wp P Q a w := by
  refine wp_region_inv hm hE (fun listed a' w' => (∀ (j : Nat) (o : Oper), l[j]? = some o → Done listed j → ∀ e ∈ o.after, Region.binds .any e = true → Done listed e.on) ∧ ∃ us, us.length = n ∧ a' = frameOf a m n us ∧ Inv listed us w') ?_ ?_ ?_
  · have hl : ((a.tmps.toList.drop m).take n).length = n := by
      rw [List.length_take, List.length_drop, Array.length_toList]
      omega
    exact ⟨fun j o _ hj => absurd hj (not_done_replicate _ _), _, hl, (frameOf_self a m n).symm, h0 _ hl⟩
  · rintro listed i o a' w' ho hs hn hd ⟨hcl, us, hl, rfl, hi⟩
    refine wpOp_mono (fun a2 w2 h2 => ⟨fun j oj hj hdj e he hb => ?_, h2⟩) (hstep listed i o us w' ho hl hn hd hs hcl hi)
    rcases done_set hdj with hdj | rfl
    · exact done_mono (hcl j oj hj hdj e he hb)
    · rw [ho] at hj
      injection hj with hj
      subst hj
      exact done_mono (hd e he hb)
  · rintro listed a' w' hall ⟨_, us, hl, rfl, hi⟩
    exact hend listed us w' hl hall hi
/-- does the operation wait for that one? -/
def waits (o : Oper) (i : Nat) : Bool := o.after.any fun e => Region.binds .any e && e.on == i
theorem done_of_waits {listed : Array Bool} {o : Oper} {i : Nat} (h : ∀ e ∈ o.after, Region.binds .any e = true → Done listed e.on) (hw : waits o i = true) : Done listed i := by
  unfold waits at hw
  rw [Array.any_eq_true'] at hw
  obtain ⟨e, he, hb⟩ := hw
  simp only [Bool.and_eq_true, beq_iff_eq] at hb
  rw [← hb.2]
  exact h e he hb.1
end Go.Proofs.Ytjllikpocfppoaa
