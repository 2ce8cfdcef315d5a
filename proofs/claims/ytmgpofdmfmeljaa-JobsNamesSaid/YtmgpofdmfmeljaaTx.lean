/- Tx: 2 texts in one. -/
import Derived.Test.YtmgpofdmfmeljaaTr
/- A region that draws its order, by segments, whose last operations come up one by one: nothing is asked of the worlds of these. No program is named here. -/
namespace Go.Proofs.Ytmgpofdmfmeljaa
open Go.RowKit
section
variable {P : Program}
def onlyN (Q : Act → World → Prop) : Exit → Act → World → Prop
  | .normal, a, w => Q a w
  | _, _, _ => False
theorem no_lets {Q : Act → World → Prop} : ¬ LetsOut (onlyN Q) := fun ⟨_, _, h⟩ => h
theorem wpListIn_of_plain {l0 n : Nat} {ops : Array Oper} {Q : Act → World → Prop} {Q' : Exit → Act → World → Prop} (hQ : ∀ a w, Q a w → Q' .normal a w) : ∀ (l : List Oper) (a : Act) (w : World), noDefer l = true →
    wpList P ops (onlyN Q) l a w → wpListIn (Fence.wide.inRound l0) n P ops Q' l a w
  | [], a, w, _, h => hQ _ _ h
  | o :: l, a, w, hnd, h => by
    unfold noDefer at hnd
    rw [List.all_cons, Bool.and_eq_true] at hnd
    have hno : ∀ c : Call, o.op ≠ Op.defer c := fun c hc => by
      have := hnd.1
      rw [hc] at this
      cases this
    have ih := fun a w => wpListIn_of_plain (l0 := l0) (n := n) (ops := ops) hQ l a w hnd.2
    unfold wpList at h
    unfold wpListIn
    split
    · rename_i hw
      rw [if_pos hw] at h
      rcases h with h | ⟨_, h⟩
      · exact opIn_of_plain hno (wp_monoQ (Q' := QN) (fun a w hh => ih a w hh) (fun _ _ _ h => h) (fun h => by first | exact absurd h (no_lets (Q := Q)) | exact absurd h no_letsOut) h)
      · exact absurd h no_lets
    · rename_i hw
      rw [if_neg hw] at h
      exact ⟨fun _ _ => trivial, ih _ _ h⟩
theorem wpIn_region_plain {id l0 n : Nat} {ops : Array Oper} {Q' : Exit → Act → World → Prop} {a : Act} {w : World} (hnd : noDefer ops.toList = true) (h : wpList P ops (onlyN fun a w => Q' .normal a w) ops.toList a w) :
    (Code.region id ops false).wpIn (Fence.wide.inRound l0) n P Q' a w :=
  wpIn_region_list (wpListIn_of_plain (fun _ _ h => h) _ _ _ hnd h)
theorem onlyN_mk {Q : Act → World → Prop} {a : Act} {w : World} (h : Q a w) : onlyN Q .normal a w := h
end
end Go.Proofs.Ytmgpofdmfmeljaa

namespace Go.Proofs.Ytmgpofdmfmeljaa
open Go.RowKit

section
variable {P : Program} {ops : Array Oper} {md : Region.Mode} {C : World → Prop}
def tailB (md : Region.Mode) (ops : Array Oper) : List Nat → Array Bool → Bool
  | [], listed => (Region.ready md ops listed).isEmpty
  | i :: r, listed => (Region.ready md ops listed == [i]) && tailB md ops r (listed.setIfInBounds i true)
/-- operations one by one -/
def wpTail (P : Program) (ops : Array Oper) (Q : Act → World → Prop) : List Nat → Act → World → Prop
  | [], a, w => Q a w
  | i :: r, a, w => wpOp P ops QN i (wpTail P ops Q r) a w
theorem getD_set_true {listed : Array Bool} {i s : Nat} (h : listed.getD s false = true) : (listed.setIfInBounds i true).getD s false = true := by
  by_cases his : i = s
  · subst his
    have hlt : i < listed.size := by
      rcases Nat.lt_or_ge i listed.size with h' | h'
      · exact h'
      · simp [Nat.not_lt.2 h'] at h
    simp [hlt]
  · rw [getD_set_ne false his]
    exact h
theorem wpAnyC_tail {s : Nat} {Q : Act → World → Prop} : ∀ (l : List Nat) (listed : Array Bool) (a : Act) (w : World), tailB md ops l listed = true → listed.getD s false = true → wpTail P ops Q l a w → wpAnyC P md ops C s Q l.length listed a w
  | [], listed, a, w, hB, hs, h => ⟨fun h0 => (by rw [hs] at h0; cases h0), by simpa [tailB] using hB, h⟩
  | i :: r, listed, a, w, hB, hs, h => by
    simp only [tailB, Bool.and_eq_true, beq_iff_eq] at hB
    refine ⟨fun h0 => (by rw [hs] at h0; cases h0), fun h0 => (by rw [hB.1] at h0; cases h0), fun j hj => ?_⟩
    rw [hB.1] at hj
    obtain rfl := List.mem_singleton.1 hj
    exact wpOp_mono (fun a' w' hh => wpAnyC_tail r _ a' w' hB.2 (getD_set_true hs) hh) h
/-- s waits for i -/
def ancB (md : Region.Mode) (ops : Array Oper) : Nat → Nat → Nat → Bool
  | 0, _, _ => false
  | n + 1, s, i => match ops[s]? with
    | none => false
    | some o => o.after.any fun e => Region.binds md e && (e.on == i || ancB md ops n e.on i)
/-- what is listed: all that it waits for is -/
def ClosedL (md : Region.Mode) (ops : Array Oper) (listed : Array Bool) : Prop := ∀ (k : Nat) (o : Oper), ops[k]? = some o → listed.getD k false = true → ∀ e ∈ o.after, Region.binds md e = true → listed.getD e.on false = true
theorem anc_listed {listed : Array Bool} (hcl : ClosedL md ops listed) : ∀ (n s i : Nat), ancB md ops n s i = true → (∀ o, ops[s]? = some o → ∀ e ∈ o.after, Region.binds md e = true → listed.getD e.on false = true) → listed.getD i false = true := by
  intro n
  induction n with
  | zero => intro s i h; cases h
  | succ n ih =>
    intro s i h hs
    unfold ancB at h
    cases ho : ops[s]? with
    | none => rw [ho] at h; cases h
    | some o =>
      rw [ho] at h
      obtain ⟨e, he, hb⟩ := Array.any_eq_true'.1 h
      simp only [Bool.and_eq_true, Bool.or_eq_true, beq_iff_eq] at hb
      have h1 := hs o ho e he hb.1
      rcases hb.2 with h2 | h2
      · rw [← h2]; exact h1
      · exact ih e.on i h2 fun o' ho' => hcl e.on o' ho' h1
theorem closed_set {listed : Array Bool} (hcl : ClosedL md ops listed) {j : Nat} (hj : j ∈ Region.ready md ops listed) : ClosedL md ops (listed.setIfInBounds j true) := by
  intro k o hk hl e he hb
  refine getD_set_true ?_
  by_cases hjk : j = k
  · subst hjk
    obtain ⟨_, oj, hoj, hall⟩ := mem_ready.1 hj
    rw [hoj] at hk
    cases hk
    exact hall e he hb
  · rw [getD_set_ne false hjk] at hl
    exact hcl k o hk hl e he hb
theorem wpAnyC_firstA {s i : Nat} {oi : Oper} {v : Value} {Q : Act → World → Prop} (hi : ops[i]? = some oi) (hso : softOp oi = true) (hsel : ∀ (j : Nat) (o : Oper) cs b, ops[j]? = some o → o.op ≠ .select cs b) (his : i ≠ s) {n : Nat} (hA : ancB md ops n s i = true) :
    ∀ (fuel : Nat) (listed : Array Bool) (a : Act) (w : World), ClosedL md ops listed →
      (∀ j oj, ops[j]? = some oj → j ≠ i → listed.getD j true = false → (∀ e ∈ oj.after, Region.binds md e = true → e.on ≠ i) → oi.apart ops oj = true) →
      i ∈ Region.ready md ops listed → YieldsIn P ops C oi v a → listed.getD s false = false → C w →
      wpAnyC P md ops C s Q fuel (listed.setIfInBounds i true) (a.put oi.dst v) w → wpAnyC P md ops C s Q (fuel + 1) listed a w := by
  intro fuel
  induction fuel with
  | zero =>
    intro listed a w _ _ hr hy hls hC H
    refine ⟨fun _ => hC, fun h => (by rw [h] at hr; cases hr), fun j hj => ?_⟩
    by_cases hji : j = i
    · subst hji
      exact wpOp_of_soft hi hso hy hC H
    · have := ready_mono hj hji
      rw [H.2.1] at this
      cases this
  | succ fuel ih =>
    intro listed a w hcl hfree hr hy hls hC H
    refine ⟨fun _ => hC, fun h => (by rw [h] at hr; cases hr), fun j hj => ?_⟩
    by_cases hji : j = i
    · subst hji
      exact wpOp_of_soft hi hso hy hC H
    · have h1 := H.2.2 j (ready_mono hj hji)
      obtain ⟨hjun, oj, hoj, hall⟩ := mem_ready.1 hj
      have hil : listed.getD i false = false := by
        have h0 := (mem_ready.1 hr).1
        rcases Nat.lt_or_ge i listed.size with h' | h'
        · simp [h'] at h0 ⊢; exact h0
        · simp [Array.getElem?_eq_none h'] at h0
      have hnot : ∀ e ∈ oj.after, Region.binds md e = true → e.on ≠ i := fun e he hb heq => by
        have h1 := hall e he hb
        rw [heq, hil] at h1
        cases h1
      have hjs : j ≠ s := by
        rintro rfl
        have := anc_listed hcl n j i hA fun o ho e he hb => by
          rw [hoj] at ho
          cases ho
          exact hall e he hb
        rw [hil] at this
        cases this
      have h2 := wpOpC_put hoj (hfree j oj hoj hji hjun hnot) (fun cs b => hsel i oi cs b hi) (fun cs b => hsel j oj cs b hoj) hy h1
      have hfree' : ∀ k ok, ops[k]? = some ok → k ≠ i → (listed.setIfInBounds j true).getD k true = false →
          (∀ e ∈ ok.after, Region.binds md e = true → e.on ≠ i) → oi.apart ops ok = true := fun k ok hk hki hun hno => by
        refine hfree k ok hk hki ?_ hno
        by_cases hjk : j = k
        · subst hjk; exact hjun
        · rw [getD_set_ne true hjk] at hun; exact hun
      refine wpOp_mono (fun a' w' h3 => ?_) h2
      have hs1 : (listed.setIfInBounds j true).getD s false = false := by rw [getD_set_ne false hjs]; exact hls
      have hcomm : (listed.setIfInBounds j true).setIfInBounds i true = (listed.setIfInBounds i true).setIfInBounds j true := Array.setIfInBounds_comm _ _ hji
      refine ih (listed.setIfInBounds j true) a' w' (closed_set hcl hj) hfree' (ready_mono hr (Ne.symm hji)) h3.1 hs1 (h3.2.cls (by rw [← hcomm, getD_set_ne false his]; exact hs1)) ?_
      rw [hcomm]
      exact h3.2
/-- the walk of a schedule up to s, then one by one -/
def wpSchedT (P : Program) (ops : Array Oper) (C : World → Prop) (s : Nat) (tl : List Nat) (Q : Act → World → Prop) : List (Bool × Nat) → Act → World → Prop
  | [], a, w => wpTail P ops Q (s :: tl) a w
  | (true, i) :: r, a, w => qOp P ops C i (fun a' => wpSchedT P ops C s tl Q r a' w) a
  | (false, i) :: r, a, w => wpOp P ops QN i (fun a' w' => C w' ∧ wpSchedT P ops C s tl Q r a' w') a w
def schedTB (md : Region.Mode) (ops : Array Oper) (s : Nat) (tl : List Nat) : List (Bool × Nat) → Array Bool → Bool
  | [], listed => (Region.ready md ops listed == [s]) && tailB md ops tl (listed.setIfInBounds s true)
  | (true, i) :: r, listed => i != s && (Region.ready md ops listed).contains i && Region.free md ops listed i && ((ops[i]?).map softOp).getD false &&
    ancB md ops ops.size s i && schedTB md ops s tl r (listed.setIfInBounds i true)
  | (false, i) :: r, listed => (Region.ready md ops listed == [i]) && i != s && schedTB md ops s tl r (listed.setIfInBounds i true)
theorem wpAnyC_schedT {s : Nat} {tl : List Nat} {Q : Act → World → Prop} (hs : Region.noSelect ops = true) : ∀ (l : List (Bool × Nat)) (listed : Array Bool) (a : Act) (w : World), schedTB md ops s tl l listed = true → ClosedL md ops listed → listed.getD s false = false → C w →
    wpSchedT P ops C s tl Q l a w → wpAnyC P md ops C s Q (l.length + (tl.length + 1)) listed a w
  | [], listed, a, w, hB, _, hls, hC, h => by
    simp only [schedTB, Bool.and_eq_true, beq_iff_eq] at hB
    obtain ⟨h1, h2⟩ := hB
    rw [List.length_nil, Nat.zero_add]
    refine ⟨fun _ => hC, fun h0 => (by rw [h1] at h0; cases h0), fun j hj => ?_⟩
    rw [h1] at hj
    obtain rfl := List.mem_singleton.1 hj
    have hji : j ∈ Region.ready md ops listed := by rw [h1]; exact List.mem_singleton.2 rfl
    obtain ⟨hlt, _⟩ := ready_getD_false' hji
    exact wpOp_mono (fun a' w' hh => wpAnyC_tail tl _ a' w' h2 (by simp [hlt]) hh) h
  | (true, i) :: r, listed, a, w, hB, hcl, hls, hC, h => by
    simp only [schedTB, Bool.and_eq_true, bne_iff_ne, ne_eq] at hB
    obtain ⟨⟨⟨⟨⟨h1, h2⟩, h3⟩, h4⟩, h5⟩, h6⟩ := hB
    obtain ⟨oi, hoi⟩ : ∃ o, ops[i]? = some o := by
      cases ho : ops[i]? with
      | none => rw [ho] at h4; cases h4
      | some o => exact ⟨o, rfl⟩
    rw [hoi] at h4
    obtain ⟨v, hy, hK⟩ := yieldsIn_of_qOp hoi h
    have e : ((true, i) :: r).length + (tl.length + 1) = (r.length + (tl.length + 1)) + 1 := by rw [List.length_cons]; omega
    rw [e]
    have hir : i ∈ Region.ready md ops listed := by simpa using h2
    exact wpAnyC_firstA hoi (by simpa using h4) (Region.noSelect_spec hs) h1 h5 (r.length + (tl.length + 1)) listed a w hcl (Region.free_spec hoi h3) hir hy hls hC
      (wpAnyC_schedT hs r _ _ w h6 (closed_set hcl hir) (by rw [getD_set_ne false h1]; exact hls) hC hK)
  | (false, i) :: r, listed, a, w, hB, hcl, hls, hC, h => by
    simp only [schedTB, Bool.and_eq_true, beq_iff_eq, bne_iff_ne, ne_eq] at hB
    obtain ⟨⟨h1, h2⟩, h3⟩ := hB
    have e : ((false, i) :: r).length + (tl.length + 1) = (r.length + (tl.length + 1)) + 1 := by rw [List.length_cons]; omega
    rw [e]
    refine ⟨fun _ => hC, fun h0 => (by rw [h1] at h0; cases h0), fun j hj => ?_⟩
    rw [h1] at hj
    obtain rfl := List.mem_singleton.1 hj
    have hji : j ∈ Region.ready md ops listed := by rw [h1]; exact List.mem_singleton.2 rfl
    exact wpOp_mono (fun a' w' hh => wpAnyC_schedT hs r _ a' w' h3 (closed_set hcl hji) (by rw [getD_set_ne false h2]; exact hls) hh.1 hh.2) h
end

section
variable {P : Program} {C : World → Prop}
/-- the walk by segments; at the end the last operations, one behind the other -/
def wpSegsT (P : Program) (l : List Oper) (C : World → Prop) (Q : Act → World → Prop) (tl : List Nat) : List (List Nat × Nat) → List Nat → Act → World → Prop
  | [], fin, a, w => wpQuiet P l.toArray C (fun a' => wpList P l.toArray (onlyN Q) (pick l tl) a' w) (pick l fin) a
  | (is, h) :: r, fin, a, w => wpQuiet P l.toArray C (fun a' => wpList P l.toArray (segQ C h (h + 1) (wpSegsT P l C Q tl r fin)) (pick l [h]) a' w) (pick l is) a
theorem tail_of_list {l : List Oper} {Q : Act → World → Prop} : ∀ (tl : List Nat) (a : Act) (w : World), (∀ i ∈ tl, i < l.length) → wpList P l.toArray (onlyN Q) (pick l tl) a w → wpTail P l.toArray Q tl a w
  | [], _, _, _, h => h
  | i :: tl, a, w, hl, h => by
    have hlt := hl i (List.mem_cons_self ..)
    have hi1 : l[i]? = some l[i] := List.getElem?_eq_getElem hlt
    have e : pick l (i :: tl) = l[i] :: pick l tl := nthC_some _ hi1
    have hi' : l.toArray[i]? = some l[i] := by rw [List.getElem?_toArray]; exact hi1
    have ih := fun a w => tail_of_list (Q := Q) tl a w fun k hk => hl k (List.mem_cons_of_mem _ hk)
    rw [e] at h
    show wpOp P l.toArray QN i _ a w
    unfold wpOp
    simp only [hi']
    unfold wpList at h
    split
    · rename_i hw
      rw [if_pos hw] at h
      rcases h with h | ⟨_, hl⟩
      · exact .inl (wp_monoQ (fun a w hh => ih a w hh) (fun _ _ _ h => h) (fun h => by first | exact absurd h (no_lets (Q := Q)) | exact absurd h no_letsOut) h)
      · exact absurd hl no_lets
    · rename_i hw
      rw [if_neg hw] at h
      exact ih _ _ h
theorem softsT {l : List Oper} {s : Nat} {tl : List Nat} {Q : Act → World → Prop} {r : List (Bool × Nat)} {w : World} : ∀ (is : List Nat) (a : Act), (∀ i ∈ is, i < l.length) →
    wpQuiet P l.toArray C (fun a' => wpSchedT P l.toArray C s tl Q r a' w) (pick l is) a → wpSchedT P l.toArray C s tl Q ((is.map fun i => (true, i)) ++ r) a w
  | [], _, _, h => h
  | i :: is, a, hl, h => by
    have hlt := hl i (List.mem_cons_self ..)
    have hi : l[i]? = some l[i] := List.getElem?_eq_getElem hlt
    have e : pick l (i :: is) = l[i] :: pick l is := nthC_some _ hi
    rw [e] at h
    show qOp P l.toArray C i _ a
    have hi' : l.toArray[i]? = some l[i] := by rw [List.getElem?_toArray]; exact hi
    unfold qOp
    simp only [hi']
    unfold wpQuiet at h
    split
    · rename_i hw
      rw [if_pos hw] at h
      exact Oper.quiet_mono (fun a' h' => softsT is a' (fun k hk => hl k (List.mem_cons_of_mem _ hk)) h') h
    · rename_i hw
      rw [if_neg hw] at h
      exact softsT is _ (fun k hk => hl k (List.mem_cons_of_mem _ hk)) h
theorem segsT_sched {l : List Oper} {s : Nat} {tl : List Nat} {Q : Act → World → Prop} {fin : List Nat} (hf : ∀ i ∈ fin, i < l.length) (ht : ∀ i ∈ s :: tl, i < l.length) : ∀ (segs : List (List Nat × Nat)) (a : Act) (w : World), (∀ x ∈ segs, (∀ i ∈ x.1, i < l.length) ∧ x.2 < l.length) →
    wpSegsT P l C Q (s :: tl) segs fin a w → wpSchedT P l.toArray C s tl Q (segItems segs fin) a w
  | [], a, w, _, h => by
    have := softsT (s := s) (tl := tl) (Q := Q) (r := []) (w := w) fin a hf (wpQuiet_mono' (fun a' h' => tail_of_list (s :: tl) a' w ht h') (pick l fin) a h)
    simpa [segItems] using this
  | (is, hh) :: r, a, w, hl, h => by
    obtain ⟨h1, h2⟩ := hl _ (List.mem_cons_self ..)
    refine softsT is a h1 (wpQuiet_mono' (fun a' h' => ?_) (pick l is) a h)
    exact wpOp_mono (fun a2 w2 hx => ⟨hx.1 (by omega), segsT_sched hf ht r a2 w2 (fun x hx' => hl x (List.mem_cons_of_mem _ hx')) hx.2⟩) (wpOp_of_list h2 h')
def segsTB (l : List Oper) (s : Nat) (tl : List Nat) (segs : List (List Nat × Nat)) (fin : List Nat) : Bool :=
  Region.noSelect l.toArray && schedTB .any l.toArray s tl (segItems segs fin) (Array.replicate l.length false) && (segs.all fun x => (x.1.all fun i => decide (i < l.length)) && decide (x.2 < l.length)) && (fin.all fun i => decide (i < l.length)) && ((s :: tl).all fun i => decide (i < l.length)) &&
    ((segItems segs fin).length + (tl.length + 1) == l.length)
theorem wp_region_segsT {id : Nat} {Q : Exit → Act → World → Prop} {a : Act} {w : World} {l : List Oper} (s : Nat) (tl : List Nat) (segs : List (List Nat × Nat)) (fin : List Nat) (hm : P.follows .mixedOrders = true) (hB : segsTB l s tl segs fin = true)
    (h : wpSegsT P l (fun w' => ∃ x : Lay, w' = more w x.os x.k) (fun a' w' => Q .normal a' w') (s :: tl) segs fin a w.drew) : (Code.region id l.toArray true).wp P Q a w := by
  unfold segsTB at hB
  simp only [Bool.and_eq_true, List.all_eq_true, decide_eq_true_eq, beq_iff_eq] at hB
  obtain ⟨⟨⟨⟨⟨h1, h2⟩, h3⟩, h4⟩, h6⟩, h5⟩ := hB
  refine wp_region_any hm (wpAny_of_C (C := fun w' => ∃ x : Lay, w' = more w x.os x.k) (s := s) _ _ _ _ ?_)
  have := wpAnyC_schedT (Q := fun a' w' => Q .normal a' w') (C := fun w' => ∃ x : Lay, w' = more w x.os x.k) h1 (segItems segs fin) (Array.replicate l.length false) a w.drew h2 (fun k o _ hk => by
    rw [Array.getD_eq_getD_getElem?, Array.getElem?_replicate] at hk
    split at hk <;> cases hk) (by
    rw [Array.getD_eq_getD_getElem?, Array.getElem?_replicate]
    split <;> rfl) ⟨⟨[], w.drawn + 1⟩, by rw [← more_drew, more_nil]⟩ (segsT_sched h4 h6 segs a w.drew h3 h)
  rw [h5] at this
  simpa using this
theorem segsT_cons {l : List Oper} {h : Nat} {Q : Act → World → Prop} {is fin tl : List Nat} {r : List (List Nat × Nat)} {a : Act} {w : World}
    (hh : ∀ K : Act → Prop, (∀ a', (∀ next : Act → World → Prop, (∀ a w, wpSegsT P l C Q tl r fin a w → next a w) → wpList P l.toArray (segQ C h (h + 1) next) (pick l [h]) a' w) → K a') → wpQuiet P l.toArray C K (pick l is) a) :
    wpSegsT P l C Q tl ((is, h) :: r) fin a w := hh _ fun _ h' => h' _ fun _ _ h => h
theorem segsT_nil {l : List Oper} {Q : Act → World → Prop} {fin tl : List Nat} {a : Act} {w : World}
    (hh : ∀ K : Act → Prop, (∀ a', wpList P l.toArray (onlyN Q) (pick l tl) a' w → K a') → wpQuiet P l.toArray C K (pick l fin) a) : wpSegsT P l C Q tl [] fin a w := hh _ fun _ h => h
end
end Go.Proofs.Ytmgpofdmfmeljaa

/- A region that draws its order: those that read first, then the rest by a tree of the orders that are left. No program is named here. -/
namespace Go.Proofs.Ytmgpofdmfmeljaa
open Go.RowKit

/-- the orders that are left -/
inductive Br where
  | fin : Br
  | step (i : Nat) (t : Br) : Br
  | two (a b : Br) : Br
def Br.heads : Br → List Nat
  | .fin => []
  | .step i _ => [i]
  | .two a b => a.heads ++ b.heads
def Br.len : Br → Nat
  | .fin => 0
  | .step _ t => t.len + 1
  | .two a _ => a.len
def Br.even : Br → Bool
  | .fin => true
  | .step _ t => t.even
  | .two a b => a.even && b.even && (a.len == b.len) && (a.len != 0)
theorem Br.heads_ne : ∀ (t : Br), t.even = true → t.len ≠ 0 → t.heads ≠ []
  | .fin, _, h => absurd rfl h
  | .step _ _, _, _ => by simp [Br.heads]
  | .two a b, he, _ => by
    simp only [Br.even, Bool.and_eq_true, bne_iff_ne, ne_eq] at he
    have := a.heads_ne he.1.1.1 he.2
    simp [Br.heads, this]
section
variable {P : Program} {C : World → Prop}
def brB (md : Region.Mode) (ops : Array Oper) : Bool → Br → Array Bool → Bool
  | top, .fin, listed => !top || (Region.ready md ops listed == [])
  | top, .step i t, listed => (!top || (Region.ready md ops listed == [i])) && decide (i < ops.size) && decide (i < listed.size) && brB md ops true t (listed.setIfInBounds i true)
  | top, .two a b, listed => (!top || (Region.ready md ops listed == a.heads ++ b.heads)) && brB md ops false a listed && brB md ops false b listed
/-- the walk of a tree of orders -/
def wpBr (P : Program) (l : List Oper) (C : World → Prop) (s : Nat) (Q : Act → World → Prop) : Br → Act → World → Prop
  | .fin, a, w => Q a w
  | .step i t, a, w => wpList P l.toArray (segQ C i s (wpBr P l C s Q t)) (pick l [i]) a w
  | .two t u, a, w => wpBr P l C s Q t a w ∧ wpBr P l C s Q u a w
theorem br_all {l : List Oper} {md : Region.Mode} {s : Nat} {Q : Act → World → Prop} : ∀ (t : Br),
    (∀ (listed : Array Bool) (a : Act) (w : World), t.even = true → brB md l.toArray true t listed = true → (listed.getD s false = false → C w) → wpBr P l C s Q t a w → wpAnyC P md l.toArray C s Q t.len listed a w) ∧
    (∀ (top : Bool) (listed : Array Bool) (a : Act) (w : World) (n : Nat), t.even = true → t.len = n + 1 → brB md l.toArray top t listed = true → wpBr P l C s Q t a w → ∀ j ∈ t.heads, wpOp P l.toArray QN j (wpAnyC P md l.toArray C s Q n (listed.setIfInBounds j true)) a w)
  | .fin => ⟨fun listed a w _ hB hC h => by
      simp only [brB, Bool.not_true, Bool.false_or, beq_iff_eq] at hB
      exact ⟨hC, hB, h⟩, fun top listed a w n _ hl => by cases hl⟩
  | .step i t => by
    have ih := (br_all (l := l) (md := md) (s := s) (Q := Q) t).1
    have K2 : ∀ (top : Bool) (listed : Array Bool) (a : Act) (w : World) (n : Nat), (Br.step i t).even = true → (Br.step i t).len = n + 1 → brB md l.toArray top (.step i t) listed = true → wpBr P l C s Q (.step i t) a w → ∀ j ∈ (Br.step i t).heads, wpOp P l.toArray QN j (wpAnyC P md l.toArray C s Q n (listed.setIfInBounds j true)) a w := by
      intro top listed a w n he hl hB h j hj
      obtain rfl : j = i := List.mem_singleton.1 hj
      simp only [brB, Bool.and_eq_true, decide_eq_true_eq] at hB
      obtain rfl : t.len = n := by simpa [Br.len] using hl
      refine wpOp_mono (fun a' w' hh => ih _ a' w' he hB.2 (fun h0 => ?_) hh.2) (wpOp_of_list (by simpa using hB.1.1.2) h)
      refine hh.1 fun hjs => ?_
      subst hjs
      have := hB.1.2
      simp [this] at h0
    refine ⟨fun listed a w he hB hC h => ⟨hC, fun h0 => ?_, fun j hj => ?_⟩, K2⟩
    · simp only [brB, Bool.not_true, Bool.false_or, Bool.and_eq_true, beq_iff_eq] at hB
      rw [hB.1.1.1] at h0
      cases h0
    · have hB' := hB
      simp only [brB, Bool.not_true, Bool.false_or, Bool.and_eq_true, beq_iff_eq] at hB'
      rw [hB'.1.1.1] at hj
      exact K2 true listed a w t.len he rfl hB h j hj
  | .two t u => by
    have iht := (br_all (l := l) (md := md) (s := s) (Q := Q) t).2
    have ihu := (br_all (l := l) (md := md) (s := s) (Q := Q) u).2
    have K2 : ∀ (top : Bool) (listed : Array Bool) (a : Act) (w : World) (n : Nat), (Br.two t u).even = true → (Br.two t u).len = n + 1 → brB md l.toArray top (.two t u) listed = true → wpBr P l C s Q (.two t u) a w → ∀ j ∈ (Br.two t u).heads, wpOp P l.toArray QN j (wpAnyC P md l.toArray C s Q n (listed.setIfInBounds j true)) a w := by
      intro top listed a w n he hl hB h j hj
      simp only [brB, Bool.and_eq_true] at hB
      simp only [Br.even, Bool.and_eq_true, beq_iff_eq] at he
      have hl' : t.len = n + 1 := hl
      rcases List.mem_append.1 hj with hj | hj
      · exact iht false listed a w n he.1.1.1 hl' hB.1.2 h.1 j hj
      · exact ihu false listed a w n he.1.1.2 (he.1.2 ▸ hl') hB.2 h.2 j hj
    refine ⟨fun listed a w he hB hC h => ?_, K2⟩
    have he' := he
    simp only [Br.even, Bool.and_eq_true, bne_iff_ne, ne_eq] at he'
    obtain ⟨n, hn⟩ : ∃ n, t.len = n + 1 := ⟨t.len - 1, by have := he'.2; omega⟩
    have hB' := hB
    simp only [brB, Bool.not_true, Bool.false_or, Bool.and_eq_true, beq_iff_eq] at hB'
    show wpAnyC P md l.toArray C s Q t.len listed a w
    rw [hn]
    refine ⟨hC, fun h0 => ?_, fun j hj => ?_⟩
    · rw [hB'.1.1] at h0
      have := t.heads_ne he'.1.1.1 he'.2
      simp at h0
      exact absurd h0.1 this
    · rw [hB'.1.1] at hj
      exact K2 true listed a w n he hn hB h j hj
/-- those that read, then the tree -/
def wpSchedB (P : Program) (l : List Oper) (C : World → Prop) (s : Nat) (Q : Act → World → Prop) (t : Br) : List Nat → Act → World → Prop
  | [], a, w => wpBr P l C s Q t a w
  | i :: r, a, w => qOp P l.toArray C i (fun a' => wpSchedB P l C s Q t r a' w) a
def schedBB (md : Region.Mode) (ops : Array Oper) (s : Nat) (t : Br) : List Nat → Array Bool → Bool
  | [], listed => brB md ops true t listed
  | i :: r, listed => i != s && (Region.ready md ops listed).contains i && Region.free md ops listed i && ((ops[i]?).map softOp).getD false && ancB md ops ops.size s i && schedBB md ops s t r (listed.setIfInBounds i true)
theorem wpAnyC_schedB {md : Region.Mode} {l : List Oper} {s : Nat} {t : Br} {Q : Act → World → Prop} (hs : Region.noSelect l.toArray = true) (ht : t.even = true) : ∀ (r : List Nat) (listed : Array Bool) (a : Act) (w : World), schedBB md l.toArray s t r listed = true → ClosedL md l.toArray listed → listed.getD s false = false → C w →
    wpSchedB P l C s Q t r a w → wpAnyC P md l.toArray C s Q (r.length + t.len) listed a w
  | [], listed, a, w, hB, _, _, hC, h => by
    rw [List.length_nil, Nat.zero_add]
    exact (br_all t).1 listed a w ht hB (fun _ => hC) h
  | i :: r, listed, a, w, hB, hcl, hls, hC, h => by
    simp only [schedBB, Bool.and_eq_true, bne_iff_ne, ne_eq] at hB
    obtain ⟨⟨⟨⟨⟨h1, h2⟩, h3⟩, h4⟩, h5⟩, h6⟩ := hB
    obtain ⟨oi, hoi⟩ : ∃ o, l.toArray[i]? = some o := by
      cases ho : l.toArray[i]? with
      | none => rw [ho] at h4; cases h4
      | some o => exact ⟨o, rfl⟩
    rw [hoi] at h4
    obtain ⟨v, hy, hK⟩ := yieldsIn_of_qOp hoi h
    have e : (i :: r).length + t.len = (r.length + t.len) + 1 := by rw [List.length_cons]; omega
    rw [e]
    have hir : i ∈ Region.ready md l.toArray listed := by simpa using h2
    exact wpAnyC_firstA hoi (by simpa using h4) (Region.noSelect_spec hs) h1 h5 (r.length + t.len) listed a w hcl (Region.free_spec hoi h3) hir hy hls hC
      (wpAnyC_schedB hs ht r _ _ w h6 (closed_set hcl hir) (by rw [getD_set_ne false h1]; exact hls) hC hK)
theorem softsB {l : List Oper} {s : Nat} {t : Br} {Q : Act → World → Prop} {w : World} : ∀ (is : List Nat) (a : Act), (∀ i ∈ is, i < l.length) →
    wpQuiet P l.toArray C (fun a' => wpBr P l C s Q t a' w) (pick l is) a → wpSchedB P l C s Q t is a w
  | [], _, _, h => h
  | i :: is, a, hl, h => by
    have hlt := hl i (List.mem_cons_self ..)
    have hi : l[i]? = some l[i] := List.getElem?_eq_getElem hlt
    have e : pick l (i :: is) = l[i] :: pick l is := nthC_some _ hi
    rw [e] at h
    show qOp P l.toArray C i _ a
    have hi' : l.toArray[i]? = some l[i] := by rw [List.getElem?_toArray]; exact hi
    unfold qOp
    simp only [hi']
    unfold wpQuiet at h
    split
    · rename_i hw
      rw [if_pos hw] at h
      exact Oper.quiet_mono (fun a' h' => softsB is a' (fun k hk => hl k (List.mem_cons_of_mem _ hk)) h') h
    · rename_i hw
      rw [if_neg hw] at h
      exact softsB is _ (fun k hk => hl k (List.mem_cons_of_mem _ hk)) h
def segsBB (l : List Oper) (s : Nat) (t : Br) (is : List Nat) : Bool :=
  Region.noSelect l.toArray && t.even && schedBB .any l.toArray s t is (Array.replicate l.length false) && (is.all fun i => decide (i < l.length)) && (is.length + t.len == l.length)
theorem wp_region_segsB {id : Nat} {Q : Exit → Act → World → Prop} {a : Act} {w : World} {l : List Oper} (s : Nat) (t : Br) (is : List Nat) (hm : P.follows .mixedOrders = true) (hB : segsBB l s t is = true)
    (h : ∀ K : Act → Prop, (∀ a', wpBr P l (fun w' => ∃ x : Lay, w' = more w x.os x.k) s (fun a' w' => Q .normal a' w') t a' w.drew → K a') → wpQuiet P l.toArray (fun w' => ∃ x : Lay, w' = more w x.os x.k) K (pick l is) a) : (Code.region id l.toArray true).wp P Q a w := by
  unfold segsBB at hB
  simp only [Bool.and_eq_true, List.all_eq_true, decide_eq_true_eq, beq_iff_eq] at hB
  obtain ⟨⟨⟨⟨h1, h2⟩, h3⟩, h4⟩, h5⟩ := hB
  refine wp_region_any hm (wpAny_of_C (C := fun w' => ∃ x : Lay, w' = more w x.os x.k) (s := s) _ _ _ _ ?_)
  have := wpAnyC_schedB (P := P) (Q := fun a' w' => Q .normal a' w') (C := fun w' => ∃ x : Lay, w' = more w x.os x.k) h1 h2 is (Array.replicate l.length false) a w.drew h3 (fun k o _ hk => by
    rw [Array.getD_eq_getD_getElem?, Array.getElem?_replicate] at hk
    split at hk <;> cases hk) (by
    rw [Array.getD_eq_getD_getElem?, Array.getElem?_replicate]
    split <;> rfl) ⟨⟨[], w.drawn + 1⟩, by rw [← more_drew, more_nil]⟩ (softsB is a h4 (h _ fun _ h' => h'))
  rw [h5] at this
  simpa using this
end
end Go.Proofs.Ytmgpofdmfmeljaa
