/- A region that draws its order: a tree of the orders, in which operations that read are taken as soon as they may. No program is named here. -/
import Derived.Test.YtmgpofdmfmeljaaTx
namespace Go.Proofs.Ytmgpofdmfmeljaa
open Go.RowKit

/-- the orders: an operation that reads is taken at once; another one alone; several may come up -/
inductive Bt where
  | fin : Bt
  | soft (i : Nat) (t : Bt) : Bt
  | step (i : Nat) (t : Bt) : Bt
  | two (a b : Bt) : Bt
def Bt.heads : Bt → List Nat
  | .fin => []
  | .soft _ _ => []
  | .step i _ => [i]
  | .two a b => a.heads ++ b.heads
def Bt.len : Bt → Nat
  | .fin => 0
  | .soft _ t => t.len + 1
  | .step _ t => t.len + 1
  | .two a _ => a.len
def Bt.even : Bt → Bool
  | .fin => true
  | .soft _ t => t.even
  | .step _ t => t.even
  | .two a b => a.even && b.even && (a.len == b.len) && !a.heads.isEmpty && !b.heads.isEmpty
section
variable {P : Program} {ops : Array Oper} {md : Region.Mode} {C : World → Prop}
theorem wpAnyC_firstN {s i : Nat} {oi : Oper} {v : Value} {Q : Act → World → Prop} (hi : ops[i]? = some oi) (hso : softOp oi = true) (hsel : ∀ (j : Nat) (o : Oper) cs b, ops[j]? = some o → o.op ≠ .select cs b) (his : i ≠ s)
    (hN : ∀ (listed : Array Bool) (j : Nat), ClosedL md ops listed → listed.getD i false = false → j ∈ Region.ready md ops listed → j ≠ s) :
    ∀ (fuel : Nat) (listed : Array Bool) (a : Act) (w : World), ClosedL md ops listed →
      (∀ j oj, ops[j]? = some oj → j ≠ i → listed.getD j true = false → (∀ e ∈ oj.after, Region.binds md e = true → e.on ≠ i) → oi.apart ops oj = true) →
      i ∈ Region.ready md ops listed → YieldsIn P ops C oi v a → listed.getD s false = false → C w →
      wpAnyC P md ops C s Q fuel (listed.setIfInBounds i true) (a.put oi.dst v) w → wpAnyC P md ops C s Q (fuel + 1) listed a w := by
  intro fuel
  induction fuel with
  | zero =>
    intro listed a w _ _ hr hy hls hC H
    refine ⟨fun _ => hC, fun h => (by rw [h] at hr; cases hr), fun j hj => ?_⟩
    by_cases hji : j = i
    · subst hji
      exact wpOp_of_soft hi hso hy hC H
    · have := ready_mono hj hji
      rw [H.2.1] at this
      cases this
  | succ fuel ih =>
    intro listed a w hcl hfree hr hy hls hC H
    refine ⟨fun _ => hC, fun h => (by rw [h] at hr; cases hr), fun j hj => ?_⟩
    by_cases hji : j = i
    · subst hji
      exact wpOp_of_soft hi hso hy hC H
    · have h1 := H.2.2 j (ready_mono hj hji)
      obtain ⟨hjun, oj, hoj, hall⟩ := mem_ready.1 hj
      have hil : listed.getD i false = false := by
        have h0 := (mem_ready.1 hr).1
        rcases Nat.lt_or_ge i listed.size with h' | h'
        · simp [h'] at h0 ⊢; exact h0
        · simp [Array.getElem?_eq_none h'] at h0
      have hnot : ∀ e ∈ oj.after, Region.binds md e = true → e.on ≠ i := fun e he hb heq => by
        have h1 := hall e he hb
        rw [heq, hil] at h1
        cases h1
      have hjs : j ≠ s := hN listed j hcl hil hj
      have h2 := wpOpC_put hoj (hfree j oj hoj hji hjun hnot) (fun cs b => hsel i oi cs b hi) (fun cs b => hsel j oj cs b hoj) hy h1
      have hfree' : ∀ k ok, ops[k]? = some ok → k ≠ i → (listed.setIfInBounds j true).getD k true = false →
          (∀ e ∈ ok.after, Region.binds md e = true → e.on ≠ i) → oi.apart ops ok = true := fun k ok hk hki hun hno => by
        refine hfree k ok hk hki ?_ hno
        by_cases hjk : j = k
        · subst hjk; exact hjun
        · rw [getD_set_ne true hjk] at hun; exact hun
      refine wpOp_mono (fun a' w' h3 => ?_) h2
      have hs1 : (listed.setIfInBounds j true).getD s false = false := by rw [getD_set_ne false hjs]; exact hls
      have hcomm : (listed.setIfInBounds j true).setIfInBounds i true = (listed.setIfInBounds i true).setIfInBounds j true := Array.setIfInBounds_comm _ _ hji
      refine ih (listed.setIfInBounds j true) a' w' (closed_set hcl hj) hfree' (ready_mono hr (Ne.symm hji)) h3.1 hs1 (h3.2.cls (by rw [← hcomm, getD_set_ne false his]; exact hs1)) ?_
      rw [hcomm]
      exact h3.2
/-- s is no operation, or waits for i -/
def waitB (md : Region.Mode) (ops : Array Oper) (s i : Nat) : Bool := decide (ops.size ≤ s) || ancB md ops ops.size s i
theorem wait_ne {s i : Nat} (h : waitB md ops s i = true) (listed : Array Bool) (j : Nat) (hcl : ClosedL md ops listed) (hil : listed.getD i false = false) (hj : j ∈ Region.ready md ops listed) : j ≠ s := by
  rintro rfl
  obtain ⟨_, oj, hoj, hall⟩ := mem_ready.1 hj
  rcases Bool.or_eq_true _ _ ▸ h with h | h
  · have h1 := of_decide_eq_true h
    rw [Array.getElem?_eq_none h1] at hoj
    cases hoj
  · have := anc_listed hcl ops.size j i h fun o ho e he hb => by
      rw [hoj] at ho
      cases ho
      exact hall e he hb
    rw [hil] at this
    cases this
def btB (md : Region.Mode) (ops : Array Oper) (s : Nat) : Bool → Bt → Array Bool → Bool
  | top, .fin, listed => !top || (Region.ready md ops listed == [])
  | top, .soft i t, listed => top && (listed.getD s false == false) && i != s && (Region.ready md ops listed).contains i && Region.free md ops listed i && ((ops[i]?).map softOp).getD false && waitB md ops s i && btB md ops s true t (listed.setIfInBounds i true)
  | top, .step i t, listed => (!top || (Region.ready md ops listed == [i])) && decide (i < ops.size) && decide (i < listed.size) && btB md ops s true t (listed.setIfInBounds i true)
  | top, .two a b, listed => (!top || (Region.ready md ops listed == a.heads ++ b.heads)) && btB md ops s false a listed && btB md ops s false b listed
/-- the walk of a tree of orders -/
def wpBt (P : Program) (l : List Oper) (C : World → Prop) (s : Nat) (Q : Act → World → Prop) : Bt → Act → World → Prop
  | .fin, a, w => Q a w
  | .soft i t, a, w => wpQuiet P l.toArray C (fun a' => wpBt P l C s Q t a' w) (pick l [i]) a
  | .step i t, a, w => wpList P l.toArray (segQ C i s (wpBt P l C s Q t)) (pick l [i]) a w
  | .two t u, a, w => wpBt P l C s Q t a w ∧ wpBt P l C s Q u a w
theorem isEmpty_ne {l : List Nat} (h : (!l.isEmpty) = true) : l ≠ [] := by
  rintro rfl
  cases h
theorem bt_all {l : List Oper} {s : Nat} {Q : Act → World → Prop} (hns : Region.noSelect l.toArray = true) : ∀ (t : Bt),
    (∀ (listed : Array Bool) (a : Act) (w : World), t.even = true → btB md l.toArray s true t listed = true → ClosedL md l.toArray listed → (listed.getD s false = false → C w) → wpBt P l C s Q t a w → wpAnyC P md l.toArray C s Q t.len listed a w) ∧
    (∀ (top : Bool) (listed : Array Bool) (a : Act) (w : World) (n : Nat), t.even = true → t.len = n + 1 → btB md l.toArray s top t listed = true → ClosedL md l.toArray listed → (∀ j ∈ t.heads, j ∈ Region.ready md l.toArray listed) → wpBt P l C s Q t a w → ∀ j ∈ t.heads, wpOp P l.toArray QN j (wpAnyC P md l.toArray C s Q n (listed.setIfInBounds j true)) a w)
  | .fin => ⟨fun listed a w _ hB _ hC h => by
      simp only [btB, Bool.not_true, Bool.false_or, beq_iff_eq] at hB
      exact ⟨hC, hB, h⟩, fun top listed a w n _ hl => by cases hl⟩
  | .soft i t => by
    have ih := (bt_all (Q := Q) (s := s) hns t).1
    refine ⟨fun listed a w he hB hcl hC h => ?_, fun top listed a w n _ _ _ _ _ _ j hj => by cases hj⟩
    simp only [btB, Bool.true_and, Bool.and_eq_true, beq_iff_eq, bne_iff_ne, ne_eq] at hB
    obtain ⟨⟨⟨⟨⟨⟨hls, h1⟩, h2⟩, h3⟩, h4⟩, h5⟩, h6⟩ := hB
    obtain ⟨oi, hoi⟩ : ∃ o, l.toArray[i]? = some o := by
      cases ho : l.toArray[i]? with
      | none => rw [ho] at h4; cases h4
      | some o => exact ⟨o, rfl⟩
    rw [hoi] at h4
    have hq : qOp P l.toArray C i (fun a' => wpBt P l C s Q t a' w) a := by
      have h' : wpQuiet P l.toArray C (fun a' => wpBt P l C s Q t a' w) (pick l [i]) a := h
      have hi : l[i]? = some oi := by rw [← hoi, List.getElem?_toArray]
      have e : pick l [i] = [oi] := nthC_some _ hi
      rw [e] at h'
      unfold qOp
      simp only [hoi]
      unfold wpQuiet at h'
      split
      · rename_i hw
        rw [if_pos hw] at h'
        exact Oper.quiet_mono (fun a' h'' => h'') h'
      · rename_i hw
        rw [if_neg hw] at h'
        exact h'
    obtain ⟨v, hy, hK⟩ := yieldsIn_of_qOp hoi hq
    have hir : i ∈ Region.ready md l.toArray listed := by simpa using h2
    exact wpAnyC_firstN hoi (by simpa using h4) (Region.noSelect_spec hns) h1 (wait_ne h5) t.len listed a w hcl (Region.free_spec hoi h3) hir hy hls (hC hls)
      (ih _ _ _ he h6 (closed_set hcl hir) (fun _ => hC hls) hK)
  | .step i t => by
    have ih := (bt_all (Q := Q) (s := s) hns t).1
    have K2 : ∀ (top : Bool) (listed : Array Bool) (a : Act) (w : World) (n : Nat), (Bt.step i t).even = true → (Bt.step i t).len = n + 1 → btB md l.toArray s top (.step i t) listed = true → ClosedL md l.toArray listed → (∀ j ∈ (Bt.step i t).heads, j ∈ Region.ready md l.toArray listed) → wpBt P l C s Q (.step i t) a w → ∀ j ∈ (Bt.step i t).heads, wpOp P l.toArray QN j (wpAnyC P md l.toArray C s Q n (listed.setIfInBounds j true)) a w := by
      intro top listed a w n he hl hB hcl hrd h j hj
      have hjr := hrd j hj
      obtain rfl : j = i := List.mem_singleton.1 hj
      simp only [btB, Bool.and_eq_true, decide_eq_true_eq] at hB
      obtain rfl : t.len = n := by simpa [Bt.len] using hl
      refine wpOp_mono (fun a' w' hh => ih _ a' w' he hB.2 (closed_set hcl hjr) (fun h0 => ?_) hh.2) (wpOp_of_list (by simpa using hB.1.1.2) h)
      refine hh.1 fun hjs => ?_
      subst hjs
      have := hB.1.2
      simp [this] at h0
    refine ⟨fun listed a w he hB hcl hC h => ⟨hC, fun h0 => ?_, fun j hj => ?_⟩, K2⟩
    · simp only [btB, Bool.not_true, Bool.false_or, Bool.and_eq_true, beq_iff_eq] at hB
      rw [hB.1.1.1] at h0
      cases h0
    · have hB' := hB
      simp only [btB, Bool.not_true, Bool.false_or, Bool.and_eq_true, beq_iff_eq] at hB'
      have hj' := hj
      rw [hB'.1.1.1] at hj
      exact K2 true listed a w t.len he rfl hB hcl (fun k hk => by rw [hB'.1.1.1]; exact hk) h j hj
  | .two t u => by
    have iht := (bt_all (Q := Q) (s := s) hns t).2
    have ihu := (bt_all (Q := Q) (s := s) hns u).2
    have K2 : ∀ (top : Bool) (listed : Array Bool) (a : Act) (w : World) (n : Nat), (Bt.two t u).even = true → (Bt.two t u).len = n + 1 → btB md l.toArray s top (.two t u) listed = true → ClosedL md l.toArray listed → (∀ j ∈ (Bt.two t u).heads, j ∈ Region.ready md l.toArray listed) → wpBt P l C s Q (.two t u) a w → ∀ j ∈ (Bt.two t u).heads, wpOp P l.toArray QN j (wpAnyC P md l.toArray C s Q n (listed.setIfInBounds j true)) a w := by
      intro top listed a w n he hl hB hcl hrd h j hj
      simp only [btB, Bool.and_eq_true] at hB
      simp only [Bt.even, Bool.and_eq_true, beq_iff_eq] at he
      have hl' : t.len = n + 1 := hl
      rcases List.mem_append.1 hj with hj | hj
      · exact iht false listed a w n he.1.1.1.1 hl' hB.1.2 hcl (fun k hk => hrd k (List.mem_append_left _ hk)) h.1 j hj
      · exact ihu false listed a w n he.1.1.1.2 (he.1.1.2 ▸ hl') hB.2 hcl (fun k hk => hrd k (List.mem_append_right _ hk)) h.2 j hj
    refine ⟨fun listed a w he hB hcl hC h => ?_, K2⟩
    have he' := he
    simp only [Bt.even, Bool.and_eq_true, beq_iff_eq] at he'
    have hne := isEmpty_ne he'.1.2
    obtain ⟨n, hn⟩ : ∃ n, t.len = n + 1 := by
      cases t with
      | fin => exact absurd rfl hne
      | soft i t => exact absurd rfl hne
      | step i t => exact ⟨_, rfl⟩
      | two a b =>
        refine ⟨(Bt.two a b).len - 1, ?_⟩
        have key : ∀ x : Bt, x.even = true → x.heads ≠ [] → x.len ≠ 0 := by
          intro x
          induction x with
          | fin => intro _ h; exact absurd rfl h
          | soft i t _ => intro _ h; exact absurd rfl h
          | step i t _ => intro _ _ h; cases h
          | two a b iha _ =>
            intro hx _ h0
            simp only [Bt.even, Bool.and_eq_true, beq_iff_eq] at hx
            exact iha hx.1.1.1.1 (isEmpty_ne hx.1.2) h0
        have := key _ he'.1.1.1.1 hne
        omega
    have hB' := hB
    simp only [btB, Bool.not_true, Bool.false_or, Bool.and_eq_true, beq_iff_eq] at hB'
    show wpAnyC P md l.toArray C s Q t.len listed a w
    rw [hn]
    refine ⟨hC, fun h0 => ?_, fun j hj => ?_⟩
    · rw [hB'.1.1] at h0
      exact absurd (List.append_eq_nil_iff.1 h0).1 hne
    · have hj' := hj
      rw [hB'.1.1] at hj
      exact K2 true listed a w n he hn hB hcl (fun k hk => by rw [hB'.1.1]; exact hk) h j hj
def btOkB (l : List Oper) (s : Nat) (t : Bt) : Bool :=
  Region.noSelect l.toArray && t.even && btB .any l.toArray s true t (Array.replicate l.length false) && (t.len == l.length)
theorem wp_region_bt {id : Nat} {Q : Exit → Act → World → Prop} {a : Act} {w : World} {l : List Oper} (s : Nat) (t : Bt) (hm : P.follows .mixedOrders = true) (hB : btOkB l s t = true)
    (h : wpBt P l (fun w' => ∃ x : Lay, w' = more w x.os x.k) s (fun a' w' => Q .normal a' w') t a w.drew) : (Code.region id l.toArray true).wp P Q a w := by
  unfold btOkB at hB
  simp only [Bool.and_eq_true, beq_iff_eq] at hB
  obtain ⟨⟨⟨h1, h2⟩, h3⟩, h5⟩ := hB
  refine wp_region_any hm (wpAny_of_C (C := fun w' => ∃ x : Lay, w' = more w x.os x.k) (s := s) _ _ _ _ ?_)
  have := (bt_all (P := P) (md := .any) (Q := fun a' w' => Q .normal a' w') (C := fun w' => ∃ x : Lay, w' = more w x.os x.k) (s := s) h1 t).1 (Array.replicate l.length false) a w.drew h2 h3 (fun k o _ hk => by
    rw [Array.getD_eq_getD_getElem?, Array.getElem?_replicate] at hk
    split at hk <;> cases hk) (fun _ => ⟨⟨[], w.drawn + 1⟩, by rw [← more_drew, more_nil]⟩) h
  rw [h5] at this
  simpa using this
/-- the same, over any class of worlds -/
theorem wp_region_btC {T : Type} (f : T → World) {id : Nat} {Q : Exit → Act → World → Prop} {a : Act} {w : World} {l : List Oper} (s : Nat) (t : Bt) (hm : P.follows .mixedOrders = true) (hB : btOkB l s t = true) (h0 : ∃ x : T, w.drew = f x)
    (h : wpBt P l (fun w' => ∃ x : T, w' = f x) s (fun a' w' => Q .normal a' w') t a w.drew) : (Code.region id l.toArray true).wp P Q a w := by
  unfold btOkB at hB
  simp only [Bool.and_eq_true, beq_iff_eq] at hB
  obtain ⟨⟨⟨h1, h2⟩, h3⟩, h5⟩ := hB
  refine wp_region_any hm (wpAny_of_C (C := fun w' => ∃ x : T, w' = f x) (s := s) _ _ _ _ ?_)
  have := (bt_all (P := P) (md := .any) (Q := fun a' w' => Q .normal a' w') (C := fun w' => ∃ x : T, w' = f x) (s := s) h1 t).1 (Array.replicate l.length false) a w.drew h2 h3 (fun k o _ hk => by
    rw [Array.getD_eq_getD_getElem?, Array.getElem?_replicate] at hk
    split at hk <;> cases hk) (fun _ => h0) h
  rw [h5] at this
  simpa using this
/-- the walk of a tree, a node at a time -/
theorem bt_soft {l : List Oper} {s i : Nat} {Q : Act → World → Prop} {t : Bt} {a : Act} {w : World} (hh : ∀ K : Act → Prop, (∀ a', wpBt P l C s Q t a' w → K a') → wpQuiet P l.toArray C K (pick l [i]) a) : wpBt P l C s Q (.soft i t) a w := hh _ fun _ h => h
/-- some that read, then the rest -/
def softs_bt : List Nat → Bt → Bt
  | [], t => t
  | i :: r, t => .soft i (softs_bt r t)
theorem nthC_none : ∀ {l : List Oper} {i : Nat} (acc : List Oper), l[i]? = none → nthC l i acc = acc
  | [], _, _, _ => rfl
  | o :: _, 0, _, h => by simp at h
  | _ :: l, i + 1, acc, h => nthC_none (l := l) acc (by simpa using h)
theorem bt_softs' {l : List Oper} {s : Nat} {Q : Act → World → Prop} {t : Bt} {w : World} : ∀ (is : List Nat) (a : Act), wpQuiet P l.toArray C (fun a' => wpBt P l C s Q t a' w) (pick l is) a → wpBt P l C s Q (softs_bt is t) a w
  | [], _, h => h
  | i :: is, a, h => by
    show wpQuiet P l.toArray C (fun a' => wpBt P l C s Q (softs_bt is t) a' w) (pick l [i]) a
    have h' : wpQuiet P l.toArray C (fun a' => wpBt P l C s Q t a' w) (nthC l i (pick l is)) a := h
    cases hi : l[i]? with
    | none =>
      rw [nthC_none _ hi] at h'
      have e : pick l [i] = [] := nthC_none _ hi
      rw [e]
      exact bt_softs' is a h'
    | some o =>
      rw [nthC_some _ hi] at h'
      have e : pick l [i] = [o] := nthC_some _ hi
      rw [e]
      unfold wpQuiet at h' ⊢
      split
      · rename_i hw
        rw [if_pos hw] at h'
        exact Oper.quiet_mono (fun a' h'' => bt_softs' is a' h'') h'
      · rename_i hw
        rw [if_neg hw] at h'
        exact bt_softs' is _ h'
theorem bt_softs {l : List Oper} {s : Nat} {Q : Act → World → Prop} {t : Bt} {a : Act} {w : World} (is : List Nat) (hh : ∀ K : Act → Prop, (∀ a', wpBt P l C s Q t a' w → K a') → wpQuiet P l.toArray C K (pick l is) a) : wpBt P l C s Q (softs_bt is t) a w :=
  bt_softs' is a (hh _ fun _ h => h)
theorem bt_step {l : List Oper} {s i : Nat} {Q : Act → World → Prop} {t : Bt} {a : Act} {w : World} (hh : ∀ next : Act → World → Prop, (∀ a w, wpBt P l C s Q t a w → next a w) → wpList P l.toArray (segQ C i s next) (pick l [i]) a w) : wpBt P l C s Q (.step i t) a w := hh _ fun _ _ h => h
theorem bt_fin {l : List Oper} {s : Nat} {Q : Act → World → Prop} {a : Act} {w : World} (h : Q a w) : wpBt P l C s Q .fin a w := h
end
end Go.Proofs.Ytmgpofdmfmeljaa
