/- TgTargetCalls: texts that the proof rests on, part 1. -/
import Derived.Test.YthpmncdfaggkiaaGreatCr1
import Derived.Test.YthpmncdfaggkiaaGreatCr10
import Derived.Test.YthpmncdfaggkiaaGreatCr11
import Derived.Test.YthpmncdfaggkiaaGreatCr2
import Derived.Test.YthpmncdfaggkiaaGreatCr3
import Derived.Test.YthpmncdfaggkiaaGreatCr5
import Derived.Test.YthpmncdfaggkiaaGreatCr6
import Derived.Test.YthpmncdfaggkiaaGreatCr7
import Derived.Test.YthpmncdfaggkiaaGreatCr8
import Derived.Test.YthpmncdfaggkiaaGreatCr9
import Derived.Test.YthpmncdfaggkiaaGreatTg1
import Derived.Test.YthpmncdfaggkiaaGreatTg2
import Derived.WalkKit
import Derived.Handy
import Derived.Deep.Draws
import Derived.BigQuiet
import Derived.Lib.Hide
import Derived.Maps.AppendAt
import Derived.Deep.AppendLies
import Derived.RegionTactic
import Derived.OwnWalk
import Derived.Laws.OwnMore
import Derived.RangeFuncNested
import Derived.RangeFuncBound
import Derived.RangeFuncCalls
import Derived.RangeFuncLeaves
import Derived.RangeFuncRecord
import Derived.RangeFuncIn
import Derived.Sort.QuietThIn
import Derived.Orders
import Derived.Deep.Quiet
import Derived.Test.YthpmncdfaggkiaaGreatChecked
import Derived.WalkSpells
import Derived.WalkLawsBesides
import Derived.BigRegion
import Derived.Deep.RegionWith
import Derived.Deep.QuietTactic
import Derived.Deep.DeepCutAuto
import Derived.Deep.RegionHeld3
import Derived.Deep.RegionLaw
import Derived.Test.YthpmncdfaggkiaaGreatRows
import Derived.OwnWalkIn
import Derived.TacticsInMore
import Derived.LoopNIn
import Derived.LoopIn
import Derived.Deep.LoopGhost
import Derived.Laws.EntriesVeiled
import Derived.Shelf.Abstract
import Derived.Deep.OwnRows
import Derived.Lib.AppendZeros
import Derived.Laws.BitsAllLaws
import Derived.Laws.Closers25b
namespace Go.Proofs.YthpmncdfaggkiaaGreat
open Go.RowKit
theorem wp_region_ext {P : Program} {id : Nat} {Q : Exit → Act → World → Prop} {a : Act} {w : World} {l : List Oper} (hm : P.follows .mixedOrders = true) (hB : Region.lexB .any l.toArray = true)
    (h : wpQuiet P l.toArray (fun w' => ∃ x : Lay, w' = more w x.os x.k) (fun a' => ∀ w', (∃ x : Lay, w' = more w x.os x.k) → Q .normal a' w') l a) : (Code.region id l.toArray true).wp P Q a w :=
  wp_region_quiet (C := fun w' => ∃ x : Lay, w' = more w x.os x.k) hm hB ⟨⟨[], w.drawn + 1⟩, by simp [more]⟩ (by simpa using h)
theorem calls_ext {P : Program} {f : FuncId} {args : Array Value} {w : World} {x : Lay} {v : Value}
    (h : Calls P f args (more w x.os x.k) fun e w' => e = .returned v ∧ Ext (more w x.os x.k) w') : Calls P f args (more w x.os x.k) fun e w'' => e = .returned v ∧ ∃ y : Lay, w'' = more w y.os y.k :=
  h.mono fun _ _ ⟨he, os, k, hw⟩ => ⟨he, ⟨x.os ++ os, k⟩, by rw [hw, more_more]⟩
theorem calls_ext_same {P : Program} {f : FuncId} {args : Array Value} {w : World} {x : Lay} {v : Value}
    (h : Calls P f args (more w x.os x.k) fun e w' => e = .returned v ∧ more w x.os x.k = w') : Calls P f args (more w x.os x.k) fun e w'' => e = .returned v ∧ ∃ y : Lay, w'' = more w y.os y.k :=
  h.mono fun _ _ ⟨he, hw⟩ => ⟨he, x, hw.symm⟩



variable {P : Program}
section
variable {P : Program} {ops : Array Oper} {md : Region.Mode} {C : World → Prop}
theorem ready_getD_false' {listed : Array Bool} {j : Nat} (hj : j ∈ Region.ready md ops listed) : j < listed.size ∧ listed.getD j false = false := by
  have h := (mem_ready.1 hj).1
  rcases Nat.lt_or_ge j listed.size with hlt | hge
  · refine ⟨hlt, ?_⟩
    simp [hlt] at h ⊢
    exact h
  · simp [Array.getElem?_eq_none hge] at h
theorem wpAnyC_first {s i : Nat} {oi : Oper} {v : Value} {Q : Act → World → Prop} (hi : ops[i]? = some oi) (hso : softOp oi = true) (hsel : ∀ (j : Nat) (o : Oper) cs b, ops[j]? = some o → o.op ≠ .select cs b) (his : i ≠ s)
    (hsw : ∀ os, ops[s]? = some os → ∃ e ∈ os.after, Region.binds md e = true ∧ e.on = i) :
    ∀ (fuel : Nat) (listed : Array Bool) (a : Act) (w : World),
      (∀ j oj, ops[j]? = some oj → j ≠ i → listed.getD j true = false → (∀ e ∈ oj.after, Region.binds md e = true → e.on ≠ i) → oi.apart ops oj = true) →
      i ∈ Region.ready md ops listed → YieldsIn P ops C oi v a → listed.getD s false = false → C w →
      wpAnyC P md ops C s Q fuel (listed.setIfInBounds i true) (a.put oi.dst v) w → wpAnyC P md ops C s Q (fuel + 1) listed a w := by
  intro fuel
  induction fuel with
  | zero =>
    intro listed a w _ hr hy hls hC H
    refine ⟨fun _ => hC, fun h => (by rw [h] at hr; cases hr), fun j hj => ?_⟩
    by_cases hji : j = i
    · subst hji
      exact wpOp_of_soft hi hso hy hC H
    · have := ready_mono hj hji
      rw [H.2.1] at this
      cases this
  | succ fuel ih =>
    intro listed a w hfree hr hy hls hC H
    refine ⟨fun _ => hC, fun h => (by rw [h] at hr; cases hr), fun j hj => ?_⟩
    by_cases hji : j = i
    · subst hji
      exact wpOp_of_soft hi hso hy hC H
    · have h1 := H.2.2 j (ready_mono hj hji)
      obtain ⟨hjun, oj, hoj, hall⟩ := mem_ready.1 hj
      have hil : listed.getD i false = false := by
        have h0 := (mem_ready.1 hr).1
        rcases Nat.lt_or_ge i listed.size with h' | h'
        · simp [h'] at h0 ⊢; exact h0
        · simp [Array.getElem?_eq_none h'] at h0
      have hnot : ∀ e ∈ oj.after, Region.binds md e = true → e.on ≠ i := fun e he hb heq => by
        have h1 := hall e he hb
        rw [heq, hil] at h1
        cases h1
      have hjs : j ≠ s := by
        rintro rfl
        obtain ⟨e, he, hb, heq⟩ := hsw oj hoj
        exact hnot e he hb heq
      have h2 := wpOpC_put hoj (hfree j oj hoj hji hjun hnot) (fun cs b => hsel i oi cs b hi) (fun cs b => hsel j oj cs b hoj) hy h1
      have hfree' : ∀ k ok, ops[k]? = some ok → k ≠ i → (listed.setIfInBounds j true).getD k true = false →
          (∀ e ∈ ok.after, Region.binds md e = true → e.on ≠ i) → oi.apart ops ok = true := fun k ok hk hki hun hno => by
        refine hfree k ok hk hki ?_ hno
        by_cases hjk : j = k
        · subst hjk; exact hjun
        · rw [getD_set_ne true hjk] at hun; exact hun
      refine wpOp_mono (fun a' w' h3 => ?_) h2
      have hs1 : (listed.setIfInBounds j true).getD s false = false := by rw [getD_set_ne false hjs]; exact hls
      have hcomm : (listed.setIfInBounds j true).setIfInBounds i true = (listed.setIfInBounds i true).setIfInBounds j true := Array.setIfInBounds_comm _ _ hji
      refine ih (listed.setIfInBounds j true) a' w' hfree' (ready_mono hr (Ne.symm hji)) h3.1 hs1 (h3.2.cls (by rw [← hcomm, getD_set_ne false his]; exact hs1)) ?_
      rw [hcomm]
      exact h3.2
def wpSched (P : Program) (ops : Array Oper) (C : World → Prop) (s : Nat) (Q : Act → World → Prop) : List (Bool × Nat) → Act → World → Prop
  | [], a, w => Q a w
  | (true, i) :: r, a, w => qOp P ops C i (fun a' => wpSched P ops C s Q r a' w) a
  | (false, i) :: r, a, w => wpOp P ops QN i (fun a' w' => (i ≠ s → C w') ∧ wpSched P ops C s Q r a' w') a w
def schedB (md : Region.Mode) (ops : Array Oper) (s : Nat) : List (Bool × Nat) → Array Bool → Bool
  | [], listed => (Region.ready md ops listed).isEmpty
  | (true, i) :: r, listed => i != s && (Region.ready md ops listed).contains i && Region.free md ops listed i && ((ops[i]?).map softOp).getD false &&
    (match ops[s]? with | none => true | some os => os.after.any fun e => Region.binds md e && e.on == i) && schedB md ops s r (listed.setIfInBounds i true)
  | (false, i) :: r, listed => (Region.ready md ops listed == [i]) && (i != s || r.isEmpty) && schedB md ops s r (listed.setIfInBounds i true)
theorem wpAnyC_sched {s : Nat} {Q : Act → World → Prop} (hs : Region.noSelect ops = true) : ∀ (l : List (Bool × Nat)) (listed : Array Bool) (a : Act) (w : World), schedB md ops s l listed = true → listed.getD s false = false → C w →
    wpSched P ops C s Q l a w → wpAnyC P md ops C s Q l.length listed a w
  | [], listed, a, w, hB, _, hC, h => ⟨fun _ => hC, by simpa [schedB] using hB, h⟩
  | (true, i) :: r, listed, a, w, hB, hls, hC, h => by
    simp only [schedB, Bool.and_eq_true, bne_iff_ne, ne_eq] at hB
    obtain ⟨⟨⟨⟨⟨h1, h2⟩, h3⟩, h4⟩, h5⟩, h6⟩ := hB
    obtain ⟨oi, hoi⟩ : ∃ o, ops[i]? = some o := by
      cases ho : ops[i]? with
      | none => rw [ho] at h4; cases h4
      | some o => exact ⟨o, rfl⟩
    rw [hoi] at h4
    obtain ⟨v, hy, hK⟩ := yieldsIn_of_qOp hoi h
    refine wpAnyC_first hoi (by simpa using h4) (Region.noSelect_spec hs) h1 (fun os ho => ?_) r.length listed a w (Region.free_spec hoi h3) (by simpa using h2) hy hls hC
      (wpAnyC_sched hs r _ _ w h6 (by rw [getD_set_ne false h1]; exact hls) hC hK)
    rw [ho] at h5
    obtain ⟨e, he, hb⟩ := Array.any_eq_true'.1 h5
    simp only [Bool.and_eq_true, beq_iff_eq] at hb
    exact ⟨e, he, hb.1, hb.2⟩
  | (false, i) :: r, listed, a, w, hB, hls, hC, h => by
    simp only [schedB, Bool.and_eq_true, beq_iff_eq, Bool.or_eq_true, bne_iff_ne, ne_eq] at hB
    obtain ⟨⟨h1, h2⟩, h3⟩ := hB
    refine ⟨fun _ => hC, fun h0 => (by rw [h1] at h0; cases h0), fun j hj => ?_⟩
    rw [h1] at hj
    obtain rfl := List.mem_singleton.1 hj
    have hji : j ∈ Region.ready md ops listed := by rw [h1]; exact List.mem_singleton.2 rfl
    refine wpOp_mono (fun a' w' hh => ?_) h
    by_cases hjs : j = s
    · subst hjs
      have hr : r = [] := by simpa using h2
      subst hr
      refine ⟨fun h0 => ?_, by simpa [schedB] using h3, hh.2⟩
      obtain ⟨hlt, _⟩ := ready_getD_false' hji
      simp [hlt] at h0
    · exact wpAnyC_sched hs r _ a' w' h3 (by rw [getD_set_ne false hjs]; exact hls) (hh.1 hjs) hh.2
end
section
variable {P : Program} {C : World → Prop}
theorem wpQuiet_mono' {ops : Array Oper} {Q Q' : Act → Prop} (h : ∀ a, Q a → Q' a) : ∀ (l : List Oper) (a : Act), wpQuiet P ops C Q l a → wpQuiet P ops C Q' l a
  | [], _, hh => h _ hh
  | o :: l, a, hh => by
    unfold wpQuiet at hh ⊢
    split
    · rename_i hw
      rw [if_pos hw] at hh
      exact Oper.quiet_mono (fun a' h' => wpQuiet_mono' h l a' h') hh
    · rename_i hw
      rw [if_neg hw] at hh
      exact wpQuiet_mono' h l _ hh
theorem pick_nil (l : List Oper) : pick l [] = [] := rfl
def wpSegs (P : Program) (l : List Oper) (C : World → Prop) (s : Nat) (Q : Act → World → Prop) : List (List Nat × Nat) → List Nat → Act → World → Prop
  | [], fin, a, w => wpQuiet P l.toArray C (fun a' => Q a' w) (pick l fin) a
  | (is, h) :: r, fin, a, w => wpQuiet P l.toArray C (fun a' => wpList P l.toArray (segQ C h s (wpSegs P l C s Q r fin)) (pick l [h]) a' w) (pick l is) a
def segItems : List (List Nat × Nat) → List Nat → List (Bool × Nat)
  | [], fin => fin.map fun i => (true, i)
  | (is, h) :: r, fin => (is.map fun i => (true, i)) ++ (false, h) :: segItems r fin
theorem sched_softs {l : List Oper} {s : Nat} {Q : Act → World → Prop} {r : List (Bool × Nat)} {w : World} : ∀ (is : List Nat) (a : Act), (∀ i ∈ is, i < l.length) →
    wpQuiet P l.toArray C (fun a' => wpSched P l.toArray C s Q r a' w) (pick l is) a → wpSched P l.toArray C s Q ((is.map fun i => (true, i)) ++ r) a w
  | [], _, _, h => h
  | i :: is, a, hl, h => by
    have hlt := hl i (List.mem_cons_self ..)
    have hi : l[i]? = some l[i] := List.getElem?_eq_getElem hlt
    have e : pick l (i :: is) = l[i] :: pick l is := nthC_some _ hi
    rw [e] at h
    show qOp P l.toArray C i _ a
    have hi' : l.toArray[i]? = some l[i] := by rw [List.getElem?_toArray]; exact hi
    unfold qOp
    simp only [hi']
    unfold wpQuiet at h
    split
    · rename_i hw
      rw [if_pos hw] at h
      exact Oper.quiet_mono (fun a' h' => sched_softs is a' (fun k hk => hl k (List.mem_cons_of_mem _ hk)) h') h
    · rename_i hw
      rw [if_neg hw] at h
      exact sched_softs is _ (fun k hk => hl k (List.mem_cons_of_mem _ hk)) h
theorem sched_segs {l : List Oper} {s : Nat} {Q : Act → World → Prop} {fin : List Nat} (hf : ∀ i ∈ fin, i < l.length) : ∀ (segs : List (List Nat × Nat)) (a : Act) (w : World), (∀ x ∈ segs, (∀ i ∈ x.1, i < l.length) ∧ x.2 < l.length) →
    wpSegs P l C s Q segs fin a w → wpSched P l.toArray C s Q (segItems segs fin) a w
  | [], a, w, _, h => by
    have := sched_softs (s := s) (Q := Q) (r := []) (w := w) fin a hf h
    simpa [segItems] using this
  | (is, hh) :: r, a, w, hl, h => by
    obtain ⟨h1, h2⟩ := hl _ (List.mem_cons_self ..)
    refine sched_softs is a h1 (wpQuiet_mono' (fun a' h' => ?_) (pick l is) a h)
    exact wpOp_mono (fun a2 w2 hx => ⟨hx.1, sched_segs hf r a2 w2 (fun x hx' => hl x (List.mem_cons_of_mem _ hx')) hx.2⟩) (wpOp_of_list h2 h')
def segsB (l : List Oper) (s : Nat) (segs : List (List Nat × Nat)) (fin : List Nat) : Bool :=
  Region.noSelect l.toArray && schedB .any l.toArray s (segItems segs fin) (Array.replicate l.length false) && (segs.all fun x => (x.1.all fun i => decide (i < l.length)) && decide (x.2 < l.length)) && (fin.all fun i => decide (i < l.length)) && ((segItems segs fin).length == l.length)
theorem wp_region_segs {id : Nat} {Q : Exit → Act → World → Prop} {a : Act} {w : World} {l : List Oper} (s : Nat) (segs : List (List Nat × Nat)) (fin : List Nat) (hm : P.follows .mixedOrders = true) (hB : segsB l s segs fin = true)
    (h : wpSegs P l (fun w' => ∃ x : Lay, w' = more w x.os x.k) s (fun a' w' => Q .normal a' w') segs fin a w.drew) : (Code.region id l.toArray true).wp P Q a w := by
  unfold segsB at hB
  simp only [Bool.and_eq_true, List.all_eq_true, decide_eq_true_eq, beq_iff_eq] at hB
  obtain ⟨⟨⟨⟨h1, h2⟩, h3⟩, h4⟩, h5⟩ := hB
  refine wp_region_any hm (wpAny_of_C (C := fun w' => ∃ x : Lay, w' = more w x.os x.k) (s := s) _ _ _ _ ?_)
  have := wpAnyC_sched (Q := fun a' w' => Q .normal a' w') (C := fun w' => ∃ x : Lay, w' = more w x.os x.k) h1 (segItems segs fin) (Array.replicate l.length false) a w.drew h2 (by
    rw [Array.getD_eq_getD_getElem?, Array.getElem?_replicate]
    split <;> rfl) ⟨⟨[], w.drawn + 1⟩, by rw [← more_drew, more_nil]⟩ (sched_segs h4 segs a w.drew h3 h)
  rw [h5] at this
  simpa using this
theorem segs_cons {l : List Oper} {s h : Nat} {Q : Act → World → Prop} {is fin : List Nat} {r : List (List Nat × Nat)} {a : Act} {w : World}
    (hh : ∀ K : Act → Prop, (∀ a', (∀ next : Act → World → Prop, (∀ a w, wpSegs P l C s Q r fin a w → next a w) → wpList P l.toArray (segQ C h s next) (pick l [h]) a' w) → K a') → wpQuiet P l.toArray C K (pick l is) a) :
    wpSegs P l C s Q ((is, h) :: r) fin a w := hh _ fun _ h' => h' _ fun _ _ h => h
theorem segs_nil {l : List Oper} {s : Nat} {Q : Act → World → Prop} {fin : List Nat} {a : Act} {w : World}
    (hh : ∀ K : Act → Prop, (∀ a', Q a' w → K a') → wpQuiet P l.toArray C K (pick l fin) a) : wpSegs P l C s Q [] fin a w := hh _ fun _ h => h
end
end Go.Proofs.YthpmncdfaggkiaaGreat
namespace Go.Proofs.YthpmncdfaggkiaaGreat
open Go.RowKit
attribute [local go_sem] more_drew more_drewN more_size more_cell more_frozen more_setCell drew_more drewN_more lt_add_r lt_add_r2 lt_add_r3 lt_add_r4 lt_add_r5 lt_add_r6 lt_add_r7 lt_add_r8 lt_add_r9 lt_add_r10 lt_self_r lt_self_r2
theorem OwnI.base {w : World} {base base' : Nat} {A : Option Addr} {c : Nat} {xs : List Int} (h : OwnI w base A c xs) (hb : base' ≤ base) : OwnI w base' A c xs :=
  ⟨h.1, h.2.imp id fun ⟨g, cap, cur, h1, h2, h3⟩ => ⟨g, cap, cur, h1, Nat.le_trans hb h2, h3⟩⟩
end Go.Proofs.YthpmncdfaggkiaaGreat
namespace Go.Proofs.YthpmncdfaggkiaaGreat
open Go.RowKit
section
variable {P : Program}
def onlyN (Q : Act → World → Prop) : Exit → Act → World → Prop
  | .normal, a, w => Q a w
  | _, _, _ => False
theorem no_lets {Q : Act → World → Prop} : ¬ LetsOut (onlyN Q) := fun ⟨_, _, h⟩ => h
theorem onlyN_mk {Q : Act → World → Prop} {a : Act} {w : World} (h : Q a w) : onlyN Q .normal a w := h
end
section
variable {P : Program} {ops : Array Oper} {md : Region.Mode} {C : World → Prop}
def tailB (md : Region.Mode) (ops : Array Oper) : List Nat → Array Bool → Bool
  | [], listed => (Region.ready md ops listed).isEmpty
  | i :: r, listed => (Region.ready md ops listed == [i]) && tailB md ops r (listed.setIfInBounds i true)
def wpTail (P : Program) (ops : Array Oper) (Q : Act → World → Prop) : List Nat → Act → World → Prop
  | [], a, w => Q a w
  | i :: r, a, w => wpOp P ops QN i (wpTail P ops Q r) a w
theorem wpAnyC_tail {s : Nat} {Q : Act → World → Prop} : ∀ (l : List Nat) (listed : Array Bool) (a : Act) (w : World), tailB md ops l listed = true → listed.getD s false = true → wpTail P ops Q l a w → wpAnyC P md ops C s Q l.length listed a w
  | [], listed, a, w, hB, hs, h => ⟨fun h0 => (by rw [hs] at h0; cases h0), by simpa [tailB] using hB, h⟩
  | i :: r, listed, a, w, hB, hs, h => by
    simp only [tailB, Bool.and_eq_true, beq_iff_eq] at hB
    refine ⟨fun h0 => (by rw [hs] at h0; cases h0), fun h0 => (by rw [hB.1] at h0; cases h0), fun j hj => ?_⟩
    rw [hB.1] at hj
    obtain rfl := List.mem_singleton.1 hj
    exact wpOp_mono (fun a' w' hh => wpAnyC_tail r _ a' w' hB.2 (getD_set_true hs) hh) h
theorem wpAnyC_firstA {s i : Nat} {oi : Oper} {v : Value} {Q : Act → World → Prop} (hi : ops[i]? = some oi) (hso : softOp oi = true) (hsel : ∀ (j : Nat) (o : Oper) cs b, ops[j]? = some o → o.op ≠ .select cs b) (his : i ≠ s) {n : Nat} (hA : ancB md ops n s i = true) :
    ∀ (fuel : Nat) (listed : Array Bool) (a : Act) (w : World), ClosedL md ops listed →
      (∀ j oj, ops[j]? = some oj → j ≠ i → listed.getD j true = false → (∀ e ∈ oj.after, Region.binds md e = true → e.on ≠ i) → oi.apart ops oj = true) →
      i ∈ Region.ready md ops listed → YieldsIn P ops C oi v a → listed.getD s false = false → C w →
      wpAnyC P md ops C s Q fuel (listed.setIfInBounds i true) (a.put oi.dst v) w → wpAnyC P md ops C s Q (fuel + 1) listed a w := by
  intro fuel
  induction fuel with
  | zero =>
    intro listed a w _ _ hr hy hls hC H
    refine ⟨fun _ => hC, fun h => (by rw [h] at hr; cases hr), fun j hj => ?_⟩
    by_cases hji : j = i
    · subst hji
      exact wpOp_of_soft hi hso hy hC H
    · have := ready_mono hj hji
      rw [H.2.1] at this
      cases this
  | succ fuel ih =>
    intro listed a w hcl hfree hr hy hls hC H
    refine ⟨fun _ => hC, fun h => (by rw [h] at hr; cases hr), fun j hj => ?_⟩
    by_cases hji : j = i
    · subst hji
      exact wpOp_of_soft hi hso hy hC H
    · have h1 := H.2.2 j (ready_mono hj hji)
      obtain ⟨hjun, oj, hoj, hall⟩ := mem_ready.1 hj
      have hil : listed.getD i false = false := by
        have h0 := (mem_ready.1 hr).1
        rcases Nat.lt_or_ge i listed.size with h' | h'
        · simp [h'] at h0 ⊢; exact h0
        · simp [Array.getElem?_eq_none h'] at h0
      have hnot : ∀ e ∈ oj.after, Region.binds md e = true → e.on ≠ i := fun e he hb heq => by
        have h1 := hall e he hb
        rw [heq, hil] at h1
        cases h1
      have hjs : j ≠ s := by
        rintro rfl
        have := anc_listed hcl n j i hA fun o ho e he hb => by
          rw [hoj] at ho
          cases ho
          exact hall e he hb
        rw [hil] at this
        cases this
      have h2 := wpOpC_put hoj (hfree j oj hoj hji hjun hnot) (fun cs b => hsel i oi cs b hi) (fun cs b => hsel j oj cs b hoj) hy h1
      have hfree' : ∀ k ok, ops[k]? = some ok → k ≠ i → (listed.setIfInBounds j true).getD k true = false →
          (∀ e ∈ ok.after, Region.binds md e = true → e.on ≠ i) → oi.apart ops ok = true := fun k ok hk hki hun hno => by
        refine hfree k ok hk hki ?_ hno
        by_cases hjk : j = k
        · subst hjk; exact hjun
        · rw [getD_set_ne true hjk] at hun; exact hun
      refine wpOp_mono (fun a' w' h3 => ?_) h2
      have hs1 : (listed.setIfInBounds j true).getD s false = false := by rw [getD_set_ne false hjs]; exact hls
      have hcomm : (listed.setIfInBounds j true).setIfInBounds i true = (listed.setIfInBounds i true).setIfInBounds j true := Array.setIfInBounds_comm _ _ hji
      refine ih (listed.setIfInBounds j true) a' w' (closed_set hcl hj) hfree' (ready_mono hr (Ne.symm hji)) h3.1 hs1 (h3.2.cls (by rw [← hcomm, getD_set_ne false his]; exact hs1)) ?_
      rw [hcomm]
      exact h3.2
def wpSchedT (P : Program) (ops : Array Oper) (C : World → Prop) (s : Nat) (tl : List Nat) (Q : Act → World → Prop) : List (Bool × Nat) → Act → World → Prop
  | [], a, w => wpTail P ops Q (s :: tl) a w
  | (true, i) :: r, a, w => qOp P ops C i (fun a' => wpSchedT P ops C s tl Q r a' w) a
  | (false, i) :: r, a, w => wpOp P ops QN i (fun a' w' => C w' ∧ wpSchedT P ops C s tl Q r a' w') a w
def schedTB (md : Region.Mode) (ops : Array Oper) (s : Nat) (tl : List Nat) : List (Bool × Nat) → Array Bool → Bool
  | [], listed => (Region.ready md ops listed == [s]) && tailB md ops tl (listed.setIfInBounds s true)
  | (true, i) :: r, listed => i != s && (Region.ready md ops listed).contains i && Region.free md ops listed i && ((ops[i]?).map softOp).getD false &&
    ancB md ops ops.size s i && schedTB md ops s tl r (listed.setIfInBounds i true)
  | (false, i) :: r, listed => (Region.ready md ops listed == [i]) && i != s && schedTB md ops s tl r (listed.setIfInBounds i true)
theorem wpAnyC_schedT {s : Nat} {tl : List Nat} {Q : Act → World → Prop} (hs : Region.noSelect ops = true) : ∀ (l : List (Bool × Nat)) (listed : Array Bool) (a : Act) (w : World), schedTB md ops s tl l listed = true → ClosedL md ops listed → listed.getD s false = false → C w →
    wpSchedT P ops C s tl Q l a w → wpAnyC P md ops C s Q (l.length + (tl.length + 1)) listed a w
  | [], listed, a, w, hB, _, hls, hC, h => by
    simp only [schedTB, Bool.and_eq_true, beq_iff_eq] at hB
    obtain ⟨h1, h2⟩ := hB
    rw [List.length_nil, Nat.zero_add]
    refine ⟨fun _ => hC, fun h0 => (by rw [h1] at h0; cases h0), fun j hj => ?_⟩
    rw [h1] at hj
    obtain rfl := List.mem_singleton.1 hj
    have hji : j ∈ Region.ready md ops listed := by rw [h1]; exact List.mem_singleton.2 rfl
    obtain ⟨hlt, _⟩ := ready_getD_false' hji
    exact wpOp_mono (fun a' w' hh => wpAnyC_tail tl _ a' w' h2 (by simp [hlt]) hh) h
  | (true, i) :: r, listed, a, w, hB, hcl, hls, hC, h => by
    simp only [schedTB, Bool.and_eq_true, bne_iff_ne, ne_eq] at hB
    obtain ⟨⟨⟨⟨⟨h1, h2⟩, h3⟩, h4⟩, h5⟩, h6⟩ := hB
    obtain ⟨oi, hoi⟩ : ∃ o, ops[i]? = some o := by
      cases ho : ops[i]? with
      | none => rw [ho] at h4; cases h4
      | some o => exact ⟨o, rfl⟩
    rw [hoi] at h4
    obtain ⟨v, hy, hK⟩ := yieldsIn_of_qOp hoi h
    have e : ((true, i) :: r).length + (tl.length + 1) = (r.length + (tl.length + 1)) + 1 := by rw [List.length_cons]; omega
    rw [e]
    have hir : i ∈ Region.ready md ops listed := by simpa using h2
    exact wpAnyC_firstA hoi (by simpa using h4) (Region.noSelect_spec hs) h1 h5 (r.length + (tl.length + 1)) listed a w hcl (Region.free_spec hoi h3) hir hy hls hC
      (wpAnyC_schedT hs r _ _ w h6 (closed_set hcl hir) (by rw [getD_set_ne false h1]; exact hls) hC hK)
  | (false, i) :: r, listed, a, w, hB, hcl, hls, hC, h => by
    simp only [schedTB, Bool.and_eq_true, beq_iff_eq, bne_iff_ne, ne_eq] at hB
    obtain ⟨⟨h1, h2⟩, h3⟩ := hB
    have e : ((false, i) :: r).length + (tl.length + 1) = (r.length + (tl.length + 1)) + 1 := by rw [List.length_cons]; omega
    rw [e]
    refine ⟨fun _ => hC, fun h0 => (by rw [h1] at h0; cases h0), fun j hj => ?_⟩
    rw [h1] at hj
    obtain rfl := List.mem_singleton.1 hj
    have hji : j ∈ Region.ready md ops listed := by rw [h1]; exact List.mem_singleton.2 rfl
    exact wpOp_mono (fun a' w' hh => wpAnyC_schedT hs r _ a' w' h3 (closed_set hcl hji) (by rw [getD_set_ne false h2]; exact hls) hh.1 hh.2) h
end
section
variable {P : Program} {C : World → Prop}
def wpSegsT (P : Program) (l : List Oper) (C : World → Prop) (Q : Act → World → Prop) (tl : List Nat) : List (List Nat × Nat) → List Nat → Act → World → Prop
  | [], fin, a, w => wpQuiet P l.toArray C (fun a' => wpList P l.toArray (onlyN Q) (pick l tl) a' w) (pick l fin) a
  | (is, h) :: r, fin, a, w => wpQuiet P l.toArray C (fun a' => wpList P l.toArray (segQ C h (h + 1) (wpSegsT P l C Q tl r fin)) (pick l [h]) a' w) (pick l is) a
theorem tail_of_list {l : List Oper} {Q : Act → World → Prop} : ∀ (tl : List Nat) (a : Act) (w : World), (∀ i ∈ tl, i < l.length) → wpList P l.toArray (onlyN Q) (pick l tl) a w → wpTail P l.toArray Q tl a w
  | [], _, _, _, h => h
  | i :: tl, a, w, hl, h => by
    have hlt := hl i (List.mem_cons_self ..)
    have hi1 : l[i]? = some l[i] := List.getElem?_eq_getElem hlt
    have e : pick l (i :: tl) = l[i] :: pick l tl := nthC_some _ hi1
    have hi' : l.toArray[i]? = some l[i] := by rw [List.getElem?_toArray]; exact hi1
    have ih := fun a w => tail_of_list (Q := Q) tl a w fun k hk => hl k (List.mem_cons_of_mem _ hk)
    rw [e] at h
    show wpOp P l.toArray QN i _ a w
    unfold wpOp
    simp only [hi']
    unfold wpList at h
    split
    · rename_i hw
      rw [if_pos hw] at h
      rcases h with h | ⟨_, hl⟩
      · exact .inl (wp_monoQ (fun a w hh => ih a w hh) (fun _ _ _ h => h) (fun h => by first | exact absurd h (no_lets (Q := Q)) | exact absurd h no_letsOut) h)
      · exact absurd hl no_lets
    · rename_i hw
      rw [if_neg hw] at h
      exact ih _ _ h
theorem softsT {l : List Oper} {s : Nat} {tl : List Nat} {Q : Act → World → Prop} {r : List (Bool × Nat)} {w : World} : ∀ (is : List Nat) (a : Act), (∀ i ∈ is, i < l.length) →
    wpQuiet P l.toArray C (fun a' => wpSchedT P l.toArray C s tl Q r a' w) (pick l is) a → wpSchedT P l.toArray C s tl Q ((is.map fun i => (true, i)) ++ r) a w
  | [], _, _, h => h
  | i :: is, a, hl, h => by
    have hlt := hl i (List.mem_cons_self ..)
    have hi : l[i]? = some l[i] := List.getElem?_eq_getElem hlt
    have e : pick l (i :: is) = l[i] :: pick l is := nthC_some _ hi
    rw [e] at h
    show qOp P l.toArray C i _ a
    have hi' : l.toArray[i]? = some l[i] := by rw [List.getElem?_toArray]; exact hi
    unfold qOp
    simp only [hi']
    unfold wpQuiet at h
    split
    · rename_i hw
      rw [if_pos hw] at h
      exact Oper.quiet_mono (fun a' h' => softsT is a' (fun k hk => hl k (List.mem_cons_of_mem _ hk)) h') h
    · rename_i hw
      rw [if_neg hw] at h
      exact softsT is _ (fun k hk => hl k (List.mem_cons_of_mem _ hk)) h
theorem segsT_sched {l : List Oper} {s : Nat} {tl : List Nat} {Q : Act → World → Prop} {fin : List Nat} (hf : ∀ i ∈ fin, i < l.length) (ht : ∀ i ∈ s :: tl, i < l.length) : ∀ (segs : List (List Nat × Nat)) (a : Act) (w : World), (∀ x ∈ segs, (∀ i ∈ x.1, i < l.length) ∧ x.2 < l.length) →
    wpSegsT P l C Q (s :: tl) segs fin a w → wpSchedT P l.toArray C s tl Q (segItems segs fin) a w
  | [], a, w, _, h => by
    have := softsT (s := s) (tl := tl) (Q := Q) (r := []) (w := w) fin a hf (wpQuiet_mono' (fun a' h' => tail_of_list (s :: tl) a' w ht h') (pick l fin) a h)
    simpa [segItems] using this
  | (is, hh) :: r, a, w, hl, h => by
    obtain ⟨h1, h2⟩ := hl _ (List.mem_cons_self ..)
    refine softsT is a h1 (wpQuiet_mono' (fun a' h' => ?_) (pick l is) a h)
    exact wpOp_mono (fun a2 w2 hx => ⟨hx.1 (by omega), segsT_sched hf ht r a2 w2 (fun x hx' => hl x (List.mem_cons_of_mem _ hx')) hx.2⟩) (wpOp_of_list h2 h')
def segsTB (l : List Oper) (s : Nat) (tl : List Nat) (segs : List (List Nat × Nat)) (fin : List Nat) : Bool :=
  Region.noSelect l.toArray && schedTB .any l.toArray s tl (segItems segs fin) (Array.replicate l.length false) && (segs.all fun x => (x.1.all fun i => decide (i < l.length)) && decide (x.2 < l.length)) && (fin.all fun i => decide (i < l.length)) && ((s :: tl).all fun i => decide (i < l.length)) &&
    ((segItems segs fin).length + (tl.length + 1) == l.length)
theorem wp_region_segsT {id : Nat} {Q : Exit → Act → World → Prop} {a : Act} {w : World} {l : List Oper} (s : Nat) (tl : List Nat) (segs : List (List Nat × Nat)) (fin : List Nat) (hm : P.follows .mixedOrders = true) (hB : segsTB l s tl segs fin = true)
    (h : wpSegsT P l (fun w' => ∃ x : Lay, w' = more w x.os x.k) (fun a' w' => Q .normal a' w') (s :: tl) segs fin a w.drew) : (Code.region id l.toArray true).wp P Q a w := by
  unfold segsTB at hB
  simp only [Bool.and_eq_true, List.all_eq_true, decide_eq_true_eq, beq_iff_eq] at hB
  obtain ⟨⟨⟨⟨⟨h1, h2⟩, h3⟩, h4⟩, h6⟩, h5⟩ := hB
  refine wp_region_any hm (wpAny_of_C (C := fun w' => ∃ x : Lay, w' = more w x.os x.k) (s := s) _ _ _ _ ?_)
  have := wpAnyC_schedT (Q := fun a' w' => Q .normal a' w') (C := fun w' => ∃ x : Lay, w' = more w x.os x.k) h1 (segItems segs fin) (Array.replicate l.length false) a w.drew h2 (fun k o _ hk => by
    rw [Array.getD_eq_getD_getElem?, Array.getElem?_replicate] at hk
    split at hk <;> cases hk) (by
    rw [Array.getD_eq_getD_getElem?, Array.getElem?_replicate]
    split <;> rfl) ⟨⟨[], w.drawn + 1⟩, by rw [← more_drew, more_nil]⟩ (segsT_sched h4 h6 segs a w.drew h3 h)
  rw [h5] at this
  simpa using this
theorem segsT_cons {l : List Oper} {h : Nat} {Q : Act → World → Prop} {is fin tl : List Nat} {r : List (List Nat × Nat)} {a : Act} {w : World}
    (hh : ∀ K : Act → Prop, (∀ a', (∀ next : Act → World → Prop, (∀ a w, wpSegsT P l C Q tl r fin a w → next a w) → wpList P l.toArray (segQ C h (h + 1) next) (pick l [h]) a' w) → K a') → wpQuiet P l.toArray C K (pick l is) a) :
    wpSegsT P l C Q tl ((is, h) :: r) fin a w := hh _ fun _ h' => h' _ fun _ _ h => h
theorem segsT_nil {l : List Oper} {Q : Act → World → Prop} {fin tl : List Nat} {a : Act} {w : World}
    (hh : ∀ K : Act → Prop, (∀ a', wpList P l.toArray (onlyN Q) (pick l tl) a' w → K a') → wpQuiet P l.toArray C K (pick l fin) a) : wpSegsT P l C Q tl [] fin a w := hh _ fun _ h => h
end
inductive Br where
  | fin : Br
  | step (i : Nat) (t : Br) : Br
  | two (a b : Br) : Br
def Br.heads : Br → List Nat
  | .fin => []
  | .step i _ => [i]
  | .two a b => a.heads ++ b.heads
def Br.len : Br → Nat
  | .fin => 0
  | .step _ t => t.len + 1
  | .two a _ => a.len
def Br.even : Br → Bool
  | .fin => true
  | .step _ t => t.even
  | .two a b => a.even && b.even && (a.len == b.len) && (a.len != 0)
theorem Br.heads_ne : ∀ (t : Br), t.even = true → t.len ≠ 0 → t.heads ≠ []
  | .fin, _, h => absurd rfl h
  | .step _ _, _, _ => by simp [Br.heads]
  | .two a b, he, _ => by
    simp only [Br.even, Bool.and_eq_true, bne_iff_ne, ne_eq] at he
    have := a.heads_ne he.1.1.1 he.2
    simp [Br.heads, this]
section
variable {P : Program} {C : World → Prop}
def brB (md : Region.Mode) (ops : Array Oper) : Bool → Br → Array Bool → Bool
  | top, .fin, listed => !top || (Region.ready md ops listed == [])
  | top, .step i t, listed => (!top || (Region.ready md ops listed == [i])) && decide (i < ops.size) && decide (i < listed.size) && brB md ops true t (listed.setIfInBounds i true)
  | top, .two a b, listed => (!top || (Region.ready md ops listed == a.heads ++ b.heads)) && brB md ops false a listed && brB md ops false b listed
def wpBr (P : Program) (l : List Oper) (C : World → Prop) (s : Nat) (Q : Act → World → Prop) : Br → Act → World → Prop
  | .fin, a, w => Q a w
  | .step i t, a, w => wpList P l.toArray (segQ C i s (wpBr P l C s Q t)) (pick l [i]) a w
  | .two t u, a, w => wpBr P l C s Q t a w ∧ wpBr P l C s Q u a w
theorem br_all {l : List Oper} {md : Region.Mode} {s : Nat} {Q : Act → World → Prop} : ∀ (t : Br),
    (∀ (listed : Array Bool) (a : Act) (w : World), t.even = true → brB md l.toArray true t listed = true → (listed.getD s false = false → C w) → wpBr P l C s Q t a w → wpAnyC P md l.toArray C s Q t.len listed a w) ∧
    (∀ (top : Bool) (listed : Array Bool) (a : Act) (w : World) (n : Nat), t.even = true → t.len = n + 1 → brB md l.toArray top t listed = true → wpBr P l C s Q t a w → ∀ j ∈ t.heads, wpOp P l.toArray QN j (wpAnyC P md l.toArray C s Q n (listed.setIfInBounds j true)) a w)
  | .fin => ⟨fun listed a w _ hB hC h => by
      simp only [brB, Bool.not_true, Bool.false_or, beq_iff_eq] at hB
      exact ⟨hC, hB, h⟩, fun top listed a w n _ hl => by cases hl⟩
  | .step i t => by
    have ih := (br_all (l := l) (md := md) (s := s) (Q := Q) t).1
    have K2 : ∀ (top : Bool) (listed : Array Bool) (a : Act) (w : World) (n : Nat), (Br.step i t).even = true → (Br.step i t).len = n + 1 → brB md l.toArray top (.step i t) listed = true → wpBr P l C s Q (.step i t) a w → ∀ j ∈ (Br.step i t).heads, wpOp P l.toArray QN j (wpAnyC P md l.toArray C s Q n (listed.setIfInBounds j true)) a w := by
      intro top listed a w n he hl hB h j hj
      obtain rfl : j = i := List.mem_singleton.1 hj
      simp only [brB, Bool.and_eq_true, decide_eq_true_eq] at hB
      obtain rfl : t.len = n := by simpa [Br.len] using hl
      refine wpOp_mono (fun a' w' hh => ih _ a' w' he hB.2 (fun h0 => ?_) hh.2) (wpOp_of_list (by simpa using hB.1.1.2) h)
      refine hh.1 fun hjs => ?_
      subst hjs
      have := hB.1.2
      simp [this] at h0
    refine ⟨fun listed a w he hB hC h => ⟨hC, fun h0 => ?_, fun j hj => ?_⟩, K2⟩
    · simp only [brB, Bool.not_true, Bool.false_or, Bool.and_eq_true, beq_iff_eq] at hB
      rw [hB.1.1.1] at h0
      cases h0
    · have hB' := hB
      simp only [brB, Bool.not_true, Bool.false_or, Bool.and_eq_true, beq_iff_eq] at hB'
      rw [hB'.1.1.1] at hj
      exact K2 true listed a w t.len he rfl hB h j hj
  | .two t u => by
    have iht := (br_all (l := l) (md := md) (s := s) (Q := Q) t).2
    have ihu := (br_all (l := l) (md := md) (s := s) (Q := Q) u).2
    have K2 : ∀ (top : Bool) (listed : Array Bool) (a : Act) (w : World) (n : Nat), (Br.two t u).even = true → (Br.two t u).len = n + 1 → brB md l.toArray top (.two t u) listed = true → wpBr P l C s Q (.two t u) a w → ∀ j ∈ (Br.two t u).heads, wpOp P l.toArray QN j (wpAnyC P md l.toArray C s Q n (listed.setIfInBounds j true)) a w := by
      intro top listed a w n he hl hB h j hj
      simp only [brB, Bool.and_eq_true] at hB
      simp only [Br.even, Bool.and_eq_true, beq_iff_eq] at he
      have hl' : t.len = n + 1 := hl
      rcases List.mem_append.1 hj with hj | hj
      · exact iht false listed a w n he.1.1.1 hl' hB.1.2 h.1 j hj
      · exact ihu false listed a w n he.1.1.2 (he.1.2 ▸ hl') hB.2 h.2 j hj
    refine ⟨fun listed a w he hB hC h => ?_, K2⟩
    have he' := he
    simp only [Br.even, Bool.and_eq_true, bne_iff_ne, ne_eq] at he'
    obtain ⟨n, hn⟩ : ∃ n, t.len = n + 1 := ⟨t.len - 1, by have := he'.2; omega⟩
    have hB' := hB
    simp only [brB, Bool.not_true, Bool.false_or, Bool.and_eq_true, beq_iff_eq] at hB'
    show wpAnyC P md l.toArray C s Q t.len listed a w
    rw [hn]
    refine ⟨hC, fun h0 => ?_, fun j hj => ?_⟩
    · rw [hB'.1.1] at h0
      have := t.heads_ne he'.1.1.1 he'.2
      simp at h0
      exact absurd h0.1 this
    · rw [hB'.1.1] at hj
      exact K2 true listed a w n he hn hB h j hj
def wpSchedB (P : Program) (l : List Oper) (C : World → Prop) (s : Nat) (Q : Act → World → Prop) (t : Br) : List Nat → Act → World → Prop
  | [], a, w => wpBr P l C s Q t a w
  | i :: r, a, w => qOp P l.toArray C i (fun a' => wpSchedB P l C s Q t r a' w) a
def schedBB (md : Region.Mode) (ops : Array Oper) (s : Nat) (t : Br) : List Nat → Array Bool → Bool
  | [], listed => brB md ops true t listed
  | i :: r, listed => i != s && (Region.ready md ops listed).contains i && Region.free md ops listed i && ((ops[i]?).map softOp).getD false && ancB md ops ops.size s i && schedBB md ops s t r (listed.setIfInBounds i true)
theorem wpAnyC_schedB {md : Region.Mode} {l : List Oper} {s : Nat} {t : Br} {Q : Act → World → Prop} (hs : Region.noSelect l.toArray = true) (ht : t.even = true) : ∀ (r : List Nat) (listed : Array Bool) (a : Act) (w : World), schedBB md l.toArray s t r listed = true → ClosedL md l.toArray listed → listed.getD s false = false → C w →
    wpSchedB P l C s Q t r a w → wpAnyC P md l.toArray C s Q (r.length + t.len) listed a w
  | [], listed, a, w, hB, _, _, hC, h => by
    rw [List.length_nil, Nat.zero_add]
    exact (br_all t).1 listed a w ht hB (fun _ => hC) h
  | i :: r, listed, a, w, hB, hcl, hls, hC, h => by
    simp only [schedBB, Bool.and_eq_true, bne_iff_ne, ne_eq] at hB
    obtain ⟨⟨⟨⟨⟨h1, h2⟩, h3⟩, h4⟩, h5⟩, h6⟩ := hB
    obtain ⟨oi, hoi⟩ : ∃ o, l.toArray[i]? = some o := by
      cases ho : l.toArray[i]? with
      | none => rw [ho] at h4; cases h4
      | some o => exact ⟨o, rfl⟩
    rw [hoi] at h4
    obtain ⟨v, hy, hK⟩ := yieldsIn_of_qOp hoi h
    have e : (i :: r).length + t.len = (r.length + t.len) + 1 := by rw [List.length_cons]; omega
    rw [e]
    have hir : i ∈ Region.ready md l.toArray listed := by simpa using h2
    exact wpAnyC_firstA hoi (by simpa using h4) (Region.noSelect_spec hs) h1 h5 (r.length + t.len) listed a w hcl (Region.free_spec hoi h3) hir hy hls hC
      (wpAnyC_schedB hs ht r _ _ w h6 (closed_set hcl hir) (by rw [getD_set_ne false h1]; exact hls) hC hK)
theorem softsB {l : List Oper} {s : Nat} {t : Br} {Q : Act → World → Prop} {w : World} : ∀ (is : List Nat) (a : Act), (∀ i ∈ is, i < l.length) →
    wpQuiet P l.toArray C (fun a' => wpBr P l C s Q t a' w) (pick l is) a → wpSchedB P l C s Q t is a w
  | [], _, _, h => h
  | i :: is, a, hl, h => by
    have hlt := hl i (List.mem_cons_self ..)
    have hi : l[i]? = some l[i] := List.getElem?_eq_getElem hlt
    have e : pick l (i :: is) = l[i] :: pick l is := nthC_some _ hi
    rw [e] at h
    show qOp P l.toArray C i _ a
    have hi' : l.toArray[i]? = some l[i] := by rw [List.getElem?_toArray]; exact hi
    unfold qOp
    simp only [hi']
    unfold wpQuiet at h
    split
    · rename_i hw
      rw [if_pos hw] at h
      exact Oper.quiet_mono (fun a' h' => softsB is a' (fun k hk => hl k (List.mem_cons_of_mem _ hk)) h') h
    · rename_i hw
      rw [if_neg hw] at h
      exact softsB is _ (fun k hk => hl k (List.mem_cons_of_mem _ hk)) h
def segsBB (l : List Oper) (s : Nat) (t : Br) (is : List Nat) : Bool :=
  Region.noSelect l.toArray && t.even && schedBB .any l.toArray s t is (Array.replicate l.length false) && (is.all fun i => decide (i < l.length)) && (is.length + t.len == l.length)
theorem wp_region_segsB {id : Nat} {Q : Exit → Act → World → Prop} {a : Act} {w : World} {l : List Oper} (s : Nat) (t : Br) (is : List Nat) (hm : P.follows .mixedOrders = true) (hB : segsBB l s t is = true)
    (h : ∀ K : Act → Prop, (∀ a', wpBr P l (fun w' => ∃ x : Lay, w' = more w x.os x.k) s (fun a' w' => Q .normal a' w') t a' w.drew → K a') → wpQuiet P l.toArray (fun w' => ∃ x : Lay, w' = more w x.os x.k) K (pick l is) a) : (Code.region id l.toArray true).wp P Q a w := by
  unfold segsBB at hB
  simp only [Bool.and_eq_true, List.all_eq_true, decide_eq_true_eq, beq_iff_eq] at hB
  obtain ⟨⟨⟨⟨h1, h2⟩, h3⟩, h4⟩, h5⟩ := hB
  refine wp_region_any hm (wpAny_of_C (C := fun w' => ∃ x : Lay, w' = more w x.os x.k) (s := s) _ _ _ _ ?_)
  have := wpAnyC_schedB (P := P) (Q := fun a' w' => Q .normal a' w') (C := fun w' => ∃ x : Lay, w' = more w x.os x.k) h1 h2 is (Array.replicate l.length false) a w.drew h3 (fun k o _ hk => by
    rw [Array.getD_eq_getD_getElem?, Array.getElem?_replicate] at hk
    split at hk <;> cases hk) (by
    rw [Array.getD_eq_getD_getElem?, Array.getElem?_replicate]
    split <;> rfl) ⟨⟨[], w.drawn + 1⟩, by rw [← more_drew, more_nil]⟩ (softsB is a h4 (h _ fun _ h' => h'))
  rw [h5] at this
  simpa using this
end
end Go.Proofs.YthpmncdfaggkiaaGreat
namespace Go.Proofs.YthpmncdfaggkiaaGreat
theorem Tree.up_lt {l : List Nd} (h : Tree l) {i j : Nat} (hu : Up l i j) : j < i ∧ i < l.length := by
  obtain ⟨p, hp, hk⟩ := hu
  obtain ⟨q, m, a, b, c⟩ := h.at (lt_of_get hp)
  rw [hp] at a; cases a
  obtain ⟨i', e1, e2, e3⟩ := b.kid rfl _ hk
  omega
def Nd.by (f : Int → Int) (p : Nd) : Nd := { p with kids := p.kids.map f }
@[simp] theorem Nd.by_kids (f : Int → Int) (p : Nd) : (p.by f).kids = p.kids.map f := rfl
@[simp] theorem Nd.by_lo (f : Int → Int) (p : Nd) : (p.by f).lo = p.lo := rfl
@[simp] theorem Nd.by_hi (f : Int → Int) (p : Nd) : (p.by f).hi = p.hi := rfl
@[simp] theorem Nd.by_kind (f : Int → Int) (p : Nd) : (p.by f).kind = p.kind := rfl
@[simp] theorem Nd.by_sym (f : Int → Int) (p : Nd) : (p.by f).sym = p.sym := rfl
theorem Nd.by_id {f : Int → Int} {p : Nd} (h : ∀ k ∈ p.kids, f k = k) : p.by f = p := by
  simp only [Nd.by, List.map_congr_left h, List.map_id']
def movedF (d : Int) (l : List Nd) : List Nd := l.map (Nd.by (· + d))
def subF (l : List Nd) (i m : Nat) : List Nd := movedF (-(i : Int)) ((l.drop i).take (m - i))
theorem len_sub {l : List Nd} {i m : Nat} (hm : m ≤ l.length) : (subF l i m).length = m - i := by
  unfold subF movedF
  rw [List.length_map, List.length_take, List.length_drop]
  omega
theorem Part.kid_in {l : List Nd} {i m : Nat} (h : Part l i m) {j : Nat} (h1 : i ≤ j) (h2 : j < m) {p : Nd} (hp : l[j]? = some p) : ∀ k ∈ p.kids, ∃ c : Nat, k = (c : Int) ∧ j < c ∧ c < m := by
  intro k hk
  obtain ⟨q, m1, a, b, c⟩ := h.trek.inside rfl j h1 h2
  rw [hp] at a
  cases a
  obtain ⟨c', e1, e2, e3⟩ := b.kid rfl k hk
  exact ⟨c', e1, by omega, by omega⟩


def LiesIn (l : List Nd) (n m : Nat) : Prop := ∀ (j : Nat) (q : Nd), n ≤ j → j < m → l[j]? = some q → liesB l q.hi q.lo q.kids = true
theorem LiesIn.split {l : List Nd} {a b c : Nat} (h1 : a ≤ b) (h2 : b ≤ c) : LiesIn l a c ↔ LiesIn l a b ∧ LiesIn l b c := by
  refine ⟨fun h => ⟨fun j q hj hj2 => h j q hj (by omega), fun j q hj hj2 => h j q (by omega) hj2⟩, fun ⟨h, h'⟩ j q hj hj2 hq => ?_⟩
  rcases Nat.lt_or_ge j b with hb | hb
  · exact h j q hj hb hq
  · exact h' j q hb hj2 hq
open Classical in
noncomputable def endR (l : List Nd) (n m : Nat) (ok : Bool) (hi at' : Int) (ks : List Int) : Int :=
  if ok = true ∧ LiesIn l n m ∧ liesB l hi at' ks = true then (m : Int) else -1
theorem endR_nil {l : List Nd} {n m : Nat} {ok : Bool} {hi at' : Int} (h : Trek l [] n ok m) : endR l n m ok hi at' [] = if at' ≤ hi then (n : Int) else -1 := by
  cases h
  have h0 : LiesIn l n n := fun j q h1 h2 => by omega
  have h1 : liesB l hi at' [] = decide (at' ≤ hi) := by rw [liesB]
  unfold endR
  by_cases hx : at' ≤ hi
  · rw [if_pos hx, if_pos ⟨rfl, h0, by rw [h1]; exact decide_eq_true hx⟩]
  · rw [if_neg hx, if_neg (fun hc => hx (of_decide_eq_true (h1 ▸ hc.2.2)))]
theorem endR_bad {l : List Nd} {n m : Nat} {ok : Bool} {hi at' k : Int} {ks : List Int} (h : Trek l (k :: ks) n ok m) (hb : k ≠ (n : Int) ∨ l.length ≤ n) : endR l n m ok hi at' (k :: ks) = -1 := by
  obtain ⟨rfl, _⟩ := h.stop hb
  unfold endR
  simp
theorem endR_ahead {l : List Nd} {n m : Nat} {ok : Bool} {hi at' : Int} {ks : List Int} {q : Nd} (hq : l[n]? = some q) (hb : q.lo < at') : endR l n m ok hi at' ((n : Int) :: ks) = -1 := by
  unfold endR
  rw [if_neg]
  rintro ⟨_, _, h⟩
  unfold liesB at h
  rw [Int.toNat_natCast, hq] at h
  simp only [Bool.and_eq_true, decide_eq_true_eq] at h
  omega
theorem liesB_cons {l : List Nd} {n : Nat} {q : Nd} {hi at' : Int} {ks : List Int} (hq : l[n]? = some q) (hb : at' ≤ q.lo) : (liesB l hi at' ((n : Int) :: ks) = true) ↔ liesB l hi q.hi ks = true := by
  have : liesB l hi at' ((n : Int) :: ks) = (decide (at' ≤ q.lo) && liesB l hi q.hi ks) := by
    conv => lhs; unfold liesB
    rw [Int.toNat_natCast, hq]
  rw [this]
  simp [hb]
theorem endR_sub_bad {l : List Nd} {n m m' : Nat} {ok ok' : Bool} {hi at' : Int} {ks : List Int} {q : Nd} (hq : l[n]? = some q) (h : Trek l ((n : Int) :: ks) n ok m) (h' : Trek l q.kids (n + 1) ok' m') (he : endR l (n + 1) m' ok' q.hi q.lo q.kids < 0) : endR l n m ok hi at' ((n : Int) :: ks) = -1 := by
  unfold endR at he ⊢
  rw [if_neg]
  rintro ⟨h1, h2, h3⟩
  subst h1
  rw [if_pos] at he
  · omega
  · rcases h.head rfl hq with ⟨hf, _⟩ | ⟨m1, t1, t2⟩
    · cases hf
    · obtain ⟨rfl, rfl⟩ := t1.det h'
      have l1 := t1.le.1
      have l2 := t2.le.1
      exact ⟨rfl, fun j p hj hj2 => h2 j p (by omega) (by omega), h2 n q (Nat.le_refl _) (by omega) hq⟩
theorem endR_sub_ok {l : List Nd} {n m m' : Nat} {ok ok' : Bool} {hi at' : Int} {ks : List Int} {q : Nd} (hq : l[n]? = some q) (hb : at' ≤ q.lo) (h : Trek l ((n : Int) :: ks) n ok m) (h' : Trek l q.kids (n + 1) ok' m') (he : ¬ endR l (n + 1) m' ok' q.hi q.lo q.kids < 0) :
    endR l (n + 1) m' ok' q.hi q.lo q.kids = (m' : Int) ∧ n < m' ∧ Trek l ks m' ok m ∧ endR l n m ok hi at' ((n : Int) :: ks) = endR l m' m ok hi q.hi ks := by
  have l0 := h'.le.1
  by_cases hc : ok' = true ∧ LiesIn l (n + 1) m' ∧ liesB l q.hi q.lo q.kids = true
  · have e1 : endR l (n + 1) m' ok' q.hi q.lo q.kids = (m' : Int) := if_pos hc
    obtain ⟨rfl, c2, c3⟩ := hc
    rcases h.head rfl hq with ⟨rfl, t1⟩ | ⟨m1, t1, t2⟩
    · have := (t1.det h').1; cases this
    · obtain ⟨_, rfl⟩ := t1.det h'
      refine ⟨e1, by omega, t2, ?_⟩
      have l2 := t2.le.1
      have hin : LiesIn l n m' := fun j p hj hj2 hp => by
        rcases Nat.eq_or_lt_of_le hj with rfl | hlt
        · rw [hq] at hp; cases hp; exact c3
        · exact c2 j p hlt hj2 hp
      unfold endR
      have : (ok = true ∧ LiesIn l n m ∧ liesB l hi at' ((n : Int) :: ks) = true) ↔ (ok = true ∧ LiesIn l m' m ∧ liesB l hi q.hi ks = true) := by
        rw [LiesIn.split (by omega : n ≤ m') l2, liesB_cons hq hb]
        exact ⟨fun ⟨a, ⟨_, b⟩, c⟩ => ⟨a, b, c⟩, fun ⟨a, b, c⟩ => ⟨a, ⟨hin, b⟩, c⟩⟩
      by_cases hx : ok = true ∧ LiesIn l m' m ∧ liesB l hi q.hi ks = true
      · rw [if_pos hx, if_pos (this.2 hx)]
      · rw [if_neg hx, if_neg (fun hc => hx (this.1 hc))]
  · exfalso
    apply he
    unfold endR
    rw [if_neg hc]
    omega
theorem tree_iff {l : List Nd} {ok : Bool} {m : Nat} {p : Nd} (hp : l[0]? = some p) (ht : Trek l p.kids 1 ok m) : Tree l ↔ (∀ i q, l[i]? = some q → Bare q ∧ (0 < i → q.kind ≠ 1)) ∧ endR l 1 m ok p.hi p.lo p.kids = (l.length : Int) := by
  have hl := lt_of_get hp
  constructor
  · intro T
    refine ⟨T.bare, ?_⟩
    have t := Trek.ofOne (n := 0) hp T.trek
    obtain ⟨rfl, rfl⟩ := t.det ht
    unfold endR
    rw [if_pos ⟨rfl, fun j q _ _ hq => T.lies q (List.mem_of_getElem? hq), T.lies p (List.mem_of_getElem? hp)⟩]
  · rintro ⟨h1, h2⟩
    unfold endR at h2
    split at h2
    · rename_i hc
      obtain ⟨rfl, c2, c3⟩ := hc
      have hm : m = l.length := by omega
      subst hm
      refine ⟨h1, Trek.one (n := 0) hp ht, fun q hq => ?_⟩
      obtain ⟨j, hj, rfl⟩ := List.getElem_of_mem hq
      rcases Nat.eq_zero_or_pos j with rfl | h0
      · rw [List.getElem?_eq_getElem hj] at hp
        injection hp with hp
        rw [hp]
        exact c3
      · exact c2 j _ h0 hj (List.getElem?_eq_getElem hj)
    · omega
theorem endR_tree {l : List Nd} (T : Tree l) {i m : Nat} {p : Nd} (hp : l[i]? = some p) (h : Part l i m) {ok : Bool} {m' : Nat} (ht : Trek l p.kids (i + 1) ok m') : endR l (i + 1) m' ok p.hi p.lo p.kids = (m : Int) := by
  obtain ⟨rfl, rfl⟩ := (Trek.ofOne hp h.trek).det ht
  unfold endR
  rw [if_pos ⟨rfl, fun j q _ _ hq => T.lies q (List.mem_of_getElem? hq), T.lies p (List.mem_of_getElem? hp)⟩]
end Go.Proofs.YthpmncdfaggkiaaGreat
namespace Go.Proofs.YthpmncdfaggkiaaGreat
open Go.RowKit
theorem Prts.nil {w : World} {A : Option Addr} : Prts w A [] := fun h => by simp at h
end Go.Proofs.YthpmncdfaggkiaaGreat
namespace Go.Proofs.YthpmncdfaggkiaaGreat
end Go.Proofs.YthpmncdfaggkiaaGreat
namespace Go.Proofs.YthpmncdfaggkiaaGreat
open Go.RowKit
attribute [local go_sem] more_drew more_drewN more_size more_cell more_frozen more_setCell drew_more drewN_more lt_add_r lt_add_r2 lt_add_r3 lt_add_r4 lt_add_r5 lt_add_r6 lt_self_r lt_self_r2
theorem leafR_any (k : Int) (w : World) : Calls Tryz.prog 91 #[.int .i64 k] w fun e w' => e = .returned (.bool (decide (LeafK k))) ∧ w = w' := by
  have H : decide (LeafK k) = ((k != 1) && (k != 2)) := by
    rw [Bool.eq_iff_iff, decide_eq_true_iff]
    unfold LeafK
    simp
  replace H := zh H
  go_enter Tryz.func91, Tryz.ntmps91
  go_wp2
  all_goals go_ret
  all_goals exact ⟨ret_bool (by rw [H.out] <;> simp [*]), rfl⟩
end Go.Proofs.YthpmncdfaggkiaaGreat
namespace Go.Proofs.YthpmncdfaggkiaaGreat
open Go.RowKit
attribute [local go_sem] more_drew more_drewN more_size more_cell more_frozen more_setCell drew_more drewN_more lt_add_r lt_add_r2 lt_add_r3 lt_add_r4 lt_add_r5 lt_add_r6 lt_add_r7 lt_add_r8 lt_add_r9 lt_add_r10 lt_self_r lt_self_r2
def Lt20 (x : Int) : Prop := -1048576 ≤ x ∧ x ≤ 1048576
structure LightP (most : Nat) (ps : List Prt) : Prop where
  len : ps.length ≤ most
  kids : kc (nds ps) 0 ps.length ≤ 2 * most
  places : ∀ p ∈ ps, Lt20 p.nd.lo ∧ Lt20 p.nd.hi ∧ Lt20 p.nd.look
theorem kc_all (l : List Nd) (j : Nat) : kc l 0 j ≤ kc l 0 l.length := by
  rcases Nat.le_total j l.length with h | h
  · rw [kc_add l (Nat.zero_le j) h]
    omega
  · unfold kc
    rw [List.take_of_length_le h, List.take_of_length_le (Nat.le_refl _)]
    exact Nat.le_refl _
theorem LightP.few {most : Nat} {ps : List Prt} (h : LightP most ps) (hm : most ≤ 1000) : Few ps :=
  ⟨by have := h.len; omega, fun j => by have := kc_all (nds ps) j; rw [nds_length] at this; have := h.kids; omega⟩
def KidsLt (ps : List Prt) : Prop := ∀ p ∈ ps, p.nd.kids.length ≤ 140737488355328
def LightRet (most : Nat) (ps : List Prt) (w : World) (e : Ending) (w' : World) : Prop := ∃ b : Bool, e = .returned (.bool b) ∧ (b = true → LightP most ps) ∧ Ext w w'
set_option maxRecDepth 100000 in
set_option maxHeartbeats 2000000 in
theorem lightParts_any (most : Nat) (A : Option Addr) (c : Nat) (ps : List Prt) (w : World) (hm : most ≤ 1000) (hP : Prts w A ps) (hl : ps.length ≤ 9223372036854775807) (hk : KidsLt ps) :
    Calls Tryz.prog 48 #[.slice A ps.length c, .int .i64 most] w (LightRet most ps w) := by
  have HP := zh hP
  have HK := zh hk
  clear hP hk
  go_enter Tryz.func48, Tryz.ntmps48
  go_wp2_with fail
  go_loopw [5, 6] (fun s i wr => ∃ j n : Nat, j ≤ ps.length ∧ j ≤ most + 1 ∧ i = .int .i64 j ∧ s = .int .i64 n ∧ Hid (n = kc (nds ps) 0 j) ∧ n ≤ 140737488355328 * j ∧ Hid (∀ i p, i < j → ps[i]? = some p → Lt20 p.nd.lo ∧ Lt20 p.nd.hi ∧ Lt20 p.nd.look) ∧ Hid (Ext w wr)) (fun _ i _ => ps.length - (intOf i).toNat)
  case atStart => exact ⟨0, 0, Nat.zero_le _, Nat.zero_le _, rfl, rfl, zh (kc_self _ _).symm, by omega, zh fun i p h => by omega, zh (by repeat first | exact xr _ | refine xa ?_ _ | refine xm ?_ _ _ | refine xd ?_ | refine xn ?_ _ | refine xs ?_ (by simp <;> omega) _)⟩
  case round =>
    obtain ⟨j, n, hj, hjm, rfl, rfl, hn, hn2, hpl, hx⟩ := hrel
    by_cases hlt : j < ps.length
    · by_cases hle : j ≤ most
      · obtain ⟨p, hp⟩ : ∃ p, ps[j]? = some p := ⟨_, List.getElem?_eq_getElem hlt⟩
        obtain ⟨bA, off, rfl, hbA, hcell⟩ := (HP.out.ext hx.out) (by omega)
        obtain ⟨d0, d1, d2, d3, d4, d5, d6, d7⟩ := hcell j p hp
        have hkl := HK.out p (List.mem_of_getElem? hp)
        have HN : Hid (n + p.nd.kids.length = kc (nds ps) 0 (j + 1)) := by rw [kc_add _ (Nat.zero_le j) (show j ≤ j + 1 by omega), kc_one (nds_get hp), ← hn.out]; exact zh rfl
        have HPJ := zh hp
        clear hcell hp
        by_cases hg : (Lt20 p.nd.lo ∧ Lt20 p.nd.hi ∧ Lt20 p.nd.look)
        · obtain ⟨⟨g1, g2⟩, ⟨g3, g4⟩, ⟨g5, g6⟩⟩ := hg
          go_wp2_with fail
          go_roundw
          case rel =>
            refine ⟨j + 1, n + p.nd.kids.length, by omega, by omega, by go_num, by go_num, HN, by omega, zh fun i q hi hq => ?_, zh (hx.out.trans (by repeat first | exact xr _ | refine xa ?_ _ | refine xm ?_ _ _ | refine xd ?_ | refine xn ?_ _ | refine xs ?_ (by simp <;> omega) _))⟩
            rcases (show i < j ∨ i = j by omega) with h | rfl
            · exact hpl.out i q h hq
            · rw [HPJ.out] at hq
              injection hq with hq
              subst hq
              exact ⟨⟨g1, g2⟩, ⟨g3, g4⟩, ⟨g5, g6⟩⟩
          case measure => simp [intOf]; omega
        · have HG := zh hg
          clear hg
          go_wp2_with fail
          all_goals first
            | (go_ret; exact ⟨false, rfl, (fun h => (by cases h)), hx.out.trans (by repeat first | exact xr _ | refine xa ?_ _ | refine xm ?_ _ _ | refine xd ?_ | refine xn ?_ _ | refine xs ?_ (by simp <;> omega) _)⟩)
            | (exfalso; have := HG.out; unfold Lt20 at this; omega)
      · obtain rfl : j = most + 1 := by omega
        have g1 : decide (most + 1 ≤ most) = false := by simp
        go_wp2_with fail
        all_goals first
          | (go_ret; exact ⟨false, rfl, (fun h => (by cases h)), hx.out⟩)
          | (exfalso; omega)
    · obtain rfl : j = ps.length := by omega
      have g1 : decide (ps.length < ps.length) = false := by simp
      by_cases hle : ps.length ≤ most
      · by_cases hks : n ≤ 2 * most
        · have hL : LightP most ps := ⟨hle, by rw [← hn.out]; exact hks, fun p hp => by
            obtain ⟨i, hi, rfl⟩ := List.getElem_of_mem hp
            exact hpl.out i _ hi (List.getElem?_eq_getElem hi)⟩
          have HL := zh hL
          clear hL
          go_wp2_with fail
          go_ret
          exact ⟨_, rfl, fun _ => HL.out, hx.out⟩
        · have hd : decide ((n : Int) ≤ 2 * (most : Int)) = false := decide_eq_false (by omega)
          go_wp2_with fail
          go_ret
          exact ⟨false, ret_bool (by first | rfl | exact hd | (simp; omega)), (fun h => (by cases h)), hx.out⟩
      · have g2 : decide (ps.length ≤ most) = false := decide_eq_false hle
        go_wp2_with fail
        go_ret
        exact ⟨false, rfl, (fun h => (by cases h)), hx.out⟩
theorem pv_append (ps qs : List Prt) : pv (ps ++ qs) = pv ps ++ pv qs := List.flatMap_append
theorem CellsAt.of_prts {w : World} {A : Option Addr} {ps : List Prt} (h : Prts w A ps) : CellsAt w A (pv ps) := fun h0 => by
  rw [pv_length] at h0
  obtain ⟨b, off, hA, hb, hc⟩ := h (by omega)
  refine ⟨b, off, hA, hb, fun j u hu => ?_⟩
  have hj : j < ps.length * 8 := by rw [← pv_length]; exact (List.getElem?_eq_some_iff.1 hu).1
  obtain ⟨k, r, rfl, hr⟩ : ∃ k r, j = k * 8 + r ∧ r < 8 := ⟨j / 8, j % 8, by omega, by omega⟩
  obtain ⟨p, hp⟩ : ∃ p, ps[k]? = some p := ⟨_, List.getElem?_eq_getElem (by omega)⟩
  obtain ⟨c0, c1, c2, c3, c4, c5, c6, c7⟩ := hc k p hp
  rw [pv_get r hp hr] at hu
  rw [← Nat.add_assoc]
  rcases (show r = 0 ∨ r = 1 ∨ r = 2 ∨ r = 3 ∨ r = 4 ∨ r = 5 ∨ r = 6 ∨ r = 7 by omega) with rfl | rfl | rfl | rfl | rfl | rfl | rfl | rfl <;> (cases hu; first | assumption | (simpa using c0))
theorem pv_one (ps : List Prt) : ∀ u ∈ pv ps, u.oneCell' = true := by
  intro u hu
  obtain ⟨x, _, hx⟩ := List.mem_flatMap.1 hu
  simp only [prtCells, List.mem_cons, List.not_mem_nil, or_false] at hx
  rcases hx with rfl | rfl | rfl | rfl | rfl | rfl | rfl | rfl <;> rfl

structure FineP (p : Prt) : Prop where
  sym : I64 p.nd.sym
  kind : I64 p.nd.kind
  lo : I64 p.nd.lo
  inn : I64 p.nd.inn
  hi : I64 p.nd.hi
  look : I64 p.nd.look
  met : 0 ≤ p.nd.met ∧ p.nd.met ≤ 18446744073709551615
  ks : ∀ k ∈ p.nd.kids, I64 k
theorem PrtOk.fine {w : World} {p : Prt} (h : PrtOk w p) : FineP p := ⟨h.sym, h.kind, h.lo, h.inn, h.hi, h.look, h.met, h.ks⟩
structure OwnP (w : World) (base : Nat) (A : Option Addr) (c : Nat) (qs : List Prt) : Prop where
  row : w.ownsRow base 34 8 (.slice A qs.length c) qs.length (pv qs)
  kids : ∀ q ∈ qs, OwnI w base q.kA q.kc q.nd.kids
  fine : ∀ q ∈ qs, FineP q
theorem OwnP.nil (w : World) (base : Nat) : OwnP w base none 0 [] := ⟨World.ownsRow_nil _ _ _ _, fun _ h => (by cases h), fun _ h => (by cases h)⟩
theorem OwnP.ext {w w' : World} {base : Nat} {A : Option Addr} {c : Nat} {qs : List Prt} (h : OwnP w base A c qs) (e : Ext w w') : OwnP w' base A c qs := ⟨own_ext h.row e, fun q hq => (h.kids q hq).ext e, h.fine⟩
theorem own_base' {w : World} {base base' : Nat} {e : TypeId} {size : Nat} {v : Value} {n : Nat} {xs : List Value} (h : w.ownsRow base e size v n xs) (hb : base' ≤ base) : w.ownsRow base' e size v n xs :=
  ⟨h.1, h.2.imp id fun ⟨g, cap, cur, h1, h2, h3⟩ => ⟨g, cap, cur, h1, Nat.le_trans hb h2, h3⟩⟩
theorem OwnP.base {w : World} {base base' : Nat} {A : Option Addr} {c : Nat} {qs : List Prt} (h : OwnP w base A c qs) (hb : base' ≤ base) : OwnP w base' A c qs := ⟨own_base' h.row hb, fun q hq => (h.kids q hq).base hb, h.fine⟩
theorem OwnP.cells {w : World} {base : Nat} {A : Option Addr} {c : Nat} {qs : List Prt} (h : OwnP w base A c qs) : Prts w A qs ∧ qs.length ≤ c ∧ c ≤ maxLen ∧ (A = none → c = 0) := by
  obtain ⟨A', cap, hv, h1, h2, h3, h4⟩ := own_cells h.row
  injection hv with a1 a2 a3
  subst a1 a3
  exact ⟨Prts.of_cells h1, h2, h3, h4⟩
theorem OwnP.oks {w : World} {base : Nat} {A : Option Addr} {c : Nat} {qs : List Prt} (h : OwnP w base A c qs) : PrtsOk w qs := fun q hq => by
  obtain ⟨k1, k2, k3, k4⟩ := (h.kids q hq).ints
  have f := h.fine q hq
  unfold maxLen at k3
  exact ⟨k1, k2, k3, k4, f.sym, f.kind, f.lo, f.inn, f.hi, f.look, f.met, f.ks⟩
theorem OwnP.ps {w : World} {base : Nat} {A : Option Addr} {c : Nat} {qs : List Prt} (h : OwnP w base A c qs) (f : Few qs) : PS w A c qs := by
  obtain ⟨h1, h2, h3, h4⟩ := h.cells
  unfold maxLen at h3
  exact ⟨h1, h.oks, f, h2, h3, h4⟩
theorem OwnI.turn {w w' : World} {base : Nat} {A : Option Addr} {c : Nat} {xs : List Int} {S : Nat → Prop} (h : OwnI w base A c xs) (t : Turn S w w') (hS : ∀ k, base ≤ k → ¬ S k) : OwnI w' base A c xs :=
  own_keep h fun g hg => t.block g (own_old h g hg) (hS g (own_block h g hg))
theorem Turn.set {S : Nat → Prop} {a b : World} (h : Turn S a b) {p : Addr} (hp : S p.block) {u : Value} : Turn S a (b.setCell p u) := h.trans (Turn.setCell b hp u)
theorem kids_keep {w w' : World} {base base' : Nat} {A : Option Addr} {c : Nat} {xs : List Int} (h : OwnI w base A c xs) {v : Value} {n : Nat} {us : List Value} (hp : w.ownsRow base' 34 8 v n us)
    (hg : ∀ b, b < w.heap.size → some b ≠ v.ownBlock → w'.heap[b]? = w.heap[b]?) : OwnI w' base A c xs := by
  refine own_keep h fun g hgo => hg g (own_old h g hgo) fun he => ?_
  obtain ⟨c1, e1⟩ := own_obj h g hgo
  obtain ⟨c2, e2⟩ := own_obj hp g he.symm
  rw [e1] at e2
  injection e2 with e2
  injection e2 with _ e2
  cases e2
theorem infoPartT : (Tryz.prog.info? 34).map (fun i => (i.zero, i.size, i.bytes)) = some (some (.agg #[.int .i64 0, .int .i64 0, .int .i64 0, .int .i64 0, .int .i64 0, .int .i64 0, .slice none 0 0, .int .u64 0]), 8, 80) := by kernel_rfl
def RowP (w : World) (base : Nat) (v : Value) (qs : List Prt) : Prop := ∃ A c, v = .slice A qs.length c ∧ OwnP w base A c qs
theorem RowP.ext {w w' : World} {base : Nat} {v : Value} {qs : List Prt} (h : RowP w base v qs) (e : Ext w w') : RowP w' base v qs := by
  obtain ⟨A, c, hv, ho⟩ := h
  exact ⟨A, c, hv, ho.ext e⟩
theorem pv_single (q : Prt) : pv [q] = prtCells q := by simp [pv]
theorem app_part (w0 : World) {w : World} {ops : Array Oper} {rest : List Oper} {o : Oper} {a : Act} {Q : Exit → Act → World → Prop} (hw : Region.wanted o (yielded ops a.tmps) = true) (s x : Operand)
    (ho : o.op = .call { callee := .builtin .append, args := #[s, x], argTypes := #[22, 22] }) {qs : List Prt} {v : Value} (hr : RowP w w0.heap.size v qs) (q : Prt) (g : Nat)
    (hs : a.eval s = v) (hx : a.eval x = .slice (some ⟨g, 0, none⟩) 1 1) (hc : CellsAt w (some ⟨g, 0, none⟩) (prtCells q)) (hk : OwnI w w0.heap.size q.kA q.kc q.nd.kids) (hf : FineP q) (hlen : qs.length ≤ 1000000) (hext : Ext w0 w)
    (h : ∀ v' w', RowP w' w0.heap.size v' (qs ++ [q]) → Ext w0 w' → wpList Tryz.prog ops Q rest (a.put o.dst v') w') : wpList Tryz.prog ops Q (o :: rest) a w := by
  obtain ⟨A, c, rfl, hown⟩ := hr
  obtain ⟨i3, hi, hz0, hz1, hz2⟩ := info_parts infoPartT
  refine wpList_append_cells w hw s x 22 ho w0.heap.size 34 i3 _ 8 80 Tryz.underlying22 hi hz0 hz1 hz2 rfl (by omega) _ qs.length (pv qs) hs hown.row (some ⟨g, 0, none⟩) 1 1 (pv [q]) hx (fun h => by cases h) (pv_length _)
    (by rw [pv_single]; exact hc) (pv_one _) (by unfold maxLen; omega) (by omega) hext.size fun v' w' h2 h3 h4 => ?_
  obtain ⟨A', c', hv', _⟩ := own_cells h2
  subst hv'
  have hkeep : ∀ b, b < w.heap.size → some b ≠ (Value.slice A qs.length c).ownBlock → w'.heap[b]? = w.heap[b]? := fun b hb hne => h3.block b hb hne
  refine h _ w' ⟨A', c', by rw [List.length_append]; rfl, ?_, fun p hp => ?_, fun p hp => ?_⟩ (hext.grown h3 fun g hg => own_block hown.row g hg)
  · rw [pv_append, List.length_append]
    exact h2
  · rcases List.mem_append.1 hp with hp | hp
    · exact kids_keep (hown.kids p hp) hown.row hkeep
    · rw [List.mem_singleton.1 hp]
      exact kids_keep hk hown.row hkeep
  · rcases List.mem_append.1 hp with hp | hp
    · exact hown.fine p hp
    · rw [List.mem_singleton.1 hp]
      exact hf
def PartsRet (w : World) (l : List Nd) (e : Ending) (w' : World) : Prop := ∃ A c qs, e = .returned (.slice A (qs : List Prt).length c) ∧ nds qs = l ∧ OwnP w' w.heap.size A c qs ∧ Ext w w'
theorem plus_any (n : Int) (w : World) : Calls Tryz.prog 128 #[.int .i64 n] w fun e w' => e = .returned (.func (.func 174) #[] #[pt w.heap.size]) ∧ w' = w.alloc (.cells #[.int .i64 n] 3) := by
  go_enter Tryz.func128, Tryz.ntmps128
  go_wp2_with fail
  go_ret
  exact ⟨rfl, rfl⟩
theorem plus1_any (x n : Int) (b : Nat) (w : World) (hb : w.heap[b]? = some (.cells #[.int .i64 n] 3)) (h : I64 (x + n)) : Calls Tryz.prog 174 #[.int .i64 x, pt b] w fun e w' => e = .returned (.int .i64 (x + n)) ∧ Ext w w' := by
  have c1 := cell_of_row _ _ 0 _ _ _ hb
  simp at c1
  have l1 := lt_of_heap hb
  have hw : IntKind.i64.wrap (x + n) = x + n := IntWalk.i64_in _ h
  unfold I64 at h
  clear hb
  go_enter Tryz.func174, Tryz.ntmps174
  go_wp2_with fail
  go_ret
  exact ⟨rfl, Ext.refl _⟩
set_option maxRecDepth 100000 in
set_option maxHeartbeats 1000000 in
theorem eachInts (F : Nat) (lb : Array Value) (f : Int → Int) (A : Option Addr) (c : Nat) (xs : List Int) (w : World) (hP : Ints w A xs) (hl : xs.length ≤ 1000000) (eg : Enters Tryz.prog F)
    (hf : ∀ (wr : World) (x : Int), Ext w wr → x ∈ xs → Calls Tryz.prog F (#[.int .i64 x] ++ lb) wr fun e w' => e = .returned (.int .i64 (f x)) ∧ Ext wr w') :
    Calls Tryz.prog 173 #[.slice A xs.length c, .func (.func F) #[] lb] w (IntsRet w (xs.map f)) := by
  have HP := zh hP
  have HF := zh hf
  unfold Enters at eg
  clear hP hf
  go_enter Tryz.func173, Tryz.ntmps173
  go_wp2
  go_loopw [5, 10] (fun v i wr => ∃ j : Nat, j ≤ xs.length ∧ i = .int .i64 j ∧ Hid (RowI wr w.heap.size v ((xs.take j).map f)) ∧ Hid (Ext w wr)) (fun _ i _ => xs.length - (intOf i).toNat)
  case atStart => exact ⟨0, Nat.zero_le _, rfl, zh ⟨none, 0, rfl, OwnI.nil _ _⟩, zh (Ext.refl _)⟩
  case round =>
    obtain ⟨j, hj, rfl, hr, hx⟩ := hrel
    by_cases hlt : j < xs.length
    · obtain ⟨b, off, rfl, hb, hcell⟩ := (HP.out.ext hx.out) (by omega)
      have d0 := hcell j hlt
      obtain ⟨x, hxe⟩ : ∃ x, xs.getD j 0 = x := ⟨_, rfl⟩
      have hxm : xs[j] = x := by rw [← hxe, List.getD_eq_getElem?_getD, List.getElem?_eq_getElem hlt]; rfl
      rw [hxe] at d0
      have CF := zh (HF.out wr x hx.out (hxm ▸ List.getElem_mem hlt))
      have HS : Hid ((xs.take (j + 1)).map f = (xs.take j).map f ++ [f x]) := zh (by rw [List.take_succ_eq_append_getElem hlt, hxm, List.map_append]; rfl)
      have HL : Hid (((xs.take j).map f).length ≤ 1000000) := zh (by rw [List.length_map, List.length_take]; omega)
      clear hcell hxe hxm
      go_wp2_with fail
      refine CF.out.mono ?_
      rintro e w2 ⟨rfl, hx2⟩
      have HX2 := zh (hx.out.trans hx2)
      have HR2 := zh (hr.out.ext hx2)
      clear hx2 hr hx
      go_wp2_with (at_builtin; refine app_int w (by rfl) (.tmp 14) (.tmp 18) rfl (HR2.out.ext (by repeat first | exact xr _ | refine xa ?_ _ | refine xm ?_ _ _ | refine xd ?_ | refine xn ?_ _ | refine xs ?_ (by simp <;> omega) _)) (f x) w2.heap.size rfl rfl (by simp) (by simp [go_sem]) HL.out (HX2.out.trans (by repeat first | exact xr _ | refine xa ?_ _ | refine xm ?_ _ _ | refine xd ?_ | refine xn ?_ _ | refine xs ?_ (by simp <;> omega) _)) ?_; intro v7 w7 hr7 hg7 hx7)
      have HR7 := zh hr7
      have HX7 := zh hx7
      clear hr7 hx7 hg7
      go_roundw
      case rel => exact ⟨j + 1, by omega, by go_num, by rw [HS.out]; exact HR7, HX7⟩
      case measure => simp [intOf]; omega
    · obtain rfl : j = xs.length := by omega
      obtain ⟨A1, c1, rfl, ho⟩ := hr.out
      have HO := zh ho
      clear ho
      go_wp2_with fail
      go_ret
      rw [List.take_length] at HO
      exact ⟨A1, c1, by show Ending.returned (Value.slice A1 ((xs.take xs.length).map f).length c1) = _; rw [List.take_length], HO.out, hx.out⟩
def MovedRet (w : World) (f : Int → Int) (p : Prt) (e : Ending) (w' : World) : Prop := ∃ A c, e = .returned (aggV ⟨p.nd.by f, A, c⟩) ∧ OwnI w' w.heap.size A c (p.nd.by f).kids ∧ Ext w w'
set_option maxRecDepth 100000 in
set_option maxHeartbeats 1000000 in
theorem moved1_any (F : Nat) (lb : Array Value) (f : Int → Int) (p : Prt) (gb : Nat) (w : World) (hp : PrtOk w p) (hl : p.nd.kids.length ≤ 1000000) (eg : Enters Tryz.prog F) (hgb : w.heap[gb]? = some (.cells #[.func (.func F) #[] lb] 88))
    (hf : ∀ (wr : World) (x : Int), Ext w wr → x ∈ p.nd.kids → Calls Tryz.prog F (#[.int .i64 x] ++ lb) wr fun e w' => e = .returned (.int .i64 (f x)) ∧ Ext wr w') :
    Calls Tryz.prog 172 #[aggV p, pt gb] w (MovedRet w f p) := by
  have CE := zh (fun w1 (x : Ext w w1) => eachInts F lb f p.kA p.kc p.nd.kids w1 (hp.kids.ext x) hl eg (fun wr y h1 h2 => hf wr y (x.trans h1) h2))
  have c1 := cell_of_row _ _ 0 _ _ _ hgb
  simp at c1
  have l1 := lt_of_heap hgb
  have hc1 := hp.cap
  have hc2 := hp.top
  obtain ⟨⟨sym, kind, lo, inn, hi, look, kids, met⟩, kA, kc⟩ := p
  dsimp only at *
  clear hgb hf hp
  go_enter Tryz.func172, Tryz.ntmps172
  go_wp2_with fail
  refine (CE.out _ (by repeat first | exact xr _ | refine xa ?_ _ | refine xm ?_ _ _ | refine xd ?_ | refine xn ?_ _ | refine xs ?_ (by simp <;> omega) _)).mono ?_
  rintro e w2 ⟨A2, c2, rfl, ho2, hx2⟩
  have hb0 := ext_block (ext_block (heap_alloc_new w (.cells #[.int .i64 sym, .int .i64 kind, .int .i64 lo, .int .i64 inn, .int .i64 hi, .int .i64 look, .slice kA kids.length kc, .int .u64 met] 34)) ((Ext.refl _).alloc (.cells #[.int .i64 0, .int .i64 0, .int .i64 0, .int .i64 0, .int .i64 0, .int .i64 0, .slice none 0 0, .int .u64 0] 34))) hx2
  have hb1 := ext_block (heap_alloc_new (w.alloc (.cells #[.int .i64 sym, .int .i64 kind, .int .i64 lo, .int .i64 inn, .int .i64 hi, .int .i64 look, .slice kA kids.length kc, .int .u64 met] 34)) (.cells #[.int .i64 0, .int .i64 0, .int .i64 0, .int .i64 0, .int .i64 0, .int .i64 0, .slice none 0 0, .int .u64 0] 34)) hx2
  rw [World.size_alloc] at hb1
  have HX2 : Hid (Ext w w2) := zh (Ext.trans (by repeat first | exact xr _ | refine xa ?_ _ | refine xm ?_ _ _ | refine xd ?_ | refine xn ?_ _ | refine xs ?_ (by simp <;> omega) _) hx2)
  have HO2 := zh ho2
  clear hx2 ho2
  obtain ⟨b, hb⟩ : ∃ b, w.heap.size = b := ⟨_, rfl⟩
  rw [hb] at hb0 hb1 ⊢
  (have x0 := cell_of_row _ _ 0 _ _ _ hb0); (have x1 := cell_of_row _ _ 1 _ _ _ hb0); (have x2 := cell_of_row _ _ 2 _ _ _ hb0); (have x3 := cell_of_row _ _ 3 _ _ _ hb0); (have x4 := cell_of_row _ _ 4 _ _ _ hb0); (have x5 := cell_of_row _ _ 5 _ _ _ hb0); (have x6 := cell_of_row _ _ 6 _ _ _ hb0); (have x7 := cell_of_row _ _ 7 _ _ _ hb0); (simp at x0 x1 x2 x3 x4 x5 x6 x7)
  (have y0 := cell_of_row _ _ 0 _ _ _ hb1); (have y1 := cell_of_row _ _ 1 _ _ _ hb1); (have y2 := cell_of_row _ _ 2 _ _ _ hb1); (have y3 := cell_of_row _ _ 3 _ _ _ hb1); (have y4 := cell_of_row _ _ 4 _ _ _ hb1); (have y5 := cell_of_row _ _ 5 _ _ _ hb1); (have y6 := cell_of_row _ _ 6 _ _ _ hb1); (have y7 := cell_of_row _ _ 7 _ _ _ hb1); (simp at y0 y1 y2 y3 y4 y5 y6 y7)
  have lb0 := lt_of_heap hb0
  have lb1 := lt_of_heap hb1
  have f0 : ∀ i, w2.frozen? ⟨b, i, none⟩ = false := fun i => by simp [World.frozen?, hb0]
  have f1 : ∀ i, w2.frozen? ⟨b + 1, i, none⟩ = false := fun i => by simp [World.frozen?, hb1]
  have g6 := f0 6
  (have z0 := f1 0); (have z1 := f1 1); (have z2 := f1 2); (have z3 := f1 3); (have z4 := f1 4); (have z5 := f1 5); (have z6 := f1 6); (have z7 := f1 7)
  have HB := zh hb
  clear hb0 hb1 f0 f1 hb
  go_wp2_with fail
  have T : Turn (fun k => b ≤ k ∧ k ≤ b + 1) w2 (((((((((w2.setCell ⟨b, 6, none⟩ (.slice A2 kids.length c2)).setCell ⟨b + 1, 0, none⟩ (.int .i64 sym)).setCell ⟨b + 1, 1, none⟩ (.int .i64 kind)).setCell ⟨b + 1, 2, none⟩ (.int .i64 lo)).setCell ⟨b + 1, 3, none⟩ (.int .i64 inn)).setCell ⟨b + 1, 4, none⟩ (.int .i64 hi)).setCell ⟨b + 1, 5, none⟩ (.int .i64 look)).setCell ⟨b + 1, 6, none⟩ (.slice A2 kids.length c2)).setCell ⟨b + 1, 7, none⟩ (.int .u64 met)) := by
    have s0 : b ≤ b ∧ b ≤ b + 1 := ⟨Nat.le_refl _, Nat.le_succ _⟩
    have s1 : b ≤ b + 1 ∧ b + 1 ≤ b + 1 := ⟨Nat.le_succ _, Nat.le_refl _⟩
    exact Turn.set (Turn.set (Turn.set (Turn.set (Turn.set (Turn.set (Turn.set (Turn.set (Turn.set (Turn.refl w2) s0) s1) s1) s1) s1) s1) s1) s1) s1
  refine bodyPost_ret (v := .agg #[.int .i64 sym, .int .i64 kind, .int .i64 lo, .int .i64 inn, .int .i64 hi, .int .i64 look, .slice A2 kids.length c2, .int .u64 met]) (by simp [results, Tryz.results172, go_sem, *]) rfl ⟨A2, c2, ?_, ?_, ?_⟩
  · simp [Nd.by]
  · have hsz := HB.out
    have h1 : OwnI w2 (b + 1 + 1) A2 c2 (kids.map f) := by
      have := HO2.out
      rw [World.size_alloc, World.size_alloc, hsz] at this
      exact this
    exact (h1.turn T (by rintro k hk ⟨_, h2⟩; omega)).base (by omega)
  · have hsz := HB.out
    exact Ext.of_below (HX2.out.below.trans (T.below HX2.out.size fun k hk => by omega))
theorem Few.kids_le {ps : List Prt} (h : Few ps) {p : Prt} (hp : p ∈ ps) : p.nd.kids.length ≤ 1000000 := by
  obtain ⟨j, hj, rfl⟩ := List.getElem_of_mem hp
  have := h.kids (j + 1)
  rw [kc_add _ (Nat.zero_le j) (show j ≤ j + 1 by omega), kc_one (nds_get (List.getElem?_eq_getElem hj))] at this
  omega
theorem Few.of_lens {ps qs : List Prt} (h : Few ps) (he : (nds qs).map (fun p => p.kids.length) = (nds ps).map (fun p => p.kids.length)) : Few qs := by
  refine ⟨?_, fun j => by rw [kc_same he]; exact h.kids j⟩
  have := congrArg List.length he
  rw [List.length_map, List.length_map, nds_length, nds_length] at this
  rw [this]
  exact h.len
set_option maxRecDepth 100000 in
set_option maxHeartbeats 2000000 in
theorem eachParts (f : Int → Int) (gb : Nat) (A : Option Addr) (c : Nat) (ps : List Prt) (w : World) (hP : Prts w A ps) (hO : PrtsOk w ps) (hl : ps.length ≤ 1000000) (hfi : ∀ p ∈ ps, ∀ x ∈ p.nd.kids, I64 (f x))
    (hf : ∀ (wr : World) (p : Prt), Ext w wr → p ∈ ps → Calls Tryz.prog 172 #[aggV p, pt gb] wr (MovedRet wr f p)) :
    Calls Tryz.prog 171 #[.slice A ps.length c, .func (.func 172) #[] #[pt gb]] w (PartsRet w ((nds ps).map (Nd.by f))) := by
  have HP := zh hP
  have HO := zh hO
  have HF := zh hf
  have HFI := zh hfi
  clear hP hf hO hfi
  go_enter Tryz.func171, Tryz.ntmps171
  go_wp2
  go_loopw [5, 10] (fun v i wr => ∃ (j : Nat) (qs : List Prt), j ≤ ps.length ∧ i = .int .i64 j ∧ Hid (qs.length = j ∧ nds qs = ((nds ps).take j).map (Nd.by f)) ∧ Hid (RowP wr w.heap.size v qs) ∧ Hid (Ext w wr)) (fun _ i _ => ps.length - (intOf i).toNat)
  case atStart => exact ⟨0, [], Nat.zero_le _, rfl, zh ⟨rfl, rfl⟩, zh ⟨none, 0, rfl, OwnP.nil _ _⟩, zh (Ext.refl _)⟩
  case round =>
    obtain ⟨j, qs, hj, rfl, hq, hr, hx⟩ := hrel
    by_cases hlt : j < ps.length
    · obtain ⟨p, hp⟩ : ∃ p, ps[j]? = some p := ⟨_, List.getElem?_eq_getElem hlt⟩
      obtain ⟨b, off, rfl, hb, hcell⟩ := (HP.out.ext hx.out) (by omega)
      obtain ⟨d0, d1, d2, d3, d4, d5, d6, d7⟩ := hcell j _ hp
      have hpo := HO.out.get hp
      have o1 := hpo.cap
      have o2 := hpo.top
      have HS : Hid (((nds ps).take (j + 1)).map (Nd.by f) = ((nds ps).take j).map (Nd.by f) ++ [p.nd.by f]) := zh (by
        have h1 := nds_get hp
        rw [List.getElem?_eq_getElem (by rw [nds_length]; exact hlt)] at h1
        injection h1 with h1
        rw [List.take_succ_eq_append_getElem (by rw [nds_length]; exact hlt), h1, List.map_append]
        rfl)
      have CF := zh (fun w1 (x : Ext w w1) => HF.out w1 p x (List.mem_of_getElem? hp))
      have HPO := zh hpo
      have HFK := zh (HFI.out p (List.mem_of_getElem? hp))
      clear hcell hp hpo
      go_wp2_with fail
      refine (CF.out _ (hx.out.trans (by repeat first | exact xr _ | refine xa ?_ _ | refine xm ?_ _ _ | refine xd ?_ | refine xn ?_ _ | refine xs ?_ (by simp <;> omega) _))).mono ?_
      rintro e w2 ⟨A2, c2, rfl, ho2, hx2⟩
      have HX2 := zh ((hx.out.trans (by repeat first | exact xr _ | refine xa ?_ _ | refine xm ?_ _ _ | refine xd ?_ | refine xn ?_ _ | refine xs ?_ (by simp <;> omega) _)).trans hx2)
      have HR2 := zh ((hr.out.ext (by repeat first | exact xr _ | refine xa ?_ _ | refine xm ?_ _ _ | refine xd ?_ | refine xn ?_ _ | refine xs ?_ (by simp <;> omega) _)).ext hx2)
      have HO2 : Hid (OwnI w2 w.heap.size A2 c2 (p.nd.by f).kids) := zh (ho2.base (by have := hx.out.size; simp; omega))
      have HL : Hid (qs.length ≤ 1000000) := zh (by have := hq.out.1; omega)
      have HFN : Hid (FineP ⟨p.nd.by f, A2, c2⟩) := by
        have hf := HPO.out.fine
        exact ⟨hf.sym, hf.kind, hf.lo, hf.inn, hf.hi, hf.look, hf.met, fun k hk => by
          obtain ⟨x, hx, rfl⟩ := List.mem_map.1 hk
          exact HFK.out x hx⟩
      clear hx2 hr hx ho2 d0 d1 d2 d3 d4 d5 d6 d7
      go_wp2_with (at_builtin; refine app_part w (by rfl) (.tmp 14) (.tmp 18) rfl (HR2.out.ext (by repeat first | exact xr _ | refine xa ?_ _ | refine xm ?_ _ _ | refine xd ?_ | refine xn ?_ _ | refine xs ?_ (by simp <;> omega) _)) ⟨p.nd.by f, A2, c2⟩ w2.heap.size rfl rfl (cells_lit _ _ _ _ _ rfl (by simp [prtCells, Nd.by])) (HO2.out.ext (by repeat first | exact xr _ | refine xa ?_ _ | refine xm ?_ _ _ | refine xd ?_ | refine xn ?_ _ | refine xs ?_ (by simp <;> omega) _)) HFN.out HL.out (HX2.out.trans (by repeat first | exact xr _ | refine xa ?_ _ | refine xm ?_ _ _ | refine xd ?_ | refine xn ?_ _ | refine xs ?_ (by simp <;> omega) _)) ?_; intro v7 w7 hr7 hx7)
      have HR7 := zh hr7
      have HX7 := zh hx7
      clear hr7 hx7
      go_roundw
      case rel => exact ⟨j + 1, _, by omega, by go_num, zh ⟨by rw [List.length_append, hq.out.1]; rfl, by rw [HS.out, ← hq.out.2]; simp [nds]⟩, HR7, HX7⟩
      case measure => simp [intOf]; omega
    · obtain rfl : j = ps.length := by omega
      obtain ⟨A1, c1, rfl, ho⟩ := hr.out
      have HO1 := zh ho
      clear ho
      go_wp2_with fail
      go_ret
      refine ⟨A1, c1, qs, rfl, ?_, HO1.out, hx.out⟩
      rw [hq.out.2, List.take_of_length_le (by rw [nds_length]; omega)]
set_option maxRecDepth 100000 in
set_option maxHeartbeats 1000000 in
theorem moved_any (F : Nat) (lb : Array Value) (f : Int → Int) (A : Option Addr) (c : Nat) (ps : List Prt) (w : World) (hP : Prts w A ps) (hO : PrtsOk w ps) (hw : Few ps) (hfi : ∀ p ∈ ps, ∀ x ∈ p.nd.kids, I64 (f x)) (eg : Enters Tryz.prog F)
    (hf : ∀ (wr : World) (x : Int), Ext w wr → (∃ p ∈ ps, x ∈ p.nd.kids) → Calls Tryz.prog F (#[.int .i64 x] ++ lb) wr fun e w' => e = .returned (.int .i64 (f x)) ∧ Ext wr w') :
    Calls Tryz.prog 127 #[.slice A ps.length c, .func (.func F) #[] lb] w (PartsRet w ((nds ps).map (Nd.by f))) := by
  have CE := zh (eachParts f w.heap.size A c ps (w.alloc (.cells #[.func (.func F) #[] lb] 88)) (hP.ext (by repeat first | exact xr _ | refine xa ?_ _ | refine xm ?_ _ _ | refine xd ?_ | refine xn ?_ _ | refine xs ?_ (by simp <;> omega) _)) (hO.ext (by repeat first | exact xr _ | refine xa ?_ _ | refine xm ?_ _ _ | refine xd ?_ | refine xn ?_ _ | refine xs ?_ (by simp <;> omega) _)) (by have := hw.len; omega) hfi
    (fun wr p h1 h2 => moved1_any F lb f p w.heap.size wr ((hO p h2).ext (Ext.trans (by repeat first | exact xr _ | refine xa ?_ _ | refine xm ?_ _ _ | refine xd ?_ | refine xn ?_ _ | refine xs ?_ (by simp <;> omega) _) h1)) (hw.kids_le h2) eg (ext_block (heap_alloc_new w _) h1) (fun w1 x h3 h4 => hf w1 x (Ext.trans (by repeat first | exact xr _ | refine xa ?_ _ | refine xm ?_ _ _ | refine xd ?_ | refine xn ?_ _ | refine xs ?_ (by simp <;> omega) _) (h1.trans h3)) ⟨p, h2, h4⟩)))
  have hl := hw.len
  clear hP hO hw hfi eg hf
  go_enter Tryz.func127, Tryz.ntmps127
  go_wp2_with fail
  refine CE.out.mono ?_
  rintro e w2 ⟨A2, c2, qs, rfl, hn, ho, hx⟩
  have HN := zh hn
  have HO := zh ho
  have HX := zh hx
  clear hn ho hx
  go_wp2_with fail
  go_ret
  exact ⟨A2, c2, qs, rfl, HN.out, HO.out.base (by simp), Ext.trans (by repeat first | exact xr _ | refine xa ?_ _ | refine xm ?_ _ _ | refine xd ?_ | refine xn ?_ _ | refine xs ?_ (by simp <;> omega) _) HX.out⟩
set_option maxRecDepth 100000 in
set_option maxHeartbeats 1000000 in
theorem copy_any (A : Option Addr) (c : Nat) (ps : List Prt) (w : World) (hP : Prts w A ps) (hO : PrtsOk w ps) (hw : Few ps) : Calls Tryz.prog 74 #[.slice A ps.length c] w (PartsRet w (nds ps)) := by
  have CM := zh (moved_any 174 #[pt w.heap.size] (fun x => x + 0) A c ps (w.alloc (.cells #[.int .i64 0] 3)) (hP.ext (by repeat first | exact xr _ | refine xa ?_ _ | refine xm ?_ _ _ | refine xd ?_ | refine xn ?_ _ | refine xs ?_ (by simp <;> omega) _)) (hO.ext (by repeat first | exact xr _ | refine xa ?_ _ | refine xm ?_ _ _ | refine xd ?_ | refine xn ?_ _ | refine xs ?_ (by simp <;> omega) _)) hw (fun p hp x hx => by rw [Int.add_zero]; exact (hO p hp).ks x hx)
    (enters_of Tryz.func174 (by kernel_rfl) rfl) (fun wr x h1 ⟨p, hp, hx⟩ => plus1_any x 0 w.heap.size wr (ext_block (heap_alloc_new w _) h1) (by rw [Int.add_zero]; exact (hO p hp).ks x hx)))
  have HID : Hid ((nds ps).map (Nd.by fun x => x + 0) = nds ps) := zh (by
    exact (List.map_congr_left (g := id) fun p _ => Nd.by_id fun k _ => Int.add_zero k).trans (List.map_id _))
  clear hP hO hw
  go_enter Tryz.func74, Tryz.ntmps74
  go_wp2_with fail
  refine (plus_any 0 w).mono ?_
  rintro e w1 ⟨rfl, rfl⟩
  go_wp2_with fail
  refine CM.out.mono ?_
  rintro e w2 ⟨A2, c2, qs, rfl, hn, ho, hx⟩
  rw [HID.out] at hn
  have HN := zh hn
  have HO := zh ho
  have HX := zh hx
  clear hn ho hx
  go_wp2_with fail
  go_ret
  exact ⟨A2, c2, qs, rfl, HN.out, HO.out.base (by simp), Ext.trans (by repeat first | exact xr _ | refine xa ?_ _ | refine xm ?_ _ _ | refine xd ?_ | refine xn ?_ _ | refine xs ?_ (by simp <;> omega) _) HX.out⟩
theorem nds_drop (ps : List Prt) (i : Nat) : nds (ps.drop i) = (nds ps).drop i := by unfold nds; rw [List.map_drop]
theorem nds_take (ps : List Prt) (i : Nat) : nds (ps.take i) = (nds ps).take i := by unfold nds; rw [List.map_take]
theorem Prts.slice {w : World} {b off : Nat} {ps : List Prt} (h : Prts w (some ⟨b, off, none⟩) ps) (i n : Nat) : Prts w (some ⟨b, off + i * 8, none⟩) ((ps.drop i).take n) := fun h0 => by
  rw [List.length_take, List.length_drop] at h0
  obtain ⟨b', off', hA, hb, hcell⟩ := h (by omega)
  injection hA with hA
  injection hA with hA hB
  subst hA hB
  refine ⟨b, off + i * 8, rfl, hb, fun k p hk => ?_⟩
  rw [List.getElem?_take] at hk
  split at hk
  · rw [List.getElem?_drop] at hk
    have := hcell (i + k) p hk
    rw [Nat.add_mul, ← Nat.add_assoc] at this
    exact this
  · cases hk
theorem PrtsOk.slice {w : World} {ps : List Prt} (h : PrtsOk w ps) (i n : Nat) : PrtsOk w ((ps.drop i).take n) := fun p hp => h p (List.mem_of_mem_drop (List.mem_of_mem_take hp))
theorem kc_slice (l : List Nd) (i n j : Nat) : kc ((l.drop i).take n) 0 j ≤ kc l 0 (i + min j n) := by
  have e : kc ((l.drop i).take n) 0 j = kc l i (i + min j n) := by
    unfold kc
    rw [List.drop_zero, List.take_take, List.drop_take, Nat.add_sub_cancel_left]
  rw [e, kc_add l (Nat.zero_le i) (show i ≤ i + min j n by omega)]
  omega
theorem Few.slice {ps : List Prt} (h : Few ps) (i n : Nat) : Few ((ps.drop i).take n) := by
  refine ⟨by rw [List.length_take, List.length_drop]; have := h.len; omega, fun j => ?_⟩
  rw [nds_take, nds_drop]
  exact Nat.le_trans (kc_slice _ _ _ _) (h.kids _)
section
variable {A : Option Addr} {c : Nat} {ps : List Prt} {w : World}
set_option maxRecDepth 100000 in
set_option maxHeartbeats 2000000 in
theorem Sub_yes (i m : Nat) (h : PS w A c ps) (T : Tree (nds ps)) (hp : Part (nds ps) i m) : Calls Tryz.prog 75 #[.slice A ps.length c, .int .i64 i] w (PartsRet w (subF (nds ps) i m)) := by
  have CH := zh (is_true i h ⟨T, by omega, by have := hp.lt; omega⟩)
  have HS := zh h
  have HP := zh hp
  have hl := h.few.len
  have hc1 := h.cap
  have hc2 := h.top
  have hlt := hp.lt
  have hme := hp.lt_end
  have hml := hp.le
  rw [nds_length] at hlt hml
  obtain ⟨b, off, rfl, hb, _⟩ := h.parts (by omega)
  have KF : Hid (∀ p ∈ (ps.drop i).take (m - i), ∀ x ∈ p.nd.kids, ∃ k : Nat, x = (k : Int) ∧ i < k ∧ k < m) := zh (by
    intro p hpm x hx
    obtain ⟨j, hj, rfl⟩ := List.getElem_of_mem hpm
    rw [List.length_take, List.length_drop] at hj
    have e : ps[i + j]? = some (((ps.drop i).take (m - i))[j]) := by
      rw [← List.getElem?_drop, ← List.getElem?_take_of_lt (show j < m - i by omega), List.getElem?_eq_getElem]
    obtain ⟨k, h1, h2, h3⟩ := hp.kid_in (show i ≤ i + j by omega) (by omega) (nds_get e) x hx
    exact ⟨k, h1, by omega, h3⟩)
  clear h T hp
  have s1 : IntKind.i64.wrap (-(i : Int)) = -(i : Int) := IntWalk.i64_in _ (by omega)
  go_enter Tryz.func75, Tryz.ntmps75
  go_wp2_with fail
  refine CH.out.mono ?_
  rintro e w2 ⟨rfl, hx2⟩
  have HX := zh hx2
  clear hx2
  go_upto_region 3 with fail
  refine wp_region_segs (11) [([0, 1, 2, 3, 6, 7], 4), ([5], 8), ([], 9)] [10] (by kernel_rfl) (by kernel_rfl) ?_
  (refine segs_cons fun K hK => ?_); (first | (simp only [pick_nil]) | (simp only [pick, nthC])); (repeat (go_big_quiet_step (fail))); (refine wpQuiet_nil (hK _ fun next hn => ?_)); (clear hK K); (simp only [pick, nthC])
  go_wp2_with fail
  refine (end_any' i m (HS.out.ext (HX.out.trans (by repeat first | exact xr _ | refine xa ?_ _ | refine xm ?_ _ _ | refine xd ?_ | refine xn ?_ _ | refine xs ?_ (by simp <;> omega) _))) HP.out).mono ?_
  rintro e w3 ⟨rfl, hx3⟩
  have X3 : Hid (Ext w2 w3) := zh (Ext.trans (by repeat first | exact xr _ | refine xa ?_ _ | refine xm ?_ _ _ | refine xd ?_ | refine xn ?_ _ | refine xs ?_ (by simp <;> omega) _) hx3)
  clear hx3
  go_wp2_with fail
  refine segQ_mk (fun _ => laid X3.out) (hn _ _ ?_)
  clear hn next
  (refine segs_cons fun K hK => ?_); (first | (simp only [pick_nil]) | (simp only [pick, nthC])); (repeat (go_big_quiet_step (fail))); (refine wpQuiet_nil (hK _ fun next hn => ?_)); (clear hK K); (simp only [pick, nthC])
  go_wp2_with fail
  refine (plus_any _ w3).mono ?_
  rintro e w4 ⟨rfl, rfl⟩
  have X4 : Hid (Ext w2 (w3.alloc (.cells #[.int .i64 (-(i : Int))] 3))) := zh (X3.out.alloc _)
  go_wp2_with fail
  refine segQ_mk (fun _ => laid X4.out) (hn _ _ ?_)
  clear hn next
  (refine segs_cons fun K hK => ?_); (first | (simp only [pick_nil]) | (simp only [pick, nthC])); (repeat (go_big_quiet_step (fail))); (refine wpQuiet_nil (hK _ fun next hn => ?_)); (clear hK K); (simp only [pick, nthC])
  go_wp2_with fail
  have hln : ((ps.drop i).take (m - i)).length = m - i := by rw [List.length_take, List.length_drop]; omega
  have CM := moved_any 174 #[pt w3.heap.size] (fun x => x + -(i : Int)) (some ⟨b, off + i * 8, none⟩) (c - i) ((ps.drop i).take (m - i)) (w3.alloc (.cells #[.int .i64 (-(i : Int))] 3))
    ((HS.out.parts.slice i (m - i)).ext (HX.out.trans X4.out)) ((HS.out.oks.slice i (m - i)).ext (HX.out.trans X4.out)) (HS.out.few.slice i (m - i)) (fun p hp x hx => by obtain ⟨k, rfl, h1, h2⟩ := KF.out p hp x hx; unfold I64; omega)
    (enters_of Tryz.func174 (by kernel_rfl) rfl) (fun wr x h1 ⟨p, hp, hx⟩ => plus1_any x _ w3.heap.size wr (ext_block (heap_alloc_new w3 _) h1) (by obtain ⟨k, rfl, h1, h2⟩ := KF.out p hp x hx; unfold I64; omega))
  rw [hln] at CM
  have HCM := zh CM
  clear CM hln
  refine HCM.out.mono ?_
  rintro e w5 ⟨A5, c5, qs, rfl, hn5, ho5, hx5⟩
  have X5 : Hid (Ext w2 w5) := zh (X4.out.trans hx5)
  have HO5 : Hid (OwnP w5 w.heap.size A5 c5 qs) := zh (ho5.base (HX.out.trans X4.out).size)
  have HN5 : Hid (nds qs = subF (nds ps) i m) := zh (by rw [hn5, nds_take, nds_drop]; rfl)
  clear hn5 ho5 hx5 HCM
  go_wp2_with fail
  refine segQ_mk (fun _ => laid X5.out) (hn _ _ ?_)
  clear hn next
  (refine segs_nil fun K hK => ?_); (first | (simp only [pick_nil]) | (simp only [pick, nthC])); (repeat (go_big_quiet_step (fail))); (refine wpQuiet_nil (hK _ ?_)); (clear hK K)
  go_wp2_with fail
  go_ret
  exact ⟨A5, c5, qs, rfl, HN5.out, HO5.out, HX.out.trans X5.out⟩
end
def sameB (p q : Nd) : Bool := (p.sym == q.sym) && (p.kind == q.kind) && (p.lo == q.lo) && (p.inn == q.inn) && (p.hi == q.hi) && (p.look == q.look) && (p.met == q.met) && decide (p.kids = q.kids)
theorem sameB_iff (p q : Nd) : sameB p q = true ↔ p = q := by
  obtain ⟨a, b, c, d, e, f, g, h⟩ := p
  obtain ⟨a', b', c', d', e', f', g', h'⟩ := q
  simp only [sameB, Bool.and_eq_true, beq_iff_eq, decide_eq_true_eq, Nd.mk.injEq]
  constructor
  · rintro ⟨⟨⟨⟨⟨⟨⟨rfl, rfl⟩, rfl⟩, rfl⟩, rfl⟩, rfl⟩, rfl⟩, rfl⟩
    simp
  · rintro ⟨rfl, rfl, rfl, rfl, rfl, rfl, rfl, rfl⟩
    simp
instance ndDecEq : DecidableEq Nd := fun p q => decidable_of_iff _ (sameB_iff p q)

set_option maxRecDepth 100000 in
set_option maxHeartbeats 1000000 in
theorem ownInts (A : Option Addr) (c : Nat) (xs : List Int) (w : World) (h : Ints w A xs) (hl : xs.length ≤ 1000000) (_ : xs.length ≤ c) (hA : A = none → c = 0) :
    Calls Tryz.prog 78 #[.slice A xs.length c] w (IntsRet w xs) := by
  have H := zh h
  have HA := zh hA
  have HL : Hid (([] : List Int).length + xs.length ≤ 10000000) := zh (by simp; omega)
  clear h hA
  go_enter Tryz.func78, Tryz.ntmps78
  go_wp2_with (at_builtin; refine app_ints w (by rfl) (.tmp 3) (.tmp 4) rfl (ownI_empty w w.heap.size (Nat.le_refl _)) xs A c rfl rfl HA.out (H.out.ext (by repeat first | exact xr _ | refine xa ?_ _ | refine xm ?_ _ _ | refine xd ?_ | refine xn ?_ _ | refine xs ?_ (by simp <;> omega) _)) HL.out (by repeat first | exact xr _ | refine xa ?_ _ | refine xm ?_ _ _ | refine xd ?_ | refine xn ?_ _ | refine xs ?_ (by simp <;> omega) _) ?_; intro v7 w7 hr7 hg7 hx7)
  obtain ⟨A1, c1, rfl, ho⟩ := hr7
  have HO := zh ho
  have HX := zh hx7
  clear ho hx7 hg7
  go_wp2_with fail
  go_ret
  exact ⟨A1, c1, by simp, HO.out, HX.out⟩
def RowV (w : World) (base : Nat) (v : Value) (qs : List Prt) : Prop := ∃ A c, v = .slice A qs.length c ∧ w.ownsRow base 34 8 (.slice A qs.length c) qs.length (pv qs)
theorem app_partsV (w0 : World) {w : World} {ops : Array Oper} {rest : List Oper} {o : Oper} {a : Act} {Q : Exit → Act → World → Prop} (hw : Region.wanted o (yielded ops a.tmps) = true) (s x : Operand)
    (ho : o.op = .call { callee := .builtin .append, args := #[s, x], argTypes := #[22, 22] }) {qs : List Prt} {v : Value} (hr : RowV w w0.heap.size v qs) (ps : List Prt) (A : Option Addr) (c : Nat)
    (hs : a.eval s = v) (hx : a.eval x = .slice A ps.length c) (hA : A = none → c = 0) (hc : Prts w A ps) (hlen : qs.length + ps.length ≤ 1000000) (hext : Ext w0 w)
    (h : ∀ v' w', RowV w' w0.heap.size v' (qs ++ ps) → Ext w0 w' → wpList Tryz.prog ops Q rest (a.put o.dst v') w') : wpList Tryz.prog ops Q (o :: rest) a w := by
  obtain ⟨A0, c0, rfl, hown⟩ := hr
  obtain ⟨i3, hi, hz0, hz1, hz2⟩ := info_parts infoPartT
  refine wpList_append_cells w hw s x 22 ho w0.heap.size 34 i3 _ 8 80 Tryz.underlying22 hi hz0 hz1 hz2 rfl (by omega) _ qs.length (pv qs) hs hown A ps.length c (pv ps) hx hA (pv_length _)
    (CellsAt.of_prts hc) (pv_one _) (by unfold maxLen; omega) (by omega) hext.size fun v' w' h2 h3 h4 => ?_
  obtain ⟨A', c', hv', _⟩ := own_cells h2
  subst hv'
  refine h _ w' ⟨A', c', by rw [List.length_append], ?_⟩ (hext.grown h3 fun g hg => own_block hown g hg)
  rw [pv_append, List.length_append]
  exact h2
theorem rowV_empty (w : World) (base : Nat) (hb : base ≤ w.heap.size) : RowV (w.alloc (.cells #[] 34)) base (.slice (some ⟨w.heap.size, 0, none⟩) 0 0) [] :=
  ⟨some ⟨w.heap.size, 0, none⟩, 0, rfl, own_lit w base 34 8 w.heap.size 0 #[] rfl hb rfl (by unfold maxLen; omega)⟩
set_option maxRecDepth 100000 in
set_option maxHeartbeats 1000000 in
theorem ownRow (A : Option Addr) (c : Nat) (ps : List Prt) (w : World) (h : Prts w A ps) (hl : ps.length ≤ 1000000) (_ : ps.length ≤ c) (hA : A = none → c = 0) :
    Calls Tryz.prog 77 #[.slice A ps.length c] w fun e w' => (∃ v, e = .returned v ∧ RowV w' w.heap.size v ps) ∧ Ext w w' := by
  have H := zh h
  have HA := zh hA
  have HL : Hid (([] : List Prt).length + ps.length ≤ 1000000) := zh (by simp; omega)
  clear h hA
  go_enter Tryz.func77, Tryz.ntmps77
  go_wp2_with (at_builtin; refine app_partsV w (by rfl) (.tmp 3) (.tmp 4) rfl (rowV_empty w w.heap.size (Nat.le_refl _)) ps A c rfl rfl HA.out (H.out.ext (by repeat first | exact xr _ | refine xa ?_ _ | refine xm ?_ _ _ | refine xd ?_ | refine xn ?_ _ | refine xs ?_ (by simp <;> omega) _)) HL.out (by repeat first | exact xr _ | refine xa ?_ _ | refine xm ?_ _ _ | refine xd ?_ | refine xn ?_ _ | refine xs ?_ (by simp <;> omega) _) ?_; intro v7 w7 hr7 hx7)
  have HR := zh hr7
  have HX := zh hx7
  clear hx7 hr7
  go_ret
  exact ⟨⟨_, rfl, HR.out⟩, HX.out⟩
theorem row_cells {w : World} {base g n c : Nat} {qs : List Prt} (h : w.ownsRow base 34 8 (.slice (some ⟨g, 0, none⟩) n c) n (pv qs)) : Prts w (some ⟨g, 0, none⟩) qs := by
  obtain ⟨A', cap, hv, h1, h2, h3, h4⟩ := own_cells h
  injection hv with a1 a2 a3
  subst a1
  exact Prts.of_cells h1
structure OwnedTo (w wr : World) (A : Option Addr) (c n j : Nat) (ps qs : List Prt) : Prop where
  len : qs.length = j
  nd : nds qs = (nds ps).take j
  row : wr.ownsRow w.heap.size 34 8 (.slice A n c) n (pv (qs ++ ps.drop j))
  kids : ∀ q ∈ qs, OwnI wr w.heap.size q.kA q.kc q.nd.kids
  ext : Ext w wr
set_option maxRecDepth 100000 in
set_option maxHeartbeats 2000000 in
theorem ownParts (A : Option Addr) (c : Nat) (ps : List Prt) (w : World) (h : Prts w A ps) (hO : PrtsOk w ps) (hw : Few ps) (hc : ps.length ≤ c) (hA : A = none → c = 0) :
    Calls Tryz.prog 32 #[.slice A ps.length c] w (PartsRet w (nds ps)) := by
  have hl := hw.len
  have CO := zh (ownRow A c ps w h (by omega) hc hA)
  have HO := zh hO
  have HF := zh hw
  clear h hA hO hw
  go_enter Tryz.func32, Tryz.ntmps32
  go_wp2_with fail
  refine CO.out.mono ?_
  rintro e w2 ⟨⟨v2, rfl, hr2⟩, hx2⟩
  obtain ⟨A2, c2, rfl, ho2⟩ := hr2
  have S0 : Hid (OwnedTo w w2 A2 c2 ps.length 0 ps []) := zh ⟨rfl, by simp [nds], by simpa using ho2, (fun q hq => by cases hq), hx2⟩
  clear ho2 hx2
  go_wp2_with fail
  go_loopw [4] (fun i wr => ∃ (j : Nat) (qs : List Prt), j ≤ ps.length ∧ i = .int .i64 j ∧ Hid (OwnedTo w wr A2 c2 ps.length j ps qs)) (fun i _ => ps.length - (intOf i).toNat)
  case atStart => exact ⟨0, [], Nat.zero_le _, rfl, S0⟩
  case round =>
    obtain ⟨j, qs, hj, rfl, hs⟩ := hrel
    by_cases hlt : j < ps.length
    · obtain ⟨p, hp⟩ : ∃ p, ps[j]? = some p := ⟨_, List.getElem?_eq_getElem hlt⟩
      obtain ⟨g, rfl, hg1, hg2⟩ := row_block hs.out.row (by omega)
      obtain ⟨b, off, he, hb, hcell⟩ := (row_cells hs.out.row) (by rw [List.length_append, List.length_drop]; omega)
      injection he with he
      injection he with he1 he2
      subst he1 he2
      obtain ⟨d0, d1, d2, d3, d4, d5, d6, d7⟩ := hcell j p (by rw [List.getElem?_append_right (by rw [hs.out.len]; exact Nat.le_refl _), hs.out.len, Nat.sub_self, List.getElem?_drop, Nat.add_zero]; exact hp)
      rw [Nat.zero_add] at d0 d1 d2 d3 d4 d5 d6 d7
      have hpo := (HO.out.get hp)
      have hpm := List.mem_of_getElem? hp
      have CI := zh (fun w1 (x : Ext w w1) => ownInts p.kA p.kc p.nd.kids w1 (hpo.kids.ext x) (HF.out.kids_le hpm) hpo.cap hpo.none)
      have hcap := hs.out.row
      have hne : A = A := rfl
      have HP := zh hp
      clear hcell hpo hpm hp d0 d1 d2 d3 d4 d5 d7
      go_wp2_with fail
      refine (CI.out _ (hs.out.ext.trans (by repeat first | exact xr _ | refine xa ?_ _ | refine xm ?_ _ _ | refine xd ?_ | refine xn ?_ _ | refine xs ?_ (by simp <;> omega) _))).mono ?_
      rintro e w3 ⟨A3, c3, rfl, ho3, hx3⟩
      have HC := zh hcap
      have HO3 := zh ho3
      have HX3 := zh hx3
      have d8 := (hx3.below.cell (p := ⟨g, j * 8 + 6, none⟩) hg2).trans d6
      have d9 := (World.ownsRow.frozenAt (own_ext hcap hx3) (j * 8 + 6))
      clear hx3 ho3 hcap d6
      have hb3 : g < w3.heap.size := Nat.lt_of_lt_of_le hg2 HX3.out.size
      go_wp2_with fail
      go_roundw
      case rel =>
        have hp := HP.out
        have f1 := hs.out.ext.trans HX3.out
        have hq : (qs ++ ps.drop j)[j]? = some p := by rw [List.getElem?_append_right (by rw [hs.out.len]; exact Nat.le_refl _), hs.out.len, Nat.sub_self, List.getElem?_drop, Nat.add_zero]; exact hp
        have f2 := row_store (own_ext HC.out HX3.out) (q' := ⟨p.nd, A3, c3⟩) (u := .slice A3 p.nd.kids.length c3) hq (by omega : 6 < 8) rfl
        have f3 : (qs ++ ps.drop j).set j ⟨p.nd, A3, c3⟩ = (qs ++ [⟨p.nd, A3, c3⟩]) ++ ps.drop (j + 1) := by
          rw [List.set_append_right _ _ (by rw [hs.out.len]; exact Nat.le_refl _), hs.out.len, Nat.sub_self, List.drop_eq_getElem_cons hlt, List.set_cons_zero, List.append_assoc]
          rfl
        rw [f3] at f2
        have hkeep : ∀ b, b < w3.heap.size → some b ≠ (Value.slice (some ⟨g, 0, none⟩) ps.length c2).ownBlock → (w3.setCell ⟨g, j * 8 + 6, none⟩ (.slice A3 p.nd.kids.length c3)).heap[b]? = w3.heap[b]? := fun b hb hne => by
          have : b ≠ g := fun h => hne (by rw [h]; rfl)
          simp [World.setCell, Array.getElem?_modify, Ne.symm this]
        refine ⟨j + 1, qs ++ [⟨p.nd, A3, c3⟩], by omega, by go_num, zh ⟨by rw [List.length_append, hs.out.len]; rfl, ?_, f2, fun q hq => ?_, f1.setCell hg1 _⟩⟩
        · have h1 := nds_get hp
          rw [List.getElem?_eq_getElem (by rw [nds_length]; exact hlt)] at h1
          injection h1 with h1
          rw [List.take_succ_eq_append_getElem (by rw [nds_length]; exact hlt), h1, ← hs.out.nd]
          simp [nds]
        · rcases List.mem_append.1 hq with hq | hq
          · exact kids_keep ((hs.out.kids q hq).ext HX3.out) (own_ext HC.out HX3.out) hkeep
          · rw [List.mem_singleton.1 hq]
            exact kids_keep (HO3.out.base hs.out.ext.size) (own_ext HC.out HX3.out) hkeep
      case measure => simp [intOf]; omega
    · obtain rfl : j = ps.length := by omega
      go_wp2_with fail
      go_ret
      refine ⟨A2, c2, qs, (by rw [hs.out.len]; rfl), by rw [hs.out.nd, List.take_of_length_le (by rw [nds_length]; omega)], ⟨?_, hs.out.kids, fun q hq => ?_⟩, hs.out.ext⟩
      · have := hs.out.row
        rw [List.drop_length, List.append_nil] at this
        rw [hs.out.len]
        exact this
      · have : q.nd ∈ nds ps := by
          have h1 : q.nd ∈ nds qs := List.mem_map.2 ⟨q, hq, rfl⟩
          rw [hs.out.nd] at h1
          exact List.mem_of_mem_take h1
        obtain ⟨p, hp, he⟩ := List.mem_map.1 this
        have f := (HO.out p hp).fine
        exact ⟨he ▸ f.sym, he ▸ f.kind, he ▸ f.lo, he ▸ f.inn, he ▸ f.hi, he ▸ f.look, he ▸ f.met, he ▸ f.ks⟩
end Go.Proofs.YthpmncdfaggkiaaGreat
namespace Go.Proofs.YthpmncdfaggkiaaGreat
open Go.RowKit
end Go.Proofs.YthpmncdfaggkiaaGreat
namespace Go.Proofs.YthpmncdfaggkiaaGreat
end Go.Proofs.YthpmncdfaggkiaaGreat
namespace Go.Proofs.YthpmncdfaggkiaaGreat
open Go.RowKit
def Low (n : Nat) (W : World) (Φ : World → Prop) : Prop := ∃ U, U.heap.size = n ∧ Below n U W ∧ Φ U
theorem Low.below {n : Nat} {W W' : World} {Φ : World → Prop} (h : Low n W Φ) (e : Below n W W') : Low n W' Φ := by
  obtain ⟨U, h1, h2, h3⟩ := h
  exact ⟨U, h1, h2.trans e, h3⟩
theorem Low.imp {n : Nat} {W : World} {Φ Φ' : World → Prop} (h : Low n W Φ) (f : ∀ U, Φ U → Φ' U) : Low n W Φ' := by
  obtain ⟨U, h1, h2, h3⟩ := h
  exact ⟨U, h1, h2, f U h3⟩
theorem Low.size {n : Nat} {W : World} {Φ : World → Prop} (h : Low n W Φ) : n ≤ W.heap.size := by
  obtain ⟨U, h1, h2, h3⟩ := h
  have := h2.size
  omega
theorem Low.up {n : Nat} {W : World} {Φ : World → Prop} (h : Low n W Φ) (f : ∀ U, Φ U → Below U.heap.size U W → Φ W) : Φ W := by
  obtain ⟨U, h1, h2, h3⟩ := h
  exact f U h3 (h1.symm ▸ h2)
theorem OwnI.below {w w' : World} {base : Nat} {A : Option Addr} {c : Nat} {xs : List Int} (h : OwnI w base A c xs) (e : Below w.heap.size w w') : OwnI w' base A c xs := own_keep h fun g hg => e.block g (own_old h g hg)
end Go.Proofs.YthpmncdfaggkiaaGreat
namespace Go.Proofs.YthpmncdfaggkiaaGreat
theorem first_holds (l : List Nd) (d : Dty) (ks : List Int) : (∀ k ∈ ks, ¬ HoldsOk l k d) ∨ ∃ (j : Nat) (x : Int), ks[j]? = some x ∧ HoldsOk l x d ∧ ∀ (j' : Nat) (x' : Int), j' < j → ks[j']? = some x' → ¬ HoldsOk l x' d := by
  induction ks with
  | nil => exact .inl fun k hk => by cases hk
  | cons k ks ih =>
    by_cases hk : HoldsOk l k d
    · exact .inr ⟨0, k, rfl, hk, fun j' x' h => absurd h (Nat.not_lt_zero _)⟩
    · rcases ih with h | ⟨j, x, hx, hh, hb⟩
      · refine .inl fun y hy => ?_
        rcases List.mem_cons.1 hy with rfl | hy
        · exact hk
        · exact h y hy
      · refine .inr ⟨j + 1, x, hx, hh, fun j' x' hj hx' => ?_⟩
        match j', hx' with
        | 0, hx' =>
          obtain rfl : k = x' := by simpa using hx'
          exact hk
        | j' + 1, hx' => exact hb j' x' (by omega) (by simpa using hx')
theorem BaseR.ex {l : List Nd} (T : Tree l) (d : Dty) : ∀ (n i : Nat), l.length - i ≤ n → i < l.length → ∃ r, BaseR l d i r := by
  intro n
  induction n with
  | zero => intro i h1 h2; omega
  | succ n ih =>
    intro i h1 h2
    obtain ⟨p, hp⟩ : ∃ p, l[i]? = some p := ⟨_, List.getElem?_eq_getElem h2⟩
    rcases first_holds l d p.kids with h | ⟨j, x, hx, hh, hb⟩
    · exact ⟨i, .stop i p hp h⟩
    · obtain ⟨c, rfl, c1, c2⟩ := T.kid_behind hp x (List.mem_of_getElem? hx)
      obtain ⟨r, hr⟩ := ih c (by omega) c2
      exact ⟨r, .go i p j c r hp hx hb hh hr⟩
end Go.Proofs.YthpmncdfaggkiaaGreat
namespace Go.Proofs.YthpmncdfaggkiaaGreat
open Go.RowKit
attribute [local go_sem] more_drew more_drewN more_size more_cell more_frozen more_setCell drew_more drewN_more lt_add_r lt_add_r2 lt_add_r3 lt_add_r4 lt_add_r5 lt_add_r6 lt_add_r7 lt_add_r8 lt_add_r9 lt_add_r10 lt_self_r lt_self_r2
def dyCells (d : Dty) : List Value := [.int .i64 d.slot, .int .i64 d.lo, .int .i64 d.hi, .int .i64 d.age, .int .i64 d.level]
end Go.Proofs.YthpmncdfaggkiaaGreat
namespace Go.Proofs.YthpmncdfaggkiaaGreat
open Go.RowKit
attribute [local go_sem] more_drew more_drewN more_size more_cell more_frozen more_setCell drew_more drewN_more lt_add_r lt_add_r2 lt_add_r3 lt_add_r4 lt_add_r5 lt_add_r6 lt_self_r lt_self_r2
set_option maxHeartbeats 2000000 in
theorem bareR_any (p : Prt) (w : World) : Calls Tryz.prog 49 #[aggV p] w fun e w' => e = .returned (.bool (decide (Bare p.nd))) ∧ Ext w w' := by
  obtain ⟨⟨sym, kind, lo, inn, hi, look, kids, met⟩, kA, kc⟩ := p
  go_enter Tryz.func49, Tryz.ntmps49
  go_wp2_with (first | (go_at_call 91; refine (leafR_any _ _).mono ?_; rintro e w' ⟨rfl, rfl⟩) | go_in)
  all_goals go_ret
  all_goals refine ⟨ret_bool ?_, (Ext.refl _).alloc _⟩
  all_goals (rw [Bool.eq_iff_iff, decide_eq_true_iff])
  all_goals grind [Bare, TokK, LeafK]
end Go.Proofs.YthpmncdfaggkiaaGreat
