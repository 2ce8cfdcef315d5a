/- A region that draws its order: operations that only read are quiet in a class of worlds; calls (and what writes) come up one at a time, between them, in one order: one walk serves every order. No program is named here. -/
import Derived.Test.YtaffaeompdlecaaV
import Derived.Orders
import Derived.Deep.Quiet
namespace Go.Proofs.Ytaffaeompdlecaa
open Go.RowKit

section
variable {P : Program} {ops : Array Oper} {md : Region.Mode} {C : World → Prop}

def QN : Exit → Act → World → Prop := fun _ _ _ => False
theorem no_letsOut : ¬ LetsOut QN := fun ⟨_, _, h⟩ => h
theorem wp_monoQ {o : Oper} {a : Act} {w : World} {K K' : Act → World → Prop} {Q Q' : Exit → Act → World → Prop} (h : ∀ a w, K a w → K' a w) (hp : ∀ c a w, Q (.panic c) a w → Q' (.panic c) a w) (hl : LetsOut Q → LetsOut Q')
    (hh : o.wp P a w K Q) : o.wp P a w K' Q' := by
  unfold Oper.wp at *
  generalize (execOp a.eval o).run P w = r at *
  cases r with
  | ok n w' =>
    cases n <;> simp only [Oper.upon] at hh ⊢
    case value u => exact h _ _ hh
    case skip => exact h _ _ hh
    case defer d => exact h _ _ hh
    case enter f args =>
      refine Calls.mono hh fun e w'' he => ?_
      cases e with
      | returned u => exact h _ _ he
      | panicked c => exact hp _ _ _ he
      | outgrown => exact hl he
    case row row args => exact Rows.mono hh fun _ _ he => h _ _ he
  | halt x w' =>
    cases x <;> simp only [Oper.upon] at hh ⊢
    case panic u => exact hp _ _ _ hh
theorem wpOp_of_QN {Q : Exit → Act → World → Prop} {i : Nat} {a : Act} {w : World} {K K' : Act → World → Prop} (h : ∀ a w, K a w → K' a w) (hh : wpOp P ops QN i K a w) : wpOp P ops Q i K' a w := by
  unfold wpOp at *
  split
  · exact h _ _ (by simpa [*] using hh)
  · rename_i o ho
    simp only [ho] at hh
    split
    · rename_i hw
      simp only [hw, if_true] at hh
      rcases hh with hh | ⟨_, hl⟩
      · exact .inl (wp_monoQ h (fun _ _ _ h => h.elim) (fun h => absurd h no_letsOut) hh)
      · exact absurd hl no_letsOut
    · rename_i hw
      simp only [hw] at hh
      exact h _ _ hh

/-- whatever order is picked from here on; the worlds on the way are of the class, till operation s is done -/
def wpAnyC (P : Program) (md : Region.Mode) (ops : Array Oper) (C : World → Prop) (s : Nat) (Q : Act → World → Prop) : Nat → Array Bool → Act → World → Prop
  | 0, listed, a, w => (listed.getD s false = false → C w) ∧ Region.ready md ops listed = [] ∧ Q a w
  | fuel + 1, listed, a, w => (listed.getD s false = false → C w) ∧ (Region.ready md ops listed = [] → Q a w) ∧
    ∀ i ∈ Region.ready md ops listed, wpOp P ops QN i (wpAnyC P md ops C s Q fuel (listed.setIfInBounds i true)) a w
theorem wpAnyC.cls {s : Nat} {Q : Act → World → Prop} {fuel : Nat} {listed : Array Bool} {a : Act} {w : World} (h : wpAnyC P md ops C s Q fuel listed a w) (hs : listed.getD s false = false) : C w := by
  cases fuel with
  | zero => exact h.1 hs
  | succ n => exact h.1 hs
theorem wpAny_of_C {s : Nat} {Q : Exit → Act → World → Prop} : ∀ (fuel : Nat) (listed : Array Bool) (a : Act) (w : World), wpAnyC P md ops C s (fun a w => Q .normal a w) fuel listed a w → wpAny P md ops Q fuel listed a w
  | 0, _, _, _, h => h.2
  | fuel + 1, _, _, _, h => ⟨h.2.1, fun i hi => wpOp_of_QN (fun a' w' hh => wpAny_of_C fuel _ a' w' hh) (h.2.2 i hi)⟩

theorem wpOpC_put {j : Nat} {oi oj : Oper} {v : Value} (hj : ops[j]? = some oj) (hap : oi.apart ops oj = true) (hsi : ∀ cs b, oi.op ≠ .select cs b) (hsj : ∀ cs b, oj.op ≠ .select cs b) {K : Act → World → Prop} {a : Act} {w : World}
    (hy : YieldsIn P ops C oi v a) (h : wpOp P ops QN j K (a.put oi.dst v) w) : wpOp P ops QN j (fun a' w' => YieldsIn P ops C oi v a' ∧ K (a'.put oi.dst v) w') a w := by
  obtain ⟨h1, h2, h3⟩ := Oper.apart_spec hap
  have keep : ∀ (a : Act), YieldsIn P ops C oi v a → ∀ u, YieldsIn P ops C oi v (a.put oj.dst u) := fun a hy u => hy.of_same (execOp_put oi hsi a oj.dst u h3) (wanted_put oi a oj.dst u h3)
  have keepD : ∀ d, YieldsIn P ops C oi v { a with defers := d :: a.defers } := fun d => hy.of_same rfl rfl
  unfold wpOp at *
  simp only [hj] at *
  rw [wanted_put oj a oi.dst v h1] at h
  split
  · rename_i hw
    simp only [hw, if_true] at h
    rcases h with h | ⟨_, hl⟩
    case inr => exact absurd hl no_letsOut
    refine .inl ?_
    unfold Oper.wp at *
    rw [execOp_put oj hsj a oi.dst v h1] at h
    generalize (execOp a.eval oj).run P w = r at *
    cases r with
    | ok n w' =>
      cases n <;> simp only [Oper.upon] at h ⊢
      case value u => exact ⟨keep a hy u, by rw [← Act.put_comm a v u h2]; exact h⟩
      case skip => exact ⟨keep a hy _, by rw [← Act.put_comm a v undef h2]; exact h⟩
      case defer d =>
        refine ⟨keep _ (keepD d) _, ?_⟩
        rw [← Act.put_comm _ v undef h2, ← Act.put_defers]
        exact h
      case enter f args =>
        refine Calls.mono h fun e w'' he => ?_
        cases e with
        | returned u => exact ⟨keep a hy u, by rw [← Act.put_comm a v u h2]; exact he⟩
        | panicked c => exact he
        | outgrown => exact he
      case row row args => exact Rows.mono h fun u w'' he => ⟨keep a hy u, by rw [← Act.put_comm a v u h2]; exact he⟩
    | halt x w' =>
      cases x <;> simp only [Oper.upon] at h ⊢
      case panic u => exact h
  · rename_i hw
    simp only [hw] at h
    exact ⟨keep a hy _, by rw [← Act.put_comm a v undef h2]; exact h⟩
theorem wpOp_of_yieldsIn {i : Nat} {o : Oper} {v : Value} {a : Act} {w : World} {K : Act → World → Prop} (hi : ops[i]? = some o) (hy : YieldsIn P ops C o v a) (hC : C w) (hK : ∀ w', C w' → K (a.put o.dst v) w') : wpOp P ops QN i K a w :=
  wpOp_of_qOp (C := C) (K := fun a' => ∀ w', C w' → K a' w') hC (fun _ w' hw' h => h w' hw') (hy.qOp hi hK)
end

/-- an operation that enters no function -/
def softOp (o : Oper) : Bool := match o.op with
  | .move _ | .assign _ | .pick _ _ _ | .load _ _ | .binOp _ _ _ _ _ | .unOp _ _ _ | .slice _ _ _ _ _ | .fieldAddr _ _ _ | .field _ _ _ | .indexAddr _ _ _ | .index _ _ _ | .extract _ _ | .build _ _ | .convert _ _ _ | .makeFunc _ _ _ => true
  | .call c => match c.callee with
    | .builtin .len | .builtin .cap | .builtin .max | .builtin .min => true
    | _ => false
  | _ => false
theorem value_only {P : Program} {w w' : World} (s : Sem Value) {n : Next} (h : Sem.run P (do pure (Next.value (← s))) w = .ok n w') : ∃ v, n = .value v := by
  rw [Sem.run_bind] at h
  cases hs : Sem.run P s w with
  | ok v w1 =>
    rw [hs] at h
    simp only [Result.andThen_ok, Sem.run_pure] at h
    cases h
    exact ⟨v, rfl⟩
  | halt x w1 =>
    rw [hs] at h
    cases h
theorem soft_value {P : Program} {o : Oper} (hs : softOp o = true) (ρ : Operand → Value) {w w' : World} {n : Next} (h : (execOp ρ o).run P w = .ok n w') : ∃ v, n = .value v := by
  obtain ⟨dst, op, type, pos, after, guard⟩ := o
  unfold softOp at hs
  cases op <;> simp only [Bool.false_eq_true] at hs <;> simp only [execOp] at h
  case call c =>
    obtain ⟨callee, args, argTypes⟩ := c
    cases callee <;> simp only [Bool.false_eq_true] at hs
    case builtin b =>
      cases b <;> simp only [Bool.false_eq_true] at hs <;> (simp only [resolve, invoke, builtin, Sem.run_bind, Sem.run_pure, Result.andThen_ok] at h; exact value_only _ (by rw [Sem.run_bind]; exact h))
  case pick c a b =>
    rw [Sem.run_bind] at h
    cases hs : Sem.run P (asBool (ρ c)) w with
    | ok v w1 =>
      rw [hs] at h
      simp only [Result.andThen_ok] at h
      cases v <;> simp at h <;> exact ⟨_, h.1.symm⟩
    | halt x w1 =>
      rw [hs] at h
      cases h
  case move x => simp at h; exact ⟨_, h.1.symm⟩
  case assign x => simp at h; exact ⟨_, h.1.symm⟩
  all_goals exact value_only _ h

section
variable {P : Program} {ops : Array Oper} {md : Region.Mode} {C : World → Prop}
theorem soft_at {o : Oper} {v : Value} {a : Act} {w : World} (hs : softOp o = true) (h : o.quietAt P a C w v) : (execOp a.eval o).run P w = .ok (.value v) w := by
  unfold Oper.quietAt at h
  cases hr : (execOp a.eval o).run P w with
  | ok n w' =>
    obtain ⟨u, rfl⟩ := soft_value hs _ hr
    rw [hr] at h
    simp only [Oper.quietUpon] at h
    obtain ⟨rfl, rfl⟩ := h
    rfl
  | halt x w' =>
    rw [hr] at h
    simp only [Oper.quietUpon] at h
theorem wpOp_of_soft {i : Nat} {o : Oper} {v : Value} {a : Act} {w : World} {K : Act → World → Prop} (hi : ops[i]? = some o) (hs : softOp o = true) (hy : YieldsIn P ops C o v a) (hC : C w) (hK : K (a.put o.dst v) w) : wpOp P ops QN i K a w := by
  unfold wpOp
  simp only [hi]
  rcases hy with ⟨hw, hv⟩ | ⟨hw, rfl⟩
  · rw [if_pos hw]
    refine .inl ?_
    unfold Oper.wp
    rw [soft_at hs (hv w hC)]
    exact hK
  · rw [if_neg (by rw [hw]; exact Bool.false_ne_true)]
    exact hK

theorem ready_getD_false' {listed : Array Bool} {j : Nat} (hj : j ∈ Region.ready md ops listed) : j < listed.size ∧ listed.getD j false = false := by
  have h := (mem_ready.1 hj).1
  rcases Nat.lt_or_ge j listed.size with hlt | hge
  · refine ⟨hlt, ?_⟩
    simp [hlt] at h ⊢
    exact h
  · simp [Array.getElem?_eq_none hge] at h
/-- an operation that may come up now may be taken first, if it only reads -/
theorem wpAnyC_first {s i : Nat} {oi : Oper} {v : Value} {Q : Act → World → Prop} (hi : ops[i]? = some oi) (hso : softOp oi = true) (hsel : ∀ (j : Nat) (o : Oper) cs b, ops[j]? = some o → o.op ≠ .select cs b) (his : i ≠ s)
    (hsw : ∀ os, ops[s]? = some os → ∃ e ∈ os.after, Region.binds md e = true ∧ e.on = i) :
    ∀ (fuel : Nat) (listed : Array Bool) (a : Act) (w : World),
      (∀ j oj, ops[j]? = some oj → j ≠ i → listed.getD j true = false → (∀ e ∈ oj.after, Region.binds md e = true → e.on ≠ i) → oi.apart ops oj = true) →
      i ∈ Region.ready md ops listed → YieldsIn P ops C oi v a → listed.getD s false = false → C w →
      wpAnyC P md ops C s Q fuel (listed.setIfInBounds i true) (a.put oi.dst v) w → wpAnyC P md ops C s Q (fuel + 1) listed a w := by
  intro fuel
  induction fuel with
  | zero =>
    intro listed a w _ hr hy hls hC H
    refine ⟨fun _ => hC, fun h => (by rw [h] at hr; cases hr), fun j hj => ?_⟩
    by_cases hji : j = i
    · subst hji
      exact wpOp_of_soft hi hso hy hC H
    · have := ready_mono hj hji
      rw [H.2.1] at this
      cases this
  | succ fuel ih =>
    intro listed a w hfree hr hy hls hC H
    refine ⟨fun _ => hC, fun h => (by rw [h] at hr; cases hr), fun j hj => ?_⟩
    by_cases hji : j = i
    · subst hji
      exact wpOp_of_soft hi hso hy hC H
    · have h1 := H.2.2 j (ready_mono hj hji)
      obtain ⟨hjun, oj, hoj, hall⟩ := mem_ready.1 hj
      have hil : listed.getD i false = false := by
        have h0 := (mem_ready.1 hr).1
        rcases Nat.lt_or_ge i listed.size with h' | h'
        · simp [h'] at h0 ⊢; exact h0
        · simp [Array.getElem?_eq_none h'] at h0
      have hnot : ∀ e ∈ oj.after, Region.binds md e = true → e.on ≠ i := fun e he hb heq => by
        have h1 := hall e he hb
        rw [heq, hil] at h1
        cases h1
      have hjs : j ≠ s := by
        rintro rfl
        obtain ⟨e, he, hb, heq⟩ := hsw oj hoj
        exact hnot e he hb heq
      have h2 := wpOpC_put hoj (hfree j oj hoj hji hjun hnot) (fun cs b => hsel i oi cs b hi) (fun cs b => hsel j oj cs b hoj) hy h1
      have hfree' : ∀ k ok, ops[k]? = some ok → k ≠ i → (listed.setIfInBounds j true).getD k true = false →
          (∀ e ∈ ok.after, Region.binds md e = true → e.on ≠ i) → oi.apart ops ok = true := fun k ok hk hki hun hno => by
        refine hfree k ok hk hki ?_ hno
        by_cases hjk : j = k
        · subst hjk; exact hjun
        · rw [getD_set_ne true hjk] at hun; exact hun
      refine wpOp_mono (fun a' w' h3 => ?_) h2
      have hs1 : (listed.setIfInBounds j true).getD s false = false := by rw [getD_set_ne false hjs]; exact hls
      have hcomm : (listed.setIfInBounds j true).setIfInBounds i true = (listed.setIfInBounds i true).setIfInBounds j true := Array.setIfInBounds_comm _ _ hji
      refine ih (listed.setIfInBounds j true) a' w' hfree' (ready_mono hr (Ne.symm hji)) h3.1 hs1 (h3.2.cls (by rw [← hcomm, getD_set_ne false his]; exact hs1)) ?_
      rw [hcomm]
      exact h3.2

/-- the walk of a schedule: (true, i): operation i only reads; (false, i): operation i is the only one that may come up -/
def wpSched (P : Program) (ops : Array Oper) (C : World → Prop) (s : Nat) (Q : Act → World → Prop) : List (Bool × Nat) → Act → World → Prop
  | [], a, w => Q a w
  | (true, i) :: r, a, w => qOp P ops C i (fun a' => wpSched P ops C s Q r a' w) a
  | (false, i) :: r, a, w => wpOp P ops QN i (fun a' w' => (i ≠ s → C w') ∧ wpSched P ops C s Q r a' w') a w
def schedB (md : Region.Mode) (ops : Array Oper) (s : Nat) : List (Bool × Nat) → Array Bool → Bool
  | [], listed => (Region.ready md ops listed).isEmpty
  | (true, i) :: r, listed => i != s && (Region.ready md ops listed).contains i && Region.free md ops listed i && ((ops[i]?).map softOp).getD false &&
    (match ops[s]? with | none => true | some os => os.after.any fun e => Region.binds md e && e.on == i) && schedB md ops s r (listed.setIfInBounds i true)
  | (false, i) :: r, listed => (Region.ready md ops listed == [i]) && (i != s || r.isEmpty) && schedB md ops s r (listed.setIfInBounds i true)
theorem wpAnyC_sched {s : Nat} {Q : Act → World → Prop} (hs : Region.noSelect ops = true) : ∀ (l : List (Bool × Nat)) (listed : Array Bool) (a : Act) (w : World), schedB md ops s l listed = true → listed.getD s false = false → C w →
    wpSched P ops C s Q l a w → wpAnyC P md ops C s Q l.length listed a w
  | [], listed, a, w, hB, _, hC, h => ⟨fun _ => hC, by simpa [schedB] using hB, h⟩
  | (true, i) :: r, listed, a, w, hB, hls, hC, h => by
    simp only [schedB, Bool.and_eq_true, bne_iff_ne, ne_eq] at hB
    obtain ⟨⟨⟨⟨⟨h1, h2⟩, h3⟩, h4⟩, h5⟩, h6⟩ := hB
    obtain ⟨oi, hoi⟩ : ∃ o, ops[i]? = some o := by
      cases ho : ops[i]? with
      | none => rw [ho] at h4; cases h4
      | some o => exact ⟨o, rfl⟩
    rw [hoi] at h4
    obtain ⟨v, hy, hK⟩ := yieldsIn_of_qOp hoi h
    refine wpAnyC_first hoi (by simpa using h4) (Region.noSelect_spec hs) h1 (fun os ho => ?_) r.length listed a w (Region.free_spec hoi h3) (by simpa using h2) hy hls hC
      (wpAnyC_sched hs r _ _ w h6 (by rw [getD_set_ne false h1]; exact hls) hC hK)
    rw [ho] at h5
    obtain ⟨e, he, hb⟩ := Array.any_eq_true'.1 h5
    simp only [Bool.and_eq_true, beq_iff_eq] at hb
    exact ⟨e, he, hb.1, hb.2⟩
  | (false, i) :: r, listed, a, w, hB, hls, hC, h => by
    simp only [schedB, Bool.and_eq_true, beq_iff_eq, Bool.or_eq_true, bne_iff_ne, ne_eq] at hB
    obtain ⟨⟨h1, h2⟩, h3⟩ := hB
    refine ⟨fun _ => hC, fun h0 => (by rw [h1] at h0; cases h0), fun j hj => ?_⟩
    rw [h1] at hj
    obtain rfl := List.mem_singleton.1 hj
    have hji : j ∈ Region.ready md ops listed := by rw [h1]; exact List.mem_singleton.2 rfl
    refine wpOp_mono (fun a' w' hh => ?_) h
    by_cases hjs : j = s
    · subst hjs
      have hr : r = [] := by simpa using h2
      subst hr
      refine ⟨fun h0 => ?_, by simpa [schedB] using h3, hh.2⟩
      obtain ⟨hlt, _⟩ := ready_getD_false' hji
      simp [hlt] at h0
    · exact wpAnyC_sched hs r _ a' w' h3 (by rw [getD_set_ne false hjs]; exact hls) (hh.1 hjs) hh.2
end

section
variable {P : Program} {C : World → Prop}
theorem wpQuiet_mono' {ops : Array Oper} {Q Q' : Act → Prop} (h : ∀ a, Q a → Q' a) : ∀ (l : List Oper) (a : Act), wpQuiet P ops C Q l a → wpQuiet P ops C Q' l a
  | [], _, hh => h _ hh
  | o :: l, a, hh => by
    unfold wpQuiet at hh ⊢
    split
    · rename_i hw
      rw [if_pos hw] at hh
      exact Oper.quiet_mono (fun a' h' => wpQuiet_mono' h l a' h') hh
    · rename_i hw
      rw [if_neg hw] at hh
      exact wpQuiet_mono' h l _ hh
def nthC : List Oper → Nat → List Oper → List Oper
  | [], _, acc => acc
  | o :: _, 0, acc => o :: acc
  | _ :: l, i + 1, acc => nthC l i acc
theorem nthC_some : ∀ {l : List Oper} {i : Nat} {o : Oper} (acc : List Oper), l[i]? = some o → nthC l i acc = o :: acc
  | [], _, _, _, h => by simp at h
  | o :: _, 0, _, _, h => by simp at h; subst h; rfl
  | _ :: l, i + 1, _, acc, h => nthC_some (l := l) acc (by simpa using h)
def pick (l : List Oper) : List Nat → List Oper
  | [] => []
  | i :: is => nthC l i (pick l is)
/-- behind an operation that writes or calls -/
def segQ (C : World → Prop) (i s : Nat) (next : Act → World → Prop) : Exit → Act → World → Prop
  | .normal, a, w => (i ≠ s → C w) ∧ next a w
  | _, _, _ => False
theorem segQ_mk {i s : Nat} {next : Act → World → Prop} {a : Act} {w : World} (h1 : i ≠ s → C w) (h2 : next a w) : segQ C i s next .normal a w := ⟨h1, h2⟩
/-- the walk by segments: those that read, one that does not, .. -/
def wpSegs (P : Program) (l : List Oper) (C : World → Prop) (s : Nat) (Q : Act → World → Prop) : List (List Nat × Nat) → List Nat → Act → World → Prop
  | [], fin, a, w => wpQuiet P l.toArray C (fun a' => Q a' w) (pick l fin) a
  | (is, h) :: r, fin, a, w => wpQuiet P l.toArray C (fun a' => wpList P l.toArray (segQ C h s (wpSegs P l C s Q r fin)) (pick l [h]) a' w) (pick l is) a
def segItems : List (List Nat × Nat) → List Nat → List (Bool × Nat)
  | [], fin => fin.map fun i => (true, i)
  | (is, h) :: r, fin => (is.map fun i => (true, i)) ++ (false, h) :: segItems r fin
theorem sched_softs {l : List Oper} {s : Nat} {Q : Act → World → Prop} {r : List (Bool × Nat)} {w : World} : ∀ (is : List Nat) (a : Act), (∀ i ∈ is, i < l.length) →
    wpQuiet P l.toArray C (fun a' => wpSched P l.toArray C s Q r a' w) (pick l is) a → wpSched P l.toArray C s Q ((is.map fun i => (true, i)) ++ r) a w
  | [], _, _, h => h
  | i :: is, a, hl, h => by
    have hlt := hl i (List.mem_cons_self ..)
    have hi : l[i]? = some l[i] := List.getElem?_eq_getElem hlt
    have e : pick l (i :: is) = l[i] :: pick l is := nthC_some _ hi
    rw [e] at h
    show qOp P l.toArray C i _ a
    have hi' : l.toArray[i]? = some l[i] := by rw [List.getElem?_toArray]; exact hi
    unfold qOp
    simp only [hi']
    unfold wpQuiet at h
    split
    · rename_i hw
      rw [if_pos hw] at h
      exact Oper.quiet_mono (fun a' h' => sched_softs is a' (fun k hk => hl k (List.mem_cons_of_mem _ hk)) h') h
    · rename_i hw
      rw [if_neg hw] at h
      exact sched_softs is _ (fun k hk => hl k (List.mem_cons_of_mem _ hk)) h
theorem wpOp_of_list {l : List Oper} {i s : Nat} {next : Act → World → Prop} {a : Act} {w : World} (hi : i < l.length) (h : wpList P l.toArray (segQ C i s next) (pick l [i]) a w) :
    wpOp P l.toArray QN i (fun a' w' => (i ≠ s → C w') ∧ next a' w') a w := by
  have hi1 : l[i]? = some l[i] := List.getElem?_eq_getElem hi
  have e : pick l [i] = [l[i]] := nthC_some _ hi1
  have hi' : l.toArray[i]? = some l[i] := by rw [List.getElem?_toArray]; exact hi1
  rw [e] at h
  unfold wpOp
  simp only [hi']
  unfold wpList at h
  split
  · rename_i hw
    rw [if_pos hw] at h
    rcases h with h | ⟨_, a', w', hl⟩
    · refine .inl (wp_monoQ (fun a w h => h) (fun _ _ _ h => h) ?_ h)
      rintro ⟨_, _, hl⟩
      exact hl.elim
    · exact hl.elim
  · rename_i hw
    rw [if_neg hw] at h
    exact h
theorem sched_segs {l : List Oper} {s : Nat} {Q : Act → World → Prop} {fin : List Nat} (hf : ∀ i ∈ fin, i < l.length) : ∀ (segs : List (List Nat × Nat)) (a : Act) (w : World), (∀ x ∈ segs, (∀ i ∈ x.1, i < l.length) ∧ x.2 < l.length) →
    wpSegs P l C s Q segs fin a w → wpSched P l.toArray C s Q (segItems segs fin) a w
  | [], a, w, _, h => by
    have := sched_softs (s := s) (Q := Q) (r := []) (w := w) fin a hf h
    simpa [segItems] using this
  | (is, hh) :: r, a, w, hl, h => by
    obtain ⟨h1, h2⟩ := hl _ (List.mem_cons_self ..)
    refine sched_softs is a h1 (wpQuiet_mono' (fun a' h' => ?_) (pick l is) a h)
    exact wpOp_mono (fun a2 w2 hx => ⟨hx.1, sched_segs hf r a2 w2 (fun x hx' => hl x (List.mem_cons_of_mem _ hx')) hx.2⟩) (wpOp_of_list h2 h')
def segsB (l : List Oper) (s : Nat) (segs : List (List Nat × Nat)) (fin : List Nat) : Bool :=
  Region.noSelect l.toArray && schedB .any l.toArray s (segItems segs fin) (Array.replicate l.length false) && (segs.all fun x => (x.1.all fun i => decide (i < l.length)) && decide (x.2 < l.length)) && (fin.all fun i => decide (i < l.length)) && ((segItems segs fin).length == l.length)
theorem wp_region_segs {id : Nat} {Q : Exit → Act → World → Prop} {a : Act} {w : World} {l : List Oper} (s : Nat) (segs : List (List Nat × Nat)) (fin : List Nat) (hm : P.follows .mixedOrders = true) (hB : segsB l s segs fin = true)
    (h : wpSegs P l (fun w' => ∃ x : Lay, w' = more w x.os x.k) s (fun a' w' => Q .normal a' w') segs fin a w.drew) : (Code.region id l.toArray true).wp P Q a w := by
  unfold segsB at hB
  simp only [Bool.and_eq_true, List.all_eq_true, decide_eq_true_eq, beq_iff_eq] at hB
  obtain ⟨⟨⟨⟨h1, h2⟩, h3⟩, h4⟩, h5⟩ := hB
  refine wp_region_any hm (wpAny_of_C (C := fun w' => ∃ x : Lay, w' = more w x.os x.k) (s := s) _ _ _ _ ?_)
  have := wpAnyC_sched (Q := fun a' w' => Q .normal a' w') (C := fun w' => ∃ x : Lay, w' = more w x.os x.k) h1 (segItems segs fin) (Array.replicate l.length false) a w.drew h2 (by
    rw [Array.getD_eq_getD_getElem?, Array.getElem?_replicate]
    split <;> rfl) ⟨⟨[], w.drawn + 1⟩, by rw [← more_drew, more_nil]⟩ (sched_segs h4 segs a w.drew h3 h)
  rw [h5] at this
  simpa using this
theorem laid {w w' : World} (h : Ext w w') : ∃ x : Lay, w' = more w x.os x.k := by
  obtain ⟨os, k, h⟩ := h
  exact ⟨⟨os, k⟩, h⟩
theorem segs_cons {l : List Oper} {s h : Nat} {Q : Act → World → Prop} {is fin : List Nat} {r : List (List Nat × Nat)} {a : Act} {w : World}
    (hh : ∀ K : Act → Prop, (∀ a', (∀ next : Act → World → Prop, (∀ a w, wpSegs P l C s Q r fin a w → next a w) → wpList P l.toArray (segQ C h s next) (pick l [h]) a' w) → K a') → wpQuiet P l.toArray C K (pick l is) a) :
    wpSegs P l C s Q ((is, h) :: r) fin a w := hh _ fun _ h' => h' _ fun _ _ h => h
theorem segs_nil {l : List Oper} {s : Nat} {Q : Act → World → Prop} {fin : List Nat} {a : Act} {w : World}
    (hh : ∀ K : Act → Prop, (∀ a', Q a' w → K a') → wpQuiet P l.toArray C K (pick l fin) a) : wpSegs P l C s Q [] fin a w := hh _ fun _ h => h
end
end Go.Proofs.Ytaffaeompdlecaa
