/- A range over a function: an iterator that may write memory of its own; what the caller had stays the caller's. No program is named here. -/
import Derived.Test.YtaffaeompdlecaaTt
import Derived.Test.YtaffaeompdlecaaV
import Derived.RangeFuncNested
import Derived.RangeFuncBound
import Derived.RangeFuncCalls
import Derived.RangeFuncLeaves
import Derived.RangeFuncRecord
import Derived.RangeFuncIn
import Derived.Sort.QuietThIn
namespace Go.Proofs.Ytaffaeompdlecaa
open Go.RowKit

/-- An iterator's contract: gf, called with a yield behind lb in w1, hands out xs one by one till a round says no. J j: what the caller knows behind j rounds, Jx j: .. behind a round, the j-th, that said no.
    Both speak of what lies below w1's size. A round turns the blocks of S that w1 had, and new ones. -/
def IterB {α : Type} (P : Program) (gf : FuncId) (lb : Array Value) (encs : α → Array Value) (xs : List α) (S : Nat → Prop) (w1 : World) : Prop :=
  ∀ (l : Nat) (J Jx : Nat → World → Prop),
    (∀ j W W', Below w1.heap.size W W' → J j W → J j W') → (∀ j W W', Below w1.heap.size W W' → Jx j W → Jx j W') →
    (∀ j x W, xs[j]? = some x → w1.heap.size ≤ W.heap.size → J j W → YieldAt Fence.wide 0 P l (encs x) W fun e W' =>
      (e = .returned (.bool true) ∧ J (j + 1) W' ∧ Turn (fun b => S b ∧ b < w1.heap.size) W W') ∨ (e = .returned (.bool false) ∧ Jx (j + 1) W' ∧ Turn (fun b => S b ∧ b < w1.heap.size) W W')) →
    J 0 w1 →
    Calls P gf (#[.func (.yield l) #[] #[]] ++ lb) w1 fun e W' => (∃ v, e = .returned v) ∧ w1.heap.size ≤ W'.heap.size ∧ (J xs.length W' ∨ ∃ j, j ≤ xs.length ∧ Jx j W')

/-- what a round's body comes to: it turns blocks of the caller's in S, and what the round has made (from N on) -/
def bodyB (S : Nat → Prop) (B N : Nat) (W : World) (I : World → Prop) (Ix : Code → World → Prop) : Exit → Act → World → Prop
  | .normal, _, W' => Turn (fun b => (S b ∧ b < B) ∨ N ≤ b) W W' ∧ I W'
  | .ret, _, W' => Turn (fun b => (S b ∧ b < B) ∨ N ≤ b) W W' ∧ Ix .ret W'
  | .exit id, _, W' => Turn (fun b => (S b ∧ b < B) ∨ N ≤ b) W W' ∧ Ix (.exit id) W'
  | .goto t, _, W' => Turn (fun b => (S b ∧ b < B) ∨ N ≤ b) W W' ∧ Ix (.goto t) W'
  | .panic _, _, _ => False
  | .outgrown, _, _ => False

variable {P : Program}
theorem putObj_turn {S : Nat → Prop} (W : World) {l : Nat} (o : Obj) (h : S l) : Turn S W (W.putObj l o) := Turn.putBlock W h o

theorem wp_range {α : Type} {g : Operand} {ps : Array Tmp} {assign body : Code} {Q : Exit → Act → World → Prop} {a : Act} {w : World} {gf : Nat} {lb : Array Value}
    (hg : a.eval g = .func (.func gf) #[] lb) (eg : ∀ args w, (callFunc gf args).run P w = .ok (.enter gf args) w)
    {encs : α → Array Value} (hps : ∀ x, (encs x).size = ps.size) {xs : List α} {S : Nat → Prop} (hlo : ∀ b, w.heap.size ≤ b → S b)
    (hseq : ∀ w1, Ext w w1 → w1.heap.size = w.heap.size + 2 → IterB P gf lb encs xs S w1)
    (I : Nat → World → Prop) (Ix : Code → Nat → World → Prop)
    (hI : ∀ j W W', Below w.heap.size W W' → w.heap.size ≤ W.heap.size → I j W → I j W') (hIx : ∀ c j W W', Below w.heap.size W W' → w.heap.size ≤ W.heap.size → Ix c j W → Ix c j W') (h0 : I 0 w)
    (hround : ∀ (l j : Nat) (x : α) (W : World), xs[j]? = some x → I j W → w.heap.size ≤ W.heap.size →
      assign.wpIn (Fence.wide.inRound l) 0 P (Exit.then (fun a₁ W₁ => Ext W W₁ ∧ ∀ W₂, Turn (fun b => w.heap.size ≤ b ∧ b < W.heap.size) W₁ W₂ → I j W₂ → W.heap.size ≤ W₂.heap.size →
          body.wpIn (Fence.wide.inRound l) 0 P (bodyB S w.heap.size W.heap.size W₂ (I (j + 1)) (fun c => Ix c (j + 1))) a₁ W₂) (fun _ _ _ => False))
        { tmps := (ps.zip (encs x)).foldl (fun t (p, v) => t.setIfInBounds p v) a.tmps, defers := [] } W)
    (hdone : ∀ (D : Nat) (W : World), I xs.length W → w.heap.size ≤ D → w.heap.size ≤ W.heap.size → W.heap[D]? = some (.deferred (some [])) → Q .normal { a with defers := { target := .collected D, args := #[] } :: a.defers } W)
    (hstop : ∀ (D : Nat) (c : Code) (j : Nat) (W : World), j ≤ xs.length → Ix c j W → w.heap.size ≤ D → w.heap.size ≤ W.heap.size → W.heap[D]? = some (.deferred (some [])) → c.wp P Q { a with defers := { target := .collected D, args := #[] } :: a.defers } W) :
    (Code.rangeFunc g ps assign body).wp P Q a w := by
  refine (wpIn_wide (n := 1)).1 (wpIn_rangeFunc ?_)
  intro fn hfn
  obtain ⟨rec, hrec⟩ : ∃ rec : LoopState → Option Code → Loop, rec = fun st pe => { state := st, pending := pe, fn, tmps := a.tmps, params := ps, assign, body, defers := w.heap.size } := ⟨_, rfl⟩
  obtain ⟨W1, hW1⟩ : ∃ W1, (w.alloc (.deferred (some []))).alloc (.loop (rec .ready none)) = W1 := ⟨_, rfl⟩
  have hL1 : W1.heap[w.heap.size + 1]? = some (.loop (rec .ready none)) := by
    rw [← hW1]; have := World.alloc_heap_new (w.alloc (.deferred (some []))) (.loop (rec .ready none)); rwa [World.size_alloc] at this
  have hK1 : W1.heap[w.heap.size]? = some (.deferred (some [])) := by
    rw [← hW1]; exact (Below.heap_alloc _ _ _ (by simp)).trans (World.alloc_heap_new w _)
  have hE1 : Ext w W1 := by rw [← hW1]; exact ((Ext.refl w).alloc _).alloc _
  have hs1 : W1.heap.size = w.heap.size + 2 := by rw [← hW1]; simp
  have hI1 : I 0 W1 := hI _ _ _ hE1.below (Nat.le_refl _) h0
  have hB : ∀ {A B : World}, Below W1.heap.size A B → Below w.heap.size A B := fun h => h.mono (by omega)
  refine ⟨w.heap.size + 1, [{ target := .collected w.heap.size, args := #[] }], W1, { target := .fn (.func gf) lb, args := #[.func (.yield (w.heap.size + 1)) #[] #[]] }, W1, gf,
    #[.func (.yield (w.heap.size + 1)) #[] #[]] ++ lb, W1, ?_, ?_, ?_, ?_, (fun h => by cases h), ?_⟩
  · rw [← hW1, hrec]; exact run_enterLoop_outer _ _ _ _ _
  · simp only [resolve, hg]
    simp [go_sem]
  · intro f' hf'; trivial
  · simp [invoke, go_sem, eg]
  · refine callsIn_wide.2 ((hseq W1 hE1 hs1 (w.heap.size + 1)
      (fun j W => I j W ∧ W.heap[w.heap.size + 1]? = some (.loop (rec .ready none)) ∧ W.heap[w.heap.size]? = some (.deferred (some [])))
      (fun j W => ∃ c, Ix c j W ∧ W.heap[w.heap.size + 1]? = some (.loop (rec .done (some c))) ∧ W.heap[w.heap.size]? = some (.deferred (some [])))
      ?_ ?_ ?_ ⟨hI1, hL1, hK1⟩).mono ?_)
    · rintro j A B hb ⟨h1, h2, h3⟩
      exact ⟨hI _ _ _ (hB hb) (by have := lt_of_heap h3; omega) h1, (hb.block _ (by omega)).trans h2, (hb.block _ (by omega)).trans h3⟩
    · rintro j A B hb ⟨c, h1, h2, h3⟩
      exact ⟨c, hIx _ _ _ _ (hB hb) (by have := lt_of_heap h3; omega) h1, (hb.block _ (by omega)).trans h2, (hb.block _ (by omega)).trans h3⟩
    · rintro j x W hx hsz ⟨hi, hl, hk⟩
      have hlt : w.heap.size + 1 < W.heap.size := lt_of_heap hl
      have hy := run_yield (P := P) (args := encs x) hl (by rw [hrec]; exact hps x)
      rw [hrec] at hy
      refine ⟨fn, _, assign, body, hy, roundIn_of_wpIn hfn (wpIn_mono (hround _ j x W hx hi (by omega)) ?_)⟩
      rintro e a₁ W₂ hp
      cases e with
      | normal =>
        obtain ⟨hE2, hbody⟩ := hp
        have hl2 : W₂.heap[w.heap.size + 1]? = some (.loop (rec .ready none)) := (hE2.below.block _ hlt).trans hl
        have hk2 : W₂.heap[w.heap.size]? = some (.deferred (some [])) := (hE2.below.block _ (by omega)).trans hk
        have hlt2 := lt_of_heap hl2
        refine ⟨_, run_beginRound hl2 (by rw [hrec]), ?_⟩
        have hl3 : (W₂.putObj (w.heap.size + 1) (.loop { rec .ready none with state := .busy })).heap[w.heap.size + 1]? = some (.loop { rec .ready none with state := .busy }) := World.putObj_heap_same hlt2
        have hk3 : (W₂.putObj (w.heap.size + 1) (.loop { rec .ready none with state := .busy })).heap[w.heap.size]? = some (.deferred (some [])) := (World.putObj_heap_other (by omega)).trans hk2
        have hT3 : Turn (fun b => w.heap.size ≤ b ∧ b < W.heap.size) W₂ (W₂.putObj (w.heap.size + 1) (.loop { rec .ready none with state := .busy })) := putObj_turn _ _ ⟨by omega, hlt⟩
        have hI3 : I j (W₂.putObj (w.heap.size + 1) (.loop { rec .ready none with state := .busy })) :=
          hI _ _ _ (hT3.below (by omega) fun k hk => hk.1) (by omega) (hI _ _ _ (hE2.below.mono (by omega)) (by omega) hi)
        have hsz3 : W.heap.size ≤ (W₂.putObj (w.heap.size + 1) (.loop { rec .ready none with state := .busy })).heap.size := by
          have := hE2.size
          simp
          exact this
        refine wpIn_mono (hbody _ hT3 hI3 hsz3) ?_
        have fin : ∀ (jump : Option Code) (W3 : World), Turn (fun b => (S b ∧ b < w.heap.size) ∨ W.heap.size ≤ b) (W₂.putObj (w.heap.size + 1) (.loop { rec .ready none with state := .busy })) W3 →
            (Instr.endRound (w.heap.size + 1) jump).run P W3 = .ok (.bool jump.isNone) (W3.putObj (w.heap.size + 1) (.loop (rec (if jump.isNone then .ready else .done) jump))) ∧
            (W3.putObj (w.heap.size + 1) (.loop (rec (if jump.isNone then .ready else .done) jump))).heap[w.heap.size + 1]? = some (.loop (rec (if jump.isNone then .ready else .done) jump)) ∧
            (W3.putObj (w.heap.size + 1) (.loop (rec (if jump.isNone then .ready else .done) jump))).heap[w.heap.size]? = some (.deferred (some [])) ∧
            Below w.heap.size W3 (W3.putObj (w.heap.size + 1) (.loop (rec (if jump.isNone then .ready else .done) jump))) ∧ w.heap.size ≤ W3.heap.size ∧
            Turn (fun b => S b ∧ b < W1.heap.size) W (W3.putObj (w.heap.size + 1) (.loop (rec (if jump.isNone then .ready else .done) jump))) := fun jump W3 hk4 => by
          have hl4 := (hk4.block _ (lt_of_heap hl3) (by omega)).trans hl3
          have hr := run_endRound (P := P) jump hl4
          have hlt4 := lt_of_heap hl4
          have hr2 : (Instr.endRound (w.heap.size + 1) jump).run P W3 = .ok (.bool jump.isNone) (W3.putObj (w.heap.size + 1) (.loop (rec (if jump.isNone then .ready else .done) jump))) := by
            rw [hrec] at hr ⊢
            exact hr
          refine ⟨hr2, World.putObj_heap_same hlt4, (World.putObj_heap_other (by omega)).trans ((hk4.block _ (lt_of_heap hk3) (by omega)).trans hk3), (putObj_turn (S := fun b => w.heap.size ≤ b) _ _ (by omega)).below (by omega) (fun k hk => hk), by omega, ?_⟩
          have t1 : Turn (fun b => S b ∧ b < W1.heap.size) W W₂ := Turn.of_ext hE2
          have t2 : Turn (fun b => S b ∧ b < W1.heap.size) W (W₂.putObj (w.heap.size + 1) (.loop { rec .ready none with state := .busy })) := t1.trans (putObj_turn _ _ ⟨hlo _ (by omega), by omega⟩)
          exact (t2.andThen (S'' := fun b => S b ∧ b < W1.heap.size) hk4 (fun k _ hS => hS) (fun k hk hS => hS.elim (fun hS => ⟨hS.1, by omega⟩) (fun hS => absurd hk (Nat.not_lt.2 hS)))).trans (putObj_turn _ _ ⟨hlo _ (by omega), by omega⟩)
        rintro e a3 W3 hp
        cases e with
        | normal =>
          obtain ⟨ht, hi3⟩ := hp
          obtain ⟨hr, hl4, hk4, hb4, hs4, ht4⟩ := fin none W3 ht
          exact ⟨_, _, hr, .inl ⟨rfl, ⟨hI _ _ _ hb4 hs4 hi3, hl4, hk4⟩, ht4⟩⟩
        | ret =>
          obtain ⟨ht, hi3⟩ := hp
          obtain ⟨hr, hl4, hk4, hb4, hs4, ht4⟩ := fin (some (.ret)) W3 ht
          exact ⟨_, _, hr, .inr ⟨rfl, ⟨.ret, hIx _ _ _ _ hb4 hs4 hi3, hl4, hk4⟩, ht4⟩⟩
        | exit id =>
          obtain ⟨ht, hi3⟩ := hp
          obtain ⟨hr, hl4, hk4, hb4, hs4, ht4⟩ := fin (some (.exit id)) W3 ht
          exact ⟨_, _, hr, .inr ⟨rfl, ⟨.exit id, hIx _ _ _ _ hb4 hs4 hi3, hl4, hk4⟩, ht4⟩⟩
        | goto t =>
          obtain ⟨ht, hi3⟩ := hp
          obtain ⟨hr, hl4, hk4, hb4, hs4, ht4⟩ := fin (some (.goto t)) W3 ht
          exact ⟨_, _, hr, .inr ⟨rfl, ⟨.goto t, hIx _ _ _ _ hb4 hs4 hi3, hl4, hk4⟩, ht4⟩⟩
        | panic ch => exact hp.elim
        | outgrown => exact hp.elim
      | exit id => exact hp.elim
      | goto l => exact hp.elim
      | ret => exact hp.elim
      | panic ch => exact hp.elim
      | outgrown => exact hp.elim
    · rintro e W2 ⟨⟨v, rfl⟩, hsz, (⟨hi, hl, hk⟩ | ⟨j, hj, c, hi, hl, hk⟩)⟩
      · have hlt := lt_of_heap hl
        have hend := run_endLoop (P := P) hl (by rw [hrec]; simp)
        have hp : (rec .ready none).pending = none := by rw [hrec]
        rw [hp] at hend
        exact ⟨none, _, hend, hdone _ _ (hI _ _ _ ((putObj_turn (S := fun b => w.heap.size ≤ b) _ _ (by omega)).below (by omega) (fun k hk => hk)) (by omega) hi) (Nat.le_refl _) (by simp; omega) ((World.putObj_heap_other (by omega)).trans hk)⟩
      · have hlt := lt_of_heap hl
        have hend := run_endLoop (P := P) hl (by rw [hrec]; simp)
        have hp : (rec .done (some c)).pending = some c := by rw [hrec]
        rw [hp] at hend
        exact ⟨some c, _, hend, wpIn_wide.2 (hstop _ c j _ hj (hIx _ _ _ _ ((putObj_turn (S := fun b => w.heap.size ≤ b) _ _ (by omega)).below (by omega) (fun k hk => hk)) (by omega) hi) (Nat.le_refl _) (by simp; omega) ((World.putObj_heap_other (by omega)).trans hk))⟩

/-- a function that ranges over a function: its contract from its body -/
theorem calls_of_marks {f : FuncId} {fn : Func} {c : Code} {args : Array Value} {w : World} {R : Ending → World → Prop} (hf : P.funcs[f]? = some fn) (hb : fn.body = some c)
    (h : c.wp P (bodyPostM Fence.wide 0 P fn R) { tmps := args ++ Array.replicate (fn.ntmps - args.size) undef, defers := [] } w) : Calls P f args w R :=
  callsIn_wide.1 (callsIn_of_wp_marks hf hb trivial (wpIn_wide.2 h) rfl)
/-- it returns, no range behind it -/
theorem marks_ret {fn : Func} {R : Ending → World → Prop} {a : Act} {w : World} {v : Value} (hd : a.defers = []) (hr : (results fn a.tmps).run P w = .ok v w) (hR : R (.returned v) w) : bodyPostM Fence.wide 0 P fn R .ret a w := by
  show LeavesInM Fence.wide 0 P fn a.tmps R a.defers .returning w
  rw [hd]
  exact ⟨v, hr, hR⟩
/-- it returns, behind one range -/
theorem marks_ret1 {fn : Func} {R : Ending → World → Prop} {a : Act} {w : World} {D : Nat} {v : Value} (hd : a.defers = [{ target := .collected D, args := #[] }]) (hk : w.heap[D]? = some (.deferred (some [])))
    (hr : (results fn a.tmps).run P (w.putObj D (.deferred none)) = .ok v (w.putObj D (.deferred none))) (hR : R (.returned v) (w.putObj D (.deferred none))) : bodyPostM Fence.wide 0 P fn R .ret a w := by
  show LeavesInM Fence.wide 0 P fn a.tmps R a.defers .returning w
  rw [hd]
  exact ⟨by simp, .inl ⟨_, _, rfl, run_takeDeferred hk, v, hr, hR⟩⟩

section
variable {C : World → Prop} {md : Region.Mode} {ops : Array Oper} {F : Fence} {n : Nat}
theorem wpIn_of_quiet' {o : Oper} {a : Act} {K : Act → Prop} {K' : Act → World → Prop} {Q' : Exit → Act → World → Prop} {w : World} (hnd : ∀ c, o.op ≠ .defer c) (hw : C w) (h : ∀ a w', C w' → K a → K' a w')
    (ha : o.askedIn F P a C) (hh : o.quietIn F n P a C K) : o.wpIn F n P a w K' Q' := by
  obtain ⟨v, h1, h2⟩ := hh
  have h3 := h1 w hw
  unfold Oper.quietAtIn at h3
  unfold Oper.wpIn
  refine ⟨ha w hw, ?_⟩
  rw [Oper.semAt_eq _ _ _ hnd]
  generalize (execOp a.eval o).run P w = r at *
  cases r with
  | ok x w' =>
    cases x <;> simp only [Oper.quietUponIn] at h3 <;> simp only [Oper.uponIn]
    case value u =>
      obtain ⟨e1, e2⟩ := h3
      rw [e1, e2]
      exact h _ _ hw h2
    case skip =>
      obtain ⟨e1, e2⟩ := h3
      rw [e1, ← e2]
      exact h _ _ hw h2
    case enter f args =>
      obtain ⟨e1, hd, hc⟩ := h3
      rw [e1]
      exact ⟨hd, hc.mono fun e w'' ⟨he, hw''⟩ => by subst he; exact h _ _ hw'' h2⟩
  | halt x w' => simp only [Oper.quietUponIn] at h3
theorem wpOpIn_of_qOpIn' {i : Nat} {a : Act} {K : Act → Prop} {K' : Act → World → Prop} {Q' : Exit → Act → World → Prop} {w : World} (hnd : ∀ (i : Nat) (o : Oper), ops[i]? = some o → ∀ c : Call, o.op ≠ Op.defer c) (hC : C w) (h : ∀ a w', C w' → K a → K' a w')
    (hh : qOpIn F n P ops C i K a) : wpOpIn F n P ops Q' i K' a w := by
  unfold qOpIn at hh
  unfold wpOpIn
  split
  · rename_i ho; simp only [ho] at hh; exact h _ _ hC hh
  · rename_i o ho
    simp only [ho] at hh
    obtain ⟨ha, hh⟩ := hh
    split
    · rename_i hw; simp only [hw, if_true] at hh; exact wpIn_of_quiet' (hnd i o ho) hC h ha hh
    · rename_i hw; simp only [hw] at hh; exact ⟨ha w hC, h _ _ hC hh⟩
theorem wpAnyIn_of_quiet' {Q : Act → Prop} {Q' : Exit → Act → World → Prop} (hnd : ∀ (i : Nat) (o : Oper), ops[i]? = some o → ∀ c : Call, o.op ≠ Op.defer c) (hQ : ∀ a w, C w → Q a → Q' .normal a w) : ∀ (fuel : Nat) (listed : Array Bool) (a : Act) (w : World), C w →
    wpAnyQIn F n P md ops C Q fuel listed a → wpAnyIn F n P md ops Q' fuel listed a w
  | 0, _, _, _, hw, h => ⟨h.1, hQ _ _ hw h.2⟩
  | fuel + 1, _, _, _, hw, h => ⟨fun h0 => hQ _ _ hw (h.1 h0), fun i hi => wpOpIn_of_qOpIn' hnd hw (fun a' w' hw' => wpAnyIn_of_quiet' hnd hQ fuel _ a' w' hw') (h.2 i hi)⟩
theorem quietIn_of_plain {o : Oper} {a : Act} {K : Act → Prop} (hd : F.depth = none) (_hF : ∀ f, F.fn f) (hCI : ∀ f args w R, Calls P f args w R → CallsIn F (n - 1) P f args w R) (h : o.quiet P a C K) : o.quietIn F n P a C K := by
  obtain ⟨v, h1, h2⟩ := h
  refine ⟨v, fun w hw => ?_, h2⟩
  have h3 := h1 w hw
  unfold Oper.quietAt at h3
  unfold Oper.quietAtIn
  generalize (execOp a.eval o).run P w = r at *
  cases r with
  | ok x w' =>
    cases x <;> simp only [Oper.quietUpon] at h3 <;> simp only [Oper.quietUponIn]
    case value u => exact h3
    case skip => exact h3
    case enter f args => exact ⟨h3.1, (fun e => by rw [hd] at e; cases e), hCI _ _ _ _ h3.2⟩
  | halt x w' => simp only [Oper.quietUpon] at h3
theorem wpQuietIn_of_plain {Q : Act → Prop} (hd : F.depth = none) (hF : ∀ f, F.fn f) (hCI : ∀ f args w R, Calls P f args w R → CallsIn F (n - 1) P f args w R) : ∀ (l : List Oper) (a : Act), wpQuiet P ops C Q l a → wpQuietIn F n P ops C Q l a
  | [], _, h => h
  | o :: l, a, h => by
    refine ⟨fun _ _ f _ => hF f, ?_⟩
    unfold wpQuiet at h
    split
    · rename_i hw
      rw [if_pos hw] at h
      obtain ⟨v, h1, h2⟩ := h
      exact quietIn_of_plain hd hF hCI ⟨v, h1, wpQuietIn_of_plain hd hF hCI l _ h2⟩
    · rename_i hw
      rw [if_neg hw] at h
      exact wpQuietIn_of_plain hd hF hCI l _ h
end
/-- no operation of the list is a defer statement -/
def noDefer (l : List Oper) : Bool := l.all fun o => match o.op with | .defer _ => false | _ => true
/-- A region that draws its order, in a round: as 'wp_region_ext'. -/
theorem wpIn_region_ext {id l0 n : Nat} {Q : Exit → Act → World → Prop} {a : Act} {w : World} {l : List Oper} (hnd : noDefer l = true) (hm : P.follows .mixedOrders = true) (hB : Region.lexB .any l.toArray = true)
    (h : wpQuiet P l.toArray (fun w' => ∃ x : Lay, w' = more w x.os x.k) (fun a' => ∀ w', (∃ x : Lay, w' = more w x.os x.k) → Q .normal a' w') l a) : (Code.region id l.toArray true).wpIn (Fence.wide.inRound l0) n P Q a w := by
  have hnd' : ∀ (i : Nat) (o : Oper), l.toArray[i]? = some o → ∀ c : Call, o.op ≠ Op.defer c := by
    intro i o ho c hc
    have hmem : o ∈ l := by
      rw [List.getElem?_toArray] at ho
      exact List.mem_of_getElem? ho
    have := List.all_eq_true.1 hnd o hmem
    rw [hc] at this
    cases this
  have hB' := hB
  simp only [Region.lexB, Bool.and_eq_true] at hB
  have h' := wpQuietIn_of_plain (F := Fence.wide.inRound l0) (n := n) rfl (fun _ => trivial) (fun _ _ _ _ hc => CallsIn.inRound l0 (callsIn_wide.2 hc)) l a h
  refine wpIn_region_any hm (wpAnyIn_of_quiet' (C := fun w' => ∃ x : Lay, w' = more w x.os x.k) (Q := fun a' => ∀ w', (∃ x : Lay, w' = more w x.os x.k) → Q .normal a' w') hnd' (fun _ w' hw' h => h w' hw') _ _ _ _ ⟨⟨[], w.drawn + 1⟩, by simp [more]⟩ ?_)
  have := wpAnyQIn_lex (F := Fence.wide.inRound l0) (n := n) (C := fun w' => ∃ x : Lay, w' = more w x.os x.k) (md := .any) hB.1 l 0 (Array.replicate l.toArray.size false) a (by simp) (by simpa using hB.2) h'
  simpa using this
end Go.Proofs.Ytaffaeompdlecaa
