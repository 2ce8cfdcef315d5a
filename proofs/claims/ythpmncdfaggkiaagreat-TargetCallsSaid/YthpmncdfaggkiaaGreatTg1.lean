/- Tg: texts that the proof rests on, part 1. -/
import Derived.Test.YthpmncdfaggkiaaGreatCr1
import Derived.Test.YthpmncdfaggkiaaGreatCr10
import Derived.Test.YthpmncdfaggkiaaGreatCr11
import Derived.Test.YthpmncdfaggkiaaGreatCr2
import Derived.Test.YthpmncdfaggkiaaGreatCr3
import Derived.Test.YthpmncdfaggkiaaGreatCr5
import Derived.Test.YthpmncdfaggkiaaGreatCr6
import Derived.Test.YthpmncdfaggkiaaGreatCr7
import Derived.Test.YthpmncdfaggkiaaGreatCr8
import Derived.Test.YthpmncdfaggkiaaGreatCr9
import Derived.WalkKit
import Derived.Handy
import Derived.Deep.Draws
import Derived.BigQuiet
import Derived.Lib.Hide
import Derived.Maps.AppendAt
import Derived.Deep.AppendLies
import Derived.RegionTactic
import Derived.OwnWalk
import Derived.Laws.OwnMore
import Derived.RangeFuncNested
import Derived.RangeFuncBound
import Derived.RangeFuncCalls
import Derived.RangeFuncLeaves
import Derived.RangeFuncRecord
import Derived.RangeFuncIn
import Derived.Sort.QuietThIn
import Derived.Orders
import Derived.Deep.Quiet
import Derived.Test.YthpmncdfaggkiaaGreatChecked
import Derived.WalkSpells
import Derived.WalkLawsBesides
import Derived.BigRegion
import Derived.Deep.RegionWith
import Derived.Deep.QuietTactic
import Derived.Deep.DeepCutAuto
import Derived.Deep.RegionHeld3
import Derived.Deep.RegionLaw
import Derived.Laws.BitsAllLaws
import Derived.Laws.Closers25b
import Derived.Test.YthpmncdfaggkiaaGreatRows
import Derived.OwnWalkIn
import Derived.TacticsInMore
import Derived.LoopNIn
import Derived.LoopIn
import Derived.Deep.LoopGhost
import Derived.Laws.EntriesVeiled
import Derived.Shelf.Abstract
namespace Go.Proofs.YthpmncdfaggkiaaGreat
open Go.RowKit

theorem Ints.below {w w' : World} {A : Option Addr} {xs : List Int} (h : Ints w A xs) (e : Below w.heap.size w w') : Ints w' A xs := fun h0 => by
  obtain ⟨b, off, hA, hb, hc⟩ := h h0
  exact ⟨b, off, hA, by have := e.size; omega, fun j hj => by rw [e.cell (p := ⟨b, off + j, none⟩) hb]; exact hc j hj⟩

section
variable {S : Nat → Prop}
theorem Turn.putBlock (w : World) {b : Nat} (hp : S b) (o : Obj) : Turn S w { w with heap := w.heap.setIfInBounds b o } :=
  ⟨rfl, rfl, rfl, by simp, fun k _ hS => by
    have hne : b ≠ k := fun he => hS (he ▸ hp)
    show (w.heap.setIfInBounds b o)[k]? = _
    rw [Array.getElem?_setIfInBounds_ne hne]⟩
end
def IterB {α : Type} (P : Program) (gf : FuncId) (lb : Array Value) (encs : α → Array Value) (xs : List α) (S : Nat → Prop) (w1 : World) : Prop :=
  ∀ (l : Nat) (J Jx : Nat → World → Prop),
    (∀ j W W', Below w1.heap.size W W' → J j W → J j W') → (∀ j W W', Below w1.heap.size W W' → Jx j W → Jx j W') →
    (∀ j x W, xs[j]? = some x → w1.heap.size ≤ W.heap.size → J j W → YieldAt Fence.wide 0 P l (encs x) W fun e W' =>
      (e = .returned (.bool true) ∧ J (j + 1) W' ∧ Turn (fun b => S b ∧ b < w1.heap.size) W W') ∨ (e = .returned (.bool false) ∧ Jx (j + 1) W' ∧ Turn (fun b => S b ∧ b < w1.heap.size) W W')) →
    J 0 w1 →
    Calls P gf (#[.func (.yield l) #[] #[]] ++ lb) w1 fun e W' => (∃ v, e = .returned v) ∧ w1.heap.size ≤ W'.heap.size ∧ (J xs.length W' ∨ ∃ j, j ≤ xs.length ∧ Jx j W')
def bodyB (S : Nat → Prop) (B N : Nat) (W : World) (I : World → Prop) (Ix : Code → World → Prop) : Exit → Act → World → Prop
  | .normal, _, W' => Turn (fun b => (S b ∧ b < B) ∨ N ≤ b) W W' ∧ I W'
  | .ret, _, W' => Turn (fun b => (S b ∧ b < B) ∨ N ≤ b) W W' ∧ Ix .ret W'
  | .exit id, _, W' => Turn (fun b => (S b ∧ b < B) ∨ N ≤ b) W W' ∧ Ix (.exit id) W'
  | .goto t, _, W' => Turn (fun b => (S b ∧ b < B) ∨ N ≤ b) W W' ∧ Ix (.goto t) W'
  | .panic _, _, _ => False
  | .outgrown, _, _ => False
variable {P : Program}
theorem putObj_turn {S : Nat → Prop} (W : World) {l : Nat} (o : Obj) (h : S l) : Turn S W (W.putObj l o) := Turn.putBlock W h o
theorem wp_range {α : Type} {g : Operand} {ps : Array Tmp} {assign body : Code} {Q : Exit → Act → World → Prop} {a : Act} {w : World} {gf : Nat} {lb : Array Value}
    (hg : a.eval g = .func (.func gf) #[] lb) (eg : ∀ args w, (callFunc gf args).run P w = .ok (.enter gf args) w)
    {encs : α → Array Value} (hps : ∀ x, (encs x).size = ps.size) {xs : List α} {S : Nat → Prop} (hlo : ∀ b, w.heap.size ≤ b → S b)
    (hseq : ∀ w1, Ext w w1 → w1.heap.size = w.heap.size + 2 → IterB P gf lb encs xs S w1)
    (I : Nat → World → Prop) (Ix : Code → Nat → World → Prop)
    (hI : ∀ j W W', Below w.heap.size W W' → w.heap.size ≤ W.heap.size → I j W → I j W') (hIx : ∀ c j W W', Below w.heap.size W W' → w.heap.size ≤ W.heap.size → Ix c j W → Ix c j W') (h0 : I 0 w)
    (hround : ∀ (l j : Nat) (x : α) (W : World), xs[j]? = some x → I j W → w.heap.size ≤ W.heap.size →
      assign.wpIn (Fence.wide.inRound l) 0 P (Exit.then (fun a₁ W₁ => Ext W W₁ ∧ ∀ W₂, Turn (fun b => w.heap.size ≤ b ∧ b < W.heap.size) W₁ W₂ → I j W₂ → W.heap.size ≤ W₂.heap.size →
          body.wpIn (Fence.wide.inRound l) 0 P (bodyB S w.heap.size W.heap.size W₂ (I (j + 1)) (fun c => Ix c (j + 1))) a₁ W₂) (fun _ _ _ => False))
        { tmps := (ps.zip (encs x)).foldl (fun t (p, v) => t.setIfInBounds p v) a.tmps, defers := [] } W)
    (hdone : ∀ (D : Nat) (W : World), I xs.length W → w.heap.size ≤ D → w.heap.size ≤ W.heap.size → W.heap[D]? = some (.deferred (some [])) → Q .normal { a with defers := { target := .collected D, args := #[] } :: a.defers } W)
    (hstop : ∀ (D : Nat) (c : Code) (j : Nat) (W : World), j ≤ xs.length → Ix c j W → w.heap.size ≤ D → w.heap.size ≤ W.heap.size → W.heap[D]? = some (.deferred (some [])) → c.wp P Q { a with defers := { target := .collected D, args := #[] } :: a.defers } W) :
    (Code.rangeFunc g ps assign body).wp P Q a w := by
  refine (wpIn_wide (n := 1)).1 (wpIn_rangeFunc ?_)
  intro fn hfn
  obtain ⟨rec, hrec⟩ : ∃ rec : LoopState → Option Code → Loop, rec = fun st pe => { state := st, pending := pe, fn, tmps := a.tmps, params := ps, assign, body, defers := w.heap.size } := ⟨_, rfl⟩
  obtain ⟨W1, hW1⟩ : ∃ W1, (w.alloc (.deferred (some []))).alloc (.loop (rec .ready none)) = W1 := ⟨_, rfl⟩
  have hL1 : W1.heap[w.heap.size + 1]? = some (.loop (rec .ready none)) := by
    rw [← hW1]; have := World.alloc_heap_new (w.alloc (.deferred (some []))) (.loop (rec .ready none)); rwa [World.size_alloc] at this
  have hK1 : W1.heap[w.heap.size]? = some (.deferred (some [])) := by
    rw [← hW1]; exact (Below.heap_alloc _ _ _ (by simp)).trans (World.alloc_heap_new w _)
  have hE1 : Ext w W1 := by rw [← hW1]; exact ((Ext.refl w).alloc _).alloc _
  have hs1 : W1.heap.size = w.heap.size + 2 := by rw [← hW1]; simp
  have hI1 : I 0 W1 := hI _ _ _ hE1.below (Nat.le_refl _) h0
  have hB : ∀ {A B : World}, Below W1.heap.size A B → Below w.heap.size A B := fun h => h.mono (by omega)
  refine ⟨w.heap.size + 1, [{ target := .collected w.heap.size, args := #[] }], W1, { target := .fn (.func gf) lb, args := #[.func (.yield (w.heap.size + 1)) #[] #[]] }, W1, gf,
    #[.func (.yield (w.heap.size + 1)) #[] #[]] ++ lb, W1, ?_, ?_, ?_, ?_, (fun h => by cases h), ?_⟩
  · rw [← hW1, hrec]; exact run_enterLoop_outer _ _ _ _ _
  · simp only [resolve, hg]
    simp [go_sem]
  · intro f' hf'; trivial
  · simp [invoke, go_sem, eg]
  · refine callsIn_wide.2 ((hseq W1 hE1 hs1 (w.heap.size + 1)
      (fun j W => I j W ∧ W.heap[w.heap.size + 1]? = some (.loop (rec .ready none)) ∧ W.heap[w.heap.size]? = some (.deferred (some [])))
      (fun j W => ∃ c, Ix c j W ∧ W.heap[w.heap.size + 1]? = some (.loop (rec .done (some c))) ∧ W.heap[w.heap.size]? = some (.deferred (some [])))
      ?_ ?_ ?_ ⟨hI1, hL1, hK1⟩).mono ?_)
    · rintro j A B hb ⟨h1, h2, h3⟩
      exact ⟨hI _ _ _ (hB hb) (by have := lt_of_heap h3; omega) h1, (hb.block _ (by omega)).trans h2, (hb.block _ (by omega)).trans h3⟩
    · rintro j A B hb ⟨c, h1, h2, h3⟩
      exact ⟨c, hIx _ _ _ _ (hB hb) (by have := lt_of_heap h3; omega) h1, (hb.block _ (by omega)).trans h2, (hb.block _ (by omega)).trans h3⟩
    · rintro j x W hx hsz ⟨hi, hl, hk⟩
      have hlt : w.heap.size + 1 < W.heap.size := lt_of_heap hl
      have hy := run_yield (P := P) (args := encs x) hl (by rw [hrec]; exact hps x)
      rw [hrec] at hy
      refine ⟨fn, _, assign, body, hy, roundIn_of_wpIn hfn (wpIn_mono (hround _ j x W hx hi (by omega)) ?_)⟩
      rintro e a₁ W₂ hp
      cases e with
      | normal =>
        obtain ⟨hE2, hbody⟩ := hp
        have hl2 : W₂.heap[w.heap.size + 1]? = some (.loop (rec .ready none)) := (hE2.below.block _ hlt).trans hl
        have hk2 : W₂.heap[w.heap.size]? = some (.deferred (some [])) := (hE2.below.block _ (by omega)).trans hk
        have hlt2 := lt_of_heap hl2
        refine ⟨_, run_beginRound hl2 (by rw [hrec]), ?_⟩
        have hl3 : (W₂.putObj (w.heap.size + 1) (.loop { rec .ready none with state := .busy })).heap[w.heap.size + 1]? = some (.loop { rec .ready none with state := .busy }) := World.putObj_heap_same hlt2
        have hk3 : (W₂.putObj (w.heap.size + 1) (.loop { rec .ready none with state := .busy })).heap[w.heap.size]? = some (.deferred (some [])) := (World.putObj_heap_other (by omega)).trans hk2
        have hT3 : Turn (fun b => w.heap.size ≤ b ∧ b < W.heap.size) W₂ (W₂.putObj (w.heap.size + 1) (.loop { rec .ready none with state := .busy })) := putObj_turn _ _ ⟨by omega, hlt⟩
        have hI3 : I j (W₂.putObj (w.heap.size + 1) (.loop { rec .ready none with state := .busy })) :=
          hI _ _ _ (hT3.below (by omega) fun k hk => hk.1) (by omega) (hI _ _ _ (hE2.below.mono (by omega)) (by omega) hi)
        have hsz3 : W.heap.size ≤ (W₂.putObj (w.heap.size + 1) (.loop { rec .ready none with state := .busy })).heap.size := by
          have := hE2.size
          simp
          exact this
        refine wpIn_mono (hbody _ hT3 hI3 hsz3) ?_
        have fin : ∀ (jump : Option Code) (W3 : World), Turn (fun b => (S b ∧ b < w.heap.size) ∨ W.heap.size ≤ b) (W₂.putObj (w.heap.size + 1) (.loop { rec .ready none with state := .busy })) W3 →
            (Instr.endRound (w.heap.size + 1) jump).run P W3 = .ok (.bool jump.isNone) (W3.putObj (w.heap.size + 1) (.loop (rec (if jump.isNone then .ready else .done) jump))) ∧
            (W3.putObj (w.heap.size + 1) (.loop (rec (if jump.isNone then .ready else .done) jump))).heap[w.heap.size + 1]? = some (.loop (rec (if jump.isNone then .ready else .done) jump)) ∧
            (W3.putObj (w.heap.size + 1) (.loop (rec (if jump.isNone then .ready else .done) jump))).heap[w.heap.size]? = some (.deferred (some [])) ∧
            Below w.heap.size W3 (W3.putObj (w.heap.size + 1) (.loop (rec (if jump.isNone then .ready else .done) jump))) ∧ w.heap.size ≤ W3.heap.size ∧
            Turn (fun b => S b ∧ b < W1.heap.size) W (W3.putObj (w.heap.size + 1) (.loop (rec (if jump.isNone then .ready else .done) jump))) := fun jump W3 hk4 => by
          have hl4 := (hk4.block _ (lt_of_heap hl3) (by omega)).trans hl3
          have hr := run_endRound (P := P) jump hl4
          have hlt4 := lt_of_heap hl4
          have hr2 : (Instr.endRound (w.heap.size + 1) jump).run P W3 = .ok (.bool jump.isNone) (W3.putObj (w.heap.size + 1) (.loop (rec (if jump.isNone then .ready else .done) jump))) := by
            rw [hrec] at hr ⊢
            exact hr
          refine ⟨hr2, World.putObj_heap_same hlt4, (World.putObj_heap_other (by omega)).trans ((hk4.block _ (lt_of_heap hk3) (by omega)).trans hk3), (putObj_turn (S := fun b => w.heap.size ≤ b) _ _ (by omega)).below (by omega) (fun k hk => hk), by omega, ?_⟩
          have t1 : Turn (fun b => S b ∧ b < W1.heap.size) W W₂ := Turn.of_ext hE2
          have t2 : Turn (fun b => S b ∧ b < W1.heap.size) W (W₂.putObj (w.heap.size + 1) (.loop { rec .ready none with state := .busy })) := t1.trans (putObj_turn _ _ ⟨hlo _ (by omega), by omega⟩)
          exact (t2.andThen (S'' := fun b => S b ∧ b < W1.heap.size) hk4 (fun k _ hS => hS) (fun k hk hS => hS.elim (fun hS => ⟨hS.1, by omega⟩) (fun hS => absurd hk (Nat.not_lt.2 hS)))).trans (putObj_turn _ _ ⟨hlo _ (by omega), by omega⟩)
        rintro e a3 W3 hp
        cases e with
        | normal =>
          obtain ⟨ht, hi3⟩ := hp
          obtain ⟨hr, hl4, hk4, hb4, hs4, ht4⟩ := fin none W3 ht
          exact ⟨_, _, hr, .inl ⟨rfl, ⟨hI _ _ _ hb4 hs4 hi3, hl4, hk4⟩, ht4⟩⟩
        | ret =>
          obtain ⟨ht, hi3⟩ := hp
          obtain ⟨hr, hl4, hk4, hb4, hs4, ht4⟩ := fin (some (.ret)) W3 ht
          exact ⟨_, _, hr, .inr ⟨rfl, ⟨.ret, hIx _ _ _ _ hb4 hs4 hi3, hl4, hk4⟩, ht4⟩⟩
        | exit id =>
          obtain ⟨ht, hi3⟩ := hp
          obtain ⟨hr, hl4, hk4, hb4, hs4, ht4⟩ := fin (some (.exit id)) W3 ht
          exact ⟨_, _, hr, .inr ⟨rfl, ⟨.exit id, hIx _ _ _ _ hb4 hs4 hi3, hl4, hk4⟩, ht4⟩⟩
        | goto t =>
          obtain ⟨ht, hi3⟩ := hp
          obtain ⟨hr, hl4, hk4, hb4, hs4, ht4⟩ := fin (some (.goto t)) W3 ht
          exact ⟨_, _, hr, .inr ⟨rfl, ⟨.goto t, hIx _ _ _ _ hb4 hs4 hi3, hl4, hk4⟩, ht4⟩⟩
        | panic ch => exact hp.elim
        | outgrown => exact hp.elim
      | exit id => exact hp.elim
      | goto l => exact hp.elim
      | ret => exact hp.elim
      | panic ch => exact hp.elim
      | outgrown => exact hp.elim
    · rintro e W2 ⟨⟨v, rfl⟩, hsz, (⟨hi, hl, hk⟩ | ⟨j, hj, c, hi, hl, hk⟩)⟩
      · have hlt := lt_of_heap hl
        have hend := run_endLoop (P := P) hl (by rw [hrec]; simp)
        have hp : (rec .ready none).pending = none := by rw [hrec]
        rw [hp] at hend
        exact ⟨none, _, hend, hdone _ _ (hI _ _ _ ((putObj_turn (S := fun b => w.heap.size ≤ b) _ _ (by omega)).below (by omega) (fun k hk => hk)) (by omega) hi) (Nat.le_refl _) (by simp; omega) ((World.putObj_heap_other (by omega)).trans hk)⟩
      · have hlt := lt_of_heap hl
        have hend := run_endLoop (P := P) hl (by rw [hrec]; simp)
        have hp : (rec .done (some c)).pending = some c := by rw [hrec]
        rw [hp] at hend
        exact ⟨some c, _, hend, wpIn_wide.2 (hstop _ c j _ hj (hIx _ _ _ _ ((putObj_turn (S := fun b => w.heap.size ≤ b) _ _ (by omega)).below (by omega) (fun k hk => hk)) (by omega) hi) (Nat.le_refl _) (by simp; omega) ((World.putObj_heap_other (by omega)).trans hk))⟩
theorem calls_of_marks {f : FuncId} {fn : Func} {c : Code} {args : Array Value} {w : World} {R : Ending → World → Prop} (hf : P.funcs[f]? = some fn) (hb : fn.body = some c)
    (h : c.wp P (bodyPostM Fence.wide 0 P fn R) { tmps := args ++ Array.replicate (fn.ntmps - args.size) undef, defers := [] } w) : Calls P f args w R :=
  callsIn_wide.1 (callsIn_of_wp_marks hf hb trivial (wpIn_wide.2 h) rfl)
theorem marks_ret {fn : Func} {R : Ending → World → Prop} {a : Act} {w : World} {v : Value} (hd : a.defers = []) (hr : (results fn a.tmps).run P w = .ok v w) (hR : R (.returned v) w) : bodyPostM Fence.wide 0 P fn R .ret a w := by
  show LeavesInM Fence.wide 0 P fn a.tmps R a.defers .returning w
  rw [hd]
  exact ⟨v, hr, hR⟩
theorem marks_ret1 {fn : Func} {R : Ending → World → Prop} {a : Act} {w : World} {D : Nat} {v : Value} (hd : a.defers = [{ target := .collected D, args := #[] }]) (hk : w.heap[D]? = some (.deferred (some [])))
    (hr : (results fn a.tmps).run P (w.putObj D (.deferred none)) = .ok v (w.putObj D (.deferred none))) (hR : R (.returned v) (w.putObj D (.deferred none))) : bodyPostM Fence.wide 0 P fn R .ret a w := by
  show LeavesInM Fence.wide 0 P fn a.tmps R a.defers .returning w
  rw [hd]
  exact ⟨by simp, .inl ⟨_, _, rfl, run_takeDeferred hk, v, hr, hR⟩⟩

end Go.Proofs.YthpmncdfaggkiaaGreat
namespace Go.Proofs.YthpmncdfaggkiaaGreat
open Go.RowKit
attribute [local go_sem] more_drew more_drewN more_size more_cell more_frozen more_setCell drew_more drewN_more lt_add_r lt_add_r2 lt_add_r3 lt_add_r4 lt_add_r5 lt_add_r6 lt_add_r7 lt_add_r8 lt_add_r9 lt_add_r10 lt_self_r lt_self_r2
abbrev pt (b : Nat) : Value := .pointer (some ⟨b, 0, none⟩)
end Go.Proofs.YthpmncdfaggkiaaGreat
namespace Go.Proofs.YthpmncdfaggkiaaGreat
open Go.RowKit
def SlotN (n : Int) : Prop := 0 ≤ n ∧ n < 64
instance (n : Int) : Decidable (SlotN n) := inferInstanceAs (Decidable (_ ∧ _))
end Go.Proofs.YthpmncdfaggkiaaGreat
namespace Go.Proofs.YthpmncdfaggkiaaGreat
def LeafK (k : Int) : Prop := k ≠ 1 ∧ k ≠ 2
instance (k : Int) : Decidable (LeafK k) := inferInstanceAs (Decidable (_ ∧ _))
def TokK (k : Int) : Prop := k = 3 ∨ k = 5 ∨ k = 6
instance (k : Int) : Decidable (TokK k) := inferInstanceAs (Decidable (_ ∨ _))
def Bare (p : Nd) : Prop := 1 ≤ p.kind ∧ p.kind ≤ 6 ∧ 0 ≤ p.lo ∧ p.lo ≤ p.hi ∧ p.lo < p.look ∧ (TokK p.kind → p.lo ≤ p.inn ∧ p.inn ≤ p.hi) ∧ (¬ TokK p.kind → p.inn = p.lo) ∧ (p.kind = 4 → p.lo = p.hi) ∧ (LeafK p.kind → p.kids.length = 0)
instance (p : Nd) : Decidable (Bare p) := inferInstanceAs (Decidable (_ ∧ _))
inductive Trek (l : List Nd) : List Int → Nat → Bool → Nat → Prop
  | nil (n : Nat) : Trek l [] n true n
  | bad (k : Int) (ks : List Int) (n : Nat) : (k ≠ (n : Int) ∨ l.length ≤ n) → Trek l (k :: ks) n false n
  | sub (p : Nd) (ks : List Int) (n m : Nat) : l[n]? = some p → Trek l p.kids (n + 1) false m → Trek l ((n : Int) :: ks) n false m
  | cons (p : Nd) (ks : List Int) (n m : Nat) (ok : Bool) (e : Nat) : l[n]? = some p → Trek l p.kids (n + 1) true m → Trek l ks m ok e → Trek l ((n : Int) :: ks) n ok e
theorem lt_of_get {α : Type} {l : List α} {n : Nat} {p : α} (h : l[n]? = some p) : n < l.length := (List.getElem?_eq_some_iff.1 h).1
theorem Trek.le {l : List Nd} {ks : List Int} {n m : Nat} {ok : Bool} (h : Trek l ks n ok m) : n ≤ m ∧ (n ≤ l.length → m ≤ l.length) := by
  induction h with
  | nil n => exact ⟨Nat.le_refl _, id⟩
  | bad k ks n _ => exact ⟨Nat.le_refl _, id⟩
  | sub p ks n m hp _ ih => have := lt_of_get hp; exact ⟨by omega, fun _ => ih.2 (by omega)⟩
  | cons p ks n m ok e hp _ _ ih1 ih2 => have := lt_of_get hp; exact ⟨by omega, fun _ => ih2.2 (ih1.2 (by omega))⟩
theorem trek_all (l : List Nd) : ∀ (d : Nat) (ks : List Int) (n : Nat), l.length - n ≤ d → ∃ ok m, Trek l ks n ok m := by
  intro d
  induction d with
  | zero =>
    intro ks n hd
    cases ks with
    | nil => exact ⟨_, _, .nil n⟩
    | cons k ks => exact ⟨_, _, .bad k ks n (.inr (by omega))⟩
  | succ d ih =>
    intro ks n hd
    cases ks with
    | nil => exact ⟨_, _, .nil n⟩
    | cons k ks =>
      by_cases h : k ≠ (n : Int) ∨ l.length ≤ n
      · exact ⟨_, _, .bad k ks n h⟩
      · have hk : k = (n : Int) := Decidable.byContradiction fun hc => h (.inl hc)
        have hn : n < l.length := Nat.lt_of_not_le fun hc => h (.inr hc)
        subst hk
        obtain ⟨p, hp⟩ : ∃ p, l[n]? = some p := ⟨_, List.getElem?_eq_getElem hn⟩
        obtain ⟨ok, m, h1⟩ := ih p.kids (n + 1) (by omega)
        cases ok with
        | false => exact ⟨_, _, .sub p ks n m hp h1⟩
        | true =>
          obtain ⟨ok, e, h2⟩ := ih ks m (by have := h1.le.1; omega)
          exact ⟨_, _, .cons p ks n m ok e hp h1 h2⟩
theorem Trek.det {l : List Nd} {ks : List Int} {n m : Nat} {ok : Bool} (h : Trek l ks n ok m) : ∀ {ok' : Bool} {m' : Nat}, Trek l ks n ok' m' → ok' = ok ∧ m' = m := by
  induction h with
  | nil n => intro ok' m' h'; cases h'; exact ⟨rfl, rfl⟩
  | bad k ks n hb =>
    intro ok' m' h'
    cases h' with
    | bad _ _ _ _ => exact ⟨rfl, rfl⟩
    | sub p _ _ _ hp _ => have := lt_of_get hp; omega
    | cons p _ _ _ _ _ hp _ _ => have := lt_of_get hp; omega
  | sub p ks n m hp h1 ih =>
    intro ok' m' h'
    have hl := lt_of_get hp
    cases h' with
    | bad _ _ _ hb => omega
    | sub p' _ _ _ hp' h1' => rw [hp] at hp'; cases hp'; exact ih h1'
    | cons p' _ _ m1 _ _ hp' h1' _ => rw [hp] at hp'; cases hp'; have := (ih h1').1; cases this
  | cons p ks n m ok e hp h1 h2 ih1 ih2 =>
    intro ok' m' h'
    have hl := lt_of_get hp
    cases h' with
    | bad _ _ _ hb => omega
    | sub p' _ _ _ hp' h1' => rw [hp] at hp'; cases hp'; have := (ih1 h1').1; cases this
    | cons p' _ _ m1 _ _ hp' h1' h2' =>
      rw [hp] at hp'; cases hp'
      obtain ⟨_, rfl⟩ := ih1 h1'
      exact ih2 h2'
theorem Trek.head {l : List Nd} {k : Int} {ks : List Int} {n m : Nat} {ok : Bool} (h : Trek l (k :: ks) n ok m) (hk : k = (n : Int)) {p : Nd} (hp : l[n]? = some p) :
    (ok = false ∧ Trek l p.kids (n + 1) false m) ∨ ∃ m1, Trek l p.kids (n + 1) true m1 ∧ Trek l ks m1 ok m := by
  have hl := lt_of_get hp
  cases h with
  | bad _ _ _ hb => omega
  | sub p' _ _ _ hp' h1' => rw [hp] at hp'; cases hp'; exact .inl ⟨rfl, h1'⟩
  | cons p' _ _ m1 _ _ hp' h1' h2' => rw [hp] at hp'; cases hp'; exact .inr ⟨m1, h1', h2'⟩
theorem Trek.stop {l : List Nd} {k : Int} {ks : List Int} {n m : Nat} {ok : Bool} (h : Trek l (k :: ks) n ok m) (hb : k ≠ (n : Int) ∨ l.length ≤ n) : ok = false ∧ m = n :=
  (Trek.bad k ks n hb).det h
theorem Trek.one {l : List Nd} {n m : Nat} {p : Nd} {ok : Bool} (hp : l[n]? = some p) (h : Trek l p.kids (n + 1) ok m) : Trek l [(n : Int)] n ok m := by
  cases ok with
  | false => exact .sub p _ n m hp h
  | true => exact .cons p _ n m true m hp h (.nil m)
theorem Trek.ofOne {l : List Nd} {n m : Nat} {p : Nd} {ok : Bool} (hp : l[n]? = some p) (h : Trek l [(n : Int)] n ok m) : Trek l p.kids (n + 1) ok m := by
  rcases h.head rfl hp with ⟨rfl, h1⟩ | ⟨m1, h1, h2⟩
  · exact h1
  · cases h2; exact h1
theorem kc_add (l : List Nd) {a b c : Nat} (h1 : a ≤ b) (h2 : b ≤ c) : kc l a c = kc l a b + kc l b c := by
  unfold kc
  have : (l.take c).drop a = (l.take b).drop a ++ (l.take c).drop b := by
    have e : l.take b = (l.take c).take b := by rw [List.take_take, Nat.min_eq_left h2]
    rw [e]
    conv => lhs; rw [← List.take_append_drop b (l.take c)]
    rw [List.drop_append]
    by_cases hb : b ≤ (l.take c).length
    · have : a - ((l.take c).take b).length = 0 := by rw [List.length_take]; omega
      rw [this, List.drop_zero]
    · have : (l.take c).drop b = [] := List.drop_eq_nil_of_le (by omega)
      rw [this]
      simp
  rw [this, List.map_append, List.sum_append]
theorem kc_one {l : List Nd} {n : Nat} {p : Nd} (hp : l[n]? = some p) : kc l n (n + 1) = p.kids.length := by
  unfold kc
  have hl := lt_of_get hp
  rw [List.take_succ_eq_append_getElem hl, List.drop_append]
  have : (l.take n).drop n = [] := List.drop_eq_nil_of_le (by rw [List.length_take]; omega)
  rw [this]
  have h2 : n - (l.take n).length = 0 := by rw [List.length_take]; omega
  rw [h2]
  have h3 : l[n] = p := by rw [List.getElem?_eq_getElem hl] at hp; injection hp
  simp [h3]
theorem kc_self (l : List Nd) (n : Nat) : kc l n n = 0 := by
  unfold kc
  rw [List.drop_eq_nil_of_le (by rw [List.length_take]; omega)]
  rfl
theorem Trek.count {l : List Nd} {ks : List Int} {n m : Nat} {ok : Bool} (h : Trek l ks n ok m) : (ok = true → kc l n m + ks.length = m - n) ∧ (ok = false → m - n + 1 ≤ kc l n m + ks.length) := by
  induction h with
  | nil n => exact ⟨fun _ => by rw [kc_self]; simp, fun h => by cases h⟩
  | bad k ks n _ => exact ⟨fun h => (by cases h), fun _ => by rw [List.length_cons]; omega⟩
  | sub p ks n m hp h1 ih =>
    refine ⟨fun h => (by cases h), fun _ => ?_⟩
    have := ih.2 rfl
    have hle := h1.le.1
    rw [kc_add l (show n ≤ n + 1 by omega) hle, kc_one hp, List.length_cons]
    omega
  | cons p ks n m ok e hp h1 h2 ih1 ih2 =>
    have a1 := ih1.1 rfl
    have hle := h1.le.1
    have hle2 := h2.le.1
    have hk : kc l n e = p.kids.length + kc l (n + 1) m + kc l m e := by
      rw [kc_add l (show n ≤ n + 1 by omega) (show n + 1 ≤ e by omega), kc_one hp, kc_add l hle hle2]; omega
    rw [hk, List.length_cons]
    exact ⟨fun h => by have := ih2.1 h; omega, fun h => by have := ih2.2 h; omega⟩
theorem Trek.inside {l : List Nd} {ks : List Int} {n e : Nat} {ok : Bool} (h : Trek l ks n ok e) : ok = true → ∀ i, n ≤ i → i < e → ∃ p m, l[i]? = some p ∧ Trek l p.kids (i + 1) true m ∧ m ≤ e := by
  induction h with
  | nil n => intro _ i h1 h2; omega
  | bad k ks n _ => intro h; cases h
  | sub p ks n m hp h1 ih => intro h; cases h
  | cons p ks n m ok e hp h1 h2 ih1 ih2 =>
    intro hok i hi1 hi2
    have hle2 := h2.le.1
    rcases Nat.eq_or_lt_of_le hi1 with rfl | hlt
    · exact ⟨p, m, hp, h1, hle2⟩
    · rcases Nat.lt_or_ge i m with hm | hm
      · obtain ⟨q, m', a, b, c⟩ := ih1 rfl i hlt hm
        exact ⟨q, m', a, b, by omega⟩
      · exact ih2 hok i hm hi2
theorem Trek.kid {l : List Nd} {ks : List Int} {n e : Nat} {ok : Bool} (h : Trek l ks n ok e) : ok = true → ∀ k ∈ ks, ∃ i : Nat, k = (i : Int) ∧ n ≤ i ∧ i < e := by
  induction h with
  | nil n => intro _ k hk; cases hk
  | bad k ks n _ => intro h; cases h
  | sub p ks n m hp h1 ih => intro h; cases h
  | cons p ks n m ok e hp h1 h2 ih1 ih2 =>
    intro hok k hk
    have hle := h1.le.1
    have hle2 := h2.le.1
    rcases List.mem_cons.1 hk with rfl | hk
    · exact ⟨n, rfl, Nat.le_refl _, by omega⟩
    · obtain ⟨i, a, b, c⟩ := ih2 hok k hk
      exact ⟨i, a, by omega, c⟩
theorem Trek.whose {l : List Nd} {ks : List Int} {n e : Nat} {ok : Bool} (h : Trek l ks n ok e) : ok = true → ∀ i : Nat, n ≤ i → i < e → (i : Int) ∈ ks ∨ ∃ j p, n ≤ j ∧ j < i ∧ l[j]? = some p ∧ (i : Int) ∈ p.kids := by
  induction h with
  | nil n => intro _ i h1 h2; omega
  | bad k ks n _ => intro h; cases h
  | sub p ks n m hp h1 ih => intro h; cases h
  | cons p ks n m ok e hp h1 h2 ih1 ih2 =>
    intro hok i hi1 hi2
    have hle := h1.le.1
    rcases Nat.eq_or_lt_of_le hi1 with rfl | hlt
    · exact .inl (List.mem_cons_self ..)
    · rcases Nat.lt_or_ge i m with hm | hm
      · rcases ih1 rfl i hlt hm with hk | ⟨j, q, a, b, c, d⟩
        · exact .inr ⟨n, p, Nat.le_refl _, hlt, hp, hk⟩
        · exact .inr ⟨j, q, by omega, b, c, d⟩
      · rcases ih2 hok i hm hi2 with hk | ⟨j, q, a, b, c, d⟩
        · exact .inl (List.mem_cons_of_mem _ hk)
        · exact .inr ⟨j, q, by omega, b, c, d⟩
theorem Trek.split {l : List Nd} {ks' : List Int} {e : Nat} : ∀ (ks : List Int) {n : Nat}, Trek l (ks ++ ks') n true e → ∃ m, Trek l ks n true m ∧ Trek l ks' m true e
  | [], n, h => ⟨n, .nil n, h⟩
  | k :: ks, n, h => by
    cases h with
    | cons p _ _ m _ _ hp h1 h2 =>
      obtain ⟨m', a, b⟩ := Trek.split ks h2
      exact ⟨m', .cons p ks n m true m' hp h1 a, b⟩
theorem Trek.first {l : List Nd} {k : Int} {ks : List Int} {n e : Nat} (h : Trek l (k :: ks) n true e) : k = (n : Int) ∧ n < l.length := by
  cases h with
  | cons p _ _ m _ _ hp _ _ => exact ⟨rfl, lt_of_get hp⟩
def liesB (l : List Nd) (hi : Int) : Int → List Int → Bool
  | a, [] => decide (a ≤ hi)
  | a, k :: ks => match l[k.toNat]? with
    | some q => decide (a ≤ q.lo) && liesB l hi q.hi ks
    | none => false
structure Tree (l : List Nd) : Prop where
  bare : ∀ i p, l[i]? = some p → Bare p ∧ (0 < i → p.kind ≠ 1)
  trek : Trek l [0] 0 true l.length
  lies : ∀ p ∈ l, liesB l p.hi p.lo p.kids = true
theorem Tree.pos {l : List Nd} (h : Tree l) : 0 < l.length := h.trek.first.2
open Classical in
noncomputable def checkF (l : List Nd) : Int := if l.length > 524288 then 3 else if Tree l then 0 else 2
theorem Tree.at {l : List Nd} (h : Tree l) {i : Nat} (hi : i < l.length) : ∃ p m, l[i]? = some p ∧ Trek l p.kids (i + 1) true m ∧ m ≤ l.length :=
  h.trek.inside rfl i (Nat.zero_le _) hi
theorem Tree.up {l : List Nd} (h : Tree l) {i : Nat} (h0 : 0 < i) (hi : i < l.length) : ∃ j p, j < i ∧ l[j]? = some p ∧ (i : Int) ∈ p.kids := by
  rcases h.trek.whose rfl i (Nat.zero_le _) hi with hk | ⟨j, p, _, a, b, c⟩
  · simp at hk; omega
  · exact ⟨j, p, a, b, c⟩
theorem Trek.nest {l : List Nd} {ks : List Int} {n e : Nat} (h : Trek l ks n true e) {i : Nat} (hk : (i : Int) ∈ ks) : ∃ p m, l[i]? = some p ∧ Trek l p.kids (i + 1) true m ∧ m ≤ e ∧ n ≤ i := by
  obtain ⟨i', hi, h1, h2⟩ := h.kid rfl _ hk
  have : i = i' := by omega
  subst this
  obtain ⟨p, m, a, b, c⟩ := h.inside rfl i h1 h2
  exact ⟨p, m, a, b, c, h1⟩
theorem Trek.once {l : List Nd} {ks : List Int} {n e : Nat} {ok : Bool} (h : Trek l ks n ok e) : ok = true →
    (∀ (i j : Nat) p, n ≤ j → j < e → l[j]? = some p → (i : Int) ∈ p.kids → (i : Int) ∉ ks) ∧
    (∀ (i j j' : Nat) p q, n ≤ j → j < e → n ≤ j' → j' < e → l[j]? = some p → l[j']? = some q → (i : Int) ∈ p.kids → (i : Int) ∈ q.kids → j = j') := by
  induction h with
  | nil n => intro _; exact ⟨fun i j p h1 h2 => by omega, fun i j j' p q h1 h2 => by omega⟩
  | bad k ks n _ => intro h; cases h
  | sub p ks n m hp h1 ih => intro h; cases h
  | cons p ks n m ok e hp h1 h2 ih1 ih2 =>
    intro hok
    subst hok
    have hle := h1.le.1
    have hle2 := h2.le.1
    obtain ⟨a1, a2⟩ := ih1 rfl
    obtain ⟨b1, b2⟩ := ih2 rfl
    -- where the kids of a part of [n, e) lie
    have own : ∀ (i j : Nat) q, n ≤ j → j < e → l[j]? = some q → (i : Int) ∈ q.kids → (j = n ∧ n + 1 ≤ i ∧ i < m) ∨ (n + 1 ≤ j ∧ j < m ∧ n + 1 ≤ i ∧ i < m) ∨ (m ≤ j ∧ m ≤ i ∧ i < e) := by
      intro i j q hj1 hj2 hq hi
      rcases Nat.eq_or_lt_of_le hj1 with rfl | hlt
      · rw [hp] at hq; cases hq
        obtain ⟨i', e1, e2, e3⟩ := h1.kid rfl _ hi
        exact .inl ⟨rfl, by omega, by omega⟩
      · rcases Nat.lt_or_ge j m with hm | hm
        · obtain ⟨q', m', e1, e2, e3⟩ := h1.inside rfl j hlt hm
          rw [hq] at e1; cases e1
          obtain ⟨i', f1, f2, f3⟩ := e2.kid rfl _ hi
          exact .inr (.inl ⟨hlt, hm, by omega, by omega⟩)
        · obtain ⟨q', m', e1, e2, e3⟩ := h2.inside rfl j hm hj2
          rw [hq] at e1; cases e1
          obtain ⟨i', f1, f2, f3⟩ := e2.kid rfl _ hi
          exact .inr (.inr ⟨hm, by omega, by omega⟩)
    refine ⟨?_, ?_⟩
    · intro i j q hj1 hj2 hq hi hmem
      rcases List.mem_cons.1 hmem with he | hmem
      · rcases own i j q hj1 hj2 hq hi with h | h | h <;> omega
      · obtain ⟨i', f1, f2, f3⟩ := h2.kid rfl _ hmem
        rcases own i j q hj1 hj2 hq hi with h | h | h
        · omega
        · omega
        · exact b1 i j q h.1 hj2 hq hi hmem
    · intro i j j' q q' hj1 hj2 hj1' hj2' hq hq' hi hi'
      rcases own i j q hj1 hj2 hq hi with h | h | h <;> rcases own i j' q' hj1' hj2' hq' hi' with h' | h' | h'
      · omega
      · exfalso
        rw [h.1] at hq
        rw [hp] at hq
        cases hq
        exact a1 i j' q' h'.1 h'.2.1 hq' hi' hi
      · omega
      · exfalso
        rw [h'.1] at hq'
        rw [hp] at hq'
        cases hq'
        exact a1 i j q h.1 h.2.1 hq hi hi'
      · exact a2 i j j' q q' h.1 h.2.1 h'.1 h'.2.1 hq hq' hi hi'
      · omega
      · omega
      · omega
      · exact b2 i j j' q q' h.1 hj2 h'.1 hj2' hq hq' hi hi'
def Up (l : List Nd) (i j : Nat) : Prop := ∃ p, l[j]? = some p ∧ (i : Int) ∈ p.kids
theorem Tree.up_one {l : List Nd} (h : Tree l) {i j j' : Nat} (hu : Up l i j) (hu' : Up l i j') : j = j' := by
  obtain ⟨p, hp, hk⟩ := hu
  obtain ⟨q, hq, hk'⟩ := hu'
  exact (h.trek.once rfl).2 i j j' p q (Nat.zero_le _) (lt_of_get hp) (Nat.zero_le _) (lt_of_get hq) hp hq hk hk'

structure Part (l : List Nd) (i m : Nat) : Prop where
  lt : i < l.length
  trek : Trek l [(i : Int)] i true m
  le : m ≤ l.length
theorem Tree.part {l : List Nd} (h : Tree l) {i : Nat} (hi : i < l.length) : ∃ m, Part l i m := by
  obtain ⟨p, m, a, b, c⟩ := h.at hi
  exact ⟨m, hi, Trek.one a b, c⟩
theorem Part.lt_end {l : List Nd} {i m : Nat} (h : Part l i m) : i < m := by
  obtain ⟨p, m1, a, b, c, _⟩ := h.trek.nest (List.mem_singleton.2 rfl)
  have := b.le.1
  omega
theorem Tree.kid_behind {l : List Nd} (T : Tree l) {j : Nat} {p : Nd} (hp : l[j]? = some p) : ∀ k ∈ p.kids, ∃ c : Nat, k = (c : Int) ∧ j < c ∧ c < l.length := by
  intro k hk
  obtain ⟨q, m1, a, b, c⟩ := T.at (lt_of_get hp)
  rw [hp] at a
  cases a
  obtain ⟨c', e1, e2, e3⟩ := b.kid rfl k hk
  exact ⟨c', e1, by omega, by omega⟩

def ParOk (l : List Nd) (us : List Int) : Prop := us.length = l.length ∧ us[0]? = some (-1) ∧ ∀ i j : Nat, Up l i j → us[i]? = some (j : Int)
theorem Tree.up' {l : List Nd} (T : Tree l) {i : Nat} (h0 : 0 < i) (hi : i < l.length) : ∃ j, Up l i j ∧ j < i := by
  obtain ⟨j, p, a, b, c⟩ := T.up h0 hi
  exact ⟨j, ⟨p, b, c⟩, a⟩
theorem ParOk.one {l : List Nd} {a b : List Int} (T : Tree l) (ha : ParOk l a) (hb : ParOk l b) : a = b := by
  apply List.ext_getElem?
  intro i
  rcases Nat.lt_or_ge i l.length with h | h
  · rcases Nat.eq_zero_or_pos i with rfl | h0
    · rw [ha.2.1, hb.2.1]
    · obtain ⟨j, hu, _⟩ := T.up' h0 h
      rw [ha.2.2 i j hu, hb.2.2 i j hu]
  · rw [List.getElem?_eq_none (by have := ha.1; omega), List.getElem?_eq_none (by have := hb.1; omega)]
theorem Part.det {l : List Nd} {i m m' : Nat} (h : Part l i m) (h' : Part l i m') : m' = m := (h.trek.det h'.trek).2
theorem Part.last {l : List Nd} {i m : Nat} (h : Part l i m) {p : Nd} (hp : l[i]? = some p) {k : Int} (hk : p.kids.getLast? = some k) : ∃ c : Nat, k = (c : Int) ∧ i < c ∧ Part l c m := by
  have t := Trek.ofOne hp h.trek
  obtain ⟨ks, e⟩ : ∃ ks, p.kids = ks ++ [k] := ⟨p.kids.dropLast, by
    have hne : p.kids ≠ [] := by intro h0; rw [h0] at hk; cases hk
    rw [List.getLast?_eq_some_getLast hne] at hk
    injection hk with hk
    rw [← hk]
    exact (List.dropLast_concat_getLast hne).symm⟩
  rw [e] at t
  obtain ⟨m1, t1, t2⟩ := t.split ks
  obtain ⟨rfl, hl⟩ := t2.first
  have := t1.le.1
  exact ⟨m1, rfl, by omega, hl, t2, h.le⟩
theorem Part.leaf {l : List Nd} {i m : Nat} (h : Part l i m) {p : Nd} (hp : l[i]? = some p) (hk : p.kids = []) : m = i + 1 := by
  have t := Trek.ofOne hp h.trek
  rw [hk] at t
  cases t
  rfl
end Go.Proofs.YthpmncdfaggkiaaGreat
namespace Go.Proofs.YthpmncdfaggkiaaGreat
open Go.RowKit
def IterG {α : Type} (P : Program) (gf : FuncId) (lb : Array Value) (encs : α → Array Value) (xs : List α) (S : Nat → Prop) (R : Nat → World → Prop) (w1 : World) : Prop :=
  ∀ (l : Nat) (J : Nat → (Nat → Prop) → World → Prop) (Jx : Nat → World → Prop) (K0 : Nat → Prop), S l → l < w1.heap.size → (∀ b, K0 b → S b ∧ b < w1.heap.size) →
    (∀ j K W W', Ext W W' → J j K W → J j K W') → (∀ j W W', Ext W W' → Jx j W → Jx j W') → (∀ j K W, J j K W → R j W) →
    (∀ j x K W, xs[j]? = some x → w1.heap.size ≤ W.heap.size → J j K W → YieldAt Fence.wide 0 P l (encs x) W fun e W' =>
      Turn (fun b => K b ∨ b = l) W W' ∧ ((e = .returned (.bool true) ∧ ∃ K', (∀ b, K' b → K b ∨ W.heap.size ≤ b) ∧ J (j + 1) K' W') ∨ (e = .returned (.bool false) ∧ Jx (j + 1) W'))) →
    J 0 K0 w1 →
    Calls P gf (#[.func (.yield l) #[] #[]] ++ lb) w1 fun e W' => (∃ v, e = .returned v) ∧ w1.heap.size ≤ W'.heap.size ∧ ((∃ K, J xs.length K W') ∨ ∃ j, j ≤ xs.length ∧ Jx j W')
def bodyG (K : Nat → Prop) (N : Nat) (W : World) (I : (Nat → Prop) → World → Prop) (Ix : Code → World → Prop) : Exit → Act → World → Prop
  | .normal, _, W' => Turn (fun b => K b ∨ N ≤ b) W W' ∧ ∃ K', (∀ b, K' b → K b ∨ N ≤ b) ∧ I K' W'
  | .ret, _, W' => Turn (fun b => K b ∨ N ≤ b) W W' ∧ Ix .ret W'
  | .exit id, _, W' => Turn (fun b => K b ∨ N ≤ b) W W' ∧ Ix (.exit id) W'
  | .goto t, _, W' => Turn (fun b => K b ∨ N ≤ b) W W' ∧ Ix (.goto t) W'
  | .panic _, _, _ => False
  | .outgrown, _, _ => False
theorem ext_blk {w w' : World} {b : Nat} {o : Obj} (h : w.heap[b]? = some o) (e : Ext w w') : w'.heap[b]? = some o := (e.below.block _ (lt_of_heap h)).trans h
variable {P : Program}
theorem wp_rangeG {α : Type} {g : Operand} {ps : Array Tmp} {assign body : Code} {Q : Exit → Act → World → Prop} {a : Act} {w : World} {gf : Nat} {lb : Array Value}
    (hg : a.eval g = .func (.func gf) #[] lb) (eg : ∀ args w, (callFunc gf args).run P w = .ok (.enter gf args) w)
    {encs : α → Array Value} (hps : ∀ x, (encs x).size = ps.size) {xs : List α} {S : Nat → Prop} {R : Nat → World → Prop} (hSl : S (w.heap.size + 1))
    (hseq : ∀ w1, Ext w w1 → w1.heap.size = w.heap.size + 2 → IterG P gf lb encs xs S R w1)
    (I : Nat → (Nat → Prop) → World → Prop) (Ix : Code → Nat → World → Prop) (K0 : Nat → Prop) (hK0 : ∀ b, K0 b → S b ∧ b < w.heap.size)
    (hI : ∀ j K W W', Turn (fun b => b = w.heap.size ∨ b = w.heap.size + 1) W W' → w.heap.size + 2 ≤ W.heap.size → I j K W → I j K W')
    (hIx : ∀ c j W W', Turn (fun b => b = w.heap.size ∨ b = w.heap.size + 1) W W' → w.heap.size + 2 ≤ W.heap.size → Ix c j W → Ix c j W')
    (hKn : ∀ j K W, I j K W → ¬ K w.heap.size ∧ ¬ K (w.heap.size + 1)) (hR : ∀ j K W, I j K W → R j W) (h0 : ∀ W, Ext w W → I 0 K0 W)
    (hround : ∀ (l j : Nat) (x : α) (K : Nat → Prop) (W : World), xs[j]? = some x → I j K W → w.heap.size + 2 ≤ W.heap.size →
      assign.wpIn (Fence.wide.inRound l) 0 P (Exit.then (fun a₁ W₁ => Ext W W₁ ∧ ∀ W₂, Turn (fun b => b = w.heap.size ∨ b = w.heap.size + 1) W₁ W₂ → I j K W₂ → W.heap.size ≤ W₂.heap.size →
          body.wpIn (Fence.wide.inRound l) 0 P (bodyG K W.heap.size W₂ (I (j + 1)) (fun c => Ix c (j + 1))) a₁ W₂) (fun _ _ _ => False))
        { tmps := (ps.zip (encs x)).foldl (fun t (p, v) => t.setIfInBounds p v) a.tmps, defers := [] } W)
    (hdone : ∀ (K : Nat → Prop) (W : World), I xs.length K W → w.heap.size + 2 ≤ W.heap.size → W.heap[w.heap.size]? = some (.deferred (some [])) → Q .normal { a with defers := { target := .collected w.heap.size, args := #[] } :: a.defers } W)
    (hstop : ∀ (c : Code) (j : Nat) (W : World), j ≤ xs.length → Ix c j W → w.heap.size + 2 ≤ W.heap.size → W.heap[w.heap.size]? = some (.deferred (some [])) → c.wp P Q { a with defers := { target := .collected w.heap.size, args := #[] } :: a.defers } W) :
    (Code.rangeFunc g ps assign body).wp P Q a w := by
  refine (wpIn_wide (n := 1)).1 (wpIn_rangeFunc ?_)
  intro fn hfn
  obtain ⟨rec, hrec⟩ : ∃ rec : LoopState → Option Code → Loop, rec = fun st pe => { state := st, pending := pe, fn, tmps := a.tmps, params := ps, assign, body, defers := w.heap.size } := ⟨_, rfl⟩
  obtain ⟨W1, hW1⟩ : ∃ W1, (w.alloc (.deferred (some []))).alloc (.loop (rec .ready none)) = W1 := ⟨_, rfl⟩
  have hL1 : W1.heap[w.heap.size + 1]? = some (.loop (rec .ready none)) := by
    rw [← hW1]; have := World.alloc_heap_new (w.alloc (.deferred (some []))) (.loop (rec .ready none)); rwa [World.size_alloc] at this
  have hK1 : W1.heap[w.heap.size]? = some (.deferred (some [])) := by
    rw [← hW1]; exact (Below.heap_alloc _ _ _ (by simp)).trans (World.alloc_heap_new w _)
  have hE1 : Ext w W1 := by rw [← hW1]; exact ((Ext.refl w).alloc _).alloc _
  have hs1 : W1.heap.size = w.heap.size + 2 := by rw [← hW1]; simp
  obtain ⟨n0, hn0⟩ : ∃ n0, w.heap.size = n0 := ⟨_, rfl⟩
  rw [hn0] at hSl hseq hI hIx hKn hround hdone hstop hL1 hK1 hs1 hK0
  have hI1 : I 0 K0 W1 := h0 _ hE1
  refine ⟨n0 + 1, [{ target := .collected n0, args := #[] }], W1, { target := .fn (.func gf) lb, args := #[.func (.yield (n0 + 1)) #[] #[]] }, W1, gf,
    #[.func (.yield (n0 + 1)) #[] #[]] ++ lb, W1, ?_, ?_, ?_, ?_, (fun h => by cases h), ?_⟩
  · rw [← hW1, hrec, ← hn0]; exact run_enterLoop_outer _ _ _ _ _
  · simp only [resolve, hg]
    simp [go_sem]
  · intro f' hf'; trivial
  · simp [invoke, go_sem, eg]
  · refine callsIn_wide.2 ((hseq W1 hE1 hs1 (n0 + 1)
      (fun j K W => I j K W ∧ W.heap[n0 + 1]? = some (.loop (rec .ready none)) ∧ W.heap[n0]? = some (.deferred (some [])))
      (fun j W => ∃ c, Ix c j W ∧ W.heap[n0 + 1]? = some (.loop (rec .done (some c))) ∧ W.heap[n0]? = some (.deferred (some [])))
      K0 hSl (by omega) (fun b hb => ⟨(hK0 b hb).1, by have := (hK0 b hb).2; omega⟩) ?_ ?_ (fun j K W h => hR j K W h.1) ?_ ⟨hI1, hL1, hK1⟩).mono ?_)
    · rintro j K A B hb ⟨h1, h2, h3⟩
      exact ⟨hI _ _ _ _ (Turn.of_ext hb) (by have := lt_of_heap h2; omega) h1, ext_blk h2 hb, ext_blk h3 hb⟩
    · rintro j A B hb ⟨c, h1, h2, h3⟩
      exact ⟨c, hIx _ _ _ _ (Turn.of_ext hb) (by have := lt_of_heap h2; omega) h1, ext_blk h2 hb, ext_blk h3 hb⟩
    · rintro j x K W hx hsz ⟨hi, hl, hk⟩
      have hlt : n0 + 1 < W.heap.size := lt_of_heap hl
      have hy := run_yield (P := P) (args := encs x) hl (by rw [hrec]; exact hps x)
      rw [hrec] at hy
      have hKK := hKn _ _ _ hi
      refine ⟨fn, _, assign, body, hy, roundIn_of_wpIn hfn (wpIn_mono (hround _ j x K W hx hi (by omega)) ?_)⟩
      rintro e a₁ W₂ hp
      cases e with
      | normal =>
        obtain ⟨hE2, hbody⟩ := hp
        have hl2 : W₂.heap[n0 + 1]? = some (.loop (rec .ready none)) := ext_blk hl hE2
        have hk2 : W₂.heap[n0]? = some (.deferred (some [])) := ext_blk hk hE2
        have hlt2 := lt_of_heap hl2
        refine ⟨_, run_beginRound hl2 (by rw [hrec]), ?_⟩
        have hl3 : (W₂.putObj (n0 + 1) (.loop { rec .ready none with state := .busy })).heap[n0 + 1]? = some (.loop { rec .ready none with state := .busy }) := World.putObj_heap_same hlt2
        have hk3 : (W₂.putObj (n0 + 1) (.loop { rec .ready none with state := .busy })).heap[n0]? = some (.deferred (some [])) := (World.putObj_heap_other (by omega)).trans hk2
        have hT3 : Turn (fun b => b = n0 ∨ b = n0 + 1) W₂ (W₂.putObj (n0 + 1) (.loop { rec .ready none with state := .busy })) := putObj_turn _ _ (.inr rfl)
        have hI3 : I j K (W₂.putObj (n0 + 1) (.loop { rec .ready none with state := .busy })) := hI _ _ _ _ ((Turn.of_ext hE2).trans hT3) (by omega) hi
        have hsz3 : W.heap.size ≤ (W₂.putObj (n0 + 1) (.loop { rec .ready none with state := .busy })).heap.size := by
          have := hE2.size
          simp
          exact this
        refine wpIn_mono (hbody _ hT3 hI3 hsz3) ?_
        have fin : ∀ (jump : Option Code) (W3 : World), Turn (fun b => K b ∨ W.heap.size ≤ b) (W₂.putObj (n0 + 1) (.loop { rec .ready none with state := .busy })) W3 →
            (Instr.endRound (n0 + 1) jump).run P W3 = .ok (.bool jump.isNone) (W3.putObj (n0 + 1) (.loop (rec (if jump.isNone then .ready else .done) jump))) ∧
            (W3.putObj (n0 + 1) (.loop (rec (if jump.isNone then .ready else .done) jump))).heap[n0 + 1]? = some (.loop (rec (if jump.isNone then .ready else .done) jump)) ∧
            (W3.putObj (n0 + 1) (.loop (rec (if jump.isNone then .ready else .done) jump))).heap[n0]? = some (.deferred (some [])) ∧
            Turn (fun b => b = n0 ∨ b = n0 + 1) W3 (W3.putObj (n0 + 1) (.loop (rec (if jump.isNone then .ready else .done) jump))) ∧ n0 + 2 ≤ W3.heap.size ∧
            Turn (fun b => K b ∨ b = n0 + 1) W (W3.putObj (n0 + 1) (.loop (rec (if jump.isNone then .ready else .done) jump))) := fun jump W3 hk4 => by
          have hl4 := (hk4.block _ (lt_of_heap hl3) (fun h => h.elim hKK.2 (fun h => by omega))).trans hl3
          have hr := run_endRound (P := P) jump hl4
          have hlt4 := lt_of_heap hl4
          have hr2 : (Instr.endRound (n0 + 1) jump).run P W3 = .ok (.bool jump.isNone) (W3.putObj (n0 + 1) (.loop (rec (if jump.isNone then .ready else .done) jump))) := by
            rw [hrec] at hr ⊢
            exact hr
          refine ⟨hr2, World.putObj_heap_same hlt4, (World.putObj_heap_other (by omega)).trans ((hk4.block _ (lt_of_heap hk3) (fun h => h.elim hKK.1 (fun h => by omega))).trans hk3), putObj_turn _ _ (.inr rfl), by omega, ?_⟩
          have t1 : Turn (fun b => K b ∨ b = n0 + 1) W W₂ := Turn.of_ext hE2
          have t2 : Turn (fun b => K b ∨ b = n0 + 1) W (W₂.putObj (n0 + 1) (.loop { rec .ready none with state := .busy })) := t1.trans (putObj_turn _ _ (.inr rfl))
          exact (t2.andThen (S'' := fun b => K b ∨ b = n0 + 1) hk4 (fun k _ hS => hS) (fun k hk hS => hS.elim (fun hS => .inl hS) (fun hS => absurd hk (Nat.not_lt.2 hS)))).trans (putObj_turn _ _ (.inr rfl))
        rintro e a3 W3 hp
        cases e with
        | normal =>
          obtain ⟨ht, K', hK', hi3⟩ := hp
          obtain ⟨hr, hl4, hk4, hb4, hs4, ht4⟩ := fin none W3 ht
          exact ⟨_, _, hr, ht4, .inl ⟨rfl, K', hK', hI _ _ _ _ hb4 hs4 hi3, hl4, hk4⟩⟩
        | ret =>
          obtain ⟨ht, hi3⟩ := hp
          obtain ⟨hr, hl4, hk4, hb4, hs4, ht4⟩ := fin (some (.ret)) W3 ht
          exact ⟨_, _, hr, ht4, .inr ⟨rfl, .ret, hIx _ _ _ _ hb4 hs4 hi3, hl4, hk4⟩⟩
        | exit id =>
          obtain ⟨ht, hi3⟩ := hp
          obtain ⟨hr, hl4, hk4, hb4, hs4, ht4⟩ := fin (some (.exit id)) W3 ht
          exact ⟨_, _, hr, ht4, .inr ⟨rfl, .exit id, hIx _ _ _ _ hb4 hs4 hi3, hl4, hk4⟩⟩
        | goto t =>
          obtain ⟨ht, hi3⟩ := hp
          obtain ⟨hr, hl4, hk4, hb4, hs4, ht4⟩ := fin (some (.goto t)) W3 ht
          exact ⟨_, _, hr, ht4, .inr ⟨rfl, .goto t, hIx _ _ _ _ hb4 hs4 hi3, hl4, hk4⟩⟩
        | panic ch => exact hp.elim
        | outgrown => exact hp.elim
      | exit id => exact hp.elim
      | goto l => exact hp.elim
      | ret => exact hp.elim
      | panic ch => exact hp.elim
      | outgrown => exact hp.elim
    · rintro e W2 ⟨⟨v, rfl⟩, hsz, (⟨K, hi, hl, hk⟩ | ⟨j, hj, c, hi, hl, hk⟩)⟩
      · have hlt := lt_of_heap hl
        have hend := run_endLoop (P := P) hl (by rw [hrec]; simp)
        have hp : (rec .ready none).pending = none := by rw [hrec]
        rw [hp] at hend
        exact ⟨none, _, hend, hdone K _ (hI _ _ _ _ (putObj_turn _ _ (.inr rfl)) (by omega) hi) (by simp; omega) ((World.putObj_heap_other (by omega)).trans hk)⟩
      · have hlt := lt_of_heap hl
        have hend := run_endLoop (P := P) hl (by rw [hrec]; simp)
        have hp : (rec .done (some c)).pending = some c := by rw [hrec]
        rw [hp] at hend
        exact ⟨some c, _, hend, wpIn_wide.2 (hstop c j _ hj (hIx _ _ _ _ (putObj_turn _ _ (.inr rfl)) (by omega) hi) (by simp; omega) ((World.putObj_heap_other (by omega)).trans hk))⟩
def I64 (x : Int) : Prop := -9223372036854775808 ≤ x ∧ x ≤ 9223372036854775807
structure PrtOk (w : World) (p : Prt) : Prop where
  kids : Ints w p.kA p.nd.kids
  cap : p.nd.kids.length ≤ p.kc
  top : p.kc ≤ 9223372036854775807
  none : p.kA = none → p.kc = 0
  sym : I64 p.nd.sym
  kind : I64 p.nd.kind
  lo : I64 p.nd.lo
  inn : I64 p.nd.inn
  hi : I64 p.nd.hi
  look : I64 p.nd.look
  met : 0 ≤ p.nd.met ∧ p.nd.met ≤ 18446744073709551615
  ks : ∀ k ∈ p.nd.kids, I64 k
def Prts (w : World) (A : Option Addr) (ps : List Prt) : Prop :=
  0 < ps.length → ∃ b off, A = some ⟨b, off, none⟩ ∧ b < w.heap.size ∧ ∀ k p, ps[k]? = some p →
    w.cell? ⟨b, off + k * 8, none⟩ = some (.int .i64 p.nd.sym) ∧ w.cell? ⟨b, off + k * 8 + 1, none⟩ = some (.int .i64 p.nd.kind) ∧
    w.cell? ⟨b, off + k * 8 + 2, none⟩ = some (.int .i64 p.nd.lo) ∧ w.cell? ⟨b, off + k * 8 + 3, none⟩ = some (.int .i64 p.nd.inn) ∧
    w.cell? ⟨b, off + k * 8 + 4, none⟩ = some (.int .i64 p.nd.hi) ∧ w.cell? ⟨b, off + k * 8 + 5, none⟩ = some (.int .i64 p.nd.look) ∧
    w.cell? ⟨b, off + k * 8 + 6, none⟩ = some (.slice p.kA p.nd.kids.length p.kc) ∧ w.cell? ⟨b, off + k * 8 + 7, none⟩ = some (.int .u64 p.nd.met)
def PrtsOk (w : World) (ps : List Prt) : Prop := ∀ p ∈ ps, PrtOk w p
def nds (ps : List Prt) : List Nd := ps.map (·.nd)
theorem nds_get {ps : List Prt} {k : Nat} {p : Prt} (h : ps[k]? = some p) : (nds ps)[k]? = some p.nd := by unfold nds; rw [List.getElem?_map, h]; rfl
theorem nds_get' {ps : List Prt} {k : Nat} {q : Nd} (h : (nds ps)[k]? = some q) : ∃ p, ps[k]? = some p ∧ p.nd = q := by
  unfold nds at h
  rw [List.getElem?_map] at h
  cases hp : ps[k]? with
  | none => rw [hp] at h; cases h
  | some p => rw [hp] at h; exact ⟨p, rfl, by injection h⟩
theorem nds_length (ps : List Prt) : (nds ps).length = ps.length := by unfold nds; rw [List.length_map]
theorem Prts.below {w w' : World} {A : Option Addr} {ps : List Prt} (h : Prts w A ps) (e : Below w.heap.size w w') : Prts w' A ps := fun h0 => by
  obtain ⟨b, off, hA, hb, hc⟩ := h h0
  refine ⟨b, off, hA, by have := e.size; omega, fun j p hj => ?_⟩
  obtain ⟨a0, a1, a2, a3, a4, a5, a6, a7⟩ := hc j p hj
  exact ⟨(e.cell (p := ⟨b, off + j * 8, .none⟩) hb).trans a0, (e.cell (p := ⟨b, off + j * 8 + 1, .none⟩) hb).trans a1, (e.cell (p := ⟨b, off + j * 8 + 2, .none⟩) hb).trans a2, (e.cell (p := ⟨b, off + j * 8 + 3, .none⟩) hb).trans a3,
    (e.cell (p := ⟨b, off + j * 8 + 4, .none⟩) hb).trans a4, (e.cell (p := ⟨b, off + j * 8 + 5, .none⟩) hb).trans a5, (e.cell (p := ⟨b, off + j * 8 + 6, .none⟩) hb).trans a6, (e.cell (p := ⟨b, off + j * 8 + 7, .none⟩) hb).trans a7⟩
theorem Prts.ext {w w' : World} {A : Option Addr} {ps : List Prt} (h : Prts w A ps) (e : Ext w w') : Prts w' A ps := h.below e.below
theorem PrtOk.below {w w' : World} {p : Prt} (h : PrtOk w p) (e : Below w.heap.size w w') : PrtOk w' p := ⟨h.kids.below e, h.cap, h.top, h.none, h.sym, h.kind, h.lo, h.inn, h.hi, h.look, h.met, h.ks⟩
theorem PrtOk.ext {w w' : World} {p : Prt} (h : PrtOk w p) (e : Ext w w') : PrtOk w' p := h.below e.below
theorem PrtsOk.ext {w w' : World} {ps : List Prt} (h : PrtsOk w ps) (e : Ext w w') : PrtsOk w' ps := fun p hp => (h p hp).ext e
theorem PrtsOk.get {w : World} {ps : List Prt} (h : PrtsOk w ps) {k : Nat} {p : Prt} (hp : ps[k]? = some p) : PrtOk w p := h p (List.mem_of_getElem? hp)
end Go.Proofs.YthpmncdfaggkiaaGreat
namespace Go.Proofs.YthpmncdfaggkiaaGreat
end Go.Proofs.YthpmncdfaggkiaaGreat
namespace Go.Proofs.YthpmncdfaggkiaaGreat
open Go.RowKit
attribute [local go_sem] more_drew more_drewN more_size more_cell more_frozen more_setCell drew_more drewN_more lt_add_r lt_add_r2 lt_add_r3 lt_add_r4 lt_add_r5 lt_add_r6 lt_self_r lt_self_r2
theorem leaf_any (k : Int) (w : World) : Calls Tryz.prog 169 #[.int .i64 k] w fun e w' => e = .returned (.bool (decide (LeafK k))) ∧ w = w' := by
  have H : decide (LeafK k) = ((k != 1) && (k != 2)) := by
    rw [Bool.eq_iff_iff, decide_eq_true_iff]
    unfold LeafK
    simp
  replace H := zh H
  go_enter Tryz.func169, Tryz.ntmps169
  go_wp2
  all_goals go_ret
  all_goals exact ⟨ret_bool (by rw [H.out] <;> simp [*]), rfl⟩
theorem token_any (k : Int) (w : World) : Calls Tryz.prog 168 #[.int .i64 k] w fun e w' => e = .returned (.bool (decide (TokK k))) ∧ w = w' := by
  have H : decide (TokK k) = (((k == 3) || (k == 5)) || (k == 6)) := by
    rw [Bool.eq_iff_iff, decide_eq_true_iff]
    unfold TokK
    simp [or_assoc]
  replace H := zh H
  go_enter Tryz.func168, Tryz.ntmps168
  go_wp2
  all_goals go_ret
  all_goals exact ⟨ret_bool (by rw [H.out] <;> simp [*]), rfl⟩
abbrev aggV (p : Prt) : Value := .agg #[.int .i64 p.nd.sym, .int .i64 p.nd.kind, .int .i64 p.nd.lo, .int .i64 p.nd.inn, .int .i64 p.nd.hi, .int .i64 p.nd.look, .slice p.kA p.nd.kids.length p.kc, .int .u64 p.nd.met]
set_option maxHeartbeats 1000000 in
theorem bare_any (p : Prt) (w : World) : Calls Tryz.prog 121 #[aggV p] w fun e w' => e = .returned (.bool (decide (Bare p.nd))) ∧ Ext w w' := by
  obtain ⟨⟨sym, kind, lo, inn, hi, look, kids, met⟩, kA, kc⟩ := p
  go_enter Tryz.func121, Tryz.ntmps121
  go_wp2_with (first | (go_at_call 168; refine (token_any _ _).mono ?_; rintro e w' ⟨rfl, rfl⟩) | (go_at_call 169; refine (leaf_any _ _).mono ?_; rintro e w' ⟨rfl, rfl⟩) | go_in)
  all_goals go_ret
  all_goals refine ⟨ret_bool ?_, (Ext.refl _).alloc _⟩
  all_goals (rw [Bool.eq_iff_iff, decide_eq_true_iff])
  all_goals grind [Bare, TokK, LeafK]
end Go.Proofs.YthpmncdfaggkiaaGreat
namespace Go.Proofs.YthpmncdfaggkiaaGreat
open Go.RowKit
attribute [local go_sem] more_drew more_drewN more_size more_cell more_frozen more_setCell drew_more drewN_more lt_add_r lt_add_r2 lt_add_r3 lt_add_r4 lt_add_r5 lt_add_r6 lt_add_r7 lt_add_r8 lt_add_r9 lt_add_r10 lt_self_r lt_self_r2
def KidsIn (n : Nat) (ks : List Int) : Prop := ∀ k ∈ ks, ∃ j : Nat, k = (j : Int) ∧ j < n
set_option maxRecDepth 100000 in
set_option maxHeartbeats 1000000 in
theorem lies_any (A : Option Addr) (c : Nat) (ps : List Prt) (p : Prt) (w : World) (hP : Prts w A ps) (hl : ps.length ≤ 9223372036854775807) (hp : PrtOk w p) (hk : KidsIn ps.length p.nd.kids) :
    Calls Tryz.prog 124 #[.slice A ps.length c, aggV p] w fun e w' => e = .returned (.bool (liesB (nds ps) p.nd.hi p.nd.lo p.nd.kids)) ∧ Ext w w' := by
  have HK := zh hk
  have HP := zh hP
  have HKI := zh hp.kids
  have hc1 := hp.cap
  have hc2 := hp.top
  clear hk hP hp
  obtain ⟨⟨sym, kind, lo, inn, hi, look, kids, met⟩, kA, kc⟩ := p
  dsimp only at *
  go_enter Tryz.func124, Tryz.ntmps124
  go_wp2
  go_loop [5, 13] (fun a i => ∃ (j : Nat) (x : Int), j ≤ kids.length ∧ a = .int .i64 x ∧ i = .int .i64 j ∧ Hid (liesB (nds ps) hi lo kids = liesB (nds ps) hi x (kids.drop j))) (fun _ i => kids.length - (intOf i).toNat)
  case atStart => exact ⟨0, lo, Nat.zero_le _, rfl, rfl, zh rfl⟩
  case round =>
    obtain ⟨j, x, hj, rfl, rfl, he⟩ := hrel
    by_cases hlt : j < kids.length
    · obtain ⟨b, off, rfl, hb, hcell⟩ := HKI.out (by omega)
      have c1 := hcell j hlt
      obtain ⟨i, hi1, hi2⟩ := HK.out (kids.getD j 0) (by rw [List.getD_eq_getElem?_getD, List.getElem?_eq_getElem hlt]; exact List.getElem_mem hlt)
      rw [hi1] at c1
      obtain ⟨q, hq⟩ : ∃ q, ps[i]? = some q := ⟨_, List.getElem?_eq_getElem hi2⟩
      obtain ⟨b2, off2, rfl, hb2, hcell2⟩ := HP.out (by omega)
      obtain ⟨_, _, d2, _, d4, _⟩ := hcell2 i q hq
      have HS : Hid (liesB (nds ps) hi x (kids.drop j) = (decide (x ≤ q.nd.lo) && liesB (nds ps) hi q.nd.hi (kids.drop (j + 1)))) := by
        rw [List.drop_eq_getElem_cons hlt]
        have e : kids[j] = (i : Int) := by rw [← hi1, List.getD_eq_getElem?_getD, List.getElem?_eq_getElem hlt]; rfl
        rw [e]
        simp only [liesB, Int.toNat_natCast]
        rw [nds_get hq]
        exact zh rfl
      have hbs : b ≠ w.heap.size := by omega
      have hbs2 : b2 ≠ w.heap.size := by omega
      clear hcell hcell2 hi1 hq
      by_cases hx : x ≤ q.nd.lo
      · go_wp2
        go_round
        case rel => exact ⟨j + 1, q.nd.hi, by omega, rfl, by go_num, zh (by rw [he.out, HS.out, decide_eq_true hx, Bool.true_and])⟩
        case measure => simp [intOf]; omega
      · go_wp2
        go_ret
        exact ⟨ret_bool (by rw [he.out, HS.out, decide_eq_false (by omega), Bool.false_and]), (by repeat first | exact xr _ | refine xa ?_ _ | refine xm ?_ _ _ | refine xd ?_ | refine xn ?_ _ | refine xs ?_ (by simp <;> omega) _)⟩
    · obtain rfl : j = kids.length := by omega
      go_wp2
      go_ret
      exact ⟨ret_bool (by rw [he.out, List.drop_eq_nil_of_le (Nat.le_refl _)]; rfl), (by repeat first | exact xr _ | refine xa ?_ _ | refine xm ?_ _ _ | refine xd ?_ | refine xn ?_ _ | refine xs ?_ (by simp <;> omega) _)⟩
attribute [local go_sem] Oper.semAt_some
structure Dn where
  w0 : World
  A : Option Addr
  c : Nat
  ps : List Prt
  B : Nat
  bl : Nat
  bY : Nat
  bd : Nat
  nx : Nat
  lY : Nat
  S : Nat → Prop
  J : Nat → World → Prop
  Jx : Nat → World → Prop
def Dn.Fix (D : Dn) (W : World) : Prop :=
  Below D.w0.heap.size D.w0 W ∧ W.heap[D.bl]? = some (.cells #[.slice D.A D.ps.length D.c] 22) ∧ W.heap[D.bY]? = some (.cells #[.func (.yield D.lY) #[] #[]] 84) ∧
  W.heap[D.bd]? = some (.cells #[.func (.func 167) #[] #[pt D.nx, pt D.bl, pt D.bY, pt D.bd]] 84) ∧ D.B ≤ W.heap.size
structure Dn.Ok (D : Dn) : Prop where
  parts : Prts D.w0 D.A D.ps
  oks : PrtsOk D.w0 D.ps
  len : D.ps.length ≤ 1000000
  w0 : D.w0.heap.size ≤ D.B
  bl : D.w0.heap.size ≤ D.bl ∧ D.bl < D.B ∧ ¬ D.S D.bl
  bY : D.B ≤ D.bY
  bd : D.B ≤ D.bd
  nx : D.B ≤ D.nx ∧ D.nx ≠ D.bY ∧ D.nx ≠ D.bd
  free : ∀ b, b < D.w0.heap.size → ¬ D.S b
  hJ : ∀ j W W', Below D.B W W' → D.J j W → D.J j W'
  hJx : ∀ j W W', Below D.B W W' → D.Jx j W → D.Jx j W'
theorem Dn.Fix.turn {D : Dn} (O : D.Ok) {W W' : World} (h : D.Fix W) (t : Turn (fun b => (D.S b ∧ b < D.B) ∨ b = D.nx) W W') : D.Fix W' := by
  obtain ⟨h1, h2, h3, h4, h5⟩ := h
  have ob := O.bl
  have oy := O.bY
  have od := O.bd
  have on := O.nx
  have o0 := O.w0
  refine ⟨h1.trans (t.below h1.size fun k hk => ?_), (t.block _ (lt_of_heap h2) ?_).trans h2, (t.block _ (lt_of_heap h3) ?_).trans h3, (t.block _ (lt_of_heap h4) ?_).trans h4, Nat.le_trans h5 t.size⟩
  · rcases hk with hk | hk
    · exact Nat.le_of_not_lt fun hlt => O.free k hlt hk.1
    · omega
  · rintro (hk | hk)
    · exact ob.2.2 hk.1
    · omega
  · rintro (hk | hk) <;> omega
  · rintro (hk | hk) <;> omega
def Dn.Nx (D : Dn) (n : Nat) (W : World) : Prop := W.heap[D.nx]? = some (.cells #[.int .i64 (n : Int)] 3)
def Dn.Post (D : Dn) (ok : Bool) (m : Nat) (e : Ending) (W' : World) : Prop :=
  D.Fix W' ∧ ((e = .returned (.bool ok) ∧ D.Nx m W' ∧ D.J m W') ∨ (e = .returned (.bool false) ∧ ∃ j, j ≤ m ∧ D.Jx j W'))
def encI (x : Int) : Array Value := #[.int .i64 x]
theorem Trek.uncons {l : List Nd} {k : Int} {ks : List Int} {n m : Nat} {ok : Bool} (h : Trek l (k :: ks) n ok m) : (ok = false ∧ Trek l [k] n false m) ∨ ∃ m1, Trek l [k] n true m1 ∧ Trek l ks m1 ok m := by
  cases h with
  | bad _ _ _ hb => exact .inl ⟨rfl, .bad k [] n hb⟩
  | sub p _ _ _ hp h1 => exact .inl ⟨rfl, .sub p [] n m hp h1⟩
  | cons p _ _ m1 _ _ hp h1 h2 => exact .inr ⟨m1, .cons p [] n m1 true m1 hp h1 (.nil m1), h2⟩
set_option maxRecDepth 100000 in
set_option maxHeartbeats 3000000 in
theorem down_stop (D : Dn) (n : Nat) (at_ : Int) (ok : Bool) (m : Nat) (W : World) (_ : n ≤ 1000000) (_ : D.ps.length ≤ 1000000) (hs : at_ ≠ (n : Int) ∨ D.ps.length ≤ n) (ht : Trek (nds D.ps) [at_] n ok m) (hF : D.Fix W) (hN : D.Nx n W) (hJ : D.J n W) :
    Calls Tryz.prog 167 #[.int .i64 at_, pt D.nx, pt D.bl, pt D.bY, pt D.bd] W (D.Post ok m) := by
  obtain ⟨rfl, hmn⟩ := ht.stop (by rw [nds_length]; exact hs)
  obtain rfl : n = m := hmn.symm
  obtain ⟨f1, f2, f3, f4, f5⟩ := hF
  have c1 := cell_of_row _ _ 0 _ _ _ f2
  have c4 := cell_of_row _ _ 0 _ _ _ hN
  simp at c1 c4
  have l1 := lt_of_heap f2
  have l4 := lt_of_heap hN
  have HF : Hid (D.Fix W) := ⟨f1, f2, f3, f4, f5⟩
  have HN := zh hN
  have HJ := zh hJ
  clear hN hJ ht f1 f2 f3 f4
  by_cases ha : at_ = (n : Int)
  · subst ha
    have hle : D.ps.length ≤ n := by omega
    clear hs
    go_enter Tryz.func167, Tryz.ntmps167
    go_wp2_with fail
    go_ret
    exact ⟨HF.out, .inl ⟨rfl, HN.out, HJ.out⟩⟩
  · have ha1 : (at_ != (n : Int)) = true := by simpa using ha
    clear hs
    go_enter Tryz.func167, Tryz.ntmps167
    go_wp2_with fail
    go_ret
    exact ⟨HF.out, .inl ⟨rfl, HN.out, HJ.out⟩⟩
set_option maxRecDepth 100000 in
set_option maxHeartbeats 3000000 in
theorem down_any (D : Dn) (O : D.Ok) (M : Nat)
    (hY : ∀ (j : Nat) (W : World), j < M → D.B ≤ W.heap.size → D.J j W → YieldAt Fence.wide 0 Tryz.prog D.lY (encI (j : Int)) W fun e W' =>
      (e = .returned (.bool true) ∧ D.J (j + 1) W' ∧ Turn (fun b => D.S b ∧ b < D.B) W W') ∨ (e = .returned (.bool false) ∧ D.Jx (j + 1) W' ∧ Turn (fun b => D.S b ∧ b < D.B) W W')) :
    ∀ (fuel n : Nat) (at_ : Int) (ok : Bool) (m : Nat) (W : World), D.ps.length - n ≤ fuel → n ≤ 1000000 → m ≤ M → Trek (nds D.ps) [at_] n ok m → D.Fix W → D.Nx n W → D.J n W →
      Calls Tryz.prog 167 #[.int .i64 at_, pt D.nx, pt D.bl, pt D.bY, pt D.bd] W (D.Post ok m) := by
  intro fuel
  induction fuel with
  | zero =>
    intro n at_ ok m W hf hn hm ht hF hN hJ
    exact down_stop D n at_ ok m W hn O.len (.inr (by omega)) ht hF hN hJ
  | succ fuel ih =>
    intro n at_ ok m W hf hn hm ht hF hN hJ
    by_cases hs : at_ ≠ (n : Int) ∨ D.ps.length ≤ n
    · exact down_stop D n at_ ok m W hn O.len hs ht hF hN hJ
    obtain rfl : at_ = (n : Int) := Decidable.byContradiction fun hc => hs (.inl hc)
    have hlt : n < D.ps.length := Nat.lt_of_not_le fun hc => hs (.inr hc)
    obtain ⟨⟨qn, kA, kcap⟩, hq⟩ : ∃ q, D.ps[n]? = some q := ⟨_, List.getElem?_eq_getElem hlt⟩
    have hdec : decide (D.ps.length ≤ n) = false := decide_eq_false (by omega)
    have ht2 := Trek.ofOne (nds_get hq) ht
    have hnm := ht2.le.1
    have hF0 := hF
    obtain ⟨f1, f2, f3, f4, f5⟩ := hF
    have c1 := cell_of_row _ _ 0 _ _ _ f2
    have c2 := cell_of_row _ _ 0 _ _ _ f3
    have c4 := cell_of_row _ _ 0 _ _ _ hN
    simp at c1 c2 c4
    have l1 := lt_of_heap f2
    have l2 := lt_of_heap f3
    have l4 := lt_of_heap hN
    obtain ⟨fn, tmps, assign, body, hy, hRound⟩ := hY n W (by omega) f5 hJ
    unfold encI at hy
    have HF := zh hF0
    have HN := zh hN
    have HT := zh ht2
    have HO := zh O
    have IH := zh ih
    have HR := zh hRound
    have HQ := zh hq
    have hlen := O.len
    clear hN hJ ht ht2 O hY ih f1 f2 f3 f4 hs hRound hF0 hq
    go_enter Tryz.func167, Tryz.ntmps167
    go_upto_region 1 with fail
    refine (wpIn_wide (n := 1)).1 ?_
    gi_wp2
    refine HR.out.mono ?_
    rintro e w8 (⟨rfl, hJ8, t8⟩ | ⟨rfl, hJ8, t8⟩)
    · have t8' : Turn (fun b => (D.S b ∧ b < D.B) ∨ b = D.nx) W w8 := t8.mono fun k _ hk => .inl hk
      have h8 := HF.out.turn HO.out t8'
      have n8 : D.Nx n w8 := (t8.block _ l4 (fun hk => by have := HO.out.nx; omega)).trans HN.out
      have a4 := cell_of_row _ _ 0 _ _ _ n8
      have a1 := cell_of_row _ _ 0 _ _ _ h8.2.1
      simp at a1 a4
      have a5 : w8.frozen? ⟨D.nx, 0, none⟩ = false := by simp [World.frozen?, show w8.heap[D.nx]? = _ from n8]
      have a6 := lt_of_heap n8
      have a7 := lt_of_heap h8.2.1
      have hbn : D.bl ≠ D.nx := by have := HO.out.nx; have := HO.out.bl; omega
      obtain ⟨b, off, hA, hb, hcell⟩ := (HO.out.parts.below h8.1) (by omega)
      have hbw : b < D.w0.heap.size := by
        obtain ⟨b', off', hA', hb', _⟩ := HO.out.parts (by omega)
        rw [hA] at hA'
        injection hA' with hA'
        injection hA' with hA'
        omega
      have hbx : b ≠ D.nx := by have := HO.out.nx; have := HO.out.w0; omega
      obtain ⟨_, _, _, _, _, _, d6, _⟩ := hcell n _ HQ.out
      have hA1 := hA
      rw [hA] at a1
      obtain ⟨w9, hw9⟩ : ∃ w9, w8.setCell ⟨D.nx, 0, none⟩ (.int .i64 ((n : Int) + 1)) = w9 := ⟨_, rfl⟩
      have T9 : Turn (fun b => (D.S b ∧ b < D.B) ∨ b = D.nx) w8 w9 := hw9 ▸ Turn.setCell (S := fun b => (D.S b ∧ b < D.B) ∨ b = D.nx) w8 (p := ⟨D.nx, 0, none⟩) (.inr rfl) _
      have F9 := zh (h8.turn HO.out T9)
      have N9 : Hid (D.Nx (n + 1) w9) := by
        rw [← hw9]
        show (World.heap _)[D.nx]? = _
        simp [World.setCell, Array.getElem?_modify, show w8.heap[D.nx]? = _ from n8]
      have J9 : Hid (D.J (n + 1) w9) := HO.out.hJ _ _ _ (by
        rw [← hw9]
        exact (Turn.setCell (S := fun b => b = D.nx) w8 (p := ⟨D.nx, 0, none⟩) rfl _).below h8.2.2.2.2 (fun k hk => by have := HO.out.nx; omega)) hJ8
      clear t8 t8' hy HR hcell h8 n8 hJ8 T9
      have KO := zh (HO.out.oks.get HQ.out)
      have kc1 : qn.kids.length ≤ kcap := KO.out.cap
      have kc2 : kcap ≤ 9223372036854775807 := KO.out.top
      have HW9 := zh hw9
      clear hw9
      gi_wp2
      go_wp2_with fail
      rw [HW9.out]
      clear HW9 a4 a5 a6 a7 c1 c2 c4 l1 l2 l4 f5 hA hA1 d6
      go_loopg [32] qn.kids.length (fun g s32 wr => ∃ j n2 : Nat, j ≤ qn.kids.length ∧ Hid (g = qn.kids.length - j) ∧ s32 = .int .i64 j ∧ n < n2 ∧ n2 ≤ D.ps.length ∧ Hid (D.Fix wr ∧ D.Nx n2 wr ∧ D.J n2 wr ∧ Trek (nds D.ps) (qn.kids.drop j) n2 ok m))
      case atStart => exact ⟨0, n + 1, Nat.zero_le _, zh rfl, rfl, by omega, by omega, zh ⟨F9.out, N9.out, J9.out, HT.out⟩⟩
      case round =>
        obtain ⟨j, n2, hj, hg, rfl, hn2, hn3, hH⟩ := hrel
        by_cases hjl : j < qn.kids.length
        · obtain ⟨k1, k2, k3, k4⟩ := hH.out
          obtain ⟨b, off, hA, hb, hcell⟩ := ((KO.out.below k1.1)).kids (by show 0 < qn.kids.length; omega)
          change kA = _ at hA
          subst hA
          have d1 := hcell j hjl
          generalize hkd : qn.kids.getD j 0 = kid at *
          have hk4 : Trek (nds D.ps) (kid :: qn.kids.drop (j + 1)) n2 ok m := by
            rw [List.drop_eq_getElem_cons hjl] at k4
            have e : qn.kids[j] = kid := by rw [← hkd, List.getD_eq_getElem?_getD, List.getElem?_eq_getElem hjl]; rfl
            rw [e] at k4
            exact k4
          have g3 := cell_of_row _ _ 0 _ _ _ k1.2.2.2.1
          simp at g3
          have g4 := lt_of_heap k1.2.2.2.1
          obtain ⟨ok2, m2, hm2, hT2⟩ : ∃ ok2 m2, m2 ≤ M ∧ Trek (nds D.ps) [kid] n2 ok2 m2 ∧ m2 ≤ m ∧ ((ok2 = false ∧ ok = false ∧ m2 = m) ∨ (ok2 = true ∧ Trek (nds D.ps) (qn.kids.drop (j + 1)) m2 ok m)) := by
            rcases hk4.uncons with ⟨rfl, h⟩ | ⟨m1, h1, h2⟩
            · exact ⟨false, m, hm, h, Nat.le_refl _, .inl ⟨rfl, rfl, rfl⟩⟩
            · have := h2.le.1
              exact ⟨true, m1, by omega, h1, this, .inr ⟨rfl, h2⟩⟩
          have CALL := zh (IH.out n2 kid ok2 m2 wr (by omega) (by omega) hm2 hT2.1 k1 k2 k3)
          have HT2 := zh hT2
          have hn4 : n2 ≤ m2 := hT2.1.le.1
          have hn5 : m2 ≤ D.ps.length := by have := hT2.1.le.2 (by rw [nds_length]; omega); rwa [nds_length] at this
          clear hcell hkd k1 k2 k3 k4 hk4 hT2 hH
          go_wp2_with fail
          refine CALL.out.mono ?_
          rintro e w3 ⟨f3, (⟨rfl, n3, j3⟩ | ⟨rfl, jx, x1, x2⟩)⟩
          · obtain ⟨h1, h2, (⟨rfl, rfl, rfl⟩ | ⟨rfl, h3⟩)⟩ := HT2.out
            · go_wp2_with fail
              go_ret
              exact ⟨f3, .inl ⟨rfl, n3, j3⟩⟩
            · have HH : Hid (D.Fix w3 ∧ D.Nx m2 w3 ∧ D.J m2 w3 ∧ Trek (nds D.ps) (qn.kids.drop (j + 1)) m2 ok m) := ⟨f3, n3, j3, h3⟩
              clear f3 n3 j3 h3 h1 HT2 CALL g3
              go_wp2_with fail
              go_roundg (qn.kids.length - (j + 1))
              case measure => have := hg.out; omega
              case rel => exact ⟨j + 1, m2, by omega, zh rfl, by go_num, by omega, by omega, HH⟩
          · go_wp2_with fail
            go_ret
            exact ⟨f3, .inr ⟨rfl, jx, by have := HT2.out.2.1; omega, x2⟩⟩
        · obtain rfl : j = qn.kids.length := by omega
          obtain ⟨k1, k2, k3, k4⟩ := hH.out
          rw [List.drop_eq_nil_of_le (Nat.le_refl _)] at k4
          cases k4
          go_wp2_with fail
          go_ret
          exact ⟨k1, .inl ⟨rfl, k2, k3⟩⟩
    · have t8' : Turn (fun b => (D.S b ∧ b < D.B) ∨ b = D.nx) W w8 := t8.mono fun k _ hk => .inl hk
      have h8 := HF.out.turn HO.out t8'
      clear t8 t8' hy HR
      gi_wp2
      go_wp2_with fail
      go_ret
      exact ⟨h8, .inr ⟨rfl, n + 1, by omega, hJ8⟩⟩
end Go.Proofs.YthpmncdfaggkiaaGreat
namespace Go.Proofs.YthpmncdfaggkiaaGreat
open Go.RowKit
attribute [local go_sem] more_drew more_drewN more_size more_cell more_frozen more_setCell drew_more drewN_more lt_add_r lt_add_r2 lt_add_r3 lt_add_r4 lt_add_r5 lt_add_r6 lt_add_r7 lt_add_r8 lt_add_r9 lt_add_r10 lt_self_r lt_self_r2
attribute [local go_sem] Oper.semAt_some
def places (M : Nat) : List Int := (List.range M).map fun (n : Nat) => (n : Int)
theorem places_get {M j : Nat} {x : Int} (h : (places M)[j]? = some x) : x = (j : Int) ∧ j < M := by
  unfold places at h
  rw [List.getElem?_map] at h
  cases hj : (List.range M)[j]? with
  | none => rw [hj] at h; cases h
  | some k =>
    rw [hj] at h
    injection h with h
    obtain ⟨h1, h2⟩ := List.getElem?_eq_some_iff.1 hj
    rw [List.getElem_range] at h2
    rw [List.length_range] at h1
    subst h2
    exact ⟨h.symm, h1⟩
theorem places_at {M j : Nat} (h : j < M) : (places M)[j]? = some (j : Int) := by
  unfold places
  rw [List.getElem?_map, List.getElem?_range h]
  rfl
theorem places_length (M : Nat) : (places M).length = M := by
  unfold places
  rw [List.length_map, List.length_range]
theorem walk_make (A : Option Addr) (n c : Nat) (w : World) :
    Calls Tryz.prog 120 #[.slice A n c, .int .i64 0] w fun e w' => e = .returned (.func (.func 166) #[] #[pt (w.heap.size + 1), pt w.heap.size]) ∧
      w' = (w.alloc (.cells #[.slice A n c] 22)).alloc (.cells #[.int .i64 0] 3) := by
  go_enter Tryz.func120, Tryz.ntmps120
  go_wp2_with fail
  go_ret
  exact ⟨rfl, rfl⟩
set_option maxRecDepth 100000 in
set_option maxHeartbeats 3000000 in
theorem walk_iter (A : Option Addr) (c : Nat) (ps : List Prt) (w0 w1 : World) (lb ib : Nat) (S : Nat → Prop) (ok : Bool) (M : Nat) (hP : Prts w0 A ps) (hO : PrtsOk w0 ps) (hlen : ps.length ≤ 1000000)
    (h0 : Below w0.heap.size w0 w1) (hlb : w1.heap[lb]? = some (.cells #[.slice A ps.length c] 22)) (hl0 : w0.heap.size ≤ lb) (hlS : ¬ S lb) (hib : w1.heap[ib]? = some (.cells #[.int .i64 0] 3))
    (hfree : ∀ b, b < w0.heap.size → ¬ S b) (ht : Trek (nds ps) [0] 0 ok M) : IterB Tryz.prog 166 #[pt ib, pt lb] encI (places M) S w1 := by
  intro l J Jx hJ hJx hY hJ0
  obtain ⟨D, hD⟩ : ∃ D : Dn, D = { w0, A, c, ps, B := w1.heap.size, bl := lb, bY := w1.heap.size, bd := w1.heap.size + 1 + 1, nx := w1.heap.size + 1, lY := l, S, J, Jx } := ⟨_, rfl⟩
  have hlbl := lt_of_heap hlb
  have hibl := lt_of_heap hib
  have c1 := cell_of_row _ _ 0 _ _ _ hib
  simp at c1
  have O : Hid D.Ok := by
    subst hD
    exact ⟨hP, hO, hlen, h0.size, ⟨hl0, hlbl, hlS⟩, Nat.le_refl _, by show w1.heap.size ≤ w1.heap.size + 1 + 1; omega, by show w1.heap.size ≤ w1.heap.size + 1 ∧ w1.heap.size + 1 ≠ w1.heap.size ∧ w1.heap.size + 1 ≠ w1.heap.size + 1 + 1; omega, hfree, hJ, hJx⟩
  have HY : Hid (∀ (j : Nat) (W : World), j < M → D.B ≤ W.heap.size → D.J j W → YieldAt Fence.wide 0 Tryz.prog D.lY (encI (j : Int)) W fun e W' =>
      (e = .returned (.bool true) ∧ D.J (j + 1) W' ∧ Turn (fun b => D.S b ∧ b < D.B) W W') ∨ (e = .returned (.bool false) ∧ D.Jx (j + 1) W' ∧ Turn (fun b => D.S b ∧ b < D.B) W W')) := by
    subst hD
    exact fun j W hj hB hJj => hY j _ W (places_at hj) hB hJj
  have HD := zh hD
  have HJ0 := zh hJ0
  have H0 := zh h0
  have HT := zh ht
  have HLB := zh hlb
  have HJ := zh hJ
  clear hD hY hJ0 h0 hJ hJx ht hlb hfree hP hO
  simp only [List.append_toArray, List.cons_append, List.nil_append]
  go_enter Tryz.func166, Tryz.ntmps166
  go_wp2_with fail
  obtain rfl := HD.out
  obtain ⟨W4, hW4⟩ : ∃ W4, ((w1.alloc (.cells #[.func (.yield l) #[] #[]] 84)).alloc (.cells #[.int .i64 0] 3)).alloc (.cells #[.func (.func 167) #[] #[pt (w1.heap.size + 1), pt lb, pt w1.heap.size, pt (w1.heap.size + 1 + 1)]] 84) = W4 := ⟨_, rfl⟩
  have x4 : Ext w1 W4 := hW4 ▸ (by repeat first | exact xr _ | refine xa ?_ _ | refine xm ?_ _ _ | refine xd ?_ | refine xn ?_ _ | refine xs ?_ (by simp <;> omega) _)
  have s4 : W4.heap.size = w1.heap.size + 3 := by rw [← hW4]; simp
  have g1 : W4.heap[w1.heap.size]? = some (.cells #[.func (.yield l) #[] #[]] 84) := by
    rw [← hW4]
    exact ext_block (heap_alloc_new w1 _) (by repeat first | exact xr _ | refine xa ?_ _ | refine xm ?_ _ _ | refine xd ?_ | refine xn ?_ _ | refine xs ?_ (by simp <;> omega) _)
  have g2 : W4.heap[w1.heap.size + 1]? = some (.cells #[.int .i64 0] 3) := by
    rw [← hW4]
    have := heap_alloc_new (w1.alloc (.cells #[.func (.yield l) #[] #[]] 84)) (.cells #[.int .i64 0] 3)
    rw [World.size_alloc] at this
    exact ext_block this (by repeat first | exact xr _ | refine xa ?_ _ | refine xm ?_ _ _ | refine xd ?_ | refine xn ?_ _ | refine xs ?_ (by simp <;> omega) _)
  have g3 : W4.heap[w1.heap.size + 1 + 1]? = some (.cells #[.func (.func 167) #[] #[pt (w1.heap.size + 1), pt lb, pt w1.heap.size, pt (w1.heap.size + 1 + 1)]] 84) := by
    rw [← hW4]
    have := heap_alloc_new ((w1.alloc (.cells #[.func (.yield l) #[] #[]] 84)).alloc (.cells #[.int .i64 0] 3)) (.cells #[.func (.func 167) #[] #[pt (w1.heap.size + 1), pt lb, pt w1.heap.size, pt (w1.heap.size + 1 + 1)]] 84)
    rw [World.size_alloc, World.size_alloc] at this
    exact this
  rw [hW4]
  refine (down_any _ O.out M HY.out ps.length 0 0 ok M W4 (by show ps.length - 0 ≤ _; omega) (by omega) (Nat.le_refl _) HT.out ⟨H0.out.trans (x4.below.mono H0.out.size), ext_block HLB.out x4, g1, g3, by show w1.heap.size ≤ _; omega⟩ g2 (HJ.out 0 _ _ x4.below HJ0.out)).mono ?_
  rintro e w5 ⟨f5, hp⟩
  have hsz : w1.heap.size ≤ w5.heap.size := f5.2.2.2.2
  rcases hp with ⟨rfl, _, j5⟩ | ⟨rfl, j, hj, j5⟩
  · go_wp2_with fail
    go_end0
    exact ⟨⟨_, rfl⟩, hsz, .inl (by rw [places_length]; exact j5)⟩
  · go_wp2_with fail
    go_end0
    exact ⟨⟨_, rfl⟩, hsz, .inr ⟨j, by rw [places_length]; exact hj, j5⟩⟩
end Go.Proofs.YthpmncdfaggkiaaGreat
namespace Go.Proofs.YthpmncdfaggkiaaGreat
open Go.RowKit
attribute [local go_sem] more_drew more_drewN more_size more_cell more_frozen more_setCell drew_more drewN_more lt_add_r lt_add_r2 lt_add_r3 lt_add_r4 lt_add_r5 lt_add_r6 lt_add_r7 lt_add_r8 lt_add_r9 lt_add_r10 lt_self_r lt_self_r2
def firstF {α : Type} (f : α → Bool) : Nat → List α → Int
  | _, [] => -1
  | k, p :: l => if f p then (k : Int) else firstF f (k + 1) l
theorem firstF_any {α : Type} (f : α → Bool) : ∀ (l : List α) (k : Nat), decide (0 ≤ firstF f k l) = l.any f
  | [], k => rfl
  | p :: l, k => by
    unfold firstF
    rw [List.any_cons]
    split
    · rename_i h; rw [h]; simp
    · rename_i h; rw [firstF_any f l (k + 1)]; simp [h]
theorem firstF_bd {α : Type} (f : α → Bool) : ∀ (l : List α) (k : Nat), -1 ≤ firstF f k l ∧ firstF f k l < (k : Int) + l.length + 1
  | [], k => by unfold firstF; simp only [List.length_nil]; omega
  | p :: l, k => by
    unfold firstF
    have := firstF_bd f l (k + 1)
    rw [List.length_cons]
    split <;> omega
set_option maxRecDepth 100000 in
set_option maxHeartbeats 1000000 in
theorem idxParts (F : Nat) (lb : Array Value) (f : Prt → Bool) (A : Option Addr) (c : Nat) (ps : List Prt) (w : World) (hP : Prts w A ps) (hl : ps.length ≤ 9223372036854775807) (eg : Enters Tryz.prog F)
    (hf : ∀ (wr : World) (p : Prt), Ext w wr → p ∈ ps → Calls Tryz.prog F (#[aggV p] ++ lb) wr fun e w' => e = .returned (.bool (f p)) ∧ Ext wr w') :
    Calls Tryz.prog 170 #[.slice A ps.length c, .func (.func F) #[] lb] w fun e w' => e = .returned (.int .i64 (firstF f 0 ps)) ∧ Ext w w' := by
  have HP := zh hP
  have HF := zh hf
  unfold Enters at eg
  clear hP hf
  go_enter Tryz.func170, Tryz.ntmps170
  go_wp2
  go_loopw [8] (fun i wr => ∃ j : Nat, j ≤ ps.length ∧ i = .int .i64 j ∧ Hid (firstF f 0 ps = firstF f j (ps.drop j)) ∧ Ext w wr) (fun i _ => ps.length - (intOf i).toNat)
  case atStart => exact ⟨0, Nat.zero_le _, rfl, zh rfl, (by repeat first | exact xr _ | refine xa ?_ _ | refine xm ?_ _ _ | refine xd ?_ | refine xn ?_ _ | refine xs ?_ (by simp <;> omega) _)⟩
  case round =>
    obtain ⟨j, hj, rfl, he, hx⟩ := hrel
    by_cases hlt : j < ps.length
    · obtain ⟨p, hp⟩ : ∃ p, ps[j]? = some p := ⟨_, List.getElem?_eq_getElem hlt⟩
      obtain ⟨b, off, rfl, hb, hcell⟩ := (HP.out.ext hx) (by omega)
      obtain ⟨d0, d1, d2, d3, d4, d5, d6, d7⟩ := hcell j p hp
      have CF := zh (HF.out wr p hx (List.mem_of_getElem? hp))
      have HS : Hid (firstF f j (ps.drop j) = if f p then (j : Int) else firstF f (j + 1) (ps.drop (j + 1))) := by
        rw [List.drop_eq_getElem_cons hlt]
        rw [List.getElem?_eq_getElem hlt] at hp
        injection hp with hp
        rw [hp]
        exact zh rfl
      have HX := zh hx
      clear hcell hp hx
      go_wp2_with fail
      refine CF.out.mono ?_
      rintro e w2 ⟨rfl, hx2⟩
      have HX2 := zh (HX.out.trans hx2)
      clear hx2
      cases hfp : f p with
      | true =>
        rw [hfp] at HS
        have HS' := zh HS.out
        clear hfp HS
        go_wp2_with fail
        go_ret
        exact ⟨ret_int (by rw [he.out, HS'.out]; rfl), HX2.out⟩
      | false =>
        rw [hfp] at HS
        have HS' := zh HS.out
        clear hfp HS
        go_wp2_with fail
        go_roundw
        case rel => exact ⟨j + 1, by omega, by go_num, zh (by rw [he.out, HS'.out]; rfl), HX2.out⟩
        case measure => simp [intOf]; omega
    · obtain rfl : j = ps.length := by omega
      have HX := zh hx
      clear hx
      go_wp2_with fail
      go_ret
      exact ⟨ret_int (by rw [he.out, List.drop_eq_nil_of_le (Nat.le_refl _)]; rfl), HX.out⟩
theorem hasParts (F : Nat) (lb : Array Value) (f : Prt → Bool) (A : Option Addr) (c : Nat) (ps : List Prt) (w : World) (hP : Prts w A ps) (hl : ps.length ≤ 9223372036854775000) (eg : Enters Tryz.prog F)
    (hf : ∀ (wr : World) (p : Prt), Ext w wr → p ∈ ps → Calls Tryz.prog F (#[aggV p] ++ lb) wr fun e w' => e = .returned (.bool (f p)) ∧ Ext wr w') :
    Calls Tryz.prog 122 #[.slice A ps.length c, .func (.func F) #[] lb] w fun e w' => e = .returned (.bool (ps.any f)) ∧ Ext w w' := by
  have CF := zh (idxParts F lb f A c ps w hP (by omega) eg hf)
  have HB := firstF_bd f ps 0
  have HA := zh (firstF_any f ps 0)
  clear hP hf eg
  go_enter Tryz.func122, Tryz.ntmps122
  go_wp2_with fail
  refine CF.out.mono ?_
  rintro e w2 ⟨rfl, hx2⟩
  have HX2 := zh hx2
  clear hx2
  go_wp2_with fail
  go_ret
  exact ⟨ret_bool HA.out, HX2.out⟩
attribute [local go_sem] Oper.semAt_some
structure Few (ps : List Prt) : Prop where
  len : ps.length ≤ 1000
  kids : ∀ j, kc (nds ps) 0 j ≤ 1000000
theorem checkF_few {ps : List Prt} (h : ps.length ≤ 1000) : (Tree (nds ps) → checkF (nds ps) = 0) ∧ (¬ Tree (nds ps) → checkF (nds ps) = 2) := by
  have hl := nds_length ps
  unfold checkF
  rw [if_neg (by omega)]
  exact ⟨fun h => if_pos h, fun h => if_neg h⟩
theorem Tree.ends {l : List Nd} (T : Tree l) {ok : Bool} {M : Nat} (ht : Trek l [0] 0 ok M) : ok = true ∧ M = l.length := T.trek.det ht
theorem trek_ok {l : List Nd} {ok : Bool} (ht : Trek l [0] 0 ok l.length) : kc l 0 l.length + 1 = l.length ↔ ok = true := by
  have := ht.count
  simp only [List.length_singleton] at this
  cases ok with
  | true => have := this.1 rfl; simp; omega
  | false => have := this.2 rfl; simp; omega
theorem putObj_other (W : World) {D k : Nat} (o : Obj) (h : D ≠ k) : (W.putObj D o).heap[k]? = W.heap[k]? := World.putObj_heap_other (by omega)
def KidsOk (ps : List Prt) : Prop := ∀ p ∈ ps, KidsIn ps.length p.nd.kids
theorem trek_kids {ps : List Prt} (ht : Trek (nds ps) [0] 0 true ps.length) : KidsOk ps := by
  intro p hp k hk
  obtain ⟨j, hj, rfl⟩ := List.getElem_of_mem hp
  obtain ⟨q, m, h1, h2, h3⟩ := ht.inside rfl j (Nat.zero_le _) (by omega)
  rw [nds_get (List.getElem?_eq_getElem hj)] at h1
  injection h1 with h1
  subst h1
  obtain ⟨i, e, _, h5⟩ := h2.kid rfl k hk
  exact ⟨i, e, by omega⟩
set_option maxRecDepth 100000 in
set_option maxHeartbeats 1000000 in
theorem check1_any (lb : Nat) (A : Option Addr) (c : Nat) (ps : List Prt) (p : Prt) (w : World) (hlb : w.heap[lb]? = some (.cells #[.slice A ps.length c] 22)) (hP : Prts w A ps) (hl : ps.length ≤ 9223372036854775807) (hp : PrtOk w p) (hk : KidsIn ps.length p.nd.kids) :
    Calls Tryz.prog 123 #[aggV p, pt lb] w fun e w' => e = .returned (.bool (!liesB (nds ps) p.nd.hi p.nd.lo p.nd.kids)) ∧ Ext w w' := by
  have CL := zh (fun w1 h1 h2 => lies_any A c ps p w1 h1 hl h2 hk)
  have HP := zh hP
  have HPO := zh hp
  have c1 := cell_of_row _ _ 0 _ _ _ hlb
  simp at c1
  have l1 := lt_of_heap hlb
  clear hP hp hk hlb
  go_enter Tryz.func123, Tryz.ntmps123
  go_wp2_with fail
  refine (CL.out _ (HP.out.ext (by repeat first | exact xr _ | refine xa ?_ _ | refine xm ?_ _ _ | refine xd ?_ | refine xn ?_ _ | refine xs ?_ (by simp <;> omega) _)) (HPO.out.ext (by repeat first | exact xr _ | refine xa ?_ _ | refine xm ?_ _ _ | refine xd ?_ | refine xn ?_ _ | refine xs ?_ (by simp <;> omega) _))).mono ?_
  rintro e w2 ⟨rfl, hx2⟩
  have HX2 := zh hx2
  clear hx2
  go_wp2_with fail
  go_ret
  exact ⟨rfl, ((Ext.refl _).alloc _).trans HX2.out⟩
set_option maxRecDepth 100000 in
set_option maxHeartbeats 3000000 in
theorem check_any (A : Option Addr) (c : Nat) (ps : List Prt) (w : World) (hP : Prts w A ps) (hO : PrtsOk w ps) (hf : Few ps) :
    Calls Tryz.prog 72 #[.slice A ps.length c] w fun e w' => e = .returned (.int .i64 (checkF (nds ps))) ∧ Ext w w' := by
  obtain ⟨ok, M, ht⟩ := trek_all (nds ps) (nds ps).length [0] 0 (by omega)
  have hM : M ≤ ps.length := by have := ht.le.2 (Nat.zero_le _); rwa [nds_length] at this
  have hlen := hf.len
  have HFK := zh hf.kids
  have HP := zh hP
  have HO := zh hO
  have HT := zh ht
  have HC := zh (checkF_few hlen)
  clear hP hO ht hf
  have hd0 : decide ((524288 : Int) < (ps.length : Int)) = false := decide_eq_false (by omega)
  refine calls_of_marks Tryz.func72 rfl ?_
  simp only [Tryz.ntmps72, List.size_toArray, List.length_cons, List.length_nil, Nat.reduceAdd, Nat.reduceSub, Array.replicate_succ, Array.replicate_zero, List.push_toArray, List.append_toArray, List.nil_append, List.cons_append]
  go_wp2_with (go_at_call 120; refine (walk_make _ _ _ _).mono ?_; rintro e w2 ⟨rfl, rfl⟩)
  obtain ⟨b, hb⟩ : ∃ b, w.heap.size = b := ⟨_, rfl⟩
  obtain ⟨W5, hW5⟩ : ∃ W5, ((((w.alloc (Obj.cells #[Value.slice A ps.length c] 22)).alloc (Obj.cells #[Value.int IntKind.i64 0] 29)).alloc (Obj.cells #[Value.int IntKind.i64 0] 3)).alloc (Obj.cells #[Value.slice A ps.length c] 22)).alloc (Obj.cells #[Value.int IntKind.i64 0] 3) = W5 := ⟨_, rfl⟩
  have X5 : Ext w W5 := by rw [← hW5]; exact (by repeat first | exact xr _ | refine xa ?_ _ | refine xm ?_ _ _ | refine xd ?_ | refine xn ?_ _ | refine xs ?_ (by simp <;> omega) _)
  have S5 : W5.heap.size = b + 5 := by rw [← hW5, ← hb]; simp
  have G0 : W5.heap[b]? = some (.cells #[.slice A ps.length c] 22) := by rw [← hW5, ← hb]; exact (by simp only [heap_alloc_get, World.size_alloc]; (repeat (split; (first | rfl | (exfalso; omega)))); (try (first | (exfalso; omega) | simp_all)))
  have G1 : W5.heap[b + 1]? = some (.cells #[.int .i64 0] 29) := by rw [← hW5, ← hb]; exact (by simp only [heap_alloc_get, World.size_alloc]; (repeat (split; (first | rfl | (exfalso; omega)))); (try (first | (exfalso; omega) | simp_all)))
  have G2 : W5.heap[b + 1 + 1]? = some (.cells #[.int .i64 0] 3) := by rw [← hW5, ← hb]; exact (by simp only [heap_alloc_get, World.size_alloc]; (repeat (split; (first | rfl | (exfalso; omega)))); (try (first | (exfalso; omega) | simp_all)))
  have G3 : W5.heap[b + 1 + 1 + 1]? = some (.cells #[.slice A ps.length c] 22) := by rw [← hW5, ← hb]; exact (by simp only [heap_alloc_get, World.size_alloc]; (repeat (split; (first | rfl | (exfalso; omega)))); (try (first | (exfalso; omega) | simp_all)))
  have G4 : W5.heap[b + 1 + 1 + 1 + 1]? = some (.cells #[.int .i64 0] 3) := by rw [← hW5, ← hb]; exact (by simp only [heap_alloc_get, World.size_alloc]; (repeat (split; (first | rfl | (exfalso; omega)))); (try (first | (exfalso; omega) | simp_all)))
  rw [hW5, hb]
  clear hW5
  refine wp_range (gf := 166) (lb := #[pt (b + 1 + 1 + 1 + 1), pt (b + 1 + 1 + 1)]) (encs := encI) (xs := places M) (S := fun k => k = b + 1 ∨ k = b + 1 + 1 ∨ b + 5 ≤ k) rfl (enters_of Tryz.func166 (by kernel_rfl) rfl) (fun _ => rfl) (fun k hk => by omega)
    (fun w1 hx _ => walk_iter A c ps w w1 _ _ _ ok M HP.out HO.out (by omega) (X5.trans hx).below (ext_block G3 hx) (by omega) (by omega) (ext_block G4 hx) (by omega) HT.out)
    (fun j W' => W'.heap[b]? = some (.cells #[.slice A ps.length c] 22) ∧ W'.heap[b + 1]? = some (.cells #[.int .i64 0] 29) ∧ W'.heap[b + 1 + 1]? = some (.cells #[.int .i64 (j : Int)] 3) ∧ Below w.heap.size w W' ∧
      ∀ i p, i < j → ps[i]? = some p → Bare p.nd ∧ (0 < i → p.nd.kind ≠ 1))
    (fun cd j W' => cd = .ret ∧ ¬ Tree (nds ps) ∧ W'.heap[b + 1]? = some (.cells #[.int .i64 2] 29) ∧ Below w.heap.size w W') ?_ ?_ ⟨G0, G1, G2, X5.below, fun i p hi => by omega⟩ ?_ ?_ ?_
  · rintro j U U' hbe hsz ⟨i1, i2, i3, i4, i5⟩
    rw [S5] at hbe hsz
    exact ⟨(hbe.block _ (by omega)).trans i1, (hbe.block _ (by omega)).trans i2, (hbe.block _ (by omega)).trans i3, i4.trans (hbe.mono (by omega)), i5⟩
  · rintro cd j U U' hbe hsz ⟨i1, i2, i3, i4⟩
    rw [S5] at hbe hsz
    exact ⟨i1, i2, (hbe.block _ (by omega)).trans i3, i4.trans (hbe.mono (by omega))⟩
  · rintro l j x W' hx _ hsz
    obtain ⟨rfl, hjM⟩ := places_get hx
    simp only [encI]
    gi_wp2
    refine ⟨Ext.refl _, ?_⟩
    rintro W2 t2 ⟨i1, i2, i3, i4, i5⟩ hsz2
    clear hx t2 hsz
    obtain ⟨p, hp⟩ : ∃ p, ps[j]? = some p := ⟨_, List.getElem?_eq_getElem (by omega)⟩
    have c1 := cell_of_row _ _ 0 _ _ _ i1
    have c2 := cell_of_row _ _ 0 _ _ _ i2
    have c3 := cell_of_row _ _ 0 _ _ _ i3
    simp at c1 c2 c3
    have l1 := lt_of_heap i1
    have l2 := lt_of_heap i2
    have l3 := lt_of_heap i3
    have r2 : W2.frozen? ⟨b + 1, 0, none⟩ = false := by simp [World.frozen?, i2]
    have r3 : W2.frozen? ⟨b + 1 + 1, 0, none⟩ = false := by simp [World.frozen?, i3]
    obtain ⟨bA, off, rfl, hbA, hcell⟩ := (HP.out.below i4) (by omega)
    obtain ⟨d0, d1, d2, d3, d4, d5, d6, d7⟩ := hcell j p hp
    have I1 := zh i1
    have I2 := zh i2
    have I3 := zh i3
    have I4 := zh i4
    have I5 := zh i5
    have HPJ := zh hp
    clear i1 i2 i3 i4 i5 hp hcell
    have fin2 : ∀ (os : List Obj) (k : Nat), ¬ Tree (nds ps) → Turn (fun b1 => ((b1 = b + 1 ∨ b1 = b + 1 + 1 ∨ b + 5 ≤ b1) ∧ b1 < W5.heap.size) ∨ W'.heap.size ≤ b1) W2 (more (W2.setCell ⟨b + 1, 0, none⟩ (.int .i64 2)) os k) ∧
        ¬ Tree (nds ps) ∧ (more (W2.setCell ⟨b + 1, 0, none⟩ (.int .i64 2)) os k).heap[b + 1]? = some (.cells #[.int .i64 2] 29) ∧ Below w.heap.size w (more (W2.setCell ⟨b + 1, 0, none⟩ (.int .i64 2)) os k) := fun os k hT => by
      have T := Turn.setCell (S := fun k => k = b + 1) W2 (p := ⟨b + 1, 0, none⟩) rfl (.int .i64 2)
      have E : Ext (W2.setCell ⟨b + 1, 0, none⟩ (.int .i64 2)) (more (W2.setCell ⟨b + 1, 0, none⟩ (.int .i64 2)) os k) := ⟨os, k, rfl⟩
      have T2 := T.trans (Turn.of_ext E)
      refine ⟨T2.mono fun k _ hk => .inl ⟨.inl hk, by omega⟩, hT, ext_block ?_ E, I4.out.trans (T2.below I4.out.size fun k hk => by omega)⟩
      simp [World.setCell, Array.getElem?_modify, I2.out]
    have fin1 : ∀ (os : List Obj) (k : Nat), Bare p.nd ∧ (0 < j → p.nd.kind ≠ 1) → Turn (fun b1 => ((b1 = b + 1 ∨ b1 = b + 1 + 1 ∨ b + 5 ≤ b1) ∧ b1 < W5.heap.size) ∨ W'.heap.size ≤ b1) W2 (more (W2.setCell ⟨b + 1 + 1, 0, none⟩ (.int .i64 ((j : Int) + 1))) os k) ∧
        (more (W2.setCell ⟨b + 1 + 1, 0, none⟩ (.int .i64 ((j : Int) + 1))) os k).heap[b]? = some (.cells #[.slice (some ⟨bA, off, none⟩) ps.length c] 22) ∧ (more (W2.setCell ⟨b + 1 + 1, 0, none⟩ (.int .i64 ((j : Int) + 1))) os k).heap[b + 1]? = some (.cells #[.int .i64 0] 29) ∧
        (more (W2.setCell ⟨b + 1 + 1, 0, none⟩ (.int .i64 ((j : Int) + 1))) os k).heap[b + 1 + 1]? = some (.cells #[.int .i64 ((j + 1 : Nat) : Int)] 3) ∧ Below w.heap.size w (more (W2.setCell ⟨b + 1 + 1, 0, none⟩ (.int .i64 ((j : Int) + 1))) os k) ∧
        ∀ i p, i < j + 1 → ps[i]? = some p → Bare p.nd ∧ (0 < i → p.nd.kind ≠ 1) := fun os k hT => by
      have T := Turn.setCell (S := fun k => k = b + 1 + 1) W2 (p := ⟨b + 1 + 1, 0, none⟩) rfl (.int .i64 ((j : Int) + 1))
      have E : Ext (W2.setCell ⟨b + 1 + 1, 0, none⟩ (.int .i64 ((j : Int) + 1))) (more (W2.setCell ⟨b + 1 + 1, 0, none⟩ (.int .i64 ((j : Int) + 1))) os k) := ⟨os, k, rfl⟩
      have T2 := T.trans (Turn.of_ext E)
      refine ⟨T2.mono fun k _ hk => .inl ⟨.inr (.inl hk), by omega⟩, (T2.block _ l1 (by omega)).trans I1.out, (T2.block _ l2 (by omega)).trans I2.out, ext_block ?_ E, I4.out.trans (T2.below I4.out.size fun k hk => by omega), fun i q hi hq => ?_⟩
      · simp [World.setCell, Array.getElem?_modify, I3.out]
      · rcases (show i < j ∨ i = j by omega) with h | rfl
        · exact I5.out i q h hq
        · rw [HPJ.out] at hq
          injection hq with hq
          subst hq
          exact hT
    have notT : ¬ (Bare p.nd ∧ (0 < j → p.nd.kind ≠ 1)) → ¬ Tree (nds ps) := fun hn T => hn (T.bare j _ (nds_get HPJ.out))
    have F1 := zh fin1
    have F2 := zh fin2
    have NT := zh notT
    clear fin1 fin2 notT
    by_cases hB : Bare p.nd
    · have hBd : decide (Bare p.nd) = true := decide_eq_true hB
      have HB := zh hB
      clear hB
      by_cases hj : 0 < j
      · have hj1 : decide (0 < j) = true := decide_eq_true hj
        have HJ := zh hj
        clear hj
        by_cases hk : p.nd.kind = 1
        · have hk1 : (p.nd.kind == 1) = true := by simpa using hk
          have HK := zh hk
          clear hk
          gi_wp2_with (first | (refine ⟨trivial, rfl, ?_⟩; refine (CallsIn.inRound l (callsIn_wide.2 (bare_any p _))).mono ?_; rintro e w3 ⟨rfl, os3, k3, rfl⟩))
          have h := F2.out os3 k3 (NT.out fun hh => hh.2 HJ.out HK.out)
          exact ⟨h.1, rfl, h.2⟩
        · have hk1 : (p.nd.kind == 1) = false := by simpa using hk
          have HK := zh hk
          clear hk
          gi_wp2_with (first | (refine ⟨trivial, rfl, ?_⟩; refine (CallsIn.inRound l (callsIn_wide.2 (bare_any p _))).mono ?_; rintro e w3 ⟨rfl, os3, k3, rfl⟩))
          exact F1.out _ _ ⟨HB.out, fun _ => HK.out⟩
      · have hj1 : decide (0 < j) = false := decide_eq_false hj
        have HJ := zh hj
        clear hj
        gi_wp2_with (first | (refine ⟨trivial, rfl, ?_⟩; refine (CallsIn.inRound l (callsIn_wide.2 (bare_any p _))).mono ?_; rintro e w3 ⟨rfl, os3, k3, rfl⟩))
        exact F1.out _ _ ⟨HB.out, fun h => absurd h HJ.out⟩
    · have hBd : decide (Bare p.nd) = false := decide_eq_false hB
      have HB := zh hB
      clear hB
      gi_wp2_with (first | (refine ⟨trivial, rfl, ?_⟩; refine (CallsIn.inRound l (callsIn_wide.2 (bare_any p _))).mono ?_; rintro e w3 ⟨rfl, os3, k3, rfl⟩))
      have h := F2.out os3 k3 (NT.out fun hh => HB.out hh.1)
      exact ⟨h.1, rfl, h.2⟩
  · rintro D W' ⟨i1, i2, i3, i4, i5⟩ hD hsz hk
    rw [places_length] at i3 i5
    have c1 := cell_of_row _ _ 0 _ _ _ i1
    have c2 := cell_of_row _ _ 0 _ _ _ i2
    have c3 := cell_of_row _ _ 0 _ _ _ i3
    simp at c1 c2 c3
    have l1 := lt_of_heap i1
    have l2 := lt_of_heap i2
    have l3 := lt_of_heap i3
    have lD := lt_of_heap hk
    have r2 : W'.frozen? ⟨b + 1, 0, none⟩ = false := by simp [World.frozen?, i2]
    have fin : ∀ (X : World) (v : Int), Ext W' X → Ext w ((X.setCell ⟨b + 1, 0, none⟩ (.int .i64 v)).putObj D (.deferred none)) ∧ ((X.setCell ⟨b + 1, 0, none⟩ (.int .i64 v)).putObj D (.deferred none)).cell? ⟨b + 1, 0, none⟩ = some (.int .i64 v) ∧
        (X.setCell ⟨b + 1, 0, none⟩ (.int .i64 v)).heap[D]? = some (.deferred (some [])) := fun X v hX => by
      have T := Turn.setCell (S := fun k => k = b + 1) X (p := ⟨b + 1, 0, none⟩) rfl (.int .i64 v)
      have hX2 := ext_block i2 hX
      have hXD := ext_block hk hX
      have h1 : (X.setCell ⟨b + 1, 0, none⟩ (.int .i64 v)).heap[b + 1]? = some (.cells #[.int .i64 v] 29) := by simp [World.setCell, Array.getElem?_modify, hX2]
      have i4X := i4.trans (hX.below.mono i4.size)
      have i4X2 := i4X.trans (T.below i4X.size fun k hk => by omega)
      refine ⟨Ext.of_below (i4X2.trans ((putObj_turn (S := fun b => b = D) _ _ rfl).below i4X2.size fun k hk => by omega)), ?_, (T.block _ (lt_of_heap hXD) (by omega)).trans hXD⟩
      have := cell_of_row _ _ 0 _ _ _ ((putObj_other (X.setCell ⟨b + 1, 0, none⟩ (.int .i64 v)) (.deferred none) (show D ≠ b + 1 by omega)).trans h1)
      simpa using this
    have FX := zh (fun (X : World) (hX : Ext W' X) => (⟨(hX.below.cell (p := ⟨b, 0, none⟩) l1).trans c1, (hX.below.cell (p := ⟨b + 1, 0, none⟩) l2).trans c2, (hX.below.frozen (p := ⟨b + 1, 0, none⟩) l2).trans r2, Nat.lt_of_lt_of_le l1 hX.size, Nat.lt_of_lt_of_le l2 hX.size⟩ :
      X.cell? ⟨b, 0, none⟩ = some (.slice A ps.length c) ∧ X.cell? ⟨b + 1, 0, none⟩ = some (.int .i64 0) ∧ X.frozen? ⟨b + 1, 0, none⟩ = false ∧ b < X.heap.size ∧ b + 1 < X.heap.size))
    have I1 := zh i1
    have I4 := zh i4
    have I5 := zh i5
    have FIN := zh fin
    have HK := zh hk
    clear i1 i2 i3 i4 i5 fin hk
    by_cases hML : M = ps.length
    · have hm1 : ((M : Int) != (ps.length : Int)) = false := by simp [hML]
      by_cases h0 : M = 0
      · have hm2 : ((M : Int) == 0) = true := by simp [h0]
        have HML := zh hML
        have H0 := zh h0
        clear hML h0
        go_wp2_with fail
        obtain ⟨f1, f2, f3⟩ := FIN.out W' 2 (Ext.refl _)
        refine marks_ret1 (D := D) (v := .int .i64 2) rfl f3 (by simp [results, Tryz.results72, go_sem, f2]) ⟨by rw [HC.out.2 (fun T => by have := T.pos; rw [nds_length] at this; have := HML.out; have := H0.out; omega)], f1⟩
      · have hm2 : ((M : Int) == 0) = false := by simp [h0]
        have HT2 : Hid (Trek (nds ps) [0] 0 ok (nds ps).length) := by rw [nds_length, ← hML]; exact HT.out
        clear hML h0
        go_wp2_with fail
        go_loopw [5, 44] (fun s i wr => ∃ j n : Nat, j ≤ ps.length ∧ i = .int .i64 j ∧ s = .int .i64 n ∧ Hid (n = kc (nds ps) 0 j) ∧ n ≤ 1000000 ∧ Ext W' wr) (fun _ i _ => ps.length - (intOf i).toNat)
        case atStart => exact ⟨0, 0, Nat.zero_le _, rfl, rfl, zh (kc_self _ _).symm, by omega, Ext.refl _⟩
        case round =>
          obtain ⟨j, n, hj, rfl, rfl, hn, hn2, hx⟩ := hrel
          by_cases hlt : j < ps.length
          · obtain ⟨p, hp⟩ : ∃ p, ps[j]? = some p := ⟨_, List.getElem?_eq_getElem hlt⟩
            obtain ⟨bA, off, rfl, hbA, hcell⟩ := (HP.out.below (I4.out.trans (hx.below.mono I4.out.size))) (by omega)
            obtain ⟨d0, d1, d2, d3, d4, d5, d6, d7⟩ := hcell j p hp
            have HN : Hid (n + p.nd.kids.length = kc (nds ps) 0 (j + 1)) := by rw [kc_add _ (Nat.zero_le j) (show j ≤ j + 1 by omega), kc_one (nds_get hp), ← hn.out]; exact zh rfl
            have hb1 : n + p.nd.kids.length ≤ 1000000 := by rw [HN.out]; exact HFK.out _
            have HX := zh hx
            clear hx hcell hp
            go_wp2_with fail
            go_roundw
            case rel => exact ⟨j + 1, n + p.nd.kids.length, by omega, by go_num, by go_num, HN, hb1, HX.out.alloc _⟩
            case measure => simp [intOf]; omega
          · obtain rfl : j = ps.length := by omega
            obtain ⟨g1, g2, g3, g4, g5⟩ := FX.out wr hx
            have HX := zh hx
            clear hx
            by_cases hke : n + 1 = ps.length
            · have hok : ok = true := (trek_ok HT2.out).1 (by rw [nds_length, ← hn.out]; exact hke)
              have ht3 : Trek (nds ps) [0] 0 true ps.length := by have := HT2.out; rw [hok, nds_length] at this; exact this
              have hke2 : ((n : Int) != (ps.length : Int) - 1) = false := by simp; omega
              have KO := zh (trek_kids ht3)
              have HT3 := zh ht3
              have HML2 : Hid (M = ps.length) := zh (by have := (HT2.out.det HT.out).2; rwa [nds_length] at this)
              have CA := zh (hasParts 123 #[pt b] (fun p => !liesB (nds ps) p.nd.hi p.nd.lo p.nd.kids) A c ps wr (HP.out.below (I4.out.trans (HX.out.below.mono I4.out.size))) (by omega)
                (enters_of Tryz.func123 (by kernel_rfl) rfl) (fun w1 p h1 h2 => check1_any b A c ps p w1 (ext_block (ext_block I1.out HX.out) h1) (HP.out.below (I4.out.trans ((HX.out.trans h1).below.mono I4.out.size))) (by omega)
                  ((HO.out p h2).below (I4.out.trans ((HX.out.trans h1).below.mono I4.out.size))) (KO.out p h2)))
              clear hke hok ht3
              go_wp2_with fail
              refine CA.out.mono ?_
              rintro e w2 ⟨rfl, hx2⟩
              obtain ⟨k1, k2, k3, k4, k5⟩ := FX.out w2 (HX.out.trans hx2)
              have HX2 := zh (HX.out.trans hx2)
              clear hx2
              cases hany : ps.any (fun p => !liesB (nds ps) p.nd.hi p.nd.lo p.nd.kids) with
              | true =>
                have hnT : ¬ Tree (nds ps) := fun T => by
                  obtain ⟨p, hp, hq⟩ := List.any_eq_true.1 hany
                  rw [T.lies p.nd (List.mem_map.2 ⟨p, hp, rfl⟩)] at hq
                  cases hq
                have HNT := zh hnT
                clear hany hnT
                go_wp2_with fail
                obtain ⟨f1, f2, f3⟩ := FIN.out w2 2 HX2.out
                refine marks_ret1 (D := D) (v := .int .i64 2) rfl f3 (by simp [results, Tryz.results72, go_sem, f2]) ⟨by rw [HC.out.2 HNT.out], f1⟩
              | false =>
                have hT : Tree (nds ps) := by
                  refine ⟨fun i q hq => ?_, by rw [nds_length]; exact HT3.out, fun q hq => ?_⟩
                  · obtain ⟨p, hp, rfl⟩ := nds_get' hq
                    exact I5.out i p (by have := lt_of_get hp; have := HML2.out; omega) hp
                  · obtain ⟨p, hp, rfl⟩ := List.mem_map.1 hq
                    have := List.any_eq_false.1 hany p hp
                    simpa using this
                have HNT := zh hT
                clear hany hT
                go_wp2_with fail
                obtain ⟨f1, f2, f3⟩ := FIN.out w2 0 HX2.out
                refine marks_ret1 (D := D) (v := .int .i64 0) rfl f3 (by simp [results, Tryz.results72, go_sem, f2]) ⟨by rw [HC.out.1 HNT.out], f1⟩
            · have hnT : ¬ Tree (nds ps) := fun T => hke (by
                have h1 := (T.ends HT.out).1
                have := (trek_ok HT2.out).2 h1
                rw [nds_length, ← hn.out] at this
                exact this)
              have HNT := zh hnT
              have hke2 : ((n : Int) != (ps.length : Int) - 1) = true := by simp; omega
              clear hke hnT
              go_wp2_with fail
              obtain ⟨f1, f2, f3⟩ := FIN.out wr 2 HX.out
              refine marks_ret1 (D := D) (v := .int .i64 2) rfl f3 (by simp [results, Tryz.results72, go_sem, f2]) ⟨by rw [HC.out.2 HNT.out], f1⟩
    · have hm1 : ((M : Int) != (ps.length : Int)) = true := by simp; omega
      have HML := zh hML
      clear hML
      go_wp2_with fail
      obtain ⟨f1, f2, f3⟩ := FIN.out W' 2 (Ext.refl _)
      refine marks_ret1 (D := D) (v := .int .i64 2) rfl f3 (by simp [results, Tryz.results72, go_sem, f2]) ⟨by rw [HC.out.2 (fun T => HML.out (by have := (T.ends HT.out).2; rwa [nds_length] at this))], f1⟩
  · rintro D cd j W' hj ⟨rfl, hT, i3, i4⟩ hD hsz hk
    have hq := (putObj_other W' (.deferred none) (show D ≠ b + 1 by omega)).trans i3
    have c1 := cell_of_row _ _ 0 _ _ _ hq
    simp at c1
    go_wp2_with fail
    refine marks_ret1 (D := D) (v := .int .i64 2) rfl hk (by simp [results, Tryz.results72, go_sem, c1]) ⟨by rw [HC.out.2 hT], ?_⟩
    exact Ext.of_below (i4.trans ((putObj_turn (S := fun b => b = D) _ _ rfl).below i4.size fun k hk => by omega))
end Go.Proofs.YthpmncdfaggkiaaGreat
namespace Go.Proofs.YthpmncdfaggkiaaGreat
open Go.RowKit
attribute [local go_sem] more_drew more_drewN more_size more_cell more_frozen more_setCell drew_more drewN_more lt_add_r lt_add_r2 lt_add_r3 lt_add_r4 lt_add_r5 lt_add_r6 lt_add_r7 lt_add_r8 lt_add_r9 lt_add_r10 lt_self_r lt_self_r2
structure PS (w : World) (A : Option Addr) (c : Nat) (ps : List Prt) : Prop where
  parts : Prts w A ps
  oks : PrtsOk w ps
  few : Few ps
  cap : ps.length ≤ c
  top : c ≤ 9223372036854775807
  none : A = .none → c = 0
theorem PS.ext {w w' : World} {A : Option Addr} {c : Nat} {ps : List Prt} (h : PS w A c ps) (e : Ext w w') : PS w' A c ps := ⟨h.parts.ext e, h.oks.ext e, h.few, h.cap, h.top, h.none⟩
section
variable {A : Option Addr} {c : Nat} {ps : List Prt} {w : World}
theorem check_ok (h : PS w A c ps) (T : Tree (nds ps)) : Calls Tryz.prog 72 #[.slice A ps.length c] w fun e w' => e = .returned (.int .i64 0) ∧ Ext w w' :=
  (check_any A c ps w h.parts h.oks h.few).mono fun _ _ ⟨he, hx⟩ => ⟨by rw [he, (checkF_few h.few.len).1 T], hx⟩
theorem check_no (h : PS w A c ps) (T : ¬ Tree (nds ps)) : Calls Tryz.prog 72 #[.slice A ps.length c] w fun e w' => e = .returned (.int .i64 2) ∧ Ext w w' :=
  (check_any A c ps w h.parts h.oks h.few).mono fun _ _ ⟨he, hx⟩ => ⟨by rw [he, (checkF_few h.few.len).2 T], hx⟩
set_option maxRecDepth 100000 in
set_option maxHeartbeats 1000000 in
theorem is_yes (i : Int) (h : PS w A c ps) (T : Tree (nds ps)) : Calls Tryz.prog 125 #[.slice A ps.length c, .int .i64 i] w fun e w' => e = .returned (.bool (decide (0 ≤ i) && decide (i < (ps.length : Int)))) ∧ Ext w w' := by
  have CH := zh (check_ok h T)
  have hl := h.few.len
  clear h T
  go_enter Tryz.func125, Tryz.ntmps125
  go_wp2_with fail
  refine CH.out.mono ?_
  rintro e w2 ⟨rfl, hx2⟩
  have HX := zh hx2
  clear hx2
  go_wp2_with fail
  all_goals go_ret
  all_goals exact ⟨ret_bool (by rw [Bool.eq_iff_iff]; simp; try omega), HX.out⟩
set_option maxRecDepth 100000 in
set_option maxHeartbeats 1000000 in
theorem end_any' (i m : Nat) (h : PS w A c ps) (hp : Part (nds ps) i m) : Calls Tryz.prog 129 #[.slice A ps.length c, .int .i64 i] w fun e w' => e = .returned (.int .i64 m) ∧ Ext w w' := by
  have HS := zh h
  have HP := zh hp
  have hl := h.few.len
  have hm : m ≤ ps.length := by have := hp.le; rwa [nds_length] at this
  clear h hp
  go_enter Tryz.func129, Tryz.ntmps129
  go_wp2_with fail
  go_loopw [1] (fun i wr => ∃ c1 : Nat, i = .int .i64 c1 ∧ Hid (Part (nds ps) c1 m) ∧ Ext w wr) (fun i _ => m - (intOf i).toNat)
  case atStart => exact ⟨i, rfl, HP, Ext.refl _⟩
  case round =>
    obtain ⟨c1, rfl, hc1, hx⟩ := hrel
    have hlt := hc1.out.lt
    have hlm := hc1.out.lt_end
    rw [nds_length] at hlt
    obtain ⟨⟨q, kA, kcap⟩, hq⟩ : ∃ q, ps[c1]? = some q := ⟨_, List.getElem?_eq_getElem hlt⟩
    obtain ⟨b, off, rfl, hb, hcell⟩ := (HS.out.ext hx).parts (by omega)
    obtain ⟨_, _, _, _, _, _, d6, _⟩ := hcell c1 _ hq
    have ho := (HS.out.ext hx).oks.get hq
    have o1 := ho.cap
    have o2 := ho.top
    have HX := zh hx
    dsimp only at d6 o1 o2
    rcases Nat.eq_zero_or_pos q.kids.length with h0 | h0
    · have e1 := hc1.out.leaf (nds_get hq) (List.eq_nil_of_length_eq_zero h0)
      have g0 : decide (0 < q.kids.length) = false := by simp [h0]
      have E1 := zh e1
      clear hcell hq ho hx h0 e1
      go_wp2_with fail
      go_ret
      exact ⟨ret_int (by rw [E1.out]; simp), HX.out⟩
    · obtain ⟨b2, off2, hkA, hb2, hc2⟩ := ho.kids h0
      change kA = _ at hkA
      subst hkA
      have e2 := hc2 (q.kids.length - 1) (by show _ < q.kids.length; omega)
      dsimp only at e2
      obtain ⟨k, hk⟩ : ∃ k, q.kids.getLast? = some k := ⟨_, List.getLast?_eq_some_getLast (by intro h; rw [h] at h0; simp at h0)⟩
      obtain ⟨c2, rfl, hcc, hp2⟩ := hc1.out.last (nds_get hq) hk
      have e3 : q.kids.getD (q.kids.length - 1) 0 = (c2 : Int) := by
        rw [List.getLast?_eq_getElem?] at hk
        rw [List.getD_eq_getElem?_getD, hk]
        rfl
      rw [e3] at e2
      have g0 : decide (0 < q.kids.length) = true := by simp [h0]
      have HP2 := zh hp2
      have s1 : IntKind.i64.wrap ((q.kids.length : Int) - 1) = ((q.kids.length - 1 : Nat) : Int) := by
        rw [show ((q.kids.length : Int) - 1) = ((q.kids.length - 1 : Nat) : Int) by omega]
        exact IntWalk.i64_in _ (by omega)
      have s2 : q.kids.length - 1 < q.kids.length := by omega
      clear hcell hq ho hx hc2 hk e3 hp2
      go_upto_region 2 with fail
      go_quiet (fail)
      go_wp2_with fail
      go_roundw
      case rel => exact ⟨c2, rfl, HP2, HX.out.trans (by repeat first | exact xr _ | refine xa ?_ _ | refine xm ?_ _ _ | refine xd ?_ | refine xn ?_ _ | refine xs ?_ (by simp <;> omega) _)⟩
      case measure => simp [intOf]; omega
end
section
variable {A : Option Addr} {c : Nat} {ps : List Prt} {w : World}
def IsP (l : List Nd) (i : Int) : Prop := Tree l ∧ 0 ≤ i ∧ i < (l.length : Int)
theorem is_true (i : Int) (h : PS w A c ps) (T : IsP (nds ps) i) : Calls Tryz.prog 125 #[.slice A ps.length c, .int .i64 i] w fun e w' => e = .returned (.bool true) ∧ Ext w w' := by
  obtain ⟨T, h0, h1⟩ := T
  rw [nds_length] at h1
  refine (is_yes i h T).mono ?_
  rintro e w' ⟨rfl, hx⟩
  exact ⟨ret_bool (by rw [decide_eq_true h0, decide_eq_true h1]; rfl), hx⟩
set_option maxRecDepth 100000 in
set_option maxHeartbeats 1000000 in
theorem End_yes (i m : Nat) (h : PS w A c ps) (T : Tree (nds ps)) (hp : Part (nds ps) i m) : Calls Tryz.prog 131 #[.slice A ps.length c, .int .i64 i] w fun e w' => e = .returned (.int .i64 m) ∧ Ext w w' := by
  have CH := zh (is_true i h ⟨T, by omega, by have := hp.lt; omega⟩)
  have HS := zh h
  have HP := zh hp
  clear h T hp
  go_enter Tryz.func131, Tryz.ntmps131
  go_wp2_with fail
  refine CH.out.mono ?_
  rintro e w2 ⟨rfl, hx2⟩
  have HX := zh hx2
  clear hx2
  go_wp2_with fail
  refine (end_any' i m (HS.out.ext HX.out) HP.out).mono ?_
  rintro e w3 ⟨rfl, hx3⟩
  have HX3 := zh hx3
  clear hx3
  go_wp2_with fail
  go_ret
  exact ⟨rfl, HX.out.trans HX3.out⟩
end
end Go.Proofs.YthpmncdfaggkiaaGreat
