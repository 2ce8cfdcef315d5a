/- Pn: texts that the proof rests on, part 1. -/
import Derived.Test.YthpmncdfaggkiaaGreatCr1
import Derived.Test.YthpmncdfaggkiaaGreatCr10
import Derived.Test.YthpmncdfaggkiaaGreatCr11
import Derived.Test.YthpmncdfaggkiaaGreatCr2
import Derived.Test.YthpmncdfaggkiaaGreatCr3
import Derived.Test.YthpmncdfaggkiaaGreatCr5
import Derived.Test.YthpmncdfaggkiaaGreatCr6
import Derived.Test.YthpmncdfaggkiaaGreatCr7
import Derived.Test.YthpmncdfaggkiaaGreatCr8
import Derived.Test.YthpmncdfaggkiaaGreatCr9
namespace Go.Proofs.YthpmncdfaggkiaaGreat
open Go.RowKit
theorem wp_region_ext {P : Program} {id : Nat} {Q : Exit → Act → World → Prop} {a : Act} {w : World} {l : List Oper} (hm : P.follows .mixedOrders = true) (hB : Region.lexB .any l.toArray = true)
 (h : wpQuiet P l.toArray (fun w' => ∃ x : Lay, w' = more w x.os x.k) (fun a' => ∀ w', (∃ x : Lay, w' = more w x.os x.k) → Q .normal a' w') l a) : (Code.region id l.toArray true).wp P Q a w :=
 wp_region_quiet (C := fun w' => ∃ x : Lay, w' = more w x.os x.k) hm hB ⟨⟨[], w.drawn + 1⟩, by simp [more]⟩ (by simpa using h)
theorem calls_ext {P : Program} {f : FuncId} {args : Array Value} {w : World} {x : Lay} {v : Value}
 (h : Calls P f args (more w x.os x.k) fun e w' => e = .returned v ∧ Ext (more w x.os x.k) w') : Calls P f args (more w x.os x.k) fun e w'' => e = .returned v ∧ ∃ y : Lay, w'' = more w y.os y.k :=
 h.mono fun _ _ ⟨he, os, k, hw⟩ => ⟨he, ⟨x.os ++ os, k⟩, by rw [hw, more_more]⟩
theorem Ints.below {w w' : World} {A : Option Addr} {xs : List Int} (h : Ints w A xs) (e : Below w.heap.size w w') : Ints w' A xs := fun h0 => by
 obtain ⟨b, off, hA, hb, hc⟩ := h h0
 exact ⟨b, off, hA, by have := e.size; omega, fun j hj => by rw [e.cell (p := ⟨b, off + j, none⟩) hb]; exact hc j hj⟩
theorem Ints.empty_or {w : World} {A : Option Addr} {xs : List Int} (h : Ints w A xs) : xs = [] ∨ (0 < xs.length ∧ ∃ b off, A = some ⟨b, off, none⟩ ∧ b < w.heap.size ∧ ∀ k, k < xs.length → w.cell? ⟨b, off + k, none⟩ = some (.int .i64 (xs.getD k 0))) := by
 cases xs with
 | nil => exact .inl rfl
 | cons x l => exact .inr ⟨by simp, h (by simp)⟩
theorem Ints.drop {w : World} {A : Option Addr} {xs : List Int} (h : Ints w A xs) (k c : Nat) (hc : xs.length ≤ c) : Ints w (if c = k then A else A.map (·.add k)) (xs.drop k) := fun h0 => by
 rw [List.length_drop] at h0
 obtain ⟨b, off, rfl, hb, hcell⟩ := h (by omega)
 rw [if_neg (by omega)]
 refine ⟨b, off + k, ?_, hb, fun j hj => ?_⟩
 ·simp only [Option.map_some, Addr.add]
  split <;> rename_i hk <;> simp_all
 ·rw [List.length_drop] at hj
  have := hcell (k + j) (by omega)
  rw [Nat.add_assoc, this]
  simp [List.getD_eq_getElem?_getD, List.getElem?_drop]

section
variable {S : Nat → Prop}
theorem Turn.putBlock (w : World) {b : Nat} (hp : S b) (o : Obj) : Turn S w { w with heap := w.heap.setIfInBounds b o } :=
 ⟨rfl, rfl, rfl, by simp, fun k _ hS => by
   have hne : b ≠ k := fun he => hS (he ▸ hp)
   show (w.heap.setIfInBounds b o)[k]? = _
   rw [Array.getElem?_setIfInBounds_ne hne]⟩
end
def IterB {α : Type} (P : Program) (gf : FuncId) (lb : Array Value) (encs : α → Array Value) (xs : List α) (S : Nat → Prop) (w1 : World) : Prop :=
 ∀ (l : Nat) (J Jx : Nat → World → Prop),
  (∀ j W W', Below w1.heap.size W W' → J j W → J j W') → (∀ j W W', Below w1.heap.size W W' → Jx j W → Jx j W') →
  (∀ j x W, xs[j]? = some x → w1.heap.size ≤ W.heap.size → J j W → YieldAt Fence.wide 0 P l (encs x) W fun e W' =>
    (e = .returned (.bool true) ∧ J (j + 1) W' ∧ Turn (fun b => S b ∧ b < w1.heap.size) W W') ∨ (e = .returned (.bool false) ∧ Jx (j + 1) W' ∧ Turn (fun b => S b ∧ b < w1.heap.size) W W')) →
  J 0 w1 →
  Calls P gf (#[.func (.yield l) #[] #[]] ++ lb) w1 fun e W' => (∃ v, e = .returned v) ∧ w1.heap.size ≤ W'.heap.size ∧ (J xs.length W' ∨ ∃ j, j ≤ xs.length ∧ Jx j W')
def bodyB (S : Nat → Prop) (B N : Nat) (W : World) (I : World → Prop) (Ix : Code → World → Prop) : Exit → Act → World → Prop
 | .normal, _, W' => Turn (fun b => (S b ∧ b < B) ∨ N ≤ b) W W' ∧ I W'
 | .ret, _, W' => Turn (fun b => (S b ∧ b < B) ∨ N ≤ b) W W' ∧ Ix .ret W'
 | .exit id, _, W' => Turn (fun b => (S b ∧ b < B) ∨ N ≤ b) W W' ∧ Ix (.exit id) W'
 | .goto t, _, W' => Turn (fun b => (S b ∧ b < B) ∨ N ≤ b) W W' ∧ Ix (.goto t) W'
 | .panic _, _, _ => False
 | .outgrown, _, _ => False
variable {P : Program}
theorem putObj_turn {S : Nat → Prop} (W : World) {l : Nat} (o : Obj) (h : S l) : Turn S W (W.putObj l o) := Turn.putBlock W h o
theorem wp_range {α : Type} {g : Operand} {ps : Array Tmp} {assign body : Code} {Q : Exit → Act → World → Prop} {a : Act} {w : World} {gf : Nat} {lb : Array Value}
 (hg : a.eval g = .func (.func gf) #[] lb) (eg : ∀ args w, (callFunc gf args).run P w = .ok (.enter gf args) w)
 {encs : α → Array Value} (hps : ∀ x, (encs x).size = ps.size) {xs : List α} {S : Nat → Prop} (hlo : ∀ b, w.heap.size ≤ b → S b)
 (hseq : ∀ w1, Ext w w1 → w1.heap.size = w.heap.size + 2 → IterB P gf lb encs xs S w1)
 (I : Nat → World → Prop) (Ix : Code → Nat → World → Prop)
 (hI : ∀ j W W', Below w.heap.size W W' → w.heap.size ≤ W.heap.size → I j W → I j W') (hIx : ∀ c j W W', Below w.heap.size W W' → w.heap.size ≤ W.heap.size → Ix c j W → Ix c j W') (h0 : I 0 w)
 (hround : ∀ (l j : Nat) (x : α) (W : World), xs[j]? = some x → I j W → w.heap.size ≤ W.heap.size →
   assign.wpIn (Fence.wide.inRound l) 0 P (Exit.then (fun a₁ W₁ => Ext W W₁ ∧ ∀ W₂, Turn (fun b => w.heap.size ≤ b ∧ b < W.heap.size) W₁ W₂ → I j W₂ → W.heap.size ≤ W₂.heap.size →
    body.wpIn (Fence.wide.inRound l) 0 P (bodyB S w.heap.size W.heap.size W₂ (I (j + 1)) (fun c => Ix c (j + 1))) a₁ W₂) (fun _ _ _ => False))
    { tmps := (ps.zip (encs x)).foldl (fun t (p, v) => t.setIfInBounds p v) a.tmps, defers := [] } W)
 (hdone : ∀ (D : Nat) (W : World), I xs.length W → w.heap.size ≤ D → w.heap.size ≤ W.heap.size → W.heap[D]? = some (.deferred (some [])) → Q .normal { a with defers := { target := .collected D, args := #[] } :: a.defers } W)
 (hstop : ∀ (D : Nat) (c : Code) (j : Nat) (W : World), j ≤ xs.length → Ix c j W → w.heap.size ≤ D → w.heap.size ≤ W.heap.size → W.heap[D]? = some (.deferred (some [])) → c.wp P Q { a with defers := { target := .collected D, args := #[] } :: a.defers } W) :
 (Code.rangeFunc g ps assign body).wp P Q a w := by
 refine (wpIn_wide (n := 1)).1 (wpIn_rangeFunc ?_)
 intro fn hfn
 obtain ⟨rec, hrec⟩ : ∃ rec : LoopState → Option Code → Loop, rec = fun st pe => { state := st, pending := pe, fn, tmps := a.tmps, params := ps, assign, body, defers := w.heap.size } := ⟨_, rfl⟩
 obtain ⟨W1, hW1⟩ : ∃ W1, (w.alloc (.deferred (some []))).alloc (.loop (rec .ready none)) = W1 := ⟨_, rfl⟩
 have hL1 : W1.heap[w.heap.size + 1]? = some (.loop (rec .ready none)) := by
  rw [← hW1]; have := World.alloc_heap_new (w.alloc (.deferred (some []))) (.loop (rec .ready none)); rwa [World.size_alloc] at this
 have hK1 : W1.heap[w.heap.size]? = some (.deferred (some [])) := by
  rw [← hW1]; exact (Below.heap_alloc _ _ _ (by simp)).trans (World.alloc_heap_new w _)
 have hE1 : Ext w W1 := by rw [← hW1]; exact ((Ext.refl w).alloc _).alloc _
 have hs1 : W1.heap.size = w.heap.size + 2 := by rw [← hW1]; simp
 have hI1 : I 0 W1 := hI _ _ _ hE1.below (Nat.le_refl _) h0
 have hB : ∀ {A B : World}, Below W1.heap.size A B → Below w.heap.size A B := fun h => h.mono (by omega)
 refine ⟨w.heap.size + 1, [{ target := .collected w.heap.size, args := #[] }], W1, { target := .fn (.func gf) lb, args := #[.func (.yield (w.heap.size + 1)) #[] #[]] }, W1, gf,
  #[.func (.yield (w.heap.size + 1)) #[] #[]] ++ lb, W1, ?_, ?_, ?_, ?_, (fun h => by cases h), ?_⟩
 ·rw [← hW1, hrec]; exact run_enterLoop_outer _ _ _ _ _
 ·simp only [resolve, hg]
  simp [go_sem]
 ·intro f' hf'; trivial
 ·simp [invoke, go_sem, eg]
 ·refine callsIn_wide.2 ((hseq W1 hE1 hs1 (w.heap.size + 1)
   (fun j W => I j W ∧ W.heap[w.heap.size + 1]? = some (.loop (rec .ready none)) ∧ W.heap[w.heap.size]? = some (.deferred (some [])))
   (fun j W => ∃ c, Ix c j W ∧ W.heap[w.heap.size + 1]? = some (.loop (rec .done (some c))) ∧ W.heap[w.heap.size]? = some (.deferred (some [])))
   ?_ ?_ ?_ ⟨hI1, hL1, hK1⟩).mono ?_)
  ·rintro j A B hb ⟨h1, h2, h3⟩
   exact ⟨hI _ _ _ (hB hb) (by have := lt_of_heap h3; omega) h1, (hb.block _ (by omega)).trans h2, (hb.block _ (by omega)).trans h3⟩
  ·rintro j A B hb ⟨c, h1, h2, h3⟩
   exact ⟨c, hIx _ _ _ _ (hB hb) (by have := lt_of_heap h3; omega) h1, (hb.block _ (by omega)).trans h2, (hb.block _ (by omega)).trans h3⟩
  ·rintro j x W hx hsz ⟨hi, hl, hk⟩
   have hlt : w.heap.size + 1 < W.heap.size := lt_of_heap hl
   have hy := run_yield (P := P) (args := encs x) hl (by rw [hrec]; exact hps x)
   rw [hrec] at hy
   refine ⟨fn, _, assign, body, hy, roundIn_of_wpIn hfn (wpIn_mono (hround _ j x W hx hi (by omega)) ?_)⟩
   rintro e a₁ W₂ hp
   cases e with
   | normal =>
    obtain ⟨hE2, hbody⟩ := hp
    have hl2 : W₂.heap[w.heap.size + 1]? = some (.loop (rec .ready none)) := (hE2.below.block _ hlt).trans hl
    have hk2 : W₂.heap[w.heap.size]? = some (.deferred (some [])) := (hE2.below.block _ (by omega)).trans hk
    have hlt2 := lt_of_heap hl2
    refine ⟨_, run_beginRound hl2 (by rw [hrec]), ?_⟩
    have hl3 : (W₂.putObj (w.heap.size + 1) (.loop { rec .ready none with state := .busy })).heap[w.heap.size + 1]? = some (.loop { rec .ready none with state := .busy }) := World.putObj_heap_same hlt2
    have hk3 : (W₂.putObj (w.heap.size + 1) (.loop { rec .ready none with state := .busy })).heap[w.heap.size]? = some (.deferred (some [])) := (World.putObj_heap_other (by omega)).trans hk2
    have hT3 : Turn (fun b => w.heap.size ≤ b ∧ b < W.heap.size) W₂ (W₂.putObj (w.heap.size + 1) (.loop { rec .ready none with state := .busy })) := putObj_turn _ _ ⟨by omega, hlt⟩
    have hI3 : I j (W₂.putObj (w.heap.size + 1) (.loop { rec .ready none with state := .busy })) :=
     hI _ _ _ (hT3.below (by omega) fun k hk => hk.1) (by omega) (hI _ _ _ (hE2.below.mono (by omega)) (by omega) hi)
    have hsz3 : W.heap.size ≤ (W₂.putObj (w.heap.size + 1) (.loop { rec .ready none with state := .busy })).heap.size := by
     have := hE2.size
     simp
     exact this
    refine wpIn_mono (hbody _ hT3 hI3 hsz3) ?_
    have fin : ∀ (jump : Option Code) (W3 : World), Turn (fun b => (S b ∧ b < w.heap.size) ∨ W.heap.size ≤ b) (W₂.putObj (w.heap.size + 1) (.loop { rec .ready none with state := .busy })) W3 →
     (Instr.endRound (w.heap.size + 1) jump).run P W3 = .ok (.bool jump.isNone) (W3.putObj (w.heap.size + 1) (.loop (rec (if jump.isNone then .ready else .done) jump))) ∧
     (W3.putObj (w.heap.size + 1) (.loop (rec (if jump.isNone then .ready else .done) jump))).heap[w.heap.size + 1]? = some (.loop (rec (if jump.isNone then .ready else .done) jump)) ∧
     (W3.putObj (w.heap.size + 1) (.loop (rec (if jump.isNone then .ready else .done) jump))).heap[w.heap.size]? = some (.deferred (some [])) ∧
     Below w.heap.size W3 (W3.putObj (w.heap.size + 1) (.loop (rec (if jump.isNone then .ready else .done) jump))) ∧ w.heap.size ≤ W3.heap.size ∧
     Turn (fun b => S b ∧ b < W1.heap.size) W (W3.putObj (w.heap.size + 1) (.loop (rec (if jump.isNone then .ready else .done) jump))) := fun jump W3 hk4 => by
     have hl4 := (hk4.block _ (lt_of_heap hl3) (by omega)).trans hl3
     have hr := run_endRound (P := P) jump hl4
     have hlt4 := lt_of_heap hl4
     have hr2 : (Instr.endRound (w.heap.size + 1) jump).run P W3 = .ok (.bool jump.isNone) (W3.putObj (w.heap.size + 1) (.loop (rec (if jump.isNone then .ready else .done) jump))) := by
      rw [hrec] at hr ⊢
      exact hr
     refine ⟨hr2, World.putObj_heap_same hlt4, (World.putObj_heap_other (by omega)).trans ((hk4.block _ (lt_of_heap hk3) (by omega)).trans hk3), (putObj_turn (S := fun b => w.heap.size ≤ b) _ _ (by omega)).below (by omega) (fun k hk => hk), by omega, ?_⟩
     have t1 : Turn (fun b => S b ∧ b < W1.heap.size) W W₂ := Turn.of_ext hE2
     have t2 : Turn (fun b => S b ∧ b < W1.heap.size) W (W₂.putObj (w.heap.size + 1) (.loop { rec .ready none with state := .busy })) := t1.trans (putObj_turn _ _ ⟨hlo _ (by omega), by omega⟩)
     exact (t2.andThen (S'' := fun b => S b ∧ b < W1.heap.size) hk4 (fun k _ hS => hS) (fun k hk hS => hS.elim (fun hS => ⟨hS.1, by omega⟩) (fun hS => absurd hk (Nat.not_lt.2 hS)))).trans (putObj_turn _ _ ⟨hlo _ (by omega), by omega⟩)
    rintro e a3 W3 hp
    cases e with
    | normal =>
     obtain ⟨ht, hi3⟩ := hp
     obtain ⟨hr, hl4, hk4, hb4, hs4, ht4⟩ := fin none W3 ht
     exact ⟨_, _, hr, .inl ⟨rfl, ⟨hI _ _ _ hb4 hs4 hi3, hl4, hk4⟩, ht4⟩⟩
    | ret =>
     obtain ⟨ht, hi3⟩ := hp
     obtain ⟨hr, hl4, hk4, hb4, hs4, ht4⟩ := fin (some (.ret)) W3 ht
     exact ⟨_, _, hr, .inr ⟨rfl, ⟨.ret, hIx _ _ _ _ hb4 hs4 hi3, hl4, hk4⟩, ht4⟩⟩
    | exit id =>
     obtain ⟨ht, hi3⟩ := hp
     obtain ⟨hr, hl4, hk4, hb4, hs4, ht4⟩ := fin (some (.exit id)) W3 ht
     exact ⟨_, _, hr, .inr ⟨rfl, ⟨.exit id, hIx _ _ _ _ hb4 hs4 hi3, hl4, hk4⟩, ht4⟩⟩
    | goto t =>
     obtain ⟨ht, hi3⟩ := hp
     obtain ⟨hr, hl4, hk4, hb4, hs4, ht4⟩ := fin (some (.goto t)) W3 ht
     exact ⟨_, _, hr, .inr ⟨rfl, ⟨.goto t, hIx _ _ _ _ hb4 hs4 hi3, hl4, hk4⟩, ht4⟩⟩
    | panic ch => exact hp.elim
    | outgrown => exact hp.elim
   | exit id => exact hp.elim
   | goto l => exact hp.elim
   | ret => exact hp.elim
   | panic ch => exact hp.elim
   | outgrown => exact hp.elim
  ·rintro e W2 ⟨⟨v, rfl⟩, hsz, (⟨hi, hl, hk⟩ | ⟨j, hj, c, hi, hl, hk⟩)⟩
   ·have hlt := lt_of_heap hl
    have hend := run_endLoop (P := P) hl (by rw [hrec]; simp)
    have hp : (rec .ready none).pending = none := by rw [hrec]
    rw [hp] at hend
    exact ⟨none, _, hend, hdone _ _ (hI _ _ _ ((putObj_turn (S := fun b => w.heap.size ≤ b) _ _ (by omega)).below (by omega) (fun k hk => hk)) (by omega) hi) (Nat.le_refl _) (by simp; omega) ((World.putObj_heap_other (by omega)).trans hk)⟩
   ·have hlt := lt_of_heap hl
    have hend := run_endLoop (P := P) hl (by rw [hrec]; simp)
    have hp : (rec .done (some c)).pending = some c := by rw [hrec]
    rw [hp] at hend
    exact ⟨some c, _, hend, wpIn_wide.2 (hstop _ c j _ hj (hIx _ _ _ _ ((putObj_turn (S := fun b => w.heap.size ≤ b) _ _ (by omega)).below (by omega) (fun k hk => hk)) (by omega) hi) (Nat.le_refl _) (by simp; omega) ((World.putObj_heap_other (by omega)).trans hk))⟩
theorem calls_of_marks {f : FuncId} {fn : Func} {c : Code} {args : Array Value} {w : World} {R : Ending → World → Prop} (hf : P.funcs[f]? = some fn) (hb : fn.body = some c)
 (h : c.wp P (bodyPostM Fence.wide 0 P fn R) { tmps := args ++ Array.replicate (fn.ntmps - args.size) undef, defers := [] } w) : Calls P f args w R :=
 callsIn_wide.1 (callsIn_of_wp_marks hf hb trivial (wpIn_wide.2 h) rfl)
theorem marks_ret1 {fn : Func} {R : Ending → World → Prop} {a : Act} {w : World} {D : Nat} {v : Value} (hd : a.defers = [{ target := .collected D, args := #[] }]) (hk : w.heap[D]? = some (.deferred (some [])))
 (hr : (results fn a.tmps).run P (w.putObj D (.deferred none)) = .ok v (w.putObj D (.deferred none))) (hR : R (.returned v) (w.putObj D (.deferred none))) : bodyPostM Fence.wide 0 P fn R .ret a w := by
 show LeavesInM Fence.wide 0 P fn a.tmps R a.defers .returning w
 rw [hd]
 exact ⟨by simp, .inl ⟨_, _, rfl, run_takeDeferred hk, v, hr, hR⟩⟩
def noDefer (l : List Oper) : Bool := l.all fun o => match o.op with | .defer _ => false | _ => true
section
variable {P : Program} {ops : Array Oper} {md : Region.Mode} {C : World → Prop}
theorem ready_getD_false' {listed : Array Bool} {j : Nat} (hj : j ∈ Region.ready md ops listed) : j < listed.size ∧ listed.getD j false = false := by
 have h := (mem_ready.1 hj).1
 rcases Nat.lt_or_ge j listed.size with hlt | hge
 ·refine ⟨hlt, ?_⟩
  simp [hlt] at h ⊢
  exact h
 ·simp [Array.getElem?_eq_none hge] at h
theorem wpAnyC_first {s i : Nat} {oi : Oper} {v : Value} {Q : Act → World → Prop} (hi : ops[i]? = some oi) (hso : softOp oi = true) (hsel : ∀ (j : Nat) (o : Oper) cs b, ops[j]? = some o → o.op ≠ .select cs b) (his : i ≠ s)
 (hsw : ∀ os, ops[s]? = some os → ∃ e ∈ os.after, Region.binds md e = true ∧ e.on = i) :
 ∀ (fuel : Nat) (listed : Array Bool) (a : Act) (w : World),
  (∀ j oj, ops[j]? = some oj → j ≠ i → listed.getD j true = false → (∀ e ∈ oj.after, Region.binds md e = true → e.on ≠ i) → oi.apart ops oj = true) →
  i ∈ Region.ready md ops listed → YieldsIn P ops C oi v a → listed.getD s false = false → C w →
  wpAnyC P md ops C s Q fuel (listed.setIfInBounds i true) (a.put oi.dst v) w → wpAnyC P md ops C s Q (fuel + 1) listed a w := by
 intro fuel
 induction fuel with
 | zero =>
  intro listed a w _ hr hy hls hC H
  refine ⟨fun _ => hC, fun h => (by rw [h] at hr; cases hr), fun j hj => ?_⟩
  by_cases hji : j = i
  ·subst hji
   exact wpOp_of_soft hi hso hy hC H
  ·have := ready_mono hj hji
   rw [H.2.1] at this
   cases this
 | succ fuel ih =>
  intro listed a w hfree hr hy hls hC H
  refine ⟨fun _ => hC, fun h => (by rw [h] at hr; cases hr), fun j hj => ?_⟩
  by_cases hji : j = i
  ·subst hji
   exact wpOp_of_soft hi hso hy hC H
  ·have h1 := H.2.2 j (ready_mono hj hji)
   obtain ⟨hjun, oj, hoj, hall⟩ := mem_ready.1 hj
   have hil : listed.getD i false = false := by
    have h0 := (mem_ready.1 hr).1
    rcases Nat.lt_or_ge i listed.size with h' | h'
    ·simp [h'] at h0 ⊢; exact h0
    ·simp [Array.getElem?_eq_none h'] at h0
   have hnot : ∀ e ∈ oj.after, Region.binds md e = true → e.on ≠ i := fun e he hb heq => by
    have h1 := hall e he hb
    rw [heq, hil] at h1
    cases h1
   have hjs : j ≠ s := by
    rintro rfl
    obtain ⟨e, he, hb, heq⟩ := hsw oj hoj
    exact hnot e he hb heq
   have h2 := wpOpC_put hoj (hfree j oj hoj hji hjun hnot) (fun cs b => hsel i oi cs b hi) (fun cs b => hsel j oj cs b hoj) hy h1
   have hfree' : ∀ k ok, ops[k]? = some ok → k ≠ i → (listed.setIfInBounds j true).getD k true = false →
    (∀ e ∈ ok.after, Region.binds md e = true → e.on ≠ i) → oi.apart ops ok = true := fun k ok hk hki hun hno => by
    refine hfree k ok hk hki ?_ hno
    by_cases hjk : j = k
    ·subst hjk; exact hjun
    ·rw [getD_set_ne true hjk] at hun; exact hun
   refine wpOp_mono (fun a' w' h3 => ?_) h2
   have hs1 : (listed.setIfInBounds j true).getD s false = false := by rw [getD_set_ne false hjs]; exact hls
   have hcomm : (listed.setIfInBounds j true).setIfInBounds i true = (listed.setIfInBounds i true).setIfInBounds j true := Array.setIfInBounds_comm _ _ hji
   refine ih (listed.setIfInBounds j true) a' w' hfree' (ready_mono hr (Ne.symm hji)) h3.1 hs1 (h3.2.cls (by rw [← hcomm, getD_set_ne false his]; exact hs1)) ?_
   rw [hcomm]
   exact h3.2
def wpSched (P : Program) (ops : Array Oper) (C : World → Prop) (s : Nat) (Q : Act → World → Prop) : List (Bool × Nat) → Act → World → Prop
 | [], a, w => Q a w
 | (true, i) :: r, a, w => qOp P ops C i (fun a' => wpSched P ops C s Q r a' w) a
 | (false, i) :: r, a, w => wpOp P ops QN i (fun a' w' => (i ≠ s → C w') ∧ wpSched P ops C s Q r a' w') a w
def schedB (md : Region.Mode) (ops : Array Oper) (s : Nat) : List (Bool × Nat) → Array Bool → Bool
 | [], listed => (Region.ready md ops listed).isEmpty
 | (true, i) :: r, listed => i != s && (Region.ready md ops listed).contains i && Region.free md ops listed i && ((ops[i]?).map softOp).getD false &&
  (match ops[s]? with | none => true | some os => os.after.any fun e => Region.binds md e && e.on == i) && schedB md ops s r (listed.setIfInBounds i true)
 | (false, i) :: r, listed => (Region.ready md ops listed == [i]) && (i != s || r.isEmpty) && schedB md ops s r (listed.setIfInBounds i true)
theorem wpAnyC_sched {s : Nat} {Q : Act → World → Prop} (hs : Region.noSelect ops = true) : ∀ (l : List (Bool × Nat)) (listed : Array Bool) (a : Act) (w : World), schedB md ops s l listed = true → listed.getD s false = false → C w →
 wpSched P ops C s Q l a w → wpAnyC P md ops C s Q l.length listed a w
 | [], listed, a, w, hB, _, hC, h => ⟨fun _ => hC, by simpa [schedB] using hB, h⟩
 | (true, i) :: r, listed, a, w, hB, hls, hC, h => by
  simp only [schedB, Bool.and_eq_true, bne_iff_ne, ne_eq] at hB
  obtain ⟨⟨⟨⟨⟨h1, h2⟩, h3⟩, h4⟩, h5⟩, h6⟩ := hB
  obtain ⟨oi, hoi⟩ : ∃ o, ops[i]? = some o := by
   cases ho : ops[i]? with
   | none => rw [ho] at h4; cases h4
   | some o => exact ⟨o, rfl⟩
  rw [hoi] at h4
  obtain ⟨v, hy, hK⟩ := yieldsIn_of_qOp hoi h
  refine wpAnyC_first hoi (by simpa using h4) (Region.noSelect_spec hs) h1 (fun os ho => ?_) r.length listed a w (Region.free_spec hoi h3) (by simpa using h2) hy hls hC
   (wpAnyC_sched hs r _ _ w h6 (by rw [getD_set_ne false h1]; exact hls) hC hK)
  rw [ho] at h5
  obtain ⟨e, he, hb⟩ := Array.any_eq_true'.1 h5
  simp only [Bool.and_eq_true, beq_iff_eq] at hb
  exact ⟨e, he, hb.1, hb.2⟩
 | (false, i) :: r, listed, a, w, hB, hls, hC, h => by
  simp only [schedB, Bool.and_eq_true, beq_iff_eq, Bool.or_eq_true, bne_iff_ne, ne_eq] at hB
  obtain ⟨⟨h1, h2⟩, h3⟩ := hB
  refine ⟨fun _ => hC, fun h0 => (by rw [h1] at h0; cases h0), fun j hj => ?_⟩
  rw [h1] at hj
  obtain rfl := List.mem_singleton.1 hj
  have hji : j ∈ Region.ready md ops listed := by rw [h1]; exact List.mem_singleton.2 rfl
  refine wpOp_mono (fun a' w' hh => ?_) h
  by_cases hjs : j = s
  ·subst hjs
   have hr : r = [] := by simpa using h2
   subst hr
   refine ⟨fun h0 => ?_, by simpa [schedB] using h3, hh.2⟩
   obtain ⟨hlt, _⟩ := ready_getD_false' hji
   simp [hlt] at h0
  ·exact wpAnyC_sched hs r _ a' w' h3 (by rw [getD_set_ne false hjs]; exact hls) (hh.1 hjs) hh.2
end
section
variable {P : Program} {C : World → Prop}
theorem wpQuiet_mono' {ops : Array Oper} {Q Q' : Act → Prop} (h : ∀ a, Q a → Q' a) : ∀ (l : List Oper) (a : Act), wpQuiet P ops C Q l a → wpQuiet P ops C Q' l a
 | [], _, hh => h _ hh
 | o :: l, a, hh => by
  unfold wpQuiet at hh ⊢
  split
  ·rename_i hw
   rw [if_pos hw] at hh
   exact Oper.quiet_mono (fun a' h' => wpQuiet_mono' h l a' h') hh
  ·rename_i hw
   rw [if_neg hw] at hh
   exact wpQuiet_mono' h l _ hh
theorem pick_nil (l : List Oper) : pick l [] = [] := rfl
def wpSegs (P : Program) (l : List Oper) (C : World → Prop) (s : Nat) (Q : Act → World → Prop) : List (List Nat × Nat) → List Nat → Act → World → Prop
 | [], fin, a, w => wpQuiet P l.toArray C (fun a' => Q a' w) (pick l fin) a
 | (is, h) :: r, fin, a, w => wpQuiet P l.toArray C (fun a' => wpList P l.toArray (segQ C h s (wpSegs P l C s Q r fin)) (pick l [h]) a' w) (pick l is) a
def segItems : List (List Nat × Nat) → List Nat → List (Bool × Nat)
 | [], fin => fin.map fun i => (true, i)
 | (is, h) :: r, fin => (is.map fun i => (true, i)) ++ (false, h) :: segItems r fin
theorem sched_softs {l : List Oper} {s : Nat} {Q : Act → World → Prop} {r : List (Bool × Nat)} {w : World} : ∀ (is : List Nat) (a : Act), (∀ i ∈ is, i < l.length) →
 wpQuiet P l.toArray C (fun a' => wpSched P l.toArray C s Q r a' w) (pick l is) a → wpSched P l.toArray C s Q ((is.map fun i => (true, i)) ++ r) a w
 | [], _, _, h => h
 | i :: is, a, hl, h => by
  have hlt := hl i (List.mem_cons_self ..)
  have hi : l[i]? = some l[i] := List.getElem?_eq_getElem hlt
  have e : pick l (i :: is) = l[i] :: pick l is := nthC_some _ hi
  rw [e] at h
  show qOp P l.toArray C i _ a
  have hi' : l.toArray[i]? = some l[i] := by rw [List.getElem?_toArray]; exact hi
  unfold qOp
  simp only [hi']
  unfold wpQuiet at h
  split
  ·rename_i hw
   rw [if_pos hw] at h
   exact Oper.quiet_mono (fun a' h' => sched_softs is a' (fun k hk => hl k (List.mem_cons_of_mem _ hk)) h') h
  ·rename_i hw
   rw [if_neg hw] at h
   exact sched_softs is _ (fun k hk => hl k (List.mem_cons_of_mem _ hk)) h
theorem sched_segs {l : List Oper} {s : Nat} {Q : Act → World → Prop} {fin : List Nat} (hf : ∀ i ∈ fin, i < l.length) : ∀ (segs : List (List Nat × Nat)) (a : Act) (w : World), (∀ x ∈ segs, (∀ i ∈ x.1, i < l.length) ∧ x.2 < l.length) →
 wpSegs P l C s Q segs fin a w → wpSched P l.toArray C s Q (segItems segs fin) a w
 | [], a, w, _, h => by
  have := sched_softs (s := s) (Q := Q) (r := []) (w := w) fin a hf h
  simpa [segItems] using this
 | (is, hh) :: r, a, w, hl, h => by
  obtain ⟨h1, h2⟩ := hl _ (List.mem_cons_self ..)
  refine sched_softs is a h1 (wpQuiet_mono' (fun a' h' => ?_) (pick l is) a h)
  exact wpOp_mono (fun a2 w2 hx => ⟨hx.1, sched_segs hf r a2 w2 (fun x hx' => hl x (List.mem_cons_of_mem _ hx')) hx.2⟩) (wpOp_of_list h2 h')
def segsB (l : List Oper) (s : Nat) (segs : List (List Nat × Nat)) (fin : List Nat) : Bool :=
 Region.noSelect l.toArray && schedB .any l.toArray s (segItems segs fin) (Array.replicate l.length false) && (segs.all fun x => (x.1.all fun i => decide (i < l.length)) && decide (x.2 < l.length)) && (fin.all fun i => decide (i < l.length)) && ((segItems segs fin).length == l.length)
theorem segs_cons {l : List Oper} {s h : Nat} {Q : Act → World → Prop} {is fin : List Nat} {r : List (List Nat × Nat)} {a : Act} {w : World}
 (hh : ∀ K : Act → Prop, (∀ a', (∀ next : Act → World → Prop, (∀ a w, wpSegs P l C s Q r fin a w → next a w) → wpList P l.toArray (segQ C h s next) (pick l [h]) a' w) → K a') → wpQuiet P l.toArray C K (pick l is) a) :
 wpSegs P l C s Q ((is, h) :: r) fin a w := hh _ fun _ h' => h' _ fun _ _ h => h
theorem segs_nil {l : List Oper} {s : Nat} {Q : Act → World → Prop} {fin : List Nat} {a : Act} {w : World}
 (hh : ∀ K : Act → Prop, (∀ a', Q a' w → K a') → wpQuiet P l.toArray C K (pick l fin) a) : wpSegs P l C s Q [] fin a w := hh _ fun _ h => h
end
section
variable {P : Program} {ops : Array Oper} {md : Region.Mode} {C : World → Prop}
theorem opIn_of_plain {l0 n : Nat} {o : Oper} {a : Act} {w : World} {K : Act → World → Prop} {Q' : Exit → Act → World → Prop} (hnd : ∀ c : Call, o.op ≠ Op.defer c) (h : o.wp P a w K QN) : o.wpIn (Fence.wide.inRound l0) n P a w K Q' := by
 unfold Oper.wp at h
 unfold Oper.wpIn
 refine ⟨fun _ _ => trivial, ?_⟩
 rw [Oper.semAt_eq _ _ _ hnd]
 generalize (execOp a.eval o).run P w = r at *
 cases r with
 | ok x w' =>
  cases x <;> simp only [Oper.upon] at h <;> simp only [Oper.uponIn]
  case value u => exact h
  case skip => exact h
  case defer d => exact h
  case enter f args =>
   refine ⟨fun e => (by cases e), CallsIn.inRound l0 (callsIn_wide.2 (Calls.mono h fun e w'' he => ?_))⟩
   cases e with
   | returned u => exact he
   | panicked c => exact he.elim
   | outgrown => exact absurd he no_letsOut
  case row row args => exact ⟨fun e => (by cases e), fun c cs _ => let ⟨v, w', r, s⟩ := h c cs; ⟨v, w', r, stepsIn_wide.2 s⟩⟩
 | halt x w' =>
  cases x <;> simp only [Oper.upon] at h
  case panic u => exact h.elim
theorem wpAnyIn_of_C {l0 n s : Nat} {Q : Exit → Act → World → Prop} (hnd : ∀ (i : Nat) (o : Oper), ops[i]? = some o → ∀ c : Call, o.op ≠ Op.defer c) : ∀ (fuel : Nat) (listed : Array Bool) (a : Act) (w : World),
 wpAnyC P md ops C s (fun a w => Q .normal a w) fuel listed a w → wpAnyIn (Fence.wide.inRound l0) n P md ops Q fuel listed a w
 | 0, _, _, _, h => h.2
 | fuel + 1, listed, a, w, h => ⟨h.2.1, fun i hi => by
  have h1 := h.2.2 i hi
  unfold wpOp at h1
  unfold wpOpIn
  split
  ·rename_i ho
   simp only [ho] at h1
   exact wpAnyIn_of_C hnd fuel _ _ _ h1
  ·rename_i o ho
   simp only [ho] at h1
   split
   ·rename_i hw
    simp only [hw, if_true] at h1
    rcases h1 with h1 | ⟨_, hl⟩
    ·exact Oper.wpIn_mono (fun a' w' hh => wpAnyIn_of_C hnd fuel _ a' w' hh) (opIn_of_plain (Q' := Q) (hnd i o ho) h1)
    ·exact absurd hl no_letsOut
   ·rename_i hw
    simp only [hw] at h1
    exact ⟨fun _ _ => trivial, wpAnyIn_of_C hnd fuel _ _ _ h1⟩⟩
theorem wpIn_region_segs {id l0 n : Nat} {Q : Exit → Act → World → Prop} {a : Act} {w : World} {l : List Oper} (s : Nat) (segs : List (List Nat × Nat)) (fin : List Nat) (hnd : noDefer l = true) (hm : P.follows .mixedOrders = true) (hB : segsB l s segs fin = true)
 (h : wpSegs P l (fun w' => ∃ x : Lay, w' = more w x.os x.k) s (fun a' w' => Q .normal a' w') segs fin a w.drew) : (Code.region id l.toArray true).wpIn (Fence.wide.inRound l0) n P Q a w := by
 have hnd' : ∀ (i : Nat) (o : Oper), l.toArray[i]? = some o → ∀ c : Call, o.op ≠ Op.defer c := by
  intro i o ho c hc
  have hmem : o ∈ l := by
   rw [List.getElem?_toArray] at ho
   exact List.mem_of_getElem? ho
  have := List.all_eq_true.1 hnd o hmem
  rw [hc] at this
  cases this
 unfold segsB at hB
 simp only [Bool.and_eq_true, List.all_eq_true, decide_eq_true_eq, beq_iff_eq] at hB
 obtain ⟨⟨⟨⟨h1, h2⟩, h3⟩, h4⟩, h5⟩ := hB
 refine wpIn_region_any hm (wpAnyIn_of_C (C := fun w' => ∃ x : Lay, w' = more w x.os x.k) (s := s) hnd' _ _ _ _ ?_)
 have := wpAnyC_sched (Q := fun a' w' => Q .normal a' w') (C := fun w' => ∃ x : Lay, w' = more w x.os x.k) h1 (segItems segs fin) (Array.replicate l.length false) a w.drew h2 (by
  rw [Array.getD_eq_getD_getElem?, Array.getElem?_replicate]
  split <;> rfl) ⟨⟨[], w.drawn + 1⟩, by rw [← more_drew, more_nil]⟩ (sched_segs h4 segs a w.drew h3 h)
 rw [h5] at this
 simpa using this
end
end Go.Proofs.YthpmncdfaggkiaaGreat
namespace Go.Proofs.YthpmncdfaggkiaaGreat
open Go.RowKit
attribute [local go_sem] more_drew more_drewN more_size more_cell more_frozen more_setCell drew_more drewN_more lt_add_r lt_add_r2 lt_add_r3 lt_add_r4 lt_add_r5 lt_add_r6 lt_add_r7 lt_add_r8 lt_add_r9 lt_add_r10 lt_self_r lt_self_r2
abbrev pt (b : Nat) : Value := .pointer (some ⟨b, 0, none⟩)
theorem OwnI.base {w : World} {base base' : Nat} {A : Option Addr} {c : Nat} {xs : List Int} (h : OwnI w base A c xs) (hb : base' ≤ base) : OwnI w base' A c xs :=
 ⟨h.1, h.2.imp id fun ⟨g, cap, cur, h1, h2, h3⟩ => ⟨g, cap, cur, h1, Nat.le_trans hb h2, h3⟩⟩
end Go.Proofs.YthpmncdfaggkiaaGreat
namespace Go.Proofs.YthpmncdfaggkiaaGreat
open Go.RowKit
section
variable {P : Program}
def onlyN (Q : Act → World → Prop) : Exit → Act → World → Prop
 | .normal, a, w => Q a w
 | _, _, _ => False
theorem no_lets {Q : Act → World → Prop} : ¬ LetsOut (onlyN Q) := fun ⟨_, _, h⟩ => h
theorem wpListIn_of_plain {l0 n : Nat} {ops : Array Oper} {Q : Act → World → Prop} {Q' : Exit → Act → World → Prop} (hQ : ∀ a w, Q a w → Q' .normal a w) : ∀ (l : List Oper) (a : Act) (w : World), noDefer l = true →
 wpList P ops (onlyN Q) l a w → wpListIn (Fence.wide.inRound l0) n P ops Q' l a w
 | [], a, w, _, h => hQ _ _ h
 | o :: l, a, w, hnd, h => by
  unfold noDefer at hnd
  rw [List.all_cons, Bool.and_eq_true] at hnd
  have hno : ∀ c : Call, o.op ≠ Op.defer c := fun c hc => by
   have := hnd.1
   rw [hc] at this
   cases this
  have ih := fun a w => wpListIn_of_plain (l0 := l0) (n := n) (ops := ops) hQ l a w hnd.2
  unfold wpList at h
  unfold wpListIn
  split
  ·rename_i hw
   rw [if_pos hw] at h
   rcases h with h | ⟨_, h⟩
   ·exact opIn_of_plain hno (wp_monoQ (Q' := QN) (fun a w hh => ih a w hh) (fun _ _ _ h => h) (fun h => by first | exact absurd h (no_lets (Q := Q)) | exact absurd h no_letsOut) h)
   ·exact absurd h no_lets
  ·rename_i hw
   rw [if_neg hw] at h
   exact ⟨fun _ _ => trivial, ih _ _ h⟩
theorem onlyN_mk {Q : Act → World → Prop} {a : Act} {w : World} (h : Q a w) : onlyN Q .normal a w := h
end

end Go.Proofs.YthpmncdfaggkiaaGreat
namespace Go.Proofs.YthpmncdfaggkiaaGreat
def LeafK (k : Int) : Prop := k ≠ 1 ∧ k ≠ 2
instance (k : Int) : Decidable (LeafK k) := inferInstanceAs (Decidable (_ ∧ _))
def TokK (k : Int) : Prop := k = 3 ∨ k = 5 ∨ k = 6
instance (k : Int) : Decidable (TokK k) := inferInstanceAs (Decidable (_ ∨ _))
def Bare (p : Nd) : Prop := 1 ≤ p.kind ∧ p.kind ≤ 6 ∧ 0 ≤ p.lo ∧ p.lo ≤ p.hi ∧ p.lo < p.look ∧ (TokK p.kind → p.lo ≤ p.inn ∧ p.inn ≤ p.hi) ∧ (¬ TokK p.kind → p.inn = p.lo) ∧ (p.kind = 4 → p.lo = p.hi) ∧ (LeafK p.kind → p.kids.length = 0)
instance (p : Nd) : Decidable (Bare p) := inferInstanceAs (Decidable (_ ∧ _))
inductive Trek (l : List Nd) : List Int → Nat → Bool → Nat → Prop
 | nil (n : Nat) : Trek l [] n true n
 | bad (k : Int) (ks : List Int) (n : Nat) : (k ≠ (n : Int) ∨ l.length ≤ n) → Trek l (k :: ks) n false n
 | sub (p : Nd) (ks : List Int) (n m : Nat) : l[n]? = some p → Trek l p.kids (n + 1) false m → Trek l ((n : Int) :: ks) n false m
 | cons (p : Nd) (ks : List Int) (n m : Nat) (ok : Bool) (e : Nat) : l[n]? = some p → Trek l p.kids (n + 1) true m → Trek l ks m ok e → Trek l ((n : Int) :: ks) n ok e
theorem lt_of_get {α : Type} {l : List α} {n : Nat} {p : α} (h : l[n]? = some p) : n < l.length := (List.getElem?_eq_some_iff.1 h).1
theorem Trek.le {l : List Nd} {ks : List Int} {n m : Nat} {ok : Bool} (h : Trek l ks n ok m) : n ≤ m ∧ (n ≤ l.length → m ≤ l.length) := by
 induction h with
 | nil n => exact ⟨Nat.le_refl _, id⟩
 | bad k ks n _ => exact ⟨Nat.le_refl _, id⟩
 | sub p ks n m hp _ ih => have := lt_of_get hp; exact ⟨by omega, fun _ => ih.2 (by omega)⟩
 | cons p ks n m ok e hp _ _ ih1 ih2 => have := lt_of_get hp; exact ⟨by omega, fun _ => ih2.2 (ih1.2 (by omega))⟩
theorem trek_all (l : List Nd) : ∀ (d : Nat) (ks : List Int) (n : Nat), l.length - n ≤ d → ∃ ok m, Trek l ks n ok m := by
 intro d
 induction d with
 | zero =>
  intro ks n hd
  cases ks with
  | nil => exact ⟨_, _, .nil n⟩
  | cons k ks => exact ⟨_, _, .bad k ks n (.inr (by omega))⟩
 | succ d ih =>
  intro ks n hd
  cases ks with
  | nil => exact ⟨_, _, .nil n⟩
  | cons k ks =>
   by_cases h : k ≠ (n : Int) ∨ l.length ≤ n
   ·exact ⟨_, _, .bad k ks n h⟩
   ·have hk : k = (n : Int) := Decidable.byContradiction fun hc => h (.inl hc)
    have hn : n < l.length := Nat.lt_of_not_le fun hc => h (.inr hc)
    subst hk
    obtain ⟨p, hp⟩ : ∃ p, l[n]? = some p := ⟨_, List.getElem?_eq_getElem hn⟩
    obtain ⟨ok, m, h1⟩ := ih p.kids (n + 1) (by omega)
    cases ok with
    | false => exact ⟨_, _, .sub p ks n m hp h1⟩
    | true =>
     obtain ⟨ok, e, h2⟩ := ih ks m (by have := h1.le.1; omega)
     exact ⟨_, _, .cons p ks n m ok e hp h1 h2⟩
theorem Trek.det {l : List Nd} {ks : List Int} {n m : Nat} {ok : Bool} (h : Trek l ks n ok m) : ∀ {ok' : Bool} {m' : Nat}, Trek l ks n ok' m' → ok' = ok ∧ m' = m := by
 induction h with
 | nil n => intro ok' m' h'; cases h'; exact ⟨rfl, rfl⟩
 | bad k ks n hb =>
  intro ok' m' h'
  cases h' with
  | bad _ _ _ _ => exact ⟨rfl, rfl⟩
  | sub p _ _ _ hp _ => have := lt_of_get hp; omega
  | cons p _ _ _ _ _ hp _ _ => have := lt_of_get hp; omega
 | sub p ks n m hp h1 ih =>
  intro ok' m' h'
  have hl := lt_of_get hp
  cases h' with
  | bad _ _ _ hb => omega
  | sub p' _ _ _ hp' h1' => rw [hp] at hp'; cases hp'; exact ih h1'
  | cons p' _ _ m1 _ _ hp' h1' _ => rw [hp] at hp'; cases hp'; have := (ih h1').1; cases this
 | cons p ks n m ok e hp h1 h2 ih1 ih2 =>
  intro ok' m' h'
  have hl := lt_of_get hp
  cases h' with
  | bad _ _ _ hb => omega
  | sub p' _ _ _ hp' h1' => rw [hp] at hp'; cases hp'; have := (ih1 h1').1; cases this
  | cons p' _ _ m1 _ _ hp' h1' h2' =>
   rw [hp] at hp'; cases hp'
   obtain ⟨_, rfl⟩ := ih1 h1'
   exact ih2 h2'
theorem Trek.head {l : List Nd} {k : Int} {ks : List Int} {n m : Nat} {ok : Bool} (h : Trek l (k :: ks) n ok m) (hk : k = (n : Int)) {p : Nd} (hp : l[n]? = some p) :
 (ok = false ∧ Trek l p.kids (n + 1) false m) ∨ ∃ m1, Trek l p.kids (n + 1) true m1 ∧ Trek l ks m1 ok m := by
 have hl := lt_of_get hp
 cases h with
 | bad _ _ _ hb => omega
 | sub p' _ _ _ hp' h1' => rw [hp] at hp'; cases hp'; exact .inl ⟨rfl, h1'⟩
 | cons p' _ _ m1 _ _ hp' h1' h2' => rw [hp] at hp'; cases hp'; exact .inr ⟨m1, h1', h2'⟩
theorem Trek.stop {l : List Nd} {k : Int} {ks : List Int} {n m : Nat} {ok : Bool} (h : Trek l (k :: ks) n ok m) (hb : k ≠ (n : Int) ∨ l.length ≤ n) : ok = false ∧ m = n :=
 (Trek.bad k ks n hb).det h
theorem Trek.one {l : List Nd} {n m : Nat} {p : Nd} {ok : Bool} (hp : l[n]? = some p) (h : Trek l p.kids (n + 1) ok m) : Trek l [(n : Int)] n ok m := by
 cases ok with
 | false => exact .sub p _ n m hp h
 | true => exact .cons p _ n m true m hp h (.nil m)
theorem Trek.ofOne {l : List Nd} {n m : Nat} {p : Nd} {ok : Bool} (hp : l[n]? = some p) (h : Trek l [(n : Int)] n ok m) : Trek l p.kids (n + 1) ok m := by
 rcases h.head rfl hp with ⟨rfl, h1⟩ | ⟨m1, h1, h2⟩
 ·exact h1
 ·cases h2; exact h1
theorem kc_add (l : List Nd) {a b c : Nat} (h1 : a ≤ b) (h2 : b ≤ c) : kc l a c = kc l a b + kc l b c := by
 unfold kc
 have : (l.take c).drop a = (l.take b).drop a ++ (l.take c).drop b := by
  have e : l.take b = (l.take c).take b := by rw [List.take_take, Nat.min_eq_left h2]
  rw [e]
  conv => lhs; rw [← List.take_append_drop b (l.take c)]
  rw [List.drop_append]
  by_cases hb : b ≤ (l.take c).length
  ·have : a - ((l.take c).take b).length = 0 := by rw [List.length_take]; omega
   rw [this, List.drop_zero]
  ·have : (l.take c).drop b = [] := List.drop_eq_nil_of_le (by omega)
   rw [this]
   simp
 rw [this, List.map_append, List.sum_append]
theorem kc_one {l : List Nd} {n : Nat} {p : Nd} (hp : l[n]? = some p) : kc l n (n + 1) = p.kids.length := by
 unfold kc
 have hl := lt_of_get hp
 rw [List.take_succ_eq_append_getElem hl, List.drop_append]
 have : (l.take n).drop n = [] := List.drop_eq_nil_of_le (by rw [List.length_take]; omega)
 rw [this]
 have h2 : n - (l.take n).length = 0 := by rw [List.length_take]; omega
 rw [h2]
 have h3 : l[n] = p := by rw [List.getElem?_eq_getElem hl] at hp; injection hp
 simp [h3]
theorem kc_self (l : List Nd) (n : Nat) : kc l n n = 0 := by
 unfold kc
 rw [List.drop_eq_nil_of_le (by rw [List.length_take]; omega)]
 rfl
theorem Trek.count {l : List Nd} {ks : List Int} {n m : Nat} {ok : Bool} (h : Trek l ks n ok m) : (ok = true → kc l n m + ks.length = m - n) ∧ (ok = false → m - n + 1 ≤ kc l n m + ks.length) := by
 induction h with
 | nil n => exact ⟨fun _ => by rw [kc_self]; simp, fun h => by cases h⟩
 | bad k ks n _ => exact ⟨fun h => (by cases h), fun _ => by rw [List.length_cons]; omega⟩
 | sub p ks n m hp h1 ih =>
  refine ⟨fun h => (by cases h), fun _ => ?_⟩
  have := ih.2 rfl
  have hle := h1.le.1
  rw [kc_add l (show n ≤ n + 1 by omega) hle, kc_one hp, List.length_cons]
  omega
 | cons p ks n m ok e hp h1 h2 ih1 ih2 =>
  have a1 := ih1.1 rfl
  have hle := h1.le.1
  have hle2 := h2.le.1
  have hk : kc l n e = p.kids.length + kc l (n + 1) m + kc l m e := by
   rw [kc_add l (show n ≤ n + 1 by omega) (show n + 1 ≤ e by omega), kc_one hp, kc_add l hle hle2]; omega
  rw [hk, List.length_cons]
  exact ⟨fun h => by have := ih2.1 h; omega, fun h => by have := ih2.2 h; omega⟩
theorem Trek.inside {l : List Nd} {ks : List Int} {n e : Nat} {ok : Bool} (h : Trek l ks n ok e) : ok = true → ∀ i, n ≤ i → i < e → ∃ p m, l[i]? = some p ∧ Trek l p.kids (i + 1) true m ∧ m ≤ e := by
 induction h with
 | nil n => intro _ i h1 h2; omega
 | bad k ks n _ => intro h; cases h
 | sub p ks n m hp h1 ih => intro h; cases h
 | cons p ks n m ok e hp h1 h2 ih1 ih2 =>
  intro hok i hi1 hi2
  have hle2 := h2.le.1
  rcases Nat.eq_or_lt_of_le hi1 with rfl | hlt
  ·exact ⟨p, m, hp, h1, hle2⟩
  ·rcases Nat.lt_or_ge i m with hm | hm
   ·obtain ⟨q, m', a, b, c⟩ := ih1 rfl i hlt hm
    exact ⟨q, m', a, b, by omega⟩
   ·exact ih2 hok i hm hi2
theorem Trek.kid {l : List Nd} {ks : List Int} {n e : Nat} {ok : Bool} (h : Trek l ks n ok e) : ok = true → ∀ k ∈ ks, ∃ i : Nat, k = (i : Int) ∧ n ≤ i ∧ i < e := by
 induction h with
 | nil n => intro _ k hk; cases hk
 | bad k ks n _ => intro h; cases h
 | sub p ks n m hp h1 ih => intro h; cases h
 | cons p ks n m ok e hp h1 h2 ih1 ih2 =>
  intro hok k hk
  have hle := h1.le.1
  have hle2 := h2.le.1
  rcases List.mem_cons.1 hk with rfl | hk
  ·exact ⟨n, rfl, Nat.le_refl _, by omega⟩
  ·obtain ⟨i, a, b, c⟩ := ih2 hok k hk
   exact ⟨i, a, by omega, c⟩
theorem Trek.whose {l : List Nd} {ks : List Int} {n e : Nat} {ok : Bool} (h : Trek l ks n ok e) : ok = true → ∀ i : Nat, n ≤ i → i < e → (i : Int) ∈ ks ∨ ∃ j p, n ≤ j ∧ j < i ∧ l[j]? = some p ∧ (i : Int) ∈ p.kids := by
 induction h with
 | nil n => intro _ i h1 h2; omega
 | bad k ks n _ => intro h; cases h
 | sub p ks n m hp h1 ih => intro h; cases h
 | cons p ks n m ok e hp h1 h2 ih1 ih2 =>
  intro hok i hi1 hi2
  have hle := h1.le.1
  rcases Nat.eq_or_lt_of_le hi1 with rfl | hlt
  ·exact .inl (List.mem_cons_self ..)
  ·rcases Nat.lt_or_ge i m with hm | hm
   ·rcases ih1 rfl i hlt hm with hk | ⟨j, q, a, b, c, d⟩
    ·exact .inr ⟨n, p, Nat.le_refl _, hlt, hp, hk⟩
    ·exact .inr ⟨j, q, by omega, b, c, d⟩
   ·rcases ih2 hok i hm hi2 with hk | ⟨j, q, a, b, c, d⟩
    ·exact .inl (List.mem_cons_of_mem _ hk)
    ·exact .inr ⟨j, q, by omega, b, c, d⟩
theorem Trek.first {l : List Nd} {k : Int} {ks : List Int} {n e : Nat} (h : Trek l (k :: ks) n true e) : k = (n : Int) ∧ n < l.length := by
 cases h with
 | cons p _ _ m _ _ hp _ _ => exact ⟨rfl, lt_of_get hp⟩
def liesB (l : List Nd) (hi : Int) : Int → List Int → Bool
 | a, [] => decide (a ≤ hi)
 | a, k :: ks => match l[k.toNat]? with
  | some q => decide (a ≤ q.lo) && liesB l hi q.hi ks
  | none => false
structure Tree (l : List Nd) : Prop where
 bare : ∀ i p, l[i]? = some p → Bare p ∧ (0 < i → p.kind ≠ 1)
 trek : Trek l [0] 0 true l.length
 lies : ∀ p ∈ l, liesB l p.hi p.lo p.kids = true
theorem Tree.pos {l : List Nd} (h : Tree l) : 0 < l.length := h.trek.first.2
open Classical in
noncomputable def checkF (l : List Nd) : Int := if l.length > 524288 then 3 else if Tree l then 0 else 2
theorem Tree.at {l : List Nd} (h : Tree l) {i : Nat} (hi : i < l.length) : ∃ p m, l[i]? = some p ∧ Trek l p.kids (i + 1) true m ∧ m ≤ l.length :=
 h.trek.inside rfl i (Nat.zero_le _) hi
theorem Tree.up {l : List Nd} (h : Tree l) {i : Nat} (h0 : 0 < i) (hi : i < l.length) : ∃ j p, j < i ∧ l[j]? = some p ∧ (i : Int) ∈ p.kids := by
 rcases h.trek.whose rfl i (Nat.zero_le _) hi with hk | ⟨j, p, _, a, b, c⟩
 ·simp at hk; omega
 ·exact ⟨j, p, a, b, c⟩
theorem Trek.once {l : List Nd} {ks : List Int} {n e : Nat} {ok : Bool} (h : Trek l ks n ok e) : ok = true →
 (∀ (i j : Nat) p, n ≤ j → j < e → l[j]? = some p → (i : Int) ∈ p.kids → (i : Int) ∉ ks) ∧
 (∀ (i j j' : Nat) p q, n ≤ j → j < e → n ≤ j' → j' < e → l[j]? = some p → l[j']? = some q → (i : Int) ∈ p.kids → (i : Int) ∈ q.kids → j = j') := by
 induction h with
 | nil n => intro _; exact ⟨fun i j p h1 h2 => by omega, fun i j j' p q h1 h2 => by omega⟩
 | bad k ks n _ => intro h; cases h
 | sub p ks n m hp h1 ih => intro h; cases h
 | cons p ks n m ok e hp h1 h2 ih1 ih2 =>
  intro hok
  subst hok
  have hle := h1.le.1
  have hle2 := h2.le.1
  obtain ⟨a1, a2⟩ := ih1 rfl
  obtain ⟨b1, b2⟩ := ih2 rfl
  -- where the kids of a part of [n, e) lie
  have own : ∀ (i j : Nat) q, n ≤ j → j < e → l[j]? = some q → (i : Int) ∈ q.kids → (j = n ∧ n + 1 ≤ i ∧ i < m) ∨ (n + 1 ≤ j ∧ j < m ∧ n + 1 ≤ i ∧ i < m) ∨ (m ≤ j ∧ m ≤ i ∧ i < e) := by
   intro i j q hj1 hj2 hq hi
   rcases Nat.eq_or_lt_of_le hj1 with rfl | hlt
   ·rw [hp] at hq; cases hq
    obtain ⟨i', e1, e2, e3⟩ := h1.kid rfl _ hi
    exact .inl ⟨rfl, by omega, by omega⟩
   ·rcases Nat.lt_or_ge j m with hm | hm
    ·obtain ⟨q', m', e1, e2, e3⟩ := h1.inside rfl j hlt hm
     rw [hq] at e1; cases e1
     obtain ⟨i', f1, f2, f3⟩ := e2.kid rfl _ hi
     exact .inr (.inl ⟨hlt, hm, by omega, by omega⟩)
    ·obtain ⟨q', m', e1, e2, e3⟩ := h2.inside rfl j hm hj2
     rw [hq] at e1; cases e1
     obtain ⟨i', f1, f2, f3⟩ := e2.kid rfl _ hi
     exact .inr (.inr ⟨hm, by omega, by omega⟩)
  refine ⟨?_, ?_⟩
  ·intro i j q hj1 hj2 hq hi hmem
   rcases List.mem_cons.1 hmem with he | hmem
   ·rcases own i j q hj1 hj2 hq hi with h | h | h <;> omega
   ·obtain ⟨i', f1, f2, f3⟩ := h2.kid rfl _ hmem
    rcases own i j q hj1 hj2 hq hi with h | h | h
    ·omega
    ·omega
    ·exact b1 i j q h.1 hj2 hq hi hmem
  ·intro i j j' q q' hj1 hj2 hj1' hj2' hq hq' hi hi'
   rcases own i j q hj1 hj2 hq hi with h | h | h <;> rcases own i j' q' hj1' hj2' hq' hi' with h' | h' | h'
   ·omega
   ·exfalso
    rw [h.1] at hq
    rw [hp] at hq
    cases hq
    exact a1 i j' q' h'.1 h'.2.1 hq' hi' hi
   ·omega
   ·exfalso
    rw [h'.1] at hq'
    rw [hp] at hq'
    cases hq'
    exact a1 i j q h.1 h.2.1 hq hi hi'
   ·exact a2 i j j' q q' h.1 h.2.1 h'.1 h'.2.1 hq hq' hi hi'
   ·omega
   ·omega
   ·omega
   ·exact b2 i j j' q q' h.1 hj2 h'.1 hj2' hq hq' hi hi'
def Up (l : List Nd) (i j : Nat) : Prop := ∃ p, l[j]? = some p ∧ (i : Int) ∈ p.kids
theorem Tree.up_lt {l : List Nd} (h : Tree l) {i j : Nat} (hu : Up l i j) : j < i ∧ i < l.length := by
 obtain ⟨p, hp, hk⟩ := hu
 obtain ⟨q, m, a, b, c⟩ := h.at (lt_of_get hp)
 rw [hp] at a; cases a
 obtain ⟨i', e1, e2, e3⟩ := b.kid rfl _ hk
 omega
theorem Tree.up_one {l : List Nd} (h : Tree l) {i j j' : Nat} (hu : Up l i j) (hu' : Up l i j') : j = j' := by
 obtain ⟨p, hp, hk⟩ := hu
 obtain ⟨q, hq, hk'⟩ := hu'
 exact (h.trek.once rfl).2 i j j' p q (Nat.zero_le _) (lt_of_get hp) (Nat.zero_le _) (lt_of_get hq) hp hq hk hk'

theorem Tree.kid_behind {l : List Nd} (T : Tree l) {j : Nat} {p : Nd} (hp : l[j]? = some p) : ∀ k ∈ p.kids, ∃ c : Nat, k = (c : Int) ∧ j < c ∧ c < l.length := by
 intro k hk
 obtain ⟨q, m1, a, b, c⟩ := T.at (lt_of_get hp)
 rw [hp] at a
 cases a
 obtain ⟨c', e1, e2, e3⟩ := b.kid rfl k hk
 exact ⟨c', e1, by omega, by omega⟩

def ParOk (l : List Nd) (us : List Int) : Prop := us.length = l.length ∧ us[0]? = some (-1) ∧ ∀ i j : Nat, Up l i j → us[i]? = some (j : Int)
theorem Tree.up' {l : List Nd} (T : Tree l) {i : Nat} (h0 : 0 < i) (hi : i < l.length) : ∃ j, Up l i j ∧ j < i := by
 obtain ⟨j, p, a, b, c⟩ := T.up h0 hi
 exact ⟨j, ⟨p, b, c⟩, a⟩
inductive Way (l : List Nd) : Nat → List Int → Prop
 | root (p : Nd) : l[0]? = some p → Way l 0 [p.sym]
 | step (i j : Nat) (p : Nd) (ws : List Int) : Up l i j → l[i]? = some p → Way l j ws → Way l i (ws ++ [p.sym])
theorem Way.all {l : List Nd} (T : Tree l) : ∀ (n i : Nat), i ≤ n → i < l.length → ∃ ws, Way l i ws := by
 intro n
 induction n with
 | zero =>
  intro i hi hl
  obtain rfl : i = 0 := by omega
  exact ⟨_, .root _ (List.getElem?_eq_getElem hl)⟩
 | succ n ih =>
  intro i hi hl
  rcases Nat.eq_zero_or_pos i with rfl | h0
  ·exact ⟨_, .root _ (List.getElem?_eq_getElem hl)⟩
  ·obtain ⟨j, hu, hj⟩ := T.up' h0 hl
   obtain ⟨ws, hw⟩ := ih j (by omega) (by omega)
   exact ⟨_, .step i j _ ws hu (List.getElem?_eq_getElem hl) hw⟩
theorem Way.ends {l : List Nd} {i : Nat} {ws : List Int} (h : Way l i ws) : ∃ p us, l[i]? = some p ∧ ws = us ++ [p.sym] := by
 cases h with
 | root p hp => exact ⟨p, [], hp, rfl⟩
 | step _ j p us hu hp _ => exact ⟨p, us, hp, rfl⟩
theorem Way.length {l : List Nd} (T : Tree l) {i : Nat} {ws : List Int} (h : Way l i ws) : ws.length ≤ i + 1 := by
 induction h with
 | root p hp => simp
 | step i j p ws hu hp _ ih =>
  have := T.up_lt hu
  rw [List.length_append]
  simp only [List.length_singleton]
  omega
def StaleOk (l : List Nd) (st : List Bool) : Prop := st.length = l.length ∧ ∀ (j : Nat) (p : Nd), l[j]? = some p → st[j]? = some (decide (p.met ≠ 0) || p.kids.any fun k => (st[k.toNat]?).getD false)
theorem any_congr' {ks : List Int} {f g : Int → Bool} (h : ∀ k ∈ ks, f k = g k) : ks.any f = ks.any g := by
 induction ks with
 | nil => rfl
 | cons k ks ih => rw [List.any_cons, List.any_cons, h k (List.mem_cons_self ..), ih fun k hk => h k (List.mem_cons_of_mem _ hk)]
theorem StaleOk.none {l : List Nd} {st : List Bool} (T : Tree l) (h : StaleOk l st) (h0 : ∀ p ∈ l, p.met = 0) : ∀ (j : Nat), j < l.length → st[j]? = some false := by
 have key : ∀ (n j : Nat), l.length - j ≤ n → j < l.length → st[j]? = some false := by
  intro n
  induction n with
  | zero => intro j hj; omega
  | succ n ih =>
   intro j hj hlt
   obtain ⟨p, hp⟩ : ∃ p, l[j]? = some p := ⟨_, List.getElem?_eq_getElem hlt⟩
   rw [h.2 j p hp]
   congr 1
   rw [Bool.or_eq_false_iff]
   refine ⟨decide_eq_false fun hc => hc (h0 p (List.mem_of_getElem? hp)), ?_⟩
   rw [List.any_eq_false]
   intro k hk
   obtain ⟨c, rfl, h1, h2⟩ := T.kid_behind hp k hk
   rw [Int.toNat_natCast, ih c (by omega) h2]
   simp
 exact fun j => key (l.length - j) j (Nat.le_refl _)
def LiesIn (l : List Nd) (n m : Nat) : Prop := ∀ (j : Nat) (q : Nd), n ≤ j → j < m → l[j]? = some q → liesB l q.hi q.lo q.kids = true
theorem LiesIn.split {l : List Nd} {a b c : Nat} (h1 : a ≤ b) (h2 : b ≤ c) : LiesIn l a c ↔ LiesIn l a b ∧ LiesIn l b c := by
 refine ⟨fun h => ⟨fun j q hj hj2 => h j q hj (by omega), fun j q hj hj2 => h j q (by omega) hj2⟩, fun ⟨h, h'⟩ j q hj hj2 hq => ?_⟩
 rcases Nat.lt_or_ge j b with hb | hb
 ·exact h j q hj hb hq
 ·exact h' j q hb hj2 hq
open Classical in
noncomputable def endR (l : List Nd) (n m : Nat) (ok : Bool) (hi at' : Int) (ks : List Int) : Int :=
 if ok = true ∧ LiesIn l n m ∧ liesB l hi at' ks = true then (m : Int) else -1
theorem endR_nil {l : List Nd} {n m : Nat} {ok : Bool} {hi at' : Int} (h : Trek l [] n ok m) : endR l n m ok hi at' [] = if at' ≤ hi then (n : Int) else -1 := by
 cases h
 have h0 : LiesIn l n n := fun j q h1 h2 => by omega
 have h1 : liesB l hi at' [] = decide (at' ≤ hi) := by rw [liesB]
 unfold endR
 by_cases hx : at' ≤ hi
 ·rw [if_pos hx, if_pos ⟨rfl, h0, by rw [h1]; exact decide_eq_true hx⟩]
 ·rw [if_neg hx, if_neg (fun hc => hx (of_decide_eq_true (h1 ▸ hc.2.2)))]
theorem endR_bad {l : List Nd} {n m : Nat} {ok : Bool} {hi at' k : Int} {ks : List Int} (h : Trek l (k :: ks) n ok m) (hb : k ≠ (n : Int) ∨ l.length ≤ n) : endR l n m ok hi at' (k :: ks) = -1 := by
 obtain ⟨rfl, _⟩ := h.stop hb
 unfold endR
 simp
theorem endR_ahead {l : List Nd} {n m : Nat} {ok : Bool} {hi at' : Int} {ks : List Int} {q : Nd} (hq : l[n]? = some q) (hb : q.lo < at') : endR l n m ok hi at' ((n : Int) :: ks) = -1 := by
 unfold endR
 rw [if_neg]
 rintro ⟨_, _, h⟩
 unfold liesB at h
 rw [Int.toNat_natCast, hq] at h
 simp only [Bool.and_eq_true, decide_eq_true_eq] at h
 omega
theorem liesB_cons {l : List Nd} {n : Nat} {q : Nd} {hi at' : Int} {ks : List Int} (hq : l[n]? = some q) (hb : at' ≤ q.lo) : (liesB l hi at' ((n : Int) :: ks) = true) ↔ liesB l hi q.hi ks = true := by
 have : liesB l hi at' ((n : Int) :: ks) = (decide (at' ≤ q.lo) && liesB l hi q.hi ks) := by
  conv => lhs; unfold liesB
  rw [Int.toNat_natCast, hq]
 rw [this]
 simp [hb]
theorem endR_sub_bad {l : List Nd} {n m m' : Nat} {ok ok' : Bool} {hi at' : Int} {ks : List Int} {q : Nd} (hq : l[n]? = some q) (h : Trek l ((n : Int) :: ks) n ok m) (h' : Trek l q.kids (n + 1) ok' m') (he : endR l (n + 1) m' ok' q.hi q.lo q.kids < 0) : endR l n m ok hi at' ((n : Int) :: ks) = -1 := by
 unfold endR at he ⊢
 rw [if_neg]
 rintro ⟨h1, h2, h3⟩
 subst h1
 rw [if_pos] at he
 ·omega
 ·rcases h.head rfl hq with ⟨hf, _⟩ | ⟨m1, t1, t2⟩
  ·cases hf
  ·obtain ⟨rfl, rfl⟩ := t1.det h'
   have l1 := t1.le.1
   have l2 := t2.le.1
   exact ⟨rfl, fun j p hj hj2 => h2 j p (by omega) (by omega), h2 n q (Nat.le_refl _) (by omega) hq⟩
theorem endR_sub_ok {l : List Nd} {n m m' : Nat} {ok ok' : Bool} {hi at' : Int} {ks : List Int} {q : Nd} (hq : l[n]? = some q) (hb : at' ≤ q.lo) (h : Trek l ((n : Int) :: ks) n ok m) (h' : Trek l q.kids (n + 1) ok' m') (he : ¬ endR l (n + 1) m' ok' q.hi q.lo q.kids < 0) :
 endR l (n + 1) m' ok' q.hi q.lo q.kids = (m' : Int) ∧ n < m' ∧ Trek l ks m' ok m ∧ endR l n m ok hi at' ((n : Int) :: ks) = endR l m' m ok hi q.hi ks := by
 have l0 := h'.le.1
 by_cases hc : ok' = true ∧ LiesIn l (n + 1) m' ∧ liesB l q.hi q.lo q.kids = true
 ·have e1 : endR l (n + 1) m' ok' q.hi q.lo q.kids = (m' : Int) := if_pos hc
  obtain ⟨rfl, c2, c3⟩ := hc
  rcases h.head rfl hq with ⟨rfl, t1⟩ | ⟨m1, t1, t2⟩
  ·have := (t1.det h').1; cases this
  ·obtain ⟨_, rfl⟩ := t1.det h'
   refine ⟨e1, by omega, t2, ?_⟩
   have l2 := t2.le.1
   have hin : LiesIn l n m' := fun j p hj hj2 hp => by
    rcases Nat.eq_or_lt_of_le hj with rfl | hlt
    ·rw [hq] at hp; cases hp; exact c3
    ·exact c2 j p hlt hj2 hp
   unfold endR
   have : (ok = true ∧ LiesIn l n m ∧ liesB l hi at' ((n : Int) :: ks) = true) ↔ (ok = true ∧ LiesIn l m' m ∧ liesB l hi q.hi ks = true) := by
    rw [LiesIn.split (by omega : n ≤ m') l2, liesB_cons hq hb]
    exact ⟨fun ⟨a, ⟨_, b⟩, c⟩ => ⟨a, b, c⟩, fun ⟨a, b, c⟩ => ⟨a, ⟨hin, b⟩, c⟩⟩
   by_cases hx : ok = true ∧ LiesIn l m' m ∧ liesB l hi q.hi ks = true
   ·rw [if_pos hx, if_pos (this.2 hx)]
   ·rw [if_neg hx, if_neg (fun hc => hx (this.1 hc))]
 ·exfalso
  apply he
  unfold endR
  rw [if_neg hc]
  omega
theorem tree_iff {l : List Nd} {ok : Bool} {m : Nat} {p : Nd} (hp : l[0]? = some p) (ht : Trek l p.kids 1 ok m) : Tree l ↔ (∀ i q, l[i]? = some q → Bare q ∧ (0 < i → q.kind ≠ 1)) ∧ endR l 1 m ok p.hi p.lo p.kids = (l.length : Int) := by
 have hl := lt_of_get hp
 constructor
 ·intro T
  refine ⟨T.bare, ?_⟩
  have t := Trek.ofOne (n := 0) hp T.trek
  obtain ⟨rfl, rfl⟩ := t.det ht
  unfold endR
  rw [if_pos ⟨rfl, fun j q _ _ hq => T.lies q (List.mem_of_getElem? hq), T.lies p (List.mem_of_getElem? hp)⟩]
 ·rintro ⟨h1, h2⟩
  unfold endR at h2
  split at h2
  ·rename_i hc
   obtain ⟨rfl, c2, c3⟩ := hc
   have hm : m = l.length := by omega
   subst hm
   refine ⟨h1, Trek.one (n := 0) hp ht, fun q hq => ?_⟩
   obtain ⟨j, hj, rfl⟩ := List.getElem_of_mem hq
   rcases Nat.eq_zero_or_pos j with rfl | h0
   ·rw [List.getElem?_eq_getElem hj] at hp
    injection hp with hp
    rw [hp]
    exact c3
   ·exact c2 j _ h0 hj (List.getElem?_eq_getElem hj)
  ·omega
end Go.Proofs.YthpmncdfaggkiaaGreat
namespace Go.Proofs.YthpmncdfaggkiaaGreat
open Go.RowKit
def I64 (x : Int) : Prop := -9223372036854775808 ≤ x ∧ x ≤ 9223372036854775807
structure PrtOk (w : World) (p : Prt) : Prop where
 kids : Ints w p.kA p.nd.kids
 cap : p.nd.kids.length ≤ p.kc
 top : p.kc ≤ 9223372036854775807
 none : p.kA = none → p.kc = 0
 sym : I64 p.nd.sym
 kind : I64 p.nd.kind
 lo : I64 p.nd.lo
 inn : I64 p.nd.inn
 hi : I64 p.nd.hi
 look : I64 p.nd.look
 met : 0 ≤ p.nd.met ∧ p.nd.met ≤ 18446744073709551615
 ks : ∀ k ∈ p.nd.kids, I64 k
def Prts (w : World) (A : Option Addr) (ps : List Prt) : Prop :=
 0 < ps.length → ∃ b off, A = some ⟨b, off, none⟩ ∧ b < w.heap.size ∧ ∀ k p, ps[k]? = some p →
  w.cell? ⟨b, off + k * 8, none⟩ = some (.int .i64 p.nd.sym) ∧ w.cell? ⟨b, off + k * 8 + 1, none⟩ = some (.int .i64 p.nd.kind) ∧
  w.cell? ⟨b, off + k * 8 + 2, none⟩ = some (.int .i64 p.nd.lo) ∧ w.cell? ⟨b, off + k * 8 + 3, none⟩ = some (.int .i64 p.nd.inn) ∧
  w.cell? ⟨b, off + k * 8 + 4, none⟩ = some (.int .i64 p.nd.hi) ∧ w.cell? ⟨b, off + k * 8 + 5, none⟩ = some (.int .i64 p.nd.look) ∧
  w.cell? ⟨b, off + k * 8 + 6, none⟩ = some (.slice p.kA p.nd.kids.length p.kc) ∧ w.cell? ⟨b, off + k * 8 + 7, none⟩ = some (.int .u64 p.nd.met)
def PrtsOk (w : World) (ps : List Prt) : Prop := ∀ p ∈ ps, PrtOk w p
def nds (ps : List Prt) : List Nd := ps.map (·.nd)
theorem nds_get {ps : List Prt} {k : Nat} {p : Prt} (h : ps[k]? = some p) : (nds ps)[k]? = some p.nd := by unfold nds; rw [List.getElem?_map, h]; rfl
theorem nds_get' {ps : List Prt} {k : Nat} {q : Nd} (h : (nds ps)[k]? = some q) : ∃ p, ps[k]? = some p ∧ p.nd = q := by
 unfold nds at h
 rw [List.getElem?_map] at h
 cases hp : ps[k]? with
 | none => rw [hp] at h; cases h
 | some p => rw [hp] at h; exact ⟨p, rfl, by injection h⟩
theorem nds_length (ps : List Prt) : (nds ps).length = ps.length := by unfold nds; rw [List.length_map]
theorem Prts.nil {w : World} {A : Option Addr} : Prts w A [] := fun h => by simp at h
theorem Prts.below {w w' : World} {A : Option Addr} {ps : List Prt} (h : Prts w A ps) (e : Below w.heap.size w w') : Prts w' A ps := fun h0 => by
 obtain ⟨b, off, hA, hb, hc⟩ := h h0
 refine ⟨b, off, hA, by have := e.size; omega, fun j p hj => ?_⟩
 obtain ⟨a0, a1, a2, a3, a4, a5, a6, a7⟩ := hc j p hj
 exact ⟨(e.cell (p := ⟨b, off + j * 8, .none⟩) hb).trans a0, (e.cell (p := ⟨b, off + j * 8 + 1, .none⟩) hb).trans a1, (e.cell (p := ⟨b, off + j * 8 + 2, .none⟩) hb).trans a2, (e.cell (p := ⟨b, off + j * 8 + 3, .none⟩) hb).trans a3,
  (e.cell (p := ⟨b, off + j * 8 + 4, .none⟩) hb).trans a4, (e.cell (p := ⟨b, off + j * 8 + 5, .none⟩) hb).trans a5, (e.cell (p := ⟨b, off + j * 8 + 6, .none⟩) hb).trans a6, (e.cell (p := ⟨b, off + j * 8 + 7, .none⟩) hb).trans a7⟩
theorem Prts.ext {w w' : World} {A : Option Addr} {ps : List Prt} (h : Prts w A ps) (e : Ext w w') : Prts w' A ps := h.below e.below
theorem PrtOk.below {w w' : World} {p : Prt} (h : PrtOk w p) (e : Below w.heap.size w w') : PrtOk w' p := ⟨h.kids.below e, h.cap, h.top, h.none, h.sym, h.kind, h.lo, h.inn, h.hi, h.look, h.met, h.ks⟩
theorem PrtOk.ext {w w' : World} {p : Prt} (h : PrtOk w p) (e : Ext w w') : PrtOk w' p := h.below e.below
theorem PrtsOk.ext {w w' : World} {ps : List Prt} (h : PrtsOk w ps) (e : Ext w w') : PrtsOk w' ps := fun p hp => (h p hp).ext e
theorem PrtsOk.below {w w' : World} {ps : List Prt} (h : PrtsOk w ps) (e : Below w.heap.size w w') : PrtsOk w' ps := fun p hp => (h p hp).below e
theorem PrtsOk.get {w : World} {ps : List Prt} (h : PrtsOk w ps) {k : Nat} {p : Prt} (hp : ps[k]? = some p) : PrtOk w p := h p (List.mem_of_getElem? hp)
end Go.Proofs.YthpmncdfaggkiaaGreat
namespace Go.Proofs.YthpmncdfaggkiaaGreat
end Go.Proofs.YthpmncdfaggkiaaGreat
namespace Go.Proofs.YthpmncdfaggkiaaGreat
open Go.RowKit
attribute [local go_sem] more_drew more_drewN more_size more_cell more_frozen more_setCell drew_more drewN_more lt_add_r lt_add_r2 lt_add_r3 lt_add_r4 lt_add_r5 lt_add_r6 lt_self_r lt_self_r2
theorem leaf_any (k : Int) (w : World) : Calls Tryz.prog 169 #[.int .i64 k] w fun e w' => e = .returned (.bool (decide (LeafK k))) ∧ w = w' := by
 have H : decide (LeafK k) = ((k != 1) && (k != 2)) := by
  rw [Bool.eq_iff_iff, decide_eq_true_iff]
  unfold LeafK
  simp
 replace H := zh H
 go_enter Tryz.func169, Tryz.ntmps169
 go_wp2
 all_goals go_ret
 all_goals exact ⟨ret_bool (by rw [H.out] <;> simp [*]), rfl⟩
theorem token_any (k : Int) (w : World) : Calls Tryz.prog 168 #[.int .i64 k] w fun e w' => e = .returned (.bool (decide (TokK k))) ∧ w = w' := by
 have H : decide (TokK k) = (((k == 3) || (k == 5)) || (k == 6)) := by
  rw [Bool.eq_iff_iff, decide_eq_true_iff]
  unfold TokK
  simp [or_assoc]
 replace H := zh H
 go_enter Tryz.func168, Tryz.ntmps168
 go_wp2
 all_goals go_ret
 all_goals exact ⟨ret_bool (by rw [H.out] <;> simp [*]), rfl⟩
theorem leafR_any (k : Int) (w : World) : Calls Tryz.prog 91 #[.int .i64 k] w fun e w' => e = .returned (.bool (decide (LeafK k))) ∧ w = w' := by
 have H : decide (LeafK k) = ((k != 1) && (k != 2)) := by
  rw [Bool.eq_iff_iff, decide_eq_true_iff]
  unfold LeafK
  simp
 replace H := zh H
 go_enter Tryz.func91, Tryz.ntmps91
 go_wp2
 all_goals go_ret
 all_goals exact ⟨ret_bool (by rw [H.out] <;> simp [*]), rfl⟩
abbrev aggV (p : Prt) : Value := .agg #[.int .i64 p.nd.sym, .int .i64 p.nd.kind, .int .i64 p.nd.lo, .int .i64 p.nd.inn, .int .i64 p.nd.hi, .int .i64 p.nd.look, .slice p.kA p.nd.kids.length p.kc, .int .u64 p.nd.met]
set_option maxHeartbeats 1000000 in
theorem bare_any (p : Prt) (w : World) : Calls Tryz.prog 121 #[aggV p] w fun e w' => e = .returned (.bool (decide (Bare p.nd))) ∧ Ext w w' := by
 obtain ⟨⟨sym, kind, lo, inn, hi, look, kids, met⟩, kA, kc⟩ := p
 go_enter Tryz.func121, Tryz.ntmps121
 go_wp2_with (first | (go_at_call 168; refine (token_any _ _).mono ?_; rintro e w' ⟨rfl, rfl⟩) | (go_at_call 169; refine (leaf_any _ _).mono ?_; rintro e w' ⟨rfl, rfl⟩) | go_in)
 all_goals go_ret
 all_goals refine ⟨ret_bool ?_, (Ext.refl _).alloc _⟩
 all_goals (rw [Bool.eq_iff_iff, decide_eq_true_iff])
 all_goals grind [Bare, TokK, LeafK]
end Go.Proofs.YthpmncdfaggkiaaGreat
namespace Go.Proofs.YthpmncdfaggkiaaGreat
open Go.RowKit
attribute [local go_sem] more_drew more_drewN more_size more_cell more_frozen more_setCell drew_more drewN_more lt_add_r lt_add_r2 lt_add_r3 lt_add_r4 lt_add_r5 lt_add_r6 lt_add_r7 lt_add_r8 lt_add_r9 lt_add_r10 lt_self_r lt_self_r2
def KidsIn (n : Nat) (ks : List Int) : Prop := ∀ k ∈ ks, ∃ j : Nat, k = (j : Int) ∧ j < n
set_option maxRecDepth 100000 in
set_option maxHeartbeats 1000000 in
theorem lies_any (A : Option Addr) (c : Nat) (ps : List Prt) (p : Prt) (w : World) (hP : Prts w A ps) (hl : ps.length ≤ 9223372036854775807) (hp : PrtOk w p) (hk : KidsIn ps.length p.nd.kids) :
 Calls Tryz.prog 124 #[.slice A ps.length c, aggV p] w fun e w' => e = .returned (.bool (liesB (nds ps) p.nd.hi p.nd.lo p.nd.kids)) ∧ Ext w w' := by
 have HK := zh hk
 have HP := zh hP
 have HKI := zh hp.kids
 have hc1 := hp.cap
 have hc2 := hp.top
 clear hk hP hp
 obtain ⟨⟨sym, kind, lo, inn, hi, look, kids, met⟩, kA, kc⟩ := p
 dsimp only at *
 go_enter Tryz.func124, Tryz.ntmps124
 go_wp2
 go_loop [5, 13] (fun a i => ∃ (j : Nat) (x : Int), j ≤ kids.length ∧ a = .int .i64 x ∧ i = .int .i64 j ∧ Hid (liesB (nds ps) hi lo kids = liesB (nds ps) hi x (kids.drop j))) (fun _ i => kids.length - (intOf i).toNat)
 case atStart => exact ⟨0, lo, Nat.zero_le _, rfl, rfl, zh rfl⟩
 case round =>
  obtain ⟨j, x, hj, rfl, rfl, he⟩ := hrel
  by_cases hlt : j < kids.length
  ·obtain ⟨b, off, rfl, hb, hcell⟩ := HKI.out (by omega)
   have c1 := hcell j hlt
   obtain ⟨i, hi1, hi2⟩ := HK.out (kids.getD j 0) (by rw [List.getD_eq_getElem?_getD, List.getElem?_eq_getElem hlt]; exact List.getElem_mem hlt)
   rw [hi1] at c1
   obtain ⟨q, hq⟩ : ∃ q, ps[i]? = some q := ⟨_, List.getElem?_eq_getElem hi2⟩
   obtain ⟨b2, off2, rfl, hb2, hcell2⟩ := HP.out (by omega)
   obtain ⟨_, _, d2, _, d4, _⟩ := hcell2 i q hq
   have HS : Hid (liesB (nds ps) hi x (kids.drop j) = (decide (x ≤ q.nd.lo) && liesB (nds ps) hi q.nd.hi (kids.drop (j + 1)))) := by
    rw [List.drop_eq_getElem_cons hlt]
    have e : kids[j] = (i : Int) := by rw [← hi1, List.getD_eq_getElem?_getD, List.getElem?_eq_getElem hlt]; rfl
    rw [e]
    simp only [liesB, Int.toNat_natCast]
    rw [nds_get hq]
    exact zh rfl
   have hbs : b ≠ w.heap.size := by omega
   have hbs2 : b2 ≠ w.heap.size := by omega
   clear hcell hcell2 hi1 hq
   by_cases hx : x ≤ q.nd.lo
   ·go_wp2
    go_round
    case rel => exact ⟨j + 1, q.nd.hi, by omega, rfl, by go_num, zh (by rw [he.out, HS.out, decide_eq_true hx, Bool.true_and])⟩
    case measure => simp [intOf]; omega
   ·go_wp2
    go_ret
    exact ⟨ret_bool (by rw [he.out, HS.out, decide_eq_false (by omega), Bool.false_and]), (by repeat first | exact xr _ | refine xa ?_ _ | refine xm ?_ _ _ | refine xd ?_ | refine xn ?_ _ | refine xs ?_ (by simp <;> omega) _)⟩
  ·obtain rfl : j = kids.length := by omega
   go_wp2
   go_ret
   exact ⟨ret_bool (by rw [he.out, List.drop_eq_nil_of_le (Nat.le_refl _)]; rfl), (by repeat first | exact xr _ | refine xa ?_ _ | refine xm ?_ _ _ | refine xd ?_ | refine xn ?_ _ | refine xs ?_ (by simp <;> omega) _)⟩
attribute [local go_sem] Oper.semAt_some
structure Dn where
 w0 : World
 A : Option Addr
 c : Nat
 ps : List Prt
 B : Nat
 bl : Nat
 bY : Nat
 bd : Nat
 nx : Nat
 lY : Nat
 S : Nat → Prop
 J : Nat → World → Prop
 Jx : Nat → World → Prop
def Dn.Fix (D : Dn) (W : World) : Prop :=
 Below D.w0.heap.size D.w0 W ∧ W.heap[D.bl]? = some (.cells #[.slice D.A D.ps.length D.c] 22) ∧ W.heap[D.bY]? = some (.cells #[.func (.yield D.lY) #[] #[]] 84) ∧
 W.heap[D.bd]? = some (.cells #[.func (.func 167) #[] #[pt D.nx, pt D.bl, pt D.bY, pt D.bd]] 84) ∧ D.B ≤ W.heap.size
structure Dn.Ok (D : Dn) : Prop where
 parts : Prts D.w0 D.A D.ps
 oks : PrtsOk D.w0 D.ps
 len : D.ps.length ≤ 1000000
 w0 : D.w0.heap.size ≤ D.B
 bl : D.w0.heap.size ≤ D.bl ∧ D.bl < D.B ∧ ¬ D.S D.bl
 bY : D.B ≤ D.bY
 bd : D.B ≤ D.bd
 nx : D.B ≤ D.nx ∧ D.nx ≠ D.bY ∧ D.nx ≠ D.bd
 free : ∀ b, b < D.w0.heap.size → ¬ D.S b
 hJ : ∀ j W W', Below D.B W W' → D.J j W → D.J j W'
 hJx : ∀ j W W', Below D.B W W' → D.Jx j W → D.Jx j W'
theorem Dn.Fix.turn {D : Dn} (O : D.Ok) {W W' : World} (h : D.Fix W) (t : Turn (fun b => (D.S b ∧ b < D.B) ∨ b = D.nx) W W') : D.Fix W' := by
 obtain ⟨h1, h2, h3, h4, h5⟩ := h
 have ob := O.bl
 have oy := O.bY
 have od := O.bd
 have on := O.nx
 have o0 := O.w0
 refine ⟨h1.trans (t.below h1.size fun k hk => ?_), (t.block _ (lt_of_heap h2) ?_).trans h2, (t.block _ (lt_of_heap h3) ?_).trans h3, (t.block _ (lt_of_heap h4) ?_).trans h4, Nat.le_trans h5 t.size⟩
 ·rcases hk with hk | hk
  ·exact Nat.le_of_not_lt fun hlt => O.free k hlt hk.1
  ·omega
 ·rintro (hk | hk)
  ·exact ob.2.2 hk.1
  ·omega
 ·rintro (hk | hk) <;> omega
 ·rintro (hk | hk) <;> omega
def Dn.Nx (D : Dn) (n : Nat) (W : World) : Prop := W.heap[D.nx]? = some (.cells #[.int .i64 (n : Int)] 3)
def Dn.Post (D : Dn) (ok : Bool) (m : Nat) (e : Ending) (W' : World) : Prop :=
 D.Fix W' ∧ ((e = .returned (.bool ok) ∧ D.Nx m W' ∧ D.J m W') ∨ (e = .returned (.bool false) ∧ ∃ j, j ≤ m ∧ D.Jx j W'))
def encI (x : Int) : Array Value := #[.int .i64 x]
theorem Trek.uncons {l : List Nd} {k : Int} {ks : List Int} {n m : Nat} {ok : Bool} (h : Trek l (k :: ks) n ok m) : (ok = false ∧ Trek l [k] n false m) ∨ ∃ m1, Trek l [k] n true m1 ∧ Trek l ks m1 ok m := by
 cases h with
 | bad _ _ _ hb => exact .inl ⟨rfl, .bad k [] n hb⟩
 | sub p _ _ _ hp h1 => exact .inl ⟨rfl, .sub p [] n m hp h1⟩
 | cons p _ _ m1 _ _ hp h1 h2 => exact .inr ⟨m1, .cons p [] n m1 true m1 hp h1 (.nil m1), h2⟩
set_option maxRecDepth 100000 in
set_option maxHeartbeats 3000000 in
theorem down_stop (D : Dn) (n : Nat) (at_ : Int) (ok : Bool) (m : Nat) (W : World) (_ : n ≤ 1000000) (_ : D.ps.length ≤ 1000000) (hs : at_ ≠ (n : Int) ∨ D.ps.length ≤ n) (ht : Trek (nds D.ps) [at_] n ok m) (hF : D.Fix W) (hN : D.Nx n W) (hJ : D.J n W) :
 Calls Tryz.prog 167 #[.int .i64 at_, pt D.nx, pt D.bl, pt D.bY, pt D.bd] W (D.Post ok m) := by
 obtain ⟨rfl, hmn⟩ := ht.stop (by rw [nds_length]; exact hs)
 obtain rfl : n = m := hmn.symm
 obtain ⟨f1, f2, f3, f4, f5⟩ := hF
 have c1 := cell_of_row _ _ 0 _ _ _ f2
 have c4 := cell_of_row _ _ 0 _ _ _ hN
 simp at c1 c4
 have l1 := lt_of_heap f2
 have l4 := lt_of_heap hN
 have HF : Hid (D.Fix W) := ⟨f1, f2, f3, f4, f5⟩
 have HN := zh hN
 have HJ := zh hJ
 clear hN hJ ht f1 f2 f3 f4
 by_cases ha : at_ = (n : Int)
 ·subst ha
  have hle : D.ps.length ≤ n := by omega
  clear hs
  go_enter Tryz.func167, Tryz.ntmps167
  go_wp2_with fail
  go_ret
  exact ⟨HF.out, .inl ⟨rfl, HN.out, HJ.out⟩⟩
 ·have ha1 : (at_ != (n : Int)) = true := by simpa using ha
  clear hs
  go_enter Tryz.func167, Tryz.ntmps167
  go_wp2_with fail
  go_ret
  exact ⟨HF.out, .inl ⟨rfl, HN.out, HJ.out⟩⟩
set_option maxRecDepth 100000 in
set_option maxHeartbeats 3000000 in
theorem down_any (D : Dn) (O : D.Ok) (M : Nat)
 (hY : ∀ (j : Nat) (W : World), j < M → D.B ≤ W.heap.size → D.J j W → YieldAt Fence.wide 0 Tryz.prog D.lY (encI (j : Int)) W fun e W' =>
   (e = .returned (.bool true) ∧ D.J (j + 1) W' ∧ Turn (fun b => D.S b ∧ b < D.B) W W') ∨ (e = .returned (.bool false) ∧ D.Jx (j + 1) W' ∧ Turn (fun b => D.S b ∧ b < D.B) W W')) :
 ∀ (fuel n : Nat) (at_ : Int) (ok : Bool) (m : Nat) (W : World), D.ps.length - n ≤ fuel → n ≤ 1000000 → m ≤ M → Trek (nds D.ps) [at_] n ok m → D.Fix W → D.Nx n W → D.J n W →
  Calls Tryz.prog 167 #[.int .i64 at_, pt D.nx, pt D.bl, pt D.bY, pt D.bd] W (D.Post ok m) := by
 intro fuel
 induction fuel with
 | zero =>
  intro n at_ ok m W hf hn hm ht hF hN hJ
  exact down_stop D n at_ ok m W hn O.len (.inr (by omega)) ht hF hN hJ
 | succ fuel ih =>
  intro n at_ ok m W hf hn hm ht hF hN hJ
  by_cases hs : at_ ≠ (n : Int) ∨ D.ps.length ≤ n
  ·exact down_stop D n at_ ok m W hn O.len hs ht hF hN hJ
  obtain rfl : at_ = (n : Int) := Decidable.byContradiction fun hc => hs (.inl hc)
  have hlt : n < D.ps.length := Nat.lt_of_not_le fun hc => hs (.inr hc)
  obtain ⟨⟨qn, kA, kcap⟩, hq⟩ : ∃ q, D.ps[n]? = some q := ⟨_, List.getElem?_eq_getElem hlt⟩
  have hdec : decide (D.ps.length ≤ n) = false := decide_eq_false (by omega)
  have ht2 := Trek.ofOne (nds_get hq) ht
  have hnm := ht2.le.1
  have hF0 := hF
  obtain ⟨f1, f2, f3, f4, f5⟩ := hF
  have c1 := cell_of_row _ _ 0 _ _ _ f2
  have c2 := cell_of_row _ _ 0 _ _ _ f3
  have c4 := cell_of_row _ _ 0 _ _ _ hN
  simp at c1 c2 c4
  have l1 := lt_of_heap f2
  have l2 := lt_of_heap f3
  have l4 := lt_of_heap hN
  obtain ⟨fn, tmps, assign, body, hy, hRound⟩ := hY n W (by omega) f5 hJ
  unfold encI at hy
  have HF := zh hF0
  have HN := zh hN
  have HT := zh ht2
  have HO := zh O
  have IH := zh ih
  have HR := zh hRound
  have HQ := zh hq
  have hlen := O.len
  clear hN hJ ht ht2 O hY ih f1 f2 f3 f4 hs hRound hF0 hq
  go_enter Tryz.func167, Tryz.ntmps167
  go_upto_region 1 with fail
  refine (wpIn_wide (n := 1)).1 ?_
  gi_wp2
  refine HR.out.mono ?_
  rintro e w8 (⟨rfl, hJ8, t8⟩ | ⟨rfl, hJ8, t8⟩)
  ·have t8' : Turn (fun b => (D.S b ∧ b < D.B) ∨ b = D.nx) W w8 := t8.mono fun k _ hk => .inl hk
   have h8 := HF.out.turn HO.out t8'
   have n8 : D.Nx n w8 := (t8.block _ l4 (fun hk => by have := HO.out.nx; omega)).trans HN.out
   have a4 := cell_of_row _ _ 0 _ _ _ n8
   have a1 := cell_of_row _ _ 0 _ _ _ h8.2.1
   simp at a1 a4
   have a5 : w8.frozen? ⟨D.nx, 0, none⟩ = false := by simp [World.frozen?, show w8.heap[D.nx]? = _ from n8]
   have a6 := lt_of_heap n8
   have a7 := lt_of_heap h8.2.1
   have hbn : D.bl ≠ D.nx := by have := HO.out.nx; have := HO.out.bl; omega
   obtain ⟨b, off, hA, hb, hcell⟩ := (HO.out.parts.below h8.1) (by omega)
   have hbw : b < D.w0.heap.size := by
    obtain ⟨b', off', hA', hb', _⟩ := HO.out.parts (by omega)
    rw [hA] at hA'
    injection hA' with hA'
    injection hA' with hA'
    omega
   have hbx : b ≠ D.nx := by have := HO.out.nx; have := HO.out.w0; omega
   obtain ⟨_, _, _, _, _, _, d6, _⟩ := hcell n _ HQ.out
   have hA1 := hA
   rw [hA] at a1
   obtain ⟨w9, hw9⟩ : ∃ w9, w8.setCell ⟨D.nx, 0, none⟩ (.int .i64 ((n : Int) + 1)) = w9 := ⟨_, rfl⟩
   have T9 : Turn (fun b => (D.S b ∧ b < D.B) ∨ b = D.nx) w8 w9 := hw9 ▸ Turn.setCell (S := fun b => (D.S b ∧ b < D.B) ∨ b = D.nx) w8 (p := ⟨D.nx, 0, none⟩) (.inr rfl) _
   have F9 := zh (h8.turn HO.out T9)
   have N9 : Hid (D.Nx (n + 1) w9) := by
    rw [← hw9]
    show (World.heap _)[D.nx]? = _
    simp [World.setCell, Array.getElem?_modify, show w8.heap[D.nx]? = _ from n8]
   have J9 : Hid (D.J (n + 1) w9) := HO.out.hJ _ _ _ (by
    rw [← hw9]
    exact (Turn.setCell (S := fun b => b = D.nx) w8 (p := ⟨D.nx, 0, none⟩) rfl _).below h8.2.2.2.2 (fun k hk => by have := HO.out.nx; omega)) hJ8
   clear t8 t8' hy HR hcell h8 n8 hJ8 T9
   have KO := zh (HO.out.oks.get HQ.out)
   have kc1 : qn.kids.length ≤ kcap := KO.out.cap
   have kc2 : kcap ≤ 9223372036854775807 := KO.out.top
   have HW9 := zh hw9
   clear hw9
   gi_wp2
   go_wp2_with fail
   rw [HW9.out]
   clear HW9 a4 a5 a6 a7 c1 c2 c4 l1 l2 l4 f5 hA hA1 d6
   go_loopg [32] qn.kids.length (fun g s32 wr => ∃ j n2 : Nat, j ≤ qn.kids.length ∧ Hid (g = qn.kids.length - j) ∧ s32 = .int .i64 j ∧ n < n2 ∧ n2 ≤ D.ps.length ∧ Hid (D.Fix wr ∧ D.Nx n2 wr ∧ D.J n2 wr ∧ Trek (nds D.ps) (qn.kids.drop j) n2 ok m))
   case atStart => exact ⟨0, n + 1, Nat.zero_le _, zh rfl, rfl, by omega, by omega, zh ⟨F9.out, N9.out, J9.out, HT.out⟩⟩
   case round =>
    obtain ⟨j, n2, hj, hg, rfl, hn2, hn3, hH⟩ := hrel
    by_cases hjl : j < qn.kids.length
    ·obtain ⟨k1, k2, k3, k4⟩ := hH.out
     obtain ⟨b, off, hA, hb, hcell⟩ := ((KO.out.below k1.1)).kids (by show 0 < qn.kids.length; omega)
     change kA = _ at hA
     subst hA
     have d1 := hcell j hjl
     generalize hkd : qn.kids.getD j 0 = kid at *
     have hk4 : Trek (nds D.ps) (kid :: qn.kids.drop (j + 1)) n2 ok m := by
      rw [List.drop_eq_getElem_cons hjl] at k4
      have e : qn.kids[j] = kid := by rw [← hkd, List.getD_eq_getElem?_getD, List.getElem?_eq_getElem hjl]; rfl
      rw [e] at k4
      exact k4
     have g3 := cell_of_row _ _ 0 _ _ _ k1.2.2.2.1
     simp at g3
     have g4 := lt_of_heap k1.2.2.2.1
     obtain ⟨ok2, m2, hm2, hT2⟩ : ∃ ok2 m2, m2 ≤ M ∧ Trek (nds D.ps) [kid] n2 ok2 m2 ∧ m2 ≤ m ∧ ((ok2 = false ∧ ok = false ∧ m2 = m) ∨ (ok2 = true ∧ Trek (nds D.ps) (qn.kids.drop (j + 1)) m2 ok m)) := by
      rcases hk4.uncons with ⟨rfl, h⟩ | ⟨m1, h1, h2⟩
      ·exact ⟨false, m, hm, h, Nat.le_refl _, .inl ⟨rfl, rfl, rfl⟩⟩
      ·have := h2.le.1
       exact ⟨true, m1, by omega, h1, this, .inr ⟨rfl, h2⟩⟩
     have CALL := zh (IH.out n2 kid ok2 m2 wr (by omega) (by omega) hm2 hT2.1 k1 k2 k3)
     have HT2 := zh hT2
     have hn4 : n2 ≤ m2 := hT2.1.le.1
     have hn5 : m2 ≤ D.ps.length := by have := hT2.1.le.2 (by rw [nds_length]; omega); rwa [nds_length] at this
     clear hcell hkd k1 k2 k3 k4 hk4 hT2 hH
     go_wp2_with fail
     refine CALL.out.mono ?_
     rintro e w3 ⟨f3, (⟨rfl, n3, j3⟩ | ⟨rfl, jx, x1, x2⟩)⟩
     ·obtain ⟨h1, h2, (⟨rfl, rfl, rfl⟩ | ⟨rfl, h3⟩)⟩ := HT2.out
      ·go_wp2_with fail
       go_ret
       exact ⟨f3, .inl ⟨rfl, n3, j3⟩⟩
      ·have HH : Hid (D.Fix w3 ∧ D.Nx m2 w3 ∧ D.J m2 w3 ∧ Trek (nds D.ps) (qn.kids.drop (j + 1)) m2 ok m) := ⟨f3, n3, j3, h3⟩
       clear f3 n3 j3 h3 h1 HT2 CALL g3
       go_wp2_with fail
       go_roundg (qn.kids.length - (j + 1))
       case measure => have := hg.out; omega
       case rel => exact ⟨j + 1, m2, by omega, zh rfl, by go_num, by omega, by omega, HH⟩
     ·go_wp2_with fail
      go_ret
      exact ⟨f3, .inr ⟨rfl, jx, by have := HT2.out.2.1; omega, x2⟩⟩
    ·obtain rfl : j = qn.kids.length := by omega
     obtain ⟨k1, k2, k3, k4⟩ := hH.out
     rw [List.drop_eq_nil_of_le (Nat.le_refl _)] at k4
     cases k4
     go_wp2_with fail
     go_ret
     exact ⟨k1, .inl ⟨rfl, k2, k3⟩⟩
  ·have t8' : Turn (fun b => (D.S b ∧ b < D.B) ∨ b = D.nx) W w8 := t8.mono fun k _ hk => .inl hk
   have h8 := HF.out.turn HO.out t8'
   clear t8 t8' hy HR
   gi_wp2
   go_wp2_with fail
   go_ret
   exact ⟨h8, .inr ⟨rfl, n + 1, by omega, hJ8⟩⟩
end Go.Proofs.YthpmncdfaggkiaaGreat
namespace Go.Proofs.YthpmncdfaggkiaaGreat
open Go.RowKit
attribute [local go_sem] more_drew more_drewN more_size more_cell more_frozen more_setCell drew_more drewN_more lt_add_r lt_add_r2 lt_add_r3 lt_add_r4 lt_add_r5 lt_add_r6 lt_add_r7 lt_add_r8 lt_add_r9 lt_add_r10 lt_self_r lt_self_r2
attribute [local go_sem] Oper.semAt_some
def places (M : Nat) : List Int := (List.range M).map fun (n : Nat) => (n : Int)
theorem places_get {M j : Nat} {x : Int} (h : (places M)[j]? = some x) : x = (j : Int) ∧ j < M := by
 unfold places at h
 rw [List.getElem?_map] at h
 cases hj : (List.range M)[j]? with
 | none => rw [hj] at h; cases h
 | some k =>
  rw [hj] at h
  injection h with h
  obtain ⟨h1, h2⟩ := List.getElem?_eq_some_iff.1 hj
  rw [List.getElem_range] at h2
  rw [List.length_range] at h1
  subst h2
  exact ⟨h.symm, h1⟩
theorem places_at {M j : Nat} (h : j < M) : (places M)[j]? = some (j : Int) := by
 unfold places
 rw [List.getElem?_map, List.getElem?_range h]
 rfl
theorem places_length (M : Nat) : (places M).length = M := by
 unfold places
 rw [List.length_map, List.length_range]
theorem walk_make (A : Option Addr) (n c : Nat) (w : World) :
 Calls Tryz.prog 120 #[.slice A n c, .int .i64 0] w fun e w' => e = .returned (.func (.func 166) #[] #[pt (w.heap.size + 1), pt w.heap.size]) ∧
  w' = (w.alloc (.cells #[.slice A n c] 22)).alloc (.cells #[.int .i64 0] 3) := by
 go_enter Tryz.func120, Tryz.ntmps120
 go_wp2_with fail
 go_ret
 exact ⟨rfl, rfl⟩
set_option maxRecDepth 100000 in
set_option maxHeartbeats 3000000 in
theorem walk_iter (A : Option Addr) (c : Nat) (ps : List Prt) (w0 w1 : World) (lb ib : Nat) (S : Nat → Prop) (ok : Bool) (M : Nat) (hP : Prts w0 A ps) (hO : PrtsOk w0 ps) (hlen : ps.length ≤ 1000000)
 (h0 : Below w0.heap.size w0 w1) (hlb : w1.heap[lb]? = some (.cells #[.slice A ps.length c] 22)) (hl0 : w0.heap.size ≤ lb) (hlS : ¬ S lb) (hib : w1.heap[ib]? = some (.cells #[.int .i64 0] 3))
 (hfree : ∀ b, b < w0.heap.size → ¬ S b) (ht : Trek (nds ps) [0] 0 ok M) : IterB Tryz.prog 166 #[pt ib, pt lb] encI (places M) S w1 := by
 intro l J Jx hJ hJx hY hJ0
 obtain ⟨D, hD⟩ : ∃ D : Dn, D = { w0, A, c, ps, B := w1.heap.size, bl := lb, bY := w1.heap.size, bd := w1.heap.size + 1 + 1, nx := w1.heap.size + 1, lY := l, S, J, Jx } := ⟨_, rfl⟩
 have hlbl := lt_of_heap hlb
 have hibl := lt_of_heap hib
 have c1 := cell_of_row _ _ 0 _ _ _ hib
 simp at c1
 have O : Hid D.Ok := by
  subst hD
  exact ⟨hP, hO, hlen, h0.size, ⟨hl0, hlbl, hlS⟩, Nat.le_refl _, by show w1.heap.size ≤ w1.heap.size + 1 + 1; omega, by show w1.heap.size ≤ w1.heap.size + 1 ∧ w1.heap.size + 1 ≠ w1.heap.size ∧ w1.heap.size + 1 ≠ w1.heap.size + 1 + 1; omega, hfree, hJ, hJx⟩
 have HY : Hid (∀ (j : Nat) (W : World), j < M → D.B ≤ W.heap.size → D.J j W → YieldAt Fence.wide 0 Tryz.prog D.lY (encI (j : Int)) W fun e W' =>
  (e = .returned (.bool true) ∧ D.J (j + 1) W' ∧ Turn (fun b => D.S b ∧ b < D.B) W W') ∨ (e = .returned (.bool false) ∧ D.Jx (j + 1) W' ∧ Turn (fun b => D.S b ∧ b < D.B) W W')) := by
  subst hD
  exact fun j W hj hB hJj => hY j _ W (places_at hj) hB hJj
 have HD := zh hD
 have HJ0 := zh hJ0
 have H0 := zh h0
 have HT := zh ht
 have HLB := zh hlb
 have HJ := zh hJ
 clear hD hY hJ0 h0 hJ hJx ht hlb hfree hP hO
 simp only [List.append_toArray, List.cons_append, List.nil_append]
 go_enter Tryz.func166, Tryz.ntmps166
 go_wp2_with fail
 obtain rfl := HD.out
 obtain ⟨W4, hW4⟩ : ∃ W4, ((w1.alloc (.cells #[.func (.yield l) #[] #[]] 84)).alloc (.cells #[.int .i64 0] 3)).alloc (.cells #[.func (.func 167) #[] #[pt (w1.heap.size + 1), pt lb, pt w1.heap.size, pt (w1.heap.size + 1 + 1)]] 84) = W4 := ⟨_, rfl⟩
 have x4 : Ext w1 W4 := hW4 ▸ (by repeat first | exact xr _ | refine xa ?_ _ | refine xm ?_ _ _ | refine xd ?_ | refine xn ?_ _ | refine xs ?_ (by simp <;> omega) _)
 have s4 : W4.heap.size = w1.heap.size + 3 := by rw [← hW4]; simp
 have g1 : W4.heap[w1.heap.size]? = some (.cells #[.func (.yield l) #[] #[]] 84) := by
  rw [← hW4]
  exact ext_block (heap_alloc_new w1 _) (by repeat first | exact xr _ | refine xa ?_ _ | refine xm ?_ _ _ | refine xd ?_ | refine xn ?_ _ | refine xs ?_ (by simp <;> omega) _)
 have g2 : W4.heap[w1.heap.size + 1]? = some (.cells #[.int .i64 0] 3) := by
  rw [← hW4]
  have := heap_alloc_new (w1.alloc (.cells #[.func (.yield l) #[] #[]] 84)) (.cells #[.int .i64 0] 3)
  rw [World.size_alloc] at this
  exact ext_block this (by repeat first | exact xr _ | refine xa ?_ _ | refine xm ?_ _ _ | refine xd ?_ | refine xn ?_ _ | refine xs ?_ (by simp <;> omega) _)
 have g3 : W4.heap[w1.heap.size + 1 + 1]? = some (.cells #[.func (.func 167) #[] #[pt (w1.heap.size + 1), pt lb, pt w1.heap.size, pt (w1.heap.size + 1 + 1)]] 84) := by
  rw [← hW4]
  have := heap_alloc_new ((w1.alloc (.cells #[.func (.yield l) #[] #[]] 84)).alloc (.cells #[.int .i64 0] 3)) (.cells #[.func (.func 167) #[] #[pt (w1.heap.size + 1), pt lb, pt w1.heap.size, pt (w1.heap.size + 1 + 1)]] 84)
  rw [World.size_alloc, World.size_alloc] at this
  exact this
 rw [hW4]
 refine (down_any _ O.out M HY.out ps.length 0 0 ok M W4 (by show ps.length - 0 ≤ _; omega) (by omega) (Nat.le_refl _) HT.out ⟨H0.out.trans (x4.below.mono H0.out.size), ext_block HLB.out x4, g1, g3, by show w1.heap.size ≤ _; omega⟩ g2 (HJ.out 0 _ _ x4.below HJ0.out)).mono ?_
 rintro e w5 ⟨f5, hp⟩
 have hsz : w1.heap.size ≤ w5.heap.size := f5.2.2.2.2
 rcases hp with ⟨rfl, _, j5⟩ | ⟨rfl, j, hj, j5⟩
 ·go_wp2_with fail
  go_end0
  exact ⟨⟨_, rfl⟩, hsz, .inl (by rw [places_length]; exact j5)⟩
 ·go_wp2_with fail
  go_end0
  exact ⟨⟨_, rfl⟩, hsz, .inr ⟨j, by rw [places_length]; exact hj, j5⟩⟩
end Go.Proofs.YthpmncdfaggkiaaGreat
namespace Go.Proofs.YthpmncdfaggkiaaGreat
open Go.RowKit
attribute [local go_sem] more_drew more_drewN more_size more_cell more_frozen more_setCell drew_more drewN_more lt_add_r lt_add_r2 lt_add_r3 lt_add_r4 lt_add_r5 lt_add_r6 lt_add_r7 lt_add_r8 lt_add_r9 lt_add_r10 lt_self_r lt_self_r2
def firstF {α : Type} (f : α → Bool) : Nat → List α → Int
 | _, [] => -1
 | k, p :: l => if f p then (k : Int) else firstF f (k + 1) l
theorem firstF_any {α : Type} (f : α → Bool) : ∀ (l : List α) (k : Nat), decide (0 ≤ firstF f k l) = l.any f
 | [], k => rfl
 | p :: l, k => by
  unfold firstF
  rw [List.any_cons]
  split
  ·rename_i h; rw [h]; simp
  ·rename_i h; rw [firstF_any f l (k + 1)]; simp [h]
theorem firstF_bd {α : Type} (f : α → Bool) : ∀ (l : List α) (k : Nat), -1 ≤ firstF f k l ∧ firstF f k l < (k : Int) + l.length + 1
 | [], k => by unfold firstF; simp only [List.length_nil]; omega
 | p :: l, k => by
  unfold firstF
  have := firstF_bd f l (k + 1)
  rw [List.length_cons]
  split <;> omega
set_option maxRecDepth 100000 in
set_option maxHeartbeats 1000000 in
theorem idxParts (F : Nat) (lb : Array Value) (f : Prt → Bool) (A : Option Addr) (c : Nat) (ps : List Prt) (w : World) (hP : Prts w A ps) (hl : ps.length ≤ 9223372036854775807) (eg : Enters Tryz.prog F)
 (hf : ∀ (wr : World) (p : Prt), Ext w wr → p ∈ ps → Calls Tryz.prog F (#[aggV p] ++ lb) wr fun e w' => e = .returned (.bool (f p)) ∧ Ext wr w') :
 Calls Tryz.prog 170 #[.slice A ps.length c, .func (.func F) #[] lb] w fun e w' => e = .returned (.int .i64 (firstF f 0 ps)) ∧ Ext w w' := by
 have HP := zh hP
 have HF := zh hf
 unfold Enters at eg
 clear hP hf
 go_enter Tryz.func170, Tryz.ntmps170
 go_wp2
 go_loopw [8] (fun i wr => ∃ j : Nat, j ≤ ps.length ∧ i = .int .i64 j ∧ Hid (firstF f 0 ps = firstF f j (ps.drop j)) ∧ Ext w wr) (fun i _ => ps.length - (intOf i).toNat)
 case atStart => exact ⟨0, Nat.zero_le _, rfl, zh rfl, (by repeat first | exact xr _ | refine xa ?_ _ | refine xm ?_ _ _ | refine xd ?_ | refine xn ?_ _ | refine xs ?_ (by simp <;> omega) _)⟩
 case round =>
  obtain ⟨j, hj, rfl, he, hx⟩ := hrel
  by_cases hlt : j < ps.length
  ·obtain ⟨p, hp⟩ : ∃ p, ps[j]? = some p := ⟨_, List.getElem?_eq_getElem hlt⟩
   obtain ⟨b, off, rfl, hb, hcell⟩ := (HP.out.ext hx) (by omega)
   obtain ⟨d0, d1, d2, d3, d4, d5, d6, d7⟩ := hcell j p hp
   have CF := zh (HF.out wr p hx (List.mem_of_getElem? hp))
   have HS : Hid (firstF f j (ps.drop j) = if f p then (j : Int) else firstF f (j + 1) (ps.drop (j + 1))) := by
    rw [List.drop_eq_getElem_cons hlt]
    rw [List.getElem?_eq_getElem hlt] at hp
    injection hp with hp
    rw [hp]
    exact zh rfl
   have HX := zh hx
   clear hcell hp hx
   go_wp2_with fail
   refine CF.out.mono ?_
   rintro e w2 ⟨rfl, hx2⟩
   have HX2 := zh (HX.out.trans hx2)
   clear hx2
   cases hfp : f p with
   | true =>
    rw [hfp] at HS
    have HS' := zh HS.out
    clear hfp HS
    go_wp2_with fail
    go_ret
    exact ⟨ret_int (by rw [he.out, HS'.out]; rfl), HX2.out⟩
   | false =>
    rw [hfp] at HS
    have HS' := zh HS.out
    clear hfp HS
    go_wp2_with fail
    go_roundw
    case rel => exact ⟨j + 1, by omega, by go_num, zh (by rw [he.out, HS'.out]; rfl), HX2.out⟩
    case measure => simp [intOf]; omega
  ·obtain rfl : j = ps.length := by omega
   have HX := zh hx
   clear hx
   go_wp2_with fail
   go_ret
   exact ⟨ret_int (by rw [he.out, List.drop_eq_nil_of_le (Nat.le_refl _)]; rfl), HX.out⟩
theorem hasParts (F : Nat) (lb : Array Value) (f : Prt → Bool) (A : Option Addr) (c : Nat) (ps : List Prt) (w : World) (hP : Prts w A ps) (hl : ps.length ≤ 9223372036854775000) (eg : Enters Tryz.prog F)
 (hf : ∀ (wr : World) (p : Prt), Ext w wr → p ∈ ps → Calls Tryz.prog F (#[aggV p] ++ lb) wr fun e w' => e = .returned (.bool (f p)) ∧ Ext wr w') :
 Calls Tryz.prog 122 #[.slice A ps.length c, .func (.func F) #[] lb] w fun e w' => e = .returned (.bool (ps.any f)) ∧ Ext w w' := by
 have CF := zh (idxParts F lb f A c ps w hP (by omega) eg hf)
 have HB := firstF_bd f ps 0
 have HA := zh (firstF_any f ps 0)
 clear hP hf eg
 go_enter Tryz.func122, Tryz.ntmps122
 go_wp2_with fail
 refine CF.out.mono ?_
 rintro e w2 ⟨rfl, hx2⟩
 have HX2 := zh hx2
 clear hx2
 go_wp2_with fail
 go_ret
 exact ⟨ret_bool HA.out, HX2.out⟩
end Go.Proofs.YthpmncdfaggkiaaGreat
