/- Ranging over a function whose iterator turns blocks of its own between what it tells: the caller's rounds may make rows that last. No program is named here. -/
import Derived.Test.YtmgpofdmfmeljaaTr
namespace Go.Proofs.Ytmgpofdmfmeljaa
open Go.RowKit

/-- K: the blocks that are the caller's to turn. S: which of them there may be as the iterator begins. R: what the iterator may read whenever it goes on. -/
def IterK {α : Type} (P : Program) (gf : FuncId) (lb : Array Value) (encs : α → Array Value) (xs : List α) (S : Nat → Prop) (R : Nat → World → Prop) (w1 : World) : Prop :=
  ∀ (l : Nat) (J : Nat → (Nat → Prop) → World → Prop) (Jx : Nat → World → Prop) (K0 : Nat → Prop), S l → l < w1.heap.size → (∀ b, K0 b → S b ∧ b < w1.heap.size) →
    (∀ j K W W', Turn (fun b => w1.heap.size ≤ b ∧ ¬ K b) W W' → J j K W → J j K W') → (∀ j K W, J j K W → ∀ b, K b → b < W.heap.size) → (∀ j W W', Ext W W' → Jx j W → Jx j W') → (∀ j K W, J j K W → R j W) →
    (∀ j x K W, xs[j]? = some x → w1.heap.size ≤ W.heap.size → J j K W → YieldAt Fence.wide 0 P l (encs x) W fun e W' =>
      Turn (fun b => K b ∨ b = l) W W' ∧ ((e = .returned (.bool true) ∧ ∃ K', (∀ b, K' b → K b ∨ W.heap.size ≤ b) ∧ J (j + 1) K' W') ∨ (e = .returned (.bool false) ∧ Jx (j + 1) W'))) →
    J 0 K0 w1 →
    Calls P gf (#[.func (.yield l) #[] #[]] ++ lb) w1 fun e W' => (∃ v, e = .returned v) ∧ w1.heap.size ≤ W'.heap.size ∧ ((∃ K, J xs.length K W') ∨ ∃ j, j ≤ xs.length ∧ Jx j W')

/-- what a round's body comes to -/
def bodyK (K : Nat → Prop) (N : Nat) (W : World) (I : (Nat → Prop) → World → Prop) (Ix : Code → World → Prop) : Exit → Act → World → Prop
  | .normal, _, W' => Turn (fun b => K b ∨ N ≤ b) W W' ∧ ∃ K', (∀ b, K' b → K b ∨ N ≤ b) ∧ I K' W'
  | .ret, _, W' => Turn (fun b => K b ∨ N ≤ b) W W' ∧ Ix .ret W'
  | .exit id, _, W' => Turn (fun b => K b ∨ N ≤ b) W W' ∧ Ix (.exit id) W'
  | .goto t, _, W' => Turn (fun b => K b ∨ N ≤ b) W W' ∧ Ix (.goto t) W'
  | .panic _, _, _ => False
  | .outgrown, _, _ => False
theorem ext_blk {w w' : World} {b : Nat} {o : Obj} (h : w.heap[b]? = some o) (e : Ext w w') : w'.heap[b]? = some o := (e.below.block _ (lt_of_heap h)).trans h
variable {P : Program}
theorem wp_rangeK {α : Type} {g : Operand} {ps : Array Tmp} {assign body : Code} {Q : Exit → Act → World → Prop} {a : Act} {w : World} {gf : Nat} {lb : Array Value}
    (hg : a.eval g = .func (.func gf) #[] lb) (eg : ∀ args w, (callFunc gf args).run P w = .ok (.enter gf args) w)
    {encs : α → Array Value} (hps : ∀ x, (encs x).size = ps.size) {xs : List α} {S : Nat → Prop} {R : Nat → World → Prop} (hSl : S (w.heap.size + 1))
    (hseq : ∀ w1, Ext w w1 → w1.heap.size = w.heap.size + 2 → IterK P gf lb encs xs S R w1)
    (I : Nat → (Nat → Prop) → World → Prop) (Ix : Code → Nat → World → Prop) (K0 : Nat → Prop) (hK0 : ∀ b, K0 b → S b ∧ b < w.heap.size)
    (hI : ∀ j K W W', Turn (fun b => (b = w.heap.size ∨ b = w.heap.size + 1) ∨ (w.heap.size + 2 ≤ b ∧ ¬ K b)) W W' → w.heap.size + 2 ≤ W.heap.size → I j K W → I j K W') (hKb : ∀ j K W, I j K W → ∀ b, K b → b < W.heap.size)
    (hIx : ∀ c j W W', Turn (fun b => b = w.heap.size ∨ b = w.heap.size + 1) W W' → w.heap.size + 2 ≤ W.heap.size → Ix c j W → Ix c j W')
    (hKn : ∀ j K W, I j K W → ¬ K w.heap.size ∧ ¬ K (w.heap.size + 1)) (hR : ∀ j K W, I j K W → R j W) (h0 : ∀ W, Ext w W → I 0 K0 W)
    (hround : ∀ (l j : Nat) (x : α) (K : Nat → Prop) (W : World), xs[j]? = some x → I j K W → w.heap.size + 2 ≤ W.heap.size →
      assign.wpIn (Fence.wide.inRound l) 0 P (Exit.then (fun a₁ W₁ => Ext W W₁ ∧ ∀ W₂, Turn (fun b => b = w.heap.size ∨ b = w.heap.size + 1) W₁ W₂ → I j K W₂ → W.heap.size ≤ W₂.heap.size →
          body.wpIn (Fence.wide.inRound l) 0 P (bodyK K W.heap.size W₂ (I (j + 1)) (fun c => Ix c (j + 1))) a₁ W₂) (fun _ _ _ => False))
        { tmps := (ps.zip (encs x)).foldl (fun t (p, v) => t.setIfInBounds p v) a.tmps, defers := [] } W)
    (hdone : ∀ (K : Nat → Prop) (W : World), I xs.length K W → w.heap.size + 2 ≤ W.heap.size → W.heap[w.heap.size]? = some (.deferred (some [])) → Q .normal { a with defers := { target := .collected w.heap.size, args := #[] } :: a.defers } W)
    (hstop : ∀ (c : Code) (j : Nat) (W : World), j ≤ xs.length → Ix c j W → w.heap.size + 2 ≤ W.heap.size → W.heap[w.heap.size]? = some (.deferred (some [])) → c.wp P Q { a with defers := { target := .collected w.heap.size, args := #[] } :: a.defers } W) :
    (Code.rangeFunc g ps assign body).wp P Q a w := by
  refine (wpIn_wide (n := 1)).1 (wpIn_rangeFunc ?_)
  intro fn hfn
  obtain ⟨rec, hrec⟩ : ∃ rec : LoopState → Option Code → Loop, rec = fun st pe => { state := st, pending := pe, fn, tmps := a.tmps, params := ps, assign, body, defers := w.heap.size } := ⟨_, rfl⟩
  obtain ⟨W1, hW1⟩ : ∃ W1, (w.alloc (.deferred (some []))).alloc (.loop (rec .ready none)) = W1 := ⟨_, rfl⟩
  have hL1 : W1.heap[w.heap.size + 1]? = some (.loop (rec .ready none)) := by
    rw [← hW1]; have := World.alloc_heap_new (w.alloc (.deferred (some []))) (.loop (rec .ready none)); rwa [World.size_alloc] at this
  have hK1 : W1.heap[w.heap.size]? = some (.deferred (some [])) := by
    rw [← hW1]; exact (Below.heap_alloc _ _ _ (by simp)).trans (World.alloc_heap_new w _)
  have hE1 : Ext w W1 := by rw [← hW1]; exact ((Ext.refl w).alloc _).alloc _
  have hs1 : W1.heap.size = w.heap.size + 2 := by rw [← hW1]; simp
  obtain ⟨n0, hn0⟩ : ∃ n0, w.heap.size = n0 := ⟨_, rfl⟩
  rw [hn0] at hSl hseq hI hIx hKn hround hdone hstop hL1 hK1 hs1 hK0
  have hI2 : ∀ j K W W', Turn (fun b => b = n0 ∨ b = n0 + 1) W W' → n0 + 2 ≤ W.heap.size → I j K W → I j K W' := fun j K W W' t hs h => hI j K W W' (t.mono fun k _ hk => .inl hk) hs h
  have hI1 : I 0 K0 W1 := h0 _ hE1
  refine ⟨n0 + 1, [{ target := .collected n0, args := #[] }], W1, { target := .fn (.func gf) lb, args := #[.func (.yield (n0 + 1)) #[] #[]] }, W1, gf,
    #[.func (.yield (n0 + 1)) #[] #[]] ++ lb, W1, ?_, ?_, ?_, ?_, (fun h => by cases h), ?_⟩
  · rw [← hW1, hrec, ← hn0]; exact run_enterLoop_outer _ _ _ _ _
  · simp only [resolve, hg]
    simp [go_sem]
  · intro f' hf'; trivial
  · simp [invoke, go_sem, eg]
  · refine callsIn_wide.2 ((hseq W1 hE1 hs1 (n0 + 1)
      (fun j K W => I j K W ∧ W.heap[n0 + 1]? = some (.loop (rec .ready none)) ∧ W.heap[n0]? = some (.deferred (some [])))
      (fun j W => ∃ c, Ix c j W ∧ W.heap[n0 + 1]? = some (.loop (rec .done (some c))) ∧ W.heap[n0]? = some (.deferred (some [])))
      K0 hSl (by omega) (fun b hb => ⟨(hK0 b hb).1, by have := (hK0 b hb).2; omega⟩) ?_ (fun j K W h => hKb j K W h.1) ?_ (fun j K W h => hR j K W h.1) ?_ ⟨hI1, hL1, hK1⟩).mono ?_)
    · rintro j K A B hb ⟨h1, h2, h3⟩
      exact ⟨hI _ _ _ _ (hb.mono fun k _ hk => .inr ⟨by omega, hk.2⟩) (by have := lt_of_heap h2; omega) h1, (hb.block _ (lt_of_heap h2) (fun h => by omega)).trans h2, (hb.block _ (lt_of_heap h3) (fun h => by omega)).trans h3⟩
    · rintro j A B hb ⟨c, h1, h2, h3⟩
      exact ⟨c, hIx _ _ _ _ (Turn.of_ext hb) (by have := lt_of_heap h2; omega) h1, ext_blk h2 hb, ext_blk h3 hb⟩
    · rintro j x K W hx hsz ⟨hi, hl, hk⟩
      have hlt : n0 + 1 < W.heap.size := lt_of_heap hl
      have hy := run_yield (P := P) (args := encs x) hl (by rw [hrec]; exact hps x)
      rw [hrec] at hy
      have hKK := hKn _ _ _ hi
      refine ⟨fn, _, assign, body, hy, roundIn_of_wpIn hfn (wpIn_mono (hround _ j x K W hx hi (by omega)) ?_)⟩
      rintro e a₁ W₂ hp
      cases e with
      | normal =>
        obtain ⟨hE2, hbody⟩ := hp
        have hl2 : W₂.heap[n0 + 1]? = some (.loop (rec .ready none)) := ext_blk hl hE2
        have hk2 : W₂.heap[n0]? = some (.deferred (some [])) := ext_blk hk hE2
        have hlt2 := lt_of_heap hl2
        refine ⟨_, run_beginRound hl2 (by rw [hrec]), ?_⟩
        have hl3 : (W₂.putObj (n0 + 1) (.loop { rec .ready none with state := .busy })).heap[n0 + 1]? = some (.loop { rec .ready none with state := .busy }) := World.putObj_heap_same hlt2
        have hk3 : (W₂.putObj (n0 + 1) (.loop { rec .ready none with state := .busy })).heap[n0]? = some (.deferred (some [])) := (World.putObj_heap_other (by omega)).trans hk2
        have hT3 : Turn (fun b => b = n0 ∨ b = n0 + 1) W₂ (W₂.putObj (n0 + 1) (.loop { rec .ready none with state := .busy })) := putObj_turn _ _ (.inr rfl)
        have hI3 : I j K (W₂.putObj (n0 + 1) (.loop { rec .ready none with state := .busy })) := hI2 _ _ _ _ ((Turn.of_ext hE2).trans hT3) (by omega) hi
        have hsz3 : W.heap.size ≤ (W₂.putObj (n0 + 1) (.loop { rec .ready none with state := .busy })).heap.size := by
          have := hE2.size
          simp
          exact this
        refine wpIn_mono (hbody _ hT3 hI3 hsz3) ?_
        have fin : ∀ (jump : Option Code) (W3 : World), Turn (fun b => K b ∨ W.heap.size ≤ b) (W₂.putObj (n0 + 1) (.loop { rec .ready none with state := .busy })) W3 →
            (Instr.endRound (n0 + 1) jump).run P W3 = .ok (.bool jump.isNone) (W3.putObj (n0 + 1) (.loop (rec (if jump.isNone then .ready else .done) jump))) ∧
            (W3.putObj (n0 + 1) (.loop (rec (if jump.isNone then .ready else .done) jump))).heap[n0 + 1]? = some (.loop (rec (if jump.isNone then .ready else .done) jump)) ∧
            (W3.putObj (n0 + 1) (.loop (rec (if jump.isNone then .ready else .done) jump))).heap[n0]? = some (.deferred (some [])) ∧
            Turn (fun b => b = n0 ∨ b = n0 + 1) W3 (W3.putObj (n0 + 1) (.loop (rec (if jump.isNone then .ready else .done) jump))) ∧ n0 + 2 ≤ W3.heap.size ∧
            Turn (fun b => K b ∨ b = n0 + 1) W (W3.putObj (n0 + 1) (.loop (rec (if jump.isNone then .ready else .done) jump))) := fun jump W3 hk4 => by
          have hl4 := (hk4.block _ (lt_of_heap hl3) (fun h => h.elim hKK.2 (fun h => by omega))).trans hl3
          have hr := run_endRound (P := P) jump hl4
          have hlt4 := lt_of_heap hl4
          have hr2 : (Instr.endRound (n0 + 1) jump).run P W3 = .ok (.bool jump.isNone) (W3.putObj (n0 + 1) (.loop (rec (if jump.isNone then .ready else .done) jump))) := by
            rw [hrec] at hr ⊢
            exact hr
          refine ⟨hr2, World.putObj_heap_same hlt4, (World.putObj_heap_other (by omega)).trans ((hk4.block _ (lt_of_heap hk3) (fun h => h.elim hKK.1 (fun h => by omega))).trans hk3), putObj_turn _ _ (.inr rfl), by omega, ?_⟩
          have t1 : Turn (fun b => K b ∨ b = n0 + 1) W W₂ := Turn.of_ext hE2
          have t2 : Turn (fun b => K b ∨ b = n0 + 1) W (W₂.putObj (n0 + 1) (.loop { rec .ready none with state := .busy })) := t1.trans (putObj_turn _ _ (.inr rfl))
          exact (t2.andThen (S'' := fun b => K b ∨ b = n0 + 1) hk4 (fun k _ hS => hS) (fun k hk hS => hS.elim (fun hS => .inl hS) (fun hS => absurd hk (Nat.not_lt.2 hS)))).trans (putObj_turn _ _ (.inr rfl))
        rintro e a3 W3 hp
        cases e with
        | normal =>
          obtain ⟨ht, K', hK', hi3⟩ := hp
          obtain ⟨hr, hl4, hk4, hb4, hs4, ht4⟩ := fin none W3 ht
          exact ⟨_, _, hr, ht4, .inl ⟨rfl, K', hK', hI2 _ _ _ _ hb4 hs4 hi3, hl4, hk4⟩⟩
        | ret =>
          obtain ⟨ht, hi3⟩ := hp
          obtain ⟨hr, hl4, hk4, hb4, hs4, ht4⟩ := fin (some (.ret)) W3 ht
          exact ⟨_, _, hr, ht4, .inr ⟨rfl, .ret, hIx _ _ _ _ hb4 hs4 hi3, hl4, hk4⟩⟩
        | exit id =>
          obtain ⟨ht, hi3⟩ := hp
          obtain ⟨hr, hl4, hk4, hb4, hs4, ht4⟩ := fin (some (.exit id)) W3 ht
          exact ⟨_, _, hr, ht4, .inr ⟨rfl, .exit id, hIx _ _ _ _ hb4 hs4 hi3, hl4, hk4⟩⟩
        | goto t =>
          obtain ⟨ht, hi3⟩ := hp
          obtain ⟨hr, hl4, hk4, hb4, hs4, ht4⟩ := fin (some (.goto t)) W3 ht
          exact ⟨_, _, hr, ht4, .inr ⟨rfl, .goto t, hIx _ _ _ _ hb4 hs4 hi3, hl4, hk4⟩⟩
        | panic ch => exact hp.elim
        | outgrown => exact hp.elim
      | exit id => exact hp.elim
      | goto l => exact hp.elim
      | ret => exact hp.elim
      | panic ch => exact hp.elim
      | outgrown => exact hp.elim
    · rintro e W2 ⟨⟨v, rfl⟩, hsz, (⟨K, hi, hl, hk⟩ | ⟨j, hj, c, hi, hl, hk⟩)⟩
      · have hlt := lt_of_heap hl
        have hend := run_endLoop (P := P) hl (by rw [hrec]; simp)
        have hp : (rec .ready none).pending = none := by rw [hrec]
        rw [hp] at hend
        exact ⟨none, _, hend, hdone K _ (hI2 _ _ _ _ (putObj_turn _ _ (.inr rfl)) (by omega) hi) (by simp; omega) ((World.putObj_heap_other (by omega)).trans hk)⟩
      · have hlt := lt_of_heap hl
        have hend := run_endLoop (P := P) hl (by rw [hrec]; simp)
        have hp : (rec .done (some c)).pending = some c := by rw [hrec]
        rw [hp] at hend
        exact ⟨some c, _, hend, wpIn_wide.2 (hstop c j _ hj (hIx _ _ _ _ (putObj_turn _ _ (.inr rfl)) (by omega) hi) (by simp; omega) ((World.putObj_heap_other (by omega)).trans hk))⟩
end Go.Proofs.Ytmgpofdmfmeljaa
