/- TgTargetNames: texts that the proof rests on, part 1. -/
import Derived.Test.YthpmncdfaggkiaaGreatCr1
import Derived.Test.YthpmncdfaggkiaaGreatCr10
import Derived.Test.YthpmncdfaggkiaaGreatCr11
import Derived.Test.YthpmncdfaggkiaaGreatCr2
import Derived.Test.YthpmncdfaggkiaaGreatCr3
import Derived.Test.YthpmncdfaggkiaaGreatCr5
import Derived.Test.YthpmncdfaggkiaaGreatCr6
import Derived.Test.YthpmncdfaggkiaaGreatCr7
import Derived.Test.YthpmncdfaggkiaaGreatCr8
import Derived.Test.YthpmncdfaggkiaaGreatCr9
import Derived.Test.YthpmncdfaggkiaaGreatTg1
import Derived.Test.YthpmncdfaggkiaaGreatTg2
import Derived.Maps.AppendAt
import Derived.Deep.AppendLies
import Derived.RegionTactic
import Derived.OwnWalk
import Derived.Laws.OwnMore
import Derived.RangeFuncNested
import Derived.RangeFuncBound
import Derived.RangeFuncCalls
import Derived.RangeFuncLeaves
import Derived.RangeFuncRecord
import Derived.RangeFuncIn
import Derived.Sort.QuietThIn
import Derived.Orders
import Derived.Deep.Quiet
import Derived.WalkKit
import Derived.Handy
import Derived.Deep.Draws
import Derived.BigQuiet
import Derived.Lib.Hide
import Derived.Test.YthpmncdfaggkiaaGreatChecked
import Derived.WalkSpells
import Derived.WalkLawsBesides
import Derived.BigRegion
import Derived.Deep.RegionWith
import Derived.Deep.QuietTactic
import Derived.Deep.DeepCutAuto
import Derived.Deep.RegionHeld3
import Derived.Deep.RegionLaw
import Derived.Deep.OwnRows
import Derived.OwnWalkIn
import Derived.TacticsInMore
import Derived.LoopNIn
import Derived.LoopIn
import Derived.Deep.LoopGhost
import Derived.Laws.EntriesVeiled
import Derived.Test.YthpmncdfaggkiaaGreatRows
import Derived.Shelf.Abstract
import Derived.Lib.AppendZeros
import Derived.WalkMore
import Derived.Laws.BitsAllLaws
import Derived.Laws.Closers25b
import Derived.Laws.Strings
import Derived.Laws.MakeOwn
import Derived.Lib.SlicesS
import Derived.Laws.StructEq
import Derived.Maps.OwnOps
import Derived.Maps.OwnSet
import Derived.Maps.Views
import Derived.Laws.BytesArg
import Derived.Lib.SmallJoins
import Derived.Deep.Slices
import Derived.Deep.Fields
import Derived.ChangeSame
import Derived.ProofKit
import Derived.OpenShut
import Derived.SizedLaws
namespace Go.Proofs.YthpmncdfaggkiaaGreat
open Go.RowKit

variable {P : Program}
section
variable {P : Program} {ops : Array Oper} {md : Region.Mode} {C : World → Prop}
theorem ready_getD_false' {listed : Array Bool} {j : Nat} (hj : j ∈ Region.ready md ops listed) : j < listed.size ∧ listed.getD j false = false := by
  have h := (mem_ready.1 hj).1
  rcases Nat.lt_or_ge j listed.size with hlt | hge
  · refine ⟨hlt, ?_⟩
    simp [hlt] at h ⊢
    exact h
  · simp [Array.getElem?_eq_none hge] at h
theorem wpAnyC_first {s i : Nat} {oi : Oper} {v : Value} {Q : Act → World → Prop} (hi : ops[i]? = some oi) (hso : softOp oi = true) (hsel : ∀ (j : Nat) (o : Oper) cs b, ops[j]? = some o → o.op ≠ .select cs b) (his : i ≠ s)
    (hsw : ∀ os, ops[s]? = some os → ∃ e ∈ os.after, Region.binds md e = true ∧ e.on = i) :
    ∀ (fuel : Nat) (listed : Array Bool) (a : Act) (w : World),
      (∀ j oj, ops[j]? = some oj → j ≠ i → listed.getD j true = false → (∀ e ∈ oj.after, Region.binds md e = true → e.on ≠ i) → oi.apart ops oj = true) →
      i ∈ Region.ready md ops listed → YieldsIn P ops C oi v a → listed.getD s false = false → C w →
      wpAnyC P md ops C s Q fuel (listed.setIfInBounds i true) (a.put oi.dst v) w → wpAnyC P md ops C s Q (fuel + 1) listed a w := by
  intro fuel
  induction fuel with
  | zero =>
    intro listed a w _ hr hy hls hC H
    refine ⟨fun _ => hC, fun h => (by rw [h] at hr; cases hr), fun j hj => ?_⟩
    by_cases hji : j = i
    · subst hji
      exact wpOp_of_soft hi hso hy hC H
    · have := ready_mono hj hji
      rw [H.2.1] at this
      cases this
  | succ fuel ih =>
    intro listed a w hfree hr hy hls hC H
    refine ⟨fun _ => hC, fun h => (by rw [h] at hr; cases hr), fun j hj => ?_⟩
    by_cases hji : j = i
    · subst hji
      exact wpOp_of_soft hi hso hy hC H
    · have h1 := H.2.2 j (ready_mono hj hji)
      obtain ⟨hjun, oj, hoj, hall⟩ := mem_ready.1 hj
      have hil : listed.getD i false = false := by
        have h0 := (mem_ready.1 hr).1
        rcases Nat.lt_or_ge i listed.size with h' | h'
        · simp [h'] at h0 ⊢; exact h0
        · simp [Array.getElem?_eq_none h'] at h0
      have hnot : ∀ e ∈ oj.after, Region.binds md e = true → e.on ≠ i := fun e he hb heq => by
        have h1 := hall e he hb
        rw [heq, hil] at h1
        cases h1
      have hjs : j ≠ s := by
        rintro rfl
        obtain ⟨e, he, hb, heq⟩ := hsw oj hoj
        exact hnot e he hb heq
      have h2 := wpOpC_put hoj (hfree j oj hoj hji hjun hnot) (fun cs b => hsel i oi cs b hi) (fun cs b => hsel j oj cs b hoj) hy h1
      have hfree' : ∀ k ok, ops[k]? = some ok → k ≠ i → (listed.setIfInBounds j true).getD k true = false →
          (∀ e ∈ ok.after, Region.binds md e = true → e.on ≠ i) → oi.apart ops ok = true := fun k ok hk hki hun hno => by
        refine hfree k ok hk hki ?_ hno
        by_cases hjk : j = k
        · subst hjk; exact hjun
        · rw [getD_set_ne true hjk] at hun; exact hun
      refine wpOp_mono (fun a' w' h3 => ?_) h2
      have hs1 : (listed.setIfInBounds j true).getD s false = false := by rw [getD_set_ne false hjs]; exact hls
      have hcomm : (listed.setIfInBounds j true).setIfInBounds i true = (listed.setIfInBounds i true).setIfInBounds j true := Array.setIfInBounds_comm _ _ hji
      refine ih (listed.setIfInBounds j true) a' w' hfree' (ready_mono hr (Ne.symm hji)) h3.1 hs1 (h3.2.cls (by rw [← hcomm, getD_set_ne false his]; exact hs1)) ?_
      rw [hcomm]
      exact h3.2
def wpSched (P : Program) (ops : Array Oper) (C : World → Prop) (s : Nat) (Q : Act → World → Prop) : List (Bool × Nat) → Act → World → Prop
  | [], a, w => Q a w
  | (true, i) :: r, a, w => qOp P ops C i (fun a' => wpSched P ops C s Q r a' w) a
  | (false, i) :: r, a, w => wpOp P ops QN i (fun a' w' => (i ≠ s → C w') ∧ wpSched P ops C s Q r a' w') a w
def schedB (md : Region.Mode) (ops : Array Oper) (s : Nat) : List (Bool × Nat) → Array Bool → Bool
  | [], listed => (Region.ready md ops listed).isEmpty
  | (true, i) :: r, listed => i != s && (Region.ready md ops listed).contains i && Region.free md ops listed i && ((ops[i]?).map softOp).getD false &&
    (match ops[s]? with | none => true | some os => os.after.any fun e => Region.binds md e && e.on == i) && schedB md ops s r (listed.setIfInBounds i true)
  | (false, i) :: r, listed => (Region.ready md ops listed == [i]) && (i != s || r.isEmpty) && schedB md ops s r (listed.setIfInBounds i true)
theorem wpAnyC_sched {s : Nat} {Q : Act → World → Prop} (hs : Region.noSelect ops = true) : ∀ (l : List (Bool × Nat)) (listed : Array Bool) (a : Act) (w : World), schedB md ops s l listed = true → listed.getD s false = false → C w →
    wpSched P ops C s Q l a w → wpAnyC P md ops C s Q l.length listed a w
  | [], listed, a, w, hB, _, hC, h => ⟨fun _ => hC, by simpa [schedB] using hB, h⟩
  | (true, i) :: r, listed, a, w, hB, hls, hC, h => by
    simp only [schedB, Bool.and_eq_true, bne_iff_ne, ne_eq] at hB
    obtain ⟨⟨⟨⟨⟨h1, h2⟩, h3⟩, h4⟩, h5⟩, h6⟩ := hB
    obtain ⟨oi, hoi⟩ : ∃ o, ops[i]? = some o := by
      cases ho : ops[i]? with
      | none => rw [ho] at h4; cases h4
      | some o => exact ⟨o, rfl⟩
    rw [hoi] at h4
    obtain ⟨v, hy, hK⟩ := yieldsIn_of_qOp hoi h
    refine wpAnyC_first hoi (by simpa using h4) (Region.noSelect_spec hs) h1 (fun os ho => ?_) r.length listed a w (Region.free_spec hoi h3) (by simpa using h2) hy hls hC
      (wpAnyC_sched hs r _ _ w h6 (by rw [getD_set_ne false h1]; exact hls) hC hK)
    rw [ho] at h5
    obtain ⟨e, he, hb⟩ := Array.any_eq_true'.1 h5
    simp only [Bool.and_eq_true, beq_iff_eq] at hb
    exact ⟨e, he, hb.1, hb.2⟩
  | (false, i) :: r, listed, a, w, hB, hls, hC, h => by
    simp only [schedB, Bool.and_eq_true, beq_iff_eq, Bool.or_eq_true, bne_iff_ne, ne_eq] at hB
    obtain ⟨⟨h1, h2⟩, h3⟩ := hB
    refine ⟨fun _ => hC, fun h0 => (by rw [h1] at h0; cases h0), fun j hj => ?_⟩
    rw [h1] at hj
    obtain rfl := List.mem_singleton.1 hj
    have hji : j ∈ Region.ready md ops listed := by rw [h1]; exact List.mem_singleton.2 rfl
    refine wpOp_mono (fun a' w' hh => ?_) h
    by_cases hjs : j = s
    · subst hjs
      have hr : r = [] := by simpa using h2
      subst hr
      refine ⟨fun h0 => ?_, by simpa [schedB] using h3, hh.2⟩
      obtain ⟨hlt, _⟩ := ready_getD_false' hji
      simp [hlt] at h0
    · exact wpAnyC_sched hs r _ a' w' h3 (by rw [getD_set_ne false hjs]; exact hls) (hh.1 hjs) hh.2
end
section
variable {P : Program} {C : World → Prop}
theorem wpQuiet_mono' {ops : Array Oper} {Q Q' : Act → Prop} (h : ∀ a, Q a → Q' a) : ∀ (l : List Oper) (a : Act), wpQuiet P ops C Q l a → wpQuiet P ops C Q' l a
  | [], _, hh => h _ hh
  | o :: l, a, hh => by
    unfold wpQuiet at hh ⊢
    split
    · rename_i hw
      rw [if_pos hw] at hh
      exact Oper.quiet_mono (fun a' h' => wpQuiet_mono' h l a' h') hh
    · rename_i hw
      rw [if_neg hw] at hh
      exact wpQuiet_mono' h l _ hh
theorem pick_nil (l : List Oper) : pick l [] = [] := rfl
def wpSegs (P : Program) (l : List Oper) (C : World → Prop) (s : Nat) (Q : Act → World → Prop) : List (List Nat × Nat) → List Nat → Act → World → Prop
  | [], fin, a, w => wpQuiet P l.toArray C (fun a' => Q a' w) (pick l fin) a
  | (is, h) :: r, fin, a, w => wpQuiet P l.toArray C (fun a' => wpList P l.toArray (segQ C h s (wpSegs P l C s Q r fin)) (pick l [h]) a' w) (pick l is) a
def segItems : List (List Nat × Nat) → List Nat → List (Bool × Nat)
  | [], fin => fin.map fun i => (true, i)
  | (is, h) :: r, fin => (is.map fun i => (true, i)) ++ (false, h) :: segItems r fin
theorem sched_softs {l : List Oper} {s : Nat} {Q : Act → World → Prop} {r : List (Bool × Nat)} {w : World} : ∀ (is : List Nat) (a : Act), (∀ i ∈ is, i < l.length) →
    wpQuiet P l.toArray C (fun a' => wpSched P l.toArray C s Q r a' w) (pick l is) a → wpSched P l.toArray C s Q ((is.map fun i => (true, i)) ++ r) a w
  | [], _, _, h => h
  | i :: is, a, hl, h => by
    have hlt := hl i (List.mem_cons_self ..)
    have hi : l[i]? = some l[i] := List.getElem?_eq_getElem hlt
    have e : pick l (i :: is) = l[i] :: pick l is := nthC_some _ hi
    rw [e] at h
    show qOp P l.toArray C i _ a
    have hi' : l.toArray[i]? = some l[i] := by rw [List.getElem?_toArray]; exact hi
    unfold qOp
    simp only [hi']
    unfold wpQuiet at h
    split
    · rename_i hw
      rw [if_pos hw] at h
      exact Oper.quiet_mono (fun a' h' => sched_softs is a' (fun k hk => hl k (List.mem_cons_of_mem _ hk)) h') h
    · rename_i hw
      rw [if_neg hw] at h
      exact sched_softs is _ (fun k hk => hl k (List.mem_cons_of_mem _ hk)) h
theorem sched_segs {l : List Oper} {s : Nat} {Q : Act → World → Prop} {fin : List Nat} (hf : ∀ i ∈ fin, i < l.length) : ∀ (segs : List (List Nat × Nat)) (a : Act) (w : World), (∀ x ∈ segs, (∀ i ∈ x.1, i < l.length) ∧ x.2 < l.length) →
    wpSegs P l C s Q segs fin a w → wpSched P l.toArray C s Q (segItems segs fin) a w
  | [], a, w, _, h => by
    have := sched_softs (s := s) (Q := Q) (r := []) (w := w) fin a hf h
    simpa [segItems] using this
  | (is, hh) :: r, a, w, hl, h => by
    obtain ⟨h1, h2⟩ := hl _ (List.mem_cons_self ..)
    refine sched_softs is a h1 (wpQuiet_mono' (fun a' h' => ?_) (pick l is) a h)
    exact wpOp_mono (fun a2 w2 hx => ⟨hx.1, sched_segs hf r a2 w2 (fun x hx' => hl x (List.mem_cons_of_mem _ hx')) hx.2⟩) (wpOp_of_list h2 h')
def segsB (l : List Oper) (s : Nat) (segs : List (List Nat × Nat)) (fin : List Nat) : Bool :=
  Region.noSelect l.toArray && schedB .any l.toArray s (segItems segs fin) (Array.replicate l.length false) && (segs.all fun x => (x.1.all fun i => decide (i < l.length)) && decide (x.2 < l.length)) && (fin.all fun i => decide (i < l.length)) && ((segItems segs fin).length == l.length)
theorem wp_region_segs {id : Nat} {Q : Exit → Act → World → Prop} {a : Act} {w : World} {l : List Oper} (s : Nat) (segs : List (List Nat × Nat)) (fin : List Nat) (hm : P.follows .mixedOrders = true) (hB : segsB l s segs fin = true)
    (h : wpSegs P l (fun w' => ∃ x : Lay, w' = more w x.os x.k) s (fun a' w' => Q .normal a' w') segs fin a w.drew) : (Code.region id l.toArray true).wp P Q a w := by
  unfold segsB at hB
  simp only [Bool.and_eq_true, List.all_eq_true, decide_eq_true_eq, beq_iff_eq] at hB
  obtain ⟨⟨⟨⟨h1, h2⟩, h3⟩, h4⟩, h5⟩ := hB
  refine wp_region_any hm (wpAny_of_C (C := fun w' => ∃ x : Lay, w' = more w x.os x.k) (s := s) _ _ _ _ ?_)
  have := wpAnyC_sched (Q := fun a' w' => Q .normal a' w') (C := fun w' => ∃ x : Lay, w' = more w x.os x.k) h1 (segItems segs fin) (Array.replicate l.length false) a w.drew h2 (by
    rw [Array.getD_eq_getD_getElem?, Array.getElem?_replicate]
    split <;> rfl) ⟨⟨[], w.drawn + 1⟩, by rw [← more_drew, more_nil]⟩ (sched_segs h4 segs a w.drew h3 h)
  rw [h5] at this
  simpa using this
theorem segs_cons {l : List Oper} {s h : Nat} {Q : Act → World → Prop} {is fin : List Nat} {r : List (List Nat × Nat)} {a : Act} {w : World}
    (hh : ∀ K : Act → Prop, (∀ a', (∀ next : Act → World → Prop, (∀ a w, wpSegs P l C s Q r fin a w → next a w) → wpList P l.toArray (segQ C h s next) (pick l [h]) a' w) → K a') → wpQuiet P l.toArray C K (pick l is) a) :
    wpSegs P l C s Q ((is, h) :: r) fin a w := hh _ fun _ h' => h' _ fun _ _ h => h
theorem segs_nil {l : List Oper} {s : Nat} {Q : Act → World → Prop} {fin : List Nat} {a : Act} {w : World}
    (hh : ∀ K : Act → Prop, (∀ a', Q a' w → K a') → wpQuiet P l.toArray C K (pick l fin) a) : wpSegs P l C s Q [] fin a w := hh _ fun _ h => h
end
end Go.Proofs.YthpmncdfaggkiaaGreat
namespace Go.Proofs.YthpmncdfaggkiaaGreat
open Go.RowKit
attribute [local go_sem] more_drew more_drewN more_size more_cell more_frozen more_setCell drew_more drewN_more lt_add_r lt_add_r2 lt_add_r3 lt_add_r4 lt_add_r5 lt_add_r6 lt_add_r7 lt_add_r8 lt_add_r9 lt_add_r10 lt_self_r lt_self_r2
theorem OwnI.base {w : World} {base base' : Nat} {A : Option Addr} {c : Nat} {xs : List Int} (h : OwnI w base A c xs) (hb : base' ≤ base) : OwnI w base' A c xs :=
  ⟨h.1, h.2.imp id fun ⟨g, cap, cur, h1, h2, h3⟩ => ⟨g, cap, cur, h1, Nat.le_trans hb h2, h3⟩⟩
end Go.Proofs.YthpmncdfaggkiaaGreat
namespace Go.Proofs.YthpmncdfaggkiaaGreat
def Nd.by (f : Int → Int) (p : Nd) : Nd := { p with kids := p.kids.map f }
@[simp] theorem Nd.by_kids (f : Int → Int) (p : Nd) : (p.by f).kids = p.kids.map f := rfl
@[simp] theorem Nd.by_lo (f : Int → Int) (p : Nd) : (p.by f).lo = p.lo := rfl
@[simp] theorem Nd.by_hi (f : Int → Int) (p : Nd) : (p.by f).hi = p.hi := rfl
@[simp] theorem Nd.by_kind (f : Int → Int) (p : Nd) : (p.by f).kind = p.kind := rfl
@[simp] theorem Nd.by_sym (f : Int → Int) (p : Nd) : (p.by f).sym = p.sym := rfl
theorem Nd.by_id {f : Int → Int} {p : Nd} (h : ∀ k ∈ p.kids, f k = k) : p.by f = p := by
  simp only [Nd.by, List.map_congr_left h, List.map_id']
def movedF (d : Int) (l : List Nd) : List Nd := l.map (Nd.by (· + d))
def subF (l : List Nd) (i m : Nat) : List Nd := movedF (-(i : Int)) ((l.drop i).take (m - i))
theorem Part.kid_in {l : List Nd} {i m : Nat} (h : Part l i m) {j : Nat} (h1 : i ≤ j) (h2 : j < m) {p : Nd} (hp : l[j]? = some p) : ∀ k ∈ p.kids, ∃ c : Nat, k = (c : Int) ∧ j < c ∧ c < m := by
  intro k hk
  obtain ⟨q, m1, a, b, c⟩ := h.trek.inside rfl j h1 h2
  rw [hp] at a
  cases a
  obtain ⟨c', e1, e2, e3⟩ := b.kid rfl k hk
  exact ⟨c', e1, by omega, by omega⟩


end Go.Proofs.YthpmncdfaggkiaaGreat
namespace Go.Proofs.YthpmncdfaggkiaaGreat
open Go.RowKit
attribute [local go_sem] more_drew more_drewN more_size more_cell more_frozen more_setCell drew_more drewN_more lt_add_r lt_add_r2 lt_add_r3 lt_add_r4 lt_add_r5 lt_add_r6 lt_add_r7 lt_add_r8 lt_add_r9 lt_add_r10 lt_self_r lt_self_r2
theorem pv_append (ps qs : List Prt) : pv (ps ++ qs) = pv ps ++ pv qs := List.flatMap_append
theorem pv_one (ps : List Prt) : ∀ u ∈ pv ps, u.oneCell' = true := by
  intro u hu
  obtain ⟨x, _, hx⟩ := List.mem_flatMap.1 hu
  simp only [prtCells, List.mem_cons, List.not_mem_nil, or_false] at hx
  rcases hx with rfl | rfl | rfl | rfl | rfl | rfl | rfl | rfl <;> rfl

structure FineP (p : Prt) : Prop where
  sym : I64 p.nd.sym
  kind : I64 p.nd.kind
  lo : I64 p.nd.lo
  inn : I64 p.nd.inn
  hi : I64 p.nd.hi
  look : I64 p.nd.look
  met : 0 ≤ p.nd.met ∧ p.nd.met ≤ 18446744073709551615
  ks : ∀ k ∈ p.nd.kids, I64 k
theorem PrtOk.fine {w : World} {p : Prt} (h : PrtOk w p) : FineP p := ⟨h.sym, h.kind, h.lo, h.inn, h.hi, h.look, h.met, h.ks⟩
structure OwnP (w : World) (base : Nat) (A : Option Addr) (c : Nat) (qs : List Prt) : Prop where
  row : w.ownsRow base 34 8 (.slice A qs.length c) qs.length (pv qs)
  kids : ∀ q ∈ qs, OwnI w base q.kA q.kc q.nd.kids
  fine : ∀ q ∈ qs, FineP q
theorem OwnP.nil (w : World) (base : Nat) : OwnP w base none 0 [] := ⟨World.ownsRow_nil _ _ _ _, fun _ h => (by cases h), fun _ h => (by cases h)⟩
theorem OwnP.ext {w w' : World} {base : Nat} {A : Option Addr} {c : Nat} {qs : List Prt} (h : OwnP w base A c qs) (e : Ext w w') : OwnP w' base A c qs := ⟨own_ext h.row e, fun q hq => (h.kids q hq).ext e, h.fine⟩
theorem own_base' {w : World} {base base' : Nat} {e : TypeId} {size : Nat} {v : Value} {n : Nat} {xs : List Value} (h : w.ownsRow base e size v n xs) (hb : base' ≤ base) : w.ownsRow base' e size v n xs :=
  ⟨h.1, h.2.imp id fun ⟨g, cap, cur, h1, h2, h3⟩ => ⟨g, cap, cur, h1, Nat.le_trans hb h2, h3⟩⟩
theorem OwnP.base {w : World} {base base' : Nat} {A : Option Addr} {c : Nat} {qs : List Prt} (h : OwnP w base A c qs) (hb : base' ≤ base) : OwnP w base' A c qs := ⟨own_base' h.row hb, fun q hq => (h.kids q hq).base hb, h.fine⟩
theorem OwnP.cells {w : World} {base : Nat} {A : Option Addr} {c : Nat} {qs : List Prt} (h : OwnP w base A c qs) : Prts w A qs ∧ qs.length ≤ c ∧ c ≤ maxLen ∧ (A = none → c = 0) := by
  obtain ⟨A', cap, hv, h1, h2, h3, h4⟩ := own_cells h.row
  injection hv with a1 a2 a3
  subst a1 a3
  exact ⟨Prts.of_cells h1, h2, h3, h4⟩
theorem OwnI.turn {w w' : World} {base : Nat} {A : Option Addr} {c : Nat} {xs : List Int} {S : Nat → Prop} (h : OwnI w base A c xs) (t : Turn S w w') (hS : ∀ k, base ≤ k → ¬ S k) : OwnI w' base A c xs :=
  own_keep h fun g hg => t.block g (own_old h g hg) (hS g (own_block h g hg))
theorem Turn.set {S : Nat → Prop} {a b : World} (h : Turn S a b) {p : Addr} (hp : S p.block) {u : Value} : Turn S a (b.setCell p u) := h.trans (Turn.setCell b hp u)
theorem kids_keep {w w' : World} {base base' : Nat} {A : Option Addr} {c : Nat} {xs : List Int} (h : OwnI w base A c xs) {v : Value} {n : Nat} {us : List Value} (hp : w.ownsRow base' 34 8 v n us)
    (hg : ∀ b, b < w.heap.size → some b ≠ v.ownBlock → w'.heap[b]? = w.heap[b]?) : OwnI w' base A c xs := by
  refine own_keep h fun g hgo => hg g (own_old h g hgo) fun he => ?_
  obtain ⟨c1, e1⟩ := own_obj h g hgo
  obtain ⟨c2, e2⟩ := own_obj hp g he.symm
  rw [e1] at e2
  injection e2 with e2
  injection e2 with _ e2
  cases e2
theorem infoPartT : (Tryz.prog.info? 34).map (fun i => (i.zero, i.size, i.bytes)) = some (some (.agg #[.int .i64 0, .int .i64 0, .int .i64 0, .int .i64 0, .int .i64 0, .int .i64 0, .slice none 0 0, .int .u64 0]), 8, 80) := by kernel_rfl
def RowP (w : World) (base : Nat) (v : Value) (qs : List Prt) : Prop := ∃ A c, v = .slice A qs.length c ∧ OwnP w base A c qs
theorem RowP.ext {w w' : World} {base : Nat} {v : Value} {qs : List Prt} (h : RowP w base v qs) (e : Ext w w') : RowP w' base v qs := by
  obtain ⟨A, c, hv, ho⟩ := h
  exact ⟨A, c, hv, ho.ext e⟩
theorem pv_single (q : Prt) : pv [q] = prtCells q := by simp [pv]
theorem app_part (w0 : World) {w : World} {ops : Array Oper} {rest : List Oper} {o : Oper} {a : Act} {Q : Exit → Act → World → Prop} (hw : Region.wanted o (yielded ops a.tmps) = true) (s x : Operand)
    (ho : o.op = .call { callee := .builtin .append, args := #[s, x], argTypes := #[22, 22] }) {qs : List Prt} {v : Value} (hr : RowP w w0.heap.size v qs) (q : Prt) (g : Nat)
    (hs : a.eval s = v) (hx : a.eval x = .slice (some ⟨g, 0, none⟩) 1 1) (hc : CellsAt w (some ⟨g, 0, none⟩) (prtCells q)) (hk : OwnI w w0.heap.size q.kA q.kc q.nd.kids) (hf : FineP q) (hlen : qs.length ≤ 1000000) (hext : Ext w0 w)
    (h : ∀ v' w', RowP w' w0.heap.size v' (qs ++ [q]) → Ext w0 w' → wpList Tryz.prog ops Q rest (a.put o.dst v') w') : wpList Tryz.prog ops Q (o :: rest) a w := by
  obtain ⟨A, c, rfl, hown⟩ := hr
  obtain ⟨i3, hi, hz0, hz1, hz2⟩ := info_parts infoPartT
  refine wpList_append_cells w hw s x 22 ho w0.heap.size 34 i3 _ 8 80 Tryz.underlying22 hi hz0 hz1 hz2 rfl (by omega) _ qs.length (pv qs) hs hown.row (some ⟨g, 0, none⟩) 1 1 (pv [q]) hx (fun h => by cases h) (pv_length _)
    (by rw [pv_single]; exact hc) (pv_one _) (by unfold maxLen; omega) (by omega) hext.size fun v' w' h2 h3 h4 => ?_
  obtain ⟨A', c', hv', _⟩ := own_cells h2
  subst hv'
  have hkeep : ∀ b, b < w.heap.size → some b ≠ (Value.slice A qs.length c).ownBlock → w'.heap[b]? = w.heap[b]? := fun b hb hne => h3.block b hb hne
  refine h _ w' ⟨A', c', by rw [List.length_append]; rfl, ?_, fun p hp => ?_, fun p hp => ?_⟩ (hext.grown h3 fun g hg => own_block hown.row g hg)
  · rw [pv_append, List.length_append]
    exact h2
  · rcases List.mem_append.1 hp with hp | hp
    · exact kids_keep (hown.kids p hp) hown.row hkeep
    · rw [List.mem_singleton.1 hp]
      exact kids_keep hk hown.row hkeep
  · rcases List.mem_append.1 hp with hp | hp
    · exact hown.fine p hp
    · rw [List.mem_singleton.1 hp]
      exact hf
def PartsRet (w : World) (l : List Nd) (e : Ending) (w' : World) : Prop := ∃ A c qs, e = .returned (.slice A (qs : List Prt).length c) ∧ nds qs = l ∧ OwnP w' w.heap.size A c qs ∧ Ext w w'
theorem plus_any (n : Int) (w : World) : Calls Tryz.prog 128 #[.int .i64 n] w fun e w' => e = .returned (.func (.func 174) #[] #[pt w.heap.size]) ∧ w' = w.alloc (.cells #[.int .i64 n] 3) := by
  go_enter Tryz.func128, Tryz.ntmps128
  go_wp2_with fail
  go_ret
  exact ⟨rfl, rfl⟩
theorem plus1_any (x n : Int) (b : Nat) (w : World) (hb : w.heap[b]? = some (.cells #[.int .i64 n] 3)) (h : I64 (x + n)) : Calls Tryz.prog 174 #[.int .i64 x, pt b] w fun e w' => e = .returned (.int .i64 (x + n)) ∧ Ext w w' := by
  have c1 := cell_of_row _ _ 0 _ _ _ hb
  simp at c1
  have l1 := lt_of_heap hb
  have hw : IntKind.i64.wrap (x + n) = x + n := IntWalk.i64_in _ h
  unfold I64 at h
  clear hb
  go_enter Tryz.func174, Tryz.ntmps174
  go_wp2_with fail
  go_ret
  exact ⟨rfl, Ext.refl _⟩
set_option maxRecDepth 100000 in
set_option maxHeartbeats 1000000 in
theorem eachInts (F : Nat) (lb : Array Value) (f : Int → Int) (A : Option Addr) (c : Nat) (xs : List Int) (w : World) (hP : Ints w A xs) (hl : xs.length ≤ 1000000) (eg : Enters Tryz.prog F)
    (hf : ∀ (wr : World) (x : Int), Ext w wr → x ∈ xs → Calls Tryz.prog F (#[.int .i64 x] ++ lb) wr fun e w' => e = .returned (.int .i64 (f x)) ∧ Ext wr w') :
    Calls Tryz.prog 173 #[.slice A xs.length c, .func (.func F) #[] lb] w (IntsRet w (xs.map f)) := by
  have HP := zh hP
  have HF := zh hf
  unfold Enters at eg
  clear hP hf
  go_enter Tryz.func173, Tryz.ntmps173
  go_wp2
  go_loopw [5, 10] (fun v i wr => ∃ j : Nat, j ≤ xs.length ∧ i = .int .i64 j ∧ Hid (RowI wr w.heap.size v ((xs.take j).map f)) ∧ Hid (Ext w wr)) (fun _ i _ => xs.length - (intOf i).toNat)
  case atStart => exact ⟨0, Nat.zero_le _, rfl, zh ⟨none, 0, rfl, OwnI.nil _ _⟩, zh (Ext.refl _)⟩
  case round =>
    obtain ⟨j, hj, rfl, hr, hx⟩ := hrel
    by_cases hlt : j < xs.length
    · obtain ⟨b, off, rfl, hb, hcell⟩ := (HP.out.ext hx.out) (by omega)
      have d0 := hcell j hlt
      obtain ⟨x, hxe⟩ : ∃ x, xs.getD j 0 = x := ⟨_, rfl⟩
      have hxm : xs[j] = x := by rw [← hxe, List.getD_eq_getElem?_getD, List.getElem?_eq_getElem hlt]; rfl
      rw [hxe] at d0
      have CF := zh (HF.out wr x hx.out (hxm ▸ List.getElem_mem hlt))
      have HS : Hid ((xs.take (j + 1)).map f = (xs.take j).map f ++ [f x]) := zh (by rw [List.take_succ_eq_append_getElem hlt, hxm, List.map_append]; rfl)
      have HL : Hid (((xs.take j).map f).length ≤ 1000000) := zh (by rw [List.length_map, List.length_take]; omega)
      clear hcell hxe hxm
      go_wp2_with fail
      refine CF.out.mono ?_
      rintro e w2 ⟨rfl, hx2⟩
      have HX2 := zh (hx.out.trans hx2)
      have HR2 := zh (hr.out.ext hx2)
      clear hx2 hr hx
      go_wp2_with (at_builtin; refine app_int w (by rfl) (.tmp 14) (.tmp 18) rfl (HR2.out.ext (by repeat first | exact xr _ | refine xa ?_ _ | refine xm ?_ _ _ | refine xd ?_ | refine xn ?_ _ | refine xs ?_ (by simp <;> omega) _)) (f x) w2.heap.size rfl rfl (by simp) (by simp [go_sem]) HL.out (HX2.out.trans (by repeat first | exact xr _ | refine xa ?_ _ | refine xm ?_ _ _ | refine xd ?_ | refine xn ?_ _ | refine xs ?_ (by simp <;> omega) _)) ?_; intro v7 w7 hr7 hg7 hx7)
      have HR7 := zh hr7
      have HX7 := zh hx7
      clear hr7 hx7 hg7
      go_roundw
      case rel => exact ⟨j + 1, by omega, by go_num, by rw [HS.out]; exact HR7, HX7⟩
      case measure => simp [intOf]; omega
    · obtain rfl : j = xs.length := by omega
      obtain ⟨A1, c1, rfl, ho⟩ := hr.out
      have HO := zh ho
      clear ho
      go_wp2_with fail
      go_ret
      rw [List.take_length] at HO
      exact ⟨A1, c1, by show Ending.returned (Value.slice A1 ((xs.take xs.length).map f).length c1) = _; rw [List.take_length], HO.out, hx.out⟩
def MovedRet (w : World) (f : Int → Int) (p : Prt) (e : Ending) (w' : World) : Prop := ∃ A c, e = .returned (aggV ⟨p.nd.by f, A, c⟩) ∧ OwnI w' w.heap.size A c (p.nd.by f).kids ∧ Ext w w'
set_option maxRecDepth 100000 in
set_option maxHeartbeats 1000000 in
theorem moved1_any (F : Nat) (lb : Array Value) (f : Int → Int) (p : Prt) (gb : Nat) (w : World) (hp : PrtOk w p) (hl : p.nd.kids.length ≤ 1000000) (eg : Enters Tryz.prog F) (hgb : w.heap[gb]? = some (.cells #[.func (.func F) #[] lb] 88))
    (hf : ∀ (wr : World) (x : Int), Ext w wr → x ∈ p.nd.kids → Calls Tryz.prog F (#[.int .i64 x] ++ lb) wr fun e w' => e = .returned (.int .i64 (f x)) ∧ Ext wr w') :
    Calls Tryz.prog 172 #[aggV p, pt gb] w (MovedRet w f p) := by
  have CE := zh (fun w1 (x : Ext w w1) => eachInts F lb f p.kA p.kc p.nd.kids w1 (hp.kids.ext x) hl eg (fun wr y h1 h2 => hf wr y (x.trans h1) h2))
  have c1 := cell_of_row _ _ 0 _ _ _ hgb
  simp at c1
  have l1 := lt_of_heap hgb
  have hc1 := hp.cap
  have hc2 := hp.top
  obtain ⟨⟨sym, kind, lo, inn, hi, look, kids, met⟩, kA, kc⟩ := p
  dsimp only at *
  clear hgb hf hp
  go_enter Tryz.func172, Tryz.ntmps172
  go_wp2_with fail
  refine (CE.out _ (by repeat first | exact xr _ | refine xa ?_ _ | refine xm ?_ _ _ | refine xd ?_ | refine xn ?_ _ | refine xs ?_ (by simp <;> omega) _)).mono ?_
  rintro e w2 ⟨A2, c2, rfl, ho2, hx2⟩
  have hb0 := ext_block (ext_block (heap_alloc_new w (.cells #[.int .i64 sym, .int .i64 kind, .int .i64 lo, .int .i64 inn, .int .i64 hi, .int .i64 look, .slice kA kids.length kc, .int .u64 met] 34)) ((Ext.refl _).alloc (.cells #[.int .i64 0, .int .i64 0, .int .i64 0, .int .i64 0, .int .i64 0, .int .i64 0, .slice none 0 0, .int .u64 0] 34))) hx2
  have hb1 := ext_block (heap_alloc_new (w.alloc (.cells #[.int .i64 sym, .int .i64 kind, .int .i64 lo, .int .i64 inn, .int .i64 hi, .int .i64 look, .slice kA kids.length kc, .int .u64 met] 34)) (.cells #[.int .i64 0, .int .i64 0, .int .i64 0, .int .i64 0, .int .i64 0, .int .i64 0, .slice none 0 0, .int .u64 0] 34)) hx2
  rw [World.size_alloc] at hb1
  have HX2 : Hid (Ext w w2) := zh (Ext.trans (by repeat first | exact xr _ | refine xa ?_ _ | refine xm ?_ _ _ | refine xd ?_ | refine xn ?_ _ | refine xs ?_ (by simp <;> omega) _) hx2)
  have HO2 := zh ho2
  clear hx2 ho2
  obtain ⟨b, hb⟩ : ∃ b, w.heap.size = b := ⟨_, rfl⟩
  rw [hb] at hb0 hb1 ⊢
  (have x0 := cell_of_row _ _ 0 _ _ _ hb0); (have x1 := cell_of_row _ _ 1 _ _ _ hb0); (have x2 := cell_of_row _ _ 2 _ _ _ hb0); (have x3 := cell_of_row _ _ 3 _ _ _ hb0); (have x4 := cell_of_row _ _ 4 _ _ _ hb0); (have x5 := cell_of_row _ _ 5 _ _ _ hb0); (have x6 := cell_of_row _ _ 6 _ _ _ hb0); (have x7 := cell_of_row _ _ 7 _ _ _ hb0); (simp at x0 x1 x2 x3 x4 x5 x6 x7)
  (have y0 := cell_of_row _ _ 0 _ _ _ hb1); (have y1 := cell_of_row _ _ 1 _ _ _ hb1); (have y2 := cell_of_row _ _ 2 _ _ _ hb1); (have y3 := cell_of_row _ _ 3 _ _ _ hb1); (have y4 := cell_of_row _ _ 4 _ _ _ hb1); (have y5 := cell_of_row _ _ 5 _ _ _ hb1); (have y6 := cell_of_row _ _ 6 _ _ _ hb1); (have y7 := cell_of_row _ _ 7 _ _ _ hb1); (simp at y0 y1 y2 y3 y4 y5 y6 y7)
  have lb0 := lt_of_heap hb0
  have lb1 := lt_of_heap hb1
  have f0 : ∀ i, w2.frozen? ⟨b, i, none⟩ = false := fun i => by simp [World.frozen?, hb0]
  have f1 : ∀ i, w2.frozen? ⟨b + 1, i, none⟩ = false := fun i => by simp [World.frozen?, hb1]
  have g6 := f0 6
  (have z0 := f1 0); (have z1 := f1 1); (have z2 := f1 2); (have z3 := f1 3); (have z4 := f1 4); (have z5 := f1 5); (have z6 := f1 6); (have z7 := f1 7)
  have HB := zh hb
  clear hb0 hb1 f0 f1 hb
  go_wp2_with fail
  have T : Turn (fun k => b ≤ k ∧ k ≤ b + 1) w2 (((((((((w2.setCell ⟨b, 6, none⟩ (.slice A2 kids.length c2)).setCell ⟨b + 1, 0, none⟩ (.int .i64 sym)).setCell ⟨b + 1, 1, none⟩ (.int .i64 kind)).setCell ⟨b + 1, 2, none⟩ (.int .i64 lo)).setCell ⟨b + 1, 3, none⟩ (.int .i64 inn)).setCell ⟨b + 1, 4, none⟩ (.int .i64 hi)).setCell ⟨b + 1, 5, none⟩ (.int .i64 look)).setCell ⟨b + 1, 6, none⟩ (.slice A2 kids.length c2)).setCell ⟨b + 1, 7, none⟩ (.int .u64 met)) := by
    have s0 : b ≤ b ∧ b ≤ b + 1 := ⟨Nat.le_refl _, Nat.le_succ _⟩
    have s1 : b ≤ b + 1 ∧ b + 1 ≤ b + 1 := ⟨Nat.le_succ _, Nat.le_refl _⟩
    exact Turn.set (Turn.set (Turn.set (Turn.set (Turn.set (Turn.set (Turn.set (Turn.set (Turn.set (Turn.refl w2) s0) s1) s1) s1) s1) s1) s1) s1) s1
  refine bodyPost_ret (v := .agg #[.int .i64 sym, .int .i64 kind, .int .i64 lo, .int .i64 inn, .int .i64 hi, .int .i64 look, .slice A2 kids.length c2, .int .u64 met]) (by simp [results, Tryz.results172, go_sem, *]) rfl ⟨A2, c2, ?_, ?_, ?_⟩
  · simp [Nd.by]
  · have hsz := HB.out
    have h1 : OwnI w2 (b + 1 + 1) A2 c2 (kids.map f) := by
      have := HO2.out
      rw [World.size_alloc, World.size_alloc, hsz] at this
      exact this
    exact (h1.turn T (by rintro k hk ⟨_, h2⟩; omega)).base (by omega)
  · have hsz := HB.out
    exact Ext.of_below (HX2.out.below.trans (T.below HX2.out.size fun k hk => by omega))
theorem Few.kids_le {ps : List Prt} (h : Few ps) {p : Prt} (hp : p ∈ ps) : p.nd.kids.length ≤ 1000000 := by
  obtain ⟨j, hj, rfl⟩ := List.getElem_of_mem hp
  have := h.kids (j + 1)
  rw [kc_add _ (Nat.zero_le j) (show j ≤ j + 1 by omega), kc_one (nds_get (List.getElem?_eq_getElem hj))] at this
  omega
set_option maxRecDepth 100000 in
set_option maxHeartbeats 2000000 in
theorem eachParts (f : Int → Int) (gb : Nat) (A : Option Addr) (c : Nat) (ps : List Prt) (w : World) (hP : Prts w A ps) (hO : PrtsOk w ps) (hl : ps.length ≤ 1000000) (hfi : ∀ p ∈ ps, ∀ x ∈ p.nd.kids, I64 (f x))
    (hf : ∀ (wr : World) (p : Prt), Ext w wr → p ∈ ps → Calls Tryz.prog 172 #[aggV p, pt gb] wr (MovedRet wr f p)) :
    Calls Tryz.prog 171 #[.slice A ps.length c, .func (.func 172) #[] #[pt gb]] w (PartsRet w ((nds ps).map (Nd.by f))) := by
  have HP := zh hP
  have HO := zh hO
  have HF := zh hf
  have HFI := zh hfi
  clear hP hf hO hfi
  go_enter Tryz.func171, Tryz.ntmps171
  go_wp2
  go_loopw [5, 10] (fun v i wr => ∃ (j : Nat) (qs : List Prt), j ≤ ps.length ∧ i = .int .i64 j ∧ Hid (qs.length = j ∧ nds qs = ((nds ps).take j).map (Nd.by f)) ∧ Hid (RowP wr w.heap.size v qs) ∧ Hid (Ext w wr)) (fun _ i _ => ps.length - (intOf i).toNat)
  case atStart => exact ⟨0, [], Nat.zero_le _, rfl, zh ⟨rfl, rfl⟩, zh ⟨none, 0, rfl, OwnP.nil _ _⟩, zh (Ext.refl _)⟩
  case round =>
    obtain ⟨j, qs, hj, rfl, hq, hr, hx⟩ := hrel
    by_cases hlt : j < ps.length
    · obtain ⟨p, hp⟩ : ∃ p, ps[j]? = some p := ⟨_, List.getElem?_eq_getElem hlt⟩
      obtain ⟨b, off, rfl, hb, hcell⟩ := (HP.out.ext hx.out) (by omega)
      obtain ⟨d0, d1, d2, d3, d4, d5, d6, d7⟩ := hcell j _ hp
      have hpo := HO.out.get hp
      have o1 := hpo.cap
      have o2 := hpo.top
      have HS : Hid (((nds ps).take (j + 1)).map (Nd.by f) = ((nds ps).take j).map (Nd.by f) ++ [p.nd.by f]) := zh (by
        have h1 := nds_get hp
        rw [List.getElem?_eq_getElem (by rw [nds_length]; exact hlt)] at h1
        injection h1 with h1
        rw [List.take_succ_eq_append_getElem (by rw [nds_length]; exact hlt), h1, List.map_append]
        rfl)
      have CF := zh (fun w1 (x : Ext w w1) => HF.out w1 p x (List.mem_of_getElem? hp))
      have HPO := zh hpo
      have HFK := zh (HFI.out p (List.mem_of_getElem? hp))
      clear hcell hp hpo
      go_wp2_with fail
      refine (CF.out _ (hx.out.trans (by repeat first | exact xr _ | refine xa ?_ _ | refine xm ?_ _ _ | refine xd ?_ | refine xn ?_ _ | refine xs ?_ (by simp <;> omega) _))).mono ?_
      rintro e w2 ⟨A2, c2, rfl, ho2, hx2⟩
      have HX2 := zh ((hx.out.trans (by repeat first | exact xr _ | refine xa ?_ _ | refine xm ?_ _ _ | refine xd ?_ | refine xn ?_ _ | refine xs ?_ (by simp <;> omega) _)).trans hx2)
      have HR2 := zh ((hr.out.ext (by repeat first | exact xr _ | refine xa ?_ _ | refine xm ?_ _ _ | refine xd ?_ | refine xn ?_ _ | refine xs ?_ (by simp <;> omega) _)).ext hx2)
      have HO2 : Hid (OwnI w2 w.heap.size A2 c2 (p.nd.by f).kids) := zh (ho2.base (by have := hx.out.size; simp; omega))
      have HL : Hid (qs.length ≤ 1000000) := zh (by have := hq.out.1; omega)
      have HFN : Hid (FineP ⟨p.nd.by f, A2, c2⟩) := by
        have hf := HPO.out.fine
        exact ⟨hf.sym, hf.kind, hf.lo, hf.inn, hf.hi, hf.look, hf.met, fun k hk => by
          obtain ⟨x, hx, rfl⟩ := List.mem_map.1 hk
          exact HFK.out x hx⟩
      clear hx2 hr hx ho2 d0 d1 d2 d3 d4 d5 d6 d7
      go_wp2_with (at_builtin; refine app_part w (by rfl) (.tmp 14) (.tmp 18) rfl (HR2.out.ext (by repeat first | exact xr _ | refine xa ?_ _ | refine xm ?_ _ _ | refine xd ?_ | refine xn ?_ _ | refine xs ?_ (by simp <;> omega) _)) ⟨p.nd.by f, A2, c2⟩ w2.heap.size rfl rfl (cells_lit _ _ _ _ _ rfl (by simp [prtCells, Nd.by])) (HO2.out.ext (by repeat first | exact xr _ | refine xa ?_ _ | refine xm ?_ _ _ | refine xd ?_ | refine xn ?_ _ | refine xs ?_ (by simp <;> omega) _)) HFN.out HL.out (HX2.out.trans (by repeat first | exact xr _ | refine xa ?_ _ | refine xm ?_ _ _ | refine xd ?_ | refine xn ?_ _ | refine xs ?_ (by simp <;> omega) _)) ?_; intro v7 w7 hr7 hx7)
      have HR7 := zh hr7
      have HX7 := zh hx7
      clear hr7 hx7
      go_roundw
      case rel => exact ⟨j + 1, _, by omega, by go_num, zh ⟨by rw [List.length_append, hq.out.1]; rfl, by rw [HS.out, ← hq.out.2]; simp [nds]⟩, HR7, HX7⟩
      case measure => simp [intOf]; omega
    · obtain rfl : j = ps.length := by omega
      obtain ⟨A1, c1, rfl, ho⟩ := hr.out
      have HO1 := zh ho
      clear ho
      go_wp2_with fail
      go_ret
      refine ⟨A1, c1, qs, rfl, ?_, HO1.out, hx.out⟩
      rw [hq.out.2, List.take_of_length_le (by rw [nds_length]; omega)]
set_option maxRecDepth 100000 in
set_option maxHeartbeats 1000000 in
theorem moved_any (F : Nat) (lb : Array Value) (f : Int → Int) (A : Option Addr) (c : Nat) (ps : List Prt) (w : World) (hP : Prts w A ps) (hO : PrtsOk w ps) (hw : Few ps) (hfi : ∀ p ∈ ps, ∀ x ∈ p.nd.kids, I64 (f x)) (eg : Enters Tryz.prog F)
    (hf : ∀ (wr : World) (x : Int), Ext w wr → (∃ p ∈ ps, x ∈ p.nd.kids) → Calls Tryz.prog F (#[.int .i64 x] ++ lb) wr fun e w' => e = .returned (.int .i64 (f x)) ∧ Ext wr w') :
    Calls Tryz.prog 127 #[.slice A ps.length c, .func (.func F) #[] lb] w (PartsRet w ((nds ps).map (Nd.by f))) := by
  have CE := zh (eachParts f w.heap.size A c ps (w.alloc (.cells #[.func (.func F) #[] lb] 88)) (hP.ext (by repeat first | exact xr _ | refine xa ?_ _ | refine xm ?_ _ _ | refine xd ?_ | refine xn ?_ _ | refine xs ?_ (by simp <;> omega) _)) (hO.ext (by repeat first | exact xr _ | refine xa ?_ _ | refine xm ?_ _ _ | refine xd ?_ | refine xn ?_ _ | refine xs ?_ (by simp <;> omega) _)) (by have := hw.len; omega) hfi
    (fun wr p h1 h2 => moved1_any F lb f p w.heap.size wr ((hO p h2).ext (Ext.trans (by repeat first | exact xr _ | refine xa ?_ _ | refine xm ?_ _ _ | refine xd ?_ | refine xn ?_ _ | refine xs ?_ (by simp <;> omega) _) h1)) (hw.kids_le h2) eg (ext_block (heap_alloc_new w _) h1) (fun w1 x h3 h4 => hf w1 x (Ext.trans (by repeat first | exact xr _ | refine xa ?_ _ | refine xm ?_ _ _ | refine xd ?_ | refine xn ?_ _ | refine xs ?_ (by simp <;> omega) _) (h1.trans h3)) ⟨p, h2, h4⟩)))
  have hl := hw.len
  clear hP hO hw hfi eg hf
  go_enter Tryz.func127, Tryz.ntmps127
  go_wp2_with fail
  refine CE.out.mono ?_
  rintro e w2 ⟨A2, c2, qs, rfl, hn, ho, hx⟩
  have HN := zh hn
  have HO := zh ho
  have HX := zh hx
  clear hn ho hx
  go_wp2_with fail
  go_ret
  exact ⟨A2, c2, qs, rfl, HN.out, HO.out.base (by simp), Ext.trans (by repeat first | exact xr _ | refine xa ?_ _ | refine xm ?_ _ _ | refine xd ?_ | refine xn ?_ _ | refine xs ?_ (by simp <;> omega) _) HX.out⟩
set_option maxRecDepth 100000 in
set_option maxHeartbeats 1000000 in
theorem copy_any (A : Option Addr) (c : Nat) (ps : List Prt) (w : World) (hP : Prts w A ps) (hO : PrtsOk w ps) (hw : Few ps) : Calls Tryz.prog 74 #[.slice A ps.length c] w (PartsRet w (nds ps)) := by
  have CM := zh (moved_any 174 #[pt w.heap.size] (fun x => x + 0) A c ps (w.alloc (.cells #[.int .i64 0] 3)) (hP.ext (by repeat first | exact xr _ | refine xa ?_ _ | refine xm ?_ _ _ | refine xd ?_ | refine xn ?_ _ | refine xs ?_ (by simp <;> omega) _)) (hO.ext (by repeat first | exact xr _ | refine xa ?_ _ | refine xm ?_ _ _ | refine xd ?_ | refine xn ?_ _ | refine xs ?_ (by simp <;> omega) _)) hw (fun p hp x hx => by rw [Int.add_zero]; exact (hO p hp).ks x hx)
    (enters_of Tryz.func174 (by kernel_rfl) rfl) (fun wr x h1 ⟨p, hp, hx⟩ => plus1_any x 0 w.heap.size wr (ext_block (heap_alloc_new w _) h1) (by rw [Int.add_zero]; exact (hO p hp).ks x hx)))
  have HID : Hid ((nds ps).map (Nd.by fun x => x + 0) = nds ps) := zh (by
    exact (List.map_congr_left (g := id) fun p _ => Nd.by_id fun k _ => Int.add_zero k).trans (List.map_id _))
  clear hP hO hw
  go_enter Tryz.func74, Tryz.ntmps74
  go_wp2_with fail
  refine (plus_any 0 w).mono ?_
  rintro e w1 ⟨rfl, rfl⟩
  go_wp2_with fail
  refine CM.out.mono ?_
  rintro e w2 ⟨A2, c2, qs, rfl, hn, ho, hx⟩
  rw [HID.out] at hn
  have HN := zh hn
  have HO := zh ho
  have HX := zh hx
  clear hn ho hx
  go_wp2_with fail
  go_ret
  exact ⟨A2, c2, qs, rfl, HN.out, HO.out.base (by simp), Ext.trans (by repeat first | exact xr _ | refine xa ?_ _ | refine xm ?_ _ _ | refine xd ?_ | refine xn ?_ _ | refine xs ?_ (by simp <;> omega) _) HX.out⟩
theorem nds_drop (ps : List Prt) (i : Nat) : nds (ps.drop i) = (nds ps).drop i := by unfold nds; rw [List.map_drop]
theorem nds_take (ps : List Prt) (i : Nat) : nds (ps.take i) = (nds ps).take i := by unfold nds; rw [List.map_take]
theorem Prts.slice {w : World} {b off : Nat} {ps : List Prt} (h : Prts w (some ⟨b, off, none⟩) ps) (i n : Nat) : Prts w (some ⟨b, off + i * 8, none⟩) ((ps.drop i).take n) := fun h0 => by
  rw [List.length_take, List.length_drop] at h0
  obtain ⟨b', off', hA, hb, hcell⟩ := h (by omega)
  injection hA with hA
  injection hA with hA hB
  subst hA hB
  refine ⟨b, off + i * 8, rfl, hb, fun k p hk => ?_⟩
  rw [List.getElem?_take] at hk
  split at hk
  · rw [List.getElem?_drop] at hk
    have := hcell (i + k) p hk
    rw [Nat.add_mul, ← Nat.add_assoc] at this
    exact this
  · cases hk
theorem PrtsOk.slice {w : World} {ps : List Prt} (h : PrtsOk w ps) (i n : Nat) : PrtsOk w ((ps.drop i).take n) := fun p hp => h p (List.mem_of_mem_drop (List.mem_of_mem_take hp))
theorem kc_slice (l : List Nd) (i n j : Nat) : kc ((l.drop i).take n) 0 j ≤ kc l 0 (i + min j n) := by
  have e : kc ((l.drop i).take n) 0 j = kc l i (i + min j n) := by
    unfold kc
    rw [List.drop_zero, List.take_take, List.drop_take, Nat.add_sub_cancel_left]
  rw [e, kc_add l (Nat.zero_le i) (show i ≤ i + min j n by omega)]
  omega
theorem Few.slice {ps : List Prt} (h : Few ps) (i n : Nat) : Few ((ps.drop i).take n) := by
  refine ⟨by rw [List.length_take, List.length_drop]; have := h.len; omega, fun j => ?_⟩
  rw [nds_take, nds_drop]
  exact Nat.le_trans (kc_slice _ _ _ _) (h.kids _)
section
variable {A : Option Addr} {c : Nat} {ps : List Prt} {w : World}
set_option maxRecDepth 100000 in
set_option maxHeartbeats 2000000 in
theorem Sub_yes (i m : Nat) (h : PS w A c ps) (T : Tree (nds ps)) (hp : Part (nds ps) i m) : Calls Tryz.prog 75 #[.slice A ps.length c, .int .i64 i] w (PartsRet w (subF (nds ps) i m)) := by
  have CH := zh (is_true i h ⟨T, by omega, by have := hp.lt; omega⟩)
  have HS := zh h
  have HP := zh hp
  have hl := h.few.len
  have hc1 := h.cap
  have hc2 := h.top
  have hlt := hp.lt
  have hme := hp.lt_end
  have hml := hp.le
  rw [nds_length] at hlt hml
  obtain ⟨b, off, rfl, hb, _⟩ := h.parts (by omega)
  have KF : Hid (∀ p ∈ (ps.drop i).take (m - i), ∀ x ∈ p.nd.kids, ∃ k : Nat, x = (k : Int) ∧ i < k ∧ k < m) := zh (by
    intro p hpm x hx
    obtain ⟨j, hj, rfl⟩ := List.getElem_of_mem hpm
    rw [List.length_take, List.length_drop] at hj
    have e : ps[i + j]? = some (((ps.drop i).take (m - i))[j]) := by
      rw [← List.getElem?_drop, ← List.getElem?_take_of_lt (show j < m - i by omega), List.getElem?_eq_getElem]
    obtain ⟨k, h1, h2, h3⟩ := hp.kid_in (show i ≤ i + j by omega) (by omega) (nds_get e) x hx
    exact ⟨k, h1, by omega, h3⟩)
  clear h T hp
  have s1 : IntKind.i64.wrap (-(i : Int)) = -(i : Int) := IntWalk.i64_in _ (by omega)
  go_enter Tryz.func75, Tryz.ntmps75
  go_wp2_with fail
  refine CH.out.mono ?_
  rintro e w2 ⟨rfl, hx2⟩
  have HX := zh hx2
  clear hx2
  go_upto_region 3 with fail
  refine wp_region_segs (11) [([0, 1, 2, 3, 6, 7], 4), ([5], 8), ([], 9)] [10] (by kernel_rfl) (by kernel_rfl) ?_
  (refine segs_cons fun K hK => ?_); (first | (simp only [pick_nil]) | (simp only [pick, nthC])); (repeat (go_big_quiet_step (fail))); (refine wpQuiet_nil (hK _ fun next hn => ?_)); (clear hK K); (simp only [pick, nthC])
  go_wp2_with fail
  refine (end_any' i m (HS.out.ext (HX.out.trans (by repeat first | exact xr _ | refine xa ?_ _ | refine xm ?_ _ _ | refine xd ?_ | refine xn ?_ _ | refine xs ?_ (by simp <;> omega) _))) HP.out).mono ?_
  rintro e w3 ⟨rfl, hx3⟩
  have X3 : Hid (Ext w2 w3) := zh (Ext.trans (by repeat first | exact xr _ | refine xa ?_ _ | refine xm ?_ _ _ | refine xd ?_ | refine xn ?_ _ | refine xs ?_ (by simp <;> omega) _) hx3)
  clear hx3
  go_wp2_with fail
  refine segQ_mk (fun _ => laid X3.out) (hn _ _ ?_)
  clear hn next
  (refine segs_cons fun K hK => ?_); (first | (simp only [pick_nil]) | (simp only [pick, nthC])); (repeat (go_big_quiet_step (fail))); (refine wpQuiet_nil (hK _ fun next hn => ?_)); (clear hK K); (simp only [pick, nthC])
  go_wp2_with fail
  refine (plus_any _ w3).mono ?_
  rintro e w4 ⟨rfl, rfl⟩
  have X4 : Hid (Ext w2 (w3.alloc (.cells #[.int .i64 (-(i : Int))] 3))) := zh (X3.out.alloc _)
  go_wp2_with fail
  refine segQ_mk (fun _ => laid X4.out) (hn _ _ ?_)
  clear hn next
  (refine segs_cons fun K hK => ?_); (first | (simp only [pick_nil]) | (simp only [pick, nthC])); (repeat (go_big_quiet_step (fail))); (refine wpQuiet_nil (hK _ fun next hn => ?_)); (clear hK K); (simp only [pick, nthC])
  go_wp2_with fail
  have hln : ((ps.drop i).take (m - i)).length = m - i := by rw [List.length_take, List.length_drop]; omega
  have CM := moved_any 174 #[pt w3.heap.size] (fun x => x + -(i : Int)) (some ⟨b, off + i * 8, none⟩) (c - i) ((ps.drop i).take (m - i)) (w3.alloc (.cells #[.int .i64 (-(i : Int))] 3))
    ((HS.out.parts.slice i (m - i)).ext (HX.out.trans X4.out)) ((HS.out.oks.slice i (m - i)).ext (HX.out.trans X4.out)) (HS.out.few.slice i (m - i)) (fun p hp x hx => by obtain ⟨k, rfl, h1, h2⟩ := KF.out p hp x hx; unfold I64; omega)
    (enters_of Tryz.func174 (by kernel_rfl) rfl) (fun wr x h1 ⟨p, hp, hx⟩ => plus1_any x _ w3.heap.size wr (ext_block (heap_alloc_new w3 _) h1) (by obtain ⟨k, rfl, h1, h2⟩ := KF.out p hp x hx; unfold I64; omega))
  rw [hln] at CM
  have HCM := zh CM
  clear CM hln
  refine HCM.out.mono ?_
  rintro e w5 ⟨A5, c5, qs, rfl, hn5, ho5, hx5⟩
  have X5 : Hid (Ext w2 w5) := zh (X4.out.trans hx5)
  have HO5 : Hid (OwnP w5 w.heap.size A5 c5 qs) := zh (ho5.base (HX.out.trans X4.out).size)
  have HN5 : Hid (nds qs = subF (nds ps) i m) := zh (by rw [hn5, nds_take, nds_drop]; rfl)
  clear hn5 ho5 hx5 HCM
  go_wp2_with fail
  refine segQ_mk (fun _ => laid X5.out) (hn _ _ ?_)
  clear hn next
  (refine segs_nil fun K hK => ?_); (first | (simp only [pick_nil]) | (simp only [pick, nthC])); (repeat (go_big_quiet_step (fail))); (refine wpQuiet_nil (hK _ ?_)); (clear hK K)
  go_wp2_with fail
  go_ret
  exact ⟨A5, c5, qs, rfl, HN5.out, HO5.out, HX.out.trans X5.out⟩
end
def sameB (p q : Nd) : Bool := (p.sym == q.sym) && (p.kind == q.kind) && (p.lo == q.lo) && (p.inn == q.inn) && (p.hi == q.hi) && (p.look == q.look) && (p.met == q.met) && decide (p.kids = q.kids)
theorem sameB_iff (p q : Nd) : sameB p q = true ↔ p = q := by
  obtain ⟨a, b, c, d, e, f, g, h⟩ := p
  obtain ⟨a', b', c', d', e', f', g', h'⟩ := q
  simp only [sameB, Bool.and_eq_true, beq_iff_eq, decide_eq_true_eq, Nd.mk.injEq]
  constructor
  · rintro ⟨⟨⟨⟨⟨⟨⟨rfl, rfl⟩, rfl⟩, rfl⟩, rfl⟩, rfl⟩, rfl⟩, rfl⟩
    simp
  · rintro ⟨rfl, rfl, rfl, rfl, rfl, rfl, rfl, rfl⟩
    simp
instance ndDecEq : DecidableEq Nd := fun p q => decidable_of_iff _ (sameB_iff p q)

section
variable {A : Option Addr} {c : Nat} {ps : List Prt} {w : World}
theorem base_no (d : Dty) (h : PS w A c ps) (hn : ¬ MayOk (nds ps)) : Calls Tryz.prog 14 #[.slice A ps.length c, dyV d] w fun e w' => e = .returned (.int .i64 0) ∧ Ext w w' := by
  have CM := zh (fun (V : World) (x : Ext w V) => mayT_any (h.ext x))
  have HN := zh hn
  clear h hn
  obtain ⟨slot, lo, hi', age, level⟩ := d
  unfold dyV
  dsimp only
  go_enter Tryz.func14, Tryz.ntmps14
  go_wp2_with fail
  go_step3
  go_wp2_with fail
  refine (CM.out _ (by repeat first | exact xr _ | refine xa ?_ _ | refine xm ?_ _ _ | refine xd ?_ | refine xn ?_ _ | refine xs ?_ (by simp <;> omega) _)).mono ?_
  rintro e w2 ⟨bm, rfl, hbm, hx2⟩
  have HX2 : Hid (Ext w w2) := zh (((by repeat first | exact xr _ | refine xa ?_ _ | refine xm ?_ _ _ | refine xd ?_ | refine xn ?_ _ | refine xs ?_ (by simp <;> omega) _) : Ext w _).trans hx2)
  obtain rfl : bm = false := by
    cases bm with
    | false => rfl
    | true => exact absurd (hbm.1 rfl) HN.out
  clear hx2 hbm
  go_wp2_with fail
  try rw [Exit.noGoto_ret]
  go_ret
  exact ⟨rfl, HX2.out⟩
end
def RunRet (w : World) (a b : Int) (l : List Nd) (e : Ending) (w' : World) : Prop := ∃ A c qs, e = .returned (.tuple #[.int .i64 a, .int .i64 b, .slice A (qs : List Prt).length c]) ∧ nds qs = l ∧ OwnP w' w.heap.size A c qs ∧ Ext w w'
theorem RunRet.of {w V w' : World} {a b : Int} {l : List Nd} {A : Option Addr} {c : Nat} {qs : List Prt} (hn : nds qs = l) (ho : OwnP w' V.heap.size A c qs) (hv : Ext w V) (hx : Ext V w') : RunRet w a b l (.returned (.tuple #[.int .i64 a, .int .i64 b, .slice A qs.length c])) w' := ⟨A, c, qs, rfl, hn, ho.base hv.size, hv.trans hx⟩
section
variable {A : Option Addr} {c : Nat} {ps : List Prt} {w : World}
set_option maxRecDepth 100000 in
set_option maxHeartbeats 2000000 in
theorem run_no (i terms : Int) (h : PS w A c ps) (hn : ¬ (MayOk (nds ps) ∧ InnerAt (nds ps) i)) : Calls Tryz.prog 30 #[.slice A ps.length c, .int .i64 i, .int .i64 terms] w (RunRet w (-2) 0 []) := by
  have S := zh h
  have hl := h.few.len
  have CM := zh (fun (V : World) (x : Ext w V) => mayT_any (h.ext x))
  have HN := zh hn
  have FIN : Hid (∀ V : World, Ext w V → RunRet w (-2) 0 [] (.returned (.tuple #[.int .i64 (-2), .int .i64 0, .slice none 0 0])) V) := zh fun V x => ⟨none, 0, [], rfl, rfl, OwnP.nil _ _, x⟩
  clear h hn
  go_enter Tryz.func30, Tryz.ntmps30
  go_wp2_with fail
  refine (CM.out _ (Ext.refl _)).mono ?_
  rintro e w2 ⟨bm, rfl, hbm, hx2⟩
  have HX2 := zh hx2
  have HM := zh hbm
  clear hx2 hbm
  cases bm with
  | false =>
    go_wp2_with fail
    go_ret3
    exact FIN.out _ HX2.out
  | true =>
    by_cases h0 : i < 0
    · have g0 : decide (i < 0) = true := decide_eq_true h0
      go_wp2_with fail
      go_ret3
      exact FIN.out _ HX2.out
    · have g0 : decide (i < 0) = false := decide_eq_false h0
      by_cases h1 : i < (ps.length : Int)
      · obtain ⟨j, rfl⟩ : ∃ j : Nat, i = (j : Int) := ⟨i.toNat, by omega⟩
        have hjl : j < ps.length := by omega
        obtain ⟨⟨q, kA, kcap⟩, hp⟩ : ∃ p, ps[j]? = some p := ⟨_, List.getElem?_eq_getElem hjl⟩
        obtain ⟨bA, off, rfl, hbA, hcell⟩ := (S.out.ext HX2.out).parts (by omega)
        obtain ⟨d0, d1, d2, d3, d4, d5, d6, d7⟩ := hcell j _ hp
        dsimp only at d0 d1 d2 d3 d4 d5 d6 d7
        have hk1 : ¬ q.kind = 1 := fun h => HN.out ⟨HM.out.1 rfl, j, q, rfl, nds_get hp, .inl h⟩
        have hk2 : ¬ q.kind = 2 := fun h => HN.out ⟨HM.out.1 rfl, j, q, rfl, nds_get hp, .inr h⟩
        have e1 : decide (q.kind = 1) = false := decide_eq_false hk1
        have e2 : decide (q.kind = 2) = false := decide_eq_false hk2
        clear hcell hp h0 h1
        go_wp2_with fail
        go_ret3
        exact FIN.out _ (HX2.out.alloc _)
      · have g1 : decide (i < (ps.length : Int)) = false := decide_eq_false h1
        go_wp2_with fail
        go_ret3
        exact FIN.out _ HX2.out
set_option maxRecDepth 100000 in
set_option maxHeartbeats 2000000 in
theorem run_root (j : Nat) (q : Nd) (terms : Int) (h : PS w A c ps) (hm : MayOk (nds ps)) (hq : (nds ps)[j]? = some q) (hk : q.kind = 1) : Calls Tryz.prog 30 #[.slice A ps.length c, .int .i64 j, .int .i64 terms] w (RunRet w (-1) 0 (nds ps)) := by
  have S := zh h
  have hl := h.few.len
  have HMY := zh hm
  have CM := zh (fun (V : World) (x : Ext w V) => mayT_any (h.ext x))
  have CC := zh (fun (V : World) (x : Ext w V) => copy_any A c ps V (h.ext x).parts (h.ext x).oks h.few)
  have hjl : j < ps.length := by have := (List.getElem?_eq_some_iff.1 hq).1; rwa [nds_length] at this
  obtain ⟨⟨q', kA, kcap⟩, hp⟩ : ∃ p, ps[j]? = some p := ⟨_, List.getElem?_eq_getElem hjl⟩
  obtain rfl : q = q' := by rw [nds_get hp] at hq; injection hq with hq; exact hq.symm
  have HPP := zh hp
  have g0 : decide ((j : Int) < 0) = false := decide_eq_false (by omega)
  have g1 : decide (ps.length ≤ j) = false := decide_eq_false (by omega)
  clear h hm hq hp
  go_enter Tryz.func30, Tryz.ntmps30
  go_wp2_with fail
  refine (CM.out _ (Ext.refl _)).mono ?_
  rintro e w2 ⟨bm, rfl, hbm, hx2⟩
  have HX2 := zh hx2
  obtain rfl : bm = true := hbm.2 HMY.out
  obtain ⟨bA, off, rfl, hbA, hcell⟩ := (S.out.ext hx2).parts (by omega)
  obtain ⟨d0, d1, d2, d3, d4, d5, d6, d7⟩ := hcell j _ HPP.out
  dsimp only at d0 d1 d2 d3 d4 d5 d6 d7
  rw [hk] at d1
  clear hcell hx2 hbm
  go_wp2_with fail
  refine (CC.out _ (HX2.out.alloc _)).mono ?_
  rintro e w3 ⟨A3, c3, qs, rfl, hn3, ho3, hx3⟩
  have HN3 := zh hn3
  have HO3 := zh ho3
  have HX3 := zh hx3
  clear hn3 ho3 hx3
  go_wp2_with fail
  go_ret3
  exact RunRet.of HN3.out HO3.out (HX2.out.alloc _) HX3.out
set_option maxRecDepth 100000 in
set_option maxHeartbeats 2000000 in
theorem run_non (j : Nat) (q : Nd) (terms : Int) (m : Nat) (hpt : Part (nds ps) j m) (h : PS w A c ps) (hm : MayOk (nds ps)) (hq : (nds ps)[j]? = some q) (hk : q.kind = 2) : Calls Tryz.prog 30 #[.slice A ps.length c, .int .i64 j, .int .i64 terms] w (RunRet w (wrap64 (q.sym - terms)) q.lo (subF (nds ps) j m)) := by
  have S := zh h
  have hl := h.few.len
  have HMY := zh hm
  have CM := zh (fun (V : World) (x : Ext w V) => mayT_any (h.ext x))
  have CC := zh (fun (V : World) (x : Ext w V) => Sub_yes j m (h.ext x) hm.1 hpt)
  have hjl : j < ps.length := by have := (List.getElem?_eq_some_iff.1 hq).1; rwa [nds_length] at this
  obtain ⟨⟨q', kA, kcap⟩, hp⟩ : ∃ p, ps[j]? = some p := ⟨_, List.getElem?_eq_getElem hjl⟩
  obtain rfl : q = q' := by rw [nds_get hp] at hq; injection hq with hq; exact hq.symm
  have HPP := zh hp
  have g0 : decide ((j : Int) < 0) = false := decide_eq_false (by omega)
  have g1 : decide (ps.length ≤ j) = false := decide_eq_false (by omega)
  clear h hm hq hp hpt
  go_enter Tryz.func30, Tryz.ntmps30
  go_wp2_with fail
  refine (CM.out _ (Ext.refl _)).mono ?_
  rintro e w2 ⟨bm, rfl, hbm, hx2⟩
  have HX2 := zh hx2
  obtain rfl : bm = true := hbm.2 HMY.out
  obtain ⟨bA, off, rfl, hbA, hcell⟩ := (S.out.ext hx2).parts (by omega)
  obtain ⟨d0, d1, d2, d3, d4, d5, d6, d7⟩ := hcell j _ HPP.out
  dsimp only at d0 d1 d2 d3 d4 d5 d6 d7
  rw [hk] at d1
  clear hcell hx2 hbm
  go_upto_region 8 with fail
  obtain ⟨g, hg⟩ : ∃ g, w2.heap.size = g := ⟨_, rfl⟩
  obtain ⟨W4, hW4⟩ : ∃ V, w2.alloc (.cells #[.int .i64 q.sym, .int .i64 2, .int .i64 q.lo, .int .i64 q.inn, .int .i64 q.hi, .int .i64 q.look, .slice kA q.kids.length kcap, .int .u64 q.met] 34) = V := ⟨_, rfl⟩
  have HX4 : Hid (Ext w W4) := zh (by rw [← hW4]; exact HX2.out.alloc _)
  have hB : W4.heap[g]? = some (.cells #[.int .i64 q.sym, .int .i64 2, .int .i64 q.lo, .int .i64 q.inn, .int .i64 q.hi, .int .i64 q.look, .slice kA q.kids.length kcap, .int .u64 q.met] 34) := by rw [← hW4, ← hg]; exact heap_alloc_new _ _
  have k0 := cell_of_row _ _ 0 _ _ _ hB
  have k2 := cell_of_row _ _ 2 _ _ _ hB
  have kl := lt_of_heap hB
  simp at k0 k2
  rw [hW4, hg]
  clear hW4 hg hB d0 d1 d2 d3 d4 d5 d6 d7
  obtain ⟨tv, htv⟩ : ∃ t, wrap64 (q.sym - terms) = t := ⟨_, rfl⟩
  have hw2 : IntKind.i64.wrap (q.sym - terms) = tv := by rw [IntKind.wrap_i64]; unfold wrap64 at htv; exact htv
  have HTV := zh htv
  refine wp_region_bt (12) (pures_bt [0, 2, 4, 6, 7] (softs_bt [1, 3, 5] (.step 8 (pures_bt [9, 10, 11] .fin)))) (by kernel_rfl) (by kernel_rfl) ?_
  refine bt_pures _ fun K hK => ?_; simp only [pick, nthC]; (repeat go_big_quiet_step (fail)); refine wpQuiet_nil (hK _ ?_); clear hK K
  refine bt_softs _ fun K hK => ?_; simp only [pick, nthC]; (repeat go_big_quiet_step (fail)); refine wpQuiet_nil (hK _ ?_); clear hK K
  refine bt_step fun next hn => ?_; simp only [pick, nthC]
  go_wp2_with fail
  refine (CC.out _ (HX4.out.trans (by repeat first | exact xr _ | refine xa ?_ _ | refine xm ?_ _ _ | refine xd ?_ | refine xn ?_ _ | refine xs ?_ (by simp <;> omega) _))).mono ?_
  rintro e w3 ⟨A3, c3, qs, rfl, hn3, ho3, hx3⟩
  have HN3 := zh hn3
  have HO3 := zh ho3
  have HX3 := zh hx3
  have HX43 := zh (((by repeat first | exact xr _ | refine xa ?_ _ | refine xm ?_ _ _ | refine xd ?_ | refine xn ?_ _ | refine xs ?_ (by simp <;> omega) _) : Ext W4 W4.drew).trans hx3)
  clear hn3 ho3 hx3
  go_wp2_with fail
  refine segQ_mk (fun _ => laid HX43.out) (hn _ _ ?_)
  clear hn next
  refine bt_pures _ fun K hK => ?_; simp only [pick, nthC]; (repeat go_big_quiet_step (fail)); refine wpQuiet_nil (hK _ ?_); clear hK K
  (refine bt_fin ?_)
  go_wp2_with fail
  go_ret3
  rw [HTV.out]
  exact RunRet.of HN3.out HO3.out (HX4.out.trans (by repeat first | exact xr _ | refine xa ?_ _ | refine xm ?_ _ _ | refine xd ?_ | refine xn ?_ _ | refine xs ?_ (by simp <;> omega) _)) HX3.out
end
end Go.Proofs.YthpmncdfaggkiaaGreat
namespace Go.Proofs.YthpmncdfaggkiaaGreat
theorem ndT_par : ParOk ndT [-1, 0, 1, 1, 3, 3, 0] := by
  refine ⟨rfl, rfl, fun i j hu => ?_⟩
  obtain ⟨p, hp, hk⟩ := hu
  have hi : j < 7 := (List.getElem?_eq_some_iff.1 hp).1
  rcases (show j = 0 ∨ j = 1 ∨ j = 2 ∨ j = 3 ∨ j = 4 ∨ j = 5 ∨ j = 6 by omega) with rfl | rfl | rfl | rfl | rfl | rfl | rfl
  all_goals
    injection hp with hp
    subst hp
    simp [nd1] at hk
  · rcases hk with hk | hk
    · obtain rfl : i = 1 := by omega
      rfl
    · obtain rfl : i = 6 := by omega
      rfl
  · rcases hk with hk | hk
    · obtain rfl : i = 2 := by omega
      rfl
    · obtain rfl : i = 3 := by omega
      rfl
  · rcases hk with hk | hk
    · obtain rfl : i = 4 := by omega
      rfl
    · obtain rfl : i = 5 := by omega
      rfl
end Go.Proofs.YthpmncdfaggkiaaGreat
namespace Go.Proofs.YthpmncdfaggkiaaGreat
open Go.RowKit
attribute [local go_sem] more_drew more_drewN more_size more_cell more_frozen more_setCell drew_more drewN_more lt_add_r lt_add_r2 lt_add_r3 lt_add_r4 lt_add_r5 lt_add_r6 lt_add_r7 lt_add_r8 lt_add_r9 lt_add_r10 lt_self_r lt_self_r2
theorem target_all {A : Option Addr} {c : Nat} {ps : List Prt} {w : World} (d : Dty) (up r : Int) (h : PS w A c ps) (hr : TargetOk (nds ps) d up r) (ht : I64 d.level) : Calls Tryz.prog 17 #[.slice A ps.length c, dyV d, .int .i64 up] w fun e w' => e = .returned (.int .i64 r) ∧ Ext w w' := by
  by_cases hm : MayOk (nds ps) ∧ d.level < up
  · exact target_yes d up r h hm.1 hm.2 hr ht
  · rw [hr.2 hm]
    exact target_no d up h hm
theorem ndT_target (d : Dty) (up r : Int) (b : Nat) (hb : baseB ndT [7, 6, 3, 6, 5, 6, 7] d ndT.length 0 = b) (hr : climbF [-1, 0, 1, 1, 3, 3, 0] d.level.toNat (b : Int) = r) (hl : d.level < up) : TargetOk ndT d up r := ⟨fun _ _ => ⟨_, b, ndT_par, baseB_at ndT_may ndT_ends d b hb, hr.symm⟩, fun h => absurd ⟨ndT_may, hl⟩ h⟩
theorem ndT_target0 (d : Dty) (up : Int) (hl : ¬ d.level < up) : TargetOk ndT d up 0 := ⟨fun _ h => absurd h hl, fun _ => rfl⟩
theorem set_other {V : World} {b g : Nat} {cs : Array Value} {T : TypeId} (h : V.heap[b]? = some (.cells cs T)) (hne : g ≠ b) (k : Nat) (u : Value) : (V.setCell ⟨g, k, none⟩ u).heap[b]? = some (.cells cs T) := by simp [World.setCell, Array.getElem?_modify, h, hne]
theorem psNil25 (w : World) : PS w none 0 [] := ⟨fun h => absurd h (by simp), fun p hp => (by cases hp), ⟨by simp, fun j => by simp [kc, nds]⟩, by simp, by simp, fun _ => rfl⟩
theorem sub36 : subF ndT 3 6 = [⟨1, 2, 1, 1, 3, 4, [1, 2], 0⟩, ⟨0, 3, 1, 2, 3, 4, [], 2⟩, ⟨1, 2, 3, 3, 3, 4, [], 0⟩] := by decide
set_option maxRecDepth 100000 in
set_option maxHeartbeats 4000000 in
theorem targetNames_any (W : World) : Calls Tryz.prog 6 #[] W fun e w' => e = .returned (.bool true) ∧ Ext W w' := by
  go_enter Tryz.func6, Tryz.ntmps6
  go_wp2_with fail
  refine (example25_any W).mono ?_
  rintro e w1 ⟨A, c, ps, rfl, hps, hnd, hx1⟩
  have S := zh hps
  have HND := zh hnd
  have hpl : ps.length = 7 := by rw [← nds_length, hnd]; rfl
  have HX1 := zh hx1
  have HPL := zh hpl
  have HMY : Hid (MayOk (nds ps)) := zh (by rw [hnd]; exact ndT_may)
  clear hps hnd hx1 hpl
  go_upto_region 3 with fail
  obtain ⟨g2, hg2⟩ : ∃ n, w1.heap.size = n := ⟨_, rfl⟩
  obtain ⟨W2, hW2⟩ : ∃ V, w1.alloc (.cells #[.int .i64 1, .int .i64 2, .int .i64 2, .int .i64 0, .int .i64 0] 26) = V := ⟨_, rfl⟩
  have XW2 : Ext w1 W2 := by rw [← hW2]; exact (by repeat first | exact xr _ | refine xa ?_ _ | refine xm ?_ _ _ | refine xd ?_ | refine xn ?_ _ | refine xs ?_ (by simp <;> omega) _)
  have Bg2 : W2.heap[g2]? = some (.cells #[.int .i64 1, .int .i64 2, .int .i64 2, .int .i64 0, .int .i64 0] 26) := by rw [← hW2, ← hg2]; exact heap_alloc_new _ _
  rw [hg2, hW2]
  have HX2 := zh XW2
  have HB2 := zh Bg2
  clear hg2 hW2 XW2 Bg2
  go_wp2_with fail
  have hq3 : (nds ps)[3]? = some ⟨1, 2, 1, 1, 3, 4, [4, 5], 0⟩ := by rw [HND.out]; rfl
  refine (run_non 3 _ 1 6 (by rw [HND.out]; exact ndT_ends.part 3 6 rfl) (S.out.ext HX2.out) HMY.out hq3 rfl).mono ?_
  rintro e w3 ⟨A3, c3, q3, rfl, hn3, ho3, hx3⟩
  have hn3' : nds q3 = [⟨1, 2, 1, 1, 3, 4, [1, 2], 0⟩, ⟨0, 3, 1, 2, 3, 4, [], 2⟩, ⟨1, 2, 3, 3, 3, 4, [], 0⟩] := by rw [hn3, HND.out]; exact sub36
  have hl3 : q3.length = 3 := by rw [← nds_length, hn3']; rfl
  have HN3 := zh hn3'
  have HL3 := zh hl3
  have HX3 := zh (HX2.out.trans hx3)
  have HB3 := zh (ext_block HB2.out hx3)
  have HO3 := zh ho3
  rw [show wrap64 ((⟨1, 2, 1, 1, 3, 4, [4, 5], 0⟩ : Nd).sym - 1) = 0 from by unfold wrap64; decide]
  clear hq3 hn3 hn3' ho3 hx3 hl3
  go_wp2_with fail
  have hq0 : (nds ps)[0]? = some ⟨-3, 1, 0, 0, 3, 1, [1, 6], 0⟩ := by rw [HND.out]; rfl
  refine (run_root 0 _ 1 (S.out.ext HX3.out) HMY.out hq0 rfl).mono ?_
  rintro e w4 ⟨A4, c4, q4, rfl, hn4, ho4, hx4⟩
  have hl4 : q4.length = 7 := by rw [← nds_length, hn4, HND.out]; rfl
  have HL4 := zh hl4
  have HX4 := zh (HX3.out.trans hx4)
  have HB4 := zh (ext_block HB3.out hx4)
  have HO4 := zh (HO3.out.ext hx4)
  clear hq0 hn4 ho4 hx4 hl4
  go_wp2_with fail
  refine (run_no 2 1 (S.out.ext HX4.out) (fun ⟨_, k, p, e, hp, hk⟩ => by
    obtain rfl : k = 2 := by omega
    rw [HND.out] at hp
    injection hp with hp
    subst hp
    revert hk
    decide)).mono ?_
  rintro e w5 ⟨A5, c5, q5, rfl, hn5, ho5, hx5⟩
  have hl5 : q5.length = 0 := by rw [← nds_length, hn5]; rfl
  have HL5 := zh hl5
  have HX5 := zh (HX4.out.trans hx5)
  have HB5 := zh (ext_block HB4.out hx5)
  have HO5 := zh (HO4.out.ext hx5)
  clear hn5 ho5 hx5 hl5
  have HW5 : Hid (Ext w5 w5) := zh (Ext.refl _)
  have k0 := cell_of_row _ _ 0 _ _ _ HB5.out
  have k1 := cell_of_row _ _ 1 _ _ _ HB5.out
  have k2 := cell_of_row _ _ 2 _ _ _ HB5.out
  have k3 := cell_of_row _ _ 3 _ _ _ HB5.out
  have k4 := cell_of_row _ _ 4 _ _ _ HB5.out
  have kl := lt_of_heap HB5.out
  simp at k0 k1 k2 k3 k4
  go_upto_region 7 with fail
  obtain ⟨g12, hg12⟩ : ∃ n, w5.heap.size = n := ⟨_, rfl⟩
  obtain ⟨W6, hW6⟩ : ∃ V, w5.alloc (.cells #[.int .i64 1, .int .i64 2, .int .i64 2, .int .i64 0, .int .i64 0] 26) = V := ⟨_, rfl⟩
  have XW6 : Ext w5 W6 := by rw [← hW6]; exact (by repeat first | exact xr _ | refine xa ?_ _ | refine xm ?_ _ _ | refine xd ?_ | refine xn ?_ _ | refine xs ?_ (by simp <;> omega) _)
  have Bg12 : W6.heap[g12]? = some (.cells #[.int .i64 1, .int .i64 2, .int .i64 2, .int .i64 0, .int .i64 0] 26) := by rw [← hW6, ← hg12]; exact heap_alloc_new _ _
  rw [hg12, hW6]
  have HX6 := zh (HX5.out.trans XW6)
  have Hg2_6 := zh (ext_block HB5.out XW6)
  have Hg12_6 := zh Bg12
  have HSZ6 : Hid (w5.heap.size ≤ g12) := zh (by omega)
  have HOB6 := zh XW6
  clear hg12 hW6 XW6 Bg12 k0 k1 k2 k3 k4 kl
  have HWSg12 : Hid (w5.heap.size ≤ g12) := zh (by have h1 := HW5.out.size; have h2 := HSZ6.out; omega)
  have HNEg12_g2 : Hid (g2 < g12) := zh (by have h1 := lt_of_heap HB5.out; have h2 := HSZ6.out; omega)
  have HW5 := zh (HW5.out.trans HOB6.out)
  have k0 := cell_of_row _ _ 0 _ _ _ Hg12_6.out
  have k1 := cell_of_row _ _ 1 _ _ _ Hg12_6.out
  have k2 := cell_of_row _ _ 2 _ _ _ Hg12_6.out
  have k3 := cell_of_row _ _ 3 _ _ _ Hg12_6.out
  have k4 := cell_of_row _ _ 4 _ _ _ Hg12_6.out
  have kl := lt_of_heap Hg12_6.out
  simp at k0 k1 k2 k3 k4
  have kf : W6.frozen? ⟨g12, 4, none⟩ = false := by simp [World.frozen?, Hg12_6.out]
  go_upto_region 8 with fail
  obtain ⟨W7, hW7⟩ : ∃ V, W6.setCell ⟨g12, 4, none⟩ (.int .i64 1) = V := ⟨_, rfl⟩
  have HX7 : Hid (Ext w1 W7) := zh (by rw [← hW7]; exact HX6.out.setCell (p := ⟨g12, 4, none⟩) (by show w1.heap.size ≤ g12; have := HX5.out.size; have := HWSg12.out; omega) _)
  have XW7 : Ext w5 W7 := by rw [← hW7]; exact HW5.out.setCell (p := ⟨g12, 4, none⟩) (by show w5.heap.size ≤ g12; have := HWSg12.out; omega) _
  have Hg2_7 : Hid (W7.heap[g2]? = some (.cells #[.int .i64 1, .int .i64 2, .int .i64 2, .int .i64 0, .int .i64 0] 26)) := zh (by rw [← hW7]; exact set_other Hg2_6.out (Nat.ne_of_gt HNEg12_g2.out) _ _)
  have Hg12_7 : Hid (W7.heap[g12]? = some (.cells #[.int .i64 1, .int .i64 2, .int .i64 2, .int .i64 0, .int .i64 1] 26)) := zh (by rw [← hW7]; simp [World.setCell, Array.getElem?_modify, Hg12_6.out])
  have HW5 := zh XW7
  rw [hW7]
  clear hW7 XW7 kf k0 k1 k2 k3 k4 kl
  have k0 := cell_of_row _ _ 0 _ _ _ Hg2_7.out
  have k1 := cell_of_row _ _ 1 _ _ _ Hg2_7.out
  have k2 := cell_of_row _ _ 2 _ _ _ Hg2_7.out
  have k3 := cell_of_row _ _ 3 _ _ _ Hg2_7.out
  have k4 := cell_of_row _ _ 4 _ _ _ Hg2_7.out
  have kl := lt_of_heap Hg2_7.out
  simp at k0 k1 k2 k3 k4
  go_upto_region 9 with fail
  obtain ⟨g13, hg13⟩ : ∃ n, W7.heap.size = n := ⟨_, rfl⟩
  obtain ⟨W8, hW8⟩ : ∃ V, W7.alloc (.cells #[.int .i64 1, .int .i64 2, .int .i64 2, .int .i64 0, .int .i64 0] 26) = V := ⟨_, rfl⟩
  have XW8 : Ext W7 W8 := by rw [← hW8]; exact (by repeat first | exact xr _ | refine xa ?_ _ | refine xm ?_ _ _ | refine xd ?_ | refine xn ?_ _ | refine xs ?_ (by simp <;> omega) _)
  have Bg13 : W8.heap[g13]? = some (.cells #[.int .i64 1, .int .i64 2, .int .i64 2, .int .i64 0, .int .i64 0] 26) := by rw [← hW8, ← hg13]; exact heap_alloc_new _ _
  rw [hg13, hW8]
  have HX8 := zh (HX7.out.trans XW8)
  have Hg2_8 := zh (ext_block Hg2_7.out XW8)
  have Hg12_8 := zh (ext_block Hg12_7.out XW8)
  have Hg13_8 := zh Bg13
  have HSZ8 : Hid (W7.heap.size ≤ g13) := zh (by omega)
  have HOB8 := zh XW8
  clear hg13 hW8 XW8 Bg13 k0 k1 k2 k3 k4 kl
  have HWSg13 : Hid (w5.heap.size ≤ g13) := zh (by have h1 := HW5.out.size; have h2 := HSZ8.out; omega)
  have HNEg13_g2 : Hid (g2 < g13) := zh (by have h1 := lt_of_heap Hg2_7.out; have h2 := HSZ8.out; omega)
  have HNEg13_g12 : Hid (g12 < g13) := zh (by have h1 := lt_of_heap Hg12_7.out; have h2 := HSZ8.out; omega)
  have HW5 := zh (HW5.out.trans HOB8.out)
  have k0 := cell_of_row _ _ 0 _ _ _ Hg13_8.out
  have k1 := cell_of_row _ _ 1 _ _ _ Hg13_8.out
  have k2 := cell_of_row _ _ 2 _ _ _ Hg13_8.out
  have k3 := cell_of_row _ _ 3 _ _ _ Hg13_8.out
  have k4 := cell_of_row _ _ 4 _ _ _ Hg13_8.out
  have kl := lt_of_heap Hg13_8.out
  simp at k0 k1 k2 k3 k4
  have kf : W8.frozen? ⟨g13, 4, none⟩ = false := by simp [World.frozen?, Hg13_8.out]
  go_upto_region 10 with fail
  obtain ⟨W9, hW9⟩ : ∃ V, W8.setCell ⟨g13, 4, none⟩ (.int .i64 2) = V := ⟨_, rfl⟩
  have HX9 : Hid (Ext w1 W9) := zh (by rw [← hW9]; exact HX8.out.setCell (p := ⟨g13, 4, none⟩) (by show w1.heap.size ≤ g13; have := HX5.out.size; have := HWSg13.out; omega) _)
  have XW9 : Ext w5 W9 := by rw [← hW9]; exact HW5.out.setCell (p := ⟨g13, 4, none⟩) (by show w5.heap.size ≤ g13; have := HWSg13.out; omega) _
  have Hg2_9 : Hid (W9.heap[g2]? = some (.cells #[.int .i64 1, .int .i64 2, .int .i64 2, .int .i64 0, .int .i64 0] 26)) := zh (by rw [← hW9]; exact set_other Hg2_8.out (Nat.ne_of_gt HNEg13_g2.out) _ _)
  have Hg12_9 : Hid (W9.heap[g12]? = some (.cells #[.int .i64 1, .int .i64 2, .int .i64 2, .int .i64 0, .int .i64 1] 26)) := zh (by rw [← hW9]; exact set_other Hg12_8.out (Nat.ne_of_gt HNEg13_g12.out) _ _)
  have Hg13_9 : Hid (W9.heap[g13]? = some (.cells #[.int .i64 1, .int .i64 2, .int .i64 2, .int .i64 0, .int .i64 2] 26)) := zh (by rw [← hW9]; simp [World.setCell, Array.getElem?_modify, Hg13_8.out])
  have HW5 := zh XW9
  rw [hW9]
  clear hW9 XW9 kf k0 k1 k2 k3 k4 kl
  have k0 := cell_of_row _ _ 0 _ _ _ Hg2_9.out
  have k1 := cell_of_row _ _ 1 _ _ _ Hg2_9.out
  have k2 := cell_of_row _ _ 2 _ _ _ Hg2_9.out
  have k3 := cell_of_row _ _ 3 _ _ _ Hg2_9.out
  have k4 := cell_of_row _ _ 4 _ _ _ Hg2_9.out
  have kl := lt_of_heap Hg2_9.out
  simp at k0 k1 k2 k3 k4
  go_upto_region 11 with fail
  obtain ⟨g14, hg14⟩ : ∃ n, W9.heap.size = n := ⟨_, rfl⟩
  obtain ⟨W10, hW10⟩ : ∃ V, W9.alloc (.cells #[.int .i64 1, .int .i64 2, .int .i64 2, .int .i64 0, .int .i64 0] 26) = V := ⟨_, rfl⟩
  have XW10 : Ext W9 W10 := by rw [← hW10]; exact (by repeat first | exact xr _ | refine xa ?_ _ | refine xm ?_ _ _ | refine xd ?_ | refine xn ?_ _ | refine xs ?_ (by simp <;> omega) _)
  have Bg14 : W10.heap[g14]? = some (.cells #[.int .i64 1, .int .i64 2, .int .i64 2, .int .i64 0, .int .i64 0] 26) := by rw [← hW10, ← hg14]; exact heap_alloc_new _ _
  rw [hg14, hW10]
  have HX10 := zh (HX9.out.trans XW10)
  have Hg2_10 := zh (ext_block Hg2_9.out XW10)
  have Hg12_10 := zh (ext_block Hg12_9.out XW10)
  have Hg13_10 := zh (ext_block Hg13_9.out XW10)
  have Hg14_10 := zh Bg14
  have HSZ10 : Hid (W9.heap.size ≤ g14) := zh (by omega)
  have HOB10 := zh XW10
  clear hg14 hW10 XW10 Bg14 k0 k1 k2 k3 k4 kl
  have HWSg14 : Hid (w5.heap.size ≤ g14) := zh (by have h1 := HW5.out.size; have h2 := HSZ10.out; omega)
  have HNEg14_g2 : Hid (g2 < g14) := zh (by have h1 := lt_of_heap Hg2_9.out; have h2 := HSZ10.out; omega)
  have HNEg14_g12 : Hid (g12 < g14) := zh (by have h1 := lt_of_heap Hg12_9.out; have h2 := HSZ10.out; omega)
  have HNEg14_g13 : Hid (g13 < g14) := zh (by have h1 := lt_of_heap Hg13_9.out; have h2 := HSZ10.out; omega)
  have HW5 := zh (HW5.out.trans HOB10.out)
  have k0 := cell_of_row _ _ 0 _ _ _ Hg14_10.out
  have k1 := cell_of_row _ _ 1 _ _ _ Hg14_10.out
  have k2 := cell_of_row _ _ 2 _ _ _ Hg14_10.out
  have k3 := cell_of_row _ _ 3 _ _ _ Hg14_10.out
  have k4 := cell_of_row _ _ 4 _ _ _ Hg14_10.out
  have kl := lt_of_heap Hg14_10.out
  simp at k0 k1 k2 k3 k4
  have kf : W10.frozen? ⟨g14, 2, none⟩ = false := by simp [World.frozen?, Hg14_10.out]
  go_upto_region 12 with fail
  obtain ⟨W11, hW11⟩ : ∃ V, W10.setCell ⟨g14, 2, none⟩ (.int .i64 3) = V := ⟨_, rfl⟩
  have HX11 : Hid (Ext w1 W11) := zh (by rw [← hW11]; exact HX10.out.setCell (p := ⟨g14, 2, none⟩) (by show w1.heap.size ≤ g14; have := HX5.out.size; have := HWSg14.out; omega) _)
  have XW11 : Ext w5 W11 := by rw [← hW11]; exact HW5.out.setCell (p := ⟨g14, 2, none⟩) (by show w5.heap.size ≤ g14; have := HWSg14.out; omega) _
  have Hg2_11 : Hid (W11.heap[g2]? = some (.cells #[.int .i64 1, .int .i64 2, .int .i64 2, .int .i64 0, .int .i64 0] 26)) := zh (by rw [← hW11]; exact set_other Hg2_10.out (Nat.ne_of_gt HNEg14_g2.out) _ _)
  have Hg12_11 : Hid (W11.heap[g12]? = some (.cells #[.int .i64 1, .int .i64 2, .int .i64 2, .int .i64 0, .int .i64 1] 26)) := zh (by rw [← hW11]; exact set_other Hg12_10.out (Nat.ne_of_gt HNEg14_g12.out) _ _)
  have Hg13_11 : Hid (W11.heap[g13]? = some (.cells #[.int .i64 1, .int .i64 2, .int .i64 2, .int .i64 0, .int .i64 2] 26)) := zh (by rw [← hW11]; exact set_other Hg13_10.out (Nat.ne_of_gt HNEg14_g13.out) _ _)
  have Hg14_11 : Hid (W11.heap[g14]? = some (.cells #[.int .i64 1, .int .i64 2, .int .i64 3, .int .i64 0, .int .i64 0] 26)) := zh (by rw [← hW11]; simp [World.setCell, Array.getElem?_modify, Hg14_10.out])
  have HW5 := zh XW11
  rw [hW11]
  clear hW11 XW11 kf k0 k1 k2 k3 k4 kl
  go_upto_region 13 with fail
  obtain ⟨g15, hg15⟩ : ∃ n, W11.heap.size = n := ⟨_, rfl⟩
  obtain ⟨W12, hW12⟩ : ∃ V, W11.alloc (.cells #[.int .i64 9, .int .i64 3, .int .i64 3, .int .i64 0, .int .i64 0] 26) = V := ⟨_, rfl⟩
  have XW12 : Ext W11 W12 := by rw [← hW12]; exact (by repeat first | exact xr _ | refine xa ?_ _ | refine xm ?_ _ _ | refine xd ?_ | refine xn ?_ _ | refine xs ?_ (by simp <;> omega) _)
  have Bg15 : W12.heap[g15]? = some (.cells #[.int .i64 9, .int .i64 3, .int .i64 3, .int .i64 0, .int .i64 0] 26) := by rw [← hW12, ← hg15]; exact heap_alloc_new _ _
  rw [hg15, hW12]
  have HX12 := zh (HX11.out.trans XW12)
  have Hg2_12 := zh (ext_block Hg2_11.out XW12)
  have Hg12_12 := zh (ext_block Hg12_11.out XW12)
  have Hg13_12 := zh (ext_block Hg13_11.out XW12)
  have Hg14_12 := zh (ext_block Hg14_11.out XW12)
  have Hg15_12 := zh Bg15
  have HOB12 := zh XW12
  clear hg15 hW12 XW12 Bg15
  have HW5 := zh (HW5.out.trans HOB12.out)
  rw [HL3.out, HL4.out, HL5.out]
  have HO12 := zh (HO5.out.ext HW5.out)
  have HXE : Hid (Ext w1 W12) := HX12
  go_wp2_with fail
  refine (lives25_any _).mono ?_
  rintro e w13 ⟨rfl, hx13⟩
  have HX13 := zh (HXE.out.trans hx13)
  have HE13 := zh hx13
  obtain ⟨q1, hq1, hqn⟩ := nds_get' (ps := q3) (k := 1) (q := ⟨0, 3, 1, 2, 3, 4, [], 2⟩) (by rw [HN3.out]; rfl)
  obtain ⟨b3, o3, hA3, hb3, hc3⟩ := (HO12.out.ext hx13).cells.1 (by rw [HL3.out]; omega)
  have m7 := (hc3 1 q1 hq1).2.2.2.2.2.2.2
  rw [hqn] at m7
  subst hA3
  clear hc3 hq1 hqn hx13
  have k0 := cell_of_row _ _ 0 _ _ _ (ext_block Hg2_12.out HE13.out)
  have k1 := cell_of_row _ _ 1 _ _ _ (ext_block Hg2_12.out HE13.out)
  have k2 := cell_of_row _ _ 2 _ _ _ (ext_block Hg2_12.out HE13.out)
  have k3 := cell_of_row _ _ 3 _ _ _ (ext_block Hg2_12.out HE13.out)
  have k4 := cell_of_row _ _ 4 _ _ _ (ext_block Hg2_12.out HE13.out)
  have kl := lt_of_heap (ext_block Hg2_12.out HE13.out)
  simp at k0 k1 k2 k3 k4
  go_wp2_with fail
  refine (target_all ⟨1, 2, 2, 0, 0⟩ 3 3 (S.out.ext HX13.out) (by rw [HND.out]; exact ndT_target _ _ _ 3 (by decide) (by decide) (by decide)) (by show I64 0; unfold I64; omega)).mono ?_
  rintro e w14 ⟨rfl, hx⟩
  have HX14 := zh (HX13.out.trans hx)
  have HE14 := zh (HE13.out.trans hx)
  clear hx k0 k1 k2 k3 k4 kl m7 hb3
  have k0 := cell_of_row _ _ 0 _ _ _ (ext_block Hg12_12.out HE14.out)
  have k1 := cell_of_row _ _ 1 _ _ _ (ext_block Hg12_12.out HE14.out)
  have k2 := cell_of_row _ _ 2 _ _ _ (ext_block Hg12_12.out HE14.out)
  have k3 := cell_of_row _ _ 3 _ _ _ (ext_block Hg12_12.out HE14.out)
  have k4 := cell_of_row _ _ 4 _ _ _ (ext_block Hg12_12.out HE14.out)
  have kl := lt_of_heap (ext_block Hg12_12.out HE14.out)
  simp at k0 k1 k2 k3 k4
  go_wp2_with fail
  refine (target_all ⟨1, 2, 2, 0, 1⟩ 3 1 (S.out.ext HX14.out) (by rw [HND.out]; exact ndT_target _ _ _ 3 (by decide) (by decide) (by decide)) (by show I64 1; unfold I64; omega)).mono ?_
  rintro e w15 ⟨rfl, hx⟩
  have HX15 := zh (HX14.out.trans hx)
  have HE15 := zh (HE14.out.trans hx)
  clear hx k0 k1 k2 k3 k4 kl
  have k0 := cell_of_row _ _ 0 _ _ _ (ext_block Hg13_12.out HE15.out)
  have k1 := cell_of_row _ _ 1 _ _ _ (ext_block Hg13_12.out HE15.out)
  have k2 := cell_of_row _ _ 2 _ _ _ (ext_block Hg13_12.out HE15.out)
  have k3 := cell_of_row _ _ 3 _ _ _ (ext_block Hg13_12.out HE15.out)
  have k4 := cell_of_row _ _ 4 _ _ _ (ext_block Hg13_12.out HE15.out)
  have kl := lt_of_heap (ext_block Hg13_12.out HE15.out)
  simp at k0 k1 k2 k3 k4
  go_wp2_with fail
  refine (target_all ⟨1, 2, 2, 0, 2⟩ 3 0 (S.out.ext HX15.out) (by rw [HND.out]; exact ndT_target _ _ _ 3 (by decide) (by decide) (by decide)) (by show I64 2; unfold I64; omega)).mono ?_
  rintro e w16 ⟨rfl, hx⟩
  have HX16 := zh (HX15.out.trans hx)
  have HE16 := zh (HE15.out.trans hx)
  clear hx k0 k1 k2 k3 k4 kl
  have k0 := cell_of_row _ _ 0 _ _ _ (ext_block Hg13_12.out HE16.out)
  have k1 := cell_of_row _ _ 1 _ _ _ (ext_block Hg13_12.out HE16.out)
  have k2 := cell_of_row _ _ 2 _ _ _ (ext_block Hg13_12.out HE16.out)
  have k3 := cell_of_row _ _ 3 _ _ _ (ext_block Hg13_12.out HE16.out)
  have k4 := cell_of_row _ _ 4 _ _ _ (ext_block Hg13_12.out HE16.out)
  have kl := lt_of_heap (ext_block Hg13_12.out HE16.out)
  simp at k0 k1 k2 k3 k4
  go_wp2_with fail
  refine (target_all ⟨1, 2, 2, 0, 2⟩ 2 0 (S.out.ext HX16.out) (by rw [HND.out]; exact ndT_target0 _ _ (by decide)) (by show I64 2; unfold I64; omega)).mono ?_
  rintro e w17 ⟨rfl, hx⟩
  have HX17 := zh (HX16.out.trans hx)
  have HE17 := zh (HE16.out.trans hx)
  clear hx k0 k1 k2 k3 k4 kl
  have k0 := cell_of_row _ _ 0 _ _ _ (ext_block Hg2_12.out HE17.out)
  have k1 := cell_of_row _ _ 1 _ _ _ (ext_block Hg2_12.out HE17.out)
  have k2 := cell_of_row _ _ 2 _ _ _ (ext_block Hg2_12.out HE17.out)
  have k3 := cell_of_row _ _ 3 _ _ _ (ext_block Hg2_12.out HE17.out)
  have k4 := cell_of_row _ _ 4 _ _ _ (ext_block Hg2_12.out HE17.out)
  have kl := lt_of_heap (ext_block Hg2_12.out HE17.out)
  simp at k0 k1 k2 k3 k4
  go_wp2_with fail
  refine (target_all ⟨1, 2, 2, 0, 0⟩ 0 0 (S.out.ext HX17.out) (by rw [HND.out]; exact ndT_target0 _ _ (by decide)) (by show I64 0; unfold I64; omega)).mono ?_
  rintro e w18 ⟨rfl, hx⟩
  have HX18 := zh (HX17.out.trans hx)
  have HE18 := zh (HE17.out.trans hx)
  clear hx k0 k1 k2 k3 k4 kl
  have k0 := cell_of_row _ _ 0 _ _ _ (ext_block Hg14_12.out HE18.out)
  have k1 := cell_of_row _ _ 1 _ _ _ (ext_block Hg14_12.out HE18.out)
  have k2 := cell_of_row _ _ 2 _ _ _ (ext_block Hg14_12.out HE18.out)
  have k3 := cell_of_row _ _ 3 _ _ _ (ext_block Hg14_12.out HE18.out)
  have k4 := cell_of_row _ _ 4 _ _ _ (ext_block Hg14_12.out HE18.out)
  have kl := lt_of_heap (ext_block Hg14_12.out HE18.out)
  simp at k0 k1 k2 k3 k4
  go_wp2_with fail
  refine (base_yes ⟨1, 2, 3, 0, 0⟩ 3 (S.out.ext HX18.out) HMY.out (by rw [HND.out]; exact baseB_at ndT_may ndT_ends _ 3 (by decide))).mono ?_
  rintro e w19 ⟨rfl, hx⟩
  have HX19 := zh (HX18.out.trans hx)
  have HE19 := zh (HE18.out.trans hx)
  clear hx k0 k1 k2 k3 k4 kl
  have k0 := cell_of_row _ _ 0 _ _ _ (ext_block Hg2_12.out HE19.out)
  have k1 := cell_of_row _ _ 1 _ _ _ (ext_block Hg2_12.out HE19.out)
  have k2 := cell_of_row _ _ 2 _ _ _ (ext_block Hg2_12.out HE19.out)
  have k3 := cell_of_row _ _ 3 _ _ _ (ext_block Hg2_12.out HE19.out)
  have k4 := cell_of_row _ _ 4 _ _ _ (ext_block Hg2_12.out HE19.out)
  have kl := lt_of_heap (ext_block Hg2_12.out HE19.out)
  simp at k0 k1 k2 k3 k4
  go_wp2_with fail
  refine (holds_any 1 ⟨1, 2, 2, 0, 0⟩ (S.out.ext HX19.out)).mono ?_
  rintro e w20 ⟨bh, rfl, hbh, hx⟩
  obtain rfl : bh = true := hbh.2 (by rw [HND.out]; exact (holdsB_iff ndT_may ndT_ends 1 ⟨1, 2, 2, 0, 0⟩).1 (by decide))
  clear hbh
  have HX20 := zh (HX19.out.trans hx)
  have HE20 := zh (HE19.out.trans hx)
  clear hx k0 k1 k2 k3 k4 kl
  have k0 := cell_of_row _ _ 0 _ _ _ (ext_block Hg2_12.out HE20.out)
  have k1 := cell_of_row _ _ 1 _ _ _ (ext_block Hg2_12.out HE20.out)
  have k2 := cell_of_row _ _ 2 _ _ _ (ext_block Hg2_12.out HE20.out)
  have k3 := cell_of_row _ _ 3 _ _ _ (ext_block Hg2_12.out HE20.out)
  have k4 := cell_of_row _ _ 4 _ _ _ (ext_block Hg2_12.out HE20.out)
  have kl := lt_of_heap (ext_block Hg2_12.out HE20.out)
  simp at k0 k1 k2 k3 k4
  go_wp2_with fail
  refine (holds_any 4 ⟨1, 2, 2, 0, 0⟩ (S.out.ext HX20.out)).mono ?_
  rintro e w21 ⟨bh, rfl, hbh, hx⟩
  obtain rfl : bh = false := by
    cases bh with
    | false => rfl
    | true =>
      have h := hbh.1 rfl
      rw [HND.out] at h
      exact absurd ((holdsB_iff ndT_may ndT_ends 4 ⟨1, 2, 2, 0, 0⟩).2 h) (by decide)
  clear hbh
  have HX21 := zh (HX20.out.trans hx)
  have HE21 := zh (HE20.out.trans hx)
  clear hx k0 k1 k2 k3 k4 kl
  have k0 := cell_of_row _ _ 0 _ _ _ (ext_block Hg15_12.out HE21.out)
  have k1 := cell_of_row _ _ 1 _ _ _ (ext_block Hg15_12.out HE21.out)
  have k2 := cell_of_row _ _ 2 _ _ _ (ext_block Hg15_12.out HE21.out)
  have k3 := cell_of_row _ _ 3 _ _ _ (ext_block Hg15_12.out HE21.out)
  have k4 := cell_of_row _ _ 4 _ _ _ (ext_block Hg15_12.out HE21.out)
  have kl := lt_of_heap (ext_block Hg15_12.out HE21.out)
  simp at k0 k1 k2 k3 k4
  go_wp2_with fail
  refine (base_yes ⟨9, 3, 3, 0, 0⟩ 5 (S.out.ext HX21.out) HMY.out (by rw [HND.out]; exact baseB_at ndT_may ndT_ends _ 5 (by decide))).mono ?_
  rintro e w22 ⟨rfl, hx⟩
  have HX22 := zh (HX21.out.trans hx)
  have HE22 := zh (HE21.out.trans hx)
  clear hx k0 k1 k2 k3 k4 kl
  have k0 := cell_of_row _ _ 0 _ _ _ (ext_block Hg2_12.out HE22.out)
  have k1 := cell_of_row _ _ 1 _ _ _ (ext_block Hg2_12.out HE22.out)
  have k2 := cell_of_row _ _ 2 _ _ _ (ext_block Hg2_12.out HE22.out)
  have k3 := cell_of_row _ _ 3 _ _ _ (ext_block Hg2_12.out HE22.out)
  have k4 := cell_of_row _ _ 4 _ _ _ (ext_block Hg2_12.out HE22.out)
  have kl := lt_of_heap (ext_block Hg2_12.out HE22.out)
  simp at k0 k1 k2 k3 k4
  go_wp2_with fail
  refine (base_no ⟨1, 2, 2, 0, 0⟩ (psNil25 w22) (fun h => by have := h.pos; simp [nds] at this)).mono ?_
  rintro e w23 ⟨rfl, hx⟩
  have HX23 := zh (HX22.out.trans hx)
  have HE23 := zh (HE22.out.trans hx)
  clear hx k0 k1 k2 k3 k4 kl
  go_wp2_with fail
  go_ret
  exact ⟨rfl, HX1.out.trans HX23.out⟩
end Go.Proofs.YthpmncdfaggkiaaGreat
