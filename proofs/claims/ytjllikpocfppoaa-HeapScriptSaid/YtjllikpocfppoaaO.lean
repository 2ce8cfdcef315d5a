/- The heap as the things in order. -/
import Derived.Test.YtjllikpocfppoaaM
import Derived.WalkSpells
import Derived.WalkLawsBesides
import Derived.BigRegion
import Derived.Deep.RegionWith
import Derived.Deep.QuietTactic
import Derived.Deep.DeepCutAuto
import Derived.Deep.RegionHeld3
import Derived.Deep.RegionLaw
import Derived.BigQuiet
import Derived.Lib.Hide
namespace Go.Proofs.Ytjllikpocfppoaa
open Go.RowKit
attribute [local go_sem] more_drew more_drewN more_size more_cell more_frozen more_setCell drew_more drewN_more lt_add_r lt_add_r2 lt_add_r3 lt_add_r4 lt_add_r5 lt_add_r6 lt_add_r7 lt_add_r8 lt_add_r9 lt_add_r10 lt_self_r lt_self_r2

/-- the heap object at p stands for the things R; the next one's number is c -/
def HeapR (w : World) (p : Nat) (v : Value) (R : List It) (c : Int) : Prop := ∃ X, HeapAt w p byKeyV v X c ∧ Models X R ∧ 0 ≤ c ∧ ∀ y ∈ R, y.1 < c
/-- all blocks of the heap's lie from B on -/
def From (B p : Nat) (v : Value) : Prop := ∀ b, mine p v b → B ≤ b
theorem From.new (B p : Nat) (h : B ≤ p) : From B p (.slice none 0 0) := fun b hb => hb.elim (fun e => by omega) (fun e => by cases e)
def BecomesR (p : Nat) (v : Value) (R : List It) (c : Int) (w w' : World) : Prop := ∃ v', HeapR w' p v' R c ∧ Moves p v v' w w'
section
variable {w w' : World} {p : Nat} {v : Value} {R : List It} {c : Int}
theorem HeapR.lt (h : HeapR w p v R c) : p < w.heap.size := by
  obtain ⟨X, h, _⟩ := h
  exact h.lt
theorem HeapR.ext (h : HeapR w p v R c) (e : Ext w w') : HeapR w' p v R c := by
  obtain ⟨X, h, hm⟩ := h
  exact ⟨X, h.ext e, hm⟩
/-- a block of another kind is none of the heap's -/
theorem HeapR.apart (h : HeapR w p v R c) {b : Nat} {o : Obj} (ho : w.heap[b]? = some o) (hn : ∀ cs fr, o ≠ .cells cs 56 fr ∧ o ≠ .cells cs 60 fr) : ¬ mine p v b := by
  obtain ⟨X, h, _⟩ := h
  rintro (rfl | hb)
  · rw [h.blk] at ho
    injection ho with ho
    exact (hn _ _).1 ho.symm
  · rcases h.row.2 with ⟨h1, _⟩ | ⟨g, cap, cur, h1, h2, h3, _⟩
    · rw [h1] at hb
      cases hb
    · rw [h1] at hb
      have : g = b := by simpa [Value.ownBlock] using hb
      subst this
      rw [h3] at ho
      injection ho with ho
      exact (hn _ _).2 ho.symm
/-- so it stays -/
theorem HeapR.stays (h : HeapR w p v R c) {v' : Value} (m : Moves p v v' w w') {b : Nat} {o : Obj} (ho : w.heap[b]? = some o) (hn : ∀ cs fr, o ≠ .cells cs 56 fr ∧ o ≠ .cells cs 60 fr) : w'.heap[b]? = some o := by
  have hb : b < w.heap.size := by
    rcases Nat.lt_or_ge b w.heap.size with hlt | hge
    · exact hlt
    · rw [Array.getElem?_eq_none hge] at ho
      cases ho
  exact (m.turn.block b hb (h.apart ho hn)).trans ho
theorem HeapR.below (h : HeapR w p v R c) {v' : Value} (m : Moves p v v' w w') {B : Nat} (hB : From B p v) : Below B w w' :=
  m.turn.below (Nat.le_of_lt (Nat.lt_of_le_of_lt (hB p (.inl rfl)) h.lt)) hB
theorem From.moves {B : Nat} (hB : From B p v) (h : HeapR w p v R c) {v' : Value} (m : Moves p v v' w w') : From B p v' := fun b hb =>
  (m.own b hb).elim (hB b) fun hle => Nat.le_trans (Nat.le_of_lt (Nat.lt_of_le_of_lt (hB p (.inl rfl)) h.lt)) hle
/-- a store into a block of another kind -/
theorem HeapR.turn (h : HeapR w p v R c) {S : Nat → Prop} (t : Turn S w w') (hn : ∀ b, S b → ∃ o, w.heap[b]? = some o ∧ ∀ cs fr, o ≠ .cells cs 56 fr ∧ o ≠ .cells cs 60 fr) : HeapR w' p v R c := by
  have hh := h
  obtain ⟨X, h, hm⟩ := h
  refine ⟨X, h.turn t (fun hs => ?_) (fun g hg hs => ?_), hm⟩
  · obtain ⟨o, ho, hne⟩ := hn _ hs
    exact hh.apart ho hne (.inl rfl)
  · obtain ⟨o, ho, hne⟩ := hn _ hs
    exact hh.apart ho hne (.inr hg)
end
theorem other_kind (cs : Array Value) (t : TypeId) (fr : Nat × Nat) (h1 : t ≠ 56) (h2 : t ≠ 60) : ∀ cs' fr', (Obj.cells cs t fr) ≠ .cells cs' 56 fr' ∧ (Obj.cells cs t fr) ≠ .cells cs' 60 fr' :=
  fun cs' fr' => ⟨fun h => by injection h with _ h; exact h1 h, fun h => by injection h with _ h; exact h2 h⟩
theorem kind27 (cs : Array Value) : ∀ cs' fr', (Obj.cells cs 27) ≠ .cells cs' 56 fr' ∧ (Obj.cells cs 27) ≠ .cells cs' 60 fr' := other_kind cs 27 (0, 0) (by decide) (by decide)

theorem newR (w : World) : HeapR (w.alloc (.cells #[byKeyV, .slice none 0 0, .int .i64 0] 56)) w.heap.size (.slice none 0 0) [] 0 := ⟨[], new_heap w, models_nil, by omega, by simp⟩
theorem putR (p : Nat) (v : Value) (R : List It) (c k d : Int) (hX : R.length ≤ 100000) (hc1 : c ≤ 100000) (w : World) (h : HeapR w p v R c) :
    Calls Try.prog 10 #[.pointer (some ⟨p, 0, none⟩), .agg #[.int .i64 k, .int .i64 d]] w fun e w' => e = .returned (.tuple #[]) ∧ BecomesR p v (insL R (c, k, d)) (c + 1) w w' := by
  obtain ⟨X, h, hm, hc0, hlt⟩ := h
  refine (put_any p v X c k d (by rw [models_length hm]; exact hX) hc0 hc1 w h).mono ?_
  rintro e w' ⟨he, v', h', m⟩
  refine ⟨he, v', ⟨_, h', put_models X R c k d hm hlt, by omega, fun y hy => ?_⟩, m⟩
  rcases (insL_mem R _ y).1 hy with hy | rfl
  · have := hlt y hy
    omega
  · show c < c + 1
    omega
theorem takeR_nil (p : Nat) (v : Value) (c : Int) (w : World) (h : HeapR w p v [] c) : Calls Try.prog 13 #[.pointer (some ⟨p, 0, none⟩)] w fun e w' => e = .returned (.tuple #[.agg #[.int .i64 0, .int .i64 0], .bool false]) ∧ Ext w w' := by
  obtain ⟨X, h, hm, hc0, hlt⟩ := h
  obtain rfl : X = [] := List.eq_nil_of_length_eq_zero (models_length hm)
  exact take_nil p v c w h
theorem takeR (p : Nat) (v : Value) (r : It) (R : List It) (c : Int) (w : World) (hX : R.length ≤ 100000) (h : HeapR w p v (r :: R) c) :
    Calls Try.prog 13 #[.pointer (some ⟨p, 0, none⟩)] w fun e w' => e = .returned (.tuple #[.agg #[.int .i64 r.2.1, .int .i64 r.2.2], .bool true]) ∧ BecomesR p v R c w w' := by
  obtain ⟨X, h, hm, hc0, hlt⟩ := h
  have hl := models_length hm
  simp at hl
  refine (take_any p v X c w (by omega) (by omega) h).mono ?_
  rintro e w' ⟨he, v', h', m⟩
  rw [least_models hm] at he
  exact ⟨he, v', ⟨_, h', take_models hm, hc0, fun y hy => hlt y (List.mem_cons_of_mem _ hy)⟩, m⟩
theorem lenR (p : Nat) (v : Value) (R : List It) (c : Int) (w : World) (h : HeapR w p v R c) : Calls Try.prog 14 #[.pointer (some ⟨p, 0, none⟩)] w fun e w' => e = .returned (.int .i64 R.length) ∧ Ext w w' := by
  obtain ⟨X, h, hm, hc0, hlt⟩ := h
  have := len_any p v X c w h
  rw [models_length hm] at this
  exact this
theorem leastR_nil (p : Nat) (v : Value) (c : Int) (w : World) (h : HeapR w p v [] c) : Calls Try.prog 15 #[.pointer (some ⟨p, 0, none⟩)] w fun e w' => e = .returned (.tuple #[.agg #[.int .i64 0, .int .i64 0], .bool false]) ∧ Ext w w' := by
  obtain ⟨X, h, hm, hc0, hlt⟩ := h
  obtain rfl : X = [] := List.eq_nil_of_length_eq_zero (models_length hm)
  exact least_any p v [] c w h
theorem leastR (p : Nat) (v : Value) (r : It) (R : List It) (c : Int) (w : World) (h : HeapR w p v (r :: R) c) :
    Calls Try.prog 15 #[.pointer (some ⟨p, 0, none⟩)] w fun e w' => e = .returned (.tuple #[.agg #[.int .i64 r.2.1, .int .i64 r.2.2], .bool true]) ∧ Ext w w' := by
  obtain ⟨X, h, hm, hc0, hlt⟩ := h
  have hl := models_length hm
  simp at hl
  have := least_any p v X c w h
  have e : decide (0 < X.length) = true := by simp; omega
  rw [show X.getD 0 (0, 0, 0) = r from least_models hm, e] at this
  exact this
end Go.Proofs.Ytjllikpocfppoaa
