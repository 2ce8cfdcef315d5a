/- The heap's New and Put. -/
import Derived.Test.YtjllikpocfppoaaD
import Derived.Test.YtjllikpocfppoaaE
import Derived.WalkSpells
import Derived.WalkLawsBesides
import Derived.BigRegion
import Derived.Deep.RegionWith
import Derived.Deep.QuietTactic
import Derived.Deep.DeepCutAuto
import Derived.Deep.RegionHeld3
import Derived.Deep.RegionLaw
import Derived.BigQuiet
import Derived.Lib.Hide
namespace Go.Proofs.Ytjllikpocfppoaa
open Go.RowKit
attribute [local go_sem] more_drew more_drewN more_size more_cell more_frozen more_setCell drew_more drewN_more lt_add_r lt_add_r2 lt_add_r3 lt_add_r4 lt_add_r5 lt_add_r6 lt_add_r7 lt_add_r8 lt_add_r9 lt_add_r10 lt_self_r lt_self_r2

/-- from a heap's row v to its row v', whatever else lies in w is as it was -/
structure Moves (p : Nat) (v v' : Value) (w w' : World) : Prop where
  turn : Turn (mine p v) w w'
  own : ∀ b, mine p v' b → mine p v b ∨ w.heap.size ≤ b
theorem Moves.of_turn {p : Nat} {v : Value} {w w' : World} (h : Turn (mine p v) w w') : Moves p v v w w' := ⟨h, fun _ hb => .inl hb⟩
theorem Moves.of_ext {p : Nat} {v : Value} {w w' : World} (h : Ext w w') : Moves p v v w w' := .of_turn (Turn.of_ext h)
theorem Moves.trans {p : Nat} {v v1 v2 : Value} {w w1 w2 : World} (h : Moves p v v1 w w1) (h' : Moves p v1 v2 w1 w2) : Moves p v v2 w w2 :=
  ⟨⟨h'.turn.os.trans h.turn.os, h'.turn.tape.trans h.turn.tape, h'.turn.output.trans h.turn.output, Nat.le_trans h.turn.size h'.turn.size, fun b hb hS =>
      (h'.turn.block b (Nat.lt_of_lt_of_le hb h.turn.size) fun hm => (h.own b hm).elim hS fun hle => absurd hb (Nat.not_lt.2 hle)).trans (h.turn.block b hb hS)⟩,
    fun b hb => (h'.own b hb).elim (fun hm => h.own b hm) fun hle => .inr (Nat.le_trans h.turn.size hle)⟩

set_option maxRecDepth 100000 in
set_option maxHeartbeats 3000000 in
theorem new_any (w : World) : Calls Try.prog 8 #[byKeyV] w fun e w' => e = .returned (.pointer (some ⟨w.heap.size, 0, none⟩)) ∧ w' = w.alloc (.cells #[byKeyV, .slice none 0 0, .int .i64 0] 56) := by
  unfold byKeyV
  go_enter Try.func8, Try.ntmps8
  go_wp2
  go_ret
  exact ⟨rfl, rfl⟩
theorem new_heap (w : World) : HeapAt (w.alloc (.cells #[byKeyV, .slice none 0 0, .int .i64 0] 56)) w.heap.size byKeyV (.slice none 0 0) [] 0 :=
  ⟨heap_alloc_new w _, World.ownsRow_nil _ _ _ _⟩
end Go.Proofs.Ytjllikpocfppoaa
