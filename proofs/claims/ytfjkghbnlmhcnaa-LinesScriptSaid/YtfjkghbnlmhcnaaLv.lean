/- The example of lines; LinesNil: the walk. -/
import Derived.Test.YtfjkghbnlmhcnaaLf
import Derived.Test.YtfjkghbnlmhcnaaLp
import Derived.WalkSpells
import Derived.WalkLawsBesides
import Derived.BigRegion
import Derived.Deep.RegionWith
import Derived.Deep.QuietTactic
import Derived.Deep.DeepCutAuto
import Derived.Deep.RegionHeld3
import Derived.Deep.RegionLaw
import Derived.BigQuiet
import Derived.Lib.Hide
namespace Go.Proofs.Ytfjkghbnlmhcnaa
open Go.RowKit
attribute [local go_sem] more_drew more_drewN more_size more_cell more_frozen more_setCell drew_more drewN_more lt_add_r lt_add_r2 lt_add_r3 lt_add_r4 lt_add_r5 lt_add_r6 lt_add_r7 lt_add_r8 lt_add_r9 lt_add_r10 lt_self_r lt_self_r2

theorem Ints.of_block {w : World} {g : Nat} {cs : Array Value} {t : TypeId} {xs : List Int} (h : w.heap[g]? = some (.cells cs t)) (hc : cs.toList = iv xs) : Ints w (some ⟨g, 0, none⟩) xs := fun h0 => by
  refine ⟨g, 0, rfl, lt_of_heap h, fun k hk => ?_⟩
  have := iv_get hk
  rw [← hc, Array.getElem?_toList] at this
  rw [Nat.zero_add, cell_of_row _ _ _ _ _ (0, 0) h]
  exact this
theorem rise02 : Rise [0, 2] := fun a b x y hab hx hy => by
  match a, b with
  | 0, 1 => cases hx; cases hy; decide
  | 0, b + 2 => cases hy
  | 1, b + 2 => cases hy
  | a + 2, _ => cases hx
  | 0, 0 => omega
  | 1, 0 => omega
  | 1, 1 => omega
theorem found1 : FoundAt [0, 2] ((0 : Nat) + 1) 1 false := ⟨by decide, (fun k x hk => by
  match k with
  | 0 => cases hk; decide
  | 1 => cases hk; decide
  | k + 2 => cases hk), by decide⟩
theorem found2 : FoundAt [0, 2] ((0 : Nat) + (1 : Nat) + 1) 1 true := ⟨by decide, (fun k x hk => by
  match k with
  | 0 => cases hk; decide
  | 1 => cases hk; decide
  | k + 2 => cases hk), by decide⟩
theorem lineAt2 {i : Nat} {x : Int} (h : LineAt [0, 2] (2 : Nat) i x) : i = 1 ∧ x = 2 := LineAt.det ⟨rfl, by decide, fun k y hk => by
  match k with
  | 0 => cases hk; decide
  | 1 => cases hk; decide
  | k + 2 => cases hk⟩ h
theorem lineAt1 {i : Nat} {x : Int} (h : LineAt [0, 2] (1 : Nat) i x) : i = 0 ∧ x = 0 := LineAt.det ⟨rfl, by decide, fun k y hk => by
  match k with
  | 0 => cases hk; decide
  | 1 => cases hk; decide
  | k + 2 => cases hk⟩ h
theorem shift02 {zs : List Int} (h : ShiftTo [0, 2] 1 2 (-1) zs) : zs = [0, 1] := ShiftTo.det (ys := [0, 2]) (m := 1) (k := 2) (by_ := -1) ⟨rfl, fun k y hk => by
  match k with
  | 0 => cases hk; decide
  | 1 => cases hk; decide
  | k + 2 => cases hk⟩ h
set_option maxRecDepth 100000 in
set_option maxHeartbeats 2000000 in
theorem lives09_any (w : World) : Calls Try.prog 11 #[] w fun e w' => e = .returned (.bool true) ∧ Ext w w' := by
  go_enter Try.func11, Try.ntmps11
  go_wp2_with fail
  refine (new_any ⟨#[97, 10, 98]⟩ w (by decide)).mono ?_
  rintro e w1 ⟨g, rfl, hi1, hx1⟩
  have HI1 : Hid (IdxAt w1 w.heap.size g [0, 2] 3) := Lib.hid hi1
  have HX1 := Lib.hid hx1
  clear hi1 hx1
  go_wp2_with fail
  refine (line_yes 2 HI1.out (by decide) (by decide) (by decide) rfl rise02).mono ?_
  rintro e w2 ⟨i, x, rfl, hl, hx2⟩
  obtain ⟨rfl, rfl⟩ := lineAt2 hl
  have HI2 := Lib.hid (HI1.out.ext hx2)
  have HX2 := Lib.hid (HX1.out.trans hx2)
  clear hl hx2
  go_wp2_with fail
  refine (line_yes 1 HI2.out (by decide) (by decide) (by decide) rfl rise02).mono ?_
  rintro e w3 ⟨i, x, rfl, hl, hx3⟩
  obtain ⟨rfl, rfl⟩ := lineAt1 hl
  have HI3 := Lib.hid (HI2.out.ext hx3)
  have HX3 := Lib.hid (HX2.out.trans hx3)
  clear hl hx3
  go_wp2_with fail
  refine (edit_ok 0 1 1 1 false true ⟨#[]⟩ HI3.out HX3.out.size rise02.mono (by decide) (by decide) (by decide) (by decide) (by decide) found1 found2 (rep_same _ _ 1 (by decide) (by decide)) (by decide) (by decide) (by decide)).mono ?_
  rintro e w4 ⟨zs, rfl, hz, hi4, ht4⟩
  obtain rfl := shift02 hz
  have HI4 := Lib.hid hi4
  have HX4 : Hid (Ext w w4) := Lib.hid (Ext.of_below ((HX3.out.below).trans (ht4.below HX3.out.size fun k hk => by
    obtain ⟨A, c, h1, h2, h3⟩ := HI3.out
    rcases hk with rfl | hk | hk
    · exact h3
    · exact own_block h2 k (blk_own (RowAt.of h1 hk))
    · have := HX3.out.size; omega)))
  clear hz hi4 ht4
  go_wp2_with fail
  refine (starts_any HI4.out (by decide) (by decide)).mono ?_
  rintro e w5 ⟨A5, c5, rfl, ho5, hx5⟩
  have HX5 := Lib.hid (HX4.out.trans hx5)
  have HO5 := Lib.hid ho5
  clear ho5 hx5
  go_wp2_with fail
  refine (same_any A5 _ [0, 1] [0, 1] c5 2 _ (HO5.out.ints.1.ext (by repeat (first | exact Ext.refl _ | refine Ext.alloc ?_ _ | refine Ext.more ?_ _ _ | refine Ext.drew ?_ | refine Ext.drewN ?_ _ | refine Ext.setCell ?_ (by simp <;> omega) _))) (Ints.of_block (heap_alloc_new w5 _) rfl) (by decide) (by decide)).mono ?_
  rintro e w6 ⟨rfl, hx6⟩
  have HX6 : Hid (Ext w w6) := Lib.hid (HX5.out.trans (Ext.trans (by repeat (first | exact Ext.refl _ | refine Ext.alloc ?_ _ | refine Ext.more ?_ _ _ | refine Ext.drew ?_ | refine Ext.drewN ?_ _ | refine Ext.setCell ?_ (by simp <;> omega) _)) hx6))
  clear hx6
  go_wp2_with fail
  go_ret
  exact ⟨rfl, HX6.out⟩
set_option maxRecDepth 100000 in
set_option maxHeartbeats 2000000 in
theorem linesNil_any (a d i p q : Int) (W : World) : Calls Try.prog 8 #[.agg #[.int .i64 a, .int .i64 d, .int .i64 i], .int .i64 p, .int .i64 q] W fun e w' => e = .returned (.bool true) ∧ Ext W w' := by
  go_enter Try.func8, Try.ntmps8
  go_wp2_with fail
  obtain ⟨b, hb⟩ : ∃ b, W.heap.size = b := ⟨_, rfl⟩
  obtain ⟨W0, hW0⟩ : ∃ W0, W.alloc (.cells #[.int .i64 a, .int .i64 d, .int .i64 i] 34) = W0 := ⟨_, rfl⟩
  have X0 : Hid (Ext W W0) := Lib.hid (by rw [← hW0]; exact (by repeat (first | exact Ext.refl _ | refine Ext.alloc ?_ _ | refine Ext.more ?_ _ _ | refine Ext.drew ?_ | refine Ext.drewN ?_ _ | refine Ext.setCell ?_ (by simp <;> omega) _)))
  have B0 : Hid (W0.heap[b]? = some (.cells #[.int .i64 a, .int .i64 d, .int .i64 i] 34)) := Lib.hid (by rw [← hW0, ← hb]; exact heap_alloc_new _ _)
  rw [hW0, hb]
  clear hW0 hb
  refine (lives09_any W0).mono ?_
  rintro e w1 ⟨rfl, hx1⟩
  have HX1 := Lib.hid hx1
  clear hx1
  go_wp2_with fail
  refine (start_nil p w1).mono ?_
  rintro e w2 ⟨rfl, rfl⟩
  go_wp2_with fail
  refine (line_nil p w1).mono ?_
  rintro e w2 ⟨rfl, rfl⟩
  go_wp2_with fail
  refine (place_nil p q w1).mono ?_
  rintro e w2 ⟨rfl, rfl⟩
  have B1 := ext_block B0.out HX1.out
  have e0 := cell_of_row _ _ 0 _ _ _ B1
  have e1 := cell_of_row _ _ 1 _ _ _ B1
  have e2 := cell_of_row _ _ 2 _ _ _ B1
  simp at e0 e1 e2
  have le := lt_of_heap B1
  clear B1
  go_wp2_with fail
  refine (edit_nil a d i ⟨#[]⟩ w1).mono ?_
  rintro e w3 ⟨rfl, hx3⟩
  have HX3 := Lib.hid (HX1.out.trans hx3)
  clear hx3 e0 e1 e2 le
  go_wp2_with fail
  refine (len_nil w3).mono ?_
  rintro e w2 ⟨rfl, rfl⟩
  go_wp2_with fail
  refine (bytes_nil w3).mono ?_
  rintro e w2 ⟨rfl, rfl⟩
  go_wp2_with fail
  refine (starts_nil w3).mono ?_
  rintro e w2 ⟨rfl, rfl⟩
  go_wp2_with fail
  go_ret
  exact ⟨rfl, X0.out.trans HX3.out⟩
end Go.Proofs.Ytfjkghbnlmhcnaa
