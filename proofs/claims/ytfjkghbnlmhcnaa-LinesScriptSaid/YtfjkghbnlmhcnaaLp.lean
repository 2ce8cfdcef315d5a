/- The contract of an index's Place; what no index answers. -/
import Derived.Test.YtfjkghbnlmhcnaaLb
import Derived.WalkSpells
import Derived.WalkLawsBesides
import Derived.BigRegion
import Derived.Deep.RegionWith
import Derived.Deep.QuietTactic
import Derived.Deep.DeepCutAuto
import Derived.Deep.RegionHeld3
import Derived.Deep.RegionLaw
import Derived.BigQuiet
import Derived.Lib.Hide
namespace Go.Proofs.Ytfjkghbnlmhcnaa
open Go.RowKit
attribute [local go_sem] more_drew more_drewN more_size more_cell more_frozen more_setCell drew_more drewN_more lt_add_r lt_add_r2 lt_add_r3 lt_add_r4 lt_add_r5 lt_add_r6 lt_add_r7 lt_add_r8 lt_add_r9 lt_add_r10 lt_self_r lt_self_r2

section
variable {w : World} {base g : Nat} {xs : List Int} {n : Nat}
/-- the place of a line and a column -/
def PlaceOk (xs : List Int) (n : Nat) (line col p : Int) : Prop := ∃ (k : Nat) (x : Int), line = (k : Int) ∧ xs[k]? = some x ∧ 0 ≤ col ∧ x + col ≤ n ∧ (∀ y, xs[k + 1]? = some y → x + col < y) ∧ p = x + col
theorem PlaceOk.det {line col p p' : Int} (h : PlaceOk xs n line col p) (h' : PlaceOk xs n line col p') : p' = p := by
  obtain ⟨k, x, rfl, hk, _, _, _, rfl⟩ := h
  obtain ⟨k', x', e, hk', _, _, _, rfl⟩ := h'
  obtain rfl : k = k' := by omega
  rw [hk] at hk'
  rw [Option.some.inj hk']
/-- places lie from 0 up to the end -/
def Within (xs : List Int) (n : Nat) : Prop := ∀ x ∈ xs, 0 ≤ x ∧ x ≤ n
set_option maxRecDepth 100000 in
set_option maxHeartbeats 400000 in
theorem place_yes1 (k : Nat) (x y col : Int) (h : IdxAt w base g xs n) (hk : xs[k]? = some x) (hy : xs[k + 1]? = some y) (hx : 0 ≤ x ∧ x ≤ n) (hn : n ≤ 1000000) (hl : xs.length ≤ 1000000) (hc0 : ¬ col < 0) (hcn : ¬ (n : Int) - x < col) (hxy : ¬ y ≤ x + col) : Calls Try.prog 21 #[pt g, .int .i64 k, .int .i64 col] w fun e w' => e = .returned (.tuple #[.int .i64 (x + col), .bool true]) ∧ w = w' := by
  have CS := Lib.hid (start_yes k x h hk)
  have CS2 := start_yes (k + 1) y h hy
  have e2 : ((k + 1 : Nat) : Int) = (k : Int) + 1 := by omega
  rw [e2] at CS2
  have HCS2 := Lib.hid CS2
  have hkl := (List.getElem?_eq_some_iff.1 hk).1
  obtain ⟨A, c, c0, c1, lg, hI, _, htop, _, _⟩ := h.cells
  have b1 : wrap64 ((n : Int) - x) = n - x := IntWalk.wrap64_in _ (by omega)
  have b2 : wrap64 (x + col) = x + col := IntWalk.wrap64_in _ (by omega)
  have b3 : wrap64 ((k : Int) + 1) = (k : Int) + 1 := IntWalk.wrap64_in _ (by omega)
  clear hk h hI c0 htop CS2 e2 hy hx hn hl
  go_enter Try.func21, Try.ntmps21
  go_wp2_with fail
  refine CS.out.mono ?_
  rintro e w1 ⟨rfl, rfl⟩
  go_wp2_with fail
  refine HCS2.out.mono ?_
  rintro e w1 ⟨rfl, rfl⟩
  go_wp2_with fail
  rw [b2]
  go_ret2
  exact ⟨rfl, rfl⟩
set_option maxRecDepth 100000 in
set_option maxHeartbeats 400000 in
theorem place_yes2 (k : Nat) (x col : Int) (h : IdxAt w base g xs n) (hk : xs[k]? = some x) (hy : xs.length ≤ k + 1) (hx : 0 ≤ x ∧ x ≤ n) (hn : n ≤ 1000000) (hl : xs.length ≤ 1000000) (hc0 : ¬ col < 0) (hcn : ¬ (n : Int) - x < col) : Calls Try.prog 21 #[pt g, .int .i64 k, .int .i64 col] w fun e w' => e = .returned (.tuple #[.int .i64 (x + col), .bool true]) ∧ w = w' := by
  have CS := Lib.hid (start_yes k x h hk)
  have HCS2 := Lib.hid (start_no ((k : Int) + 1) h (.inr (by omega)))
  have hkl := (List.getElem?_eq_some_iff.1 hk).1
  obtain ⟨A, c, c0, c1, lg, hI, _, htop, _, _⟩ := h.cells
  have b1 : wrap64 ((n : Int) - x) = n - x := IntWalk.wrap64_in _ (by omega)
  have b2 : wrap64 (x + col) = x + col := IntWalk.wrap64_in _ (by omega)
  have b3 : wrap64 ((k : Int) + 1) = (k : Int) + 1 := IntWalk.wrap64_in _ (by omega)
  clear hk h hI c0 htop hy hx hn hl
  go_enter Try.func21, Try.ntmps21
  go_wp2_with fail
  refine CS.out.mono ?_
  rintro e w1 ⟨rfl, rfl⟩
  go_wp2_with fail
  refine HCS2.out.mono ?_
  rintro e w1 ⟨rfl, rfl⟩
  go_wp2_with fail
  rw [b2]
  go_ret2
  exact ⟨rfl, rfl⟩
theorem place_yes (line col p : Int) (h : IdxAt w base g xs n) (hn : n ≤ 1000000) (hw : Within xs n) (hl : xs.length ≤ 1000000) (hp : PlaceOk xs n line col p) : Calls Try.prog 21 #[pt g, .int .i64 line, .int .i64 col] w fun e w' => e = .returned (.tuple #[.int .i64 p, .bool true]) ∧ w = w' := by
  obtain ⟨k, x, rfl, hk, hc0, hcn, hnx, rfl⟩ := hp
  have hx := hw x (List.mem_of_getElem? hk)
  by_cases hk2 : k + 1 < xs.length
  · obtain ⟨y, hy⟩ : ∃ y, xs[k + 1]? = some y := ⟨_, List.getElem?_eq_getElem hk2⟩
    have := hnx y hy
    exact place_yes1 k x y col h hk hy hx hn hl (by omega) (by omega) (by omega)
  · exact place_yes2 k x col h hk (by omega) hx hn hl (by omega) (by omega)
set_option maxRecDepth 100000 in
set_option maxHeartbeats 400000 in
theorem place_no1 (line col : Int) (h : IdxAt w base g xs n) (hin : line < 0 ∨ (xs.length : Int) ≤ line) : Calls Try.prog 21 #[pt g, .int .i64 line, .int .i64 col] w fun e w' => e = .returned (.tuple #[.int .i64 0, .bool false]) ∧ w = w' := by
  have CS := Lib.hid (start_no line h hin)
  clear hin h
  go_enter Try.func21, Try.ntmps21
  go_wp2_with fail
  refine CS.out.mono ?_
  rintro e w1 ⟨rfl, rfl⟩
  go_wp2_with fail
  go_ret2
  exact ⟨rfl, rfl⟩
set_option maxRecDepth 100000 in
set_option maxHeartbeats 1000000 in
theorem place_no2 (k : Nat) (x col : Int) (h : IdxAt w base g xs n) (hk : xs[k]? = some x) (hx : 0 ≤ x ∧ x ≤ n) (hn : n ≤ 1000000) (hc : col < 0 ∨ (n : Int) - x < col) : Calls Try.prog 21 #[pt g, .int .i64 k, .int .i64 col] w fun e w' => e = .returned (.tuple #[.int .i64 0, .bool false]) ∧ w = w' := by
  have CS := Lib.hid (start_yes k x h hk)
  obtain ⟨A, c, c0, c1, lg, hI, _, htop, _, _⟩ := h.cells
  have b1 : wrap64 ((n : Int) - x) = n - x := IntWalk.wrap64_in _ (by omega)
  clear hk h hI c0 htop
  by_cases hc0 : col < 0
  · clear hc hx hn
    go_enter Try.func21, Try.ntmps21
    go_wp2_with fail
    refine CS.out.mono ?_
    rintro e w1 ⟨rfl, rfl⟩
    go_wp2_with fail
    go_ret2
    exact ⟨rfl, rfl⟩
  · have hcn : (n : Int) - x < col := by omega
    clear hc hx hn
    go_enter Try.func21, Try.ntmps21
    go_wp2_with fail
    refine CS.out.mono ?_
    rintro e w1 ⟨rfl, rfl⟩
    go_wp2_with fail
    go_ret2
    exact ⟨rfl, rfl⟩
set_option maxRecDepth 100000 in
set_option maxHeartbeats 1000000 in
theorem place_no3 (k : Nat) (x y col : Int) (h : IdxAt w base g xs n) (hk : xs[k]? = some x) (hy : xs[k + 1]? = some y) (hx : 0 ≤ x ∧ x ≤ n) (hn : n ≤ 1000000) (hl : xs.length ≤ 1000000) (hc0 : ¬ col < 0) (hcn : ¬ (n : Int) - x < col) (hxy : y ≤ x + col) : Calls Try.prog 21 #[pt g, .int .i64 k, .int .i64 col] w fun e w' => e = .returned (.tuple #[.int .i64 0, .bool false]) ∧ w = w' := by
  have CS := Lib.hid (start_yes k x h hk)
  have CS2 := start_yes (k + 1) y h hy
  have e2 : ((k + 1 : Nat) : Int) = (k : Int) + 1 := by omega
  rw [e2] at CS2
  have HCS2 := Lib.hid CS2
  have hkl := (List.getElem?_eq_some_iff.1 hk).1
  obtain ⟨A, c, c0, c1, lg, hI, _, htop, _, _⟩ := h.cells
  have b1 : wrap64 ((n : Int) - x) = n - x := IntWalk.wrap64_in _ (by omega)
  have b2 : wrap64 (x + col) = x + col := IntWalk.wrap64_in _ (by omega)
  have b3 : wrap64 ((k : Int) + 1) = (k : Int) + 1 := IntWalk.wrap64_in _ (by omega)
  clear hk h hI c0 htop CS2 e2 hy hx hn hl
  go_enter Try.func21, Try.ntmps21
  go_wp2_with fail
  refine CS.out.mono ?_
  rintro e w1 ⟨rfl, rfl⟩
  go_wp2_with fail
  refine HCS2.out.mono ?_
  rintro e w1 ⟨rfl, rfl⟩
  go_wp2_with fail
  go_ret2
  exact ⟨rfl, rfl⟩
theorem place_no (line col : Int) (h : IdxAt w base g xs n) (hn : n ≤ 1000000) (hw : Within xs n) (hl : xs.length ≤ 1000000) (hp : ¬ ∃ p, PlaceOk xs n line col p) : Calls Try.prog 21 #[pt g, .int .i64 line, .int .i64 col] w fun e w' => e = .returned (.tuple #[.int .i64 0, .bool false]) ∧ w = w' := by
  by_cases hin : line < 0 ∨ (xs.length : Int) ≤ line
  · exact place_no1 line col h hin
  · obtain ⟨k, rfl⟩ : ∃ k : Nat, line = (k : Int) := ⟨line.toNat, by omega⟩
    obtain ⟨x, hk⟩ : ∃ x, xs[k]? = some x := ⟨_, List.getElem?_eq_getElem (by omega)⟩
    have hx := hw x (List.mem_of_getElem? hk)
    by_cases hc : col < 0 ∨ (n : Int) - x < col
    · exact place_no2 k x col h hk hx hn hc
    · obtain ⟨y, hy, hxy⟩ : ∃ y, xs[k + 1]? = some y ∧ y ≤ x + col := by
        refine Decidable.byContradiction fun hno => hp ⟨x + col, k, x, rfl, hk, by omega, by omega, fun y hy => ?_, rfl⟩
        rcases Int.lt_or_le (x + col) y with h1 | h1
        · exact h1
        · exact absurd ⟨y, hy, h1⟩ hno
      exact place_no3 k x y col h hk hy hx hn hl (fun h => hc (.inl h)) (fun h => hc (.inr h)) hxy
end
theorem len_nil (w : World) : Calls Try.prog 19 #[.pointer none] w fun e w' => e = .returned (.int .i64 0) ∧ w = w' := by
  go_enter Try.func19, Try.ntmps19
  go_wp2_with fail
  go_ret
  exact ⟨rfl, rfl⟩
theorem bytes_nil (w : World) : Calls Try.prog 17 #[.pointer none] w fun e w' => e = .returned (.int .i64 0) ∧ w = w' := by
  go_enter Try.func17, Try.ntmps17
  go_wp2_with fail
  go_ret
  exact ⟨rfl, rfl⟩
theorem starts_nil (w : World) : Calls Try.prog 14 #[.pointer none] w fun e w' => e = .returned (.slice none 0 0) ∧ w = w' := by
  go_enter Try.func14, Try.ntmps14
  go_wp2_with fail
  go_ret
  exact ⟨rfl, rfl⟩
theorem start_nil (a : Int) (w : World) : Calls Try.prog 18 #[.pointer none, .int .i64 a] w fun e w' => e = .returned (.tuple #[.int .i64 0, .bool false]) ∧ w = w' := by
  by_cases h0 : a < 0
  · go_enter Try.func18, Try.ntmps18
    go_wp2_with fail
    go_ret2
    exact ⟨rfl, rfl⟩
  · go_enter Try.func18, Try.ntmps18
    go_wp2_with fail
    refine (len_nil w).mono ?_
    rintro e w1 ⟨rfl, rfl⟩
    have h1 : 0 ≤ a := by omega
    go_wp2_with fail
    go_ret2
    exact ⟨rfl, rfl⟩
theorem line_nil (a : Int) (w : World) : Calls Try.prog 20 #[.pointer none, .int .i64 a] w fun e w' => e = .returned (.tuple #[.int .i64 0, .int .i64 0, .bool false]) ∧ w = w' := by
  go_enter Try.func20, Try.ntmps20
  go_wp2_with fail
  go_ret3
  exact ⟨rfl, rfl⟩
theorem place_nil (a b : Int) (w : World) : Calls Try.prog 21 #[.pointer none, .int .i64 a, .int .i64 b] w fun e w' => e = .returned (.tuple #[.int .i64 0, .bool false]) ∧ w = w' := by
  go_enter Try.func21, Try.ntmps21
  go_wp2_with fail
  refine (start_nil a w).mono ?_
  rintro e w1 ⟨rfl, rfl⟩
  go_wp2_with fail
  go_ret2
  exact ⟨rfl, rfl⟩
set_option maxRecDepth 100000 in
theorem edit_nil (a b c : Int) (s : ByteArray) (w : World) : Calls Try.prog 15 #[.pointer none, .agg #[.int .i64 a, .int .i64 b, .int .i64 c], .string s] w fun e w' => e = .returned (.int .i64 1) ∧ Ext w w' := by
  go_enter Try.func15, Try.ntmps15
  go_wp2_with fail
  go_ret
  exact ⟨rfl, (by repeat (first | exact Ext.refl _ | refine Ext.alloc ?_ _ | refine Ext.more ?_ _ _ | refine Ext.drew ?_ | refine Ext.drewN ?_ _ | refine Ext.setCell ?_ (by simp <;> omega) _))⟩
end Go.Proofs.Ytfjkghbnlmhcnaa
