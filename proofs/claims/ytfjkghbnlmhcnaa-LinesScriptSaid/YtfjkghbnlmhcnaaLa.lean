/- The contracts of slices.BinarySearch, Clone, lines.behind, New. -/
import Derived.Test.YtfjkghbnlmhcnaaRi
import Derived.Lib.ConvBytes
import Derived.WalkSpells
import Derived.WalkLawsBesides
import Derived.BigRegion
import Derived.Deep.RegionWith
import Derived.Deep.QuietTactic
import Derived.Deep.DeepCutAuto
import Derived.Deep.RegionHeld3
import Derived.Deep.RegionLaw
import Derived.BigQuiet
import Derived.Lib.Hide
namespace Go.Proofs.Ytfjkghbnlmhcnaa
open Go.RowKit
attribute [local go_sem] more_drew more_drewN more_size more_cell more_frozen more_setCell drew_more drewN_more lt_add_r lt_add_r2 lt_add_r3 lt_add_r4 lt_add_r5 lt_add_r6 lt_add_r7 lt_add_r8 lt_add_r9 lt_add_r10 lt_self_r lt_self_r2

theorem nanS (x : Int) (w : World) : Calls Try.prog 55 #[.int .i64 x] w fun e w' => e = .returned (.bool false) ∧ w = w' := by
  go_enter Try.func55, Try.ntmps55
  have h : (x != x) = false := by simp
  go_wp2_with fail
  go_ret
  exact ⟨rfl, rfl⟩
theorem nanC (x : Int) (w : World) : Calls Try.prog 61 #[.int .i64 x] w fun e w' => e = .returned (.bool false) ∧ w = w' := by
  go_enter Try.func61, Try.ntmps61
  have h : (x != x) = false := by simp
  go_wp2_with fail
  go_ret
  exact ⟨rfl, rfl⟩
theorem less_any (x y : Int) (w : World) : Calls Try.prog 54 #[.int .i64 x, .int .i64 y] w fun e w' => e = .returned (.bool (decide (x < y))) ∧ w = w' := by
  go_enter Try.func54, Try.ntmps54
  obtain ⟨b, hb⟩ : ∃ b, decide (x < y) = b := ⟨_, rfl⟩
  rw [hb]
  go_wp2_with fail
  refine (nanC x w).mono ?_
  rintro e w1 ⟨rfl, rfl⟩
  go_wp2_with fail
  go_ret
  exact ⟨rfl, rfl⟩
/-- rising numbers -/
def Mono (xs : List Int) : Prop := ∀ (a b : Nat) (x y : Int), a ≤ b → xs[a]? = some x → xs[b]? = some y → x ≤ y
/-- where a number is among rising ones -/
def FoundAt (xs : List Int) (t : Int) (i : Nat) (f : Bool) : Prop := i ≤ xs.length ∧ (∀ (k : Nat) (x : Int), xs[k]? = some x → (k < i ↔ x < t)) ∧ (f = true ↔ xs[i]? = some t)
def SearchRet (w : World) (xs : List Int) (t : Int) (e : Ending) (w' : World) : Prop := ∃ (i : Nat) (f : Bool), e = .returned (.tuple #[.int .i64 (i : Int), .bool f]) ∧ FoundAt xs t i f ∧ w = w'
set_option maxRecDepth 100000 in
set_option maxHeartbeats 1000000 in
theorem search_any (A : Option Addr) (c : Nat) (xs : List Int) (t : Int) (w : World) (hI : Ints w A xs) (hl : xs.length ≤ 1000000) (hc : xs.length ≤ c) (hm : Mono xs) :
    Calls Try.prog 42 #[.slice A xs.length c, .int .i64 t] w (SearchRet w xs t) := by
  have HI := Lib.hid hI
  have HM := Lib.hid hm
  clear hI hm
  go_enter Try.func42, Try.ntmps42
  go_wp2_with fail
  go_loop [7, 8, 9] (fun i j _ => ∃ (a b : Nat), a ≤ b ∧ b ≤ xs.length ∧ i = .int .i64 a ∧ j = .int .i64 b ∧ Hid ((∀ (k : Nat) (x : Int), xs[k]? = some x → k < a → x < t) ∧ ∀ (k : Nat) (x : Int), xs[k]? = some x → b ≤ k → t ≤ x)) (fun i j _ => (intOf j).toNat - (intOf i).toNat)
  case atStart => exact ⟨0, xs.length, Nat.zero_le _, Nat.le_refl _, rfl, rfl, Lib.hid ⟨fun k x _ h => by omega, fun k x hk h => by have := (List.getElem?_eq_some_iff.1 hk).1; omega⟩⟩
  case round =>
    obtain ⟨a, b, hab, hb, rfl, rfl, hH⟩ := hrel
    by_cases hlt : a < b
    · obtain ⟨bk, off, rfl, hbk, hcell⟩ := HI.out (by omega)
      obtain ⟨h, hh⟩ : ∃ h : Nat, h = (a + b) / 2 := ⟨_, rfl⟩
      obtain ⟨x, hx⟩ : ∃ x, xs[h]? = some x := ⟨_, List.getElem?_eq_getElem (by omega)⟩
      have d0 := hcell h (by omega)
      rw [List.getD_eq_getElem?_getD, hx] at d0
      dsimp only [Option.getD_some] at d0
      have HX := Lib.hid hx
      have HH := Lib.hid hh
      have e1 : ((a : Int) + (b : Int)) / 2 = (h : Int) := by omega
      have hhb : a ≤ h ∧ h < b := by omega
      clear hcell hx hh
      obtain ⟨h1, h2⟩ := hhb
      go_wp2_with fail
      refine (less_any x t w).mono ?_
      rintro e w1 ⟨rfl, rfl⟩
      by_cases hxt : x < t
      · rw [decide_eq_true hxt]
        have HXT := Lib.hid hxt
        clear hxt
        go_wp2_with fail
        go_round
        case rel =>
          refine ⟨h + 1, b, by omega, hb, by go_num, rfl, Lib.hid ⟨fun k y hk hlt => ?_, hH.out.2⟩⟩
          have := HM.out k h y x (by omega) hk HX.out
          have := HXT.out
          omega
        case measure => simp [intOf]; omega
      · rw [decide_eq_false hxt]
        have HXT := Lib.hid hxt
        clear hxt
        go_wp2_with fail
        go_round
        case rel =>
          refine ⟨a, h, by omega, by omega, rfl, rfl, Lib.hid ⟨hH.out.1, fun k y hk hle => ?_⟩⟩
          have := HM.out h k x y hle HX.out hk
          have := HXT.out
          omega
        case measure => simp [intOf]; omega
    · obtain rfl : a = b := by omega
      have FA : Hid (∀ f : Bool, (f = true ↔ xs[a]? = some t) → FoundAt xs t a f) := Lib.hid fun f hf => ⟨hb, fun k x hk => ⟨fun h => hH.out.1 k x hk h, fun h => by
        rcases Nat.lt_or_ge k a with h' | h'
        · exact h'
        · have := hH.out.2 k x hk h'; omega⟩, hf⟩
      by_cases hal : a < xs.length
      · obtain ⟨bk, off, rfl, hbk, hcell⟩ := HI.out (by omega)
        obtain ⟨x, hx⟩ : ∃ x, xs[a]? = some x := ⟨_, List.getElem?_eq_getElem hal⟩
        have d0 := hcell a hal
        rw [List.getD_eq_getElem?_getD, hx] at d0
        dsimp only [Option.getD_some] at d0
        obtain ⟨f, hf⟩ : ∃ f, (x == t) = f := ⟨_, rfl⟩
        have FF := Lib.hid (FA.out f (by rw [hx, ← hf]; simp))
        clear hcell hx
        cases f with
        | true =>
          go_wp2_with fail
          go_ret2
          exact ⟨a, true, rfl, FF.out, rfl⟩
        | false =>
          go_wp2_with fail
          refine (nanS x w).mono ?_
          rintro e w1 ⟨rfl, rfl⟩
          go_wp2_with fail
          go_ret2
          exact ⟨a, false, rfl, FF.out, rfl⟩
      · have FF := Lib.hid (FA.out false ⟨nofun, fun h => by rw [List.getElem?_eq_none (by omega)] at h; cases h⟩)
        go_wp2_with fail
        go_ret2
        exact ⟨a, false, rfl, FF.out, rfl⟩
/-- a number for each line feed: the place behind it, moved on -/
def behF (b : Int) : List UInt8 → List Int
  | [] => []
  | x :: l => if x = 10 then (b + 1) :: behF (b + 1) l else behF (b + 1) l
theorem behF_snoc (x : UInt8) : ∀ (l : List UInt8) (b : Int), behF b (l ++ [x]) = behF b l ++ (if x = 10 then [b + l.length + 1] else [])
  | [], b => by simp [behF]
  | y :: l, b => by
    have ih := behF_snoc x l (b + 1)
    have e : b + 1 + (l.length : Int) + 1 = b + ((y :: l).length : Nat) + 1 := by simp; omega
    rw [e] at ih
    simp only [List.cons_append, behF]
    split
    · rw [ih, List.cons_append]
    · exact ih
theorem behF_length : ∀ (l : List UInt8) (b : Int), (behF b l).length ≤ l.length
  | [], b => by simp [behF]
  | y :: l, b => by
    have := behF_length l (b + 1)
    simp only [behF]
    split <;> simp <;> omega
set_option maxRecDepth 100000 in
set_option maxHeartbeats 1000000 in
theorem behind_any (s : ByteArray) (b : Int) (w : World) (hs : s.size ≤ 1000000) (hb : 0 ≤ b ∧ b ≤ 1000000) :
    Calls Try.prog 40 #[.string s, .int .i64 b] w (IntsRet w (behF b s.data.toList)) := by
  have hcv := Lib.run_convert_string_bytes (P := Try.prog) w 9 44 5 s (u := .string) Try.underlying9 Try.underlying44 Try.underlying5
  obtain ⟨cp, hcp⟩ : ∃ cp, grownCap w s.size 0 5 = cp := ⟨_, rfl⟩
  have hcge : s.size ≤ cp := by rw [← hcp]; exact grownCap_ge w s.size 0 5
  have HX1 : Hid (Ext w (Lib.bytesWorld w 5 s)) := Lib.hid (Ext.of_below ⟨rfl, rfl, rfl, by rw [Lib.bytesWorld_size]; omega, fun b hb => Lib.bytesWorld_at_old w 5 s b hb⟩)
  have HCL : Hid (∀ j, j < s.size → (Lib.bytesWorld w 5 s).cell? ⟨w.heap.size, j, none⟩ = some (.int .u8 (s.data.toList.getD j 0).toNat)) := Lib.hid (Lib.bytesWorld_cell w 5 s)
  have HSZ : Hid (w.heap.size < (Lib.bytesWorld w 5 s).heap.size) := Lib.hid (by rw [Lib.bytesWorld_size]; omega)
  obtain ⟨W1, hW1⟩ : ∃ W1, Lib.bytesWorld w 5 s = W1 := ⟨_, rfl⟩
  obtain ⟨g, hg⟩ : ∃ g, w.heap.size = g := ⟨_, rfl⟩
  rw [hW1, hcp] at hcv
  rw [hW1] at HX1 HCL HSZ
  rw [hg] at hcv HCL HSZ
  have hctop : cp ≤ 9223372036854775807 := by
    rw [← hcp]
    have := grownCap_le_maxLen w s.size 0 5 (by unfold maxLen; omega)
    unfold maxLen at this
    omega
  have HLN : Hid (s.data.toList.length = s.size) := Lib.hid (by rw [Array.length_toList]; rfl)
  have HHG := Lib.hid hg
  clear hcp hW1 hg
  go_enter Try.func40, Try.ntmps40
  go_wp2_with fail
  go_loopw [4, 10] (fun v i wr => ∃ j : Nat, j ≤ s.size ∧ i = .int .i64 j ∧ Hid (RowI wr W1.heap.size v (behF b (s.data.toList.take j))) ∧ Hid (Ext W1 wr)) (fun _ i _ => s.size - (intOf i).toNat)
  case atStart => exact ⟨0, Nat.zero_le _, rfl, Lib.hid ⟨none, 0, rfl, OwnI.nil _ _⟩, Lib.hid (Ext.refl _)⟩
  case round =>
    obtain ⟨j, hj, rfl, hr, hx⟩ := hrel
    by_cases hlt : j < s.size
    · obtain ⟨x, hx0⟩ : ∃ x, s.data.toList[j]? = some x := ⟨_, List.getElem?_eq_getElem (by rw [HLN.out]; exact hlt)⟩
      have d0 := (hx.out.below.cell (p := ⟨g, j, none⟩) HSZ.out).trans (HCL.out j hlt)
      rw [List.getD_eq_getElem?_getD, hx0] at d0
      dsimp only [Option.getD_some] at d0
      have l0 := Nat.lt_of_lt_of_le HSZ.out hx.out.size
      have HTK : Hid (behF b (s.data.toList.take (j + 1)) = behF b (s.data.toList.take j) ++ (if x = 10 then [b + j + 1] else [])) := Lib.hid (by
        obtain ⟨h1, h2⟩ := List.getElem?_eq_some_iff.1 hx0
        rw [List.take_succ_eq_append_getElem h1, h2, behF_snoc, List.length_take, Nat.min_eq_left (by omega)])
      have HXX := Lib.hid (HX1.out.trans hx.out)
      have HLL : Hid ((behF b (s.data.toList.take j)).length ≤ 1000000) := Lib.hid (by have := behF_length (s.data.toList.take j) b; rw [List.length_take] at this; omega)
      have b1 : wrap64 (b + j) = b + j := IntWalk.wrap64_in _ (by omega)
      have b2 : wrap64 (b + j + 1) = b + j + 1 := IntWalk.wrap64_in _ (by omega)
      clear hx0
      by_cases hx10 : x = 10
      · have q : ((x.toNat : Int) == 10) = true := by subst hx10; rfl
        have HTK2 : Hid (behF b (s.data.toList.take (j + 1)) = behF b (s.data.toList.take j) ++ [b + j + 1]) := Lib.hid (by rw [HTK.out, if_pos hx10])
        obtain ⟨xn, hxn⟩ : ∃ xn, x.toNat = xn := ⟨_, rfl⟩
        rw [hxn] at d0 q
        clear hx10 hxn HTK
        go_wp2_with (at_builtin; refine app_int W1 (by rfl) (.tmp 17) (.tmp 22) rfl (hr.out.ext (by repeat (first | exact Ext.refl _ | refine Ext.alloc ?_ _ | refine Ext.more ?_ _ _ | refine Ext.drew ?_ | refine Ext.drewN ?_ _ | refine Ext.setCell ?_ (by simp <;> omega) _))) (b + j + 1) wr.heap.size rfl rfl (by simp) (by simp [go_sem]) HLL.out (hx.out.trans (by repeat (first | exact Ext.refl _ | refine Ext.alloc ?_ _ | refine Ext.more ?_ _ _ | refine Ext.drew ?_ | refine Ext.drewN ?_ _ | refine Ext.setCell ?_ (by simp <;> omega) _))) ?_; intro v7 w7 hr7 hg7 hx7)
        have HR7 := Lib.hid hr7
        have HX7 := Lib.hid hx7
        clear hr7 hg7 hx7
        go_roundw
        case rel => exact ⟨j + 1, by omega, by go_num, by rw [HTK2.out]; exact HR7, HX7⟩
        case measure => simp [intOf]; omega
      · have q : ((x.toNat : Int) == 10) = false := by
          rw [beq_eq_false_iff_ne]
          intro h
          exact hx10 (UInt8.toNat_inj.1 (by show x.toNat = 10; omega))
        have HTK2 : Hid (behF b (s.data.toList.take (j + 1)) = behF b (s.data.toList.take j)) := Lib.hid (by rw [HTK.out, if_neg hx10, List.append_nil])
        obtain ⟨xn, hxn⟩ : ∃ xn, x.toNat = xn := ⟨_, rfl⟩
        rw [hxn] at d0 q
        clear hx10 hxn HTK
        go_wp2_with fail
        go_roundw
        case rel => exact ⟨j + 1, by omega, by go_num, by rw [HTK2.out]; exact hr, hx⟩
        case measure => simp [intOf]; omega
    · obtain rfl : j = s.size := by omega
      rw [List.take_of_length_le (by rw [HLN.out]; exact Nat.le_refl _)] at hr
      obtain ⟨A1, c1, rfl, ho⟩ := hr.out
      have HO1 := Lib.hid ho
      clear ho
      go_wp2_with fail
      go_ret
      exact ⟨A1, c1, rfl, HO1.out.base HX1.out.size, HX1.out.trans hx.out⟩
/-- where lines begin -/
def startsF (l : List UInt8) : List Int := 0 :: behF 0 l
/-- an index that lies in memory -/
def IdxAt (w : World) (base g : Nat) (xs : List Int) (n : Nat) : Prop := ∃ A c, w.heap[g]? = some (.cells #[.slice A xs.length c, .int .i64 n] 68) ∧ OwnI w base A c xs ∧ base ≤ g
theorem IdxAt.ext {w w' : World} {base g : Nat} {xs : List Int} {n : Nat} (h : IdxAt w base g xs n) (e : Ext w w') : IdxAt w' base g xs n := by
  obtain ⟨A, c, h1, h2, h3⟩ := h
  exact ⟨A, c, ext_block h1 e, h2.ext e, h3⟩
theorem IdxAt.base {w : World} {base base' g : Nat} {xs : List Int} {n : Nat} (h : IdxAt w base g xs n) (hb : base' ≤ base) : IdxAt w base' g xs n := by
  obtain ⟨A, c, h1, h2, h3⟩ := h
  exact ⟨A, c, h1, h2.base hb, Nat.le_trans hb h3⟩
/-- what New tells -/
def NewRet (w : World) (s : ByteArray) (e : Ending) (w' : World) : Prop := ∃ g, e = .returned (.tuple #[pt g, .int .i64 0]) ∧ IdxAt w' w.heap.size g (startsF s.data.toList) s.size ∧ Ext w w'
set_option maxRecDepth 100000 in
set_option maxHeartbeats 1000000 in
theorem new_long (s : ByteArray) (w : World) (hs : 65536 < s.size) (ht : s.size ≤ 9223372036854775807) : Calls Try.prog 13 #[.string s] w fun e w' => e = .returned (.tuple #[.pointer none, .int .i64 3]) ∧ w = w' := by
  go_enter Try.func13, Try.ntmps13
  go_wp2_with fail
  go_ret2
  exact ⟨rfl, rfl⟩
set_option maxRecDepth 100000 in
set_option maxHeartbeats 1000000 in
theorem new_any (s : ByteArray) (w : World) (hs : s.size ≤ 65536) : Calls Try.prog 13 #[.string s] w (NewRet w s) := by
  have HL1 : Hid (([0] : List Int).length + (behF 0 s.data.toList).length ≤ 10000000) := Lib.hid (by
    have h1 := behF_length s.data.toList 0
    have h2 : s.data.toList.length = s.size := by rw [Array.length_toList]; rfl
    simp
    omega)
  go_enter Try.func13, Try.ntmps13
  go_wp2_with fail
  refine (behind_any s 0 _ (by omega) (by omega)).mono ?_
  rintro e w2 ⟨A2, c2, rfl, ho2, hx2⟩
  have HR0 : Hid (RowI w2 w.heap.size (.slice (some ⟨w.heap.size, 0, none⟩) 1 1) [0]) := Lib.hid ⟨_, 1, rfl, OwnI.ext (own_lit w w.heap.size 3 1 w.heap.size 1 #[.int .i64 0] rfl (Nat.le_refl _) rfl (by decide)) hx2⟩
  have HX2 : Hid (Ext w w2) := Lib.hid (Ext.trans (by repeat (first | exact Ext.refl _ | refine Ext.alloc ?_ _ | refine Ext.more ?_ _ _ | refine Ext.drew ?_ | refine Ext.drewN ?_ _ | refine Ext.setCell ?_ (by simp <;> omega) _)) hx2)
  have HO2 := Lib.hid ho2
  clear ho2 hx2
  go_wp2_with (at_builtin; refine app_ints w (by rfl) (.tmp 7) (.tmp 9) rfl HR0.out (behF 0 s.data.toList) A2 c2 rfl rfl HO2.out.ints.2.2.2 HO2.out.ints.1 HL1.out HX2.out ?_; intro v7 w7 hr7 hg7 hx7; obtain ⟨A, c, rfl, ho⟩ := hr7; obtain ⟨ln, hln⟩ : ∃ ln, ([0] ++ behF 0 s.data.toList).length = ln := ⟨_, rfl⟩; rw [hln]; have HLN := Lib.hid hln; have HO := Lib.hid ho; have HX7 := Lib.hid hx7; clear hln ho hx7 hg7)
  go_ret2
  refine ⟨w7.heap.size, rfl, ⟨A, c, ?_, HO.out.ext (by repeat (first | exact Ext.refl _ | refine Ext.alloc ?_ _ | refine Ext.more ?_ _ _ | refine Ext.drew ?_ | refine Ext.drewN ?_ _ | refine Ext.setCell ?_ (by simp <;> omega) _)), HX7.out.size⟩, HX7.out.trans (by repeat (first | exact Ext.refl _ | refine Ext.alloc ?_ _ | refine Ext.more ?_ _ _ | refine Ext.drew ?_ | refine Ext.drewN ?_ _ | refine Ext.setCell ?_ (by simp <;> omega) _))⟩
  have e : (startsF s.data.toList).length = ln := HLN.out
  rw [e]
  exact heap_alloc_new w7 _
end Go.Proofs.Ytfjkghbnlmhcnaa
