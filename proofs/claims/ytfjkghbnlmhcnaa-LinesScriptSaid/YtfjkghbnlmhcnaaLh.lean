/- viewportref09: New, Starts, Start, Line: the walk. -/
import Derived.Test.YtfjkghbnlmhcnaaLx
import Derived.WalkSpells
import Derived.WalkLawsBesides
import Derived.BigRegion
import Derived.Deep.RegionWith
import Derived.Deep.QuietTactic
import Derived.Deep.DeepCutAuto
import Derived.Deep.RegionHeld3
import Derived.Deep.RegionLaw
import Derived.BigQuiet
import Derived.Lib.Hide
namespace Go.Proofs.Ytfjkghbnlmhcnaa
open Go.RowKit
attribute [local go_sem] more_drew more_drewN more_size more_cell more_frozen more_setCell drew_more drewN_more lt_add_r lt_add_r2 lt_add_r3 lt_add_r4 lt_add_r5 lt_add_r6 lt_add_r7 lt_add_r8 lt_add_r9 lt_add_r10 lt_self_r lt_self_r2

/-- the document's index: a text -/
def TxtAt (w : World) (g : Nat) (s : ByteArray) : Prop := w.heap[g]? = some (.cells #[.string s] 49)
theorem TxtAt.ext {w w' : World} {g : Nat} {s : ByteArray} (h : TxtAt w g s) (e : Ext w w') : TxtAt w' g s := ext_block h e
theorem TxtAt.cell {w : World} {g : Nat} {s : ByteArray} (h : TxtAt w g s) : w.cell? ⟨g, 0, none⟩ = some (.string s) ∧ g < w.heap.size := by
  have e0 := cell_of_row _ _ 0 _ _ _ h
  simp at e0
  exact ⟨e0, lt_of_heap h⟩
def RNewRet (w : World) (s : ByteArray) (e : Ending) (w' : World) : Prop := ∃ g, e = .returned (.tuple #[pt g, .int .i64 0]) ∧ TxtAt w' g s ∧ w.heap.size ≤ g ∧ Ext w w'
set_option maxRecDepth 100000 in
set_option maxHeartbeats 1000000 in
theorem rnew_any (s : ByteArray) (w : World) (hs : s.size ≤ 65536) : Calls Try.prog 22 #[.string s] w (RNewRet w s) := by
  go_enter Try.func22, Try.ntmps22
  go_wp2_with fail
  go_ret2
  exact ⟨w.heap.size, rfl, heap_alloc_new w _, Nat.le_refl _, (by repeat (first | exact Ext.refl _ | refine Ext.alloc ?_ _ | refine Ext.more ?_ _ _ | refine Ext.drew ?_ | refine Ext.drewN ?_ _ | refine Ext.setCell ?_ (by simp <;> omega) _))⟩
section
variable {w : World} {g : Nat} {s : ByteArray}
set_option maxRecDepth 100000 in
set_option maxHeartbeats 1000000 in
theorem rstarts_any (h : TxtAt w g s) (hs : s.size ≤ 900000) : Calls Try.prog 27 #[pt g] w (IntsRet w (startsF s.data.toList)) := by
  have HLN : Hid (s.data.toList.length = s.size) := Lib.hid (by rw [Array.length_toList]; rfl)
  have H := Lib.hid h
  clear h
  go_enter Try.func27, Try.ntmps27
  go_wp2_with fail
  go_loopw [3, 4] (fun v i wr => ∃ j : Nat, j ≤ s.size ∧ i = .int .i64 j ∧ Hid (RowI wr w.heap.size v (0 :: behF 0 (s.data.toList.take j))) ∧ Hid (Ext w wr)) (fun _ i _ => s.size - (intOf i).toNat)
  case atStart => exact ⟨0, Nat.zero_le _, rfl, Lib.hid ⟨_, 1, rfl, own_lit w w.heap.size 3 1 w.heap.size 1 #[.int .i64 0] rfl (Nat.le_refl _) rfl (by decide)⟩, Lib.hid (by repeat (first | exact Ext.refl _ | refine Ext.alloc ?_ _ | refine Ext.more ?_ _ _ | refine Ext.drew ?_ | refine Ext.drewN ?_ _ | refine Ext.setCell ?_ (by simp <;> omega) _))⟩
  case round =>
    obtain ⟨j, hj, rfl, hr, hx⟩ := hrel
    obtain ⟨c0, l0⟩ := (H.out.ext hx.out).cell
    by_cases hlt : j < s.size
    · obtain ⟨x, hx0⟩ : ∃ x, s.data.toList[j]? = some x := ⟨_, List.getElem?_eq_getElem (by rw [HLN.out]; exact hlt)⟩
      have hxe : s[j]'hlt = x := by
        have h1 : s.data.toList[j]? = some (s[j]'hlt) := (List.getElem?_eq_getElem (by rw [HLN.out]; exact hlt)).trans rfl
        rw [hx0] at h1
        exact (Option.some.inj h1).symm
      have HTK : Hid (behF 0 (s.data.toList.take (j + 1)) = behF 0 (s.data.toList.take j) ++ (if x = 10 then [((j : Int) + 1)] else [])) := Lib.hid (by
        obtain ⟨h1, h2⟩ := List.getElem?_eq_some_iff.1 hx0
        rw [List.take_succ_eq_append_getElem h1, h2, behF_snoc, List.length_take, Nat.min_eq_left (by omega), Int.zero_add])
      have HLL : Hid ((0 :: behF 0 (s.data.toList.take j) : List Int).length ≤ 1000000) := Lib.hid (by have := behF_length (s.data.toList.take j) 0; rw [List.length_take] at this; rw [List.length_cons]; omega)
      have b2 : wrap64 ((j : Int) + 1) = (j : Int) + 1 := IntWalk.wrap64_in _ (by omega)
      clear hx0
      by_cases hx10 : x = 10
      · have q : (((s[j]'hlt).toNat : Int) == 10) = true := by rw [hxe, hx10]; rfl
        have HTK2 : Hid (0 :: behF 0 (s.data.toList.take (j + 1)) = (0 :: behF 0 (s.data.toList.take j)) ++ [((j : Int) + 1)]) := Lib.hid (by rw [HTK.out, if_pos hx10]; rfl)
        clear hx10 HTK hxe
        go_wp2_with (at_builtin; refine app_int w (by rfl) (.tmp 22) (.tmp 25) rfl (hr.out.ext (by repeat (first | exact Ext.refl _ | refine Ext.alloc ?_ _ | refine Ext.more ?_ _ _ | refine Ext.drew ?_ | refine Ext.drewN ?_ _ | refine Ext.setCell ?_ (by simp <;> omega) _))) ((j : Int) + 1) wr.heap.size rfl rfl (by simp) (by simp [go_sem]) HLL.out (hx.out.trans (by repeat (first | exact Ext.refl _ | refine Ext.alloc ?_ _ | refine Ext.more ?_ _ _ | refine Ext.drew ?_ | refine Ext.drewN ?_ _ | refine Ext.setCell ?_ (by simp <;> omega) _))) ?_; intro v7 w7 hr7 hg7 hx7)
        have HR7 := Lib.hid hr7
        have HX7 := Lib.hid hx7
        clear hr7 hg7 hx7
        go_roundw
        case rel => exact ⟨j + 1, by omega, by go_num, by rw [HTK2.out]; exact HR7, HX7⟩
        case measure => simp [intOf]; omega
      · have q : (((s[j]'hlt).toNat : Int) == 10) = false := by
          rw [beq_eq_false_iff_ne, hxe]
          intro h
          exact hx10 (UInt8.toNat_inj.1 (by show x.toNat = 10; omega))
        have HTK2 : Hid (behF 0 (s.data.toList.take (j + 1)) = behF 0 (s.data.toList.take j)) := Lib.hid (by rw [HTK.out, if_neg hx10, List.append_nil])
        clear hx10 HTK hxe
        go_wp2_with fail
        go_roundw
        case rel => exact ⟨j + 1, by omega, by go_num, by rw [HTK2.out]; exact hr, hx⟩
        case measure => simp [intOf]; omega
    · obtain rfl : j = s.size := by omega
      rw [List.take_of_length_le (by rw [HLN.out]; exact Nat.le_refl _)] at hr
      obtain ⟨ys, hys⟩ : ∃ ys, (0 :: behF 0 s.data.toList : List Int) = ys := ⟨_, rfl⟩
      rw [hys] at hr
      obtain ⟨A1, c1, rfl, ho⟩ := hr.out
      have HO1 := Lib.hid ho
      have HYS : Hid (startsF s.data.toList = ys) := Lib.hid hys
      clear ho hys
      go_wp2_with fail
      go_ret
      rw [HYS.out]
      exact ⟨A1, c1, rfl, HO1.out, hx.out⟩
set_option maxRecDepth 100000 in
set_option maxHeartbeats 1000000 in
theorem rstart_no (line : Int) (h : TxtAt w g s) (hs : s.size ≤ 900000) (hl : line < 0 ∨ ((startsF s.data.toList).length : Int) ≤ line) : Calls Try.prog 24 #[pt g, .int .i64 line] w fun e w' => e = .returned (.tuple #[.int .i64 0, .bool false]) ∧ Ext w w' := by
  have HC := Lib.hid (rstarts_any h hs)
  obtain ⟨xs, hxs⟩ : ∃ xs, startsF s.data.toList = xs := ⟨_, rfl⟩
  rw [hxs] at HC hl
  clear hxs h
  go_enter Try.func24, Try.ntmps24
  go_wp2_with fail
  refine HC.out.mono ?_
  rintro e w1 ⟨A, c, rfl, ho, hx⟩
  have HX := Lib.hid hx
  clear ho hx
  by_cases h0 : line < 0
  · have q : decide (line < 0) = true := decide_eq_true h0
    clear hl
    go_wp2_with fail
    go_ret2
    exact ⟨rfl, HX.out⟩
  · have q : decide (line < 0) = false := decide_eq_false h0
    have q2 : decide ((xs.length : Int) ≤ line) = true := decide_eq_true (by omega)
    clear hl
    go_wp2_with fail
    go_ret2
    exact ⟨rfl, HX.out⟩
set_option maxRecDepth 100000 in
set_option maxHeartbeats 1000000 in
theorem rstart_yes (k : Nat) (x : Int) (h : TxtAt w g s) (hs : s.size ≤ 900000) (hk : (startsF s.data.toList)[k]? = some x) : Calls Try.prog 24 #[pt g, .int .i64 k] w fun e w' => e = .returned (.tuple #[.int .i64 x, .bool true]) ∧ Ext w w' := by
  have HC := Lib.hid (rstarts_any h hs)
  obtain ⟨xs, hxs⟩ : ∃ xs, startsF s.data.toList = xs := ⟨_, rfl⟩
  rw [hxs] at HC hk
  have hkl := (List.getElem?_eq_some_iff.1 hk).1
  have HK := Lib.hid hk
  clear hxs h hk
  go_enter Try.func24, Try.ntmps24
  go_wp2_with fail
  refine HC.out.mono ?_
  rintro e w1 ⟨A, c, rfl, ho, hx⟩
  have HX := Lib.hid hx
  obtain ⟨hI, hl1, hl2, _⟩ := ho.ints
  obtain ⟨b, off, rfl, hb, hcell⟩ := hI (by omega)
  have d0 := hcell k hkl
  rw [List.getD_eq_getElem?_getD, HK.out] at d0
  dsimp only [Option.getD_some] at d0
  unfold maxLen at hl2
  clear ho hx hI hcell
  have q : decide ((k : Int) < 0) = false := decide_eq_false (by omega)
  have q2 : decide ((xs.length : Int) ≤ (k : Int)) = false := decide_eq_false (by omega)
  go_wp2_with fail
  go_ret2
  exact ⟨rfl, HX.out⟩
set_option maxRecDepth 100000 in
set_option maxHeartbeats 1000000 in
theorem rline_no (at_ : Int) (h : TxtAt w g s) (hl : at_ < 0 ∨ (s.size : Int) < at_) : Calls Try.prog 25 #[pt g, .int .i64 at_] w fun e w' => e = .returned (.tuple #[.int .i64 0, .int .i64 0, .bool false]) ∧ Ext w w' := by
  obtain ⟨c0, l0⟩ := h.cell
  clear h
  go_enter Try.func25, Try.ntmps25
  by_cases h0 : at_ < 0
  · have q : decide (at_ < 0) = true := decide_eq_true h0
    clear hl
    go_wp2_with fail
    go_ret3
    exact ⟨rfl, (by repeat (first | exact Ext.refl _ | refine Ext.alloc ?_ _ | refine Ext.more ?_ _ _ | refine Ext.drew ?_ | refine Ext.drewN ?_ _ | refine Ext.setCell ?_ (by simp <;> omega) _))⟩
  · have q : decide (at_ < 0) = false := decide_eq_false h0
    have q2 : decide ((s.size : Int) < at_) = true := decide_eq_true (by omega)
    clear hl
    go_wp2_with fail
    go_ret3
    exact ⟨rfl, (by repeat (first | exact Ext.refl _ | refine Ext.alloc ?_ _ | refine Ext.more ?_ _ _ | refine Ext.drew ?_ | refine Ext.drewN ?_ _ | refine Ext.setCell ?_ (by simp <;> omega) _))⟩
theorem LineAt.of {xs : List Int} {t : Int} {n : Nat} {x : Int} (hr : Rise xs) (hx : xs[n]? = some x) (hxt : x ≤ t) (hn : ∀ y, xs[n + 1]? = some y → t < y) : LineAt xs t n x := by
  refine ⟨hx, hxt, fun k y hk => ⟨fun h => ?_, fun h => ?_⟩⟩
  · have := hr.mono k n y x h hk hx
    omega
  · rcases Nat.lt_or_ge n k with hlt | hge
    · exfalso
      have hkl := (List.getElem?_eq_some_iff.1 hk).1
      obtain ⟨z, hz⟩ : ∃ z, xs[n + 1]? = some z := ⟨_, List.getElem?_eq_getElem (by omega)⟩
      have h1 := hn z hz
      have h2 := hr.mono (n + 1) k z y (by omega) hz hk
      omega
    · exact hge
set_option maxRecDepth 100000 in
set_option maxHeartbeats 2000000 in
theorem rline_yes (t : Nat) (h : TxtAt w g s) (hs : s.size ≤ 900000) (ht : t ≤ s.size) : Calls Try.prog 25 #[pt g, .int .i64 t] w (LineRet w (startsF s.data.toList) t) := by
  have HC := Lib.hid (rstarts_any h hs)
  have HR := Lib.hid (starts_rise s.data.toList)
  have hW := starts_within s.data.toList
  have hLN : s.data.toList.length = s.size := by rw [Array.length_toList]; rfl
  rw [hLN] at hW
  have HW := Lib.hid hW
  have hlen := starts_len s.data.toList
  rw [hLN] at hlen
  have H0 : Hid ((startsF s.data.toList)[0]? = some 0) := Lib.hid rfl
  obtain ⟨xs, hxs⟩ : ∃ xs, startsF s.data.toList = xs := ⟨_, rfl⟩
  rw [hxs] at HC HR HW H0 hlen ⊢
  have hpos := (List.getElem?_eq_some_iff.1 H0.out).1
  obtain ⟨c0, l0⟩ := h.cell
  clear hxs h hW hLN
  have q1 : decide ((t : Int) < 0) = false := decide_eq_false (by omega)
  have q2 : decide ((s.size : Int) < (t : Int)) = false := decide_eq_false (by omega)
  go_enter Try.func25, Try.ntmps25
  go_wp2_with fail
  refine HC.out.mono ?_
  rintro e w1 ⟨A, c, rfl, ho, hx⟩
  have HX := Lib.hid hx
  obtain ⟨hI, hl1, hl2, _⟩ := ho.ints
  obtain ⟨b, off, rfl, hb, hcell⟩ := hI hpos
  unfold maxLen at hl2
  have HCL := Lib.hid hcell
  clear ho hx hI hcell q1 q2 c0 l0 HC
  go_wp2_with fail
  go_loop [8] (fun v => ∃ n x, v = .int .i64 (n : Nat) ∧ Hid (xs[n]? = some x) ∧ x ≤ t) (fun v => xs.length - (intOf v).toNat)
  case atStart => exact ⟨0, 0, rfl, H0, by omega⟩
  case round =>
    obtain ⟨n, x, rfl, hn, hxt⟩ := hrel
    have hnl := (List.getElem?_eq_some_iff.1 hn.out).1
    have w1 : wrap64 ((n : Int) + 1) = (n : Int) + 1 := IntWalk.wrap64_in _ (by omega)
    by_cases hlt : n + 1 < xs.length
    · obtain ⟨y, hy⟩ : ∃ y, xs[n + 1]? = some y := ⟨_, List.getElem?_eq_getElem hlt⟩
      have d1 := HCL.out (n + 1) hlt
      rw [List.getD_eq_getElem?_getD, hy] at d1
      dsimp only [Option.getD_some] at d1
      have HY := Lib.hid hy
      have q1 : decide ((n : Int) + 1 < (xs.length : Int)) = true := decide_eq_true (by omega)
      clear hy
      by_cases hyt : y ≤ t
      · have q2 : decide (y ≤ (t : Int)) = true := decide_eq_true hyt
        go_wp2_with fail
        go_round
        case rel => exact ⟨n + 1, y, by go_num, HY, hyt⟩
        case measure => simp [intOf]; omega
      · have q2 : decide (y ≤ (t : Int)) = false := decide_eq_false hyt
        have hx0 := HW.out x (List.mem_of_getElem? hn.out)
        have d0 := HCL.out n hnl
        rw [List.getD_eq_getElem?_getD, hn.out] at d0
        dsimp only [Option.getD_some] at d0
        have b1 : IntKind.i64.wrap ((t : Int) - x) = t - x := IntWalk.i64_in _ (by omega)
        have b2 : wrap64 ((t : Int) - x) = t - x := IntWalk.wrap64_in _ (by omega)
        go_upto_region 7 with fail
        go_quiet (fail)
        go_wp2_with fail
        go_ret3
        exact ⟨n, x, rfl, LineAt.of HR.out hn.out hxt (fun z hz => by rw [HY.out] at hz; cases hz; omega), HX.out.trans (by repeat (first | exact Ext.refl _ | refine Ext.alloc ?_ _ | refine Ext.more ?_ _ _ | refine Ext.drew ?_ | refine Ext.drewN ?_ _ | refine Ext.setCell ?_ (by simp <;> omega) _))⟩
    · have q1 : decide ((n : Int) + 1 < (xs.length : Int)) = false := decide_eq_false (by omega)
      have hx0 := HW.out x (List.mem_of_getElem? hn.out)
      have d0 := HCL.out n hnl
      rw [List.getD_eq_getElem?_getD, hn.out] at d0
      dsimp only [Option.getD_some] at d0
      have b1 : IntKind.i64.wrap ((t : Int) - x) = t - x := IntWalk.i64_in _ (by omega)
      have b2 : wrap64 ((t : Int) - x) = t - x := IntWalk.wrap64_in _ (by omega)
      go_upto_region 7 with fail
      go_quiet (fail)
      go_wp2_with fail
      go_ret3
      exact ⟨n, x, rfl, LineAt.of HR.out hn.out hxt (fun z hz => by rw [List.getElem?_eq_none (by omega)] at hz; cases hz), HX.out.trans (by repeat (first | exact Ext.refl _ | refine Ext.alloc ?_ _ | refine Ext.more ?_ _ _ | refine Ext.drew ?_ | refine Ext.drewN ?_ _ | refine Ext.setCell ?_ (by simp <;> omega) _))⟩
end
end Go.Proofs.Ytfjkghbnlmhcnaa
