/- The contracts of viewportref26.Matches, Style, Leaf. -/
import Derived.Test.YtggmljookcmnkaaK5
import Derived.Test.YtggmljookcmnkaaTz
import Derived.WalkSpells
import Derived.WalkLawsBesides
import Derived.BigRegion
import Derived.Deep.RegionWith
import Derived.Deep.QuietTactic
import Derived.Deep.DeepCutAuto
import Derived.Deep.RegionHeld3
import Derived.Deep.RegionLaw
import Derived.BigQuiet
import Derived.Lib.Hide
namespace Go.Proofs.Ytggmljookcmnkaa
open Go.RowKit
attribute [local go_sem] more_drew more_drewN more_size more_cell more_frozen more_setCell drew_more drewN_more lt_add_r lt_add_r2 lt_add_r3 lt_add_r4 lt_add_r5 lt_add_r6 lt_add_r7 lt_add_r8 lt_add_r9 lt_add_r10 lt_self_r lt_self_r2

theorem drop_back {α : Type} {l : List α} {n : Nat} {x : α} (h : l[n]? = some x) : l.drop n = x :: l.drop (n + 1) := by
  obtain ⟨h1, rfl⟩ := List.getElem?_eq_some_iff.1 h
  rw [List.getElem_cons_drop]
set_option maxRecDepth 100000 in
set_option maxHeartbeats 2000000 in
theorem rmatches_any (s : Sty) (kind : Int) (A : Option Addr) (way : List Int) (c : Nat) (w : World) (hs : styOk w s) (hcap : s.path.length ≤ s.pc) (htop : s.pc ≤ 9223372036854775807) (hlen : s.path.length ≤ 1000) (hx : Ints w A way) (bx : way.length ≤ c) (bc : c ≤ 9223372036854775807) :
    Calls Try.prog 17 #[styV s, .int .i64 kind, .slice A way.length c] w fun e w' => e = .returned (.bool (matchB s kind way)) ∧ Ext w w' := by
  have HM : Hid (matchB s kind way = (decide (s.kind = kind) && (decide (s.path.length ≤ way.length) && decide (way.drop (way.length - s.path.length) = s.path)))) := Lib.hid rfl
  have HP := Lib.hid hs.1
  have HX := Lib.hid hx
  unfold styV
  clear hs hx
  by_cases h0 : s.kind = kind
  · have q0 : (s.kind != kind) = false := by simp [h0]
    have HM1 : Hid (matchB s kind way = (decide (s.path.length ≤ way.length) && decide (way.drop (way.length - s.path.length) = s.path))) := Lib.hid (by rw [HM.out, decide_eq_true h0, Bool.true_and])
    clear h0
    by_cases h1 : way.length < s.path.length
    · have q1 : decide (way.length < s.path.length) = true := decide_eq_true (by omega)
      have HR : Hid (matchB s kind way = false) := Lib.hid (by rw [HM1.out, decide_eq_false (by omega)]; rfl)
      clear h1
      go_enter Try.func17, Try.ntmps17
      go_wp2_with fail
      go_ret
      exact ⟨ret_bool HR.out.symm, (by repeat (first | exact Ext.refl _ | refine Ext.alloc ?_ _ | refine Ext.more ?_ _ _ | refine Ext.drew ?_ | refine Ext.drewN ?_ _ | refine Ext.setCell ?_ (by simp <;> omega) _))⟩
    · have q1 : decide (way.length < s.path.length) = false := decide_eq_false (by omega)
      have HM2 : Hid (matchB s kind way = decide (way.drop (way.length - s.path.length) = s.path)) := Lib.hid (by rw [HM1.out, decide_eq_true (show s.path.length ≤ way.length by omega), Bool.true_and])
      have HLE : Hid (s.path.length ≤ way.length) := Lib.hid (by omega)
      clear h1
      obtain ⟨bp, hbp⟩ : ∃ bp, w.heap.size = bp := ⟨_, rfl⟩
      obtain ⟨W5, hW5⟩ : ∃ W5, w.alloc (.cells #[.int .i64 s.kind, .slice s.pA s.path.length s.pc, .int .i64 s.st, .int .i64 s.prio] 43) = W5 := ⟨_, rfl⟩
      have X5 : Hid (Ext w W5) := Lib.hid (by rw [← hW5]; exact (by repeat (first | exact Ext.refl _ | refine Ext.alloc ?_ _ | refine Ext.more ?_ _ _ | refine Ext.drew ?_ | refine Ext.drewN ?_ _ | refine Ext.setCell ?_ (by simp <;> omega) _)))
      have B5 : Hid (W5.heap[bp]? = some (.cells #[.int .i64 s.kind, .slice s.pA s.path.length s.pc, .int .i64 s.st, .int .i64 s.prio] 43)) := Lib.hid (by rw [← hW5, ← hbp]; exact heap_alloc_new _ _)
      go_enter Try.func17, Try.ntmps17
      go_upto_region 1 with fail
      clear hW5 hbp
      have f0 := cell_of_row _ _ 0 _ _ _ B5.out
      have f1 := cell_of_row _ _ 1 _ _ _ B5.out
      simp at f0 f1
      have fl := lt_of_heap B5.out
      go_wp2_with fail
      clear f0 f1 fl
      go_loopw [7] (fun v wi => ∃ j : Nat, 1 ≤ j ∧ j ≤ s.path.length + 1 ∧ v = .int .i64 j ∧ Hid (s.path.drop (s.path.length - (j - 1)) = way.drop (way.length - (j - 1))) ∧ Hid (Ext W5 wi)) (fun v _ => s.path.length + 1 - (intOf v).toNat)
      case atStart => exact ⟨1, by omega, by omega, rfl, Lib.hid (by rw [Nat.sub_self, Nat.sub_zero, Nat.sub_zero, List.drop_length, List.drop_length]), Lib.hid (by repeat (first | exact Ext.refl _ | refine Ext.alloc ?_ _ | refine Ext.more ?_ _ _ | refine Ext.drew ?_ | refine Ext.drewN ?_ _ | refine Ext.setCell ?_ (by simp <;> omega) _))⟩
      case round =>
        obtain ⟨j, hj1, hk, rfl, hd, hx⟩ := hrel
        obtain ⟨k, hjk⟩ : ∃ k, j = k + 1 := ⟨j - 1, by omega⟩
        rw [show j - 1 = k by omega] at hd
        have HX6 := Lib.hid hx.out
        have hb5 := ext_blk B5.out hx.out
        have f1 := cell_of_row _ _ 1 _ _ _ hb5
        simp at f1
        have fl := lt_of_heap hb5
        by_cases hlt : k < s.path.length
        · have hle := HLE.out
          obtain ⟨m, hm⟩ : ∃ m, s.path.length - (k + 1) = m := ⟨_, rfl⟩
          obtain ⟨n, hn⟩ : ∃ n, way.length - (k + 1) = n := ⟨_, rfl⟩
          obtain ⟨x, hxk⟩ : ∃ x, s.path[m]? = some x := ⟨_, List.getElem?_eq_getElem (by omega)⟩
          obtain ⟨y, hyk⟩ : ∃ y, way[n]? = some y := ⟨_, List.getElem?_eq_getElem (by omega)⟩
          obtain ⟨br, ofr, hrA, hbr, hcr⟩ := (HP.out.ext (X5.out.trans hx.out)) (by omega)
          obtain ⟨bw, ofw, rfl, hbw, hcw⟩ := (HX.out.ext (X5.out.trans hx.out)) (by omega)
          have d := hcr m (by omega)
          have d' := hcw n (by omega)
          rw [List.getD_eq_getElem?_getD, hxk] at d
          rw [List.getD_eq_getElem?_getD, hyk] at d'
          rw [hrA] at f1
          change wr.cell? ⟨br, ofr + m, none⟩ = some (.int .i64 x) at d
          change wr.cell? ⟨bw, ofw + n, none⟩ = some (.int .i64 y) at d'
          have w1 : IntKind.i64.wrap ((s.path.length : Int) - (j : Int)) = (m : Int) := by rw [IntKind.wrap_i64]; omega
          have w2 : IntKind.i64.wrap ((way.length : Int) - (j : Int)) = (n : Int) := by rw [IntKind.wrap_i64]; omega
          have q2 : decide (j ≤ s.path.length) = true := decide_eq_true (by omega)
          have i0 : (m : Int) < (s.path.length : Int) := by omega
          have i1 : (n : Int) < (way.length : Int) := by omega
          have i2 : (0 : Int) ≤ (m : Int) := by omega
          have i3 : (0 : Int) ≤ (n : Int) := by omega
          have HDX : Hid (s.path.drop (s.path.length - (k + 1)) = x :: s.path.drop (s.path.length - k)) := Lib.hid (by rw [hm, drop_back hxk, show m + 1 = s.path.length - k by omega])
          have HDY : Hid (way.drop (way.length - (k + 1)) = y :: way.drop (way.length - k)) := Lib.hid (by rw [hn, drop_back hyk, show n + 1 = way.length - k by omega])
          have HXM := Lib.hid hxk
          have HYN := Lib.hid hyk
          have HJK := Lib.hid hjk
          have hjl : j ≤ s.path.length := by omega
          have HMN : Hid (n = (way.length - s.path.length) + m) := Lib.hid (by omega)
          clear hb5 hcr hcw hxk hyk hx hm hn hle hlt hjk
          by_cases hxy : x = y
          · have q3 : (x != y) = false := by simp [hxy]
            have HNX : Hid (s.path.drop (s.path.length - (k + 1)) = way.drop (way.length - (k + 1))) := Lib.hid (by rw [HDX.out, HDY.out, hxy, hd.out])
            clear hxy
            go_upto_region 6 with fail
            refine wp_region_bt (17) (softs_bt [0, 1, 2, 3, 4, 5, 6, 7, 8, 9, 10, 11, 12, 13, 14, 15, 16] .fin) (by kernel_rfl) (by kernel_rfl) ?_
            (refine bt_softs _ fun K hK => ?_); (simp only [pick, nthC]); (repeat (go_big_quiet_step (fail))); (refine wpQuiet_nil (hK _ ?_)); (clear hK K)
            (refine bt_fin ?_)
            go_wp2_with fail
            go_roundw
            case rel => exact ⟨j + 1, by omega, by omega, by go_num, Lib.hid (by rw [Nat.add_sub_cancel, HJK.out]; exact HNX.out), Lib.hid (HX6.out.trans (by repeat (first | exact Ext.refl _ | refine Ext.alloc ?_ _ | refine Ext.more ?_ _ _ | refine Ext.drew ?_ | refine Ext.drewN ?_ _ | refine Ext.setCell ?_ (by simp <;> omega) _)))⟩
            case measure => simp [intOf]; omega
          · have q3 : (x != y) = true := by simp [hxy]
            have HR : Hid (matchB s kind way = false) := Lib.hid (by
              rw [HM2.out, decide_eq_false]
              intro h
              have h1 := HXM.out
              rw [← h, List.getElem?_drop, ← HMN.out, HYN.out] at h1
              injection h1 with h1
              exact hxy h1.symm)
            clear hxy
            go_upto_region 6 with fail
            refine wp_region_bt (17) (softs_bt [0, 1, 2, 3, 4, 5, 6, 7, 8, 9, 10, 11, 12, 13, 14, 15, 16] .fin) (by kernel_rfl) (by kernel_rfl) ?_
            (refine bt_softs _ fun K hK => ?_); (simp only [pick, nthC]); (repeat (go_big_quiet_step (fail))); (refine wpQuiet_nil (hK _ ?_)); (clear hK K)
            (refine bt_fin ?_)
            go_wp2_with fail
            go_ret
            exact ⟨ret_bool HR.out.symm, (X5.out.trans HX6.out).trans (by repeat (first | exact Ext.refl _ | refine Ext.alloc ?_ _ | refine Ext.more ?_ _ _ | refine Ext.drew ?_ | refine Ext.drewN ?_ _ | refine Ext.setCell ?_ (by simp <;> omega) _))⟩
        · obtain rfl : k = s.path.length := by omega
          have q2 : decide (j ≤ s.path.length) = false := decide_eq_false (by omega)
          have HR : Hid (matchB s kind way = true) := Lib.hid (by
            have h1 := hd.out
            rw [Nat.sub_self, List.drop_zero] at h1
            rw [HM2.out, ← h1, decide_eq_true rfl])
          clear hx hb5 hjk
          go_wp2_with fail
          go_ret
          exact ⟨ret_bool HR.out.symm, (X5.out.trans HX6.out).trans (by repeat (first | exact Ext.refl _ | refine Ext.alloc ?_ _ | refine Ext.more ?_ _ _ | refine Ext.drew ?_ | refine Ext.drewN ?_ _ | refine Ext.setCell ?_ (by simp <;> omega) _))⟩
  · have q0 : (s.kind != kind) = true := by simp [h0]
    have HR : Hid (matchB s kind way = false) := Lib.hid (by rw [HM.out, decide_eq_false h0]; rfl)
    clear h0
    go_enter Try.func17, Try.ntmps17
    go_wp2_with fail
    go_ret
    exact ⟨ret_bool HR.out.symm, (by repeat (first | exact Ext.refl _ | refine Ext.alloc ?_ _ | refine Ext.more ?_ _ _ | refine Ext.drew ?_ | refine Ext.drewN ?_ _ | refine Ext.setCell ?_ (by simp <;> omega) _))⟩
end Go.Proofs.Ytggmljookcmnkaa
