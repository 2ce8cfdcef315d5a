/- The chapter's examples; JobsOrder. -/
import Derived.Test.YtmgpofdmfmeljaaJn
import Derived.WalkSpells
import Derived.WalkLawsBesides
import Derived.BigRegion
import Derived.Deep.RegionWith
import Derived.Deep.QuietTactic
import Derived.Deep.DeepCutAuto
import Derived.Deep.RegionHeld3
import Derived.Deep.RegionLaw
import Derived.BigQuiet
import Derived.Lib.Hide
namespace Go.Proofs.Ytmgpofdmfmeljaa
open Go.RowKit
attribute [local go_sem] more_drew more_drewN more_size more_cell more_frozen more_setCell drew_more drewN_more lt_add_r lt_add_r2 lt_add_r3 lt_add_r4 lt_add_r5 lt_add_r6 lt_add_r7 lt_add_r8 lt_add_r9 lt_add_r10 lt_self_r lt_self_r2

set_option maxRecDepth 100000 in
set_option maxHeartbeats 1000000 in
theorem job_any (a b c d : Int) (w : World) : Calls Try.prog 16 #[.int .i64 a, .int .i64 b, .int .i64 c, .int .i64 d] w fun e w' => e = .returned (.agg #[.int .i64 a, .int .i64 b, .int .i64 c, .int .i64 d, .int .i64 0]) ∧ Ext w w' := by
  go_enter Try.func16, Try.ntmps16
  go_wp2_with fail
  go_returns
  exact ⟨rfl, (by repeat (first | exact Ext.refl _ | refine Ext.alloc ?_ _ | refine Ext.more ?_ _ _ | refine Ext.drew ?_ | refine Ext.drewN ?_ _ | refine Ext.setCell ?_ (by simp <;> omega) _))⟩
def exD : List Dt := [⟨0, 2, 4, 3, 0⟩, ⟨1, 90, 95, 0, 0⟩]
theorem exD_check : CheckP exD := by unfold CheckP OkD lastS exD; decide
set_option maxRecDepth 100000 in
set_option maxHeartbeats 1000000 in
theorem example_any (w : World) : Calls Try.prog 17 #[] w (JobsRet w exD) := by
  go_enter Try.func17, Try.ntmps17
  go_wp2_with fail
  refine (job_any 0 2 4 3 w).mono ?_
  rintro e w1 ⟨rfl, hx1⟩
  have HX1 := Lib.hid hx1
  clear hx1
  go_wp2_with fail
  refine (job_any 1 90 95 0 w1).mono ?_
  rintro e w2 ⟨rfl, hx2⟩
  have HX2 := Lib.hid (HX1.out.trans hx2)
  clear hx2
  go_wp2_with fail
  go_ret
  exact ⟨some ⟨w2.heap.size, 0, none⟩, 2, rfl, own_lit w2 w.heap.size _ 5 _ 2 _ rfl HX2.out.size rfl (by unfold maxLen; omega), HX2.out.alloc _⟩
set_option maxRecDepth 100000 in
set_option maxHeartbeats 2000000 in
theorem lives24_any (w : World) : Calls Try.prog 6 #[] w fun e w' => e = .returned (.bool true) ∧ Ext w w' := by
  have e1 : ((qR ⟨80, 99, 5⟩ exD).getD 0 z6).2.slot = 1 := by decide
  have e2 : ((qR ⟨80, 99, 3⟩ exD).getD 0 z6).2.slot = 0 := by decide
  have CN := fun (A : Option Addr) (c : Nat) (V : World) (h : Jobs V A exD) => next_any ⟨80, 99, 5⟩ A c exD V h exD_check
  have CM := fun (A : Option Addr) (c : Nat) (V : World) (h : Jobs V A exD) => next_any ⟨80, 99, 3⟩ A c exD V h exD_check
  rw [e1] at CN
  rw [e2] at CM
  rw [show (decide (0 < exD.length)) = true by decide, show exD.length = 2 from rfl] at CN CM
  have HCN := Lib.hid CN
  have HCM := Lib.hid CM
  clear CN CM e1 e2
  obtain ⟨W1, hW1⟩ : ∃ W1, w.alloc (.cells #[.int .i64 80, .int .i64 99] 29) = W1 := ⟨_, rfl⟩
  have X1 : Hid (Ext w W1) := Lib.hid (by rw [← hW1]; exact (by repeat (first | exact Ext.refl _ | refine Ext.alloc ?_ _ | refine Ext.more ?_ _ _ | refine Ext.drew ?_ | refine Ext.drewN ?_ _ | refine Ext.setCell ?_ (by simp <;> omega) _)))
  have V1 : Hid (W1.heap[w.heap.size]? = some (.cells #[.int .i64 80, .int .i64 99] 29)) := Lib.hid (by rw [← hW1]; exact heap_alloc_new _ _)
  have v0 := cell_of_row _ _ 0 _ _ _ V1.out
  have v1 := cell_of_row _ _ 1 _ _ _ V1.out
  have lv := lt_of_heap V1.out
  simp at v0 v1
  go_enter Try.func6, Try.ntmps6
  go_upto_region 2 with fail
  clear hW1
  refine wp_region_bt (8) (softs_bt [1] (.step 0 (.step 2 (softs_bt [3, 4, 5, 6, 7] .fin)))) (by kernel_rfl) (by kernel_rfl) ?_
  (refine bt_softs _ fun K hK => ?_); (simp only [pick, nthC]); (repeat (go_big_quiet_step (fail))); (refine wpQuiet_nil (hK _ ?_)); (clear hK K)
  (refine bt_step fun next hn => ?_); (simp only [pick, nthC])
  go_wp2_with fail
  refine (example_any _).mono ?_
  rintro e w2 ⟨A2, c2, rfl, ho2, hx2⟩
  have Y2 : Hid (Ext W1 w2) := Lib.hid (Ext.trans (by repeat (first | exact Ext.refl _ | refine Ext.alloc ?_ _ | refine Ext.more ?_ _ _ | refine Ext.drew ?_ | refine Ext.drewN ?_ _ | refine Ext.setCell ?_ (by simp <;> omega) _)) hx2)
  have J2 := Lib.hid ho2.jobs.1
  clear ho2 hx2
  go_wp2_with fail
  refine segQ_mk (fun _ => laid Y2.out) (hn _ _ ?_)
  clear hn next
  (refine bt_step fun next hn => ?_); (simp only [pick, nthC])
  go_wp2_with fail
  refine (HCN.out A2 c2 w2 J2.out).mono ?_
  rintro e w3 ⟨rfl, hx3⟩
  have Y3 : Hid (Ext W1 w3) := Lib.hid (Y2.out.trans hx3)
  clear hx3
  go_wp2_with fail
  refine segQ_mk (fun _ => laid Y3.out) (hn _ _ ?_)
  clear hn next
  (refine bt_softs _ fun K hK => ?_); (simp only [pick, nthC]); (repeat (go_big_quiet_step (fail))); (refine wpQuiet_nil (hK _ ?_)); (clear hK K)
  (refine bt_fin ?_)
  clear v0 v1 lv
  have v0 := cell_of_row _ _ 0 _ _ _ (ext_block V1.out Y3.out)
  have v1 := cell_of_row _ _ 1 _ _ _ (ext_block V1.out Y3.out)
  have lv := lt_of_heap (ext_block V1.out Y3.out)
  simp at v0 v1
  go_upto_region 3 with fail
  refine wp_region_bt (8) (softs_bt [1] (.step 0 (.step 2 (softs_bt [3, 4, 5, 6, 7] .fin)))) (by kernel_rfl) (by kernel_rfl) ?_
  (refine bt_softs _ fun K hK => ?_); (simp only [pick, nthC]); (repeat (go_big_quiet_step (fail))); (refine wpQuiet_nil (hK _ ?_)); (clear hK K)
  (refine bt_step fun next hn => ?_); (simp only [pick, nthC])
  go_wp2_with fail
  refine (example_any _).mono ?_
  rintro e w4 ⟨A4, c4, rfl, ho4, hx4⟩
  have Y4 : Hid (Ext w3 w4) := Lib.hid (Ext.trans (by repeat (first | exact Ext.refl _ | refine Ext.alloc ?_ _ | refine Ext.more ?_ _ _ | refine Ext.drew ?_ | refine Ext.drewN ?_ _ | refine Ext.setCell ?_ (by simp <;> omega) _)) hx4)
  have J4 := Lib.hid ho4.jobs.1
  clear ho4 hx4
  go_wp2_with fail
  refine segQ_mk (fun _ => laid Y4.out) (hn _ _ ?_)
  clear hn next
  (refine bt_step fun next hn => ?_); (simp only [pick, nthC])
  go_wp2_with fail
  refine (HCM.out A4 c4 w4 J4.out).mono ?_
  rintro e w5 ⟨rfl, hx5⟩
  have Y5 : Hid (Ext w3 w5) := Lib.hid (Y4.out.trans hx5)
  clear hx5
  go_wp2_with fail
  refine segQ_mk (fun _ => laid Y5.out) (hn _ _ ?_)
  clear hn next
  (refine bt_softs _ fun K hK => ?_); (simp only [pick, nthC]); (repeat (go_big_quiet_step (fail))); (refine wpQuiet_nil (hK _ ?_)); (clear hK K)
  (refine bt_fin ?_)
  go_wp2_with fail
  go_ret
  exact ⟨rfl, (X1.out.trans Y3.out).trans Y5.out⟩
set_option maxRecDepth 100000 in
set_option maxHeartbeats 4000000 in
theorem jobsOrder_any (A : Option Addr) (c : Nat) (ds : List Dt) (k : Kv) (w : World) (h : Jobs w A ds) (hl : ds.length ≤ 9223372036854775807) :
    Calls Try.prog 4 #[.slice A ds.length c, .agg #[.int .i64 k.lo, .int .i64 k.hi], .int .i64 k.wait] w fun e w' => e = .returned (.bool true) ∧ Ext w w' := by
  have H := Lib.hid h
  clear h
  obtain ⟨W1, hW1⟩ : ∃ W1, w.alloc (.cells #[.int .i64 k.lo, .int .i64 k.hi] 29) = W1 := ⟨_, rfl⟩
  have X1 : Hid (Ext w W1) := Lib.hid (by rw [← hW1]; exact (by repeat (first | exact Ext.refl _ | refine Ext.alloc ?_ _ | refine Ext.more ?_ _ _ | refine Ext.drew ?_ | refine Ext.drewN ?_ _ | refine Ext.setCell ?_ (by simp <;> omega) _)))
  obtain ⟨bv, hbv⟩ : ∃ bv, w.heap.size = bv := ⟨_, rfl⟩
  have V1 : Hid (W1.heap[bv]? = some (.cells #[.int .i64 k.lo, .int .i64 k.hi] 29)) := Lib.hid (by rw [← hW1, ← hbv]; exact heap_alloc_new _ _)
  go_enter Try.func4, Try.ntmps4
  go_upto_region 1 with fail
  clear hW1 hbv
  go_wp2_with fail
  refine (lives24_any W1).mono ?_
  rintro e w1 ⟨rfl, hx1⟩
  have HX1 := Lib.hid (X1.out.trans hx1)
  have B1 := Lib.hid (ext_block V1.out hx1)
  clear hx1 X1 V1
  by_cases h40 : 40 < ds.length
  · go_wp2_with fail
    go_ret
    exact ⟨rfl, HX1.out⟩
  · go_wp2_with fail
    refine (rcheck_any A c ds w1 (H.out.ext HX1.out) hl).mono ?_
    rintro e w2 ⟨n, rfl, hn, hx2⟩
    have HX2 := Lib.hid (HX1.out.trans hx2)
    have B2 := Lib.hid (ext_block B1.out hx2)
    have HN := Lib.hid hn
    clear hx2 hn HX1 B1
    by_cases hz : n = 0
    · subst hz
      have HC := Lib.hid (HN.out rfl)
      have v0 := cell_of_row _ _ 0 _ _ _ B2.out
      have v1 := cell_of_row _ _ 1 _ _ _ B2.out
      have lv := lt_of_heap B2.out
      simp at v0 v1
      go_wp2_with fail
      refine (order_ints k A c ds w2 (H.out.ext HX2.out) HC.out).mono ?_
      rintro e w3 ⟨Ao, co, rfl, ho, hx3⟩
      have HX3 := Lib.hid (HX2.out.trans hx3)
      have B3 := Lib.hid (ext_block B2.out hx3)
      have HO := Lib.hid ho
      have hol : (slotsF (qR k ds)).length = ds.length := by rw [slotsF_sort, List.length_map, sortD_length]
      rw [hol]
      have HOL := Lib.hid hol
      have hco := ho.ints.2.1
      have hcm := ho.ints.2.2.1
      rw [hol] at hco
      unfold maxLen at hcm
      clear ho hx3 hol HX2 B2 v0 v1 lv
      obtain ⟨xs, hxs⟩ : ∃ xs, slotsF (qR k ds) = xs := ⟨_, rfl⟩
      rw [hxs] at HO HOL
      have HXS := Lib.hid hxs
      have HQ := Lib.hid HC.out.q
      clear hxs HN h40
      have hl2 := HQ.out.len
      have HJ3 := Lib.hid (H.out.ext HX3.out)
      go_wp2_with fail
      go_loopw [8, 9] (fun v8 v9 wr => ∃ (i : Nat) (A' : Option Addr) (c' : Nat) (es : List Dt), i + es.length = ds.length ∧ v9 = .int .i64 i ∧ v8 = .slice A' es.length c' ∧ Hid (Jobs wr A' es) ∧ Hid (CheckQ es) ∧ Hid (sortD k es = (sortD k ds).drop i) ∧ Hid (Ext w3 wr)) (fun _ v9 _ => ds.length - (intOf v9).toNat)
      case atStart => exact ⟨0, A, c, ds, by omega, rfl, rfl, HJ3, HQ, Lib.hid rfl, Lib.hid (Ext.refl _)⟩
      case round =>
        obtain ⟨i, A', c', es, hie, rfl, rfl, hj, hq, hs, hx⟩ := hrel
        clear HJ3 HQ
        have HSE : Hid (slotsF (qR k es) = xs.drop i) := Lib.hid (by rw [← HXS.out, slotsF_sort, slotsF_sort, hs.out, List.map_drop])
        have v0 := cell_of_row _ _ 0 _ _ _ (ext_block B3.out hx.out)
        have v1 := cell_of_row _ _ 1 _ _ _ (ext_block B3.out hx.out)
        have lv := lt_of_heap (ext_block B3.out hx.out)
        simp at v0 v1
        by_cases hlt : i < ds.length
        · have hel : 0 < es.length := by omega
          obtain ⟨d, t, hdt⟩ : ∃ d t, sortD k es = d :: t := by
            cases hse : sortD k es with
            | nil => have := sortD_length k es; rw [hse] at this; simp at this; omega
            | cons d t => exact ⟨d, t, rfl⟩
          have hy1 : ((qR k es).getD 0 z6).2.slot = d.slot := by
            unfold sortD at hdt
            cases hqr : qR k es with
            | nil => rw [hqr] at hdt; cases hdt
            | cons r R => rw [hqr] at hdt; injection hdt with h1 h2; rw [← h1]; rfl
          have hy2 : xs.getD i 0 = d.slot := by
            have h1 := HSE.out
            rw [slotsF_sort, hdt] at h1
            have h2 : (xs.drop i).getD 0 0 = xs.getD i 0 := by rw [List.getD_eq_getElem?_getD, List.getD_eq_getElem?_getD, List.getElem?_drop, Nat.add_zero]
            rw [← h2, ← h1]
            rfl
          have CN := next_any k A' c' es wr hj.out hq.out.p
          rw [hy1, show (decide (0 < es.length)) = true from decide_eq_true hel] at CN
          obtain ⟨y, hyy⟩ : ∃ y, d.slot = y := ⟨_, rfl⟩
          rw [hyy] at CN
          have HCN := Lib.hid CN
          have HYY := Lib.hid hyy
          have HDT := Lib.hid hdt
          have hl3 : xs.length = ds.length := HOL.out
          obtain ⟨bo, oo, rfl, hbo, hco2⟩ := (HO.out.ints.1.ext hx.out) (by omega)
          have o0 := hco2 i (by omega)
          rw [hy2, hyy] at o0
          have HBO := Lib.hid hbo
          clear CN hyy hdt hy1 hy2 hco2 hl3
          go_wp2_with fail
          refine HCN.out.mono ?_
          rintro e w4 ⟨rfl, hx4⟩
          have HX4 := Lib.hid hx4
          have o1 := ext_cell o0 HBO.out hx4
          have lo1 := Nat.lt_of_lt_of_le HBO.out hx4.size
          have w0 := ext_cell v0 lv hx4
          have w1' := ext_cell v1 lv hx4
          have lw := Nat.lt_of_lt_of_le lv hx4.size
          clear hx4 v0 v1 lv o0 hbo HCN
          have bi1 : (i : Int) < (ds.length : Int) := by omega
          have bi0 : (0 : Int) ≤ (i : Int) := by omega
          have yy : (y != y) = false := by simp
          have yy2 : (y == y) = true := by simp
          go_upto_region 13 with fail
          refine wp_region_bt (21) (softs_bt [0, 1, 2, 3, 4, 5, 6, 7, 8, 9, 10, 11, 12, 13, 15, 16, 17] (.step 14 (.step 18 (softs_bt [19, 20] .fin)))) (by kernel_rfl) (by kernel_rfl) ?_
          (refine bt_softs _ fun K hK => ?_); (simp only [pick, nthC]); (repeat (go_big_quiet_step (fail))); (refine wpQuiet_nil (hK _ ?_)); (clear hK K)
          (refine bt_step fun next hn => ?_); (simp only [pick, nthC])
          go_wp2_with fail
          have CO := order_ints k A' c' es w4.drew (hj.out.ext (HX4.out.trans (by repeat (first | exact Ext.refl _ | refine Ext.alloc ?_ _ | refine Ext.more ?_ _ _ | refine Ext.drew ?_ | refine Ext.drewN ?_ _ | refine Ext.setCell ?_ (by simp <;> omega) _)))) hq.out.p
          rw [HSE.out] at CO
          refine CO.mono ?_
          rintro e w5 ⟨A5, c5, rfl, ho5, hx5⟩
          have Y5 : Hid (Ext w4 w5) := Lib.hid (Ext.trans (by repeat (first | exact Ext.refl _ | refine Ext.alloc ?_ _ | refine Ext.more ?_ _ _ | refine Ext.drew ?_ | refine Ext.drewN ?_ _ | refine Ext.setCell ?_ (by simp <;> omega) _)) hx5)
          have hdl : (xs.drop i).length = ds.length - i := by rw [List.length_drop, HOL.out]
          have hIB : Ints w5 (some ⟨bo, oo + i, none⟩) (xs.drop i) := by
            have := (HO.out.ints.1.ext ((hx.out.trans HX4.out).trans Y5.out)).drop i co (by rw [HOL.out]; exact hco)
            rw [if_neg (by omega)] at this
            simp only [Option.map_some, Go.WideShapes.add_plain] at this
            exact this
          have CS := same_any A5 (some ⟨bo, oo + i, none⟩) (xs.drop i) (xs.drop i) c5 (co - i) w5 ho5.ints.1 hIB (by rw [hdl]; omega) (by rw [hdl]; omega)
          rw [decide_eq_true rfl, hdl] at CS
          rw [hdl]
          have HCS := Lib.hid CS
          clear CO CS ho5 hx5 hdl hIB
          go_wp2_with fail
          refine segQ_mk (fun _ => laid Y5.out) (hn _ _ ?_)
          clear hn next
          (refine bt_step fun next hn => ?_); (simp only [pick, nthC])
          go_wp2_with fail
          refine HCS.out.mono ?_
          rintro e w6 ⟨rfl, hx6⟩
          have Y6 : Hid (Ext w4 w6) := Lib.hid (Y5.out.trans hx6)
          clear hx6 HCS Y5
          go_wp2_with fail
          refine segQ_mk (fun _ => laid Y6.out) (hn _ _ ?_)
          clear hn next
          (refine bt_softs _ fun K hK => ?_); (simp only [pick, nthC]); (repeat (go_big_quiet_step (fail))); (refine wpQuiet_nil (hK _ ?_)); (clear hK K)
          (refine bt_fin ?_)
          clear o1 lo1 w0 w1' lw yy yy2
          go_wp2_with fail
          refine (drop_any A' c' es y w6 (hj.out.ext (HX4.out.trans Y6.out)) (by omega)).mono ?_
          rintro e w7 ⟨A7, c7, rfl, ho7, hx7⟩
          have hkk : sortD k (keepF y es) = t := by rw [← HYY.out]; exact sortD_keep k hq.out HDT.out
          have HKL : Hid (i + 1 + (keepF y es).length = ds.length) := Lib.hid (by
            have h1 := sortD_length k (keepF y es)
            have h2 := sortD_length k es
            rw [hkk] at h1
            rw [HDT.out, List.length_cons] at h2
            omega)
          have HKS : Hid (sortD k (keepF y es) = (sortD k ds).drop (i + 1)) := Lib.hid (by
            have h1 := hs.out
            rw [HDT.out] at h1
            rw [hkk, ← List.tail_drop, ← h1]
            rfl)
          have HJ7 := Lib.hid ho7.jobs.1
          have HX7 := Lib.hid (((hx.out.trans HX4.out).trans Y6.out).trans hx7)
          have HQ7 := Lib.hid (hq.out.keep y)
          clear ho7 hx7 hkk
          go_wp2_with fail
          go_roundw
          case rel => exact ⟨i + 1, A7, c7, keepF y es, HKL.out, by go_num, rfl, HJ7, HQ7, HKS, HX7⟩
          case measure => simp [intOf]; omega
        · obtain rfl : es = [] := List.eq_nil_of_length_eq_zero (by omega)
          have CN : Calls Try.prog 10 #[.slice A' 0 c', .agg #[.int .i64 k.lo, .int .i64 k.hi], .int .i64 k.wait] wr fun e w' => e = .returned (.tuple #[.int .i64 0, .bool false]) ∧ Ext wr w' :=
            next_any k A' c' [] wr Jobs.nil ⟨by decide, fun j hj => by simp at hj⟩
          have HCN := Lib.hid CN
          clear CN hs HSE hj hq
          obtain rfl : i = ds.length := by simp at hie; omega
          simp only [List.length_nil]
          go_wp2_with fail
          refine HCN.out.mono ?_
          rintro e w4 ⟨rfl, hx4⟩
          have HX4 := Lib.hid ((HX3.out.trans hx.out).trans hx4)
          clear hx4
          go_wp2_with fail
          go_ret
          exact ⟨rfl, HX4.out⟩
    · have qz : (n == 0) = false := by simpa using hz
      have qz2 : (n != 0) = true := by simpa using hz
      clear hz
      go_wp2_with fail
      go_ret
      exact ⟨rfl, HX2.out⟩
end Go.Proofs.Ytmgpofdmfmeljaa
