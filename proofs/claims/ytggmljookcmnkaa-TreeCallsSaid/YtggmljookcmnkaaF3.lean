/- The contract of edited. -/
import Derived.Test.YtggmljookcmnkaaF1
import Derived.Test.YtggmljookcmnkaaTr
import Derived.WalkSpells
import Derived.WalkLawsBesides
import Derived.BigRegion
import Derived.Deep.RegionWith
import Derived.Deep.QuietTactic
import Derived.Deep.DeepCutAuto
import Derived.Deep.RegionHeld3
import Derived.Deep.RegionLaw
import Derived.BigQuiet
import Derived.Lib.Hide
namespace Go.Proofs.Ytggmljookcmnkaa
open Go.RowKit
attribute [local go_sem] more_drew more_drewN more_size more_cell more_frozen more_setCell drew_more drewN_more lt_add_r lt_add_r2 lt_add_r3 lt_add_r4 lt_add_r5 lt_add_r6 lt_add_r7 lt_add_r8 lt_add_r9 lt_add_r10 lt_self_r lt_self_r2

set_option maxRecDepth 100000 in
set_option maxHeartbeats 4000000 in
theorem edited_any (p : Prt) (a d i t : Int) (w : World) (ha : Lt30 a) (hd : Lt30 d) (hi : Lt30 i) (h1 : Lt30 p.nd.lo) (h2 : Lt30 p.nd.inn) (h3 : Lt30 p.nd.hi) (h4 : Lt30 p.nd.look) (hto : 0 ≤ t ∧ t ≤ 9223372036854775807) :
    Calls Try.prog 93 #[aggV p, .agg #[.int .i64 a, .int .i64 d, .int .i64 i], .int .i64 t] w fun e w' => e = .returned (aggV ⟨editedF ⟨a, d, i, id⟩ t p.nd, p.kA, p.kc⟩) ∧ Ext w w' := by
  have HM : Hid (∀ f, Lt30 f → meetsF f p.nd.look a d i = decide (Meet f p.nd.look ⟨a, d, i, id⟩)) := Lib.hid fun f hf => meets_in hf h4 ha hd hi
  obtain ⟨b, hb⟩ : ∃ b, w.heap.size = b := ⟨_, rfl⟩
  obtain ⟨W3, hW3⟩ : ∃ W3, ((w.alloc (.cells #[.int .i64 p.nd.sym, .int .i64 p.nd.kind, .int .i64 p.nd.lo, .int .i64 p.nd.inn, .int .i64 p.nd.hi, .int .i64 p.nd.look, .slice p.kA p.nd.kids.length p.kc, .int .u64 p.nd.met] 33)).alloc (.cells #[.int .i64 a, .int .i64 d, .int .i64 i] 63)).alloc
    (.cells #[.int .i64 0, .int .i64 0, .int .i64 0, .int .i64 0, .int .i64 0, .int .i64 0, .slice none 0 0, .int .u64 0] 33) = W3 := ⟨_, rfl⟩
  have S3 : EdW w W3 b a d i p := by
    rw [← hW3, ← hb]
    exact ⟨(by simp only [heap_alloc_get, World.size_alloc]; (repeat (split; (first | rfl | (exfalso; omega)))); (try (first | (exfalso; omega) | simp_all))), (by simp only [heap_alloc_get, World.size_alloc]; (repeat (split; (first | rfl | (exfalso; omega)))); (try (first | (exfalso; omega) | simp_all))), (by simp only [heap_alloc_get, World.size_alloc]; (repeat (split; (first | rfl | (exfalso; omega)))); (try (first | (exfalso; omega) | simp_all))), (by repeat (first | exact Ext.refl _ | refine Ext.alloc ?_ _ | refine Ext.more ?_ _ _ | refine Ext.drew ?_ | refine Ext.drewN ?_ _ | refine Ext.setCell ?_ (by simp <;> omega) _)), rfl⟩
  obtain ⟨⟨c0, c1, c2, c3, c4, c5, c6, c7⟩, ⟨e0, e1, e2⟩, ⟨l0, l1, l2⟩, _⟩ := S3.cells
  have HS3 := Lib.hid S3
  have HB := Lib.hid hb
  have HW3 := Lib.hid hW3
  clear S3 hb hW3
  go_enter Try.func93, Try.ntmps93
  go_upto_region 1 with fail
  rw [HW3.out, HB.out]
  refine wp_region_segs (5) [([0, 2], 1), ([], 3)] [4] (by kernel_rfl) (by kernel_rfl) ?_
  (refine segs_cons fun K hK => ?_); (first | (simp only [pick_nil]) | (simp only [pick, nthC])); (repeat (go_big_quiet_step (fail))); (refine wpQuiet_nil (hK _ fun next hn => ?_)); (clear hK K); (simp only [pick, nthC])
  go_wp2_with fail
  refine (own_any p _).mono ?_
  rintro e w4 ⟨rfl, hx4⟩
  have X4 : Hid (Ext W3 w4) := Lib.hid (Ext.trans (by repeat (first | exact Ext.refl _ | refine Ext.alloc ?_ _ | refine Ext.more ?_ _ _ | refine Ext.drew ?_ | refine Ext.drewN ?_ _ | refine Ext.setCell ?_ (by simp <;> omega) _)) hx4)
  clear hx4
  go_wp2_with fail
  refine segQ_mk (fun _ => laid X4.out) (hn _ _ ?_)
  clear hn next
  (refine segs_cons fun K hK => ?_); (first | (simp only [pick_nil]) | (simp only [pick, nthC])); (repeat (go_big_quiet_step (fail))); (refine wpQuiet_nil (hK _ fun next hn => ?_)); (clear hK K); (simp only [pick, nthC])
  go_wp2_with fail
  refine (meets_any _ _ a d i w4).mono ?_
  rintro e w5 ⟨rfl, hx5⟩
  have X5 : Hid (Ext W3 w5) := Lib.hid (X4.out.trans hx5)
  clear hx5
  obtain ⟨mb, hmb⟩ : ∃ mb, meetsF (ownLo p.nd) p.nd.look a d i = mb := ⟨_, rfl⟩
  rw [hmb]
  have HMB := Lib.hid hmb
  clear hmb
  go_wp2_with fail
  refine segQ_mk (fun _ => laid X5.out) (hn _ _ ?_)
  clear hn next
  (refine segs_nil fun K hK => ?_); (first | (simp only [pick_nil]) | (simp only [pick, nthC])); (repeat (go_big_quiet_step (fail))); (refine wpQuiet_nil (hK _ ?_)); (clear hK K)
  have S5 := Lib.hid (HS3.out.more X5.out)
  clear c0 c1 c2 c3 c4 c5 c6 c7 e0 e1 e2 l0 l1 l2
  obtain ⟨⟨c0, c1, c2, c3, c4, c5, c6, c7⟩, ⟨e0, e1, e2⟩, ⟨l0, l1, l2⟩, f2, f3, f4, f5⟩ := S5.out.cells
  go_upto_if 24 with fail
  go_cut [] (fun wx => Hid (EdW w wx b a d i ⟨{ p.nd with lo := loE ⟨a, d, i, id⟩ p.nd, hi := hiE ⟨a, d, i, id⟩ t p.nd, look := lookE ⟨a, d, i, id⟩ p.nd }, p.kA, p.kc⟩))
  case first =>
    by_cases hk : p.nd.kind = 1
    · have hk1 : (p.nd.kind == 1) = true := by simpa using hk
      have b1 : wrap64 (p.nd.hi - d) = p.nd.hi - d := IntWalk.wrap64_in _ (by unfold Lt30 at *; omega)
      have b2 : wrap64 (p.nd.hi - d + i) = p.nd.hi - d + i := IntWalk.wrap64_in _ (by unfold Lt30 at *; omega)
      have HK := Lib.hid hk
      clear hk
      unfold Lt30 at *
      go_wp2_with fail
      all_goals go_meet
      all_goals exact Lib.hid (S5.out.root HK.out (by unfold hiE; rw [if_pos HK.out]; dsimp only; omega))
    · have hk1 : (p.nd.kind == 1) = false := by simpa using hk
      have HK := Lib.hid hk
      have HL : Hid (startF p.nd.lo a d i = loE ⟨a, d, i, id⟩ p.nd) := Lib.hid (by rw [start_in h1 ha hd hi (om := id)]; unfold loE; rw [if_neg hk])
      have HE : Hid (endF p.nd.hi a d i = enF p.nd.hi ⟨a, d, i, id⟩) := Lib.hid (end_in h3 ha hd hi)
      have HF : Hid (endF p.nd.look a d i = enF p.nd.look ⟨a, d, i, id⟩) := Lib.hid (end_in h4 ha hd hi)
      clear hk
      go_wp2_with fail
      refine (start_any p.nd.lo a d i w5).mono ?_
      rw [HL.out]
      rintro e w6 ⟨rfl, hx6⟩
      have S6 := Lib.hid (S5.out.more hx6)
      clear hx6 c0 c1 c2 c3 c4 c5 c6 c7 e0 e1 e2 l0 l1 l2 f2 f3 f4 f5
      obtain ⟨⟨c0, c1, c2, c3, c4, c5, c6, c7⟩, ⟨e0, e1, e2⟩, ⟨l0, l1, l2⟩, f2, f3, f4, f5⟩ := S6.out.cells
      have hLb : -4294967296 ≤ loE ⟨a, d, i, id⟩ p.nd ∧ loE ⟨a, d, i, id⟩ p.nd ≤ 4294967296 := by
        unfold loE stF
        rw [if_neg HK.out]
        unfold Lt30 at *
        dsimp only
        split <;> (try split) <;> omega
      obtain ⟨L, hL⟩ : ∃ L, loE ⟨a, d, i, id⟩ p.nd = L := ⟨_, rfl⟩
      rw [hL] at hLb ⊢
      have HLL := Lib.hid hL
      clear hL
      go_upto_region 8 with fail
      obtain ⟨w7, hw7⟩ : ∃ w7, w6.setCell ⟨b, 2, none⟩ (.int .i64 L) = w7 := ⟨_, rfl⟩
      have S7 : Hid (EdW w w7 b a d i ⟨{ p.nd with lo := L }, p.kA, p.kc⟩) := Lib.hid (by rw [← hw7]; exact S6.out.set (k := 2) rfl)
      rw [hw7]
      clear hw7 c0 c1 c2 c3 c4 c5 c6 c7 e0 e1 e2 l0 l1 l2 f2 f3 f4 f5
      obtain ⟨⟨c0, c1, c2, c3, c4, c5, c6, c7⟩, ⟨e0, e1, e2⟩, ⟨l0, l1, l2⟩, f2, f3, f4, f5⟩ := S7.out.cells
      dsimp only at c0 c1 c2 c3 c4 c5 c6 c7
      refine wp_region_segs (9) [([0, 1, 2, 3, 4, 5], 6), ([7, 8], 9)] [] (by kernel_rfl) (by kernel_rfl) ?_
      (refine segs_cons fun K hK => ?_); (first | (simp only [pick_nil]) | (simp only [pick, nthC])); (repeat (go_big_quiet_step (fail))); (refine wpQuiet_nil (hK _ fun next hn => ?_)); (clear hK K); (simp only [pick, nthC])
      go_wp2_with fail
      refine (end_any p.nd.hi a d i _).mono ?_
      rw [HE.out]
      rintro e w8 ⟨rfl, hx8⟩
      have X8 : Hid (Ext w7 w8) := Lib.hid (Ext.trans (by repeat (first | exact Ext.refl _ | refine Ext.alloc ?_ _ | refine Ext.more ?_ _ _ | refine Ext.drew ?_ | refine Ext.drewN ?_ _ | refine Ext.setCell ?_ (by simp <;> omega) _)) hx8)
      have S8 := Lib.hid (S7.out.more X8.out)
      clear hx8 c0 c1 c2 c3 c4 c5 c6 c7 e0 e1 e2 l0 l1 l2 f2 f3 f4 f5
      obtain ⟨⟨c0, c1, c2, c3, c4, c5, c6, c7⟩, ⟨e0, e1, e2⟩, ⟨l0, l1, l2⟩, f2, f3, f4, f5⟩ := S8.out.cells
      dsimp only at c0 c1 c2 c3 c4 c5 c6 c7
      obtain ⟨E1, hE1⟩ : ∃ E1, enF p.nd.hi ⟨a, d, i, id⟩ = E1 := ⟨_, rfl⟩
      rw [hE1]
      obtain ⟨H, hH⟩ : ∃ H, hiE ⟨a, d, i, id⟩ t p.nd = H := ⟨_, rfl⟩
      obtain ⟨M8, hm8⟩ : ∃ M8, (if L < t then t else L) = M8 := ⟨_, rfl⟩
      have hmx : (if M8 < E1 then E1 else M8) = H := by
        rw [← hH, ← hm8]
        unfold hiE
        rw [if_neg HK.out, HLL.out, hE1]
        split <;> split <;> omega
      have HH := Lib.hid hH
      clear hE1 hH
      go_wp2_with fail
      refine segQ_mk (fun _ => laid X8.out) (hn _ _ ?_)
      clear hn next
      (refine segs_cons fun K hK => ?_); (first | (simp only [pick_nil]) | (simp only [pick, nthC])); (repeat (go_big_quiet_step (fail))); (refine wpQuiet_nil (hK _ fun next hn => ?_)); (clear hK K); (simp only [pick, nthC])
      go_wp2_with fail
      obtain ⟨w9, hw9⟩ : ∃ w9, w8.setCell ⟨b, 4, none⟩ (.int .i64 H) = w9 := ⟨_, rfl⟩
      have S9 : Hid (EdW w w9 b a d i ⟨{ p.nd with lo := L, hi := H }, p.kA, p.kc⟩) := Lib.hid (by rw [← hw9]; exact S8.out.set (k := 4) rfl)
      rw [hw9]
      clear hw9 c0 c1 c2 c3 c4 c5 c6 c7 e0 e1 e2 l0 l1 l2 f2 f3 f4 f5 hmx hm8
      obtain ⟨⟨c0, c1, c2, c3, c4, c5, c6, c7⟩, ⟨e0, e1, e2⟩, ⟨l0, l1, l2⟩, f2, f3, f4, f5⟩ := S9.out.cells
      dsimp only at c0 c1 c2 c3 c4 c5 c6 c7
      refine segQ_mk (fun h => absurd rfl h) (hn _ _ ?_)
      clear hn next
      (refine segs_nil fun K hK => ?_); (first | (simp only [pick_nil]) | (simp only [pick, nthC])); (repeat (go_big_quiet_step (fail))); (refine wpQuiet_nil (hK _ ?_)); (clear hK K)
      go_upto_region 9 with fail
      refine wp_region_segs (9) [([0, 1, 2, 3, 4, 5], 6)] [7, 8] (by kernel_rfl) (by kernel_rfl) ?_
      (refine segs_cons fun K hK => ?_); (first | (simp only [pick_nil]) | (simp only [pick, nthC])); (repeat (go_big_quiet_step (fail))); (refine wpQuiet_nil (hK _ fun next hn => ?_)); (clear hK K); (simp only [pick, nthC])
      go_wp2_with fail
      refine (end_any p.nd.look a d i _).mono ?_
      rw [HF.out]
      rintro e w10 ⟨rfl, hx10⟩
      have X10 : Hid (Ext w9 w10) := Lib.hid (Ext.trans (by repeat (first | exact Ext.refl _ | refine Ext.alloc ?_ _ | refine Ext.more ?_ _ _ | refine Ext.drew ?_ | refine Ext.drewN ?_ _ | refine Ext.setCell ?_ (by simp <;> omega) _)) hx10)
      have S10 := Lib.hid (S9.out.more X10.out)
      clear hx10 c0 c1 c2 c3 c4 c5 c6 c7 e0 e1 e2 l0 l1 l2 f2 f3 f4 f5
      obtain ⟨⟨c0, c1, c2, c3, c4, c5, c6, c7⟩, ⟨e0, e1, e2⟩, ⟨l0, l1, l2⟩, f2, f3, f4, f5⟩ := S10.out.cells
      dsimp only at c0 c1 c2 c3 c4 c5 c6 c7
      obtain ⟨E2, hE2⟩ : ∃ E2, enF p.nd.look ⟨a, d, i, id⟩ = E2 := ⟨_, rfl⟩
      rw [hE2]
      obtain ⟨M9, hM9⟩ : ∃ M9, (if L + 1 < E2 then E2 else L + 1) = M9 := ⟨_, rfl⟩
      obtain ⟨M11, hM11⟩ : ∃ M11, (if M9 < a + 1 then a + 1 else M9) = M11 := ⟨_, rfl⟩
      go_wp2_with fail
      refine segQ_mk (fun _ => laid X10.out) (hn _ _ ?_)
      clear hn next
      (refine segs_nil fun K hK => ?_); (first | (simp only [pick_nil]) | (simp only [pick, nthC])); (repeat (go_big_quiet_step (fail))); (refine wpQuiet_nil (hK _ ?_)); (clear hK K)
      have HE2 := Lib.hid hE2
      have hMb : Lt30 (ownLo p.nd) := by
        unfold ownLo
        rw [if_neg HK.out]
        exact h1
      have HMM : Hid (decide (Meet (ownLo p.nd) p.nd.look ⟨a, d, i, id⟩) = mb) := Lib.hid (by rw [← HM.out _ hMb]; exact HMB.out)
      have HM9 := Lib.hid hM9
      have hw2 : wrap64 (a + 1) = a + 1 := IntWalk.wrap64_in _ (by unfold Lt30 at ha; omega)
      clear hE2 hMb hM9
      cases mb with
      | false =>
        clear hM11
        go_wp2_with fail
        go_meet
        have e : lookE ⟨a, d, i, id⟩ p.nd = M9 := by
          unfold lookE
          rw [if_neg HK.out, if_neg (of_decide_eq_false HMM.out), HLL.out, HE2.out, ← HM9.out]
          split <;> omega
        exact Lib.hid (by rw [HLL.out, HH.out, e]; exact S10.out.set (k := 5) rfl)
      | true =>
        have HM11 := Lib.hid hM11
        go_wp2_with fail
        go_meet
        have e : lookE ⟨a, d, i, id⟩ p.nd = M11 := by
          unfold lookE
          rw [if_neg HK.out, if_pos (of_decide_eq_true HMM.out), HLL.out, HE2.out, ← HM11.out, ← HM9.out]
          dsimp only
          split <;> split <;> omega
        exact Lib.hid (by rw [HLL.out, HH.out, e]; exact S10.out.set (k := 5) rfl)
  case rest =>
    clear c0 c1 c2 c3 c4 c5 c6 c7 e0 e1 e2 l0 l1 l2 f2 f3 f4 f5
    obtain ⟨⟨c0, c1, c2, c3, c4, c5, c6, c7⟩, ⟨e0, e1, e2⟩, ⟨l0, l1, l2⟩, f2, f3, f4, f5⟩ := hcut.out.cells
    dsimp only at c0 c1 c2 c3 c4 c5 c6 c7
    obtain ⟨L, hL⟩ : ∃ L, loE ⟨a, d, i, id⟩ p.nd = L := ⟨_, rfl⟩
    obtain ⟨H, hH⟩ : ∃ H, hiE ⟨a, d, i, id⟩ t p.nd = H := ⟨_, rfl⟩
    obtain ⟨K, hK⟩ : ∃ K, lookE ⟨a, d, i, id⟩ p.nd = K := ⟨_, rfl⟩
    rw [hL] at c2
    rw [hH] at c4
    rw [hK] at c5
    have S1 : Hid (EdW w wc b a d i ⟨{ p.nd with lo := L, hi := H, look := K }, p.kA, p.kc⟩) := Lib.hid (by rw [← hL, ← hH, ← hK]; exact hcut.out)
    have HLL := Lib.hid hL
    have HHH := Lib.hid hH
    have HKK := Lib.hid hK
    obtain ⟨bi, hbi⟩ : ∃ bi, (p.nd.inn == p.nd.lo) = bi := ⟨_, rfl⟩
    rw [hbi]
    have HBI := Lib.hid hbi
    clear hL hH hK hcut hbi
    go_upto_if 72 with fail
    obtain ⟨w2, hw2⟩ : ∃ w2, wc.setCell ⟨b, 3, none⟩ (.int .i64 L) = w2 := ⟨_, rfl⟩
    have S2 : Hid (EdW w w2 b a d i ⟨{ p.nd with lo := L, inn := L, hi := H, look := K }, p.kA, p.kc⟩) := Lib.hid (by rw [← hw2]; exact S1.out.set (k := 3) rfl)
    rw [hw2]
    clear hw2 c0 c1 c2 c3 c4 c5 c6 c7 e0 e1 e2 l0 l1 l2 f2 f3 f4 f5
    obtain ⟨⟨c0, c1, c2, c3, c4, c5, c6, c7⟩, ⟨e0, e1, e2⟩, ⟨l0, l1, l2⟩, f2, f3, f4, f5⟩ := S2.out.cells
    dsimp only at c0 c1 c2 c3 c4 c5 c6 c7
    go_cut [] (fun wx => Hid (EdW w wx b a d i ⟨editedF ⟨a, d, i, id⟩ t p.nd, p.kA, p.kc⟩))
    case first =>
      have HME : Hid (metE ⟨a, d, i, id⟩ p.nd = p.nd.met) := Lib.hid (by unfold metE; split <;> rfl)
      cases bi with
      | true =>
        have hin : p.nd.inn = p.nd.lo := by simpa using HBI.out
        have HI : Hid (innE ⟨a, d, i, id⟩ t p.nd = L) := Lib.hid (by unfold innE; rw [if_pos hin]; exact HLL.out)
        clear hin
        go_wp2_with fail
        go_meet
        exact Lib.hid (by unfold editedF; rw [HLL.out, HHH.out, HKK.out, HI.out, HME.out]; exact S2.out)
      | false =>
        have hin : p.nd.inn ≠ p.nd.lo := by simpa using HBI.out
        have HSt : Hid (startF p.nd.inn a d i = stF p.nd.inn ⟨a, d, i, id⟩) := Lib.hid (start_in h2 ha hd hi)
        obtain ⟨I1, hI1⟩ : ∃ I1, stF p.nd.inn ⟨a, d, i, id⟩ = I1 := ⟨_, rfl⟩
        obtain ⟨M1, hM1⟩ : ∃ M1, (if L < I1 then I1 else L) = M1 := ⟨_, rfl⟩
        obtain ⟨N1, hN1⟩ : ∃ N1, (if H < M1 then H else M1) = N1 := ⟨_, rfl⟩
        have HI : Hid (innE ⟨a, d, i, id⟩ t p.nd = N1) := Lib.hid (by
          unfold innE
          rw [if_neg hin, HLL.out, HHH.out, hI1, ← hN1, ← hM1]
          split <;> split <;> omega)
        have HI1 := Lib.hid hI1
        clear hin hI1
        go_upto_region 15 with fail
        refine wp_region_segs (10) [([0, 1, 2, 3, 6, 7], 4), ([5, 8, 9], 10)] [] (by kernel_rfl) (by kernel_rfl) ?_
        (refine segs_cons fun K hK => ?_); (first | (simp only [pick_nil]) | (simp only [pick, nthC])); (repeat (go_big_quiet_step (fail))); (refine wpQuiet_nil (hK _ fun next hn => ?_)); (clear hK K); (simp only [pick, nthC])
        go_wp2_with fail
        refine (start_any p.nd.inn a d i _).mono ?_
        rw [HSt.out, HI1.out]
        rintro e w4 ⟨rfl, hx4⟩
        have X4 : Hid (Ext w2 w4) := Lib.hid (Ext.trans (by repeat (first | exact Ext.refl _ | refine Ext.alloc ?_ _ | refine Ext.more ?_ _ _ | refine Ext.drew ?_ | refine Ext.drewN ?_ _ | refine Ext.setCell ?_ (by simp <;> omega) _)) hx4)
        have S4 := Lib.hid (S2.out.more X4.out)
        clear hx4 c0 c1 c2 c3 c4 c5 c6 c7 e0 e1 e2 l0 l1 l2 f2 f3 f4 f5
        obtain ⟨⟨c0, c1, c2, c3, c4, c5, c6, c7⟩, ⟨e0, e1, e2⟩, ⟨l0, l1, l2⟩, f2, f3, f4, f5⟩ := S4.out.cells
        dsimp only at c0 c1 c2 c3 c4 c5 c6 c7
        go_wp2_with fail
        refine segQ_mk (fun _ => laid X4.out) (hn _ _ ?_)
        clear hn next
        (refine segs_cons fun K hK => ?_); (first | (simp only [pick_nil]) | (simp only [pick, nthC])); (repeat (go_big_quiet_step (fail))); (refine wpQuiet_nil (hK _ fun next hn => ?_)); (clear hK K); (simp only [pick, nthC])
        go_wp2_with fail
        refine segQ_mk (fun h => absurd rfl h) (hn _ _ ?_)
        clear hn next
        (refine segs_nil fun K hK => ?_); (first | (simp only [pick_nil]) | (simp only [pick, nthC])); (repeat (go_big_quiet_step (fail))); (refine wpQuiet_nil (hK _ ?_)); (clear hK K)
        go_wp2_with fail
        go_meet
        exact Lib.hid (by unfold editedF; rw [HLL.out, HHH.out, HKK.out, HI.out, HME.out]; exact S4.out.set (k := 3) rfl)
    case rest =>
      clear c0 c1 c2 c3 c4 c5 c6 c7 e0 e1 e2 l0 l1 l2 f2 f3 f4 f5
      obtain ⟨⟨c0, c1, c2, c3, c4, c5, c6, c7⟩, _, ⟨l0, l1, l2⟩, _⟩ := hcut.out.cells
      obtain ⟨q, hq⟩ : ∃ q, editedF ⟨a, d, i, id⟩ t p.nd = q := ⟨_, rfl⟩
      rw [hq] at c0 c1 c2 c3 c4 c5 c6 c7
      dsimp only at c0 c1 c2 c3 c4 c5 c6 c7
      have hres := hcut.out.res
      have HX := Lib.hid hcut.out.ext
      have HZ := Lib.hid hcut.out.size
      have HQ := Lib.hid hq
      (have y0 := cell_of_row _ _ 0 _ _ _ hres); (have y1 := cell_of_row _ _ 1 _ _ _ hres); (have y2 := cell_of_row _ _ 2 _ _ _ hres); (have y3 := cell_of_row _ _ 3 _ _ _ hres); (have y4 := cell_of_row _ _ 4 _ _ _ hres); (have y5 := cell_of_row _ _ 5 _ _ _ hres); (have y6 := cell_of_row _ _ 6 _ _ _ hres); (have y7 := cell_of_row _ _ 7 _ _ _ hres); (simp at y0 y1 y2 y3 y4 y5 y6 y7)
      have fz : ∀ k, wc.frozen? ⟨b + 1 + 1, k, none⟩ = false := fun k => by simp [World.frozen?, hres]
      (have z0 := fz 0); (have z1 := fz 1); (have z2 := fz 2); (have z3 := fz 3); (have z4 := fz 4); (have z5 := fz 5); (have z6 := fz 6); (have z7 := fz 7)
      clear hres hcut hq fz
      go_wp2_with fail
      have T : Turn (fun k => k = b + 1 + 1) wc ((((((((wc.setCell ⟨b + 1 + 1, 0, none⟩ (.int .i64 q.sym)).setCell ⟨b + 1 + 1, 1, none⟩ (.int .i64 q.kind)).setCell ⟨b + 1 + 1, 2, none⟩ (.int .i64 q.lo)).setCell ⟨b + 1 + 1, 3, none⟩ (.int .i64 q.inn)).setCell ⟨b + 1 + 1, 4, none⟩ (.int .i64 q.hi)).setCell ⟨b + 1 + 1, 5, none⟩ (.int .i64 q.look)).setCell ⟨b + 1 + 1, 6, none⟩ (.slice p.kA q.kids.length p.kc)).setCell ⟨b + 1 + 1, 7, none⟩ (.int .u64 q.met)) :=
        by
        have s0 : b + 1 + 1 = b + 1 + 1 := rfl
        exact Turn.set (Turn.set (Turn.set (Turn.set (Turn.set (Turn.set (Turn.set (Turn.set (Turn.refl wc) s0) s0) s0) s0) s0) s0) s0) s0
      refine bodyPost_ret (v := .agg #[.int .i64 q.sym, .int .i64 q.kind, .int .i64 q.lo, .int .i64 q.inn, .int .i64 q.hi, .int .i64 q.look, .slice p.kA q.kids.length p.kc, .int .u64 q.met]) (by simp [results, Try.results93, go_sem, *]) rfl ⟨by rw [HQ.out], ?_⟩
      have hsz := HZ.out
      exact Ext.of_below (HX.out.below.trans (T.below HX.out.size fun k hk => by omega))
end Go.Proofs.Ytggmljookcmnkaa
