/- The contracts of the document's shift (viewportref10): put, span, edit, Meets, Start, End; of viewportref16.Own. -/
import Derived.Test.YtggmljookcmnkaaNh
import Derived.Test.YtggmljookcmnkaaF1
import Derived.WalkSpells
import Derived.WalkLawsBesides
import Derived.BigRegion
import Derived.Deep.RegionWith
import Derived.Deep.QuietTactic
import Derived.Deep.DeepCutAuto
import Derived.Deep.RegionHeld3
import Derived.Deep.RegionLaw
import Derived.BigQuiet
import Derived.Lib.Hide
namespace Go.Proofs.Ytggmljookcmnkaa
open Go.RowKit
attribute [local go_sem] more_drew more_drewN more_size more_cell more_frozen more_setCell drew_more drewN_more lt_add_r lt_add_r2 lt_add_r3 lt_add_r4 lt_add_r5 lt_add_r6 lt_add_r7 lt_add_r8 lt_add_r9 lt_add_r10 lt_self_r lt_self_r2

set_option maxHeartbeats 400000 in
theorem rput_any (n : Int) (w : World) : Calls Try.prog 138 #[.int .i64 n] w fun e w' => e = .returned (.int .i64 (clamp n)) ∧ w = w' := by
  go_enter Try.func138, Try.ntmps138
  go_wp2
  all_goals go_ret
  all_goals exact ⟨ret_int (by unfold clamp; (repeat (first | omega | split))), rfl⟩
set_option maxRecDepth 100000 in
set_option maxHeartbeats 1000000 in
theorem rspan_any (a d : Int) (w : World) : Calls Try.prog 136 #[.agg #[.int .i64 a, .int .i64 d]] w fun e w' => e = .returned (.agg #[.int .i64 (clamp a), .int .i64 (clamp d)]) ∧ Ext w w' := by
  go_enter Try.func136, Try.ntmps136
  go_upto_region 1 with fail
  go_region_with (go_at_call 138; refine (rput_any _ _).mono ?_; rintro e w1 ⟨rfl, rfl⟩)
  all_goals
    go_wp2_with fail
    refine bodyPost_ret (v := .agg #[.int .i64 (clamp a), .int .i64 (clamp d)]) (by simp [results, Try.results136, go_sem, *]) rfl ⟨rfl, (by repeat (first | exact Ext.refl _ | refine Ext.alloc ?_ _ | refine Ext.more ?_ _ _ | refine Ext.drew ?_ | refine Ext.drewN ?_ _ | refine Ext.setCell ?_ (by simp <;> omega) _))⟩
set_option maxRecDepth 100000 in
set_option maxHeartbeats 1000000 in
theorem redit_any (a d i : Int) (w : World) : Calls Try.prog 137 #[.agg #[.int .i64 a, .int .i64 d, .int .i64 i]] w fun e w' => e = .returned (.agg #[.int .i64 (clamp a), .int .i64 (clamp d), .int .i64 (clamp i)]) ∧ Ext w w' := by
  go_enter Try.func137, Try.ntmps137
  go_upto_region 1 with fail
  go_wp2_with fail
  refine wp_region_segs (10) [([0, 1, 3, 4, 6, 7], 2), ([], 5), ([], 8), ([9], 10)] [] (by kernel_rfl) (by kernel_rfl) ?_
  (refine segs_cons fun K hK => ?_); (first | (simp only [pick_nil]) | (simp only [pick, nthC])); (repeat (go_big_quiet_step (fail))); (refine wpQuiet_nil (hK _ fun next hn => ?_)); (clear hK K); (simp only [pick, nthC])
  go_wp2_with fail
  refine (rput_any _ _).mono ?_
  rintro e w1 ⟨rfl, rfl⟩
  go_wp2_with fail
  refine segQ_mk (fun _ => laid (by repeat (first | exact Ext.refl _ | refine Ext.alloc ?_ _ | refine Ext.more ?_ _ _ | refine Ext.drew ?_ | refine Ext.drewN ?_ _ | refine Ext.setCell ?_ (by simp <;> omega) _))) (hn _ _ ?_)
  clear hn next
  (refine segs_cons fun K hK => ?_); (first | (simp only [pick_nil]) | (simp only [pick, nthC])); (repeat (go_big_quiet_step (fail))); (refine wpQuiet_nil (hK _ fun next hn => ?_)); (clear hK K); (simp only [pick, nthC])
  go_wp2_with fail
  refine (rput_any _ _).mono ?_
  rintro e w1 ⟨rfl, rfl⟩
  go_wp2_with fail
  refine segQ_mk (fun _ => laid (by repeat (first | exact Ext.refl _ | refine Ext.alloc ?_ _ | refine Ext.more ?_ _ _ | refine Ext.drew ?_ | refine Ext.drewN ?_ _ | refine Ext.setCell ?_ (by simp <;> omega) _))) (hn _ _ ?_)
  clear hn next
  (refine segs_cons fun K hK => ?_); (first | (simp only [pick_nil]) | (simp only [pick, nthC])); (repeat (go_big_quiet_step (fail))); (refine wpQuiet_nil (hK _ fun next hn => ?_)); (clear hK K); (simp only [pick, nthC])
  go_wp2_with fail
  refine (rput_any _ _).mono ?_
  rintro e w1 ⟨rfl, rfl⟩
  go_wp2_with fail
  refine segQ_mk (fun _ => laid (by repeat (first | exact Ext.refl _ | refine Ext.alloc ?_ _ | refine Ext.more ?_ _ _ | refine Ext.drew ?_ | refine Ext.drewN ?_ _ | refine Ext.setCell ?_ (by simp <;> omega) _))) (hn _ _ ?_)
  clear hn next
  (refine segs_cons fun K hK => ?_); (first | (simp only [pick_nil]) | (simp only [pick, nthC])); (repeat (go_big_quiet_step (fail))); (refine wpQuiet_nil (hK _ fun next hn => ?_)); (clear hK K); (simp only [pick, nthC])
  go_wp2_with fail
  refine segQ_mk (fun h => absurd rfl h) (hn _ _ ?_)
  clear hn next
  (refine segs_nil fun K hK => ?_); (first | (simp only [pick_nil]) | (simp only [pick, nthC])); (repeat (go_big_quiet_step (fail))); (refine wpQuiet_nil (hK _ ?_)); (clear hK K)
  go_wp2_with fail
  refine bodyPost_ret (v := .agg #[.int .i64 (clamp a), .int .i64 (clamp d), .int .i64 (clamp i)]) (by simp [results, Try.results137, go_sem, *]) rfl ⟨rfl, (by repeat (first | exact Ext.refl _ | refine Ext.alloc ?_ _ | refine Ext.more ?_ _ _ | refine Ext.drew ?_ | refine Ext.drewN ?_ _ | refine Ext.setCell ?_ (by simp <;> omega) _))⟩
set_option maxRecDepth 100000 in
set_option maxHeartbeats 1000000 in
theorem rmeets_any (f t a d i : Int) (w : World) :
    Calls Try.prog 111 #[.agg #[.int .i64 f, .int .i64 t], .agg #[.int .i64 a, .int .i64 d, .int .i64 i]] w fun e w' => e = .returned (.bool (meetsF f t a d i)) ∧ Ext w w' := by
  have ha := clamp_bd a
  have hd := clamp_bd d
  have hi := clamp_bd i
  have hf := clamp_bd f
  have ht := clamp_bd t
  go_enter Try.func111, Try.ntmps111
  go_wp2_with fail
  go_upto_region 1 with fail
  go_cut [] (fun wx => Ext ((w.alloc (.cells #[.int .i64 (clamp f), .int .i64 (clamp t)] 102)).alloc (.cells #[.int .i64 (clamp a), .int .i64 (clamp d), .int .i64 (clamp i)] 63)) wx)
  case first =>
    go_region_with (first | (go_at_call 136; refine (rspan_any _ _ _).mono ?_; rintro e w1 ⟨rfl, os1, k1, rfl⟩) | (go_at_call 137; refine (redit_any _ _ _ _).mono ?_; rintro e w2 ⟨rfl, os2, k2, rfl⟩))
    all_goals (go_wp2_with fail; go_meet; exact (by repeat (first | exact Ext.refl _ | refine Ext.alloc ?_ _ | refine Ext.more ?_ _ _ | refine Ext.drew ?_ | refine Ext.drewN ?_ _ | refine Ext.setCell ?_ (by simp <;> omega) _)))
  case rest =>
    obtain ⟨os, k, rfl⟩ := hcut
    go_wp2
    all_goals go_ret
    all_goals exact ⟨ret_bool (by unfold meetsF; simp [*]; try omega), (by repeat (first | exact Ext.refl _ | refine Ext.alloc ?_ _ | refine Ext.more ?_ _ _ | refine Ext.drew ?_ | refine Ext.drewN ?_ _ | refine Ext.setCell ?_ (by simp <;> omega) _))⟩
set_option maxRecDepth 100000 in
set_option maxHeartbeats 1000000 in
theorem rown_any (p : Prt) (w : World) : Calls Try.prog 112 #[aggV p] w fun e w' => e = .returned (.agg #[.int .i64 (ownLo p.nd), .int .i64 p.nd.look]) ∧ Ext w w' := by
  obtain ⟨⟨sym, kind, lo, inn, hi, look, kids, met⟩, kA, kc⟩ := p
  by_cases hk : kind = 1
  · have HO : Hid (ownLo ⟨sym, kind, lo, inn, hi, look, kids, met⟩ = -1) := Lib.hid (if_pos hk)
    have hk1 : (kind == 1) = true := by simpa using hk
    clear hk
    go_enter Try.func112, Try.ntmps112
    go_wp2_with fail
    refine bodyPost_ret (v := .agg #[.int .i64 (-1), .int .i64 look]) (by simp [results, Try.results112, go_sem, *]) rfl ⟨?_, (by repeat (first | exact Ext.refl _ | refine Ext.alloc ?_ _ | refine Ext.more ?_ _ _ | refine Ext.drew ?_ | refine Ext.drewN ?_ _ | refine Ext.setCell ?_ (by simp <;> omega) _))⟩
    rw [HO.out]
  · have HO : Hid (ownLo ⟨sym, kind, lo, inn, hi, look, kids, met⟩ = lo) := Lib.hid (if_neg hk)
    have hk1 : (kind == 1) = false := by simpa using hk
    clear hk
    go_enter Try.func112, Try.ntmps112
    go_wp2_with fail
    refine bodyPost_ret (v := .agg #[.int .i64 lo, .int .i64 look]) (by simp [results, Try.results112, go_sem, *]) rfl ⟨?_, (by repeat (first | exact Ext.refl _ | refine Ext.alloc ?_ _ | refine Ext.more ?_ _ _ | refine Ext.drew ?_ | refine Ext.drewN ?_ _ | refine Ext.setCell ?_ (by simp <;> omega) _))⟩
    rw [HO.out]
end Go.Proofs.Ytggmljookcmnkaa
