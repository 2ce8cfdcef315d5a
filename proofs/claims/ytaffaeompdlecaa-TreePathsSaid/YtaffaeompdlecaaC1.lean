/- TreePaths: the walk. -/
import Derived.Test.YtaffaeompdlecaaB5
import Derived.Test.YtaffaeompdlecaaB8
import Derived.Test.YtaffaeompdlecaaTk
import Derived.Test.YtaffaeompdlecaaTq
import Derived.WalkSpells
import Derived.WalkLawsBesides
import Derived.BigRegion
import Derived.Deep.RegionWith
import Derived.Deep.QuietTactic
import Derived.Deep.DeepCutAuto
import Derived.Deep.RegionHeld3
import Derived.Deep.RegionLaw
import Derived.BigQuiet
import Derived.Lib.Hide
namespace Go.Proofs.Ytaffaeompdlecaa
open Go.RowKit
attribute [local go_sem] more_drew more_drewN more_size more_cell more_frozen more_setCell drew_more drewN_more lt_add_r lt_add_r2 lt_add_r3 lt_add_r4 lt_add_r5 lt_add_r6 lt_add_r7 lt_add_r8 lt_add_r9 lt_add_r10 lt_self_r lt_self_r2

set_option maxRecDepth 100000 in
set_option maxHeartbeats 4000000 in
theorem paths_any (A : Option Addr) (c : Nat) (ps : List Prt) (i0 : Int) (W : World) (hP : Prts W A ps) (hO : PrtsOk W ps) (hl : ps.length ≤ c) (hc : c ≤ 9223372036854775807) (hA : A = none → c = 0) (hk : KidsLt ps) (hi0 : I64 i0) :
    Calls Try.prog 3 #[.slice A ps.length c, .int .i64 i0] W fun e w' => e = .returned (.bool true) ∧ Ext W w' := by
  have HP := Lib.hid hP
  have HO := Lib.hid hO
  have HK := Lib.hid hk
  have HA := Lib.hid hA
  unfold I64 at hi0
  clear hP hO hk hA
  go_enter Try.func3, Try.ntmps3
  go_wp2_with fail
  refine (lives16_any W).mono ?_
  rintro e w1 ⟨rfl, hx1⟩
  have HX1 := Lib.hid hx1
  clear hx1
  go_wp2_with fail
  refine (light16_any A none c 0 ps [] 0 0 0 w1 (HP.out.ext HX1.out) (by omega) HK.out Prts.nil (by decide) (fun p hp => by cases hp)).mono ?_
  rintro e w2 ⟨b, rfl, hb, hx2⟩
  have HX2 := Lib.hid (HX1.out.trans hx2)
  clear hx2 HX1
  cases b with
  | false =>
    go_wp2_with fail
    go_ret
    exact ⟨rfl, HX2.out⟩
  | true =>
    have hL := (hb rfl).1
    have S : Hid (PS W A c ps) := ⟨HP.out, HO.out, hL.few (by omega), hl, hc, HA.out⟩
    have hlen := hL.len
    clear hb hL HP HO HK HA
    by_cases T : Tree (nds ps)
    · have hpos := T.pos
      rw [nds_length] at hpos
      have HT := Lib.hid T
      clear T
      go_wp2_with fail
      refine (check_ok (S.out.ext HX2.out) HT.out).mono ?_
      rintro e w3 ⟨rfl, hx3⟩
      have HX3 := Lib.hid (HX2.out.trans hx3)
      clear hx3 HX2
      have hp0 : ((ps.length : Int) == 0) = false := by rw [beq_eq_false_iff_ne]; omega
      go_wp2_with fail
      refine (pick_any i0 (ps.length : Int) w3 (by omega) hi0).mono ?_
      rintro e w3' ⟨rfl, rfl⟩
      have hpb := pickF_bd i0 (ps.length : Int) (by omega)
      obtain ⟨j, hj⟩ : ∃ j : Nat, pickF i0 (ps.length : Int) = (j : Int) := ⟨(pickF i0 (ps.length : Int)).toNat, by omega⟩
      rw [hj] at hpb
      have hjl : j < ps.length := by omega
      rw [hj]
      clear hj hpb
      go_wp2_with fail
      refine (Parents_yes (S.out.ext HX3.out) HT.out).mono ?_
      rintro e w4 ⟨us, hus, Au, cu, rfl, hou, hx4⟩
      have HX4 := Lib.hid (HX3.out.trans hx4)
      have HU := Lib.hid hou
      have HUS := Lib.hid hus
      have hul : us.length = ps.length := by rw [hus.1, nds_length]
      rw [hul]
      clear hx4 hou hus HX3
      obtain ⟨ws, hws⟩ := Way.all HT.out j j (Nat.le_refl _) (by rw [nds_length]; exact hjl)
      have HW := Lib.hid hws
      clear hws
      go_wp2_with fail
      refine (Path_yes j ws (S.out.ext HX4.out) HT.out HW.out hjl).mono ?_
      rintro e w5 ⟨Aw, cw, rfl, how, hx5⟩
      have HX5 := Lib.hid (HX4.out.trans hx5)
      have HU5 := Lib.hid (HU.out.ext hx5)
      have HOW := Lib.hid how
      clear hx5 how HX4 HU
      obtain ⟨⟨q, kA, kcap⟩, hq⟩ : ∃ q, ps[j]? = some q := ⟨_, List.getElem?_eq_getElem hjl⟩
      obtain ⟨b, off, rfl, hb, hcell⟩ := (S.out.ext HX5.out).parts (by omega)
      obtain ⟨d0, d1, d2, _, _, _, _, _⟩ := hcell j _ hq
      dsimp only at d0 d1 d2
      have HQ := Lib.hid hq
      clear hq hcell
      obtain ⟨p', vs, hp', hws⟩ := HW.out.ends
      rw [nds_get HQ.out] at hp'
      cases hp'
      have hwl0 : 0 < ws.length := by rw [hws]; simp
      have hwl1 : ws.length ≤ 1001 := by have := HW.out.length HT.out; omega
      have hwn : ((ws.length : Int) == 0) = false := by rw [beq_eq_false_iff_ne]; omega
      have HWS := Lib.hid hws
      obtain ⟨bw, offw, rfl, hbw, hcw⟩ := HOW.out.ints.1 hwl0
      have ew := hcw (ws.length - 1) (by omega)
      have ew2 : ws.getD (ws.length - 1) 0 = q.sym := by rw [HWS.out]; simp
      rw [ew2] at ew
      have hwc := HOW.out.ints.2.1
      have hwc2 := HOW.out.ints.2.2.1
      unfold maxLen at hwc2
      obtain ⟨bu, offu, rfl, hbu, hcu⟩ := HU5.out.ints.1 (by omega)
      have eu := hcu 0 (by omega)
      have eu2 : us.getD 0 0 = -1 := by rw [List.getD_eq_getElem?_getD, HUS.out.2.1]; rfl
      rw [eu2, Nat.add_zero] at eu
      have huc := HU5.out.ints.2.1
      have huc2 := HU5.out.ints.2.2.1
      unfold maxLen at huc2
      have s1 : IntKind.i64.wrap ((ws.length : Int) - 1) = ((ws.length - 1 : Nat) : Int) := by
        rw [show ((ws.length : Int) - 1) = ((ws.length - 1 : Nat) : Int) by omega]
        exact IntWalk.i64_in _ (by omega)
      have s2 : ws.length - 1 < ws.length := by omega
      have HCU := Lib.hid hcu
      have HCW := Lib.hid hcw
      clear hcw ew2 eu2 hcu hws hul
      go_upto_region 10 with fail
      go_quiet (fail)
      clear s1
      go_upto_region 12 with fail
      go_cut [109] (fun t wx => t = .bool false ∧ Hid (Ext w5 wx))
      case first =>
        rcases Nat.eq_zero_or_pos j with hj0 | hj0
        · have g0 : decide (0 < j) = false := by simp [hj0]
          clear hj0
          go_quiet (fail)
          go_wp2_with fail
          go_meet
          exact ⟨rfl, Lib.hid (by repeat (first | exact Ext.refl _ | refine Ext.alloc ?_ _ | refine Ext.more ?_ _ _ | refine Ext.drew ?_ | refine Ext.drewN ?_ _ | refine Ext.setCell ?_ (by simp <;> omega) _))⟩
        · have g0 : decide (0 < j) = true := decide_eq_true hj0
          have hway := HW.out
          obtain ⟨u, ws', hup, hw', hwe⟩ : ∃ u ws', Up (nds ps) j u ∧ Way (nds ps) u ws' ∧ ws = ws' ++ [q.sym] := by
            cases hway with
            | root p hp => omega
            | step _ u p ws' hu hp hw' =>
              rw [nds_get HQ.out] at hp
              cases hp
              exact ⟨u, ws', hu, hw', rfl⟩
          have hul := HT.out.up_lt hup
          have eu3 := HCU.out j (by rw [HUS.out.1, nds_length]; exact hjl)
          have eu4 : us.getD j 0 = (u : Int) := by rw [List.getD_eq_getElem?_getD, HUS.out.2.2 j u hup]; rfl
          rw [eu4] at eu3
          have hwl : ws.length = ws'.length + 1 := by rw [hwe]; simp
          have s1 : IntKind.i64.wrap ((ws.length : Int) - 1) = (ws'.length : Int) := by
            rw [show ((ws.length : Int) - 1) = (ws'.length : Int) by omega]
            exact IntWalk.i64_in _ (by omega)
          have g1 : decide (j ≤ u) = false := decide_eq_false (by omega)
          have s4 : ws'.length ≤ cw := by omega
          have HIW := Lib.hid (show Ints w5 (some ⟨bw, offw, none⟩) ws' from fun h0 => ⟨bw, offw, rfl, hbw, fun k hk => by have := HCW.out k (by omega); rw [hwe, List.getD_eq_getElem?_getD, List.getElem?_append_left hk, ← List.getD_eq_getElem?_getD] at this; exact this⟩)
          have g5 : decide ((u : Int) < 0) = false := decide_eq_false (by omega)
          obtain ⟨m, hm⟩ := HT.out.part (i := j) (by rw [nds_length]; exact hjl)
          obtain ⟨m', hm'⟩ := HT.out.part (i := u) (Nat.lt_trans hul.1 hul.2)
          have HWL := Lib.hid hwl
          have hwl2 : ws'.length ≤ 1000 := by omega
          clear hwl
          have hmm := hm.nest hm' hup
          have g6 : decide (m' < m) = false := decide_eq_false (by omega)
          have hml : m' ≤ 1000 := by have := hm'.le; rw [nds_length] at this; omega
          have HM := Lib.hid hm
          have HM' := Lib.hid hm'
          have HW' := Lib.hid hw'
          have HWE := Lib.hid hwe
          have hu3 := hul.1
          clear hway hup hul hwe hw' eu4 hm hm'
          refine wp_region_segs (44) [([0, 1, 2, 3, 4, 5, 6, 7, 8, 9, 10, 11, 12, 13, 14, 15, 16, 17, 18, 19, 20, 21, 23, 24, 25, 26, 27], 22), ([], 28), ([29, 30, 31, 32, 33, 35, 36, 37, 38, 39], 34), ([], 40)] [41, 42, 43] (by kernel_rfl) (by kernel_rfl) ?_
          (refine segs_cons fun K hK => ?_); (simp only [pick, nthC]); (repeat (go_big_quiet_step (fail))); (refine wpQuiet_nil (hK _ fun next hn => ?_)); (clear hK K); (simp only [pick, nthC])
          go_wp2_with fail
          refine (Path_yes u ws' (S.out.ext (HX5.out.trans (by repeat (first | exact Ext.refl _ | refine Ext.alloc ?_ _ | refine Ext.more ?_ _ _ | refine Ext.drew ?_ | refine Ext.drewN ?_ _ | refine Ext.setCell ?_ (by simp <;> omega) _)))) HT.out HW'.out (by omega)).mono ?_
          rintro e w6 ⟨A2, c2, rfl, ho2, hx6⟩
          have HX6 := Lib.hid (hx6)
          have X6 : Hid (Ext (w5.drewN nq) w6) := Lib.hid (Ext.trans (by repeat (first | exact Ext.refl _ | refine Ext.alloc ?_ _ | refine Ext.more ?_ _ _ | refine Ext.drew ?_ | refine Ext.drewN ?_ _ | refine Ext.setCell ?_ (by simp <;> omega) _)) hx6)
          have HO2 := Lib.hid ho2
          clear hx6 ho2
          go_wp2_with fail
          refine segQ_mk (fun _ => laid X6.out) (hn _ _ ?_)
          clear hn next
          (refine segs_cons fun K hK => ?_); (simp only [pick, nthC]); (repeat (go_big_quiet_step (fail))); (refine wpQuiet_nil (hK _ fun next hn => ?_)); (clear hK K); (simp only [pick, nthC])
          go_wp2_with fail
          refine (same_any A2 (some ⟨bw, offw, none⟩) ws' ws' c2 cw w6 HO2.out.ints.1 (HIW.out.ext X6.out) (by omega) (by omega)).mono ?_
          rintro e w7 ⟨rfl, hx7⟩
          have X7 : Hid (Ext (w5.drewN nq) w7) := Lib.hid (X6.out.trans hx7)
          clear hx7 HO2 X6 HX6
          rw [decide_eq_true (show ws' = ws' from rfl)]
          go_wp2_with fail
          refine segQ_mk (fun _ => laid X7.out) (hn _ _ ?_)
          clear hn next
          (refine segs_cons fun K hK => ?_); (simp only [pick, nthC]); (repeat (go_big_quiet_step (fail))); (refine wpQuiet_nil (hK _ fun next hn => ?_)); (clear hK K); (simp only [pick, nthC])
          go_wp2_with fail
          refine (End_yes j m (S.out.ext (HX5.out.trans (Ext.trans (by repeat (first | exact Ext.refl _ | refine Ext.alloc ?_ _ | refine Ext.more ?_ _ _ | refine Ext.drew ?_ | refine Ext.drewN ?_ _ | refine Ext.setCell ?_ (by simp <;> omega) _)) X7.out))) HT.out HM.out).mono ?_
          rintro e w8 ⟨rfl, hx8⟩
          have X8 : Hid (Ext (w5.drewN nq) w8) := Lib.hid (X7.out.trans hx8)
          clear hx8 X7
          go_wp2_with fail
          refine segQ_mk (fun _ => laid X8.out) (hn _ _ ?_)
          clear hn next
          (refine segs_cons fun K hK => ?_); (simp only [pick, nthC]); (repeat (go_big_quiet_step (fail))); (refine wpQuiet_nil (hK _ fun next hn => ?_)); (clear hK K); (simp only [pick, nthC])
          go_wp2_with fail
          refine (End_yes u m' (S.out.ext (HX5.out.trans (Ext.trans (by repeat (first | exact Ext.refl _ | refine Ext.alloc ?_ _ | refine Ext.more ?_ _ _ | refine Ext.drew ?_ | refine Ext.drewN ?_ _ | refine Ext.setCell ?_ (by simp <;> omega) _)) X8.out))) HT.out HM'.out).mono ?_
          rintro e w9 ⟨rfl, hx9⟩
          have X9 : Hid (Ext (w5.drewN nq) w9) := Lib.hid (X8.out.trans hx9)
          clear hx9 X8
          go_wp2_with fail
          refine segQ_mk (fun _ => laid X9.out) (hn _ _ ?_)
          clear hn next
          (refine segs_nil fun K hK => ?_); (simp only [pick, nthC]); (repeat (go_big_quiet_step (fail))); (refine wpQuiet_nil (hK _ ?_)); (clear hK K)
          go_wp2_with fail
          go_meet
          exact ⟨rfl, Lib.hid (Ext.trans (by repeat (first | exact Ext.refl _ | refine Ext.alloc ?_ _ | refine Ext.more ?_ _ _ | refine Ext.drew ?_ | refine Ext.drewN ?_ _ | refine Ext.setCell ?_ (by simp <;> omega) _)) X9.out)⟩
      case rest =>
        obtain ⟨rfl, hx6⟩ := hcut
        have HX6 := Lib.hid (HX5.out.trans hx6.out)
        obtain ⟨b', off', hA', hb', hcell'⟩ := (S.out.ext HX6.out).parts (by omega)
        injection hA' with hA'
        injection hA' with hA' hB'
        subst hA' hB'
        obtain ⟨f0, f1, f2, _⟩ := hcell' j _ HQ.out
        dsimp only at f0 f1 f2
        clear hcell' d0 d1 d2 eu ew hx6 hb hbw hbu
        have hkk : (q.kind = 1 ∨ q.kind = 2) ∨ LeafK q.kind := by unfold LeafK; omega
        go_upto_region 14 with fail
        go_cut [7] (fun t wx => t = .bool (decide (¬ LeafK q.kind)) ∧ wc = wx)
        case first =>
          rcases hkk with (h1 | h1) | h1
          · have k1 : (q.kind == 1) = true := by simp [h1]
            have k2 : Hid (decide (¬ LeafK q.kind) = true) := Lib.hid (decide_eq_true (by unfold LeafK; omega))
            clear h1
            go_wp2_with fail
            go_meet
            exact ⟨by rw [k2.out], rfl⟩
          · have k1 : (q.kind == 1) = false := by simp [h1]
            have k3 : (q.kind == 2) = true := by simp [h1]
            have k2 : Hid (decide (¬ LeafK q.kind) = true) := Lib.hid (decide_eq_true (by unfold LeafK; omega))
            clear h1
            go_wp2_with fail
            go_meet
            exact ⟨by rw [k2.out], rfl⟩
          · have k1 : (q.kind == 1) = false := by unfold LeafK at h1; simp; omega
            have k3 : (q.kind == 2) = false := by unfold LeafK at h1; simp; omega
            have k2 : Hid (decide (¬ LeafK q.kind) = false) := Lib.hid (decide_eq_false (by simpa using h1))
            clear h1
            go_wp2_with fail
            go_meet
            exact ⟨by rw [k2.out], rfl⟩
        case rest =>
          obtain ⟨rfl, rfl⟩ := hcut
          go_wp2_with fail
          refine (Leaves_yes (S.out.ext HX6.out) HT.out).mono ?_
          rintro e w7 ⟨Al, cl, rfl, hol, hx7⟩
          have HX7 := Lib.hid (HX6.out.trans hx7)
          have HX67 := Lib.hid hx7
          have hlsl := leavesF_len (nds ps) 0
          rw [nds_length] at hlsl
          have hmem : ((j : Int) ∈ leavesF 0 (nds ps)) ↔ LeafK q.kind := by
            rw [leavesF_mem]
            constructor
            · rintro ⟨p, _, h2, h3⟩
              rw [Nat.sub_zero, nds_get HQ.out] at h2
              cases h2
              exact h3
            · intro h
              exact ⟨q, Nat.zero_le _, by rw [Nat.sub_zero]; exact nds_get HQ.out, h⟩
          obtain ⟨ls, hls⟩ : ∃ ls, leavesF 0 (nds ps) = ls := ⟨_, rfl⟩
          rw [hls] at hol hlsl hmem
          rw [hls]
          have HOL := Lib.hid hol
          have HMEM := Lib.hid hmem
          have hcl := hol.ints.2.1
          have hcl2 := hol.ints.2.2.1
          unfold maxLen at hcl2
          clear hls hol hx7 hmem
          go_wp2_with fail
          go_loop [8, 10] (fun v i => ∃ k : Nat, k ≤ ls.length ∧ i = .int .i64 k ∧ v = .bool (decide ((j : Int) ∈ ls.take k))) (fun _ i => ls.length - (intOf i).toNat)
          case atStart => exact ⟨0, Nat.zero_le _, rfl, rfl⟩
          case round =>
            obtain ⟨k, hk, rfl, rfl⟩ := hrel
            by_cases hkl : k < ls.length
            · obtain ⟨bl, offl, rfl, hbl, hcl⟩ := HOL.out.ints.1 (by omega)
              have e1 := hcl k hkl
              obtain ⟨x, hx⟩ : ∃ x, ls.getD k 0 = x := ⟨_, rfl⟩
              rw [hx] at e1
              have htk : ls.take (k + 1) = ls.take k ++ [x] := by rw [take_next hkl, hx]
              have HTK := Lib.hid htk
              clear hcl hx htk
              by_cases hm : (j : Int) ∈ ls.take k
              · have hm1 : decide ((j : Int) ∈ ls.take k) = true := decide_eq_true hm
                have HM := Lib.hid hm
                rw [hm1]
                clear hm hm1
                go_wp2_with fail
                go_round
                case rel => exact ⟨k + 1, by omega, by go_num, by rw [decide_eq_true]; rw [HTK.out]; exact List.mem_append_left _ HM.out⟩
                case measure => simp [intOf]; omega
              · have hm1 : decide ((j : Int) ∈ ls.take k) = false := decide_eq_false hm
                have HM := Lib.hid hm
                rw [hm1]
                clear hm hm1
                go_wp2_with fail
                go_round
                case rel =>
                  refine ⟨k + 1, by omega, by go_num, ?_⟩
                  congr 1
                  rw [Bool.eq_iff_iff, decide_eq_true_iff, HTK.out, List.mem_append, List.mem_singleton, beq_iff_eq]
                  constructor
                  · intro h
                    exact .inr h.symm
                  · rintro (h | h)
                    · exact absurd h HM.out
                    · exact h.symm
                case measure => simp [intOf]; omega
            · obtain rfl : k = ls.length := by omega
              rw [List.take_length]
              have hdl : decide ((j : Int) ∈ ls) = decide (LeafK q.kind) := decide_eq_decide.2 HMEM.out
              rw [hdl]
              obtain ⟨r, hr⟩ : ∃ r, firstF (fun p : Prt => findB q.sym q.lo p.nd) 0 ps = r := ⟨_, rfl⟩
              have hcase := firstF_cases (fun p : Prt => findB q.sym q.lo p.nd) ps 0
              rw [hr] at hcase
              have FC := Lib.hid (fun w1 (x : Ext W w1) => Find_yes q.sym q.lo (S.out.ext x) HT.out)
              rw [hr] at FC
              have HCASE := Lib.hid hcase
              obtain ⟨b1, off1, hA1, hb1, hcell1⟩ := (S.out.ext HX7.out).parts (by omega)
              injection hA1 with hA1
              injection hA1 with hA1 hB1
              subst hA1 hB1
              have HC7 := Lib.hid hcell1
              obtain ⟨t0, t1, t2, _⟩ := hcell1 j _ HQ.out
              dsimp only at t0 t1 t2
              clear hcell1 hcase hr hdl f0 f1 f2 hb'
              go_upto_region 21 with fail
              refine wp_region_ext (by kernel_rfl) (by kernel_rfl) ?_
              repeat (go_big_quiet_step ((go_at_call 29; exact calls_ext (FC.out _ (HX7.out.trans (by repeat (first | exact Ext.refl _ | refine Ext.alloc ?_ _ | refine Ext.more ?_ _ _ | refine Ext.drew ?_ | refine Ext.drewN ?_ _ | refine Ext.setCell ?_ (by simp <;> omega) _)))))))
              refine wpQuiet_nil ?_
              intro _ hw'
              obtain ⟨x9, rfl⟩ := hw'
              go_upto_region 22 with fail
              have HX9 : Hid (Ext W (more w7 x9.os x9.k)) := Lib.hid (HX7.out.trans (by repeat (first | exact Ext.refl _ | refine Ext.alloc ?_ _ | refine Ext.more ?_ _ _ | refine Ext.drew ?_ | refine Ext.drewN ?_ _ | refine Ext.setCell ?_ (by simp <;> omega) _)))
              by_cases hL : LeafK q.kind
              · rw [decide_eq_true hL]
                clear hL
                go_quiet (fail)
                go_wp2_with fail
                go_ret
                exact ⟨rfl, HX9.out.trans (by repeat (first | exact Ext.refl _ | refine Ext.alloc ?_ _ | refine Ext.more ?_ _ _ | refine Ext.drew ?_ | refine Ext.drewN ?_ _ | refine Ext.setCell ?_ (by simp <;> omega) _))⟩
              · rw [decide_eq_false hL]
                have hself : findB q.sym q.lo q = true := by unfold findB; simp [hL]
                obtain ⟨k, p, rfl, hp, hf, hmin⟩ : ∃ (k : Nat) (p : Prt), r = (k : Int) ∧ ps[k]? = some p ∧ findB q.sym q.lo p.nd = true ∧ ∀ i x, i < k → ps[i]? = some x → findB q.sym q.lo x.nd = false := by
                  rcases HCASE.out with ⟨_, h2⟩ | ⟨k, p, h1, h2, h3, h4⟩
                  · have := h2 _ (List.mem_of_getElem? HQ.out)
                    rw [show findB q.sym q.lo (Prt.nd ⟨q, kA, kcap⟩) = true from hself] at this
                    cases this
                  · exact ⟨k, p, by rw [h1]; congr 1; omega, h2, h3, h4⟩
                have hkj : k ≤ j := by
                  rcases Nat.lt_or_ge j k with h | h
                  · have := hmin j _ h HQ.out
                    rw [show findB q.sym q.lo (Prt.nd ⟨q, kA, kcap⟩) = true from hself] at this
                    cases this
                  · exact h
                have hkl := (List.getElem?_eq_some_iff.1 hp).1
                unfold findB at hf
                simp only [Bool.and_eq_true, beq_iff_eq] at hf
                obtain ⟨s0, s1, s2, _⟩ := HC7.out k _ hp
                rw [hf.1.2] at s0
                rw [hf.2] at s2
                have m0 : max (0 : Int) (k : Int) = (k : Int) := by omega
                have m1 : decide ((0 : Int) ≤ (k : Int)) = true := decide_eq_true (by omega)
                rw [m0, m1]
                have m2 : decide (k ≤ j) = true := decide_eq_true hkj
                clear hL hself hp hf hmin m0 m1 HCASE FC
                go_quiet (fail)
                go_wp2_with fail
                go_ret
                exact ⟨rfl, HX9.out.trans (by repeat (first | exact Ext.refl _ | refine Ext.alloc ?_ _ | refine Ext.more ?_ _ _ | refine Ext.drew ?_ | refine Ext.drewN ?_ _ | refine Ext.setCell ?_ (by simp <;> omega) _))⟩
    · have HT := Lib.hid T
      clear T
      go_wp2_with fail
      refine (check_no (S.out.ext HX2.out) HT.out).mono ?_
      rintro e w3 ⟨rfl, hx3⟩
      have HX3 := Lib.hid (HX2.out.trans hx3)
      clear hx3
      go_wp2_with fail
      go_ret
      exact ⟨rfl, HX3.out⟩
end Go.Proofs.Ytaffaeompdlecaa
