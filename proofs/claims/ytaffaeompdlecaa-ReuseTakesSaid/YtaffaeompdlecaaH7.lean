/- ReuseTakes: the walk. -/
import Derived.Test.YtaffaeompdlecaaH6
import Derived.Test.YtaffaeompdlecaaR3
import Derived.Test.YtaffaeompdlecaaTk
import Derived.WalkSpells
import Derived.WalkLawsBesides
import Derived.BigRegion
import Derived.Deep.RegionWith
import Derived.Deep.QuietTactic
import Derived.Deep.DeepCutAuto
import Derived.Deep.RegionHeld3
import Derived.Deep.RegionLaw
import Derived.BigQuiet
import Derived.Lib.Hide
namespace Go.Proofs.Ytaffaeompdlecaa
open Go.RowKit
attribute [local go_sem] more_drew more_drewN more_size more_cell more_frozen more_setCell drew_more drewN_more lt_add_r lt_add_r2 lt_add_r3 lt_add_r4 lt_add_r5 lt_add_r6 lt_add_r7 lt_add_r8 lt_add_r9 lt_add_r10 lt_self_r lt_self_r2

set_option maxRecDepth 100000 in
set_option maxHeartbeats 2000000 in
theorem takes_any (A : Option Addr) (c : Nat) (ps : List Prt) (i0 : Int) (W : World) (hP : Prts W A ps) (hO : PrtsOk W ps) (hl : ps.length ≤ c) (hc : c ≤ 9223372036854775807) (hA : A = none → c = 0) (hk : KidsLt ps) (hi0 : I64 i0) :
    Calls Try.prog 12 #[.slice A ps.length c, .int .i64 i0] W fun e w' => e = .returned (.bool true) ∧ Ext W w' := by
  have HP := Lib.hid hP
  have HO := Lib.hid hO
  have HK := Lib.hid hk
  have HA := Lib.hid hA
  unfold I64 at hi0
  clear hP hO hk hA
  go_enter Try.func12, Try.ntmps12
  go_wp2_with fail
  refine (lives21_any W).mono ?_
  rintro e w1 ⟨rfl, hx1⟩
  have HX1 := Lib.hid hx1
  clear hx1
  go_wp2_with fail
  refine (lightParts_any 120 A c ps w1 (by decide) (HP.out.ext HX1.out) (by omega) HK.out).mono ?_
  rintro e w2 ⟨b1, rfl, hb, hx2⟩
  have HX2 := Lib.hid (HX1.out.trans hx2)
  clear hx2 HX1
  cases b1 with
  | false =>
    go_wp2_with fail
    go_ret
    exact ⟨rfl, HX2.out⟩
  | true =>
    have hL := hb rfl
    have S : Hid (PS W A c ps) := ⟨HP.out, HO.out, hL.few (by omega), hl, hc, HA.out⟩
    have hlen := hL.len
    clear hb hL HP HO HK HA
    by_cases T : Tree (nds ps)
    · have hpos := T.pos
      rw [nds_length] at hpos
      have HT := Lib.hid T
      clear T
      go_wp2_with fail
      refine (rcheck_ok (S.out.ext HX2.out) HT.out).mono ?_
      rintro e w3 ⟨rfl, hx3⟩
      have HX3 := Lib.hid (HX2.out.trans hx3)
      clear hx3 HX2
      go_wp2_with fail
      refine (pick_any i0 (ps.length : Int) w3 (by omega) hi0).mono ?_
      rintro e w3' ⟨rfl, rfl⟩
      have hpb := pickF_bd i0 (ps.length : Int) (by omega)
      obtain ⟨j, hj⟩ : ∃ j : Nat, pickF i0 (ps.length : Int) = (j : Int) := ⟨(pickF i0 (ps.length : Int)).toNat, by omega⟩
      rw [hj] at hpb
      have hjl : j < ps.length := by omega
      rw [hj]
      clear hj hpb
      obtain ⟨p, hp⟩ : ∃ p, ps[j]? = some p := ⟨_, List.getElem?_eq_getElem hjl⟩
      obtain ⟨b, off, rfl, hbl, hcell⟩ := (S.out.ext HX3.out).parts (by omega)
      obtain ⟨d0, _, d2, _, _, _, _, _⟩ := hcell j p hp
      have CELLS := Lib.hid (fun (V : World) (x : Ext w3 V) => (⟨(x.below.cell (p := ⟨b, off + j * 8, none⟩) hbl).trans d0, (x.below.cell (p := ⟨b, off + j * 8 + 2, none⟩) hbl).trans d2, Nat.lt_of_lt_of_le hbl x.size⟩ :
        V.cell? ⟨b, off + j * 8, none⟩ = some (.int .i64 p.nd.sym) ∧ V.cell? ⟨b, off + j * 8 + 2, none⟩ = some (.int .i64 p.nd.lo) ∧ b < V.heap.size))
      clear hcell hp
      go_wp2_with fail
      refine wp_region_segs (17) [([0, 1, 2, 3, 4, 5, 6, 7, 8, 9, 10], 11)] [12, 13, 14, 15, 16] (by kernel_rfl) (by kernel_rfl) ?_
      (refine segs_cons fun K hK => ?_); (simp only [pick, nthC]); (repeat (go_big_quiet_step (fail))); (refine wpQuiet_nil (hK _ fun next hn => ?_)); (clear hK K); (simp only [pick, nthC])
      go_wp2_with fail
      refine (take_any p.nd.sym p.nd.lo (S.out.ext (HX3.out.trans (by repeat (first | exact Ext.refl _ | refine Ext.alloc ?_ _ | refine Ext.more ?_ _ _ | refine Ext.drew ?_ | refine Ext.drewN ?_ _ | refine Ext.setCell ?_ (by simp <;> omega) _))))).mono ?_
      rintro e w4 hret
      rcases hret with ⟨k, m, A2, c2, qs, hTK, rfl, hn, ho, hx4⟩ | ⟨hno, rfl, hx4⟩
      · have X4 : Hid (Ext w3 w4) := Lib.hid (Ext.trans (by repeat (first | exact Ext.refl _ | refine Ext.alloc ?_ _ | refine Ext.more ?_ _ _ | refine Ext.drew ?_ | refine Ext.drewN ?_ _ | refine Ext.setCell ?_ (by simp <;> omega) _)) hx4)
        have TK := Lib.hid hTK
        have HN := Lib.hid hn
        have HOW := Lib.hid ho
        clear hTK hn ho hx4 d0 d2 hbl
        go_wp2_with fail
        refine segQ_mk (fun _ => laid X4.out) (hn _ _ ?_)
        clear hn next
        (refine segs_nil fun K hK => ?_); (simp only [pick, nthC]); (repeat (go_big_quiet_step (fail))); (refine wpQuiet_nil (hK _ ?_)); (clear hK K)
        -- the tree that was taken
        obtain ⟨_, ⟨q, hq1, hq2, hq3⟩, _, hpart, st, hst, hsk⟩ := TK.out
        have TS := HT.out.sub hpart
        have hlt := hpart.lt_end
        have hle := hpart.le
        rw [nds_length] at hle
        have hql : qs.length = m - k := by rw [← nds_length, HN.out, len_sub hpart.le]
        have SQ : Hid (PS w4 A2 c2 qs) := Lib.hid (HOW.out.ps (Few.of_tree' HN.out TS (by rw [len_sub hpart.le]; omega)))
        have TQ : Hid (Tree (nds qs)) := Lib.hid (by rw [HN.out]; exact TS)
        have hget : ∀ (j : Nat) (q' : Prt), qs[j]? = some q' → q'.nd.met = 0 := fun j q' hq' => by
          have h1 := nds_get hq'
          have hjm : j < m - k := by have := (List.getElem?_eq_some_iff.1 hq').1; omega
          rw [HN.out, get_sub hjm] at h1
          cases hh : (nds ps)[k + j]? with
          | none => rw [hh] at h1; cases h1
          | some r =>
            rw [hh] at h1
            injection h1 with h1
            rw [← h1]
            show r.met = 0
            exact hst.met hh (hst.inner hpart hsk (k + j) (by omega) (by omega))
        obtain ⟨q0, hq0⟩ : ∃ q0, qs[0]? = some q0 := ⟨_, List.getElem?_eq_getElem (by omega)⟩
        have hq0n : q0.nd.sym = p.nd.sym ∧ q0.nd.lo = p.nd.lo ∧ q0.nd.kind = 2 := by
          have h1 := nds_get hq0
          rw [HN.out, get_sub (by omega), Nat.add_zero, hq1] at h1
          injection h1 with h1
          unfold findB at hq2
          simp only [Bool.and_eq_true, beq_iff_eq] at hq2
          rw [← h1]
          exact ⟨hq2.1.2, hq2.2, hq3⟩
        have HGM := Lib.hid hget
        have HQL := Lib.hid (show 0 < qs.length by omega)
        have hq1000 : qs.length ≤ 1000 := by omega
        obtain ⟨b2, off2, rfl, hbl2, hcell2⟩ := SQ.out.parts HQL.out
        obtain ⟨g0, g1, g2, _, _, _, _, _⟩ := hcell2 0 q0 hq0
        simp only [Nat.zero_mul, Nat.add_zero] at g0 g1 g2
        rw [hq0n.1] at g0
        rw [hq0n.2.1] at g2
        rw [hq0n.2.2] at g1
        have hcap2 := SQ.out.cap
        have hpos2 := HQL.out
        obtain ⟨k0, k2, kb⟩ := CELLS.out w4 X4.out
        have hcap := S.out.cap
        clear hcell2 hq0 hq0n hget hst hsk hpart hq1 hq2 hq3 TS hlt hle hql
        go_wp2_with fail
        refine wp_region_segs (34) [([0], 1)] [2, 3, 4, 5, 6, 7, 8, 9, 10, 11, 12, 13, 14, 15, 16, 17, 18, 19, 20, 21, 22, 23, 24, 25, 26, 27, 28, 29, 30, 31, 32, 33] (by kernel_rfl) (by kernel_rfl) ?_
        (refine segs_cons fun K hK => ?_); (simp only [pick, nthC]); (repeat (go_big_quiet_step (fail))); (refine wpQuiet_nil (hK _ fun next hn => ?_)); (clear hK K); (simp only [pick, nthC])
        go_wp2_with fail
        refine (rcheck_ok (SQ.out.ext (by repeat (first | exact Ext.refl _ | refine Ext.alloc ?_ _ | refine Ext.more ?_ _ _ | refine Ext.drew ?_ | refine Ext.drewN ?_ _ | refine Ext.setCell ?_ (by simp <;> omega) _))) TQ.out).mono ?_
        rintro e w5 ⟨rfl, hx5⟩
        have X5 : Hid (Ext w4 w5) := Lib.hid (Ext.trans (by repeat (first | exact Ext.refl _ | refine Ext.alloc ?_ _ | refine Ext.more ?_ _ _ | refine Ext.drew ?_ | refine Ext.drewN ?_ _ | refine Ext.setCell ?_ (by simp <;> omega) _)) hx5)
        clear hx5
        go_wp2_with fail
        refine segQ_mk (fun _ => laid X5.out) (hn _ _ ?_)
        clear hn next
        (refine segs_nil fun K hK => ?_); (simp only [pick, nthC]); (repeat (go_big_quiet_step (fail))); (refine wpQuiet_nil (hK _ ?_)); (clear hK K)
        have X5W := Lib.hid ((HX3.out.trans X4.out).trans X5.out)
        have SQ5 := Lib.hid (SQ.out.ext X5.out)
        clear k0 k2 kb g0 g1 g2 hbl2 X5 X4 HX3 SQ
        go_wp2_with fail
        go_loopw [7, 8] (fun av kv wr => ∃ n : Nat, n ≤ qs.length ∧ kv = .int .i64 n ∧ av = .int .i64 ((qs.take n).foldl (fun n p => max n p.nd.look) 0) ∧ Hid (Ext w5 wr)) (fun _ kv _ => qs.length - (intOf kv).toNat)
        case atStart => exact ⟨0, Nat.zero_le _, rfl, rfl, Lib.hid (Ext.refl _)⟩
        case round =>
          obtain ⟨n, hn, rfl, rfl, hx⟩ := hrel
          by_cases hlt : n < qs.length
          · obtain ⟨r, hr⟩ : ∃ r, qs[n]? = some r := ⟨_, List.getElem?_eq_getElem hlt⟩
            obtain ⟨b3, off3, hA3, hbl3, hcell3⟩ := (SQ5.out.ext hx.out).parts hpos2
            injection hA3 with hA3
            injection hA3 with ea eb
            subst ea eb
            obtain ⟨_, _, _, _, _, g5, _, g7⟩ := hcell3 n r hr
            rw [HGM.out n r hr] at g7
            have HFT := Lib.hid (fold_take (f := fun (n : Int) (p : Prt) => max n p.nd.look) (x0 := 0) hr)
            obtain ⟨acc, hacc⟩ : ∃ acc, (qs.take n).foldl (fun (n : Int) (p : Prt) => max n p.nd.look) 0 = acc := ⟨_, rfl⟩
            rw [hacc] at HFT ⊢
            clear hcell3 hr hacc
            go_wp2_with fail
            go_roundw
            case rel =>
              refine ⟨n + 1, by omega, by go_num, ?_, Lib.hid (hx.out.trans (by repeat (first | exact Ext.refl _ | refine Ext.alloc ?_ _ | refine Ext.more ?_ _ _ | refine Ext.drew ?_ | refine Ext.drewN ?_ _ | refine Ext.setCell ?_ (by simp <;> omega) _)))⟩
              rw [HFT.out]
              congr 1
              (try split) <;> omega
            case measure => simp [intOf]; omega
          · obtain rfl : n = qs.length := by omega
            rw [List.take_length]
            have CL := Lib.hid (look_yes _ c2 qs wr (SQ5.out.ext hx.out) TQ.out)
            obtain ⟨acc, hacc⟩ : ∃ acc, qs.foldl (fun (n : Int) (p : Prt) => max n p.nd.look) 0 = acc := ⟨_, rfl⟩
            rw [hacc] at CL ⊢
            clear hacc
            go_wp2_with fail
            refine CL.out.mono ?_
            rintro e w9 ⟨rfl, hx9⟩
            have HX9 := Lib.hid ((X5W.out.trans hx.out).trans hx9)
            clear hx9
            go_wp2_with fail
            go_ret
            exact ⟨ret_bool (by simp), HX9.out⟩
      · have X4 : Hid (Ext w3 w4) := Lib.hid (Ext.trans (by repeat (first | exact Ext.refl _ | refine Ext.alloc ?_ _ | refine Ext.more ?_ _ _ | refine Ext.drew ?_ | refine Ext.drewN ?_ _ | refine Ext.setCell ?_ (by simp <;> omega) _)) hx4)
        clear hno hx4
        go_wp2_with fail
        refine segQ_mk (fun _ => laid X4.out) (hn _ _ ?_)
        clear hn next
        (refine segs_nil fun K hK => ?_); (simp only [pick, nthC]); (repeat (go_big_quiet_step (fail))); (refine wpQuiet_nil (hK _ ?_)); (clear hK K)
        go_wp2_with fail
        go_ret
        exact ⟨rfl, HX3.out.trans X4.out⟩
    · go_wp2_with fail
      refine (rcheck_no (S.out.ext HX2.out) T).mono ?_
      rintro e w3 ⟨rfl, hx3⟩
      have HX3 := Lib.hid (HX2.out.trans hx3)
      clear hx3 T
      go_wp2_with fail
      go_ret
      exact ⟨rfl, HX3.out⟩
end Go.Proofs.Ytaffaeompdlecaa
