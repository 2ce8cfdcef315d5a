/- SpliceFits: the walk. -/
import Derived.Test.YtaffaeompdlecaaV5
import Derived.Test.YtaffaeompdlecaaR2
import Derived.Test.YtaffaeompdlecaaTk
import Derived.WalkSpells
import Derived.WalkLawsBesides
import Derived.BigRegion
import Derived.Deep.RegionWith
import Derived.Deep.QuietTactic
import Derived.Deep.DeepCutAuto
import Derived.Deep.RegionHeld3
import Derived.Deep.RegionLaw
import Derived.BigQuiet
import Derived.Lib.Hide
namespace Go.Proofs.Ytaffaeompdlecaa
open Go.RowKit
attribute [local go_sem] more_drew more_drewN more_size more_cell more_frozen more_setCell drew_more drewN_more lt_add_r lt_add_r2 lt_add_r3 lt_add_r4 lt_add_r5 lt_add_r6 lt_add_r7 lt_add_r8 lt_add_r9 lt_add_r10 lt_self_r lt_self_r2

def Light20 (ps qs : List Prt) (n : Nat) (w : World) (e : Ending) (w' : World) : Prop := ∃ b : Bool, e = .returned (.bool b) ∧ (b = true → LightP 100 ps ∧ LightP 100 qs ∧ n ≤ 40) ∧ Ext w w'
set_option maxRecDepth 100000 in
set_option maxHeartbeats 2000000 in
theorem light20_any (A B J : Option Addr) (c1 c2 cj n : Nat) (ps qs : List Prt) (w : World) (hP : Prts w A ps) (hl : ps.length ≤ 9223372036854775807) (hk : KidsLt ps) (hQ : Prts w B qs) (hlq : qs.length ≤ 9223372036854775807) (hkq : KidsLt qs) :
    Calls Try.prog 72 #[.slice A ps.length c1, .slice B qs.length c2, .slice J n cj] w (Light20 ps qs n w) := by
  have C1 := Lib.hid (lightParts_any 100 A c1 ps w (by omega) hP hl hk)
  have C2 := Lib.hid (fun w1 (x : Ext w w1) => lightParts_any 100 B c2 qs w1 (by omega) (hQ.ext x) hlq hkq)
  clear hP hk hQ hkq
  go_enter Try.func72, Try.ntmps72
  go_wp2_with fail
  refine C1.out.mono ?_
  rintro e w2 ⟨b1, rfl, h1, hx2⟩
  have HX2 := Lib.hid hx2
  have H1 := Lib.hid h1
  clear hx2 h1
  cases b1 with
  | false =>
    go_wp2_with fail
    go_ret
    exact ⟨false, rfl, nofun, HX2.out⟩
  | true =>
    go_wp2_with fail
    refine (C2.out _ HX2.out).mono ?_
    rintro e w3 ⟨b2, rfl, h2, hx3⟩
    have HX3 := Lib.hid (HX2.out.trans hx3)
    have H2 := Lib.hid h2
    clear hx3 h2
    cases b2 with
    | false =>
      go_wp2_with fail
      go_ret
      exact ⟨false, rfl, nofun, HX3.out⟩
    | true =>
      by_cases hn : n ≤ 40
      · go_wp2_with fail
        go_ret
        exact ⟨true, ret_bool (by simp; omega), fun _ => ⟨H1.out (by simp), H2.out (by simp), hn⟩, HX3.out⟩
      · go_wp2_with fail
        go_ret
        exact ⟨false, ret_bool (by simp; omega), nofun, HX3.out⟩
theorem JobsAt.nil {w : World} {J : Option Addr} : JobsAt w J [] := fun h => absurd h (by decide)
set_option maxRecDepth 100000 in
set_option maxHeartbeats 4000000 in
theorem spliceFits_any (A B : Option Addr) (c d : Nat) (ps ss : List Prt) (i0 : Int) (W : World) (hP : Prts W A ps) (hO : PrtsOk W ps) (hl : ps.length ≤ c) (hc : c ≤ 9223372036854775807) (hA : A = none → c = 0) (hk : KidsLt ps)
    (hQ : Prts W B ss) (hOq : PrtsOk W ss) (hlq : ss.length ≤ d) (hd : d ≤ 9223372036854775807) (hB : B = none → d = 0) (hkq : KidsLt ss) (hi0 : I64 i0) :
    Calls Try.prog 15 #[.slice A ps.length c, .slice B ss.length d, .int .i64 i0] W fun e w' => e = .returned (.bool true) ∧ Ext W w' := by
  have HP := Lib.hid hP
  have HO := Lib.hid hO
  have HK := Lib.hid hk
  have HA := Lib.hid hA
  have HQ := Lib.hid hQ
  have HOQ := Lib.hid hOq
  have HKQ := Lib.hid hkq
  have HB := Lib.hid hB
  unfold I64 at hi0
  clear hP hO hk hA hQ hOq hkq hB
  go_enter Try.func15, Try.ntmps15
  go_wp2_with fail
  refine (lives20_any W).mono ?_
  rintro e w1 ⟨rfl, hx1⟩
  have HX1 := Lib.hid hx1
  clear hx1
  go_wp2_with fail
  refine (light20_any A B none c d 0 0 ps ss w1 (HP.out.ext HX1.out) (by omega) HK.out (HQ.out.ext HX1.out) (by omega) HKQ.out).mono ?_
  rintro e w2 ⟨b, rfl, hb, hx2⟩
  have HX2 := Lib.hid (HX1.out.trans hx2)
  clear hx2 HX1
  cases b with
  | false =>
    go_wp2_with fail
    go_ret
    exact ⟨rfl, HX2.out⟩
  | true =>
    obtain ⟨hL, hL2, _⟩ := hb rfl
    have S : Hid (PS W A c ps) := ⟨HP.out, HO.out, hL.few (by omega), hl, hc, HA.out⟩
    have SS : Hid (PS W B d ss) := ⟨HQ.out, HOQ.out, hL2.few (by omega), hlq, hd, HB.out⟩
    have hlen := hL.len
    have hlen2 := hL2.len
    clear hb hL hL2 HP HO HK HA HQ HOQ HKQ HB
    by_cases T : Tree (nds ps)
    · have hpos := T.pos
      rw [nds_length] at hpos
      have HT := Lib.hid T
      clear T
      go_wp2_with fail
      refine (rcheck_ok (S.out.ext HX2.out) HT.out).mono ?_
      rintro e w3 ⟨rfl, hx3⟩
      have HX3 := Lib.hid (HX2.out.trans hx3)
      clear hx3 HX2
      by_cases T2 : Tree (nds ss)
      · have hpos2 := T2.pos
        rw [nds_length] at hpos2
        have HT2 := Lib.hid T2
        clear T2
        go_wp2_with fail
        refine (rcheck_ok (SS.out.ext HX3.out) HT2.out).mono ?_
        rintro e w4 ⟨rfl, hx4⟩
        have HX4 := Lib.hid (HX3.out.trans hx4)
        clear hx4 HX3
        go_wp2_with fail
        refine (pick_any i0 (ps.length : Int) w4 (by omega) hi0).mono ?_
        rintro e w4' ⟨rfl, rfl⟩
        have hpb := pickF_bd i0 (ps.length : Int) (by omega)
        obtain ⟨j, hj⟩ : ∃ j : Nat, pickF i0 (ps.length : Int) = (j : Int) := ⟨(pickF i0 (ps.length : Int)).toNat, by omega⟩
        rw [hj] at hpb
        have hjl : j < ps.length := by omega
        rw [hj]
        clear hj hpb
        obtain ⟨p, hp⟩ : ∃ p, ps[j]? = some p := ⟨_, List.getElem?_eq_getElem hjl⟩
        obtain ⟨q, hq⟩ : ∃ q, ss[0]? = some q := ⟨_, List.getElem?_eq_getElem hpos2⟩
        have HIFF := Lib.hid (headF_iff (nds_get hp) (nds_get hq))
        obtain ⟨b1, off, rfl, hb1, hcell⟩ := (S.out.ext HX4.out).parts (by omega)
        obtain ⟨d0, d1, d2, d3, d4, d5, d6, d7⟩ := hcell j _ hp
        obtain ⟨b2, off2, rfl, hb2, hcell2⟩ := (SS.out.ext HX4.out).parts hpos2
        obtain ⟨e0, e1, e2, e3, e4, e5, e6, e7⟩ := hcell2 0 _ hq
        simp only [Nat.zero_mul, Nat.add_zero] at e0 e1 e2 e3 e4 e5 e6 e7
        have hjl2 := hjl
        clear hcell hcell2 hp hq
        go_upto_region 6 with fail
        go_cut [7, 8] (fun x y wx => ∃ g h, x = pt g ∧ y = pt h ∧ Hid (wx.heap[g]? = some (.cells (prtCells p).toArray 35)) ∧ Hid (wx.heap[h]? = some (.cells (prtCells q).toArray 35)) ∧ Hid (Ext W wx))
        case first =>
          refine wp_region_segsB 10 (.two (.step 7 (.step 8 (.step 9 (.step 10 .fin)))) (.step 8 (.step 7 (.step 9 (.step 10 .fin))))) [0, 1, 2, 3, 4, 5, 6] (by kernel_rfl) (by kernel_rfl) ?_
          intro K hK
          simp only [pick, nthC]
          repeat (go_big_quiet_step (fail))
          refine wpQuiet_nil (hK _ ?_)
          clear hK K
          simp only [wpBr, pick, nthC]
          refine ⟨?_, ?_⟩
          · go_wp2_with fail
            refine segQ_mk (fun _ => laid (by repeat (first | exact Ext.refl _ | refine Ext.alloc ?_ _ | refine Ext.more ?_ _ _ | refine Ext.drew ?_ | refine Ext.drewN ?_ _ | refine Ext.setCell ?_ (by simp <;> omega) _))) ?_
            go_wp2_with fail
            refine segQ_mk (fun _ => laid (by repeat (first | exact Ext.refl _ | refine Ext.alloc ?_ _ | refine Ext.more ?_ _ _ | refine Ext.drew ?_ | refine Ext.drewN ?_ _ | refine Ext.setCell ?_ (by simp <;> omega) _))) ?_
            go_wp2_with fail
            refine segQ_mk (fun _ => laid (by repeat (first | exact Ext.refl _ | refine Ext.alloc ?_ _ | refine Ext.more ?_ _ _ | refine Ext.drew ?_ | refine Ext.drewN ?_ _ | refine Ext.setCell ?_ (by simp <;> omega) _))) ?_
            go_wp2_with fail
            refine segQ_mk (fun h => absurd rfl h) ?_
            go_wp2_with fail
            go_meet
            exact ⟨_, _, rfl, rfl, Lib.hid (by show ((w4.alloc _).alloc _).heap[_]? = _; exact (by simp only [heap_alloc_get, World.size_alloc]; (repeat (split; (first | rfl | (exfalso; omega)))); (try (first | (exfalso; omega) | simp_all)))), Lib.hid (by show ((w4.alloc _).alloc _).heap[_]? = _; exact (by simp only [heap_alloc_get, World.size_alloc]; (repeat (split; (first | rfl | (exfalso; omega)))); (try (first | (exfalso; omega) | simp_all)))), Lib.hid (HX4.out.trans (by repeat (first | exact Ext.refl _ | refine Ext.alloc ?_ _ | refine Ext.more ?_ _ _ | refine Ext.drew ?_ | refine Ext.drewN ?_ _ | refine Ext.setCell ?_ (by simp <;> omega) _)))⟩
          · go_wp2_with fail
            refine segQ_mk (fun _ => laid (by repeat (first | exact Ext.refl _ | refine Ext.alloc ?_ _ | refine Ext.more ?_ _ _ | refine Ext.drew ?_ | refine Ext.drewN ?_ _ | refine Ext.setCell ?_ (by simp <;> omega) _))) ?_
            go_wp2_with fail
            refine segQ_mk (fun _ => laid (by repeat (first | exact Ext.refl _ | refine Ext.alloc ?_ _ | refine Ext.more ?_ _ _ | refine Ext.drew ?_ | refine Ext.drewN ?_ _ | refine Ext.setCell ?_ (by simp <;> omega) _))) ?_
            go_wp2_with fail
            refine segQ_mk (fun _ => laid (by repeat (first | exact Ext.refl _ | refine Ext.alloc ?_ _ | refine Ext.more ?_ _ _ | refine Ext.drew ?_ | refine Ext.drewN ?_ _ | refine Ext.setCell ?_ (by simp <;> omega) _))) ?_
            go_wp2_with fail
            refine segQ_mk (fun h => absurd rfl h) ?_
            go_wp2_with fail
            go_meet
            exact ⟨_, _, rfl, rfl, Lib.hid (by show ((w4.alloc _).alloc _).heap[_]? = _; exact (by simp only [heap_alloc_get, World.size_alloc]; (repeat (split; (first | rfl | (exfalso; omega)))); (try (first | (exfalso; omega) | simp_all)))), Lib.hid (by show ((w4.alloc _).alloc _).heap[_]? = _; exact (by simp only [heap_alloc_get, World.size_alloc]; (repeat (split; (first | rfl | (exfalso; omega)))); (try (first | (exfalso; omega) | simp_all)))), Lib.hid (HX4.out.trans (by repeat (first | exact Ext.refl _ | refine Ext.alloc ?_ _ | refine Ext.more ?_ _ _ | refine Ext.drew ?_ | refine Ext.drewN ?_ _ | refine Ext.setCell ?_ (by simp <;> omega) _)))⟩
        case rest =>
          obtain ⟨g, h, rfl, rfl, G, H, X⟩ := hcut
          obtain ⟨lg, x0, x1, x2, x3, x4, x5, x6, x7⟩ := part_cells G.out
          obtain ⟨lh, y0, y1, y2, y3, y4, y5, y6, y7⟩ := part_cells H.out
          clear d0 d1 d2 d3 d4 d5 d6 d7 e0 e1 e2 e3 e4 e5 e6 e7 hb1 hb2 HX4
          go_upto_region 7 with fail
          go_cut [9] (fun x wx => x = .bool (headF p.nd q.nd) ∧ wc = wx)
          case first =>
            obtain ⟨a1, ha1⟩ : ∃ a, (p.nd.sym == q.nd.sym) = a := ⟨_, rfl⟩
            obtain ⟨a2, ha2⟩ : ∃ a, (p.nd.kind == q.nd.kind) = a := ⟨_, rfl⟩
            obtain ⟨a3, ha3⟩ : ∃ a, (p.nd.lo == q.nd.lo) = a := ⟨_, rfl⟩
            obtain ⟨a4, ha4⟩ : ∃ a, (p.nd.hi == q.nd.hi) = a := ⟨_, rfl⟩
            cases a1 with
            | false =>
              go_wp2_with fail
              go_meet
              exact ⟨by simp [headF, *], rfl⟩
            | true =>
              cases a2 with
              | false =>
                go_wp2_with fail
                go_meet
                exact ⟨by simp [headF, *], rfl⟩
              | true =>
                cases a3 with
                | false =>
                  go_wp2_with fail
                  go_meet
                  exact ⟨by simp [headF, *], rfl⟩
                | true =>
                  cases a4 with
                  | false =>
                    go_wp2_with fail
                    go_meet
                    exact ⟨by simp [headF, *], rfl⟩
                  | true =>
                    go_wp2_with fail
                    go_meet
                    exact ⟨by simp [headF, *], rfl⟩
          case rest =>
            obtain ⟨rfl, rfl⟩ := hcut
            clear x0 x1 x2 x3 x4 x5 x6 x7 y0 y1 y2 y3 y4 y5 y6 y7 lg lh G H
            obtain ⟨bh, hbh⟩ : ∃ b, headF p.nd q.nd = b := ⟨_, rfl⟩
            rw [hbh]
            rw [hbh] at HIFF
            clear hbh
            cases bh with
            | false =>
              have NO : Hid (¬ FitsT (nds ps) (nds ss) (j : Int)) := Lib.hid (fun h => by cases HIFF.out.2 h.2.2)
              go_wp2_with fail
              refine (splice_no (j : Int) (.slice none 0 0) (S.out.ext X.out) (SS.out.ext X.out) NO.out).mono ?_
              rintro e w5 ⟨rfl, hx5⟩
              have X5 := Lib.hid (X.out.trans hx5)
              clear hx5
              go_wp2_with fail
              refine (fits_any (j : Int) (S.out.ext X5.out) (SS.out.ext X5.out)).mono ?_
              rintro e w6 ⟨b, rfl, hb, hx6⟩
              obtain rfl : b = false := by
                cases b with
                | false => rfl
                | true => exact absurd (hb.1 rfl) NO.out
              have X6 := Lib.hid (X5.out.trans hx6)
              clear hb hx6
              go_wp2_with fail
              go_ret
              exact ⟨rfl, X6.out⟩
            | true =>
              have YES : Hid (FitsT (nds ps) (nds ss) (j : Int)) := Lib.hid ⟨HT.out, HT2.out, HIFF.out.1 rfl⟩
              go_wp2_with fail
              refine (splice_yes (j : Int) none 0 [] (S.out.ext X.out) (SS.out.ext X.out) YES.out JobsAt.nil (by decide) (by decide)).mono ?_
              rintro e w5 ⟨k, m, us, u, fs, A5, c5, qs, D5, d5, hik, hpt, hus, hu, hf, rfl, hn, ho, hi, hx5⟩
              obtain rfl : j = k := by omega
              obtain rfl : fs = [] := List.eq_nil_of_length_eq_zero hf.1
              have X5 := Lib.hid (X.out.trans hx5)
              have hdl : (doneL [] []).length = 0 := rfl
              have hme := hpt.le
              have hmk := hpt.lt_end
              rw [nds_length] at hme
              have hql : qs.length = j + ss.length + (ps.length - m) := by
                rw [← nds_length, hn]
                unfold orAt
                split <;> (try rw [List.length_modify]) <;> rw [len_put (by rw [nds_length]; omega) (by rw [nds_length]; exact hme), nds_length, nds_length]
              have HPT := Lib.hid hpt
              have HQL := Lib.hid (show ((qs.length : Int) == (ps.length : Int) - ((m : Int) - (j : Int)) + (ss.length : Int)) = true by rw [hql, beq_iff_eq]; omega)
              obtain ⟨nq, hnq⟩ : ∃ nq, qs.length = nq := ⟨_, rfl⟩
              rw [hnq] at HQL ⊢
              rw [hdl]
              clear hik hpt hus hu hf hn ho hi hx5 hdl hql hnq
              go_wp2_with fail
              refine (fits_any (j : Int) (S.out.ext X5.out) (SS.out.ext X5.out)).mono ?_
              rintro e w6 ⟨b, rfl, hb, hx6⟩
              obtain rfl := hb.2 YES.out
              have X6 := Lib.hid (X5.out.trans hx6)
              clear hb hx6
              go_wp2_with fail
              refine (rEnd_yes j m (S.out.ext X6.out) HT.out HPT.out).mono ?_
              rintro e w7 ⟨rfl, hx7⟩
              have X7 := Lib.hid (X6.out.trans hx7)
              have hq2 := HQL.out
              clear hx7
              go_wp2_with fail
              go_ret
              exact ⟨rfl, X7.out⟩
      · go_wp2_with fail
        refine (rcheck_no (SS.out.ext HX3.out) T2).mono ?_
        rintro e w4 ⟨rfl, hx4⟩
        have HX4 := Lib.hid (HX3.out.trans hx4)
        clear hx4 T2
        go_wp2_with fail
        go_ret
        exact ⟨rfl, HX4.out⟩
    · go_wp2_with fail
      refine (rcheck_no (S.out.ext HX2.out) T).mono ?_
      rintro e w3 ⟨rfl, hx3⟩
      have HX3 := Lib.hid (HX2.out.trans hx3)
      clear hx3 T
      go_wp2_with fail
      go_ret
      exact ⟨rfl, HX3.out⟩
end Go.Proofs.Ytaffaeompdlecaa
