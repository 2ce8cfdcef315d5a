/- TreeCalls: the walk. -/
import Derived.Test.YtggmljookcmnkaaNa
import Derived.WalkSpells
import Derived.WalkLawsBesides
import Derived.BigRegion
import Derived.Deep.RegionWith
import Derived.Deep.QuietTactic
import Derived.Deep.DeepCutAuto
import Derived.Deep.RegionHeld3
import Derived.Deep.RegionLaw
import Derived.BigQuiet
import Derived.Lib.Hide
namespace Go.Proofs.Ytggmljookcmnkaa
open Go.RowKit
attribute [local go_sem] more_drew more_drewN more_size more_cell more_frozen more_setCell drew_more drewN_more lt_add_r lt_add_r2 lt_add_r3 lt_add_r4 lt_add_r5 lt_add_r6 lt_add_r7 lt_add_r8 lt_add_r9 lt_add_r10 lt_self_r lt_self_r2

theorem pair_eq {α β : Type} {a a' : α} {b b' : β} (h : (a, b) = (a', b')) : a = a' ∧ b = b' := by
  injection h with h1 h2
  exact ⟨h1, h2⟩
theorem near_n {most : Nat} {ps : List Prt} (h : LightP most ps) (T : Tree (nds ps)) : ∀ p ∈ nds ps, NearN p := fun p hp => by
  unfold nds at hp
  obtain ⟨q, hq, rfl⟩ := List.mem_map.1 hp
  have hn := near_of h T q hq
  have n1 := hn.lo
  have n2 := hn.inn
  have n3 := hn.hi
  have n4 := hn.look
  unfold Lt30' at n1 n2 n3 n4
  unfold NearN
  omega
set_option maxRecDepth 100000 in
set_option maxHeartbeats 16000000 in
theorem treeCalls_any (A B : Option Addr) (c d : Nat) (ps ss : List Prt) (i sym at_ a dl ii bit : Int) (W : World) (hP : Prts W A ps) (hO : PrtsOk W ps) (hl : ps.length ≤ c) (hc : c ≤ 9223372036854775807) (hA : A = none → c = 0) (hk : KidsLt ps)
    (hQ : Prts W B ss) (hOq : PrtsOk W ss) (hlq : ss.length ≤ d) (hd : d ≤ 9223372036854775807) (hB : B = none → d = 0) (hkq : KidsLt ss) (hat : I64 at_) (hbit : 0 ≤ bit ∧ bit ≤ 18446744073709551615) :
    Calls Try.prog 7 #[.slice A ps.length c, .slice B ss.length d, .int .i64 i, .int .i64 sym, .int .i64 at_, .agg #[.int .i64 a, .int .i64 dl, .int .i64 ii], .int .u64 bit] W fun e w' => e = .returned (.bool true) ∧ Ext W w' := by
  have HP := Lib.hid hP
  have HO := Lib.hid hO
  have HK := Lib.hid hk
  have HA := Lib.hid hA
  have HQ := Lib.hid hQ
  have HOQ := Lib.hid hOq
  have HKQ := Lib.hid hkq
  have HB := Lib.hid hB
  have HAT := Lib.hid hat
  have HBIT := Lib.hid hbit
  clear hP hO hk hA hQ hOq hkq hB hat hbit
  obtain ⟨be, hbe⟩ : ∃ be, W.heap.size = be := ⟨_, rfl⟩
  obtain ⟨W1, hW1⟩ : ∃ W1, W.alloc (.cells #[.int .i64 a, .int .i64 dl, .int .i64 ii] 63) = W1 := ⟨_, rfl⟩
  have X1 : Hid (Ext W W1) := Lib.hid (by rw [← hW1]; exact (by repeat (first | exact Ext.refl _ | refine Ext.alloc ?_ _ | refine Ext.more ?_ _ _ | refine Ext.drew ?_ | refine Ext.drewN ?_ _ | refine Ext.setCell ?_ (by simp <;> omega) _)))
  have BE : Hid (W1.heap[be]? = some (.cells #[.int .i64 a, .int .i64 dl, .int .i64 ii] 63)) := Lib.hid (by rw [← hW1, ← hbe]; exact heap_alloc_new _ _)
  go_enter Try.func7, Try.ntmps7
  go_upto_region 1 with fail
  clear hW1 hbe
  go_wp2_with fail
  refine (lives16_any W1).mono ?_
  rintro e w1 ⟨rfl, hx1⟩
  have HX1 := Lib.hid (X1.out.trans hx1)
  have BE1 := Lib.hid (ext_block BE.out hx1)
  obtain ⟨e0, e1, e2, el⟩ := ed_cells BE1.out
  clear hx1 X1 BE
  go_wp2_with fail
  refine (light16_any A B c d ps ss a dl ii w1 (HP.out.ext HX1.out) (by omega) HK.out (HQ.out.ext HX1.out) (by omega) HKQ.out).mono ?_
  rintro e w2 ⟨b, rfl, hb, hx2⟩
  have HX2 := Lib.hid (HX1.out.trans hx2)
  have BE2 := Lib.hid (ext_block BE1.out hx2)
  clear hx2 HX1 BE1 e0 e1 e2 el
  cases b with
  | false =>
    go_wp2_with fail
    go_ret
    exact ⟨rfl, HX2.out⟩
  | true =>
    obtain ⟨hL, hL2, hE⟩ := hb rfl
    have S : Hid (PS W A c ps) := ⟨HP.out, HO.out, hL.few (by omega), hl, hc, HA.out⟩
    have SS : Hid (PS W B d ss) := ⟨HQ.out, HOQ.out, hL2.few (by omega), hlq, hd, HB.out⟩
    have hlen := hL.len
    have hlen2 := hL2.len
    obtain ⟨Rp, hp1, hp2, hp3⟩ := put_twin S.out SS.out i (by omega) (by omega)
    obtain ⟨fn, fb, hf1, hf2⟩ := find_twin S.out sym at_
    obtain ⟨cn, hc1, hc2⟩ := check_twin S.out
    obtain ⟨en, he1, he2⟩ := end_twin S.out i
    obtain ⟨R0, g0, j0, k0⟩ := sub_twin S.out i
    obtain ⟨R1, g1, j1, k1⟩ := parents_twin S.out
    obtain ⟨R2, g2, j2, k2⟩ := path_twin S.out i
    obtain ⟨R3, g3, j3, k3⟩ := leaves_twin S.out
    obtain ⟨R4, g4, j4, k4⟩ := bare_twin S.out
    obtain ⟨R5, g5, j5, k5⟩ := move_twin S.out at_ (near_n hL) HAT.out
    obtain ⟨R8, g8, j8, k8⟩ := edit_twin S.out a dl ii bit hE.b30.1 hE.b30.2.1 hE.b30.2.2 HBIT.out (near_of hL)
    obtain ⟨R9, g9, j9, k9⟩ := stale_twin S.out
    have HP1 := Lib.hid hp1
    have HP2 := Lib.hid hp2
    have HP3 := Lib.hid hp3
    have HF1 := Lib.hid hf1
    have HF2 := Lib.hid hf2
    have HC1 := Lib.hid hc1
    have HC2 := Lib.hid hc2
    have HE1 := Lib.hid he1
    have HE2 := Lib.hid he2
    have G0 := Lib.hid g0
    have J0 := Lib.hid j0
    have K0 := Lib.hid k0
    have G1 := Lib.hid g1
    have J1 := Lib.hid j1
    have K1 := Lib.hid k1
    have G2 := Lib.hid g2
    have J2 := Lib.hid j2
    have K2 := Lib.hid k2
    have G3 := Lib.hid g3
    have J3 := Lib.hid j3
    have K3 := Lib.hid k3
    have G4 := Lib.hid g4
    have J4 := Lib.hid j4
    have K4 := Lib.hid k4
    have G5 := Lib.hid g5
    have J5 := Lib.hid j5
    have K5 := Lib.hid k5
    have G8 := Lib.hid g8
    have J8 := Lib.hid j8
    have K8 := Lib.hid k8
    have G9 := Lib.hid g9
    have J9 := Lib.hid j9
    have K9 := Lib.hid k9
    clear hp1 hp2 hp3 hf1 hf2 hc1 hc2 he1 he2 g0 j0 k0 g1 j1 k1 g2 j2 k2 g3 j3 k3 g4 j4 k4 g5 j5 k5 g8 j8 k8 g9 j9 k9 hb hL hL2 hE HP HO HK HQ HOQ HKQ HB HA HAT HBIT
    have q1 : (cn == cn) = true := by simp
    have q2 : (fn == fn) = true := by simp
    have q3 : (fb == fb) = true := by simp
    have q4 : (en == en) = true := by simp
    have u1 : (cn != cn) = false := by simp
    have u2 : (fn != fn) = false := by simp
    have u3 : (fb != fb) = false := by simp
    have u4 : (en != en) = false := by simp
    go_wp2_with fail
    refine (ownParts A c ps w2 (S.out.ext HX2.out).parts (S.out.ext HX2.out).oks S.out.few hl (S.out.none)).mono ?_
    rintro e w3 ⟨A3, c3, qs, rfl, hn3, ho3, hx3⟩
    have X3 := Lib.hid (HX2.out.trans hx3)
    have HN3 := Lib.hid hn3
    have P3 := Lib.hid (ho3.ps (S.out.few.of_lens (by rw [hn3])))
    have B3 := Lib.hid (ext_block BE2.out hx3)
    clear hn3 ho3 hx3 HX2 BE2
    go_wp2_with fail
    refine (HP2.out w3 A3 c3 qs HN3.out P3.out X3.out).mono ?_
    rintro e w4 ⟨A4, c4, ts, n4, rfl, hr4, hp4, ho4, hl4, hx4⟩
    have X4 := Lib.hid (X3.out.trans hx4)
    have B4 := Lib.hid (ext_block B3.out hx4)
    have R4' := Lib.hid hr4
    have P4 := Lib.hid hp4
    have O4 := Lib.hid ho4
    clear hr4 hp4 ho4 hx4 X3 B3 HN3 P3
    go_wp2_with fail
    refine (HP3.out w4 X4.out).mono ?_
    rintro e w5 ⟨A5, c5, us, n5, rfl, hr5, hp5, ho5, hl5, hx5⟩
    obtain ⟨heq, rfl⟩ := pair_eq (HP1.out _ _ R4'.out hr5)
    have HEQ := Lib.hid heq
    have X5 := Lib.hid (X4.out.trans hx5)
    have B5 := Lib.hid (ext_block B4.out hx5)
    have P45 := Lib.hid (P4.out.ext hx5)
    have O45 := Lib.hid (O4.out.ext hx5)
    have P5 := Lib.hid hp5
    have O5 := Lib.hid ho5
    have q5 : (n4 == n4) = true := by simp
    have u5 : (n4 != n4) = false := by simp
    clear hr5 hp5 ho5 hx5 X4 B4 P4 O4 R4' heq
    go_wp2_with fail
    refine (HF1.out w5 X5.out).mono ?_
    rintro e w6 ⟨rfl, hx6⟩
    have Y6 := Lib.hid hx6
    clear hx6
    go_wp2_with fail
    refine (HF2.out w6 (X5.out.trans Y6.out)).mono ?_
    rintro e w7 ⟨rfl, hx7⟩
    have Y7 := Lib.hid (Y6.out.trans hx7)
    clear hx7 Y6
    go_wp2_with fail
    refine (HC1.out w7 (X5.out.trans Y7.out)).mono ?_
    rintro e w8 ⟨rfl, hx8⟩
    have Y8 := Lib.hid (Y7.out.trans hx8)
    clear hx8 Y7
    go_wp2_with fail
    refine (HC2.out w8 (X5.out.trans Y8.out)).mono ?_
    rintro e w9 ⟨rfl, hx9⟩
    have Y9 := Lib.hid (Y8.out.trans hx9)
    have CS := rsame_any A4 A5 ts us c4 c5 w9 (P45.out.ext Y9.out) (O45.out.ext Y9.out) (P5.out.ext Y9.out) (O5.out.ext Y9.out) (by omega) (by omega)
    rw [decide_eq_true HEQ.out] at CS
    have HCS := Lib.hid CS
    clear hx9 Y8 CS P45 O45 P5 O5 HEQ
    go_wp2_with fail
    refine HCS.out.mono ?_
    rintro e w10 ⟨rfl, hx10⟩
    have Y10 := Lib.hid (Y9.out.trans hx10)
    clear hx10 Y9 HCS
    go_wp2_with fail
    refine (HE1.out w10 (X5.out.trans Y10.out)).mono ?_
    rintro e w11 ⟨rfl, hx11⟩
    have Y11 := Lib.hid (Y10.out.trans hx11)
    clear hx11 Y10
    go_wp2_with fail
    refine (HE2.out w11 (X5.out.trans Y11.out)).mono ?_
    rintro e w12 ⟨rfl, hx12⟩
    have XS := Lib.hid ((X5.out.trans Y11.out).trans hx12)
    have BS := Lib.hid (ext_block B5.out (Y11.out.trans hx12))
    clear hx12 Y11 X5 B5
    obtain ⟨e0, e1, e2, el⟩ := ed_cells BS.out
    obtain ⟨sb, hsb⟩ : ∃ sb, decide (nds ps = nds ss) = sb := ⟨_, rfl⟩
    have CT := fun V (x : Ext W V) => sameT_any A B ps ss c d V (S.out.ext x).parts (S.out.ext x).oks (SS.out.ext x).parts (SS.out.ext x).oks (by omega) (by omega)
    have CR := fun V (x : Ext W V) => rsame_any A B ps ss c d V (S.out.ext x).parts (S.out.ext x).oks (SS.out.ext x).parts (SS.out.ext x).oks (by omega) (by omega)
    rw [hsb] at CT CR
    have HCT := Lib.hid CT
    have HCR := Lib.hid CR
    have qb : (sb == sb) = true := by simp
    clear hsb CT CR
    go_upto_region 11 with fail
    clear q1 q2 q3 q4 q5 u1 u2 u3 u4 u5
    simp only [List.append_eq, List.cons_append, List.nil_append]
    refine wp_region_bt (80) (softs_bt [0, 1, 3, 4] (.step 2 (.step 5 (.step 6 (softs_bt [7, 8, 10] (.step 9 (.step 11 (.step 12 (softs_bt [13, 14, 15, 16, 18, 19] (.step 17 (.step 20 (.step 21 (softs_bt [22, 23, 24, 26] (.step 25 (.step 27 (.step 28 (softs_bt [29, 30, 31, 33] (.step 32 (.step 34 (.step 35 (softs_bt [36, 37, 38, 39, 41, 42] (.step 40 (.step 43 (.step 44 (softs_bt [45, 46, 47, 49] (.step 48 (.step 50 (softs_bt [51, 52, 53, 54, 56, 57] (.step 55 (.step 58 (softs_bt [59, 60, 61, 62, 63, 64, 66, 67, 68] (.step 65 (.step 69 (.step 70 (softs_bt [71, 72, 73, 75] (.step 74 (.step 76 (.step 77 (softs_bt [78, 79] .fin))))))))))))))))))))))))))))))))))))))) (by kernel_rfl) (by kernel_rfl) ?_
    (refine bt_softs _ fun K hK => ?_); (simp only [pick, nthC]); (repeat (go_big_quiet_step (fail))); (refine wpQuiet_nil (hK _ ?_)); (clear hK K)
    have X0 : Hid (Ext W w12.drew) := Lib.hid (XS.out.trans (Ext.refl w12).drew)
    have Z0 : Hid (Ext w12 w12.drew) := Lib.hid (Ext.refl w12).drew
    (refine bt_step fun next hn => ?_); (simp only [pick, nthC])
    go_wp2_with fail
    refine (J0.out _ X0.out).mono ?_
    rintro e V1 ⟨D1, d1, z1, rfl, r1, p1, k1, l1, hv⟩
    have X1 := Lib.hid (X0.out.trans hv)
    have Z1 := Lib.hid (Z0.out.trans hv)
    have RR := Lib.hid r1
    have PP := Lib.hid p1
    have KK := Lib.hid k1
    clear r1 p1 k1
    clear hv X0 Z0
    go_wp2_with fail
    refine segQ_mk (fun _ => laid Z1.out) (hn _ _ ?_)
    clear hn next
    (refine bt_step fun next hn => ?_); (simp only [pick, nthC])
    go_wp2_with fail
    refine (K0.out _ X1.out).mono ?_
    rintro e V2 ⟨D2, d2, z2, rfl, r2, p2, k2, l2, hv⟩
    have X2 := Lib.hid (X1.out.trans hv)
    have Z2 := Lib.hid (Z1.out.trans hv)
    have CS := rsame_any D1 D2 z1 z2 d1 d2 V2 (PP.out.ext hv) (KK.out.ext hv) p2 k2 l1 l2
    rw [decide_eq_true (G0.out _ _ RR.out r2)] at CS
    have HCS := Lib.hid CS
    clear CS r2 p2 k2 RR PP KK
    clear hv X1 Z1
    go_wp2_with fail
    refine segQ_mk (fun _ => laid Z2.out) (hn _ _ ?_)
    clear hn next
    (refine bt_step fun next hn => ?_); (simp only [pick, nthC])
    go_wp2_with fail
    refine (HCS.out).mono ?_
    rintro e V3 ⟨rfl, hv⟩
    have X3 := Lib.hid (X2.out.trans hv)
    have Z3 := Lib.hid (Z2.out.trans hv)
    clear HCS
    clear hv X2 Z2
    go_wp2_with fail
    refine segQ_mk (fun _ => laid Z3.out) (hn _ _ ?_)
    clear hn next
    (refine bt_softs _ fun K hK => ?_); (simp only [pick, nthC]); (repeat (go_big_quiet_step (fail))); (refine wpQuiet_nil (hK _ ?_)); (clear hK K)
    (refine bt_step fun next hn => ?_); (simp only [pick, nthC])
    go_wp2_with fail
    refine (J1.out _ X3.out).mono ?_
    rintro e V4 ⟨D1, d1, z1, rfl, r1, p1, l1, hv⟩
    have X4 := Lib.hid (X3.out.trans hv)
    have Z4 := Lib.hid (Z3.out.trans hv)
    have RR := Lib.hid r1
    have PP := Lib.hid p1
    clear r1 p1
    clear hv X3 Z3
    go_wp2_with fail
    refine segQ_mk (fun _ => laid Z4.out) (hn _ _ ?_)
    clear hn next
    (refine bt_step fun next hn => ?_); (simp only [pick, nthC])
    go_wp2_with fail
    refine (K1.out _ X4.out).mono ?_
    rintro e V5 ⟨D2, d2, z2, rfl, r2, p2, l2, hv⟩
    have X5 := Lib.hid (X4.out.trans hv)
    have Z5 := Lib.hid (Z4.out.trans hv)
    obtain rfl := G1.out _ _ RR.out r2
    have CS := same_any D1 D2 z1 z1 d1 d2 V5 (PP.out.ext hv) p2 (by omega) (by omega)
    rw [decide_eq_true rfl] at CS
    have HCS := Lib.hid CS
    clear CS r2 p2 RR PP
    clear hv X4 Z4
    go_wp2_with fail
    refine segQ_mk (fun _ => laid Z5.out) (hn _ _ ?_)
    clear hn next
    (refine bt_step fun next hn => ?_); (simp only [pick, nthC])
    go_wp2_with fail
    refine (HCS.out).mono ?_
    rintro e V6 ⟨rfl, hv⟩
    have X6 := Lib.hid (X5.out.trans hv)
    have Z6 := Lib.hid (Z5.out.trans hv)
    clear HCS
    clear hv X5 Z5
    go_wp2_with fail
    refine segQ_mk (fun _ => laid Z6.out) (hn _ _ ?_)
    clear hn next
    (refine bt_softs _ fun K hK => ?_); (simp only [pick, nthC]); (repeat (go_big_quiet_step (fail))); (refine wpQuiet_nil (hK _ ?_)); (clear hK K)
    (refine bt_step fun next hn => ?_); (simp only [pick, nthC])
    go_wp2_with fail
    refine (J2.out _ X6.out).mono ?_
    rintro e V7 ⟨D1, d1, z1, rfl, r1, p1, l1, hv⟩
    have X7 := Lib.hid (X6.out.trans hv)
    have Z7 := Lib.hid (Z6.out.trans hv)
    have RR := Lib.hid r1
    have PP := Lib.hid p1
    clear r1 p1
    clear hv X6 Z6
    go_wp2_with fail
    refine segQ_mk (fun _ => laid Z7.out) (hn _ _ ?_)
    clear hn next
    (refine bt_step fun next hn => ?_); (simp only [pick, nthC])
    go_wp2_with fail
    refine (K2.out _ X7.out).mono ?_
    rintro e V8 ⟨D2, d2, z2, rfl, r2, p2, l2, hv⟩
    have X8 := Lib.hid (X7.out.trans hv)
    have Z8 := Lib.hid (Z7.out.trans hv)
    obtain rfl := G2.out _ _ RR.out r2
    have CS := same_any D1 D2 z1 z1 d1 d2 V8 (PP.out.ext hv) p2 (by omega) (by omega)
    rw [decide_eq_true rfl] at CS
    have HCS := Lib.hid CS
    clear CS r2 p2 RR PP
    clear hv X7 Z7
    go_wp2_with fail
    refine segQ_mk (fun _ => laid Z8.out) (hn _ _ ?_)
    clear hn next
    (refine bt_step fun next hn => ?_); (simp only [pick, nthC])
    go_wp2_with fail
    refine (HCS.out).mono ?_
    rintro e V9 ⟨rfl, hv⟩
    have X9 := Lib.hid (X8.out.trans hv)
    have Z9 := Lib.hid (Z8.out.trans hv)
    clear HCS
    clear hv X8 Z8
    go_wp2_with fail
    refine segQ_mk (fun _ => laid Z9.out) (hn _ _ ?_)
    clear hn next
    (refine bt_softs _ fun K hK => ?_); (simp only [pick, nthC]); (repeat (go_big_quiet_step (fail))); (refine wpQuiet_nil (hK _ ?_)); (clear hK K)
    (refine bt_step fun next hn => ?_); (simp only [pick, nthC])
    go_wp2_with fail
    refine (J3.out _ X9.out).mono ?_
    rintro e V10 ⟨D1, d1, z1, rfl, r1, p1, l1, hv⟩
    have X10 := Lib.hid (X9.out.trans hv)
    have Z10 := Lib.hid (Z9.out.trans hv)
    have RR := Lib.hid r1
    have PP := Lib.hid p1
    clear r1 p1
    clear hv X9 Z9
    go_wp2_with fail
    refine segQ_mk (fun _ => laid Z10.out) (hn _ _ ?_)
    clear hn next
    (refine bt_step fun next hn => ?_); (simp only [pick, nthC])
    go_wp2_with fail
    refine (K3.out _ X10.out).mono ?_
    rintro e V11 ⟨D2, d2, z2, rfl, r2, p2, l2, hv⟩
    have X11 := Lib.hid (X10.out.trans hv)
    have Z11 := Lib.hid (Z10.out.trans hv)
    obtain rfl := G3.out _ _ RR.out r2
    have CS := same_any D1 D2 z1 z1 d1 d2 V11 (PP.out.ext hv) p2 (by omega) (by omega)
    rw [decide_eq_true rfl] at CS
    have HCS := Lib.hid CS
    clear CS r2 p2 RR PP
    clear hv X10 Z10
    go_wp2_with fail
    refine segQ_mk (fun _ => laid Z11.out) (hn _ _ ?_)
    clear hn next
    (refine bt_step fun next hn => ?_); (simp only [pick, nthC])
    go_wp2_with fail
    refine (HCS.out).mono ?_
    rintro e V12 ⟨rfl, hv⟩
    have X12 := Lib.hid (X11.out.trans hv)
    have Z12 := Lib.hid (Z11.out.trans hv)
    clear HCS
    clear hv X11 Z11
    go_wp2_with fail
    refine segQ_mk (fun _ => laid Z12.out) (hn _ _ ?_)
    clear hn next
    (refine bt_softs _ fun K hK => ?_); (simp only [pick, nthC]); (repeat (go_big_quiet_step (fail))); (refine wpQuiet_nil (hK _ ?_)); (clear hK K)
    (refine bt_step fun next hn => ?_); (simp only [pick, nthC])
    go_wp2_with fail
    refine (J4.out _ X12.out).mono ?_
    rintro e V13 ⟨D1, d1, z1, rfl, r1, p1, k1, l1, hv⟩
    have X13 := Lib.hid (X12.out.trans hv)
    have Z13 := Lib.hid (Z12.out.trans hv)
    have RR := Lib.hid r1
    have PP := Lib.hid p1
    have KK := Lib.hid k1
    clear r1 p1 k1
    clear hv X12 Z12
    go_wp2_with fail
    refine segQ_mk (fun _ => laid Z13.out) (hn _ _ ?_)
    clear hn next
    (refine bt_step fun next hn => ?_); (simp only [pick, nthC])
    go_wp2_with fail
    refine (K4.out _ X13.out).mono ?_
    rintro e V14 ⟨D2, d2, z2, rfl, r2, p2, k2, l2, hv⟩
    have X14 := Lib.hid (X13.out.trans hv)
    have Z14 := Lib.hid (Z13.out.trans hv)
    have CS := rsame_any D1 D2 z1 z2 d1 d2 V14 (PP.out.ext hv) (KK.out.ext hv) p2 k2 l1 l2
    rw [decide_eq_true (G4.out _ _ RR.out r2)] at CS
    have HCS := Lib.hid CS
    clear CS r2 p2 k2 RR PP KK
    clear hv X13 Z13
    go_wp2_with fail
    refine segQ_mk (fun _ => laid Z14.out) (hn _ _ ?_)
    clear hn next
    (refine bt_step fun next hn => ?_); (simp only [pick, nthC])
    go_wp2_with fail
    refine (HCS.out).mono ?_
    rintro e V15 ⟨rfl, hv⟩
    have X15 := Lib.hid (X14.out.trans hv)
    have Z15 := Lib.hid (Z14.out.trans hv)
    clear HCS
    clear hv X14 Z14
    go_wp2_with fail
    refine segQ_mk (fun _ => laid Z15.out) (hn _ _ ?_)
    clear hn next
    (refine bt_softs _ fun K hK => ?_); (simp only [pick, nthC]); (repeat (go_big_quiet_step (fail))); (refine wpQuiet_nil (hK _ ?_)); (clear hK K)
    (refine bt_step fun next hn => ?_); (simp only [pick, nthC])
    go_wp2_with fail
    refine (J5.out _ X15.out).mono ?_
    rintro e V16 ⟨D1, d1, z1, rfl, r1, p1, k1, l1, hv⟩
    have X16 := Lib.hid (X15.out.trans hv)
    have Z16 := Lib.hid (Z15.out.trans hv)
    have RR := Lib.hid r1
    have PP := Lib.hid p1
    have KK := Lib.hid k1
    clear r1 p1 k1
    clear hv X15 Z15
    go_wp2_with fail
    refine segQ_mk (fun _ => laid Z16.out) (hn _ _ ?_)
    clear hn next
    (refine bt_step fun next hn => ?_); (simp only [pick, nthC])
    go_wp2_with fail
    refine (K5.out _ X16.out).mono ?_
    rintro e V17 ⟨D2, d2, z2, rfl, r2, p2, k2, l2, hv⟩
    have X17 := Lib.hid (X16.out.trans hv)
    have Z17 := Lib.hid (Z16.out.trans hv)
    have CS := rsame_any D1 D2 z1 z2 d1 d2 V17 (PP.out.ext hv) (KK.out.ext hv) p2 k2 l1 l2
    rw [decide_eq_true (G5.out _ _ RR.out r2)] at CS
    have HCS := Lib.hid CS
    clear CS r2 p2 k2 RR PP KK
    clear hv X16 Z16
    go_wp2_with fail
    refine segQ_mk (fun _ => laid Z17.out) (hn _ _ ?_)
    clear hn next
    (refine bt_step fun next hn => ?_); (simp only [pick, nthC])
    go_wp2_with fail
    refine (HCS.out).mono ?_
    rintro e V18 ⟨rfl, hv⟩
    have X18 := Lib.hid (X17.out.trans hv)
    have Z18 := Lib.hid (Z17.out.trans hv)
    clear HCS
    clear hv X17 Z17
    go_wp2_with fail
    refine segQ_mk (fun _ => laid Z18.out) (hn _ _ ?_)
    clear hn next
    (refine bt_softs _ fun K hK => ?_); (simp only [pick, nthC]); (repeat (go_big_quiet_step (fail))); (refine wpQuiet_nil (hK _ ?_)); (clear hK K)
    (refine bt_step fun next hn => ?_); (simp only [pick, nthC])
    go_wp2_with fail
    refine (copy_any A c ps _ (S.out.ext X18.out).parts (S.out.ext X18.out).oks S.out.few).mono ?_
    rintro e V19 ⟨D1, d1, z1, rfl, r1, ho, hv⟩
    have X19 := Lib.hid (X18.out.trans hv)
    have Z19 := Lib.hid (Z18.out.trans hv)
    have CS := rsame_any D1 A z1 ps d1 c V19 ho.cells.1 ho.oks (S.out.ext X19.out).parts (S.out.ext X19.out).oks (by rw [← nds_length, r1, nds_length]; omega) (by omega)
    rw [decide_eq_true r1] at CS
    have HCS := Lib.hid CS
    clear CS r1 ho
    clear hv X18 Z18
    go_wp2_with fail
    refine segQ_mk (fun _ => laid Z19.out) (hn _ _ ?_)
    clear hn next
    (refine bt_step fun next hn => ?_); (simp only [pick, nthC])
    go_wp2_with fail
    refine (HCS.out).mono ?_
    rintro e V20 ⟨rfl, hv⟩
    have X20 := Lib.hid (X19.out.trans hv)
    have Z20 := Lib.hid (Z19.out.trans hv)
    clear HCS
    clear hv X19 Z19
    go_wp2_with fail
    refine segQ_mk (fun _ => laid Z20.out) (hn _ _ ?_)
    clear hn next
    (refine bt_softs _ fun K hK => ?_); (simp only [pick, nthC]); (repeat (go_big_quiet_step (fail))); (refine wpQuiet_nil (hK _ ?_)); (clear hK K)
    (refine bt_step fun next hn => ?_); (simp only [pick, nthC])
    go_wp2_with fail
    refine (HCT.out _ X20.out).mono ?_
    rintro e V21 ⟨rfl, hv⟩
    have X21 := Lib.hid (X20.out.trans hv)
    have Z21 := Lib.hid (Z20.out.trans hv)
    clear hv X20 Z20
    go_wp2_with fail
    refine segQ_mk (fun _ => laid Z21.out) (hn _ _ ?_)
    clear hn next
    (refine bt_step fun next hn => ?_); (simp only [pick, nthC])
    go_wp2_with fail
    refine (HCR.out _ X21.out).mono ?_
    rintro e V22 ⟨rfl, hv⟩
    have X22 := Lib.hid (X21.out.trans hv)
    have Z22 := Lib.hid (Z21.out.trans hv)
    clear hv X21 Z21
    go_wp2_with fail
    refine segQ_mk (fun _ => laid Z22.out) (hn _ _ ?_)
    clear hn next
    (refine bt_softs _ fun K hK => ?_); (simp only [pick, nthC]); (repeat (go_big_quiet_step (fail))); (refine wpQuiet_nil (hK _ ?_)); (clear hK K)
    (refine bt_step fun next hn => ?_); (simp only [pick, nthC])
    go_wp2_with fail
    refine (J8.out _ X22.out).mono ?_
    rintro e V23 ⟨D1, d1, z1, rfl, r1, p1, k1, l1, hv⟩
    have X23 := Lib.hid (X22.out.trans hv)
    have Z23 := Lib.hid (Z22.out.trans hv)
    have RR := Lib.hid r1
    have PP := Lib.hid p1
    have KK := Lib.hid k1
    clear r1 p1 k1
    clear hv X22 Z22
    go_wp2_with fail
    refine segQ_mk (fun _ => laid Z23.out) (hn _ _ ?_)
    clear hn next
    (refine bt_step fun next hn => ?_); (simp only [pick, nthC])
    go_wp2_with fail
    refine (K8.out _ X23.out).mono ?_
    rintro e V24 ⟨D2, d2, z2, rfl, r2, p2, k2, l2, hv⟩
    have X24 := Lib.hid (X23.out.trans hv)
    have Z24 := Lib.hid (Z23.out.trans hv)
    have CS := rsame_any D1 D2 z1 z2 d1 d2 V24 (PP.out.ext hv) (KK.out.ext hv) p2 k2 l1 l2
    rw [decide_eq_true (G8.out _ _ RR.out r2)] at CS
    have HCS := Lib.hid CS
    clear CS r2 p2 k2 RR PP KK
    clear hv X23 Z23
    go_wp2_with fail
    refine segQ_mk (fun _ => laid Z24.out) (hn _ _ ?_)
    clear hn next
    (refine bt_step fun next hn => ?_); (simp only [pick, nthC])
    go_wp2_with fail
    refine (HCS.out).mono ?_
    rintro e V25 ⟨rfl, hv⟩
    have X25 := Lib.hid (X24.out.trans hv)
    have Z25 := Lib.hid (Z24.out.trans hv)
    clear HCS
    clear hv X24 Z24
    go_wp2_with fail
    refine segQ_mk (fun _ => laid Z25.out) (hn _ _ ?_)
    clear hn next
    (refine bt_softs _ fun K hK => ?_); (simp only [pick, nthC]); (repeat (go_big_quiet_step (fail))); (refine wpQuiet_nil (hK _ ?_)); (clear hK K)
    (refine bt_step fun next hn => ?_); (simp only [pick, nthC])
    go_wp2_with fail
    refine (J9.out _ X25.out).mono ?_
    rintro e V26 ⟨D1, d1, z1, rfl, r1, p1, l1, hv⟩
    have X26 := Lib.hid (X25.out.trans hv)
    have Z26 := Lib.hid (Z25.out.trans hv)
    have RR := Lib.hid r1
    have PP := Lib.hid p1
    clear r1 p1
    clear hv X25 Z25
    go_wp2_with fail
    refine segQ_mk (fun _ => laid Z26.out) (hn _ _ ?_)
    clear hn next
    (refine bt_step fun next hn => ?_); (simp only [pick, nthC])
    go_wp2_with fail
    refine (K9.out _ X26.out).mono ?_
    rintro e V27 ⟨D2, d2, z2, rfl, r2, p2, l2, hv⟩
    have X27 := Lib.hid (X26.out.trans hv)
    have Z27 := Lib.hid (Z26.out.trans hv)
    obtain rfl := G9.out _ _ RR.out r2
    have HCS := Lib.hid (same_bools D1 D2 z1 d1 d2 V27 (PP.out.ext hv) p2 l1)
    clear r2 p2 RR PP
    clear hv X26 Z26
    go_wp2_with fail
    refine segQ_mk (fun _ => laid Z27.out) (hn _ _ ?_)
    clear hn next
    (refine bt_step fun next hn => ?_); (simp only [pick, nthC])
    go_wp2_with fail
    refine (HCS.out).mono ?_
    rintro e V28 ⟨rfl, hv⟩
    have X28 := Lib.hid (X27.out.trans hv)
    have Z28 := Lib.hid (Z27.out.trans hv)
    clear HCS
    clear hv X27 Z27
    go_wp2_with fail
    refine segQ_mk (fun _ => laid Z28.out) (hn _ _ ?_)
    clear hn next
    (refine bt_softs _ fun K hK => ?_); (simp only [pick, nthC]); (repeat (go_big_quiet_step (fail))); (refine wpQuiet_nil (hK _ ?_)); (clear hK K)
    (refine bt_fin ?_)
    go_wp2_with fail
    go_ret
    exact ⟨rfl, X28.out⟩
end Go.Proofs.Ytggmljookcmnkaa
