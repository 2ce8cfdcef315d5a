/- Pn: texts that the proof rests on, part 5. -/
import Derived.Test.YthpmncdfaggkiaaGreatCr1
import Derived.Test.YthpmncdfaggkiaaGreatCr10
import Derived.Test.YthpmncdfaggkiaaGreatCr11
import Derived.Test.YthpmncdfaggkiaaGreatCr2
import Derived.Test.YthpmncdfaggkiaaGreatCr3
import Derived.Test.YthpmncdfaggkiaaGreatCr5
import Derived.Test.YthpmncdfaggkiaaGreatCr6
import Derived.Test.YthpmncdfaggkiaaGreatCr7
import Derived.Test.YthpmncdfaggkiaaGreatCr8
import Derived.Test.YthpmncdfaggkiaaGreatCr9
import Derived.Test.YthpmncdfaggkiaaGreatPn1
import Derived.Test.YthpmncdfaggkiaaGreatPn2
import Derived.Test.YthpmncdfaggkiaaGreatPn3
import Derived.Test.YthpmncdfaggkiaaGreatPn4
namespace Go.Proofs.YthpmncdfaggkiaaGreat
open Go.RowKit
attribute [local go_sem] more_drew more_drewN more_size more_cell more_frozen more_setCell drew_more drewN_more lt_add_r lt_add_r2 lt_add_r3 lt_add_r4 lt_add_r5 lt_add_r6 lt_add_r7 lt_add_r8 lt_add_r9 lt_add_r10 lt_self_r lt_self_r2
theorem sty28 (way : List Int) : styleF [⟨0, none, 0, [], 1, 0⟩] 0 way = 1 := by
 simp [styleF, bestIx, matchB, endsB, betterB, stOf, stAt]
theorem ab_leaf (ps : List Prt) (hnd : nds ps = ndAB) {B : Option Addr} {cs : Nat} {A : Option Addr} {c : Nat} {w : World} (hS : Styles w B [⟨0, none, 0, [], 1, 0⟩]) (hO : StylesOk w [⟨0, none, 0, [], 1, 0⟩]) (h : PS w A c ps) :
 ∃ sv : Nat → Int, LeafsAre w B 1 cs A ps.length c sv ∧ sv 2 = 1 ∧ sv 4 = 1 := by
 have T : Tree (nds ps) := by rw [hnd]; exact ndAB_tree
 obtain ⟨s0, h0⟩ := leafs_are (cs := cs) hS hO (by simp) h T
 have key : ∀ i : Nat, i = 2 ∨ i = 4 → ∀ V : World, Below w.heap.size w V → Calls Tryz.prog 28 #[.slice B 1 cs, .slice A ps.length c, .int .i64 i] V fun e w' => e = .returned (.int .i64 1) ∧ Ext V w' := by
  intro i hi V hV
  have hil : i < (nds ps).length := by rw [hnd]; show i < 7; omega
  obtain ⟨p, hp⟩ : ∃ p, ps[i]? = some p := ⟨_, List.getElem?_eq_getElem (by rw [nds_length] at hil; exact hil)⟩
  have hpn := nds_get hp
  have hk : p.nd.kind = 3 ∧ p.nd.sym = 0 := by
   rw [hnd] at hpn
   rcases hi with rfl | rfl
   ·injection hpn with hpn; rw [← hpn]; exact ⟨rfl, rfl⟩
   ·injection hpn with hpn; rw [← hpn]; exact ⟨rfl, rfl⟩
  obtain ⟨ws, hw⟩ := Way.all T i i (Nat.le_refl _) hil
  obtain ⟨q, us, hq, rfl⟩ := hw.ends
  rw [hpn] at hq
  injection hq with hq
  subst hq
  have := leaf26_yes (cs := cs) (hS.ext (Ext.of_below hV)) (hO.ext (Ext.of_below hV)) (by simp) (h.below hV) T hp (.inl hk.1) hw
  refine this.mono fun e w' ⟨h1, h2⟩ => ⟨by rw [h1, hk.2, sty28], h2⟩
 refine ⟨fun i => if i = 2 ∨ i = 4 then 1 else s0 i, fun i V hi hV => ?_, rfl, rfl⟩
 by_cases hi2 : i = 2 ∨ i = 4
 ·simp only [if_pos hi2]
  exact key i hi2 V hV
 ·simp only [if_neg hi2]
  exact h0 i V hi hV
theorem ab_paint (sv : Nat → Int) (h2 : sv 2 = 1) (h4 : sv 4 = 1) : meltF (strF ndAB (List.replicate 7 3) sv 0 3 0 (leavesF 0 ndAB)) = [⟨0, 1, 1, 3⟩, ⟨1, 2, 0, 3⟩, ⟨2, 3, 1, 3⟩] := by
 rw [show leavesF 0 ndAB = [2, 4, 6] by rfl]
 have e2 : ndAt ndAB 2 = ⟨0, 3, 0, 0, 1, 2, [], 0⟩ := rfl
 have e4 : ndAt ndAB 4 = ⟨0, 3, 1, 2, 3, 4, [], 0⟩ := rfl
 have e6 : ndAt ndAB 6 = ⟨-2, 6, 3, 3, 3, 4, [], 0⟩ := rfl
 have e0 : ndAt ndAB 0 = ⟨-3, 1, 0, 0, 3, 1, [1, 6], 0⟩ := rfl
 simp only [strF, leafPn, e0, e2, e4, e6, clip, clipA, clipB, show (2 : Int).toNat = 2 from rfl, show (4 : Int).toNat = 4 from rfl, h2, h4]
 rfl
set_option maxRecDepth 100000 in
set_option maxHeartbeats 3000000 in
theorem lives28_any (w : World) : Calls Tryz.prog 38 #[] w fun e w' => e = .returned (.bool true) ∧ Ext w w' := by
 go_enter Tryz.func38, Tryz.ntmps38
 go_wp2_with fail
 refine (words_run w).mono ?_
 rintro e W3 ⟨rb, a', b', rfl, hr3, hg3, hx3⟩
 have HBU := zh (build17_words rb 2 a' b' 2 W3 hr3 hg3)
 have HX3 := zh hx3
 unfold gramV at HBU ⊢
 clear hr3 hg3 hx3
 go_wp2_with fail
 refine HBU.out.mono ?_
 rintro e W4 ⟨lb, rfl, hl4, hx4⟩
 have HX4 := zh (HX3.out.trans hx4)
 have HFR := zh (fresh_ab lb W4 hl4)
 clear HBU hl4 hx4 HX3
 go_wp2_with fail
 refine HFR.out.mono ?_
 rintro e W6 ⟨v, rs, rfl, hrw, hsh, hx6⟩
 have hrl : rs.length = 7 := by rw [shs_length hsh]; rfl
 have hnd : nds (rs.map toPrt) = ndAB := by rw [nds_toPrt, hsh]
 obtain ⟨A, c, rfl, hS⟩ := hrw.ps hsh treeAB_i64 (by decide) (by decide)
 have hpl : (rs.map toPrt).length = 7 := by rw [List.length_map, hrl]
 rw [hrl]
 obtain ⟨ps, hps⟩ : ∃ ps, rs.map toPrt = ps := ⟨_, rfl⟩
 rw [hps] at hnd hS hpl
 have HX6 := zh (HX4.out.trans hx6)
 have T : Tree (nds ps) := by rw [hnd]; exact ndAB_tree
 have MK := marks_any A c ps 1 (-1) W6 hS T (by omega)
 rw [hpl] at MK
 have HMK := zh MK
 have HS := zh hS
 have HND := zh hnd
 have HPL := zh hpl
 have HT := zh T
 clear hrw hsh hx6 hrl hps hnd hS hpl T MK HFR HX4
 go_wp2_with fail
 refine HMK.out.mono ?_
 rintro e w7 ⟨us, hul, ⟨M, cm, rfl, hom, hx7⟩, hall⟩
 have hus : us = List.replicate 7 3 := hall (by first | rfl | trivial) (fun p hp => by
  have : p.nd ∈ nds ps := List.mem_map_of_mem hp
  rw [HND.out, ndAB_eq] at this
  simp only [List.mem_cons, List.not_mem_nil, or_false] at this
  rcases this with h | h | h | h | h | h | h <;> rw [h])
 subst hus
 clear hall hul
 rw [List.length_replicate]
 have HX7 := zh (HX6.out.trans hx7)
 have HM := zh hom
 obtain ⟨_, hmc, hmm, _⟩ := hom.ints
 rw [List.length_replicate] at hmc
 unfold maxLen at hmm
 have HS7 := zh (HS.out.ext hx7)
 clear hx7 hom HMK HS
 obtain ⟨sz, hsz⟩ : ∃ n, w7.heap.size = n := ⟨_, rfl⟩
 obtain ⟨W8, hW8⟩ : ∃ V, w7.alloc (.cells #[.int .i64 0, .slice none 0 0, .int .i64 1, .int .i64 0] 55) = V := ⟨_, rfl⟩
 have B8 : W8.heap[sz]? = some (.cells #[.int .i64 0, .slice none 0 0, .int .i64 1, .int .i64 0] 55) := by rw [← hW8, ← hsz]; exact heap_alloc_new _ _
 have X8 : Ext w7 W8 := by rw [← hW8]; exact (by repeat first | exact xr _ | refine xa ?_ _ | refine xm ?_ _ _ | refine xd ?_ | refine xn ?_ _ | refine xs ?_ (by simp <;> omega) _)
 have hST : Styles W8 (some ⟨sz, 0, none⟩) [⟨0, none, 0, [], 1, 0⟩] := fun _ => ⟨sz, 0, rfl, lt_of_heap B8, fun k s hk => by
  cases k with
  | succ k => simp at hk
  | zero =>
   simp at hk
   subst hk
   have k0 := cell_of_row _ _ 0 _ _ _ B8
   have k1 := cell_of_row _ _ 1 _ _ _ B8
   have k2 := cell_of_row _ _ 2 _ _ _ B8
   have k3 := cell_of_row _ _ 3 _ _ _ B8
   simp at k0 k1 k2 k3
   exact ⟨k0, k1, k2, k3⟩⟩
 have hSO : StylesOk W8 [⟨0, none, 0, [], 1, 0⟩] := fun s hs => by
  simp at hs
  subst hs
  exact ⟨Ints.nil, by simp⟩
 obtain ⟨sv, hsv, hs2, hs4⟩ := ab_leaf ps HND.out (cs := 1) hST hSO (HS7.out.ext X8)
 obtain ⟨p0, hp0⟩ : ∃ p, ps[0]? = some p := ⟨_, List.getElem?_eq_getElem (by rw [HPL.out]; omega)⟩
 have hp0n := nds_get hp0
 rw [HND.out] at hp0n
 have hp0l : p0.nd.lo = 0 ∧ p0.nd.hi = 3 := by injection hp0n with h; rw [← h]; exact ⟨rfl, rfl⟩
 have OF := of28_any A c ps M cm (List.replicate 7 3) (some ⟨sz, 0, none⟩) 1 1 sv 0 3 p0 W8 (HS7.out.ext X8) HT.out (HM.out.ints.1.ext X8) (by rw [List.length_replicate, HPL.out]) (by rw [List.length_replicate]; exact hmc) hmm hsv hp0 hp0l.1 (by omega) (by omega) (by rw [hp0l.2]; omega)
 rw [HND.out, ab_paint sv hs2 hs4, HPL.out, List.length_replicate] at OF
 have HOF := zh OF
 have HX8 := zh (HX7.out.trans X8)
 clear OF hp0 hp0n hp0l hsv hs2 hs4 hST hSO B8 X8 HS7 HM hmc hmm
 go_wp2_with fail
 try simp only [hsz]
 try simp only [hW8]
 refine HOF.out.mono ?_
 rintro e w9 ⟨v9, rfl, hr9, hx9⟩
 obtain ⟨A9, c9, rfl, hP9, hl9, _, _⟩ := hr9.read
 have HP9 := zh hP9
 have HX9 := zh (HX8.out.trans hx9)
 clear hx9 hr9 hP9 hW8 hsz HOF hl9
 simp only [List.length_cons, List.length_nil, Nat.zero_add, Nat.reduceAdd]
 obtain ⟨s9, hs9⟩ : ∃ n, w9.heap.size = n := ⟨_, rfl⟩
 obtain ⟨W10, hW10⟩ : ∃ V, w9.alloc (.cells #[.int .i64 0, .int .i64 1, .int .i64 1, .int .i64 3, .int .i64 1, .int .i64 2, .int .i64 0, .int .i64 3, .int .i64 2, .int .i64 3, .int .i64 1, .int .i64 3] 73) = V := ⟨_, rfl⟩
 have X10 : Ext w9 W10 := by rw [← hW10]; exact (by repeat first | exact xr _ | refine xa ?_ _ | refine xm ?_ _ _ | refine xd ?_ | refine xn ?_ _ | refine xs ?_ (by simp <;> omega) _)
 have C10 : CellsAt W10 (some ⟨s9, 0, none⟩) (pn [⟨0, 1, 1, 3⟩, ⟨1, 2, 0, 3⟩, ⟨2, 3, 1, 3⟩]) := by
  rw [← hW10]
  exact cells_lit w9 73 s9 _ _ hs9.symm rfl
 have SM := same_any28 A9 (some ⟨s9, 0, none⟩) [⟨0, 1, 1, 3⟩, ⟨1, 2, 0, 3⟩, ⟨2, 3, 1, 3⟩] [⟨0, 1, 1, 3⟩, ⟨1, 2, 0, 3⟩, ⟨2, 3, 1, 3⟩] c9 3 W10 (HP9.out.ext X10) (Pns.of_cells C10) (by simp) (by simp)
 rw [decide_eq_true (rfl : ([⟨0, 1, 1, 3⟩, ⟨1, 2, 0, 3⟩, ⟨2, 3, 1, 3⟩] : List Pn) = _)] at SM
 simp only [List.length_cons, List.length_nil, Nat.zero_add, Nat.reduceAdd] at SM
 have HSM := zh SM
 have HX10 := zh (HX9.out.trans X10)
 clear SM C10 X10
 go_wp2_with fail
 try simp only [hs9]
 try simp only [hW10]
 refine HSM.out.mono ?_
 rintro e w11 ⟨rfl, hx11⟩
 have HX11 := zh (HX10.out.trans hx11)
 clear hx11 hW10 hs9 HSM
 go_wp2_with fail
 go_ret
 exact ⟨rfl, HX11.out⟩
end Go.Proofs.YthpmncdfaggkiaaGreat
namespace Go.Proofs.YthpmncdfaggkiaaGreat
open Go.RowKit
def PF (l : List Nd) (ms : List Int) (sv : Nat → Int) (f t : Int) : List Pn := meltF (strF l ms sv f t 0 (leavesF 0 l))
theorem PF_len (ps : List Prt) (h : ps.length ≤ 1000) (ms : List Int) (sv : Nat → Int) (f t : Int) : (PF (nds ps) ms sv f t).length ≤ 1000000 := by
 have h1 := paint_few (nds ps) ms sv f t 0 (leavesF 0 (nds ps))
 have h2 := leavesF_len (nds ps) 0
 rw [nds_length] at h2
 unfold PF
 omega
end Go.Proofs.YthpmncdfaggkiaaGreat
