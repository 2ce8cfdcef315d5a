/- Pn: texts that the proof rests on, part 3. -/
import Derived.Test.YthpmncdfaggkiaaGreatCr1
import Derived.Test.YthpmncdfaggkiaaGreatCr10
import Derived.Test.YthpmncdfaggkiaaGreatCr11
import Derived.Test.YthpmncdfaggkiaaGreatCr2
import Derived.Test.YthpmncdfaggkiaaGreatCr3
import Derived.Test.YthpmncdfaggkiaaGreatCr5
import Derived.Test.YthpmncdfaggkiaaGreatCr6
import Derived.Test.YthpmncdfaggkiaaGreatCr7
import Derived.Test.YthpmncdfaggkiaaGreatCr8
import Derived.Test.YthpmncdfaggkiaaGreatCr9
import Derived.Test.YthpmncdfaggkiaaGreatPn1
import Derived.Test.YthpmncdfaggkiaaGreatPn2
import Derived.Lib.Slices
namespace Go.Proofs.YthpmncdfaggkiaaGreat
open Go.RowKit
attribute [local go_sem] more_drew more_drewN more_size more_cell more_frozen more_setCell drew_more drewN_more lt_add_r lt_add_r2 lt_add_r3 lt_add_r4 lt_add_r5 lt_add_r6 lt_add_r7 lt_add_r8 lt_add_r9 lt_add_r10 lt_self_r lt_self_r2
theorem Ints.away {w w' : World} {A : Option Addr} {xs : List Int} {S : Nat → Prop} (h : Ints w A xs) (t : Turn S w w') (hS : ∀ b off, A = some ⟨b, off, none⟩ → ¬ S b) : Ints w' A xs := fun h0 => by
 obtain ⟨b, off, rfl, hb, hc⟩ := h h0
 have hk := t.block b hb (hS b off rfl)
 refine ⟨b, off, rfl, ?_, fun k hk' => ?_⟩
 ·rw [Array.getElem?_eq_getElem hb] at hk
  exact lt_of_heap hk
 ·exact (World.cell?_of_block (w := w) (a := ⟨b, off + k, none⟩) hk).trans (hc k hk')
theorem MadeI.at {w : World} {g : Nat} {us : List Int} (h : MadeI w g us) {k : Nat} {v : Int} (hk : us[k]? = some v) : w.cell? ⟨g, k, none⟩ = some (.int .i64 v) ∧ w.frozen? ⟨g, k, none⟩ = false ∧ g < w.heap.size := by
 have hl := (List.getElem?_eq_some_iff.1 hk).1
 have := h.cell hl
 rwa [List.getD_eq_getElem?_getD, hk] at this
def IntRet (w : World) (e : Ending) (w' : World) : Prop := ∃ v : Int, e = .returned (.int .i64 v) ∧ Ext w w'
set_option maxRecDepth 100000 in
set_option maxHeartbeats 2000000 in
theorem looks_any (A : Option Addr) (c : Nat) (ps : List Prt) (L : Option Addr) (cl : Nat) (ls : List Int) (n k : Nat) (w : World) (h : PS w A c ps) (hL : Ints w L ls) (_ : ls.length ≤ cl) (_ : cl ≤ 9223372036854775807)
 (hls : ∀ x ∈ ls, ∃ i : Nat, x = i ∧ i < ps.length) (hn : n < ls.length) (hll : ls.length ≤ 1000) (hk : k ≤ 1000) :
 Calls Tryz.prog 134 #[.slice A ps.length c, .slice L ls.length cl, .int .i64 n, .int .i64 k] w (IntRet w) := by
 have hps := h.few.len
 have hcap := h.cap
 have htop := h.top
 have S := zh h
 have HL := zh hL
 have GET : Hid (∀ i : Nat, i < ls.length → ∃ (j : Nat) (p : Prt), ls.getD i 0 = (j : Int) ∧ j < ps.length ∧ ps[j]? = some p) := zh fun i hi => by
  obtain ⟨j, hj, hjl⟩ := hls (ls.getD i 0) (by rw [List.getD_eq_getElem?_getD, List.getElem?_eq_getElem hi]; exact List.getElem_mem hi)
  exact ⟨j, _, hj, hjl, List.getElem?_eq_getElem hjl⟩
 clear h hL hls
 go_enter Tryz.func134, Tryz.ntmps134
 go_wp2_with fail
 go_loopw [9, 10] (fun xv iv wr => ∃ (x : Int) (i : Nat), i ≤ n + 1 ∧ iv = .int .i64 i ∧ xv = .int .i64 x ∧ Hid (Ext w wr)) (fun _ iv _ => n + 1 - (intOf iv).toNat)
 case atStart => exact ⟨0, 0, by omega, rfl, rfl, zh (Ext.refl _)⟩
 case round =>
  obtain ⟨x, i, hi, rfl, rfl, hx⟩ := hrel
  by_cases hlt : i ≤ n
  ·obtain ⟨j, p, hj, hjl, hp⟩ := GET.out i (by omega)
   obtain ⟨b, off, rfl, hbl, hcell⟩ := (S.out.ext hx.out).parts (by omega)
   have d5 := (hcell j p hp).2.2.2.2.2.1
   obtain ⟨b2, off2, rfl, hb2, hc2⟩ := (HL.out.ext hx.out) (by omega)
   have e1 := hc2 i (by omega)
   rw [hj] at e1
   have hil : i < ls.length := by omega
   obtain ⟨M, hM⟩ : ∃ M, (if x < p.nd.look then p.nd.look else x) = M := ⟨_, rfl⟩
   clear hcell hc2 hj hp
   go_wp2_with fail
   go_roundw
   case rel => exact ⟨M, i + 1, by omega, by go_num, rfl, hx⟩
   case measure => simp [intOf]; omega
  ·clear hi
   go_wp2_with fail
   go_loopw [3, 9, 11] (fun kv xv iv wr => ∃ (m : Nat) (x : Int) (i : Nat), m ≤ k ∧ i ≤ ls.length ∧ iv = .int .i64 i ∧ kv = .int .i64 m ∧ xv = .int .i64 x ∧ Hid (Ext w wr)) (fun _ _ iv _ => ls.length - (intOf iv).toNat)
   case atStart => exact ⟨k, x, n + 1, Nat.le_refl _, by omega, by go_num, rfl, rfl, hx⟩
   case round =>
    clear hx
    obtain ⟨m, x, i, hm, hi, rfl, rfl, rfl, hx⟩ := hrel
    by_cases hlt : i < ls.length
    ·cases m with
     | zero =>
      go_wp2_with fail
      go_ret
      exact ⟨_, rfl, hx.out⟩
     | succ m =>
      obtain ⟨j, p, hj, hjl, hp⟩ := GET.out i (by omega)
      obtain ⟨b, off, rfl, hbl, hcell⟩ := (S.out.ext hx.out).parts (by omega)
      have d5 := (hcell j p hp).2.2.2.2.2.1
      have d1 := (hcell j p hp).2.1
      obtain ⟨b2, off2, rfl, hb2, hc2⟩ := (HL.out.ext hx.out) (by omega)
      have e2 := hc2 i (by omega)
      rw [hj] at e2
      obtain ⟨M, hM⟩ : ∃ M, (if x < p.nd.look then p.nd.look else x) = M := ⟨_, rfl⟩
      have e0 : ((0 : Int) < ((m + 1 : Nat) : Int)) := by omega
      clear hcell hc2 hj hp
      by_cases hk4 : p.nd.kind = 4
      ·go_wp2_with fail
       go_roundw
       case rel => exact ⟨m + 1, x, i + 1, hm, by omega, by go_num, rfl, rfl, hx⟩
       case measure => simp [intOf]; omega
      ·go_wp2_with fail
       go_roundw
       case rel => exact ⟨m, M, i + 1, by omega, by omega, by go_num, by go_num, rfl, hx⟩
       case measure => simp [intOf]; omega
    ·obtain rfl : i = ls.length := by omega
     go_wp2_with fail
     go_ret
     exact ⟨_, rfl, hx.out⟩
theorem leavesF_nat : ∀ (l : List Nd) (k : Nat) (x : Int), x ∈ leavesF k l → ∃ i : Nat, x = i
 | [], _, _, h => by simp [leavesF] at h
 | p :: l, k, x, h => by
  unfold leavesF at h
  split at h
  ·rcases List.mem_cons.1 h with rfl | h
   ·exact ⟨k, rfl⟩
   ·exact leavesF_nat l _ _ h
  ·exact leavesF_nat l _ _ h
def IntsLen (w : World) (n : Nat) (e : Ending) (w' : World) : Prop := ∃ us : List Int, us.length = n ∧ IntsRet w us e w'
set_option maxRecDepth 100000 in
set_option maxHeartbeats 2000000 in
theorem reach_any (A : Option Addr) (c : Nat) (ps : List Prt) (k : Nat) (w : World) (h : PS w A c ps) (T : Tree (nds ps)) (hk : k ≤ 1000) :
 Calls Tryz.prog 84 #[.slice A ps.length c, .int .i64 k] w (IntsLen w ps.length) := by
 have hl := h.few.len
 have hp0 := T.pos
 rw [nds_length] at hp0
 have S := zh h
 have HT := zh T
 have hmk := run_make_row' (P := Tryz.prog) 31 3 (.int .i64 0) 8 Tryz.underlying31 infoInt rfl .i64 .i64 ps.length (by omega) (by omega)
 have hcap := h.cap
 have htop := h.top
 clear h T
 go_enter Tryz.func84, Tryz.ntmps84
 go_wp2_with fail
 refine (rcheck_ok S.out HT.out).mono ?_
 rintro e w1 ⟨rfl, hx1⟩
 have HX1 := zh hx1
 clear hx1
 go_upto_region 4 with fail
 obtain ⟨g, hg⟩ : ∃ g, w1.heap.size = g := ⟨_, rfl⟩
 obtain ⟨W2, hW2⟩ : ∃ W2, w1.alloc (.cells (madeCells #[.int .i64 0] ps.length) 3) = W2 := ⟨_, rfl⟩
 have M2 : Hid (MadeI W2 g (List.replicate ps.length 0)) := zh (by rw [← hW2, ← hg]; exact MadeI.new _ _)
 have X2 : Hid (Ext w W2) := zh (by rw [← hW2]; exact HX1.out.trans (by repeat first | exact xr _ | refine xa ?_ _ | refine xm ?_ _ _ | refine xd ?_ | refine xn ?_ _ | refine xs ?_ (by simp <;> omega) _))
 have HGW : Hid (w.heap.size ≤ g) := zh (by rw [← hg]; exact HX1.out.size)
 rw [hg, hW2]
 clear hW2 hmk hg
 go_wp2_with fail
 refine (rLeaves_yes (S.out.ext X2.out) HT.out).mono ?_
 rintro e w3 ⟨L, cl, rfl, ho, hx3⟩
 have HX3 := zh (X2.out.trans hx3)
 have M3 := zh (M2.out.ext hx3)
 have HO := zh ho
 obtain ⟨_, hlc, hcm, _⟩ := ho.ints
 unfold maxLen at hcm
 obtain ⟨ls, hls⟩ : ∃ ls, leavesF 0 (nds ps) = ls := ⟨_, rfl⟩
 have hll : ls.length ≤ ps.length := by rw [← hls]; have := leavesF_len (nds ps) 0; rwa [nds_length] at this
 have MEM : Hid (∀ x ∈ ls, ∃ i : Nat, x = i ∧ i < ps.length) := zh fun x hx => by
  rw [← hls] at hx
  obtain ⟨i, rfl⟩ := leavesF_nat _ _ _ hx
  obtain ⟨p, _, hp, _⟩ := (leavesF_mem _ _ _).1 hx
  refine ⟨i, rfl, ?_⟩
  have := (List.getElem?_eq_some_iff.1 hp).1
  rw [nds_length] at this
  omega
 rw [hls] at HO hlc ⊢
 have HGL : Hid (g < W2.heap.size) := zh (lt_of_heap M2.out)
 clear hx3 ho hls M2 X2
 go_wp2_with fail
 go_loopw [7] (fun iv wr => ∃ (i : Nat) (us : List Int), i ≤ ls.length ∧ us.length = ps.length ∧ iv = .int .i64 i ∧ Hid (MadeI wr g us) ∧ Hid (OwnI wr W2.heap.size L cl ls) ∧ Hid (Ext w wr)) (fun iv _ => ls.length - (intOf iv).toNat)
 case atStart => exact ⟨0, _, Nat.zero_le _, List.length_replicate, rfl, M3, HO, HX3⟩
 case round =>
  obtain ⟨i, us, hi, hul, rfl, hM, hI, hx⟩ := hrel
  have HUL := zh hul
  clear hul
  by_cases hlt : i < ls.length
  ·obtain ⟨j, hj, hjl⟩ := MEM.out (ls.getD i 0) (by rw [List.getD_eq_getElem?_getD, List.getElem?_eq_getElem hlt]; exact List.getElem_mem hlt)
   have LK := zh (fun V (x : Ext wr V) => looks_any A c ps L cl ls i k V (S.out.ext (hx.out.trans x)) (hI.out.ext x).ints.1 hlc hcm MEM.out hlt (by omega) hk)
   obtain ⟨b2, off2, rfl, hb2, hc2⟩ := hI.out.ints.1 (by omega)
   have e1 := hc2 i (by omega)
   rw [hj] at e1
   clear hc2 hj
   go_upto_region 8 with fail
   refine wp_region_bt (11) (pures_bt [0, 1, 2, 3, 5, 6, 7, 8] (softs_bt [4] (.step 9 (pures_bt [10] (.step 11 .fin))))) (by kernel_rfl) (by kernel_rfl) ?_
   refine bt_pures _ fun K hK => ?_; simp only [pick, nthC]; (repeat go_big_quiet_step (fail)); refine wpQuiet_nil (hK _ ?_); clear hK K
   refine bt_softs _ fun K hK => ?_; simp only [pick, nthC]; (repeat go_big_quiet_step (fail)); refine wpQuiet_nil (hK _ ?_); clear hK K
   refine bt_step fun next hn => ?_; simp only [pick, nthC]
   go_wp2_with fail
   refine (LK.out _ (by repeat first | exact xr _ | refine xa ?_ _ | refine xm ?_ _ _ | refine xd ?_ | refine xn ?_ _ | refine xs ?_ (by simp <;> omega) _)).mono ?_
   rintro e w9 ⟨v, rfl, hx9⟩
   have X9 : Hid (Ext wr w9) := zh (((by repeat first | exact xr _ | refine xa ?_ _ | refine xm ?_ _ _ | refine xd ?_ | refine xn ?_ _ | refine xs ?_ (by simp <;> omega) _) : Ext wr wr.drew).trans hx9)
   clear hx9
   go_wp2_with fail
   refine segQ_mk (fun _ => laid X9.out) (hn _ _ ?_)
   clear hn next
   have M9 := hM.out.ext X9.out
   obtain ⟨f0, f1, f2⟩ := M9.cell (k := j) (by rw [HUL.out]; exact hjl)
   have MS := zh (M9.store j v)
   have XS := zh ((hx.out.trans X9.out).setCell (p := ⟨g, j, none⟩) HGW.out (.int .i64 v))
   have IS := zh ((hI.out.ext X9.out).turn (Turn.set1 g j (.int .i64 v)) (fun k hk he => by have := HGL.out; omega))
   clear M9
   refine bt_pures _ fun K hK => ?_; simp only [pick, nthC]; (repeat go_big_quiet_step (fail)); refine wpQuiet_nil (hK _ ?_); clear hK K
   refine bt_step fun next hn => ?_; simp only [pick, nthC]
   go_wp2_with fail
   refine segQ_mk (fun h => absurd rfl h) (hn _ _ ?_)
   clear hn next
   (refine bt_fin ?_)
   go_wp2_with fail
   go_roundw
   case rel => exact ⟨i + 1, _, by omega, by rw [List.length_set]; exact HUL.out, by go_num, MS, IS, XS⟩
   case measure => simp [intOf]; omega
  ·obtain rfl : i = ls.length := by omega
   have OUT : Hid (IntsLen w ps.length (.returned (.slice (some ⟨g, 0, none⟩) ps.length ps.length)) wr) := zh ⟨us, HUL.out, some ⟨g, 0, none⟩, us.length, by rw [HUL.out], hM.out.own HGW.out (by have := HUL.out; omega), hx.out⟩
   go_wp2_with fail
   go_ret
   exact OUT.out
set_option maxRecDepth 100000 in
set_option maxHeartbeats 2000000 in
theorem marks_any (A : Option Addr) (c : Nat) (ps : List Prt) (k : Nat) (first : Int) (w : World) (h : PS w A c ps) (T : Tree (nds ps)) (hk : k ≤ 1000) :
 Calls Tryz.prog 40 #[.slice A ps.length c, .int .i64 k, .int .i64 first] w fun e w' => ∃ us : List Int, us.length = ps.length ∧ IntsRet w us e w' ∧ (first = -1 → (∀ p ∈ ps, p.nd.met = 0) → us = List.replicate ps.length 3) := by
 have hl := h.few.len
 have hp0 := T.pos
 rw [nds_length] at hp0
 have S := zh h
 have HT := zh T
 have hmk := run_make_row' (P := Tryz.prog) 31 3 (.int .i64 0) 8 Tryz.underlying31 infoInt rfl .i64 .i64 ps.length (by omega) (by omega)
 have hcap := h.cap
 have htop := h.top
 obtain ⟨G, hG⟩ : ∃ G : Prop, (first = -1 ∧ ∀ p ∈ ps, p.nd.met = 0) = G := ⟨_, rfl⟩
 have HGG := zh hG
 clear h T hG
 go_enter Tryz.func40, Tryz.ntmps40
 go_wp2_with fail
 refine (rcheck_ok S.out HT.out).mono ?_
 rintro e w1 ⟨rfl, hx1⟩
 have HX1 := zh hx1
 clear hx1
 go_wp2_with fail
 refine (rstale_any A c ps w1 (S.out.ext HX1.out) HT.out).mono ?_
 rintro e w2 ⟨st, hst, gs, rfl, hms, hgs, hx2⟩
 have HX2 := zh (HX1.out.trans hx2)
 have HST := zh hst
 have HMS := zh hms
 have hsl : st.length = ps.length := by rw [hst.1, nds_length]
 have HSL := zh hsl
 clear hx2 hst hms hgs
 rw [hsl]
 clear hsl
 go_wp2_with fail
 refine (reach_any A c ps k w2 (S.out.ext HX2.out) HT.out hk).mono ?_
 rintro e w3 ⟨rs, hrl, R, cr, rfl, hor, hx3⟩
 have HX3 := zh (HX2.out.trans hx3)
 have HMS3 := zh (HMS.out.ext hx3)
 have HRL := zh hrl
 have HOR := zh hor
 obtain ⟨_, hrc, hrm, _⟩ := hor.ints
 unfold maxLen at hrm
 rw [hrl] at hrc ⊢
 clear hx3 hor hrl HMS
 go_upto_region 5 with fail
 obtain ⟨g, hg⟩ : ∃ g, w3.heap.size = g := ⟨_, rfl⟩
 obtain ⟨W4, hW4⟩ : ∃ V, w3.alloc (.cells (madeCells #[.int .i64 0] ps.length) 3) = V := ⟨_, rfl⟩
 have M4 : Hid (MadeI W4 g (List.replicate ps.length 0)) := zh (by rw [← hW4, ← hg]; exact MadeI.new _ _)
 have X4 : Hid (Ext w W4) := zh (by rw [← hW4]; exact HX3.out.trans (by repeat first | exact xr _ | refine xa ?_ _ | refine xm ?_ _ _ | refine xd ?_ | refine xn ?_ _ | refine xs ?_ (by simp <;> omega) _))
 have MS4 : Hid (MadeB W4 gs st) := zh (by rw [← hW4]; exact HMS3.out.ext (by repeat first | exact xr _ | refine xa ?_ _ | refine xm ?_ _ _ | refine xd ?_ | refine xn ?_ _ | refine xs ?_ (by simp <;> omega) _))
 have R4 : Hid (Ints W4 R rs) := zh (by rw [← hW4]; exact HOR.out.ints.1.ext (by repeat first | exact xr _ | refine xa ?_ _ | refine xm ?_ _ _ | refine xd ?_ | refine xn ?_ _ | refine xs ?_ (by simp <;> omega) _))
 have RO4 : Hid (∀ b off, R = some ⟨b, off, none⟩ → b < g) := zh (fun b off he => by
  subst he
  rw [← hg]
  exact own_old HOR.out b rfl)
 have HGS : Hid (gs < g) := zh (by rw [← hg]; exact lt_of_heap HMS3.out)
 have HGW : Hid (w.heap.size ≤ g) := zh (by rw [← hg]; exact HX3.out.size)
 have hwg : w.heap.size ≤ g := HGW.out
 rw [hg, hW4]
 clear hW4 hmk hg HMS3 HOR
 go_wp2_with fail
 go_loopw [10] (fun v wr => ∃ (i : Nat) (us : List Int), i ≤ ps.length ∧ us.length = ps.length ∧ v = .int .i64 ((i : Int) - 1) ∧ Hid (MadeI wr g us) ∧ Hid (G → ∀ j, i ≤ j → j < ps.length → us[j]? = some 3) ∧ Hid (MadeB wr gs st) ∧ Hid (Ints wr R rs) ∧ Hid (Ext w wr)) (fun v _ => (intOf v + 1).toNat)
 case atStart => exact ⟨ps.length, _, Nat.le_refl _, List.length_replicate, rfl, M4, zh (fun _ j h1 h2 => by omega), MS4, R4, X4⟩
 case round =>
  obtain ⟨i, us, hi, hul, rfl, hM, hA, hB, hR, hx⟩ := hrel
  have HUL := zh hul
  clear hul
  cases i with
  | zero =>
   have OUT : Hid (∃ us : List Int, us.length = ps.length ∧ IntsRet w us (.returned (.slice (some ⟨g, 0, none⟩) ps.length ps.length)) wr ∧ (first = -1 → (∀ p ∈ ps, p.nd.met = 0) → us = List.replicate ps.length 3)) := zh ⟨us, HUL.out, ⟨some ⟨g, 0, none⟩, us.length, by rw [HUL.out], hM.out.own HGW.out (by have := HUL.out; omega), hx.out⟩, fun h1 h2 => by
    have h3 := hA.out (by rw [← HGG.out]; exact ⟨h1, h2⟩)
    apply List.ext_getElem?
    intro j
    rcases Nat.lt_or_ge j ps.length with hj | hj
    ·rw [h3 j (Nat.zero_le _) hj, List.getElem?_replicate, if_pos hj]
    ·rw [List.getElem?_eq_none (by rw [HUL.out]; exact hj), List.getElem?_eq_none (by rw [List.length_replicate]; exact hj)]⟩
   clear hM hA
   go_wp2_with fail
   go_ret
   exact OUT.out
  | succ i =>
   have e0 : (((i + 1 : Nat) : Int) - 1) = (i : Int) := by omega
   rw [e0]
   obtain ⟨p, hp'⟩ : ∃ p, ps[i]? = some p := ⟨_, List.getElem?_eq_getElem (by omega)⟩
   have hil : i < ps.length := by omega
   obtain ⟨b, off, rfl, hb, hcell⟩ := (S.out.ext hx.out).parts (by omega)
   obtain ⟨_, d1, _, _, _, d5, d6, _⟩ := hcell i p hp'
   have HPP := zh hp'
   have HPO := zh (S.out.oks.get hp')
   obtain ⟨y0, hy0⟩ : ∃ y0, us[i]? = some y0 := ⟨_, List.getElem?_eq_getElem (by rw [HUL.out]; exact hil)⟩
   obtain ⟨f0, f1, f2⟩ := hM.out.at hy0
   obtain ⟨v0, hv0⟩ : ∃ v0, st[i]? = some v0 := ⟨_, List.getElem?_eq_getElem (by rw [HSL.out]; exact hil)⟩
   have HV0 := zh hv0
   have MS := zh (hM.out.store i 2)
   have XS := zh (hx.out.setCell (p := ⟨g, i, none⟩) hwg (.int .i64 2))
   have TS := zh (Turn.set1 (w := wr) g i (.int .i64 2))
   have UI : Hid ((us.set i 2)[i]? = some 2) := zh (List.getElem?_set_self (by rw [HUL.out]; exact hil))
   have BS : Hid (MadeB (wr.setCell ⟨g, i, none⟩ (.int .i64 2)) gs st) := zh (TS.out.keep hB.out (by have := HGS.out; omega))
   have RS : Hid (Ints (wr.setCell ⟨g, i, none⟩ (.int .i64 2)) R rs) := zh (hR.out.away TS.out (fun b off he hb => by have := RO4.out b off he; omega))
   clear hcell hp' hM hv0 hy0 d1 d5 d6
   go_upto_region 16 with fail
   obtain ⟨W5, hW5⟩ : ∃ W5, wr.setCell ⟨g, i, none⟩ (.int .i64 2) = W5 := ⟨_, rfl⟩
   rw [hW5] at MS XS BS RS ⊢
   clear hW5 f0 f1 f2 hb hB hR TS
   obtain ⟨f0, f1, f2⟩ := MS.out.at UI.out
   obtain ⟨s0, s1, s2⟩ := BS.out.cell HV0.out
   obtain ⟨b', off', hAA, hb, hcell⟩ := (S.out.ext XS.out).parts (by omega)
   injection hAA with hAA
   injection hAA with ea eb
   subst ea eb
   obtain ⟨_, d1, _, _, _, d5, d6, _⟩ := hcell i p HPP.out
   have MS2 := zh (fun x => MS.out.store i x)
   have UL : Hid (∀ x, ((us.set i 2).set i x).length = ps.length) := zh (fun x => by rw [List.length_set, List.length_set]; exact HUL.out)
   have TS := zh (fun x => Turn.set1 (w := W5) g i (.int .i64 x))
   have XS2 := zh (fun x => XS.out.setCell (p := ⟨g, i, none⟩) hwg (.int .i64 x))
   have BS2 : Hid (∀ x, MadeB (W5.setCell ⟨g, i, none⟩ (.int .i64 x)) gs st) := zh (fun x => (TS.out x).keep BS.out (by have := HGS.out; omega))
   have RS2 : Hid (∀ x, Ints (W5.setCell ⟨g, i, none⟩ (.int .i64 x)) R rs) := zh (fun x => RS.out.away (TS.out x) (fun b off he hb => by have := RO4.out b off he; omega))
   have A3 : Hid (G → ∀ j, i ≤ j → j < ps.length → ((us.set i 2).set i 3)[j]? = some 3) := zh (fun hG j h1 h2 => by
    rw [List.getElem?_set, List.length_set]
    by_cases hij : i = j
    ·rw [if_pos hij, if_pos (by rw [HUL.out]; exact hil)]
    ·rw [if_neg hij, List.getElem?_set_ne hij]
     exact hA.out hG j (by omega) h2)
   have UL5 : Hid ((us.set i 2).length = ps.length) := zh (by rw [List.length_set]; exact HUL.out)
   have GST : Hid (G → v0 = false) := zh (fun hG => by
    rw [← HGG.out] at hG
    have := StaleOk.none HT.out HST.out (fun q hq => by
     obtain ⟨pr, hpr, rfl⟩ := List.mem_map.1 hq
     exact hG.2 pr hpr) i (by rw [nds_length]; exact hil)
    rw [HV0.out] at this
    injection this)
   clear hcell
   cases v0 with
   | true =>
    have NG : Hid (¬ G) := zh (fun hG => by have := GST.out hG; cases this)
    clear GST d1 d5 d6 hb
    go_wp2_with fail
    go_roundw
    case rel => exact ⟨i, _, by omega, UL.out 1, by go_num, MS2.out 1, zh (fun hG => absurd hG NG.out), BS2.out 1, RS2.out 1, XS2.out 1⟩
    case measure => simp [intOf]
   | false =>
    clear GST
    by_cases hk12 : p.nd.kind ≠ 1 ∧ p.nd.kind ≠ 2
    ·have m1 : (p.nd.kind != 1) = true := by simpa using hk12.1
     have m2 : (p.nd.kind != 2) = true := by simpa using hk12.2
     have m3 : decide (p.nd.kind = 1) = false := decide_eq_false hk12.1
     have m4 : decide (p.nd.kind = 2) = false := decide_eq_false hk12.2
     clear hk12
     clear d5 d6
     by_cases h1 : first = -1
     ·go_wp2_with fail
      go_roundw
      case rel => exact ⟨i, _, by omega, UL.out 3, by go_num, MS2.out 3, A3, BS2.out 3, RS2.out 3, XS2.out 3⟩
      case measure => simp [intOf]
     ·obtain ⟨bR, oR, hRR, hbR, hcR⟩ := RS.out (by rw [HRL.out]; omega)
      subst hRR
      obtain ⟨z, hz⟩ : ∃ z, rs[i]? = some z := ⟨_, List.getElem?_eq_getElem (by rw [HRL.out]; exact hil)⟩
      have r1 := hcR i (by rw [HRL.out]; exact hil)
      rw [List.getD_eq_getElem?_getD, hz] at r1
      dsimp only [Option.getD_some] at r1
      have NG : Hid (¬ G) := zh (fun hG => by rw [← HGG.out] at hG; exact h1 hG.1)
      have q0 : decide (first = -1) = false := decide_eq_false h1
      clear hcR hz
      by_cases h2 : z ≤ first
      ·go_wp2_with fail
       go_roundw
       case rel => exact ⟨i, _, by omega, UL.out 3, by go_num, MS2.out 3, A3, BS2.out 3, RS2.out 3, XS2.out 3⟩
       case measure => simp [intOf]
      ·go_wp2_with fail
       go_roundw
       case rel => exact ⟨i, _, by omega, UL5.out, by go_num, MS, zh (fun hG => absurd hG NG.out), BS, RS, XS⟩
       case measure => simp [intOf]
    ·have LF : Hid (p.nd.kind = 1 ∨ p.nd.kind = 2) := zh (by omega)
     clear hk12
     have hko1 := HPO.out.cap
     have hko2 := HPO.out.top
     have HG1 : Hid (G → first = -1) := zh (fun hG => by rw [← HGG.out] at hG; exact hG.1)
     have HA : Hid (G → ∀ j, i + 1 ≤ j → j < ps.length → us[j]? = some 3) := zh hA.out
     clear hA
     rcases LF.out with hk | hk
     all_goals
      rw [hk] at d1
      clear hk
      by_cases h1 : first = -1
      ·have q0 : decide (first = -1) = true := decide_eq_true h1
       have q1 : (first == -1) = true := by simpa using h1
       clear HG1 h1
       go_upto_region 11 with fail
       go_loopw [11, 12] (fun av nv wr => ∃ (n : Nat) (bl : Bool), n ≤ p.nd.kids.length ∧ nv = .int .i64 n ∧ av = .bool bl ∧ Hid (G → bl = true) ∧ Hid (MadeI wr g (us.set i 2)) ∧ Hid (MadeB wr gs st) ∧ Hid (Ints wr R rs) ∧ Hid (Ext w wr)) (fun _ nv _ => p.nd.kids.length - (intOf nv).toNat)
       case atStart => exact ⟨0, _, Nat.zero_le _, rfl, rfl, zh (fun _ => rfl), MS, BS, RS, XS⟩
       case round =>
        clear MS BS RS XS MS2 TS XS2 BS2 RS2
        obtain ⟨n, bl, hn, rfl, rfl, hbl, MS, BS, RS, XS⟩ := hrel
        obtain ⟨b', off', hAA, hb, hcell⟩ := (S.out.ext XS.out).parts (by omega)
        injection hAA with hAA
        injection hAA with ea eb
        subst ea eb
        have d6 := (hcell i p HPP.out).2.2.2.2.2.2.1
        clear hcell
        by_cases hlt : n < p.nd.kids.length
        ·cases bl with
         | false =>
          go_wp2_with fail
          go_roundw
          case rel => exact ⟨n + 1, false, by omega, by go_num, rfl, hbl, MS, BS, RS, XS⟩
          case measure => simp [intOf]; omega
         | true =>
          obtain ⟨x, hxk⟩ : ∃ x, p.nd.kids[n]? = some x := ⟨_, List.getElem?_eq_getElem hlt⟩
          obtain ⟨cn, rfl, hc1, hc2⟩ := HT.out.kid_behind (nds_get HPP.out) x (List.mem_of_getElem? hxk)
          rw [nds_length] at hc2
          obtain ⟨bk, offk, hkA, hbk, hck⟩ := (HPO.out.ext XS.out).kids (by omega)
          have e1 := hck n hlt
          rw [List.getD_eq_getElem?_getD, hxk] at e1
          dsimp only [Option.getD_some] at e1
          obtain ⟨y, hy⟩ : ∃ y, us[cn]? = some y := ⟨_, List.getElem?_eq_getElem (by rw [HUL.out]; exact hc2)⟩
          have hy2 : (us.set i 2)[cn]? = some y := by rw [List.getElem?_set_ne (by omega)]; exact hy
          obtain ⟨g0, g1, g2⟩ := MS.out.at hy2
          have HY : Hid (G → y = 3) := zh (fun hG => by have := HA.out hG cn (by omega) hc2; rw [hy] at this; injection this)
          rw [hkA] at d6
          clear hck hxk hkA hy hy2
          by_cases h3 : y = 3
          ·subst h3
           go_wp2_with fail
           go_roundw
           case rel => exact ⟨n + 1, true, by omega, by go_num, rfl, zh (fun _ => rfl), MS, BS, RS, XS⟩
           case measure => simp [intOf]; omega
          ·have h33 : decide (y = 3) = false := decide_eq_false h3
           go_wp2_with fail
           go_roundw
           case rel => exact ⟨n + 1, false, by omega, by go_num, by first | rfl | simp [h3], zh (fun hG => absurd (HY.out hG) h3), MS, BS, RS, XS⟩
           case measure => simp [intOf]; omega
        ·obtain rfl : n = p.nd.kids.length := by omega
         cases bl with
         | true =>
          obtain ⟨f0, f1, f2⟩ := MS.out.at UI.out
          have MS2 := zh (MS.out.store i 3)
          have TS := zh (Turn.set1 (w := wr) g i (.int .i64 3))
          have XS2 := zh (XS.out.setCell (p := ⟨g, i, none⟩) hwg (.int .i64 3))
          have BS2 : Hid (MadeB (wr.setCell ⟨g, i, none⟩ (.int .i64 3)) gs st) := zh (TS.out.keep BS.out (by have := HGS.out; omega))
          have RS2 : Hid (Ints (wr.setCell ⟨g, i, none⟩ (.int .i64 3)) R rs) := zh (RS.out.away TS.out (fun b off he hb => by have := RO4.out b off he; omega))
          clear TS
          go_wp2_with fail
          go_roundw
          case rel => first | exact ⟨i, _, by omega, UL.out 3, by go_num, MS2, A3, BS2, RS2, XS2⟩ | ((repeat apply Exists.intro); exact ⟨⟨i, _, by omega, UL.out 3, by go_num, MS2, A3, BS2, RS2, XS2⟩, rfl⟩)
          case measure => simp [intOf]
         | false =>
          have NG : Hid (¬ G) := zh (fun hG => by have := hbl.out hG; cases this)
          have A0 : Hid (G → ∀ j, i ≤ j → j < ps.length → (us.set i 2)[j]? = some 3) := zh (fun hG => absurd hG NG.out)
          go_wp2_with fail
          go_roundw
          case rel => first | exact ⟨i, _, by omega, UL5.out, by go_num, MS, A0, BS, RS, XS⟩ | ((repeat apply Exists.intro); exact ⟨⟨i, _, by omega, UL5.out, by go_num, MS, A0, BS, RS, XS⟩, rfl⟩)
          case measure => simp [intOf]
      ·have NG0 : Hid (¬ G) := zh (fun hG => h1 (HG1.out hG))
       by_cases h2 : p.nd.look ≤ first
       ·have q0 : decide (first = -1) = false := decide_eq_false h1
        have q1 : (first == -1) = false := by simpa using h1
        clear HG1 h1
        go_upto_region 11 with fail
        go_loopw [11, 12] (fun av nv wr => ∃ (n : Nat) (bl : Bool), n ≤ p.nd.kids.length ∧ nv = .int .i64 n ∧ av = .bool bl ∧ Hid (G → bl = true) ∧ Hid (MadeI wr g (us.set i 2)) ∧ Hid (MadeB wr gs st) ∧ Hid (Ints wr R rs) ∧ Hid (Ext w wr)) (fun _ nv _ => p.nd.kids.length - (intOf nv).toNat)
        case atStart => exact ⟨0, _, Nat.zero_le _, rfl, rfl, zh (fun hG => absurd hG NG0.out), MS, BS, RS, XS⟩
        case round =>
         clear MS BS RS XS MS2 TS XS2 BS2 RS2
         obtain ⟨n, bl, hn, rfl, rfl, hbl, MS, BS, RS, XS⟩ := hrel
         obtain ⟨b', off', hAA, hb, hcell⟩ := (S.out.ext XS.out).parts (by omega)
         injection hAA with hAA
         injection hAA with ea eb
         subst ea eb
         have d6 := (hcell i p HPP.out).2.2.2.2.2.2.1
         clear hcell
         by_cases hlt : n < p.nd.kids.length
         ·cases bl with
          | false =>
           go_wp2_with fail
           go_roundw
           case rel => exact ⟨n + 1, false, by omega, by go_num, rfl, hbl, MS, BS, RS, XS⟩
           case measure => simp [intOf]; omega
          | true =>
           obtain ⟨x, hxk⟩ : ∃ x, p.nd.kids[n]? = some x := ⟨_, List.getElem?_eq_getElem hlt⟩
           obtain ⟨cn, rfl, hc1, hc2⟩ := HT.out.kid_behind (nds_get HPP.out) x (List.mem_of_getElem? hxk)
           rw [nds_length] at hc2
           obtain ⟨bk, offk, hkA, hbk, hck⟩ := (HPO.out.ext XS.out).kids (by omega)
           have e1 := hck n hlt
           rw [List.getD_eq_getElem?_getD, hxk] at e1
           dsimp only [Option.getD_some] at e1
           obtain ⟨y, hy⟩ : ∃ y, us[cn]? = some y := ⟨_, List.getElem?_eq_getElem (by rw [HUL.out]; exact hc2)⟩
           have hy2 : (us.set i 2)[cn]? = some y := by rw [List.getElem?_set_ne (by omega)]; exact hy
           obtain ⟨g0, g1, g2⟩ := MS.out.at hy2
           have HY : Hid (G → y = 3) := zh (fun hG => by have := HA.out hG cn (by omega) hc2; rw [hy] at this; injection this)
           rw [hkA] at d6
           clear hck hxk hkA hy hy2
           by_cases h3 : y = 3
           ·subst h3
            go_wp2_with fail
            go_roundw
            case rel => exact ⟨n + 1, true, by omega, by go_num, rfl, zh (fun _ => rfl), MS, BS, RS, XS⟩
            case measure => simp [intOf]; omega
           ·have h33 : decide (y = 3) = false := decide_eq_false h3
            go_wp2_with fail
            go_roundw
            case rel => exact ⟨n + 1, false, by omega, by go_num, by first | rfl | simp [h3], zh (fun hG => absurd (HY.out hG) h3), MS, BS, RS, XS⟩
            case measure => simp [intOf]; omega
         ·obtain rfl : n = p.nd.kids.length := by omega
          cases bl with
          | true =>
           obtain ⟨f0, f1, f2⟩ := MS.out.at UI.out
           have MS2 := zh (MS.out.store i 3)
           have TS := zh (Turn.set1 (w := wr) g i (.int .i64 3))
           have XS2 := zh (XS.out.setCell (p := ⟨g, i, none⟩) hwg (.int .i64 3))
           have BS2 : Hid (MadeB (wr.setCell ⟨g, i, none⟩ (.int .i64 3)) gs st) := zh (TS.out.keep BS.out (by have := HGS.out; omega))
           have RS2 : Hid (Ints (wr.setCell ⟨g, i, none⟩ (.int .i64 3)) R rs) := zh (RS.out.away TS.out (fun b off he hb => by have := RO4.out b off he; omega))
           clear TS
           go_wp2_with fail
           go_roundw
           case rel => first | exact ⟨i, _, by omega, UL.out 3, by go_num, MS2, A3, BS2, RS2, XS2⟩ | ((repeat apply Exists.intro); exact ⟨⟨i, _, by omega, UL.out 3, by go_num, MS2, A3, BS2, RS2, XS2⟩, rfl⟩)
           case measure => simp [intOf]
          | false =>
           have NG : Hid (¬ G) := zh (fun hG => by have := hbl.out hG; cases this)
           have A0 : Hid (G → ∀ j, i ≤ j → j < ps.length → (us.set i 2)[j]? = some 3) := zh (fun hG => absurd hG NG.out)
           go_wp2_with fail
           go_roundw
           case rel => first | exact ⟨i, _, by omega, UL5.out, by go_num, MS, A0, BS, RS, XS⟩ | ((repeat apply Exists.intro); exact ⟨⟨i, _, by omega, UL5.out, by go_num, MS, A0, BS, RS, XS⟩, rfl⟩)
           case measure => simp [intOf]
       ·have q0 : decide (first = -1) = false := decide_eq_false h1
        have q1 : (first == -1) = false := by simpa using h1
        clear HG1 h1
        go_upto_region 11 with fail
        go_loopw [11, 12] (fun av nv wr => ∃ (n : Nat) (bl : Bool), n ≤ p.nd.kids.length ∧ nv = .int .i64 n ∧ av = .bool bl ∧ Hid (G → bl = true) ∧ Hid (MadeI wr g (us.set i 2)) ∧ Hid (MadeB wr gs st) ∧ Hid (Ints wr R rs) ∧ Hid (Ext w wr)) (fun _ nv _ => p.nd.kids.length - (intOf nv).toNat)
        case atStart => exact ⟨0, _, Nat.zero_le _, rfl, rfl, zh (fun hG => absurd hG NG0.out), MS, BS, RS, XS⟩
        case round =>
         clear MS BS RS XS MS2 TS XS2 BS2 RS2
         obtain ⟨n, bl, hn, rfl, rfl, hbl, MS, BS, RS, XS⟩ := hrel
         obtain ⟨b', off', hAA, hb, hcell⟩ := (S.out.ext XS.out).parts (by omega)
         injection hAA with hAA
         injection hAA with ea eb
         subst ea eb
         have d6 := (hcell i p HPP.out).2.2.2.2.2.2.1
         clear hcell
         by_cases hlt : n < p.nd.kids.length
         ·cases bl with
          | false =>
           go_wp2_with fail
           go_roundw
           case rel => exact ⟨n + 1, false, by omega, by go_num, rfl, hbl, MS, BS, RS, XS⟩
           case measure => simp [intOf]; omega
          | true =>
           obtain ⟨x, hxk⟩ : ∃ x, p.nd.kids[n]? = some x := ⟨_, List.getElem?_eq_getElem hlt⟩
           obtain ⟨cn, rfl, hc1, hc2⟩ := HT.out.kid_behind (nds_get HPP.out) x (List.mem_of_getElem? hxk)
           rw [nds_length] at hc2
           obtain ⟨bk, offk, hkA, hbk, hck⟩ := (HPO.out.ext XS.out).kids (by omega)
           have e1 := hck n hlt
           rw [List.getD_eq_getElem?_getD, hxk] at e1
           dsimp only [Option.getD_some] at e1
           obtain ⟨y, hy⟩ : ∃ y, us[cn]? = some y := ⟨_, List.getElem?_eq_getElem (by rw [HUL.out]; exact hc2)⟩
           have hy2 : (us.set i 2)[cn]? = some y := by rw [List.getElem?_set_ne (by omega)]; exact hy
           obtain ⟨g0, g1, g2⟩ := MS.out.at hy2
           have HY : Hid (G → y = 3) := zh (fun hG => by have := HA.out hG cn (by omega) hc2; rw [hy] at this; injection this)
           rw [hkA] at d6
           clear hck hxk hkA hy hy2
           by_cases h3 : y = 3
           ·subst h3
            go_wp2_with fail
            go_roundw
            case rel => exact ⟨n + 1, true, by omega, by go_num, rfl, zh (fun _ => rfl), MS, BS, RS, XS⟩
            case measure => simp [intOf]; omega
           ·have h33 : decide (y = 3) = false := decide_eq_false h3
            go_wp2_with fail
            go_roundw
            case rel => exact ⟨n + 1, false, by omega, by go_num, by first | rfl | simp [h3], zh (fun hG => absurd (HY.out hG) h3), MS, BS, RS, XS⟩
            case measure => simp [intOf]; omega
         ·obtain rfl : n = p.nd.kids.length := by omega
          cases bl with
          | true =>
           obtain ⟨f0, f1, f2⟩ := MS.out.at UI.out
           have MS2 := zh (MS.out.store i 3)
           have TS := zh (Turn.set1 (w := wr) g i (.int .i64 3))
           have XS2 := zh (XS.out.setCell (p := ⟨g, i, none⟩) hwg (.int .i64 3))
           have BS2 : Hid (MadeB (wr.setCell ⟨g, i, none⟩ (.int .i64 3)) gs st) := zh (TS.out.keep BS.out (by have := HGS.out; omega))
           have RS2 : Hid (Ints (wr.setCell ⟨g, i, none⟩ (.int .i64 3)) R rs) := zh (RS.out.away TS.out (fun b off he hb => by have := RO4.out b off he; omega))
           clear TS
           go_wp2_with fail
           go_roundw
           case rel => first | exact ⟨i, _, by omega, UL.out 3, by go_num, MS2, A3, BS2, RS2, XS2⟩ | ((repeat apply Exists.intro); exact ⟨⟨i, _, by omega, UL.out 3, by go_num, MS2, A3, BS2, RS2, XS2⟩, rfl⟩)
           case measure => simp [intOf]
          | false =>
           have NG : Hid (¬ G) := zh (fun hG => by have := hbl.out hG; cases this)
           have A0 : Hid (G → ∀ j, i ≤ j → j < ps.length → (us.set i 2)[j]? = some 3) := zh (fun hG => absurd hG NG.out)
           go_wp2_with fail
           go_roundw
           case rel => first | exact ⟨i, _, by omega, UL5.out, by go_num, MS, A0, BS, RS, XS⟩ | ((repeat apply Exists.intro); exact ⟨⟨i, _, by omega, UL5.out, by go_num, MS, A0, BS, RS, XS⟩, rfl⟩)
           case measure => simp [intOf]
def pnV (p : Pn) : Value := .agg #[.int .i64 p.lo, .int .i64 p.hi, .int .i64 p.st, .int .i64 p.mr]
theorem pn_length (ps : List Pn) : (pn ps).length = ps.length * 4 := by
 induction ps with
 | nil => rfl
 | cons p ps ih => simp only [pn, List.flatMap_cons, List.length_append, List.length_cons] at *; rw [ih]; simp [pnC]; omega
theorem pn_append (ps qs : List Pn) : pn (ps ++ qs) = pn ps ++ pn qs := List.flatMap_append
theorem pn_get : ∀ {ps : List Pn} {k : Nat} {p : Pn} (r : Nat), ps[k]? = some p → r < 4 → (pn ps)[k * 4 + r]? = (pnC p)[r]?
 | [], k, p, r, h, _ => by simp at h
 | q :: ps, 0, p, r, h, hr => by
  simp at h
  subst h
  simp only [pn, List.flatMap_cons, Nat.zero_mul, Nat.zero_add]
  rw [List.getElem?_append_left (by simp [pnC]; omega)]
 | q :: ps, k + 1, p, r, h, hr => by
  simp only [pn, List.flatMap_cons]
  rw [List.getElem?_append_right (by simp [pnC]; omega)]
  have := pn_get (ps := ps) (k := k) r (by simpa using h) hr
  rw [← this]
  congr 1
  simp [pnC]
  omega
theorem pn_one (ps : List Pn) : ∀ u ∈ pn ps, u.oneCell' = true := by
 intro u hu
 obtain ⟨x, _, hx⟩ := List.mem_flatMap.1 hu
 simp only [pnC, List.mem_cons, List.not_mem_nil, or_false] at hx
 rcases hx with rfl | rfl | rfl | rfl <;> rfl
def Pns (w : World) (A : Option Addr) (ps : List Pn) : Prop :=
 0 < ps.length → ∃ b off, A = some ⟨b, off, none⟩ ∧ b < w.heap.size ∧ ∀ k p, ps[k]? = some p →
  w.cell? ⟨b, off + k * 4, none⟩ = some (.int .i64 p.lo) ∧ w.cell? ⟨b, off + k * 4 + 1, none⟩ = some (.int .i64 p.hi) ∧ w.cell? ⟨b, off + k * 4 + 2, none⟩ = some (.int .i64 p.st) ∧ w.cell? ⟨b, off + k * 4 + 3, none⟩ = some (.int .i64 p.mr)
theorem Pns.of_cells {w : World} {A : Option Addr} {ps : List Pn} (h : CellsAt w A (pn ps)) : Pns w A ps := fun h0 => by
 obtain ⟨b, off, hA, hb, hc⟩ := h (by rw [pn_length]; omega)
 refine ⟨b, off, hA, hb, fun k p hk => ?_⟩
 have key : ∀ r v, r < 4 → (pnC p)[r]? = some v → w.cell? ⟨b, off + k * 4 + r, none⟩ = some v := fun r v hr hv => by
  have := hc (k * 4 + r) v ((pn_get r hk hr).trans hv)
  rwa [← Nat.add_assoc] at this
 exact ⟨by have := key 0 _ (by omega) rfl; simpa using this, key 1 _ (by omega) rfl, key 2 _ (by omega) rfl, key 3 _ (by omega) rfl⟩
theorem Pns.to_cells {w : World} {A : Option Addr} {ps : List Pn} (h : Pns w A ps) : CellsAt w A (pn ps) := fun h0 => by
 obtain ⟨b, off, hA, hb, hc⟩ := h (by rw [pn_length] at h0; omega)
 refine ⟨b, off, hA, hb, fun k v hk => ?_⟩
 have hlt := (List.getElem?_eq_some_iff.1 hk).1
 rw [pn_length] at hlt
 obtain ⟨p, hp⟩ : ∃ p, ps[k / 4]? = some p := ⟨_, List.getElem?_eq_getElem (by omega)⟩
 have hr : k % 4 < 4 := Nat.mod_lt _ (by omega)
 have hkk : k / 4 * 4 + k % 4 = k := by omega
 have hg := pn_get (k % 4) hp hr
 rw [hkk, hk] at hg
 obtain ⟨c0, c1, c2, c3⟩ := hc _ p hp
 rcases (show k % 4 = 0 ∨ k % 4 = 1 ∨ k % 4 = 2 ∨ k % 4 = 3 by omega) with e | e | e | e
 all_goals
  rw [e] at hg hkk
  simp [pnC] at hg
  subst hg
  rw [← hkk]
 ·exact c0
 ·rw [← Nat.add_assoc]; exact c1
 ·rw [← Nat.add_assoc]; exact c2
 ·rw [← Nat.add_assoc]; exact c3
theorem Pns.below {w w' : World} {A : Option Addr} {ps : List Pn} (h : Pns w A ps) (e : Below w.heap.size w w') : Pns w' A ps := fun h0 => by
 obtain ⟨b, off, hA, hb, hc⟩ := h h0
 refine ⟨b, off, hA, Nat.lt_of_lt_of_le hb e.size, fun k p hk => ?_⟩
 obtain ⟨c0, c1, c2, c3⟩ := hc k p hk
 exact ⟨(e.cell (p := ⟨b, off + k * 4, none⟩) hb).trans c0, (e.cell (p := ⟨b, off + k * 4 + 1, none⟩) hb).trans c1, (e.cell (p := ⟨b, off + k * 4 + 2, none⟩) hb).trans c2, (e.cell (p := ⟨b, off + k * 4 + 3, none⟩) hb).trans c3⟩
theorem Pns.ext {w w' : World} {A : Option Addr} {ps : List Pn} (h : Pns w A ps) (e : Ext w w') : Pns w' A ps := h.below e.below
def RowPn (w : World) (base : Nat) (v : Value) (ps : List Pn) : Prop := w.ownsRow base 73 4 v ps.length (pn ps)
theorem RowPn.ext {w w' : World} {base : Nat} {v : Value} {ps : List Pn} (h : RowPn w base v ps) (e : Ext w w') : RowPn w' base v ps := own_ext h e
theorem RowPn.nil (w : World) (base : Nat) : RowPn w base (.slice none 0 0) [] := World.ownsRow_nil _ _ _ _
theorem RowPn.read {w : World} {base : Nat} {v : Value} {ps : List Pn} (h : RowPn w base v ps) : ∃ A c, v = .slice A ps.length c ∧ Pns w A ps ∧ ps.length ≤ c ∧ c ≤ maxLen ∧ (A = none → c = 0) := by
 obtain ⟨A, c, hv, hc, h1, h2, h3⟩ := own_cells h
 exact ⟨A, c, hv, Pns.of_cells hc, h1, h2, h3⟩
theorem pn_set : ∀ {qs : List Pn} {i : Nat} {q q' : Pn}, qs[i]? = some q → pn (qs.set i q') = ((((pn qs).set (i * 4) (.int .i64 q'.lo)).set (i * 4 + 1) (.int .i64 q'.hi)).set (i * 4 + 2) (.int .i64 q'.st)).set (i * 4 + 3) (.int .i64 q'.mr)
 | [], i, q, q', h => by simp at h
 | p :: qs, 0, q, q', h => by simp [pn, pnC]
 | p :: qs, i + 1, q, q', h => by
  have ih := pn_set (qs := qs) (i := i) (q := q) (q' := q') (by simpa using h)
  simp only [List.set_cons_succ]
  have e : pn (p :: qs.set i q') = pnC p ++ pn (qs.set i q') := by simp [pn]
  have e2 : pn (p :: qs) = pnC p ++ pn qs := by simp [pn]
  have hl : ∀ r, (i + 1) * 4 + r = (pnC p).length + (i * 4 + r) := fun r => by simp [pnC]; omega
  have hl0 : (i + 1) * 4 = (pnC p).length + i * 4 := by simp [pnC]; omega
  rw [e, e2, ih, hl0, Nat.add_assoc, Nat.add_assoc, Nat.add_assoc]
  rw [List.set_append_right _ _ (Nat.le_add_right ..), List.set_append_right _ _ (Nat.le_add_right ..), List.set_append_right _ _ (Nat.le_add_right ..), List.set_append_right _ _ (Nat.le_add_right ..)]
  simp only [Nat.add_sub_cancel_left]
def put4p (w : World) (b k : Nat) (p : Pn) : World := (((w.setCell ⟨b, k, none⟩ (.int .i64 p.lo)).setCell ⟨b, k + 1, none⟩ (.int .i64 p.hi)).setCell ⟨b, k + 2, none⟩ (.int .i64 p.st)).setCell ⟨b, k + 3, none⟩ (.int .i64 p.mr)
theorem RowPn.store {w : World} {base g n c i : Nat} {ps : List Pn} {q q' : Pn} (h : RowPn w base (.slice (some ⟨g, 0, none⟩) n c) ps) (hi : ps[i]? = some q) : RowPn (put4p w g (i * 4) q') base (.slice (some ⟨g, 0, none⟩) n c) (ps.set i q') := by
 obtain ⟨h1, h2⟩ := h
 refine ⟨by rw [pn_length, List.length_set], ?_⟩
 rcases h2 with ⟨h2, _⟩ | ⟨g', cap, cur, h2, h3, h4, h5, h6, h7, h8⟩
 ·cases h2
 ·injection h2 with a1 a2 a3
  injection a1 with a1
  injection a1 with a1
  subst a1 a3
  refine .inr ⟨g, c, (((cur.setIfInBounds (i * 4) (.int .i64 q'.lo)).setIfInBounds (i * 4 + 1) (.int .i64 q'.hi)).setIfInBounds (i * 4 + 2) (.int .i64 q'.st)).setIfInBounds (i * 4 + 3) (.int .i64 q'.mr), by rw [a2, List.length_set], h3, by simp [put4p, World.setCell, Array.getElem?_modify, h4], by rw [List.length_set]; exact h5, h6, by simp only [Array.size_setIfInBounds]; exact h7, ?_⟩
  simp only [Array.toList_setIfInBounds, List.take_set]
  rw [pn_set hi, List.length_set, ← h8]
theorem infoPaint : (Tryz.prog.info? 73).map (fun i => (i.zero, i.size, i.bytes)) = some (some (.agg #[.int .i64 0, .int .i64 0, .int .i64 0, .int .i64 0]), 4, 32) := by kernel_rfl
theorem app_paint (w0 : World) {w : World} {ops : Array Oper} {rest : List Oper} {o : Oper} {a : Act} {Q : Exit → Act → World → Prop} (hw : Region.wanted o (yielded ops a.tmps) = true) (s x : Operand)
 (ho : o.op = .call { callee := .builtin .append, args := #[s, x], argTypes := #[69, 69] }) {ps qs : List Pn} {v : Value} (hr : RowPn w w0.heap.size v ps) {A : Option Addr} {c : Nat}
 (hs : a.eval s = v) (hx : a.eval x = .slice A qs.length c) (hA : A = none → c = 0) (hc : Pns w A qs) (hlen : ps.length ≤ 1000000) (hlen2 : qs.length ≤ 1000000) (hext : w0.heap.size ≤ w.heap.size)
 (h : ∀ v' w', RowPn w' w0.heap.size v' (ps ++ qs) → w.grownBy w' v.ownBlock → (v'.ownBlock = v.ownBlock ∨ v'.ownBlock = some w.heap.size) → wpList Tryz.prog ops Q rest (a.put o.dst v') w') : wpList Tryz.prog ops Q (o :: rest) a w := by
 obtain ⟨i3, hi, hz0, hz1, hz2⟩ := info_parts infoPaint
 refine wpList_append_cells w hw s x 69 ho w0.heap.size 73 i3 _ 4 32 Tryz.underlying69 hi hz0 hz1 hz2 rfl (by omega) v ps.length (pn ps) hs hr A qs.length c (pn qs) hx hA (pn_length _)
  hc.to_cells (pn_one _) (by unfold maxLen; omega) (by omega) hext fun v' w' h2 h3 h4 => ?_
 exact h v' w' (by unfold RowPn; rw [pn_append, List.length_append]; exact h2) h3 h4
def alikeB (a b : Pn) : Bool := decide (a.hi = b.lo) && decide (a.st = b.st) && decide (a.mr = b.mr)
theorem pn_cells {V : World} {b : Nat} {p : Pn} {T : TypeId} (h : V.heap[b]? = some (.cells #[.int .i64 p.lo, .int .i64 p.hi, .int .i64 p.st, .int .i64 p.mr] T)) :
 V.cell? ⟨b, 0, none⟩ = some (.int .i64 p.lo) ∧ V.cell? ⟨b, 1, none⟩ = some (.int .i64 p.hi) ∧ V.cell? ⟨b, 2, none⟩ = some (.int .i64 p.st) ∧ V.cell? ⟨b, 3, none⟩ = some (.int .i64 p.mr) ∧ b < V.heap.size :=
 ⟨by simpa using cell_of_row _ _ 0 _ _ _ h, by simpa using cell_of_row _ _ 1 _ _ _ h, by simpa using cell_of_row _ _ 2 _ _ _ h, by simpa using cell_of_row _ _ 3 _ _ _ h, lt_of_heap h⟩
set_option maxRecDepth 100000 in
set_option maxHeartbeats 1000000 in
theorem alike_any28 (a b : Pn) (w : World) : Calls Tryz.prog 87 #[pnV a, pnV b] w fun e w' => e = .returned (.bool (alikeB a b)) ∧ Ext w w' := by
 obtain ⟨a0, a1, a2, a3⟩ := a
 obtain ⟨b0, b1, b2, b3⟩ := b
 unfold pnV alikeB
 dsimp only
 obtain ⟨R, hR⟩ : ∃ R, (decide (a1 = b0) && decide (a2 = b2) && decide (a3 = b3)) = R := ⟨_, rfl⟩
 have HR := zh hR
 rw [hR]
 clear hR
 go_enter Tryz.func87, Tryz.ntmps87
 go_wp2_with fail
 all_goals go_ret
 all_goals exact ⟨ret_bool (by rw [← HR.out, Bool.eq_iff_iff]; simp [*]), (by repeat first | exact xr _ | refine xa ?_ _ | refine xm ?_ _ _ | refine xd ?_ | refine xn ?_ _ | refine xs ?_ (by simp <;> omega) _)⟩
set_option maxRecDepth 100000 in
set_option maxHeartbeats 1000000 in
theorem one_any28 (a b : Pn) (w : World) : Calls Tryz.prog 88 #[pnV a, pnV b] w fun e w' => e = .returned (pnV { a with hi := b.hi }) ∧ Ext w w' := by
 obtain ⟨a0, a1, a2, a3⟩ := a
 obtain ⟨b0, b1, b2, b3⟩ := b
 unfold pnV
 dsimp only
 go_enter Tryz.func88, Tryz.ntmps88
 go_wp2_with fail
 refine bodyPost_ret (v := .agg #[.int .i64 a0, .int .i64 b1, .int .i64 a2, .int .i64 a3]) (by simp [results, Tryz.results88, go_sem, *]) rfl ⟨rfl, ?_⟩
 exact (by repeat first | exact xr _ | refine xa ?_ _ | refine xm ?_ _ _ | refine xd ?_ | refine xn ?_ _ | refine xs ?_ (by simp <;> omega) _)
set_option maxRecDepth 100000 in
theorem run_neq_paint (w : World) (a0 a1 a2 a3 b0 b1 b2 b3 : Int) : (binOp .neq 73 (.agg #[.int .i64 a0, .int .i64 a1, .int .i64 a2, .int .i64 a3]) (.agg #[.int .i64 b0, .int .i64 b1, .int .i64 b2, .int .i64 b3])).run Tryz.prog w = .ok (.bool (decide ((⟨a0, a1, a2, a3⟩ : Pn) ≠ ⟨b0, b1, b2, b3⟩))) w := by
 rw [run_neq_struct, show (10000 : Nat) = 9999 + 1 from rfl, run_equalIn_struct _ _ _ _ _ (by kernel_rfl) (by kernel_rfl)]
 have hi := fun (w : World) (d : Nat) (a b : Int) => run_equalIn_int (P := Tryz.prog) w d 3 .i64 .i64 a b Tryz.underlying3
 rw [show (9999 : Nat) = 9998 + 1 from rfl]
 by_cases h0 : a0 = b0 <;> by_cases h1 : a1 = b1 <;> by_cases h2 : a2 = b2 <;> by_cases h3 : a3 = b3
 all_goals simp [Program.fieldsOf, Tryz.underlying73, Op.eqFields, part, go_sem, hi, h0, h1, h2, h3]
set_option maxRecDepth 100000 in
set_option maxHeartbeats 2000000 in
theorem same_any28 (A B : Option Addr) (ps qs : List Pn) (c d : Nat) (w : World) (hP : Pns w A ps) (hQ : Pns w B qs) (bx : ps.length ≤ 1000000) (by' : qs.length ≤ 1000000) :
 Calls Tryz.prog 46 #[.slice A ps.length c, .slice B qs.length d] w fun e w' => e = .returned (.bool (decide (ps = qs))) ∧ Ext w w' := by
 have HP := zh hP
 have HQ := zh hQ
 clear hP hQ
 by_cases hl : ps.length = qs.length
 ·have HL := zh hl
  rw [← hl]
  clear hl
  go_enter Tryz.func46, Tryz.ntmps46
  go_wp2_with fail
  go_loopw [5] (fun v wr => ∃ j : Nat, j ≤ ps.length ∧ v = .int .i64 j ∧ Hid (ps.take j = qs.take j) ∧ Hid (Ext w wr)) (fun v _ => ps.length - (intOf v).toNat)
  case atStart => exact ⟨0, Nat.zero_le _, rfl, zh rfl, zh (Ext.refl _)⟩
  case round =>
   obtain ⟨j, hj, rfl, he, hx⟩ := hrel
   by_cases hlt : j < ps.length
   ·obtain ⟨⟨p0, p1, p2, p3⟩, hp⟩ : ∃ p, ps[j]? = some p := ⟨_, List.getElem?_eq_getElem hlt⟩
    obtain ⟨⟨q0, q1, q2, q3⟩, hq⟩ : ∃ q, qs[j]? = some q := ⟨_, List.getElem?_eq_getElem (by rw [← HL.out]; exact hlt)⟩
    obtain ⟨b, off, rfl, hb, hcell⟩ := (HP.out.ext hx.out) (by omega)
    obtain ⟨c0, c1, c2, c3⟩ := hcell j _ hp
    obtain ⟨b', off', rfl, hb', hcell'⟩ := (HQ.out.ext hx.out) (by have := HL.out; omega)
    obtain ⟨d0, d1, d2, d3⟩ := hcell' j _ hq
    dsimp only at c0 c1 c2 c3 d0 d1 d2 d3
    by_cases hpq : (⟨p0, p1, p2, p3⟩ : Pn) = ⟨q0, q1, q2, q3⟩
    ·injection hpq with e0 e1 e2 e3
     subst e0 e1 e2 e3
     have HN : Hid (ps.take (j + 1) = qs.take (j + 1)) := zh (by
      rw [List.take_add_one, List.take_add_one, he.out, hp, hq])
     have qN := fun (w : World) => (run_neq_paint w p0 p1 p2 p3 p0 p1 p2 p3).trans (show _ = Result.ok (Value.bool false) w by rw [decide_eq_false (fun h => h rfl)])
     clear hcell hcell' hp hq
     go_upto_region 6 with fail
     refine wp_region_bt (9) (pures_bt [0, 1, 2, 4, 5, 6] (softs_bt [3, 7, 8] .fin)) (by kernel_rfl) (by kernel_rfl) ?_
     refine bt_pures _ fun K hK => ?_; simp only [pick, nthC]; (repeat go_big_quiet_step (fail)); refine wpQuiet_nil (hK _ ?_); clear hK K
     refine bt_softs _ fun K hK => ?_; simp only [pick, nthC]; (repeat go_big_quiet_step (fail)); refine wpQuiet_nil (hK _ ?_); clear hK K
     (refine bt_fin ?_)
     go_wp2_with fail
     go_roundw
     case rel => exact ⟨j + 1, by omega, by go_num, HN, zh (hx.out.trans (by repeat first | exact xr _ | refine xa ?_ _ | refine xm ?_ _ _ | refine xd ?_ | refine xn ?_ _ | refine xs ?_ (by simp <;> omega) _))⟩
     case measure => simp [intOf]; omega
    ·have HNE : Hid (decide (ps = qs) = false) := zh (decide_eq_false fun h => by
      subst h
      rw [hp] at hq
      injection hq with hq
      exact hpq hq)
     have qN := fun (w : World) => (run_neq_paint w p0 p1 p2 p3 q0 q1 q2 q3).trans (show _ = Result.ok (Value.bool true) w by rw [decide_eq_true hpq])
     clear hcell hcell' hp hq hpq
     go_upto_region 6 with fail
     refine wp_region_bt (9) (pures_bt [0, 1, 2, 4, 5, 6] (softs_bt [3, 7, 8] .fin)) (by kernel_rfl) (by kernel_rfl) ?_
     refine bt_pures _ fun K hK => ?_; simp only [pick, nthC]; (repeat go_big_quiet_step (fail)); refine wpQuiet_nil (hK _ ?_); clear hK K
     refine bt_softs _ fun K hK => ?_; simp only [pick, nthC]; (repeat go_big_quiet_step (fail)); refine wpQuiet_nil (hK _ ?_); clear hK K
     (refine bt_fin ?_)
     go_wp2_with fail
     go_ret
     exact ⟨ret_bool HNE.out.symm, hx.out.trans (by repeat first | exact xr _ | refine xa ?_ _ | refine xm ?_ _ _ | refine xd ?_ | refine xn ?_ _ | refine xs ?_ (by simp <;> omega) _)⟩
   ·obtain rfl : j = ps.length := by omega
    have HE : Hid (decide (ps = qs) = true) := zh (decide_eq_true (by have := he.out; rwa [List.take_length, HL.out, List.take_length] at this))
    go_wp2_with fail
    go_ret
    exact ⟨ret_bool HE.out.symm, hx.out⟩
 ·have hne : decide (ps = qs) = false := decide_eq_false fun h => hl (by rw [h])
  have HN := zh hne
  clear hne
  go_enter Tryz.func46, Tryz.ntmps46
  go_wp2_with fail
  all_goals go_ret
  all_goals exact ⟨ret_bool HN.out.symm, (by repeat first | exact xr _ | refine xa ?_ _ | refine xm ?_ _ _ | refine xd ?_ | refine xn ?_ _ | refine xs ?_ (by simp <;> omega) _)⟩
def hasB (x : Int) (p : Pn) : Bool := decide (p.lo ≤ x) && decide (x < p.hi)
def PaintRet (w : World) (ps : List Pn) (e : Ending) (w' : World) : Prop := ∃ v, e = .returned v ∧ RowPn w' w.heap.size v ps ∧ Ext w w'
def oneF (a b : Pn) : Pn := { a with hi := b.hi }
end Go.Proofs.YthpmncdfaggkiaaGreat
namespace Go.Proofs.YthpmncdfaggkiaaGreat
open Go.RowKit
def IterH {α : Type} (P : Program) (gf : FuncId) (lb : Array Value) (encs : α → Array Value) (xs : List α) (S : Nat → Prop) (R : Nat → World → Prop) (w1 : World) : Prop :=
 ∀ (l : Nat) (J : Nat → (Nat → Prop) → World → Prop) (Jx : Nat → World → Prop) (K0 : Nat → Prop), S l → l < w1.heap.size → (∀ b, K0 b → S b ∧ b < w1.heap.size) →
  (∀ j K W W', Ext W W' → J j K W → J j K W') → (∀ j W W', Ext W W' → Jx j W → Jx j W') → (∀ j K W, J j K W → R j W) →
  (∀ j x K W, xs[j]? = some x → w1.heap.size ≤ W.heap.size → J j K W → YieldAt Fence.wide 0 P l (encs x) W fun e W' =>
    Turn (fun b => K b ∨ b = l) W W' ∧ ((e = .returned (.bool true) ∧ ∃ K', (∀ b, K' b → (K b ∨ W.heap.size ≤ b) ∧ b < W'.heap.size) ∧ J (j + 1) K' W') ∨ (e = .returned (.bool false) ∧ Jx (j + 1) W'))) →
  J 0 K0 w1 →
  Calls P gf (#[.func (.yield l) #[] #[]] ++ lb) w1 fun e W' => (∃ v, e = .returned v) ∧ w1.heap.size ≤ W'.heap.size ∧ ((∃ K, J xs.length K W') ∨ ∃ j, j ≤ xs.length ∧ Jx j W')
def bodyH (K : Nat → Prop) (N : Nat) (W : World) (I : (Nat → Prop) → World → Prop) (Ix : Code → World → Prop) : Exit → Act → World → Prop
 | .normal, _, W' => Turn (fun b => K b ∨ N ≤ b) W W' ∧ ∃ K', (∀ b, K' b → (K b ∨ N ≤ b) ∧ b < W'.heap.size) ∧ I K' W'
 | .ret, _, W' => Turn (fun b => K b ∨ N ≤ b) W W' ∧ Ix .ret W'
 | .exit id, _, W' => Turn (fun b => K b ∨ N ≤ b) W W' ∧ Ix (.exit id) W'
 | .goto t, _, W' => Turn (fun b => K b ∨ N ≤ b) W W' ∧ Ix (.goto t) W'
 | .panic _, _, _ => False
 | .outgrown, _, _ => False
variable {P : Program}
theorem wp_rangeH {α : Type} {g : Operand} {ps : Array Tmp} {assign body : Code} {Q : Exit → Act → World → Prop} {a : Act} {w : World} {gf : Nat} {lb : Array Value}
 (hg : a.eval g = .func (.func gf) #[] lb) (eg : ∀ args w, (callFunc gf args).run P w = .ok (.enter gf args) w)
 {encs : α → Array Value} (hps : ∀ x, (encs x).size = ps.size) {xs : List α} {S : Nat → Prop} {R : Nat → World → Prop} (hSl : S (w.heap.size + 1))
 (hseq : ∀ w1, Ext w w1 → w1.heap.size = w.heap.size + 2 → IterH P gf lb encs xs S R w1)
 (I : Nat → (Nat → Prop) → World → Prop) (Ix : Code → Nat → World → Prop) (K0 : Nat → Prop) (hK0 : ∀ b, K0 b → S b ∧ b < w.heap.size)
 (hI : ∀ j K W W', Turn (fun b => b = w.heap.size ∨ b = w.heap.size + 1) W W' → w.heap.size + 2 ≤ W.heap.size → I j K W → I j K W')
 (hIx : ∀ c j W W', Turn (fun b => b = w.heap.size ∨ b = w.heap.size + 1) W W' → w.heap.size + 2 ≤ W.heap.size → Ix c j W → Ix c j W')
 (hKn : ∀ j K W, I j K W → ¬ K w.heap.size ∧ ¬ K (w.heap.size + 1)) (hR : ∀ j K W, I j K W → R j W) (h0 : ∀ W, Ext w W → I 0 K0 W)
 (hround : ∀ (l j : Nat) (x : α) (K : Nat → Prop) (W : World), xs[j]? = some x → I j K W → w.heap.size + 2 ≤ W.heap.size →
   assign.wpIn (Fence.wide.inRound l) 0 P (Exit.then (fun a₁ W₁ => Ext W W₁ ∧ ∀ W₂, Turn (fun b => b = w.heap.size ∨ b = w.heap.size + 1) W₁ W₂ → I j K W₂ → W.heap.size ≤ W₂.heap.size →
    body.wpIn (Fence.wide.inRound l) 0 P (bodyH K W.heap.size W₂ (I (j + 1)) (fun c => Ix c (j + 1))) a₁ W₂) (fun _ _ _ => False))
    { tmps := (ps.zip (encs x)).foldl (fun t (p, v) => t.setIfInBounds p v) a.tmps, defers := [] } W)
 (hdone : ∀ (K : Nat → Prop) (W : World), I xs.length K W → w.heap.size + 2 ≤ W.heap.size → W.heap[w.heap.size]? = some (.deferred (some [])) → Q .normal { a with defers := { target := .collected w.heap.size, args := #[] } :: a.defers } W)
 (hstop : ∀ (c : Code) (j : Nat) (W : World), j ≤ xs.length → Ix c j W → w.heap.size + 2 ≤ W.heap.size → W.heap[w.heap.size]? = some (.deferred (some [])) → c.wp P Q { a with defers := { target := .collected w.heap.size, args := #[] } :: a.defers } W) :
 (Code.rangeFunc g ps assign body).wp P Q a w := by
 refine (wpIn_wide (n := 1)).1 (wpIn_rangeFunc ?_)
 intro fn hfn
 obtain ⟨rec, hrec⟩ : ∃ rec : LoopState → Option Code → Loop, rec = fun st pe => { state := st, pending := pe, fn, tmps := a.tmps, params := ps, assign, body, defers := w.heap.size } := ⟨_, rfl⟩
 obtain ⟨W1, hW1⟩ : ∃ W1, (w.alloc (.deferred (some []))).alloc (.loop (rec .ready none)) = W1 := ⟨_, rfl⟩
 have hL1 : W1.heap[w.heap.size + 1]? = some (.loop (rec .ready none)) := by
  rw [← hW1]; have := World.alloc_heap_new (w.alloc (.deferred (some []))) (.loop (rec .ready none)); rwa [World.size_alloc] at this
 have hK1 : W1.heap[w.heap.size]? = some (.deferred (some [])) := by
  rw [← hW1]; exact (Below.heap_alloc _ _ _ (by simp)).trans (World.alloc_heap_new w _)
 have hE1 : Ext w W1 := by rw [← hW1]; exact ((Ext.refl w).alloc _).alloc _
 have hs1 : W1.heap.size = w.heap.size + 2 := by rw [← hW1]; simp
 obtain ⟨n0, hn0⟩ : ∃ n0, w.heap.size = n0 := ⟨_, rfl⟩
 rw [hn0] at hSl hseq hI hIx hKn hround hdone hstop hL1 hK1 hs1 hK0
 have hI1 : I 0 K0 W1 := h0 _ hE1
 refine ⟨n0 + 1, [{ target := .collected n0, args := #[] }], W1, { target := .fn (.func gf) lb, args := #[.func (.yield (n0 + 1)) #[] #[]] }, W1, gf,
  #[.func (.yield (n0 + 1)) #[] #[]] ++ lb, W1, ?_, ?_, ?_, ?_, (fun h => by cases h), ?_⟩
 ·rw [← hW1, hrec, ← hn0]; exact run_enterLoop_outer _ _ _ _ _
 ·simp only [resolve, hg]
  simp [go_sem]
 ·intro f' hf'; trivial
 ·simp [invoke, go_sem, eg]
 ·refine callsIn_wide.2 ((hseq W1 hE1 hs1 (n0 + 1)
   (fun j K W => I j K W ∧ W.heap[n0 + 1]? = some (.loop (rec .ready none)) ∧ W.heap[n0]? = some (.deferred (some [])))
   (fun j W => ∃ c, Ix c j W ∧ W.heap[n0 + 1]? = some (.loop (rec .done (some c))) ∧ W.heap[n0]? = some (.deferred (some [])))
   K0 hSl (by omega) (fun b hb => ⟨(hK0 b hb).1, by have := (hK0 b hb).2; omega⟩) ?_ ?_ (fun j K W h => hR j K W h.1) ?_ ⟨hI1, hL1, hK1⟩).mono ?_)
  ·rintro j K A B hb ⟨h1, h2, h3⟩
   exact ⟨hI _ _ _ _ (Turn.of_ext hb) (by have := lt_of_heap h2; omega) h1, ext_blk h2 hb, ext_blk h3 hb⟩
  ·rintro j A B hb ⟨c, h1, h2, h3⟩
   exact ⟨c, hIx _ _ _ _ (Turn.of_ext hb) (by have := lt_of_heap h2; omega) h1, ext_blk h2 hb, ext_blk h3 hb⟩
  ·rintro j x K W hx hsz ⟨hi, hl, hk⟩
   have hlt : n0 + 1 < W.heap.size := lt_of_heap hl
   have hy := run_yield (P := P) (args := encs x) hl (by rw [hrec]; exact hps x)
   rw [hrec] at hy
   have hKK := hKn _ _ _ hi
   refine ⟨fn, _, assign, body, hy, roundIn_of_wpIn hfn (wpIn_mono (hround _ j x K W hx hi (by omega)) ?_)⟩
   rintro e a₁ W₂ hp
   cases e with
   | normal =>
    obtain ⟨hE2, hbody⟩ := hp
    have hl2 : W₂.heap[n0 + 1]? = some (.loop (rec .ready none)) := ext_blk hl hE2
    have hk2 : W₂.heap[n0]? = some (.deferred (some [])) := ext_blk hk hE2
    have hlt2 := lt_of_heap hl2
    refine ⟨_, run_beginRound hl2 (by rw [hrec]), ?_⟩
    have hl3 : (W₂.putObj (n0 + 1) (.loop { rec .ready none with state := .busy })).heap[n0 + 1]? = some (.loop { rec .ready none with state := .busy }) := World.putObj_heap_same hlt2
    have hk3 : (W₂.putObj (n0 + 1) (.loop { rec .ready none with state := .busy })).heap[n0]? = some (.deferred (some [])) := (World.putObj_heap_other (by omega)).trans hk2
    have hT3 : Turn (fun b => b = n0 ∨ b = n0 + 1) W₂ (W₂.putObj (n0 + 1) (.loop { rec .ready none with state := .busy })) := putObj_turn _ _ (.inr rfl)
    have hI3 : I j K (W₂.putObj (n0 + 1) (.loop { rec .ready none with state := .busy })) := hI _ _ _ _ ((Turn.of_ext hE2).trans hT3) (by omega) hi
    have hsz3 : W.heap.size ≤ (W₂.putObj (n0 + 1) (.loop { rec .ready none with state := .busy })).heap.size := by
     have := hE2.size
     simp
     exact this
    refine wpIn_mono (hbody _ hT3 hI3 hsz3) ?_
    have fin : ∀ (jump : Option Code) (W3 : World), Turn (fun b => K b ∨ W.heap.size ≤ b) (W₂.putObj (n0 + 1) (.loop { rec .ready none with state := .busy })) W3 →
     (Instr.endRound (n0 + 1) jump).run P W3 = .ok (.bool jump.isNone) (W3.putObj (n0 + 1) (.loop (rec (if jump.isNone then .ready else .done) jump))) ∧
     (W3.putObj (n0 + 1) (.loop (rec (if jump.isNone then .ready else .done) jump))).heap[n0 + 1]? = some (.loop (rec (if jump.isNone then .ready else .done) jump)) ∧
     (W3.putObj (n0 + 1) (.loop (rec (if jump.isNone then .ready else .done) jump))).heap[n0]? = some (.deferred (some [])) ∧
     Turn (fun b => b = n0 ∨ b = n0 + 1) W3 (W3.putObj (n0 + 1) (.loop (rec (if jump.isNone then .ready else .done) jump))) ∧ n0 + 2 ≤ W3.heap.size ∧
     Turn (fun b => K b ∨ b = n0 + 1) W (W3.putObj (n0 + 1) (.loop (rec (if jump.isNone then .ready else .done) jump))) := fun jump W3 hk4 => by
     have hl4 := (hk4.block _ (lt_of_heap hl3) (fun h => h.elim hKK.2 (fun h => by omega))).trans hl3
     have hr := run_endRound (P := P) jump hl4
     have hlt4 := lt_of_heap hl4
     have hr2 : (Instr.endRound (n0 + 1) jump).run P W3 = .ok (.bool jump.isNone) (W3.putObj (n0 + 1) (.loop (rec (if jump.isNone then .ready else .done) jump))) := by
      rw [hrec] at hr ⊢
      exact hr
     refine ⟨hr2, World.putObj_heap_same hlt4, (World.putObj_heap_other (by omega)).trans ((hk4.block _ (lt_of_heap hk3) (fun h => h.elim hKK.1 (fun h => by omega))).trans hk3), putObj_turn _ _ (.inr rfl), by omega, ?_⟩
     have t1 : Turn (fun b => K b ∨ b = n0 + 1) W W₂ := Turn.of_ext hE2
     have t2 : Turn (fun b => K b ∨ b = n0 + 1) W (W₂.putObj (n0 + 1) (.loop { rec .ready none with state := .busy })) := t1.trans (putObj_turn _ _ (.inr rfl))
     exact (t2.andThen (S'' := fun b => K b ∨ b = n0 + 1) hk4 (fun k _ hS => hS) (fun k hk hS => hS.elim (fun hS => .inl hS) (fun hS => absurd hk (Nat.not_lt.2 hS)))).trans (putObj_turn _ _ (.inr rfl))
    rintro e a3 W3 hp
    cases e with
    | normal =>
     obtain ⟨ht, K', hK', hi3⟩ := hp
     obtain ⟨hr, hl4, hk4, hb4, hs4, ht4⟩ := fin none W3 ht
     exact ⟨_, _, hr, ht4, .inl ⟨rfl, K', fun b hb => ⟨(hK' b hb).1, by have := (hK' b hb).2; simpa using this⟩, hI _ _ _ _ hb4 hs4 hi3, hl4, hk4⟩⟩
    | ret =>
     obtain ⟨ht, hi3⟩ := hp
     obtain ⟨hr, hl4, hk4, hb4, hs4, ht4⟩ := fin (some (.ret)) W3 ht
     exact ⟨_, _, hr, ht4, .inr ⟨rfl, .ret, hIx _ _ _ _ hb4 hs4 hi3, hl4, hk4⟩⟩
    | exit id =>
     obtain ⟨ht, hi3⟩ := hp
     obtain ⟨hr, hl4, hk4, hb4, hs4, ht4⟩ := fin (some (.exit id)) W3 ht
     exact ⟨_, _, hr, ht4, .inr ⟨rfl, .exit id, hIx _ _ _ _ hb4 hs4 hi3, hl4, hk4⟩⟩
    | goto t =>
     obtain ⟨ht, hi3⟩ := hp
     obtain ⟨hr, hl4, hk4, hb4, hs4, ht4⟩ := fin (some (.goto t)) W3 ht
     exact ⟨_, _, hr, ht4, .inr ⟨rfl, .goto t, hIx _ _ _ _ hb4 hs4 hi3, hl4, hk4⟩⟩
    | panic ch => exact hp.elim
    | outgrown => exact hp.elim
   | exit id => exact hp.elim
   | goto l => exact hp.elim
   | ret => exact hp.elim
   | panic ch => exact hp.elim
   | outgrown => exact hp.elim
  ·rintro e W2 ⟨⟨v, rfl⟩, hsz, (⟨K, hi, hl, hk⟩ | ⟨j, hj, c, hi, hl, hk⟩)⟩
   ·have hlt := lt_of_heap hl
    have hend := run_endLoop (P := P) hl (by rw [hrec]; simp)
    have hp : (rec .ready none).pending = none := by rw [hrec]
    rw [hp] at hend
    exact ⟨none, _, hend, hdone K _ (hI _ _ _ _ (putObj_turn _ _ (.inr rfl)) (by omega) hi) (by simp; omega) ((World.putObj_heap_other (by omega)).trans hk)⟩
   ·have hlt := lt_of_heap hl
    have hend := run_endLoop (P := P) hl (by rw [hrec]; simp)
    have hp : (rec .done (some c)).pending = some c := by rw [hrec]
    rw [hp] at hend
    exact ⟨some c, _, hend, wpIn_wide.2 (hstop c j _ hj (hIx _ _ _ _ (putObj_turn _ _ (.inr rfl)) (by omega) hi) (by simp; omega) ((World.putObj_heap_other (by omega)).trans hk))⟩
end Go.Proofs.YthpmncdfaggkiaaGreat
namespace Go.Proofs.YthpmncdfaggkiaaGreat
open Go.RowKit
attribute [local go_sem] more_drew more_drewN more_size more_cell more_frozen more_setCell drew_more drewN_more lt_add_r lt_add_r2 lt_add_r3 lt_add_r4 lt_add_r5 lt_add_r6 lt_add_r7 lt_add_r8 lt_add_r9 lt_add_r10 lt_self_r lt_self_r2
attribute [local go_sem] Oper.semAt_some
def clipA (f a : Int) : Int := if a < f then f else a
def clipB (t b : Int) : Int := if t < b then t else b
def clip (f t a b st mk : Int) : List Pn := if clipB t b ≤ clipA f a then [] else [⟨clipA f a, clipB t b, st, mk⟩]
def encPn (p : Pn) : Array Value := #[pnV p]
structure St28 where
 w : World
 f : Int
 t : Int
 fb : Nat
 tb : Nat
 bY : Nat
 lY : Nat
 xs : List Pn
 J : Nat → (Nat → Prop) → World → Prop
 Jx : Nat → World → Prop
structure St28.Ok (D : St28) (B : Nat) : Prop where
 f0 : D.w.heap[D.fb]? = some (.cells #[.int .i64 D.f] 3)
 t0 : D.w.heap[D.tb]? = some (.cells #[.int .i64 D.t] 3)
 size : D.w.heap.size ≤ B
 bY : B ≤ D.bY
 lY : D.lY < B ∧ D.w.heap.size ≤ D.lY
 hJ : ∀ j K W W', Ext W W' → D.J j K W → D.J j K W'
 hJx : ∀ j W W', Ext W W' → D.Jx j W → D.Jx j W'
 hY : ∀ j x K W, D.xs[j]? = some x → B ≤ W.heap.size → D.J j K W → YieldAt Fence.wide 0 Tryz.prog D.lY (encPn x) W fun e W' =>
  Turn (fun b => K b ∨ b = D.lY) W W' ∧ ((e = .returned (.bool true) ∧ ∃ K', (∀ b, K' b → (K b ∨ W.heap.size ≤ b) ∧ b < W'.heap.size) ∧ D.J (j + 1) K' W') ∨ (e = .returned (.bool false) ∧ D.Jx (j + 1) W'))
structure St28.At (D : St28) (B : Nat) (M : Nat → Prop) (j : Nat) (K : Nat → Prop) (W : World) : Prop where
 below : Below D.w.heap.size D.w W
 yb : W.heap[D.bY]? = some (.cells #[.func (.yield D.lY) #[] #[]] 137)
 big : B ≤ W.heap.size
 free : ∀ b, K b → D.w.heap.size ≤ b ∧ b ≠ D.bY ∧ ¬ M b
 lt : ∀ b, K b → b < W.heap.size
 st : D.J j K W
def SomePost (D : St28) (B : Nat) (M : Nat → Prop) (j n : Nat) (K : Nat → Prop) (W : World) (e : Ending) (W' : World) : Prop :=
 Turn (fun b => K b ∨ b = D.lY) W W' ∧ ((e = .returned (.bool true) ∧ ∃ K', D.At B M (j + n) K' W') ∨ (e = .returned (.bool false) ∧ n = 1 ∧ D.Jx (j + 1) W' ∧ B ≤ W'.heap.size))
theorem St28.At.turn {D : St28} {B : Nat} {M : Nat → Prop} {j j' : Nat} {K K' : Nat → Prop} {W W' : World} (O : D.Ok B) (h : D.At B M j K W) (hM : ∀ b, M b → b < W.heap.size) (t : Turn (fun b => K b ∨ b = D.lY) W W') (hK : ∀ b, K' b → (K b ∨ W.heap.size ≤ b) ∧ b < W'.heap.size) (hJ : D.J j' K' W') : D.At B M j' K' W' := by
 have hyl := lt_of_heap h.yb
 have o1 := O.bY
 have o2 := O.lY
 have o3 := O.size
 have hb := h.big
 refine ⟨h.below.trans (t.below (by omega) fun k hk => ?_), (t.block _ hyl ?_).trans h.yb, Nat.le_trans hb t.size, fun b hb' => ?_, fun b hb' => (hK b hb').2, hJ⟩
 ·rcases hk with hk | rfl
  ·exact (h.free k hk).1
  ·exact o2.2
 ·rintro (hk | hk)
  ·exact (h.free _ hk).2.1 rfl
  ·omega
 ·rcases (hK b hb').1 with hk | hk
  ·exact h.free b hk
  ·exact ⟨by omega, by omega, fun hm => by have := hM b hm; omega⟩
theorem St28.At.ext {D : St28} {B : Nat} {M M' : Nat → Prop} {j : Nat} {K : Nat → Prop} {W W' : World} (O : D.Ok B) (h : D.At B M j K W) (e : Ext W W') (hM : ∀ b, M' b → M b ∨ W.heap.size ≤ b) : D.At B M' j K W' :=
 ⟨h.below.trans (e.below.mono (Nat.le_trans O.size h.big)), ext_block h.yb e, Nat.le_trans h.big e.size, fun b hb => ⟨(h.free b hb).1, (h.free b hb).2.1, fun hm => by
   rcases hM b hm with hm | hm
   ·exact (h.free b hb).2.2 hm
   ·have := h.lt b hb; omega⟩, fun b hb => Nat.lt_of_lt_of_le (h.lt b hb) e.size, O.hJ _ _ _ _ e h.st⟩
set_option maxRecDepth 100000 in
set_option maxHeartbeats 3000000 in
theorem some_any28 (D : St28) (B : Nat) (O : D.Ok B) (M : Nat → Prop) (j : Nat) (K : Nat → Prop) (W : World) (h : D.At B M j K W) (hM : ∀ b, M b → b < W.heap.size) (a b st mk : Int)
 (hx : ∀ k x, (clip D.f D.t a b st mk)[k]? = some x → D.xs[j + k]? = some x) :
 Calls Tryz.prog 136 #[.int .i64 a, .int .i64 b, .int .i64 st, .int .i64 mk, pt D.fb, pt D.tb, pt D.bY] W (SomePost D B M j (clip D.f D.t a b st mk).length K W) := by
 have c0 := cell_of_row _ _ 0 _ _ _ ((h.below.block _ (lt_of_heap O.f0)).trans O.f0)
 have c1 := cell_of_row _ _ 0 _ _ _ ((h.below.block _ (lt_of_heap O.t0)).trans O.t0)
 have c2 := cell_of_row _ _ 0 _ _ _ h.yb
 simp at c0 c1 c2
 have l0 := lt_of_heap ((h.below.block _ (lt_of_heap O.f0)).trans O.f0)
 have l1 := lt_of_heap ((h.below.block _ (lt_of_heap O.t0)).trans O.t0)
 have l2 := lt_of_heap h.yb
 have HO := zh O
 have HH := zh h
 have HM := zh hM
 have HXX := zh hx
 obtain ⟨a', ha⟩ : ∃ x, (if a < D.f then D.f else a) = x := ⟨_, rfl⟩
 obtain ⟨b', hb⟩ : ∃ x, (if D.t < b then D.t else b) = x := ⟨_, rfl⟩
 have HC : Hid (clip D.f D.t a b st mk = if b' ≤ a' then [] else [⟨a', b', st, mk⟩]) := zh (by unfold clip clipA clipB; rw [ha, hb])
 have X1 : Hid (Ext W W.drew) := zh (by repeat first | exact xr _ | refine xa ?_ _ | refine xm ?_ _ _ | refine xd ?_ | refine xn ?_ _ | refine xs ?_ (by simp <;> omega) _)
 clear O h hM hx
 by_cases hle : b' ≤ a'
 ·have g1 : decide (b' ≤ a') = true := decide_eq_true hle
  have HC0 : Hid (clip D.f D.t a b st mk = []) := zh (HC.out.trans (if_pos hle))
  clear hle
  go_enter Tryz.func136, Tryz.ntmps136
  go_upto_region 1 with fail
  refine wp_region_bt (8) (pures_bt [0, 3] (softs_bt [1, 2, 4, 5, 6, 7] .fin)) (by kernel_rfl) (by kernel_rfl) ?_
  refine bt_pures _ fun K hK => ?_; simp only [pick, nthC]; (repeat go_big_quiet_step (fail)); refine wpQuiet_nil (hK _ ?_); clear hK K
  refine bt_softs _ fun K hK => ?_; simp only [pick, nthC]; (repeat go_big_quiet_step (fail)); refine wpQuiet_nil (hK _ ?_); clear hK K
  (refine bt_fin ?_)
  go_wp2_with fail
  go_ret
  rw [HC0.out]
  refine ⟨Turn.of_ext X1.out, .inl ⟨rfl, K, ?_⟩⟩
  exact HH.out.turn HO.out HM.out (Turn.of_ext X1.out) (fun b hb => ⟨.inl hb, Nat.lt_of_lt_of_le (HH.out.lt b hb) X1.out.size⟩) (HO.out.hJ _ _ _ _ X1.out HH.out.st)
 ·have g1 : decide (b' ≤ a') = false := decide_eq_false hle
  have HC0 : Hid (clip D.f D.t a b st mk = [⟨a', b', st, mk⟩]) := zh (HC.out.trans (if_neg hle))
  obtain ⟨fn, tmps, assign, body, hy, hRound⟩ := HO.out.hY j ⟨a', b', st, mk⟩ K W.drew (HXX.out 0 _ (by rw [HC0.out]; rfl)) (Nat.le_trans HH.out.big X1.out.size) (HO.out.hJ _ _ _ _ X1.out HH.out.st)
  unfold encPn pnV at hy
  dsimp only at hy
  have HR := zh hRound
  clear hle hRound
  go_enter Tryz.func136, Tryz.ntmps136
  go_upto_region 1 with fail
  refine wp_region_bt (8) (pures_bt [0, 3] (softs_bt [1, 2, 4, 5, 6, 7] .fin)) (by kernel_rfl) (by kernel_rfl) ?_
  refine bt_pures _ fun K hK => ?_; simp only [pick, nthC]; (repeat go_big_quiet_step (fail)); refine wpQuiet_nil (hK _ ?_); clear hK K
  refine bt_softs _ fun K hK => ?_; simp only [pick, nthC]; (repeat go_big_quiet_step (fail)); refine wpQuiet_nil (hK _ ?_); clear hK K
  (refine bt_fin ?_)
  go_upto_region 2 with fail
  refine (wpIn_wide (n := 1)).1 ?_
  gi_wp2
  refine HR.out.mono ?_
  rintro e w8 ⟨t8, (⟨rfl, K', hK', hJ8⟩ | ⟨rfl, hJ8⟩)⟩
  ·have T8 : Hid (Turn (fun b => K b ∨ b = D.lY) W w8) := zh ((Turn.of_ext X1.out).trans t8)
   have A8 : Hid (D.At B M (j + 1) K' w8) := zh (HH.out.turn HO.out HM.out T8.out (fun b hb => ⟨(hK' b hb).1.imp id (fun h => Nat.le_trans X1.out.size h), (hK' b hb).2⟩) hJ8)
   clear t8 hK' hJ8 hy HR c0 c1 c2 l0 l1 l2
   gi_wp2
   go_wp2_with fail
   go_ret
   rw [HC0.out]
   exact ⟨T8.out, .inl ⟨rfl, K', A8.out⟩⟩
  ·have T8 : Hid (Turn (fun b => K b ∨ b = D.lY) W w8) := zh ((Turn.of_ext X1.out).trans t8)
   have HJ8 := zh hJ8
   clear t8 hJ8 hy HR c0 c1 c2 l0 l1 l2
   gi_wp2
   go_wp2_with fail
   go_ret
   rw [HC0.out]
   exact ⟨T8.out, .inr ⟨rfl, rfl, HJ8.out, Nat.le_trans HH.out.big T8.out.size⟩⟩
end Go.Proofs.YthpmncdfaggkiaaGreat
namespace Go.Proofs.YthpmncdfaggkiaaGreat
def ndAt (l : List Nd) (i : Int) : Nd := (l[i.toNat]?).getD ⟨0, 0, 0, 0, 0, 0, [], 0⟩
def leafPn (l : List Nd) (ms : List Int) (sv : Nat → Int) (f t : Int) (x i : Int) : List Pn :=
 clip f t x (ndAt l i).lo 0 1 ++ (clip f t (ndAt l i).lo (ndAt l i).inn 0 ((ms[i.toNat]?).getD 0) ++ clip f t (ndAt l i).inn (ndAt l i).hi (sv i.toNat) ((ms[i.toNat]?).getD 0))
def strF (l : List Nd) (ms : List Int) (sv : Nat → Int) (f t : Int) : Int → List Int → List Pn
 | x, [] => clip f t x (ndAt l 0).hi 0 1
 | x, i :: is => leafPn l ms sv f t x i ++ strF l ms sv f t (ndAt l i).hi is
end Go.Proofs.YthpmncdfaggkiaaGreat
namespace Go.Proofs.YthpmncdfaggkiaaGreat
open Go.RowKit
structure BtW (P : Program) (l : List Oper) (C : World → Prop) (s : Nat) (Q : Act → World → Prop) (t : Bt) (a : Act) (w : World) : Prop where
 out : wpBt P l C s Q t a w
section
variable {P : Program} {C : World → Prop}
theorem btw_softs {l : List Oper} {s : Nat} {Q : Act → World → Prop} {t : Bt} {a : Act} {w : World} (is : List Nat) (hh : ∀ K : Act → Prop, (∀ a', BtW P l C s Q t a' w → K a') → wpQuiet P l.toArray C K (pick l is) a) : BtW P l C s Q (softs_bt is t) a w :=
 ⟨bt_softs is fun K hK => hh K fun a' h => hK a' h.out⟩
theorem btw_pures {l : List Oper} {s : Nat} {Q : Act → World → Prop} {t : Bt} {a : Act} {w : World} (is : List Nat) (hh : ∀ K : Act → Prop, (∀ a', BtW P l C s Q t a' w → K a') → wpQuiet P l.toArray AnyW K (pick l is) a) : BtW P l C s Q (pures_bt is t) a w :=
 ⟨bt_pures is fun K hK => hh K fun a' h => hK a' h.out⟩
theorem btw_step {l : List Oper} {s i : Nat} {Q : Act → World → Prop} {t : Bt} {a : Act} {w : World} (hh : ∀ next : Act → World → Prop, (∀ a w, BtW P l C s Q t a w → next a w) → wpList P l.toArray (segQ C i s next) (pick l [i]) a w) : BtW P l C s Q (.step i t) a w :=
 ⟨bt_step fun next hn => hh next fun a w h => hn a w h.out⟩
theorem btw_fin {l : List Oper} {s : Nat} {Q : Act → World → Prop} {a : Act} {w : World} (h : Q a w) : BtW P l C s Q .fin a w := ⟨bt_fin h⟩
theorem wp_region_btwC {T : Type} (f : T → World) {id : Nat} {Q : Exit → Act → World → Prop} {a : Act} {w : World} {l : List Oper} (s : Nat) (t : Bt) (hm : P.follows .mixedOrders = true) (hB : btOkB l s t = true) (h0 : ∃ x : T, w.drew = f x)
 (h : BtW P l (fun w' => ∃ x : T, w' = f x) s (fun a' w' => Q .normal a' w') t a w.drew) : (Code.region id l.toArray true).wp P Q a w := wp_region_btC f s t hm hB h0 h.out
end
end Go.Proofs.YthpmncdfaggkiaaGreat
namespace Go.Proofs.YthpmncdfaggkiaaGreat
open Go.RowKit
attribute [local go_sem] more_drew more_drewN more_size more_cell more_frozen more_setCell drew_more drewN_more lt_add_r lt_add_r2 lt_add_r3 lt_add_r4 lt_add_r5 lt_add_r6 lt_add_r7 lt_add_r8 lt_add_r9 lt_add_r10 lt_self_r lt_self_r2
attribute [local go_sem] Oper.semAt_some
theorem stretches_make (A : Option Addr) (n c : Nat) (MA : Option Addr) (m cm : Nat) (B : Option Addr) (k cs : Nat) (f t : Int) (w : World) :
 Calls Tryz.prog 86 #[.slice A n c, .slice MA m cm, .slice B k cs, .int .i64 f, .int .i64 t] w fun e w' => e = .returned (.func (.func 135) #[] #[pt (w.heap.size + 3), pt (w.heap.size + 4), pt w.heap.size, pt (w.heap.size + 1), pt (w.heap.size + 2)]) ∧
  w' = ((((w.alloc (.cells #[.slice A n c] 22)).alloc (.cells #[.slice MA m cm] 31)).alloc (.cells #[.slice B k cs] 56)).alloc (.cells #[.int .i64 f] 3)).alloc (.cells #[.int .i64 t] 3) := by
 go_enter Tryz.func86, Tryz.ntmps86
 go_wp2_with fail
 go_ret
 exact ⟨rfl, rfl⟩
theorem leavesF_in {l : List Nd} {q : Nat} {i : Int} (h : (leavesF 0 l)[q]? = some i) : ∃ (n : Nat) (p : Nd), i = (n : Int) ∧ l[n]? = some p := by
 have hm := List.mem_of_getElem? h
 have key : ∀ (l : List Nd) (k : Nat) (i : Int), i ∈ leavesF k l → ∃ n : Nat, i = (n : Int) ∧ k ≤ n ∧ n < k + l.length := by
  intro l
  induction l with
  | nil => intro k i h; simp [leavesF] at h
  | cons p l ih =>
   intro k i h
   unfold leavesF at h
   rw [List.length_cons]
   split at h
   ·rcases List.mem_cons.1 h with rfl | h
    ·exact ⟨k, rfl, Nat.le_refl _, by omega⟩
    ·obtain ⟨n, a, b, c⟩ := ih (k + 1) i h
     exact ⟨n, a, by omega, by omega⟩
   ·obtain ⟨n, a, b, c⟩ := ih (k + 1) i h
    exact ⟨n, a, by omega, by omega⟩
 obtain ⟨n, rfl, _, hn⟩ := key l 0 i hm
 exact ⟨n, l[n]'(by omega), rfl, List.getElem?_eq_getElem (by omega)⟩
theorem Ints.turn {w w' : World} {A : Option Addr} {xs : List Int} {S : Nat → Prop} (h : Ints w A xs) (t : Turn S w w') (hS : ∀ g off s, A = some ⟨g, off, s⟩ → ¬ S g) : Ints w' A xs := fun h0 => by
 obtain ⟨b, off, hA, hb, hc⟩ := h h0
 exact ⟨b, off, hA, Nat.lt_of_lt_of_le hb t.size, fun k hk => (World.cell?_of_block (w := w) (a := ⟨b, off + k, none⟩) (t.block b hb (hS b off none hA))).trans (hc k hk)⟩
theorem St28.At.mono {D : St28} {B : Nat} {M M' : Nat → Prop} {j : Nat} {K : Nat → Prop} {W : World} (h : D.At B M j K W) (hM : ∀ b, M' b → M b) : D.At B M' j K W := ⟨h.below, h.yb, h.big, fun b hb => ⟨(h.free b hb).1, (h.free b hb).2.1, fun hm => (h.free b hb).2.2 (hM b hm)⟩, h.lt, h.st⟩
theorem xs_le {xs a : List Pn} {j : Nat} (h : j ≤ xs.length) (ha : ∀ k x, a[k]? = some x → xs[j + k]? = some x) : j + a.length ≤ xs.length := by
 rcases Nat.eq_zero_or_pos a.length with h0 | h0
 ·omega
 ·obtain ⟨y, hy⟩ : ∃ y, a[a.length - 1]? = some y := ⟨_, List.getElem?_eq_getElem (by omega)⟩
  have := (List.getElem?_eq_some_iff.1 (ha _ y hy)).1
  omega
theorem xs_app {xs a b : List Pn} {j : Nat} (h : xs.drop j = a ++ b) : (∀ k x, a[k]? = some x → xs[j + k]? = some x) ∧ xs.drop (j + a.length) = b := by
 constructor
 ·intro k x hk
  have hl := (List.getElem?_eq_some_iff.1 hk).1
  have : (xs.drop j)[k]? = some x := by rw [h, List.getElem?_append_left hl]; exact hk
  rwa [List.getElem?_drop] at this
 ·rw [← List.drop_drop, h, List.drop_left]
set_option maxRecDepth 100000 in
set_option maxHeartbeats 12000000 in
theorem stretch_iter (w : World) (fb tb lb mb sb : Nat) (f t : Int) (A : Option Addr) (c : Nat) (ps : List Prt) (MA : Option Addr) (cm : Nat) (ms : List Int) (SA : Option Addr) (sn cs : Nat) (sv : Nat → Int) (xs : List Pn)
 (hf : w.heap[fb]? = some (.cells #[.int .i64 f] 3)) (ht : w.heap[tb]? = some (.cells #[.int .i64 t] 3)) (hlb : w.heap[lb]? = some (.cells #[.slice A ps.length c] 22)) (hmb : w.heap[mb]? = some (.cells #[.slice MA ms.length cm] 31)) (hsb : w.heap[sb]? = some (.cells #[.slice SA sn cs] 56))
 (hS : PS w A c ps) (hT : Tree (nds ps)) (hM : Ints w MA ms) (hml : ms.length = ps.length) (_ : ms.length ≤ cm) (_ : cm ≤ 9223372036854775807)
 (hL : ∀ (i : Nat) (V : World), i < ps.length → Below w.heap.size w V → Calls Tryz.prog 28 #[.slice SA sn cs, .slice A ps.length c, .int .i64 i] V fun e w' => e = .returned (.int .i64 (sv i)) ∧ Ext V w')
 (hxs : xs = strF (nds ps) ms sv f t 0 (leavesF 0 (nds ps))) (w1 : World) (hw1 : Ext w w1) :
 IterH Tryz.prog 135 #[pt fb, pt tb, pt lb, pt mb, pt sb] encPn xs (fun k => w.heap.size ≤ k) (fun _ _ => True) w1 := by
 intro l J Jx K0 hSl hlw hK0 hJ hJx hR hY hJ0
 obtain ⟨D, hD⟩ : ∃ D : St28, D = { w, f, t, fb, tb, bY := w1.heap.size, lY := l, xs, J, Jx } := ⟨_, rfl⟩
 have O : Hid (D.Ok w1.heap.size) := zh (by
  subst hD
  exact ⟨hf, ht, hw1.size, Nat.le_refl _, ⟨hlw, hSl⟩, hJ, hJx, hY⟩)
 have hlb1 := ext_block hlb hw1
 have c0 := cell_of_row _ _ 0 _ _ _ hlb1
 simp at c0
 have cl := lt_of_heap hlb1
 have HK0 := zh hK0
 have HJ0 := zh hJ0
 have HJm := zh hJ
 have HS := zh hS
 have HT := zh hT
 have HMI := zh hM
 have HML := zh hml
 have HLF := zh hL
 have HXS := zh hxs
 have HW1 := zh hw1
 have HLB := zh hlb
 have HMB := zh hmb
 have HSB := zh hsb
 have HD := zh hD
 have hSl' : w.heap.size ≤ l := hSl
 have hn := hS.few.len
 have hpos : 0 < ps.length := by have := hT.pos; rwa [nds_length] at this
 have hcp := hS.cap
 have htp := hS.top
 clear hf ht hlb hmb hsb hS hT hM hml hL hxs hw1 hSl hK0 hJ hJx hR hY hJ0 hlb1 hD
 simp only [List.append_toArray, List.cons_append, List.nil_append]
 go_enter Tryz.func135, Tryz.ntmps135
 go_upto_region 3 with fail
 obtain ⟨W2, hW2⟩ : ∃ V, w1.alloc (.cells #[.func (.yield l) #[] #[]] 137) = V := ⟨_, rfl⟩
 have X2 : Ext w1 W2 := by rw [← hW2]; exact (by repeat first | exact xr _ | refine xa ?_ _ | refine xm ?_ _ _ | refine xd ?_ | refine xn ?_ _ | refine xs ?_ (by simp <;> omega) _)
 have GY : Hid (W2.heap[w1.heap.size]? = some (.cells #[.func (.yield l) #[] #[]] 137)) := zh (by rw [← hW2]; exact heap_alloc_new _ _)
 have HX2 := zh X2
 have c0' : W2.cell? ⟨lb, 0, none⟩ = some (.slice A ps.length c) := by simpa using cell_of_row _ _ 0 _ _ _ (ext_block HLB.out (HW1.out.trans X2))
 have cl' := lt_of_heap (ext_block HLB.out (HW1.out.trans X2))
 rw [hW2]
 clear hW2 X2 c0 cl
 go_wp2_with fail
 refine (Leaves_yes (HS.out.ext (HW1.out.trans HX2.out)) HT.out).mono ?_
 rintro e w3 ⟨AL, cL, rfl, hown, hx3⟩
 obtain ⟨LV, hLV⟩ : ∃ q, leavesF 0 (nds ps) = q := ⟨_, rfl⟩
 have HLV := zh hLV
 rw [hLV] at hown ⊢
 have hoi := hown.ints
 have HIL := zh hoi.1
 have hlc := hoi.2.1
 have hlt : cL ≤ 9223372036854775807 := by have := hoi.2.2.1; unfold maxLen at this; exact this
 have hln : LV.length ≤ 1000 := by rw [← hLV]; have := leavesF_len (nds ps) 0; rw [nds_length] at this; omega
 obtain ⟨M0, hM0⟩ : ∃ M : Nat → Prop, M = fun b => ∃ off s, AL = some ⟨b, off, s⟩ := ⟨_, rfl⟩
 have HX13 := zh (HX2.out.trans hx3)
 have hMb : ∀ b, M0 b → W2.heap.size ≤ b ∧ b < w3.heap.size := fun b hb => by
  subst hM0
  obtain ⟨off, s, rfl⟩ := hb
  exact ⟨own_block hown b rfl, by obtain ⟨cur, hcur⟩ := own_obj hown b rfl; exact lt_of_heap hcur⟩
 have HMB0 := zh hMb
 have HM0 := zh hM0
 have A0 : Hid (D.At w1.heap.size M0 0 K0 w3) := zh (by
  have hd := HD.out
  subst hd
  refine ⟨(HW1.out.trans HX13.out).below, ext_block GY.out hx3, HX13.out.size, fun b hb => ?_, fun b hb => Nat.lt_of_lt_of_le (HK0.out b hb).2 HX13.out.size, HJm.out _ _ _ _ HX13.out HJ0.out⟩
  obtain ⟨h1, h2⟩ := HK0.out b hb
  exact ⟨h1, Nat.ne_of_lt h2, fun hm => by have := (HMB0.out b hm).1; have := HX2.out.size; omega⟩)
 have X0 : Hid (D.xs.drop 0 = strF (nds ps) ms sv f t 0 (LV.drop 0)) := zh (by have hd := HD.out; subst hd; rw [← hLV]; exact HXS.out)
 clear hoi hown hx3 hM0 hMb hLV c0' cl'
 go_wp2_with fail
 go_loopw [8, 16] (fun v8 v16 wr => ∃ (q j : Nat) (x : Int) (K : Nat → Prop), q ≤ LV.length ∧ j ≤ xs.length ∧ v16 = .int .i64 q ∧ v8 = .int .i64 x ∧ Hid (D.At w1.heap.size M0 j K wr) ∧ Hid (D.xs.drop j = strF (nds ps) ms sv f t x (LV.drop q)) ∧ Hid (Ints wr AL LV) ∧ Hid (∀ b, M0 b → b < wr.heap.size)) (fun _ v16 _ => LV.length - (intOf v16).toNat)
 case atStart => exact ⟨0, 0, 0, K0, Nat.zero_le _, Nat.zero_le _, rfl, rfl, A0, X0, HIL, zh (fun b hb => (HMB0.out b hb).2)⟩
 case round =>
  obtain ⟨q, j, x, K, hq, hjx, rfl, rfl, hA, hX, hI, hMl⟩ := hrel
  obtain rfl := HD.out
  by_cases hlt2 : q < LV.length
  ·obtain ⟨i, hi⟩ : ∃ i, LV[q]? = some i := ⟨_, List.getElem?_eq_getElem hlt2⟩
   obtain ⟨n, nd0, rfl, hnp⟩ := leavesF_in (by rw [HLV.out]; exact hi)
   obtain ⟨⟨nd1', kA, kcap⟩, hpp, hpe⟩ := nds_get' hnp
   dsimp only at hpe
   obtain rfl : nd0 = nd1' := hpe.symm
   have hnl := (List.getElem?_eq_some_iff.1 hpp).1
   obtain ⟨mk, hmk⟩ : ∃ m, ms[n]? = some m := ⟨_, List.getElem?_eq_getElem (by have := HML.out; omega)⟩
   have hnd : ndAt (nds ps) (n : Int) = nd0 := by unfold ndAt; rw [Int.toNat_natCast, nds_get hpp]; rfl
   have hdrop : LV.drop q = (n : Int) :: LV.drop (q + 1) := by
    rw [List.drop_eq_getElem_cons hlt2]
    rw [List.getElem?_eq_getElem hlt2] at hi
    injection hi with hi
    rw [hi]
   have hx0 := hX.out
   rw [hdrop] at hx0
   have hstr : strF (nds ps) ms sv f t x ((n : Int) :: LV.drop (q + 1)) = clip f t x nd0.lo 0 1 ++ (clip f t nd0.lo nd0.inn 0 mk ++ (clip f t nd0.inn nd0.hi (sv n) mk ++ strF (nds ps) ms sv f t nd0.hi (LV.drop (q + 1)))) := by
    show leafPn _ _ _ _ _ _ _ ++ _ = _
    unfold leafPn
    rw [hnd, Int.toNat_natCast, hmk, Option.getD_some, List.append_assoc, List.append_assoc]
   rw [hstr] at hx0
   have C4 := zh (xs_app hx0)
   have C5 := zh (xs_app C4.out.2)
   have C6 := zh (xs_app C5.out.2)
   have hA' := hA.out
   obtain ⟨bL, oL, hAL, hbL, hcL⟩ := hI.out (by omega)
   subst hAL
   have e1 := hcL q hlt2
   rw [List.getD_eq_getElem?_getD, hi] at e1
   dsimp only [Option.getD_some] at e1
   obtain ⟨bA, oA, hAA, hbA, hcA⟩ := (HS.out.below hA'.below).parts (by omega)
   subst hAA
   obtain ⟨d0, d1, d2, d3, d4, d5, d6, d7⟩ := hcA n _ hpp
   dsimp only at d0 d1 d2 d3 d4 d5 d6 d7
   have f1 : wr.heap[lb]? = _ := (hA'.below.block _ (lt_of_heap HLB.out)).trans HLB.out
   have f2 : wr.heap[mb]? = _ := (hA'.below.block _ (lt_of_heap HMB.out)).trans HMB.out
   have f3 : wr.heap[sb]? = _ := (hA'.below.block _ (lt_of_heap HSB.out)).trans HSB.out
   obtain ⟨gM, oM, hMA, hbM, hcM⟩ := (HMI.out.below hA'.below) (by have := HML.out; omega)
   subst hMA
   have e2 := hcM n (by have := HML.out; omega)
   rw [List.getD_eq_getElem?_getD, hmk] at e2
   dsimp only [Option.getD_some] at e2
   have hgMw : gM < w.heap.size := by
    obtain ⟨g', o', hg', hb', _⟩ := HMI.out (by have := HML.out; omega)
    injection hg' with hg'
    injection hg' with hg'
    omega
   have b0 := cell_of_row _ _ 0 _ _ _ f1
   simp at b0
   have bl := lt_of_heap f1
   have HF2 := zh f2
   have HF3 := zh f3
   have HF1 := zh f1
   have HPP := zh hpp
   have HMK := zh hmk
   have HND := zh hnd
   have HE2 := zh e2
   have HBM := zh hbM
   have hj6 := C6.out.2
   have HJ6 := zh hj6
   have HGM := zh hgMw
   have hmsl : n < ms.length := by have := HML.out; omega
   clear hi hnp hpp hmk hnd hdrop hx0 hstr hcL hcA hcM f1 f2 f3 e2 hbM hj6 hgMw hA'
   go_upto_region 7 with fail
   obtain ⟨pb, hpb⟩ : ∃ n, wr.heap.size = n := ⟨_, rfl⟩
   obtain ⟨W4, hW4⟩ : ∃ V, wr.alloc (.cells #[.int .i64 nd0.sym, .int .i64 nd0.kind, .int .i64 nd0.lo, .int .i64 nd0.inn, .int .i64 nd0.hi, .int .i64 nd0.look, .slice kA nd0.kids.length kcap, .int .u64 nd0.met] 34) = V := ⟨_, rfl⟩
   have X4 : Ext wr W4 := by rw [← hW4]; exact (by repeat first | exact xr _ | refine xa ?_ _ | refine xm ?_ _ _ | refine xd ?_ | refine xn ?_ _ | refine xs ?_ (by simp <;> omega) _)
   have HP4 : W4.heap[pb]? = some (.cells #[.int .i64 nd0.sym, .int .i64 nd0.kind, .int .i64 nd0.lo, .int .i64 nd0.inn, .int .i64 nd0.hi, .int .i64 nd0.look, .slice kA nd0.kids.length kcap, .int .u64 nd0.met] 34) := by rw [← hW4, ← hpb]; exact heap_alloc_new _ _
   rw [hW4, hpb]
   obtain ⟨M1, hM1⟩ : ∃ M : Nat → Prop, M = fun b => M0 b ∨ b = pb := ⟨_, rfl⟩
   have HX4 := zh X4
   have hd0 : Ext W4 W4.drew := (by repeat first | exact xr _ | refine xa ?_ _ | refine xm ?_ _ _ | refine xd ?_ | refine xn ?_ _ | refine xs ?_ (by simp <;> omega) _)
   have A4 : Hid (St28.At ({ w, f, t, fb, tb, bY := w1.heap.size, lY := l, xs, J, Jx } : St28) w1.heap.size M1 j K W4.drew) := zh (hA.out.ext O.out (X4.trans hd0) (fun b hb => by
    subst hM1
    rcases hb with hb | hb
    ·exact .inl hb
    ·exact .inr (by omega)))
   have HMl4 : Hid (∀ b, M1 b → b < W4.drew.heap.size) := zh (fun b hb => by
    subst hM1
    have h1 : pb < W4.heap.size := lt_of_heap HP4
    have h2 := hd0.size
    rcases hb with hb | hb
    ·have := hMl.out b hb
     have := X4.size
     omega
    ·omega)
   have HI4 : Hid (Ints W4.drew (some ⟨bL, oL, none⟩) LV) := zh (hI.out.ext (X4.trans hd0))
   obtain ⟨gs, hgs⟩ : ∃ l : List Nat, l = [pb, lb, mb, sb, gM] := ⟨_, rfl⟩
   have HPW : Hid (w1.heap.size ≤ pb) := zh (by rw [← hpb]; exact hA.out.big)
   have HGS : Hid (∀ k ∈ gs, k = pb ∨ k < w.heap.size) := zh (fun k hk => by
    subst hgs
    have h1 := lt_of_heap HLB.out
    have h2 := lt_of_heap HMB.out
    have h3 := lt_of_heap HSB.out
    have h4 := HGM.out
    simp only [List.mem_cons, List.not_mem_nil, or_false] at hk
    rcases hk with rfl | rfl | rfl | rfl | rfl
    ·exact .inl rfl
    all_goals exact .inr (by omega))
   have HM1 : Hid (∀ b, M1 b ↔ M0 b ∨ b = pb) := zh (fun b => by rw [hM1])
   have hw1l : l < w1.heap.size := O.out.lY.1
   have NK : Hid (∀ (j' : Nat) (K' : Nat → Prop) (V : World), St28.At ({ w, f, t, fb, tb, bY := w1.heap.size, lY := l, xs, J, Jx } : St28) w1.heap.size M1 j' K' V → ∀ k ∈ gs, ¬ (K' k ∨ k = l)) := zh (fun j' K' V h k hk => by
    have hp := HPW.out
    rcases HGS.out k hk with rfl | hlt
    ·rintro (h1 | h1)
     ·exact (h.free _ h1).2.2 ((HM1.out _).2 (.inr rfl))
     ·omega
    ·rintro (h1 | h1)
     ·have h5 : w.heap.size ≤ k := (h.free _ h1).1
      omega
     ·omega)
   have NM : Hid (∀ (j' : Nat) (K' : Nat → Prop) (V : World), St28.At ({ w, f, t, fb, tb, bY := w1.heap.size, lY := l, xs, J, Jx } : St28) w1.heap.size M1 j' K' V → ∀ g, (∃ off s, (some ⟨bL, oL, none⟩ : Option Addr) = some ⟨g, off, s⟩) → ¬ (K' g ∨ g = l)) := zh (fun j' K' V h g hg => by
    have hm0 : M0 g := by rw [HM0.out]; exact hg
    rintro (h1 | h1)
    ·exact (h.free _ h1).2.2 ((HM1.out _).2 (.inl hm0))
    ·have h2 := (HMB0.out g hm0).1
     have h3 := HX2.out.size
     omega)
   have HLT4 : Hid (∀ k ∈ gs, k < W4.heap.size) := zh (fun k hk => by
    have h1 := X4.size
    have h2 : w.heap.size ≤ wr.heap.size := hA.out.below.size
    have h3 := lt_of_heap HP4
    rcases HGS.out k hk with rfl | hlt
    ·exact h3
    ·omega)
   have HLV4 : ∀ (V : World), Hid (∀ k ∈ gs, V.heap[k]? = W4.heap[k]?) → ∀ k ∈ gs, k < V.heap.size := fun V h k hk => by
    have h1 := h.out k hk
    rw [Array.getElem?_eq_getElem (HLT4.out k hk)] at h1
    exact lt_of_heap h1
   have HE4 : Hid (∀ k ∈ gs, W4.drew.heap[k]? = W4.heap[k]?) := zh (fun k hk => rfl)
   have m0 : pb ∈ gs := by rw [hgs]; simp
   have m1 : lb ∈ gs := by rw [hgs]; simp
   have m2 : mb ∈ gs := by rw [hgs]; simp
   have m3 : sb ∈ gs := by rw [hgs]; simp
   have m4 : gM ∈ gs := by rw [hgs]; simp
   have y2 := cell_of_row _ _ 2 _ _ _ HP4
   have y3 := cell_of_row _ _ 3 _ _ _ HP4
   have y4 := cell_of_row _ _ 4 _ _ _ HP4
   simp at y2 y3 y4
   have z1 := cell_of_row _ _ 0 _ _ _ (ext_block HF1.out X4)
   have z2 := cell_of_row _ _ 0 _ _ _ (ext_block HF2.out X4)
   have z3 := cell_of_row _ _ 0 _ _ _ (ext_block HF3.out X4)
   simp at z1 z2 z3
   have z4 : W4.cell? ⟨gM, oM + n, none⟩ = some (.int .i64 mk) := (World.cell?_of_block (w := wr) (a := ⟨gM, oM + n, none⟩) (X4.below.block gM HBM.out)).trans HE2.out
   have kx0 : ∀ x : EdL W4 gs, x.V.cell? ⟨pb, 2, none⟩ = some (.int .i64 nd0.lo) := fun x => x.cell m0 y2
   have kx1 : ∀ x : EdL W4 gs, x.V.cell? ⟨pb, 3, none⟩ = some (.int .i64 nd0.inn) := fun x => x.cell m0 y3
   have kx2 : ∀ x : EdL W4 gs, x.V.cell? ⟨pb, 4, none⟩ = some (.int .i64 nd0.hi) := fun x => x.cell m0 y4
   have kx3 : ∀ x : EdL W4 gs, x.V.cell? ⟨lb, 0, none⟩ = _ := fun x => x.cell m1 z1
   have kx4 : ∀ x : EdL W4 gs, x.V.cell? ⟨mb, 0, none⟩ = _ := fun x => x.cell m2 z2
   have kx5 : ∀ x : EdL W4 gs, x.V.cell? ⟨sb, 0, none⟩ = _ := fun x => x.cell m3 z3
   have kx6 : ∀ x : EdL W4 gs, x.V.cell? ⟨gM, oM + n, none⟩ = _ := fun x => x.cell m4 z4
   have kl0 : ∀ x : EdL W4 gs, pb < x.V.heap.size := fun x => x.lt m0 (HLT4.out _ m0)
   have kl1 : ∀ x : EdL W4 gs, lb < x.V.heap.size := fun x => x.lt m1 (HLT4.out _ m1)
   have kl2 : ∀ x : EdL W4 gs, mb < x.V.heap.size := fun x => x.lt m2 (HLT4.out _ m2)
   have kl3 : ∀ x : EdL W4 gs, sb < x.V.heap.size := fun x => x.lt m3 (HLT4.out _ m3)
   have kl4 : ∀ x : EdL W4 gs, gM < x.V.heap.size := fun x => x.lt m4 (HLT4.out _ m4)
   have HP4' := zh HP4
   clear hW4 hpb X4 HP4 d0 d1 d2 d3 d4 d5 d6 d7 y2 y3 y4 z1 z2 z3 z4 b0 bl e1 hbL hbA hM1 hgs hd0
   refine wp_region_btwC (T := EdL W4 gs) EdL.V (36) (pures_bt [0, 1, 2] (softs_bt [3] (.step 4 (pures_bt [5, 6, 7, 8, 10, 13] (softs_bt [9, 11, 12, 14, 15] (.step 16 (pures_bt [17, 18, 19, 20, 21, 23, 27, 30] (softs_bt [22, 24, 25, 26, 29, 31, 32] (.step 28 (.step 33 (pures_bt [34, 35] .fin))))))))))) (by kernel_rfl) (by kernel_rfl) ⟨⟨W4.drew, fun _ _ => rfl⟩, rfl⟩ ?_
   (refine btw_pures _ fun K hK => ?_); (simp only [pick, nthC]); (repeat (go_big_quiet_step (fail))); (refine wpQuiet_nil (hK _ ?_)); (clear hK K)
   (refine btw_softs _ fun K hK => ?_); (simp only [pick, nthC]); (repeat (go_big_quiet_step (fail))); (refine wpQuiet_nil (hK _ ?_)); (clear hK K)
   (refine btw_step fun next hn => ?_); (simp only [pick, nthC])
   go_wp2_with fail
   refine (some_any28 ({ w, f, t, fb, tb, bY := w1.heap.size, lY := l, xs, J, Jx } : St28) w1.heap.size O.out M1 (j) K W4.drew A4.out HMl4.out x nd0.lo 0 1 C4.out.1).mono ?_
   rintro e V5 ⟨t5, (⟨rfl, K5, hA5⟩ | ⟨rfl, hone, hJx, hbig⟩)⟩
   ·have HE5 : Hid (∀ k ∈ gs, V5.heap[k]? = W4.heap[k]?) := zh fun k hk => (t5.block k (HLV4 W4.drew HE4 k hk) (NK.out _ _ _ A4.out k hk)).trans (HE4.out k hk)
    have A5 := zh hA5
    have HMl5 : Hid (∀ b, M1 b → b < V5.heap.size) := zh fun b hb => Nat.lt_of_lt_of_le (HMl4.out b hb) t5.size
    have HI5 : Hid (Ints V5 (some ⟨bL, oL, none⟩) LV) := zh (HI4.out.turn t5 (fun g off s he => NM.out _ _ _ A4.out g ⟨off, s, he⟩))
    clear t5 hA5
    go_wp2_with fail
    refine segQ_mk (fun _ => ⟨⟨_, HE5.out⟩, rfl⟩) (hn _ _ ?_)
    clear hn next
    (refine btw_pures _ fun K hK => ?_); (simp only [pick, nthC]); (repeat (go_big_quiet_step (fail))); (refine wpQuiet_nil (hK _ ?_)); (clear hK K)
    (refine btw_softs _ fun K hK => ?_); (simp only [pick, nthC]); (repeat (go_big_quiet_step (fail))); (refine wpQuiet_nil (hK _ ?_)); (clear hK K)
    (refine btw_step fun next hn => ?_); (simp only [pick, nthC])
    go_wp2_with fail
    refine (some_any28 ({ w, f, t, fb, tb, bY := w1.heap.size, lY := l, xs, J, Jx } : St28) w1.heap.size O.out M1 (j + (clip f t x nd0.lo 0 1).length) K5 V5 A5.out HMl5.out nd0.lo nd0.inn 0 mk C5.out.1).mono ?_
    rintro e V6 ⟨t6, (⟨rfl, K6, hA6⟩ | ⟨rfl, hone, hJx, hbig⟩)⟩
    ·have HE6 : Hid (∀ k ∈ gs, V6.heap[k]? = W4.heap[k]?) := zh fun k hk => (t6.block k (HLV4 V5 HE5 k hk) (NK.out _ _ _ A5.out k hk)).trans (HE5.out k hk)
     have A6 := zh hA6
     have HMl6 : Hid (∀ b, M1 b → b < V6.heap.size) := zh fun b hb => Nat.lt_of_lt_of_le (HMl5.out b hb) t6.size
     have HI6 : Hid (Ints V6 (some ⟨bL, oL, none⟩) LV) := zh (HI5.out.turn t6 (fun g off s he => NM.out _ _ _ A5.out g ⟨off, s, he⟩))
     clear t6 hA6
     go_wp2_with fail
     refine segQ_mk (fun _ => ⟨⟨_, HE6.out⟩, rfl⟩) (hn _ _ ?_)
     clear hn next
     (refine btw_pures _ fun K hK => ?_); (simp only [pick, nthC]); (repeat (go_big_quiet_step (fail))); (refine wpQuiet_nil (hK _ ?_)); (clear hK K)
     (refine btw_softs _ fun K hK => ?_); (simp only [pick, nthC]); (repeat (go_big_quiet_step (fail))); (refine wpQuiet_nil (hK _ ?_)); (clear hK K)
     clear kx0 kx1 kx2 kx3 kx4 kx5 kx6 kl0 kl1 kl2 kl3 kl4
     (refine btw_step fun next hn => ?_); (simp only [pick, nthC])
     go_wp2_with fail
     refine (HLF.out n V6 hnl A6.out.below).mono ?_
     rintro e V7 ⟨rfl, hx7⟩
     have HE7 : Hid (∀ k ∈ gs, V7.heap[k]? = W4.heap[k]?) := zh fun k hk => (hx7.below.block k (HLV4 V6 HE6 k hk)).trans (HE6.out k hk)
     have A7 := zh (A6.out.ext O.out hx7 (M' := M1) (fun b hb => .inl hb))
     have HMl7 : Hid (∀ b, M1 b → b < V7.heap.size) := zh fun b hb => Nat.lt_of_lt_of_le (HMl6.out b hb) hx7.size
     have HI7 := zh (HI6.out.ext hx7)
     clear hx7
     go_wp2_with fail
     refine segQ_mk (fun _ => ⟨⟨_, HE7.out⟩, rfl⟩) (hn _ _ ?_)
     clear hn next
     (refine btw_step fun next hn => ?_); (simp only [pick, nthC])
     go_wp2_with fail
     refine (some_any28 ({ w, f, t, fb, tb, bY := w1.heap.size, lY := l, xs, J, Jx } : St28) w1.heap.size O.out M1 (j + (clip f t x nd0.lo 0 1).length + (clip f t nd0.lo nd0.inn 0 mk).length) K6 V7 A7.out HMl7.out nd0.inn nd0.hi (sv n) mk C6.out.1).mono ?_
     rintro e V8 ⟨t8, (⟨rfl, K8, hA8⟩ | ⟨rfl, hone, hJx, hbig⟩)⟩
     ·have HE8 : Hid (∀ k ∈ gs, V8.heap[k]? = W4.heap[k]?) := zh fun k hk => (t8.block k (HLV4 V7 HE7 k hk) (NK.out _ _ _ A7.out k hk)).trans (HE7.out k hk)
      have A8 := zh hA8
      have HMl8 : Hid (∀ b, M1 b → b < V8.heap.size) := zh fun b hb => Nat.lt_of_lt_of_le (HMl7.out b hb) t8.size
      have HI8 : Hid (Ints V8 (some ⟨bL, oL, none⟩) LV) := zh (HI7.out.turn t8 (fun g off s he => NM.out _ _ _ A7.out g ⟨off, s, he⟩))
      clear t8 hA8
      go_wp2_with fail
      refine segQ_mk (fun _ => ⟨⟨_, HE8.out⟩, rfl⟩) (hn _ _ ?_)
      clear hn next
      (refine btw_pures _ fun K hK => ?_); (simp only [pick, nthC]); (repeat (go_big_quiet_step (fail))); (refine wpQuiet_nil (hK _ ?_)); (clear hK K)
      (refine btw_fin ?_)
      have y4 : V8.cell? ⟨pb, 4, none⟩ = some (.int .i64 nd0.hi) := (World.cell?_of_block (w := W4) (a := ⟨pb, 4, none⟩) (HE8.out pb m0)).trans (by have := cell_of_row _ _ 4 _ _ _ HP4'.out; simpa using this)
      have yl := HLV4 V8 HE8 pb m0
      go_wp2_with fail
      go_roundw
      case rel => exact ⟨q + 1, _, nd0.hi, K8, by omega, xs_le (xs_le (xs_le hjx C4.out.1) C5.out.1) C6.out.1, by go_num, rfl, zh (A8.out.mono (fun b hb => (HM1.out b).2 (.inl hb))), HJ6, HI8, zh (fun b hb => HMl8.out b ((HM1.out b).2 (.inl hb)))⟩
      case measure => simp [intOf]; omega
     ·have HE : Hid (∀ k ∈ gs, V8.heap[k]? = W4.heap[k]?) := zh fun k hk => (t8.block k (HLV4 V7 HE7 k hk) (NK.out _ _ _ A7.out k hk)).trans (HE7.out k hk)
      have HBG := zh hbig
      have HJX := zh hJx
      have HJL : Hid (j + (clip f t x nd0.lo 0 1).length + (clip f t nd0.lo nd0.inn 0 mk).length + 1 ≤ xs.length) := zh (by
       have hone' : (clip f t nd0.inn nd0.hi (sv n) mk).length = 1 := hone
       obtain ⟨y, hy⟩ : ∃ y, (clip f t nd0.inn nd0.hi (sv n) mk)[0]? = some y := ⟨_, List.getElem?_eq_getElem (by omega)⟩
       have h9 := (List.getElem?_eq_some_iff.1 (C6.out.1 0 y hy)).1
       omega)
      clear t8 hJx hbig hone
      go_wp2_with fail
      refine segQ_mk (fun _ => ⟨⟨_, HE.out⟩, rfl⟩) (hn _ _ ?_)
      clear hn next
      (refine btw_pures _ fun K hK => ?_); (simp only [pick, nthC]); (repeat (go_big_quiet_step (fail))); (refine wpQuiet_nil (hK _ ?_)); (clear hK K)
      (refine btw_fin ?_)
      go_wp2_with fail
      refine bodyPost_ret (results_none rfl _ _ _) rfl ?_
      exact ⟨⟨_, rfl⟩, HBG.out, .inr ⟨_, HJL.out, HJX.out⟩⟩
    ·have HE : Hid (∀ k ∈ gs, V6.heap[k]? = W4.heap[k]?) := zh fun k hk => (t6.block k (HLV4 V5 HE5 k hk) (NK.out _ _ _ A5.out k hk)).trans (HE5.out k hk)
     have HBG := zh hbig
     have HJX := zh hJx
     have HJL : Hid (j + (clip f t x nd0.lo 0 1).length + 1 ≤ xs.length) := zh (by
      have hone' : (clip f t nd0.lo nd0.inn 0 mk).length = 1 := hone
      obtain ⟨y, hy⟩ : ∃ y, (clip f t nd0.lo nd0.inn 0 mk)[0]? = some y := ⟨_, List.getElem?_eq_getElem (by omega)⟩
      have h9 := (List.getElem?_eq_some_iff.1 (C5.out.1 0 y hy)).1
      omega)
     clear t6 hJx hbig hone kx0 kx1 kx2 kx3 kx4 kx5 kx6 kl0 kl1 kl2 kl3 kl4
     go_wp2_with fail
     refine segQ_mk (fun _ => ⟨⟨_, HE.out⟩, rfl⟩) (hn _ _ ?_)
     clear hn next
     (refine btw_pures _ fun K hK => ?_); (simp only [pick, nthC]); (repeat (go_big_quiet_step (fail))); (refine wpQuiet_nil (hK _ ?_)); (clear hK K)
     (refine btw_softs _ fun K hK => ?_); (simp only [pick, nthC]); (repeat (go_big_quiet_step (fail))); (refine wpQuiet_nil (hK _ ?_)); (clear hK K)
     (refine btw_step fun next hn => ?_); (simp only [pick, nthC])
     go_wp2_with fail
     refine segQ_mk (fun _ => ⟨⟨_, HE.out⟩, rfl⟩) (hn _ _ ?_)
     clear hn next
     (refine btw_step fun next hn => ?_); (simp only [pick, nthC])
     go_wp2_with fail
     refine segQ_mk (fun _ => ⟨⟨_, HE.out⟩, rfl⟩) (hn _ _ ?_)
     clear hn next
     (refine btw_pures _ fun K hK => ?_); (simp only [pick, nthC]); (repeat (go_big_quiet_step (fail))); (refine wpQuiet_nil (hK _ ?_)); (clear hK K)
     (refine btw_fin ?_)
     go_wp2_with fail
     refine bodyPost_ret (results_none rfl _ _ _) rfl ?_
     exact ⟨⟨_, rfl⟩, HBG.out, .inr ⟨_, HJL.out, HJX.out⟩⟩
   ·have HE : Hid (∀ k ∈ gs, V5.heap[k]? = W4.heap[k]?) := zh fun k hk => (t5.block k (HLV4 W4.drew HE4 k hk) (NK.out _ _ _ A4.out k hk)).trans (HE4.out k hk)
    have HBG := zh hbig
    have HJX := zh hJx
    have HJL : Hid (j + 1 ≤ xs.length) := zh (by
     have hone' : (clip f t x nd0.lo 0 1).length = 1 := hone
     obtain ⟨y, hy⟩ : ∃ y, (clip f t x nd0.lo 0 1)[0]? = some y := ⟨_, List.getElem?_eq_getElem (by omega)⟩
     have h9 := (List.getElem?_eq_some_iff.1 (C4.out.1 0 y hy)).1
     omega)
    clear t5 hJx hbig hone kx0 kx1 kx2 kx3 kx4 kx5 kx6 kl0 kl1 kl2 kl3 kl4
    go_wp2_with fail
    refine segQ_mk (fun _ => ⟨⟨_, HE.out⟩, rfl⟩) (hn _ _ ?_)
    clear hn next
    (refine btw_pures _ fun K hK => ?_); (simp only [pick, nthC]); (repeat (go_big_quiet_step (fail))); (refine wpQuiet_nil (hK _ ?_)); (clear hK K)
    (refine btw_softs _ fun K hK => ?_); (simp only [pick, nthC]); (repeat (go_big_quiet_step (fail))); (refine wpQuiet_nil (hK _ ?_)); (clear hK K)
    (refine btw_step fun next hn => ?_); (simp only [pick, nthC])
    go_wp2_with fail
    refine segQ_mk (fun _ => ⟨⟨_, HE.out⟩, rfl⟩) (hn _ _ ?_)
    clear hn next
    (refine btw_pures _ fun K hK => ?_); (simp only [pick, nthC]); (repeat (go_big_quiet_step (fail))); (refine wpQuiet_nil (hK _ ?_)); (clear hK K)
    (refine btw_softs _ fun K hK => ?_); (simp only [pick, nthC]); (repeat (go_big_quiet_step (fail))); (refine wpQuiet_nil (hK _ ?_)); (clear hK K)
    (refine btw_step fun next hn => ?_); (simp only [pick, nthC])
    go_wp2_with fail
    refine segQ_mk (fun _ => ⟨⟨_, HE.out⟩, rfl⟩) (hn _ _ ?_)
    clear hn next
    (refine btw_step fun next hn => ?_); (simp only [pick, nthC])
    go_wp2_with fail
    refine segQ_mk (fun _ => ⟨⟨_, HE.out⟩, rfl⟩) (hn _ _ ?_)
    clear hn next
    (refine btw_pures _ fun K hK => ?_); (simp only [pick, nthC]); (repeat (go_big_quiet_step (fail))); (refine wpQuiet_nil (hK _ ?_)); (clear hK K)
    (refine btw_fin ?_)
    go_wp2_with fail
    refine bodyPost_ret (results_none rfl _ _ _) rfl ?_
    exact ⟨⟨_, rfl⟩, HBG.out, .inr ⟨_, HJL.out, HJX.out⟩⟩
  ·obtain rfl : q = LV.length := by omega
   have hx0 := hX.out
   rw [List.drop_eq_nil_of_le (Nat.le_refl _)] at hx0
   obtain ⟨⟨nd0, kA, kcap⟩, hpp⟩ : ∃ p, ps[0]? = some p := ⟨_, List.getElem?_eq_getElem hpos⟩
   have hnd : ndAt (nds ps) 0 = nd0 := by unfold ndAt; rw [show (0 : Int).toNat = 0 from rfl, nds_get hpp]; rfl
   have hx1 : xs.drop j = clip f t x nd0.hi 0 1 ++ [] := by rw [List.append_nil, ← hnd]; exact hx0
   have C4 := zh (xs_app hx1)
   have HEN : Hid (j + (clip f t x nd0.hi 0 1).length = xs.length) := zh (by
    have h1 := xs_le hjx C4.out.1
    have h2 := congrArg List.length C4.out.2
    rw [List.length_drop, List.length_nil] at h2
    omega)
   obtain ⟨bA, oA, hAA, hbA, hcA⟩ := (HS.out.below hA.out.below).parts hpos
   subst hAA
   have d4 := (hcA 0 _ hpp).2.2.2.2.1
   simp only [Nat.zero_mul, Nat.add_zero] at d4
   have f1 : wr.heap[lb]? = _ := (hA.out.below.block _ (lt_of_heap HLB.out)).trans HLB.out
   have b0 := cell_of_row _ _ 0 _ _ _ f1
   simp at b0
   have bl := lt_of_heap f1
   clear hcA hpp hnd hx0 hx1 f1
   go_wp2_with fail
   refine (some_any28 ({ w, f, t, fb, tb, bY := w1.heap.size, lY := l, xs, J, Jx } : St28) w1.heap.size O.out M0 j K wr hA.out hMl.out x nd0.hi 0 1 C4.out.1).mono ?_
   rintro e V5 ⟨t5, (⟨rfl, K5, hA5⟩ | ⟨rfl, hone, hJx, hbig⟩)⟩
   ·have HA5 := zh hA5
    clear t5 hA5 d4 b0 bl hbA
    go_wp2_with fail
    go_end0
    refine ⟨⟨_, rfl⟩, HA5.out.big, .inl ⟨K5, ?_⟩⟩
    rw [← HEN.out]
    exact HA5.out.st
   ·have HBG := zh hbig
    have HJX := zh hJx
    have HONE : Hid ((clip f t x nd0.hi 0 1).length = 1) := zh hone
    clear t5 hJx hbig hone d4 b0 bl hbA
    go_wp2_with fail
    go_end0
    exact ⟨⟨_, rfl⟩, HBG.out, .inr ⟨j + 1, by have := HEN.out; have := HONE.out; omega, HJX.out⟩⟩
end Go.Proofs.YthpmncdfaggkiaaGreat
