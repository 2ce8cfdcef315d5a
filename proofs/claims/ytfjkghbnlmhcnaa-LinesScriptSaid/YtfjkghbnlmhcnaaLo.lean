/- slices.Replace in general: the walk where there is room. -/
import Derived.Test.YtfjkghbnlmhcnaaLq
import Derived.WalkSpells
import Derived.WalkLawsBesides
import Derived.BigRegion
import Derived.Deep.RegionWith
import Derived.Deep.QuietTactic
import Derived.Deep.DeepCutAuto
import Derived.Deep.RegionHeld3
import Derived.Deep.RegionLaw
import Derived.BigQuiet
import Derived.Lib.Hide
namespace Go.Proofs.Ytfjkghbnlmhcnaa
open Go.RowKit
attribute [local go_sem] more_drew more_drewN more_size more_cell more_frozen more_setCell drew_more drewN_more lt_add_r lt_add_r2 lt_add_r3 lt_add_r4 lt_add_r5 lt_add_r6 lt_add_r7 lt_add_r8 lt_add_r9 lt_add_r10 lt_self_r lt_self_r2

theorem big_list (cs rest vs : List Value) (i j : Nat) (hi : i ≤ j) (hj : j ≤ cs.length) (hr : rest.length + j = i + vs.length) :
    ((cs ++ rest).take (i + vs.length) ++ cs.drop j ++ (cs ++ rest).drop (i + vs.length + (cs.drop j).length)).take i ++ vs ++ ((cs ++ rest).take (i + vs.length) ++ cs.drop j ++ (cs ++ rest).drop (i + vs.length + (cs.drop j).length)).drop (i + vs.length) = cs.take i ++ vs ++ cs.drop j := by
  have e1 : (cs ++ rest).drop (i + vs.length + (cs.drop j).length) = [] := List.drop_eq_nil_of_le (by rw [List.length_append, List.length_drop]; omega)
  obtain ⟨P, hP⟩ : ∃ P, (cs ++ rest).take (i + vs.length) = P := ⟨_, rfl⟩
  have hPl : P.length = i + vs.length := by rw [← hP, List.length_take, List.length_append]; omega
  have e2 : P.take i = cs.take i := by rw [← hP, List.take_take, Nat.min_eq_left (by omega), List.take_append_of_le_length (by omega)]
  rw [e1, hP, List.append_nil, List.take_append_of_le_length (by omega), List.drop_append_of_le_length (by omega), e2, List.drop_eq_nil_of_le (Nat.le_of_eq hPl)]
  rfl
set_option maxRecDepth 100000 in
set_option maxHeartbeats 1000000 in
/-- within, more come than go, there is room -/
theorem rep_big (base g c b' cb : Nat) (xs vs : List Int) (i j : Nat) (V : World) (hij : i < j) (hj : j < xs.length) (hroom : i + vs.length + (xs.length - j) ≤ c) (hmore : j < i + vs.length) (hA : OwnI V base (some ⟨g, 0, none⟩) c xs) (hB : OwnI V base (some ⟨b', 0, none⟩) cb vs) (hne : b' ≠ g) :
    Calls Try.prog 43 #[.slice (some ⟨g, 0, none⟩) xs.length c, .int .i64 i, .int .i64 j, .slice (some ⟨b', 0, none⟩) vs.length cb] V (RepRet V base (some ⟨g, 0, none⟩) (xs.take i ++ vs ++ xs.drop j)) := by
  have a1 := hA.ints.2.1
  have a2 := hA.ints.2.2.1
  have a3 := hB.ints.2.1
  unfold maxLen at a2
  obtain ⟨W0, hW0⟩ : ∃ W0, V.drew = W0 := ⟨_, rfl⟩
  have HW0 := Lib.hid hW0
  have X0 : Hid (Turn (· = g) V W0) := Lib.hid (by rw [← hW0]; exact Turn.of_ext (by repeat (first | exact Ext.refl _ | refine Ext.alloc ?_ _ | refine Ext.more ?_ _ _ | refine Ext.drew ?_ | refine Ext.drewN ?_ _ | refine Ext.setCell ?_ (by simp <;> omega) _)))
  have X1 : Turn (fun _ => False) V W0 := by rw [← hW0]; exact Turn.of_ext (by repeat (first | exact Ext.refl _ | refine Ext.alloc ?_ _ | refine Ext.more ?_ _ _ | refine Ext.drew ?_ | refine Ext.drewN ?_ _ | refine Ext.setCell ?_ (by simp <;> omega) _))
  have RA : OwnR W0 base g c (iv xs) := (OwnR.of hA).keep X1 id
  have RB : OwnR W0 base b' cb (iv vs) := (OwnR.of hB).keep X1 id
  have hyl : (xs.take i ++ vs ++ xs.drop j).length = i + vs.length + (xs.length - j) := by rw [List.length_append, List.length_append, List.length_take, List.length_drop]; omega
  obtain ⟨rest, hrl, RW⟩ := RA.widen (i + vs.length + (xs.length - j)) (by rw [iv_length]; omega) hroom
  rw [iv_length] at hrl
  have hwl : (iv xs ++ rest).length = i + vs.length + (xs.length - j) := by rw [List.length_append, iv_length, hrl]; omega
  have hdl : (iv (xs.drop j)).length = xs.length - j := by rw [iv_length, List.length_drop]
  have hvl : (iv vs).length = vs.length := iv_length vs
  have RW' : OwnR W0.drew base g c (iv xs ++ rest) := RW
  have RA' : OwnR W0.drew base g c (iv xs) := RA
  have F1 := fun dl (h : dl = xs.length - j) ty dc sc => copy_run RW' (i + vs.length) ⟨g, j, none⟩ (iv (xs.drop j)) (by omega) (xs.length - j) dl (by rw [hdl, h]; simp only [Nat.min_def]; split <;> omega)
      (fun q v hq => by
        rw [← iv_drop, List.getElem?_drop] at hq
        rw [Addr.add_lit]
        exact RA'.cell hq) (fun v hv => iv_one hv) ty dc sc
  have O1 := RW'.put (i + vs.length) (iv (xs.drop j)) (by omega)
  have T1 : Turn (· = g) W0 (W0.drew.setCells g (i + vs.length) (iv (xs.drop j))) := Turn.trans (Turn.of_ext (by repeat (first | exact Ext.refl _ | refine Ext.alloc ?_ _ | refine Ext.more ?_ _ _ | refine Ext.drew ?_ | refine Ext.drewN ?_ _ | refine Ext.setCell ?_ (by simp <;> omega) _))) (Turn.setCells (S := (· = g)) rfl _ _ _)
  have B1 := RB.keep T1 hne
  obtain ⟨W1, hW1⟩ : ∃ W1, W0.drew.setCells g (i + vs.length) (iv (xs.drop j)) = W1 := ⟨_, rfl⟩
  rw [hW1] at F1 O1 T1 B1
  have hol : ((iv xs ++ rest).take (i + vs.length) ++ iv (xs.drop j) ++ (iv xs ++ rest).drop (i + vs.length + (iv (xs.drop j)).length)).length = i + vs.length + (xs.length - j) := by rw [List.length_append, List.length_append, List.length_take, List.length_drop, hwl, hdl]; omega
  have F2 := fun dl (h : dl = vs.length + (xs.length - j)) ty dc => copy_run O1 i ⟨b', 0, none⟩ (iv vs) (by rw [hol, hvl]; omega) vs.length dl (by rw [hvl, h]; simp only [Nat.min_def]; split <;> omega)
      (fun q v hq => by rw [Addr.add_lit]; exact B1.cell (by simpa using hq)) (fun v hv => iv_one hv) ty dc cb
  have O2 := O1.put i (iv vs) (by rw [hol, hvl]; omega)
  have e9 := big_list (iv xs) rest (iv vs) i j (by omega) (by rw [iv_length]; omega) (by rw [hrl, hvl]; omega)
  rw [hvl, iv_drop] at e9
  rw [hvl, e9, iv_take, ← iv_append, ← iv_append] at O2
  have T2 := Turn.trans T1 (Turn.setCells (S := (· = g)) rfl (iv vs) i W1)
  have hov := fun la ca => apart_run RA RB (Ne.symm hne) (by omega) (i + vs.length) 0 la ca vs.length cb
  obtain ⟨W2, hW2⟩ : ∃ W2, W1.setCells g i (iv vs) = W2 := ⟨_, rfl⟩
  rw [hW2] at F2 O2 T2
  have HO2 := Lib.hid O2
  have HT2 := Lib.hid (X0.out.trans T2)
  have HYL := Lib.hid hyl
  obtain ⟨m, hm'⟩ : ∃ m, vs.length = m := ⟨_, rfl⟩
  obtain ⟨r, hr⟩ : ∃ r, xs.length = j + r := ⟨xs.length - j, by omega⟩
  have hr2 : xs.length - j = r := by omega
  rw [hr2, hm'] at F1 F2 HYL hroom
  rw [hm'] at hov a3 hmore ⊢
  rw [hr] at hj a1 ⊢
  obtain ⟨ys, hys⟩ : ∃ ys, xs.take i ++ vs ++ xs.drop j = ys := ⟨_, rfl⟩
  rw [hys] at HO2 HYL ⊢
  have q1 : ¬ ((i : Int) = (j : Int)) := by omega
  have q2 : ¬ ((j : Int) = (j : Int) + (r : Int)) := by omega
  have q3 : ¬ (c = i) := by omega
  have q4 : ¬ (c = j) := by omega
  have q5 : ¬ ((c : Int) < (i : Int) + (m : Int) + (r : Int)) := by omega
  have q7 : ¬ (c = i + m) := by omega
  have w1 : IntKind.i64.wrap ((i : Int) + (m : Int)) = (i : Int) + (m : Int) := by rw [IntKind.wrap_i64]; omega
  have w2 : IntKind.i64.wrap ((i : Int) + (m : Int) + (r : Int)) = (i : Int) + (m : Int) + (r : Int) := by rw [IntKind.wrap_i64]; omega
  have b1 : (0 : Int) ≤ (i : Int) + (m : Int) := by omega
  have b2 : ((i : Int) + (m : Int)).toNat = i + m := by omega
  have b3 : (i : Int) + (m : Int) ≤ (i : Int) + (m : Int) + (r : Int) := by omega
  have b4 : (j : Int) ≤ (j : Int) + (r : Int) := by omega
  have b5 : ((i : Int) + (m : Int) + (r : Int)).toNat = i + m + r := by omega
  have b6 : (0 : Int) ≤ (i : Int) + (m : Int) + (r : Int) := by omega
  have b7 : (i : Int) + (m : Int) + (r : Int) ≤ (c : Int) := by omega
  have b8 : (i : Int) ≤ (i : Int) + (m : Int) + (r : Int) := by omega
  have mixed : Try.prog.follows Departure.mixedOrders = true := by kernel_rfl
  have q8 : ¬ ((i : Int) + (m : Int) ≤ (j : Int)) := by omega
  have G1 := F1 r rfl
  have G2 := F2 (i + m + r - i) (by omega)
  clear hA hB RA RB RA' RW RW' hol hwl hdl hvl hrl O1 T1 B1 O2 e9 T2 hyl hm' hW1 hW2 hW0 F1 F2 hr hr2 hys X0 X1
  go_enter Try.func43, Try.ntmps43
  go_upto_region 9 with fail
  refine wp_region_bt (13) (softs_bt [0, 1, 2, 3, 4, 5, 6, 7, 8, 9, 10, 11, 12] .fin) (by kernel_rfl) (by kernel_rfl) ?_
  (refine bt_softs _ fun K hK => ?_); (simp only [pick, nthC]); (repeat (go_big_quiet_step (fail))); (refine wpQuiet_nil (hK _ ?_)); (clear hK K)
  (refine bt_fin ?_)
  rw [HW0.out]
  go_wp2_with (simp only [hov])
  go_region_law_o (refine step_copy_runI rfl _ _ 29 29 rfl _ _ (by simp [Act.eval, Act.put]) (by simp [Act.eval, Act.put]) (G1 _ _ _) ?_)
  go_wp2_with (at_builtin; refine wpList_copy_runI _ rfl _ _ 29 29 rfl _ _ rfl rfl (G2 _ _) ?_)
  go_ret
  exact ⟨some ⟨g, 0, none⟩, c, by rw [HYL.out]; rfl, HO2.out.ints, HT2.out.mono fun k _ hk => .inl (by rw [hk]; rfl), fun b hb => .inl hb⟩
theorem small_list (cs vs : List Value) (i j : Nat) (hij : i + vs.length ≤ j) (hj : j ≤ cs.length) :
    ∃ ds, ds.length = cs.length - (i + vs.length + (cs.length - j)) ∧ (cs.take i ++ vs ++ cs.drop (i + vs.length)).take (i + vs.length) ++ cs.drop j ++ (cs.take i ++ vs ++ cs.drop (i + vs.length)).drop (i + vs.length + (cs.drop j).length) = (cs.take i ++ vs ++ cs.drop j) ++ ds := by
  have hpl : (cs.take i ++ vs).length = i + vs.length := by rw [List.length_append, List.length_take]; omega
  refine ⟨(cs.take i ++ vs ++ cs.drop (i + vs.length)).drop (i + vs.length + (cs.drop j).length), ?_, ?_⟩
  · rw [List.length_drop, List.length_append, hpl, List.length_drop, List.length_drop]; omega
  · congr 1
    congr 1
    rw [List.take_append_of_le_length (by omega), List.take_of_length_le (by omega)]
set_option maxRecDepth 100000 in
set_option maxHeartbeats 1000000 in
/-- within, as many come as go, or fewer -/
theorem rep_small (base g c cb : Nat) (xs vs : List Int) (i j : Nat) (B : Option Addr) (V : World) (hij : i < j) (hj : j < xs.length) (hfew : i + vs.length ≤ j) (hA : OwnI V base (some ⟨g, 0, none⟩) c xs) (hB : OwnI V base B cb vs) :
    Calls Try.prog 43 #[.slice (some ⟨g, 0, none⟩) xs.length c, .int .i64 i, .int .i64 j, .slice B vs.length cb] V (RepRet V base (some ⟨g, 0, none⟩) (xs.take i ++ vs ++ xs.drop j)) := by
  have a1 := hA.ints.2.1
  have a2 := hA.ints.2.2.1
  unfold maxLen at a2
  have hroom : i + vs.length + (xs.length - j) ≤ c := by omega
  obtain ⟨W0, hW0⟩ : ∃ W0, V.drew = W0 := ⟨_, rfl⟩
  have HW0 := Lib.hid hW0
  have E0 : Ext V W0 := by rw [← hW0]; exact (by repeat (first | exact Ext.refl _ | refine Ext.alloc ?_ _ | refine Ext.more ?_ _ _ | refine Ext.drew ?_ | refine Ext.drewN ?_ _ | refine Ext.setCell ?_ (by simp <;> omega) _))
  have X0 : Hid (Turn (· = g) V W0) := Lib.hid (Turn.of_ext E0)
  have RA : OwnR W0 base g c (iv xs) := (OwnR.of hA).keep (S := fun _ => False) (Turn.of_ext E0) id
  have hB0 : OwnI W0 base B cb vs := hB.ext E0
  have hyl : (xs.take i ++ vs ++ xs.drop j).length = i + vs.length + (xs.length - j) := by rw [List.length_append, List.length_append, List.length_take, List.length_drop]; omega
  have hdl : (iv (xs.drop j)).length = xs.length - j := by rw [iv_length, List.length_drop]
  have hvl : (iv vs).length = vs.length := iv_length vs
  have hxl : (iv xs).length = xs.length := iv_length xs
  have F1 := fun dl (h : vs.length ≤ dl) ty dc => copy_row RA hB0 i dl (by omega) h ty dc
  have O1 := RA.put i (iv vs) (by omega)
  have T1 : Turn (· = g) W0 (W0.setCells g i (iv vs)) := Turn.setCells (S := (· = g)) rfl _ _ _
  obtain ⟨W1, hW1⟩ : ∃ W1, W0.setCells g i (iv vs) = W1 := ⟨_, rfl⟩
  rw [hW1] at F1 O1 T1
  rw [hvl] at O1
  obtain ⟨q1, hq1⟩ : ∃ q1, (iv xs).take i ++ iv vs ++ (iv xs).drop (i + vs.length) = q1 := ⟨_, rfl⟩
  have hq1l : q1.length = xs.length := by rw [← hq1, List.length_append, List.length_append, List.length_take, List.length_drop, hxl, hvl]; omega
  have hq1d : ∀ k, i + vs.length ≤ k → q1[k]? = (iv xs)[k]? := fun k hk => by
    rw [← hq1, List.getElem?_append_right (by rw [List.length_append, List.length_take, hvl]; omega), List.length_append, List.length_take, hvl, List.getElem?_drop]
    congr 1
    omega
  obtain ⟨ds, hds, e9⟩ := small_list (iv xs) (iv vs) i j (by omega) (by omega)
  rw [hvl, hxl] at hds
  rw [hvl, hq1, iv_drop] at e9
  rw [hq1] at O1
  have O1' : OwnR W1.drew base g c q1 := O1
  have F2 := fun dl (h : dl = xs.length - j) ty dc sc => copy_run O1' (i + vs.length) ⟨g, j, none⟩ (iv (xs.drop j)) (by omega) (xs.length - j) dl (by rw [hdl, h]; simp only [Nat.min_def]; split <;> omega)
      (fun q v hq => by
        rw [← iv_drop, List.getElem?_drop] at hq
        rw [Addr.add_lit]
        exact O1'.cell (by rw [hq1d _ (by omega)]; exact hq)) (fun v hv => iv_one hv) ty dc sc
  have O2 := O1'.put (i + vs.length) (iv (xs.drop j)) (by omega)
  rw [e9, iv_take, ← iv_append, ← iv_append] at O2
  have T2 : Turn (· = g) W0 (W1.drew.setCells g (i + vs.length) (iv (xs.drop j))) := T1.trans (Turn.trans (Turn.of_ext (by repeat (first | exact Ext.refl _ | refine Ext.alloc ?_ _ | refine Ext.more ?_ _ _ | refine Ext.drew ?_ | refine Ext.drewN ?_ _ | refine Ext.setCell ?_ (by simp <;> omega) _))) (Turn.setCells (S := (· = g)) rfl _ _ _))
  obtain ⟨W2, hW2⟩ : ∃ W2, W1.drew.setCells g (i + vs.length) (iv (xs.drop j)) = W2 := ⟨_, rfl⟩
  rw [hW2] at F2 O2 T2
  obtain ⟨A9, hA9⟩ : ∃ A9 : Option Addr, (if c = i + vs.length + (xs.length - j) then (some ⟨g, 0, none⟩ : Option Addr) else some ⟨g, i + vs.length + (xs.length - j), none⟩) = A9 := ⟨_, rfl⟩
  obtain ⟨W3, F3, O3, T3⟩ := clear_tail O2 0 A9 (fun h => by rw [← hA9, if_neg (by omega), hyl]) (c - (i + vs.length + (xs.length - j)))
  have HO2 := Lib.hid O3
  have HT2 := Lib.hid (X0.out.trans (T2.trans T3))
  have HYL := Lib.hid hyl
  have HDS := Lib.hid hds
  have HF3 := Lib.hid F3
  obtain ⟨m, hm'⟩ : ∃ m, vs.length = m := ⟨_, rfl⟩
  obtain ⟨r, hr⟩ : ∃ r, xs.length = j + r := ⟨xs.length - j, by omega⟩
  have hr2 : xs.length - j = r := by omega
  rw [hr2, hm'] at F2 HYL hroom HDS HF3 hA9
  rw [hm'] at F1 hfew ⊢
  rw [hr] at hj a1 HDS ⊢
  obtain ⟨ys, hys⟩ : ∃ ys, xs.take i ++ vs ++ xs.drop j = ys := ⟨_, rfl⟩
  rw [hys] at HO2 HYL ⊢
  have q1 : ¬ ((i : Int) = (j : Int)) := by omega
  have q2 : ¬ ((j : Int) = (j : Int) + (r : Int)) := by omega
  have q3 : ¬ (c = i) := by omega
  have q4 : ¬ (c = j) := by omega
  have q5 : ¬ ((c : Int) < (i : Int) + (m : Int) + (r : Int)) := by omega
  have q7 : ¬ (c = i + m) := by omega
  have w1 : IntKind.i64.wrap ((i : Int) + (m : Int)) = (i : Int) + (m : Int) := by rw [IntKind.wrap_i64]; omega
  have w2 : IntKind.i64.wrap ((i : Int) + (m : Int) + (r : Int)) = (i : Int) + (m : Int) + (r : Int) := by rw [IntKind.wrap_i64]; omega
  have b1 : (0 : Int) ≤ (i : Int) + (m : Int) := by omega
  have b2 : ((i : Int) + (m : Int)).toNat = i + m := by omega
  have b3 : (i : Int) + (m : Int) ≤ (i : Int) + (m : Int) + (r : Int) := by omega
  have b4 : (j : Int) ≤ (j : Int) + (r : Int) := by omega
  have b5 : ((i : Int) + (m : Int) + (r : Int)).toNat = i + m + r := by omega
  have b6 : (0 : Int) ≤ (i : Int) + (m : Int) + (r : Int) := by omega
  have b7 : (i : Int) + (m : Int) + (r : Int) ≤ (c : Int) := by omega
  have b8 : (i : Int) ≤ (i : Int) + (m : Int) + (r : Int) := by omega
  have mixed : Try.prog.follows Departure.mixedOrders = true := by kernel_rfl
  have q8 : (i : Int) + (m : Int) ≤ (j : Int) := by omega
  have b9 : (i : Int) + (m : Int) + (r : Int) ≤ (j : Int) + (r : Int) := by omega
  have G1 := F1 (i + m + r - i) (by omega)
  have G2 := F2 r rfl
  have G3 := HF3.out (j + r - (i + m + r)) (by have := HDS.out; omega)
  clear hA hB RA hB0 hdl hvl hxl O1 T1 hW1 hq1 hq1l hq1d hds e9 O1' F1 F2 O2 T2 hW2 F3 O3 T3 hyl hm' hr hr2 hys X0 E0 hW0 HF3 HDS
  go_enter Try.func43, Try.ntmps43
  go_upto_region 9 with fail
  refine wp_region_bt (13) (softs_bt [0, 1, 2, 3, 4, 5, 6, 7, 8, 9, 10, 11, 12] .fin) (by kernel_rfl) (by kernel_rfl) ?_
  (refine bt_softs _ fun K hK => ?_); (simp only [pick, nthC]); (repeat (go_big_quiet_step (fail))); (refine wpQuiet_nil (hK _ ?_)); (clear hK K)
  (refine bt_fin ?_)
  rw [HW0.out]
  go_wp2_with (at_builtin; refine wpList_copy_runI _ rfl _ _ 29 29 rfl _ _ rfl rfl (G1 _ _) ?_)
  go_region_law_o (refine step_copy_runI rfl _ _ 29 29 rfl _ _ (by simp [Act.eval, Act.put]) (by simp [Act.eval, Act.put]) (G2 _ _ _) ?_)
  go_wp2_with (at_builtin; refine wpList_clear_runI _ rfl _ 29 rfl _ rfl G3 ?_)
  go_ret
  exact ⟨some ⟨g, 0, none⟩, c, by rw [HYL.out]; rfl, HO2.out.ints, HT2.out.mono fun k _ hk => .inl (by rw [hk]; rfl), fun b hb => .inl hb⟩
/-- slices.Replace, wherever it is -/
theorem rep_any (base : Nat) (xs vs : List Int) (i j : Nat) (hij : i ≤ j) (hj : j ≤ xs.length) (h0 : 0 < xs.length) (hl : xs.length ≤ 1000000) (hv : vs.length ≤ 1000000) : RepOk base xs vs (xs.take i ++ vs ++ xs.drop j) i j := by
  rcases Nat.eq_or_lt_of_le hij with h | h
  · subst h
    rcases Nat.eq_zero_or_pos vs.length with hm | hm
    · have hv0 : vs = [] := List.eq_nil_of_length_eq_zero hm
      subst hv0
      rw [List.append_nil, List.take_append_drop]
      exact rep_same base xs i hj hl
    · exact rep_ins base xs vs i hj h0 hm hl hv
  · rcases Nat.eq_or_lt_of_le hj with h1 | h1
    · subst h1
      rw [List.drop_length, List.append_nil]
      rcases Nat.lt_or_ge (i + vs.length) xs.length with h2 | h2
      · intro V A c B cb hA hB _ _
        obtain ⟨g, rfl⟩ := hA.some h0
        exact rep_cut base g c cb xs vs i B V h2 hl hA hB
      · exact rep_tail base xs vs i h hl hv h2
    · intro V A c B cb hA hB hne hb
      obtain ⟨g, rfl⟩ := hA.some h0
      rcases Nat.lt_or_ge j (i + vs.length) with h2 | h2
      · obtain ⟨b', rfl⟩ := hB.some (by omega)
        rcases Nat.lt_or_ge c (i + vs.length + (xs.length - j)) with h3 | h3
        · exact rep_grow base g c b' cb xs vs i j V h h1 h3 hl hv hA hB hb
        · exact rep_big base g c b' cb xs vs i j V h h1 h3 h2 hA hB fun he => hne g rfl (by rw [he]; rfl)
      · exact rep_small base g c cb xs vs i j B V h h1 h2 hA hB
end Go.Proofs.Ytfjkghbnlmhcnaa
