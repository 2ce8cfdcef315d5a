/- Insertion sort of spans: the walk. -/
import Derived.Test.YtfjkghbnlmhcnaaSc
import Derived.WalkSpells
import Derived.WalkLawsBesides
import Derived.BigRegion
import Derived.Deep.RegionWith
import Derived.Deep.QuietTactic
import Derived.Deep.DeepCutAuto
import Derived.Deep.RegionHeld3
import Derived.Deep.RegionLaw
import Derived.BigQuiet
import Derived.Lib.Hide
namespace Go.Proofs.Ytfjkghbnlmhcnaa
open Go.RowKit
attribute [local go_sem] more_drew more_drewN more_size more_cell more_frozen more_setCell drew_more drewN_more lt_add_r lt_add_r2 lt_add_r3 lt_add_r4 lt_add_r5 lt_add_r6 lt_add_r7 lt_add_r8 lt_add_r9 lt_add_r10 lt_self_r lt_self_r2

theorem OwnS.cell {w : World} {base g c : Nat} {ss : List Sn} (h : OwnS w base (some ⟨g, 0, none⟩) c ss) {k : Nat} {s : Sn} (hk : ss[k]? = some s) : w.cell? ⟨g, k * 2, none⟩ = some (.int .i64 s.1) ∧ w.cell? ⟨g, k * 2 + 1, none⟩ = some (.int .i64 s.2) :=
  ⟨h.row.cell (sv_get hk).1, h.row.cell (sv_get hk).2⟩
theorem OwnS.setAt {w : World} {base g c k : Nat} {ss : List Sn} (h : OwnS w base (some ⟨g, 0, none⟩) c ss) (hk : k < ss.length) (s : Sn) : OwnS ((w.setCell ⟨g, k * 2, none⟩ (.int .i64 s.1)).setCell ⟨g, k * 2 + 1, none⟩ (.int .i64 s.2)) base (some ⟨g, 0, none⟩) c (ss.set k s) := by
  have hc := h.cells.2.2.1
  have := (h.row.set (k * 2) (.int .i64 s.1)).set (k * 2 + 1) (.int .i64 s.2)
  rw [← sv_set ss k s hk] at this
  exact this.spans hc
set_option maxRecDepth 100000 in
set_option maxHeartbeats 3000000 in
theorem sort_in (base g c : Nat) (ss : List Sn) (w : World) (hO : OwnS w base (some ⟨g, 0, none⟩) c ss) (h0 : 0 < ss.length) (hl : ss.length ≤ 1000000) :
    Calls Try.prog 64 #[.slice (some ⟨g, 0, none⟩) ss.length c, .int .i64 0, .int .i64 ss.length, .func (.func 49) #[] #[]] w
      fun e w' => e = .returned (.tuple #[]) ∧ OwnS w' base (some ⟨g, 0, none⟩) c (insAll ss) ∧ Turn (· = g) w w' := by
  obtain ⟨n, hn⟩ : ∃ n, ss.length = n := ⟨_, rfl⟩
  have HO := Lib.hid hO
  rw [hn] at h0 hl ⊢
  have HN := Lib.hid hn
  clear hO hn
  go_enter Try.func64, Try.ntmps64
  go_wp2_with fail
  go_loopw [8] (fun s wr => ∃ i : Nat, 0 < i ∧ i ≤ n ∧ s = .int .i64 i ∧ Hid (OwnS wr base (some ⟨g, 0, none⟩) c (insAll (ss.take i) ++ ss.drop i)) ∧ Hid (Turn (· = g) w wr)) (fun s _ => n + 1 - (intOf s).toNat)
  case atStart =>
    refine ⟨1, by omega, by omega, rfl, Lib.hid ?_, Lib.hid (Turn.of_ext (by repeat (first | exact Ext.refl _ | refine Ext.alloc ?_ _ | refine Ext.more ?_ _ _ | refine Ext.drew ?_ | refine Ext.drewN ?_ _ | refine Ext.setCell ?_ (by simp <;> omega) _)))⟩
    have e : insAll (ss.take 1) = ss.take 1 := by
      cases hs : ss with
      | nil => rfl
      | cons a r => rfl
    rw [e, List.take_append_drop]
    exact HO.out
  case round =>
    obtain ⟨i, hi0, hin, rfl, ho, ht⟩ := hrel
    by_cases hlt : i < n
    · obtain ⟨x, hx⟩ : ∃ x, ss[i]? = some x := ⟨_, List.getElem?_eq_getElem (by have := HN.out; omega)⟩
      obtain ⟨S, hS⟩ : ∃ S, insAll (ss.take i) = S := ⟨_, rfl⟩
      obtain ⟨R, hR⟩ : ∃ R, ss.drop (i + 1) = R := ⟨_, rfl⟩
      have hSl : S.length = i := by rw [← hS, insAll_length, List.length_take]; have := HN.out; omega
      have hSr : Hid (RiseS S) := Lib.hid (by rw [← hS]; exact insAll_rise _)
      have hdr : ss.drop i = x :: R := by
        obtain ⟨h1, h2⟩ := List.getElem?_eq_some_iff.1 hx
        rw [← hR, ← h2, List.getElem_cons_drop]
      have hnx : Hid (insAll (ss.take (i + 1)) ++ ss.drop (i + 1) = insP S x ++ R) := Lib.hid (by
        rw [List.take_add_one, hx, hR]
        show insAll (ss.take i ++ [x]) ++ R = _
        rw [insAll_snoc, hS])
      have hRl : R.length = n - (i + 1) := by rw [← hR, List.length_drop, HN.out]
      rw [hS, hdr] at ho
      have HSL := Lib.hid hSl
      have HRL := Lib.hid hRl
      clear hS hR hdr hx hSl hRl
      go_wp2_with fail
      go_loopw [9] (fun s wi => ∃ j : Nat, j ≤ i ∧ s = .int .i64 j ∧ Hid (OwnS wi base (some ⟨g, 0, none⟩) c (sinkL S x j R)) ∧ Hid (∀ b ∈ S.drop j, x.1 < b.1) ∧ Hid (Turn (· = g) w wi)) (fun s _ => (intOf s).toNat)
      case atStart =>
        refine ⟨i, Nat.le_refl _, rfl, Lib.hid ?_, Lib.hid ?_, Lib.hid (ht.out.trans (Turn.of_ext (by repeat (first | exact Ext.refl _ | refine Ext.alloc ?_ _ | refine Ext.more ?_ _ _ | refine Ext.drew ?_ | refine Ext.drewN ?_ _ | refine Ext.setCell ?_ (by simp <;> omega) _))))⟩
        · have := sinkL_top S x R
          rw [HSL.out] at this
          rw [this]
          exact ho.out
        · rw [List.drop_eq_nil_of_le (by have := HSL.out; omega)]
          exact fun b hb => by cases hb
      case round =>
        obtain ⟨j, hj, rfl, hoj, hbj, htj⟩ := hrel
        clear ho ht
        rcases (show j = 0 ∨ 0 < j by omega) with rfl | j0
        · have HD : Hid (sinkL S x 0 R = insP S x ++ R) := Lib.hid (sinkL_done hSr.out hbj.out (fun k hk h => by omega) (by have := HSL.out; omega))
          go_upto_region 4 with fail
          refine wp_region_bt (17) (softs_bt [0, 1, 2, 3, 4, 5, 6, 7, 8, 9, 10, 11, 12, 13] (.step 14 (softs_bt [15, 16] .fin))) (by kernel_rfl) (by kernel_rfl) ?_
          (refine bt_softs _ fun K hK => ?_); (simp only [pick, nthC]); (repeat (go_big_quiet_step (fail))); (refine wpQuiet_nil (hK _ ?_)); (clear hK K)
          (refine bt_step fun next hn => ?_); (simp only [pick, nthC])
          go_wp2_with fail
          refine segQ_mk (fun _ => laid (by repeat (first | exact Ext.refl _ | refine Ext.alloc ?_ _ | refine Ext.more ?_ _ _ | refine Ext.drew ?_ | refine Ext.drewN ?_ _ | refine Ext.setCell ?_ (by simp <;> omega) _))) (hn _ _ ?_)
          clear hn next
          (refine bt_softs _ fun K hK => ?_); (simp only [pick, nthC]); (repeat (go_big_quiet_step (fail))); (refine wpQuiet_nil (hK _ ?_)); (clear hK K)
          (refine bt_fin ?_)
          go_wp2_with fail
          go_roundw
          case rel => exact ⟨i + 1, by omega, by omega, by go_num, Lib.hid (by rw [hnx.out, ← HD.out]; exact hoj.out.ext (by repeat (first | exact Ext.refl _ | refine Ext.alloc ?_ _ | refine Ext.more ?_ _ _ | refine Ext.drew ?_ | refine Ext.drewN ?_ _ | refine Ext.setCell ?_ (by simp <;> omega) _))), Lib.hid (htj.out.trans (Turn.of_ext (by repeat (first | exact Ext.refl _ | refine Ext.alloc ?_ _ | refine Ext.more ?_ _ _ | refine Ext.drew ?_ | refine Ext.drewN ?_ _ | refine Ext.setCell ?_ (by simp <;> omega) _))))⟩
          case measure => simp [intOf]; omega
        · obtain ⟨m, rfl⟩ : ∃ m, j = m + 1 := ⟨j - 1, by omega⟩
          obtain ⟨y, hy⟩ : ∃ y, S[m]? = some y := ⟨_, List.getElem?_eq_getElem (by have := HSL.out; omega)⟩
          have hym := List.getElem?_eq_some_iff.1 hy
          obtain ⟨hmS, hyS⟩ := hym
          have hX := sinkL_x S x (m + 1) R (by have := HSL.out; omega)
          have hY := sinkL_y S x m R hmS
          rw [hyS] at hY
          have hsw := sinkL_swap S x m R hmS
          rw [hyS] at hsw
          have hLl := sinkL_length S x (m + 1) R (by have := HSL.out; omega)
          obtain ⟨L, hL⟩ : ∃ L, sinkL S x (m + 1) R = L := ⟨_, rfl⟩
          rw [hL] at hX hY hsw hLl hoj
          have hLn : L.length = n := by have h1 := HSL.out; have h2 := HRL.out; omega
          obtain ⟨x0, x1⟩ := hoj.out.cell hX
          obtain ⟨y0, y1⟩ := hoj.out.cell hY
          have z0 := hoj.out.row.frozen ((m + 1) * 2)
          have z1 := hoj.out.row.frozen ((m + 1) * 2 + 1)
          have z2 := hoj.out.row.frozen (m * 2)
          have z3 := hoj.out.row.frozen (m * 2 + 1)
          have hg : g < wr.heap.size := by obtain ⟨_, _, h, _⟩ := hoj.out.row; exact lt_of_heap h
          obtain ⟨j', hj'⟩ : ∃ j', m + 1 = j' := ⟨_, rfl⟩
          have HSW := Lib.hid hsw
          have HLN := Lib.hid hLn
          have HLD : Hid (L = sinkL S x j' R) := Lib.hid (by rw [← hj']; exact hL.symm)
          have HYS : Hid (∃ h : m < S.length, S[m] = y) := Lib.hid ⟨hmS, hyS⟩
          have HJ := Lib.hid hj'
          rw [hj'] at x0 x1 z0 z1 hj hbj
          rw [show ((m + 1 : Nat) : Int) = (j' : Int) by omega]
          have e1 : IntKind.i64.wrap ((j' : Int) - 1) = (m : Int) := by rw [IntKind.wrap_i64]; omega
          have e2 : wrap64 ((j' : Int) - 1) = (m : Int) := by rw [IntWalk.wrap64_in _ (by omega)]; omega
          have b0 : (j' : Int) < (n : Int) := by omega
          have b1 : (m : Int) < (n : Int) := by omega
          have b2 : (0 : Int) ≤ (j' : Int) := by omega
          have b3 : (0 : Int) ≤ (m : Int) := by omega
          have q0 : decide ((0 : Int) < (j' : Int)) = true := decide_eq_true (by omega)
          have q1 : decide (0 < j') = true := decide_eq_true (by omega)
          have CC := Lib.hid (fun w1 => cmpS_any x y w1)
          obtain ⟨xa, xb⟩ := x
          obtain ⟨ya, yb⟩ := y
          dsimp only at x0 x1 y0 y1
          unfold agS at CC
          dsimp only at CC
          obtain ⟨cv, hcv⟩ : ∃ cv, cmpI xa ya = cv := ⟨_, rfl⟩
          rw [hcv] at CC
          have HCV := Lib.hid hcv
          clear hy hmS hyS hX hY hsw hLl hL hLn hj' hcv j0
          by_cases hc : xa < ya
          · have q2 : decide (cv < 0) = true := decide_eq_true (by rw [← HCV.out]; unfold cmpI; rw [if_pos hc]; omega)
            have HBJ : Hid (∀ b ∈ S.drop m, xa < b.1) := Lib.hid (by
              obtain ⟨h1, h2⟩ := HYS.out
              intro b hb
              rw [← List.getElem_cons_drop h1, h2] at hb
              rcases List.mem_cons.1 hb with rfl | hb
              · exact hc
              · rw [HJ.out] at hb
                exact hbj.out b hb)
            clear hc
            go_upto_region 4 with fail
            refine wp_region_bt (17) (softs_bt [0, 1, 2, 3, 4, 5, 6, 7, 8, 9, 10, 11, 12, 13] (.step 14 (softs_bt [15, 16] .fin))) (by kernel_rfl) (by kernel_rfl) ?_
            (refine bt_softs _ fun K hK => ?_); (simp only [pick, nthC]); (repeat (go_big_quiet_step (fail))); (refine wpQuiet_nil (hK _ ?_)); (clear hK K)
            (refine bt_step fun next hn => ?_); (simp only [pick, nthC])
            go_wp2_with fail
            refine (CC.out _).mono ?_
            rintro e w1 ⟨rfl, os1, k1, rfl⟩
            go_wp2_with fail
            refine segQ_mk (fun _ => laid (by repeat (first | exact Ext.refl _ | refine Ext.alloc ?_ _ | refine Ext.more ?_ _ _ | refine Ext.drew ?_ | refine Ext.drewN ?_ _ | refine Ext.setCell ?_ (by simp <;> omega) _))) (hn _ _ ?_)
            clear hn next
            (refine bt_softs _ fun K hK => ?_); (simp only [pick, nthC]); (repeat (go_big_quiet_step (fail))); (refine wpQuiet_nil (hK _ ?_)); (clear hK K)
            (refine bt_fin ?_)
            obtain ⟨W2, hW2⟩ : ∃ W2, more wr os1 k1 = W2 := ⟨_, rfl⟩
            have X2 : Hid (Ext wr W2) := Lib.hid (by rw [← hW2]; exact (by repeat (first | exact Ext.refl _ | refine Ext.alloc ?_ _ | refine Ext.more ?_ _ _ | refine Ext.drew ?_ | refine Ext.drewN ?_ _ | refine Ext.setCell ?_ (by simp <;> omega) _)))
            rw [hW2]
            clear hW2
            have HO2 := Lib.hid (hoj.out.ext X2.out)
            have hx2 := X2.out
            have hX2 := HLD.out ▸ sinkL_x S (xa, xb) j' R (by have := HSL.out; omega)
            have hY2 : L[m]? = some (ya, yb) := by
              obtain ⟨h1, h2⟩ := HYS.out
              have := sinkL_y S (xa, xb) m R h1
              rw [h2, HJ.out, ← HLD.out] at this
              exact this
            obtain ⟨x0, x1⟩ := HO2.out.cell hX2
            obtain ⟨y0, y1⟩ := HO2.out.cell hY2
            have z0 := HO2.out.row.frozen (j' * 2)
            have z1 := HO2.out.row.frozen (j' * 2 + 1)
            have z2 := HO2.out.row.frozen (m * 2)
            have z3 := HO2.out.row.frozen (m * 2 + 1)
            have hg2 := Nat.lt_of_lt_of_le hg hx2.size
            dsimp only at x0 x1 y0 y1
            have hmj : m < j' := by have := HJ.out; omega
            have v0 : ¬ (j' * 2 = m * 2) := by omega
            have v1 : ¬ (j' * 2 + 1 = m * 2) := by omega
            have v2 : ¬ (j' * 2 = m * 2 + 1) := by omega
            have v3 : ¬ (j' = m) := by omega
            clear hX2 hY2 hx2 hg CC
            go_wp2_with fail
            go_region
            go_wp2_with fail
            have o1 := HO2.out.setAt (k := j') (by have h1 := HLN.out; omega) (ya, yb)
            have o2 := o1.setAt (k := m) (by rw [List.length_set]; have h1 := HLN.out; omega) (xa, xb)
            have hsw := HSW.out
            rw [HJ.out] at hsw
            rw [hsw] at o2
            dsimp only at o2
            have t2 : Turn (· = g) W2 _ := (((Turn.setCell W2 (p := ⟨g, j' * 2, none⟩) (S := (· = g)) rfl (.int .i64 ya)).trans (Turn.setCell _ (p := ⟨g, j' * 2 + 1, none⟩) (S := (· = g)) rfl (.int .i64 yb))).trans (Turn.setCell _ (p := ⟨g, m * 2, none⟩) (S := (· = g)) rfl (.int .i64 xa))).trans (Turn.setCell _ (p := ⟨g, m * 2 + 1, none⟩) (S := (· = g)) rfl (.int .i64 xb))
            have HO3 := Lib.hid o2
            have HT3 := Lib.hid ((htj.out.trans (Turn.of_ext X2.out)).trans t2)
            clear o1 o2 t2 hsw
            go_roundw
            case rel => exact ⟨m, by omega, by go_num, Lib.hid (HO3.out.ext (by repeat (first | exact Ext.refl _ | refine Ext.alloc ?_ _ | refine Ext.more ?_ _ _ | refine Ext.drew ?_ | refine Ext.drewN ?_ _ | refine Ext.setCell ?_ (by simp <;> omega) _))), HBJ, Lib.hid (HT3.out.trans (Turn.of_ext (by repeat (first | exact Ext.refl _ | refine Ext.alloc ?_ _ | refine Ext.more ?_ _ _ | refine Ext.drew ?_ | refine Ext.drewN ?_ _ | refine Ext.setCell ?_ (by simp <;> omega) _))))⟩
            case measure => simp [intOf]; omega
          · have q2 : decide (cv < 0) = false := decide_eq_false (by rw [← HCV.out]; unfold cmpI; rw [if_neg hc]; split <;> omega)
            have HD : Hid (L = insP S (xa, xb) ++ R) := Lib.hid (by
              rw [HLD.out]
              refine sinkL_done hSr.out hbj.out (fun k hk h => ?_) (by have := HSL.out; omega)
              obtain ⟨h1, h2⟩ := HYS.out
              have hkm : k = m := by have := HJ.out; omega
              subst hkm
              rw [h2]
              show ya ≤ xa
              omega)
            clear hc
            go_upto_region 4 with fail
            refine wp_region_bt (17) (softs_bt [0, 1, 2, 3, 4, 5, 6, 7, 8, 9, 10, 11, 12, 13] (.step 14 (softs_bt [15, 16] .fin))) (by kernel_rfl) (by kernel_rfl) ?_
            (refine bt_softs _ fun K hK => ?_); (simp only [pick, nthC]); (repeat (go_big_quiet_step (fail))); (refine wpQuiet_nil (hK _ ?_)); (clear hK K)
            (refine bt_step fun next hn => ?_); (simp only [pick, nthC])
            go_wp2_with fail
            refine (CC.out _).mono ?_
            rintro e w1 ⟨rfl, os1, k1, rfl⟩
            go_wp2_with fail
            refine segQ_mk (fun _ => laid (by repeat (first | exact Ext.refl _ | refine Ext.alloc ?_ _ | refine Ext.more ?_ _ _ | refine Ext.drew ?_ | refine Ext.drewN ?_ _ | refine Ext.setCell ?_ (by simp <;> omega) _))) (hn _ _ ?_)
            clear hn next
            (refine bt_softs _ fun K hK => ?_); (simp only [pick, nthC]); (repeat (go_big_quiet_step (fail))); (refine wpQuiet_nil (hK _ ?_)); (clear hK K)
            (refine bt_fin ?_)
            go_wp2_with fail
            go_roundw
            case rel => exact ⟨i + 1, by omega, by omega, by go_num, Lib.hid (by rw [hnx.out, ← HD.out]; exact hoj.out.ext (by repeat (first | exact Ext.refl _ | refine Ext.alloc ?_ _ | refine Ext.more ?_ _ _ | refine Ext.drew ?_ | refine Ext.drewN ?_ _ | refine Ext.setCell ?_ (by simp <;> omega) _))), Lib.hid (htj.out.trans (Turn.of_ext (by repeat (first | exact Ext.refl _ | refine Ext.alloc ?_ _ | refine Ext.more ?_ _ _ | refine Ext.drew ?_ | refine Ext.drewN ?_ _ | refine Ext.setCell ?_ (by simp <;> omega) _))))⟩
            case measure => simp [intOf]; omega
    · obtain rfl : i = n := by omega
      go_wp2_with fail
      go_end0
      refine ⟨rfl, ?_, ht.out.trans (Turn.of_ext (by repeat (first | exact Ext.refl _ | refine Ext.alloc ?_ _ | refine Ext.more ?_ _ _ | refine Ext.drew ?_ | refine Ext.drewN ?_ _ | refine Ext.setCell ?_ (by simp <;> omega) _)))⟩
      have := ho.out
      rw [List.take_of_length_le (by rw [HN.out]; omega), List.drop_eq_nil_of_le (by rw [HN.out]; omega), List.append_nil] at this
      exact this.ext (by repeat (first | exact Ext.refl _ | refine Ext.alloc ?_ _ | refine Ext.more ?_ _ _ | refine Ext.drew ?_ | refine Ext.drewN ?_ _ | refine Ext.setCell ?_ (by simp <;> omega) _))
end Go.Proofs.Ytfjkghbnlmhcnaa
