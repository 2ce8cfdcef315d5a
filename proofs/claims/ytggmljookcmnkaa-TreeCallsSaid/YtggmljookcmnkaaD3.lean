/- The contract of Sub. -/
import Derived.Test.YtggmljookcmnkaaD1
import Derived.Test.YtggmljookcmnkaaTr
namespace Go.Proofs.Ytggmljookcmnkaa
open Go.RowKit
attribute [local go_sem] more_drew more_drewN more_size more_cell more_frozen more_setCell drew_more drewN_more lt_add_r lt_add_r2 lt_add_r3 lt_add_r4 lt_add_r5 lt_add_r6 lt_add_r7 lt_add_r8 lt_add_r9 lt_add_r10 lt_self_r lt_self_r2

theorem nds_drop (ps : List Prt) (i : Nat) : nds (ps.drop i) = (nds ps).drop i := by unfold nds; rw [List.map_drop]
theorem nds_take (ps : List Prt) (i : Nat) : nds (ps.take i) = (nds ps).take i := by unfold nds; rw [List.map_take]
theorem Prts.slice {w : World} {b off : Nat} {ps : List Prt} (h : Prts w (some ⟨b, off, none⟩) ps) (i n : Nat) : Prts w (some ⟨b, off + i * 8, none⟩) ((ps.drop i).take n) := fun h0 => by
  rw [List.length_take, List.length_drop] at h0
  obtain ⟨b', off', hA, hb, hcell⟩ := h (by omega)
  injection hA with hA
  injection hA with hA hB
  subst hA hB
  refine ⟨b, off + i * 8, rfl, hb, fun k p hk => ?_⟩
  rw [List.getElem?_take] at hk
  split at hk
  · rw [List.getElem?_drop] at hk
    have := hcell (i + k) p hk
    rw [Nat.add_mul, ← Nat.add_assoc] at this
    exact this
  · cases hk
theorem PrtsOk.slice {w : World} {ps : List Prt} (h : PrtsOk w ps) (i n : Nat) : PrtsOk w ((ps.drop i).take n) := fun p hp => h p (List.mem_of_mem_drop (List.mem_of_mem_take hp))
theorem kc_slice (l : List Nd) (i n j : Nat) : kc ((l.drop i).take n) 0 j ≤ kc l 0 (i + min j n) := by
  have e : kc ((l.drop i).take n) 0 j = kc l i (i + min j n) := by
    unfold kc
    rw [List.drop_zero, List.take_take, List.drop_take, Nat.add_sub_cancel_left]
  rw [e, kc_add l (Nat.zero_le i) (show i ≤ i + min j n by omega)]
  omega
theorem Few.slice {ps : List Prt} (h : Few ps) (i n : Nat) : Few ((ps.drop i).take n) := by
  refine ⟨by rw [List.length_take, List.length_drop]; have := h.len; omega, fun j => ?_⟩
  rw [nds_take, nds_drop]
  exact Nat.le_trans (kc_slice _ _ _ _) (h.kids _)
section
variable {A : Option Addr} {c : Nat} {ps : List Prt} {w : World}
theorem Sub_no (i : Int) (h : PS w A c ps) (T : ¬ IsP (nds ps) i) : Calls Try.prog 39 #[.slice A ps.length c, .int .i64 i] w fun e w' => e = .returned (.slice none 0 0) ∧ Ext w w' := by
  have CH := Lib.hid (is_false i h T)
  clear h T
  go_enter Try.func39, Try.ntmps39
  go_wp2_with fail
  refine CH.out.mono ?_
  rintro e w3 ⟨rfl, hx3⟩
  have HX3 := Lib.hid hx3
  clear hx3
  go_wp2_with fail
  go_ret
  exact ⟨rfl, HX3.out⟩
set_option maxRecDepth 100000 in
set_option maxHeartbeats 2000000 in
theorem Sub_yes (i m : Nat) (h : PS w A c ps) (T : Tree (nds ps)) (hp : Part (nds ps) i m) : Calls Try.prog 39 #[.slice A ps.length c, .int .i64 i] w (PartsRet w (subF (nds ps) i m)) := by
  have CH := Lib.hid (is_true i h ⟨T, by omega, by have := hp.lt; omega⟩)
  have HS := Lib.hid h
  have HP := Lib.hid hp
  have hl := h.few.len
  have hc1 := h.cap
  have hc2 := h.top
  have hlt := hp.lt
  have hme := hp.lt_end
  have hml := hp.le
  rw [nds_length] at hlt hml
  obtain ⟨b, off, rfl, hb, _⟩ := h.parts (by omega)
  have KF : Hid (∀ p ∈ (ps.drop i).take (m - i), ∀ x ∈ p.nd.kids, ∃ k : Nat, x = (k : Int) ∧ i < k ∧ k < m) := Lib.hid (by
    intro p hpm x hx
    obtain ⟨j, hj, rfl⟩ := List.getElem_of_mem hpm
    rw [List.length_take, List.length_drop] at hj
    have e : ps[i + j]? = some (((ps.drop i).take (m - i))[j]) := by
      rw [← List.getElem?_drop, ← List.getElem?_take_of_lt (show j < m - i by omega), List.getElem?_eq_getElem]
    obtain ⟨k, h1, h2, h3⟩ := hp.kid_in (show i ≤ i + j by omega) (by omega) (nds_get e) x hx
    exact ⟨k, h1, by omega, h3⟩)
  clear h T hp
  have s1 : IntKind.i64.wrap (-(i : Int)) = -(i : Int) := IntWalk.i64_in _ (by omega)
  go_enter Try.func39, Try.ntmps39
  go_wp2_with fail
  refine CH.out.mono ?_
  rintro e w2 ⟨rfl, hx2⟩
  have HX := Lib.hid hx2
  clear hx2
  go_upto_region 3 with fail
  refine wp_region_segs (11) [([0, 1, 2, 3, 6, 7], 4), ([5], 8), ([], 9)] [10] (by kernel_rfl) (by kernel_rfl) ?_
  (refine segs_cons fun K hK => ?_); (first | (simp only [pick_nil]) | (simp only [pick, nthC])); (repeat (go_big_quiet_step (fail))); (refine wpQuiet_nil (hK _ fun next hn => ?_)); (clear hK K); (simp only [pick, nthC])
  go_wp2_with fail
  refine (end_any' i m (HS.out.ext (HX.out.trans (by repeat (first | exact Ext.refl _ | refine Ext.alloc ?_ _ | refine Ext.more ?_ _ _ | refine Ext.drew ?_ | refine Ext.drewN ?_ _ | refine Ext.setCell ?_ (by simp <;> omega) _)))) HP.out).mono ?_
  rintro e w3 ⟨rfl, hx3⟩
  have X3 : Hid (Ext w2 w3) := Lib.hid (Ext.trans (by repeat (first | exact Ext.refl _ | refine Ext.alloc ?_ _ | refine Ext.more ?_ _ _ | refine Ext.drew ?_ | refine Ext.drewN ?_ _ | refine Ext.setCell ?_ (by simp <;> omega) _)) hx3)
  clear hx3
  go_wp2_with fail
  refine segQ_mk (fun _ => laid X3.out) (hn _ _ ?_)
  clear hn next
  (refine segs_cons fun K hK => ?_); (first | (simp only [pick_nil]) | (simp only [pick, nthC])); (repeat (go_big_quiet_step (fail))); (refine wpQuiet_nil (hK _ fun next hn => ?_)); (clear hK K); (simp only [pick, nthC])
  go_wp2_with fail
  refine (plus_any _ w3).mono ?_
  rintro e w4 ⟨rfl, rfl⟩
  have X4 : Hid (Ext w2 (w3.alloc (.cells #[.int .i64 (-(i : Int))] 3))) := Lib.hid (X3.out.alloc _)
  go_wp2_with fail
  refine segQ_mk (fun _ => laid X4.out) (hn _ _ ?_)
  clear hn next
  (refine segs_cons fun K hK => ?_); (first | (simp only [pick_nil]) | (simp only [pick, nthC])); (repeat (go_big_quiet_step (fail))); (refine wpQuiet_nil (hK _ fun next hn => ?_)); (clear hK K); (simp only [pick, nthC])
  go_wp2_with fail
  have hln : ((ps.drop i).take (m - i)).length = m - i := by rw [List.length_take, List.length_drop]; omega
  have CM := moved_any 125 #[pt w3.heap.size] (fun x => x + -(i : Int)) (some ⟨b, off + i * 8, none⟩) (c - i) ((ps.drop i).take (m - i)) (w3.alloc (.cells #[.int .i64 (-(i : Int))] 3))
    ((HS.out.parts.slice i (m - i)).ext (HX.out.trans X4.out)) ((HS.out.oks.slice i (m - i)).ext (HX.out.trans X4.out)) (HS.out.few.slice i (m - i)) (fun p hp x hx => by obtain ⟨k, rfl, h1, h2⟩ := KF.out p hp x hx; unfold I64; omega)
    (enters_of Try.func125 (by kernel_rfl) rfl) (fun wr x h1 ⟨p, hp, hx⟩ => plus1_any x _ w3.heap.size wr (ext_block (heap_alloc_new w3 _) h1) (by obtain ⟨k, rfl, h1, h2⟩ := KF.out p hp x hx; unfold I64; omega))
  rw [hln] at CM
  have HCM := Lib.hid CM
  clear CM hln
  refine HCM.out.mono ?_
  rintro e w5 ⟨A5, c5, qs, rfl, hn5, ho5, hx5⟩
  have X5 : Hid (Ext w2 w5) := Lib.hid (X4.out.trans hx5)
  have HO5 : Hid (OwnP w5 w.heap.size A5 c5 qs) := Lib.hid (ho5.base (HX.out.trans X4.out).size)
  have HN5 : Hid (nds qs = subF (nds ps) i m) := Lib.hid (by rw [hn5, nds_take, nds_drop]; rfl)
  clear hn5 ho5 hx5 HCM
  go_wp2_with fail
  refine segQ_mk (fun _ => laid X5.out) (hn _ _ ?_)
  clear hn next
  (refine segs_nil fun K hK => ?_); (first | (simp only [pick_nil]) | (simp only [pick, nthC])); (repeat (go_big_quiet_step (fail))); (refine wpQuiet_nil (hK _ ?_)); (clear hK K)
  go_wp2_with fail
  go_ret
  exact ⟨A5, c5, qs, rfl, HN5.out, HO5.out, HX.out.trans X5.out⟩
end
end Go.Proofs.Ytggmljookcmnkaa
