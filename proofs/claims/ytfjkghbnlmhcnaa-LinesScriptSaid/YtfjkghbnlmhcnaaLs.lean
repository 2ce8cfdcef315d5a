/- slices.Insert in general, slices.Replace where a new row is made: the walk. -/
import Derived.Test.YtfjkghbnlmhcnaaLr
import Derived.WalkSpells
import Derived.WalkLawsBesides
import Derived.BigRegion
import Derived.Deep.RegionWith
import Derived.Deep.QuietTactic
import Derived.Deep.DeepCutAuto
import Derived.Deep.RegionHeld3
import Derived.Deep.RegionLaw
import Derived.BigQuiet
import Derived.Lib.Hide
namespace Go.Proofs.Ytfjkghbnlmhcnaa
open Go.RowKit
attribute [local go_sem] more_drew more_drewN more_size more_cell more_frozen more_setCell drew_more drewN_more lt_add_r lt_add_r2 lt_add_r3 lt_add_r4 lt_add_r5 lt_add_r6 lt_add_r7 lt_add_r8 lt_add_r9 lt_add_r10 lt_self_r lt_self_r2

theorem grow_list (P zs vs ds : List Value) (h : zs.length = vs.length + ds.length) :
    ((P ++ zs).take P.length ++ vs ++ (P ++ zs).drop (P.length + vs.length)).take (P.length + vs.length) ++ ds ++ ((P ++ zs).take P.length ++ vs ++ (P ++ zs).drop (P.length + vs.length)).drop (P.length + vs.length + ds.length) = P ++ vs ++ ds := by
  have e1 : (P ++ zs).take P.length = P := by rw [List.take_append_of_le_length (Nat.le_refl _), List.take_length]
  have e2 : (P ++ vs).length = P.length + vs.length := List.length_append
  rw [e1, ← e2, List.take_append_of_le_length (Nat.le_refl _), List.take_length, List.drop_eq_nil_of_le (by simp; omega), List.append_nil]
theorem grow_facts (V : World) (base g c b' cb : Nat) (xs vs : List Int) (i j : Nat) (hi : i ≤ j) (hj : j ≤ xs.length) (hm : 0 < vs.length) (hg : c < i + (vs.length + (xs.length - j))) (hbig : i + (vs.length + (xs.length - j)) ≤ 10000000)
    (hA : OwnR V base g c (iv xs)) (hB : OwnR V base b' cb (iv vs)) (hb : base ≤ V.heap.size) :
    ∃ (W1 W2 W3 : World) (G : Nat),
      (∀ q : Int, q = ((vs.length + (xs.length - j) : Nat) : Int) → ∀ ty, (Builtin.append_ #[29, 3] ty #[.slice (some ⟨g, 0, none⟩) i c, .int .i64 q]).run Try.prog V = .ok (.slice (some ⟨V.heap.size, 0, none⟩) (i + (vs.length + (xs.length - j))) G) W1) ∧
      (∀ dl, dl = vs.length + (xs.length - j) → ∀ ty dc, (Builtin.copy_ #[29, 29] ty #[.slice (some ⟨V.heap.size, i, none⟩) dl dc, .slice (some ⟨b', 0, none⟩) vs.length cb]).run Try.prog W1 = .ok (goInt (iv vs).length) W2) ∧
      (∀ dl, dl = xs.length - j → ∀ ty dc sc, (Builtin.copy_ #[29, 29] ty #[.slice (some ⟨V.heap.size, i + vs.length, none⟩) dl dc, .slice (some ⟨g, j, none⟩) (xs.length - j) sc]).run Try.prog W2.drew = .ok (goInt (iv (xs.drop j)).length) W3) ∧
      OwnR W3 base V.heap.size G (iv (xs.take i ++ vs ++ xs.drop j)) ∧ Turn (fun k => V.heap.size ≤ k) V W3 ∧ i + (vs.length + (xs.length - j)) ≤ G ∧ G ≤ 9223372036854775807 := by
  obtain ⟨k, hk⟩ : ∃ k, vs.length + (xs.length - j) = k := ⟨_, rfl⟩
  rw [hk] at hg hbig ⊢
  obtain ⟨gN, hgN⟩ : ∃ gN, V.heap.size = gN := ⟨_, rfl⟩
  have hgl : g < gN := by obtain ⟨cur, _, h2, _⟩ := hA; rw [← hgN]; exact lt_of_heap h2
  have hbl : b' < gN := by obtain ⟨cur, _, h2, _⟩ := hB; rw [← hgN]; exact lt_of_heap h2
  obtain ⟨i3, hii, hz0, hz1, hz2⟩ := info_parts infoInt
  have hpl : (iv (xs.take i)).length = i := by rw [iv_length, List.length_take]; omega
  have hold : (Builtin.firstCells i3.size i (.slice (some ⟨g, 0, none⟩) i c)).run Try.prog V.drew = .ok (iv (xs.take i)).toArray V.drew := by
    rw [hz1]
    exact run_firstCells_some V.drew 1 i ⟨g, 0, none⟩ i c (iv (xs.take i)) (by rw [hpl, Nat.mul_one]) fun q v hq => by
      rw [Addr.add_lit, Nat.zero_add]
      rw [← iv_take, List.getElem?_take] at hq
      split at hq
      · exact OwnR.cell (w := V.drew) hA hq
      · cases hq
  have hap := fun ty => Lib.run_append_grow_zeros V 29 3 ty 3 i3 _ .i64 .i64 Try.underlying29 Try.underlying3 hii hz0 (some ⟨g, 0, none⟩) i c (iv (xs.take i)) hold k (by omega) (by rw [hz1]; decide) hg (by omega) (by rw [hz2]; omega) (by rw [hz2]; exact growslice_fits hg (by omega))
  have hGn : i + k ≤ grownCap V (i + k) c 3 := grownCap_ge V _ _ _
  have hGm := grownCap_le_maxLen V (i + k) c 3 (by unfold maxLen; omega)
  obtain ⟨G, hG⟩ : ∃ G, grownCap V (i + k) c 3 = G := ⟨_, rfl⟩
  rw [hG] at hap hGn hGm
  rw [hgN] at hap hb ⊢
  obtain ⟨zs, hzs⟩ : ∃ zs : List Value, (Builtin.zeroCells (Value.int .i64 0).cells k).toList = zs := ⟨_, rfl⟩
  have hzl : zs.length = k := by rw [← hzs]; simp [Builtin.zeroCells, Value.cells]
  obtain ⟨ROW, hROW⟩ : ∃ ROW : Array Value, (iv (xs.take i)).toArray ++ Builtin.zeroCells (Value.int .i64 0).cells k ++ Builtin.zeroCells (Value.int .i64 0).cells (G - (i + k)) = ROW := ⟨_, rfl⟩
  rw [hROW] at hap
  have hRs : ROW.size = G := by
    rw [← hROW]
    simp [Builtin.zeroCells, Value.cells, hpl]
    omega
  have hRt : ROW.toList.take (iv (xs.take i) ++ zs).length = iv (xs.take i) ++ zs := by
    rw [← hROW, Array.toList_append, Array.toList_append, hzs, List.take_append_of_le_length (by simp), List.take_of_length_le (by simp)]
  obtain ⟨W1, hW1⟩ : ∃ W1, V.drew.alloc (.cells ROW 3) = W1 := ⟨_, rfl⟩
  have X1 : Ext V W1 := by rw [← hW1]; exact (by repeat (first | exact Ext.refl _ | refine Ext.alloc ?_ _ | refine Ext.more ?_ _ _ | refine Ext.drew ?_ | refine Ext.drewN ?_ _ | refine Ext.setCell ?_ (by simp <;> omega) _))
  rw [hW1] at hap
  have O1 : OwnR W1 base gN G (iv (xs.take i) ++ zs) := ⟨ROW, hb, by rw [← hW1, ← hgN]; exact heap_alloc_new V.drew _, by rw [List.length_append, hpl, hzl]; exact hGn, hGm, hRs, hRt⟩
  have T1 : Turn (fun k => gN ≤ k) V W1 := Turn.of_ext X1
  have B1 := hB.keep T1 (by omega)
  have A1 := hA.keep T1 (by omega)
  have hvl : (iv vs).length = vs.length := iv_length vs
  have hdl : (iv (xs.drop j)).length = xs.length - j := by rw [iv_length, List.length_drop]
  have h1l : (iv (xs.take i) ++ zs).length = i + k := by rw [List.length_append, hpl, hzl]
  have O2 := O1.put i (iv vs) (by rw [h1l, hvl]; omega)
  have T2 := T1.trans (Turn.setCells (S := fun k => gN ≤ k) (Nat.le_refl gN) (iv vs) i W1)
  have A2 := hA.keep T2 (by omega)
  have C1 := fun dl (h : dl = k) ty dc => copy_run O1 i ⟨b', 0, none⟩ (iv vs) (by rw [h1l, hvl]; omega) vs.length dl (by rw [hvl, h]; simp only [Nat.min_def]; split <;> omega) (fun q v hq => by rw [Addr.add_lit]; exact B1.cell (by simpa using hq)) (fun v hv => iv_one hv) ty dc cb
  obtain ⟨W2, hW2⟩ : ∃ W2, W1.setCells gN i (iv vs) = W2 := ⟨_, rfl⟩
  rw [hW2] at O2 T2 A2 C1
  have h2l : ((iv (xs.take i) ++ zs).take i ++ iv vs ++ (iv (xs.take i) ++ zs).drop (i + (iv vs).length)).length = i + k := by
    rw [List.length_append, List.length_append, List.length_take, List.length_drop, h1l, hvl]; omega
  have O2' : OwnR W2.drew base gN G _ := O2
  have A2' : OwnR W2.drew base g c _ := A2
  have C2 := fun dl (h : dl = xs.length - j) ty dc sc => copy_run O2' (i + vs.length) ⟨g, j, none⟩ (iv (xs.drop j)) (by rw [h2l, hdl]; omega) (xs.length - j) dl (by rw [hdl, h]; simp only [Nat.min_def]; split <;> omega)
    (fun q v hq => by rw [Addr.add_lit]; rw [← iv_drop, List.getElem?_drop] at hq; exact A2'.cell hq) (fun v hv => iv_one hv) ty dc sc
  have O3 := O2'.put (i + vs.length) (iv (xs.drop j)) (by rw [h2l, hdl]; omega)
  have T3 : Turn (fun k => gN ≤ k) V (W2.drew.setCells gN (i + vs.length) (iv (xs.drop j))) := T2.trans (Turn.trans (Turn.of_ext (by repeat (first | exact Ext.refl _ | refine Ext.alloc ?_ _ | refine Ext.more ?_ _ _ | refine Ext.drew ?_ | refine Ext.drewN ?_ _ | refine Ext.setCell ?_ (by simp <;> omega) _))) (Turn.setCells (S := fun k => gN ≤ k) (Nat.le_refl gN) _ _ _))
  have e9 := grow_list (iv (xs.take i)) zs (iv vs) (iv (xs.drop j)) (by rw [hzl, hvl, hdl]; omega)
  rw [hpl, hvl] at e9
  rw [hvl, e9, ← iv_append, ← iv_append] at O3
  exact ⟨W1, W2, _, G, fun q hq ty => by rw [hq]; exact hap ty, C1, C2, O3, T3, hGn, by unfold maxLen at hGm; exact hGm⟩
set_option maxRecDepth 100000 in
set_option maxHeartbeats 1000000 in
/-- Insert, where there is no room -/
theorem ins_grow (base g c b' cb : Nat) (xs vs : List Int) (i : Nat) (V : World) (hi : i < xs.length) (hm : 0 < vs.length) (hroom : c < xs.length + vs.length) (hl : xs.length ≤ 1000000) (hv : vs.length ≤ 1000000) (hA : OwnI V base (some ⟨g, 0, none⟩) c xs) (hB : OwnI V base (some ⟨b', 0, none⟩) cb vs) (hb : base ≤ V.heap.size) :
    Calls Try.prog 56 #[.slice (some ⟨g, 0, none⟩) xs.length c, .int .i64 i, .slice (some ⟨b', 0, none⟩) vs.length cb] V (RepRet V base (some ⟨g, 0, none⟩) (xs.take i ++ vs ++ xs.drop i)) := by
  have hcx := hA.ints.2.1
  obtain ⟨W1, W2, W3, G, F1, F2, F3, O3, T3, hG1, hG2⟩ := grow_facts V base g c b' cb xs vs i i (Nat.le_refl _) (by omega) hm (by omega) (by omega) (OwnR.of hA) (OwnR.of hB) hb
  have hyl : (xs.take i ++ vs ++ xs.drop i).length = xs.length + vs.length := by rw [List.length_append, List.length_append, List.length_take, List.length_drop]; omega
  have HO3 := Lib.hid O3
  have HT3 := Lib.hid T3
  obtain ⟨n, hn⟩ : ∃ n, xs.length = n := ⟨_, rfl⟩
  obtain ⟨m, hm'⟩ : ∃ m, vs.length = m := ⟨_, rfl⟩
  rw [hn, hm'] at hyl F1 hG1 hroom
  rw [hn] at F2 F3 hi hcx hl ⊢
  rw [hm'] at F2 F3 hm hv ⊢
  have hik : i + (m + (n - i)) = n + m := by omega
  rw [hik] at F1 hG1
  have G1 := F1 ((n : Int) + (m : Int) - (i : Int)) (by omega)
  have G2 := F2 (n + m - i) (by omega)
  have G3 := F3 (n + m - (i + m)) (by omega)
  have HYL := Lib.hid hyl
  obtain ⟨gN, hgN⟩ : ∃ gN, V.heap.size = gN := ⟨_, rfl⟩
  rw [hgN] at G1 G2 G3 HO3 HT3
  have HGN := Lib.hid hgN
  have hz1 : ¬ ((m : Int) = 0) := by omega
  have hz2 : ¬ ((i : Int) = (n : Int)) := by omega
  have hz3 : (c : Int) < (n : Int) + (m : Int) := by omega
  have hw1 : IntKind.i64.wrap ((i : Int) + (m : Int)) = (i : Int) + (m : Int) := by rw [IntKind.wrap_i64]; omega
  have hb1 : (0 : Int) ≤ (i : Int) + (m : Int) := by omega
  have hin : i ≤ n := by omega
  have htn : ((i : Int) + (m : Int)).toNat = i + m := by omega
  have hGi : ¬ (G = i) := by omega
  have hGim : ¬ (G = i + m) := by omega
  have hci : ¬ (c = i) := by omega
  have hb3 : (i : Int) ≤ (n : Int) := by omega
  clear F1 F2 F3 hA hB hn hm' hyl O3 T3 hgN hik
  have mixed : Try.prog.follows Departure.mixedOrders = true := by kernel_rfl
  go_enter Try.func56, Try.ntmps56
  go_wp2_with (first
    | (at_builtin; refine Lib.wpList_append_run _ rfl _ _ _ _ rfl _ _ rfl rfl _ _ (G1 _) ?_)
    | (at_builtin; refine wpList_copy_runI _ rfl _ _ 29 29 rfl _ _ rfl rfl (G2 _ _) ?_))
  go_region_law_o (refine step_copy_runI rfl _ _ 29 29 rfl (.slice (some ⟨gN, i + m, none⟩) (n + m - (i + m)) (G - (i + m))) (.slice (some ⟨g, i, none⟩) (n - i) (c - i)) (by simp [Act.eval, Act.put]) (by simp [Act.eval, Act.put]) (G3 3 (G - (i + m)) (c - i)) ?_)
  go_wp2_with fail
  go_ret
  exact ⟨some ⟨gN, 0, none⟩, G, by rw [HYL.out]; rfl, HO3.out.ints, HT3.out.mono fun k _ hk => .inr (by rw [HGN.out]; exact hk), fun b hb => .inr (by cases hb; rw [HGN.out]; exact Nat.le_refl _)⟩
end Go.Proofs.Ytfjkghbnlmhcnaa
