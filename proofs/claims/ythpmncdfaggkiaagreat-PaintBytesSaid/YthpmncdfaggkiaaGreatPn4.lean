/- Pn: texts that the proof rests on, part 4. -/
import Derived.Test.YthpmncdfaggkiaaGreatCr1
import Derived.Test.YthpmncdfaggkiaaGreatCr10
import Derived.Test.YthpmncdfaggkiaaGreatCr11
import Derived.Test.YthpmncdfaggkiaaGreatCr2
import Derived.Test.YthpmncdfaggkiaaGreatCr3
import Derived.Test.YthpmncdfaggkiaaGreatCr5
import Derived.Test.YthpmncdfaggkiaaGreatCr6
import Derived.Test.YthpmncdfaggkiaaGreatCr7
import Derived.Test.YthpmncdfaggkiaaGreatCr8
import Derived.Test.YthpmncdfaggkiaaGreatCr9
import Derived.Test.YthpmncdfaggkiaaGreatPn1
import Derived.Test.YthpmncdfaggkiaaGreatPn2
import Derived.Test.YthpmncdfaggkiaaGreatPn3
import Derived.WalkMore
namespace Go.Proofs.YthpmncdfaggkiaaGreat
open Go.RowKit
attribute [local go_sem] more_drew more_drewN more_size more_cell more_frozen more_setCell drew_more drewN_more lt_add_r lt_add_r2 lt_add_r3 lt_add_r4 lt_add_r5 lt_add_r6 lt_add_r7 lt_add_r8 lt_add_r9 lt_add_r10 lt_self_r lt_self_r2
attribute [local go_sem] Oper.semAt_some
def meltS (out : List Pn) (x : Pn) : List Pn := match out[out.length - 1]? with
 | some y => if alikeB y x then out.set (out.length - 1) (oneF y x) else out ++ [x]
 | none => out ++ [x]
def meltF (xs : List Pn) : List Pn := xs.foldl meltS []
theorem meltF_take {xs : List Pn} {j : Nat} {x : Pn} (h : xs[j]? = some x) : meltF (xs.take (j + 1)) = meltS (meltF (xs.take j)) x := by
 obtain ⟨hl, hx⟩ := List.getElem?_eq_some_iff.1 h
 unfold meltF
 rw [List.take_succ_eq_append_getElem hl, List.foldl_append, hx]
 rfl
theorem meltS_len (out : List Pn) (x : Pn) : (meltS out x).length ≤ out.length + 1 := by
 unfold meltS
 split
 ·split
  ·rw [List.length_set]; omega
  ·simp
 ·simp
theorem meltF_len (xs : List Pn) (j : Nat) : (meltF (xs.take j)).length ≤ j := by
 induction j with
 | zero => simp [meltF]
 | succ j ih =>
  by_cases h : j < xs.length
  ·rw [meltF_take (List.getElem?_eq_getElem h)]
   have := meltS_len (meltF (xs.take j)) xs[j]
   omega
  ·rw [List.take_of_length_le (by omega)] at ih ⊢
   omega
def MeI (w : World) (b n0 : Nat) (xs : List Pn) (j : Nat) (K : Nat → Prop) (W : World) : Prop :=
 ∃ v, W.heap[b]? = some (.cells #[.func (.func 87) #[] #[]] 134) ∧ W.heap[b + 1]? = some (.cells #[.func (.func 88) #[] #[]] 135) ∧ W.heap[b + 1 + 1]? = some (.cells #[v] 69) ∧
  RowPn W w.heap.size v (meltF (xs.take j)) ∧ Below w.heap.size w W ∧ (∀ k, K k ↔ (k = b + 1 + 1 ∨ v.ownBlock = some k)) ∧ (∀ g, v.ownBlock = some g → g ≠ b ∧ g ≠ b + 1 ∧ g ≠ b + 1 + 1 ∧ g ≠ n0 ∧ g ≠ n0 + 1)
theorem MeI.turn {w : World} {b n0 : Nat} {xs : List Pn} {j : Nat} {K : Nat → Prop} {W W' : World} (h : MeI w b n0 xs j K W) (hb : b + 1 + 1 < n0) (hw : w.heap.size ≤ n0) (t : Turn (fun k => k = n0 ∨ k = n0 + 1) W W') : MeI w b n0 xs j K W' := by
 obtain ⟨v, h1, h2, h3, h4, h5, h6, h7⟩ := h
 refine ⟨v, (t.block _ (lt_of_heap h1) (by omega)).trans h1, (t.block _ (lt_of_heap h2) (by omega)).trans h2, (t.block _ (lt_of_heap h3) (by omega)).trans h3, own_keep h4 fun g hg => t.block g (own_old h4 g hg) (fun h => ?_), h5.trans (t.below h5.size fun k hk => by omega), h6, h7⟩
 have := h7 g hg
 omega
theorem put4p_turn {S : Nat → Prop} (w : World) (b k : Nat) (p : Pn) (h : S b) : Turn S w (put4p w b k p) := by
 unfold put4p
 exact (((Turn.setCell w (p := ⟨b, k, none⟩) h _).trans (Turn.setCell _ (p := ⟨b, k + 1, none⟩) h _)).trans (Turn.setCell _ (p := ⟨b, k + 2, none⟩) h _)).trans (Turn.setCell _ (p := ⟨b, k + 3, none⟩) h _)
set_option maxRecDepth 100000 in
set_option maxHeartbeats 6000000 in
theorem melt_any28 (F : Nat) (lb : Array Value) (xs : List Pn) (w : World) (hl : xs.length ≤ 900000) (eg : ∀ args w, (callFunc F args).run Tryz.prog w = .ok (.enter F args) w)
 (hIter : ∀ w1, Ext w w1 → IterH Tryz.prog F lb encPn xs (fun k => w.heap.size ≤ k) (fun _ _ => True) w1) :
 Calls Tryz.prog 85 #[.func (.func F) #[] lb, .func (.func 87) #[] #[], .func (.func 88) #[] #[]] w (PaintRet w (meltF xs)) := by
 have HI := zh hIter
 clear hIter
 refine calls_of_marks Tryz.func85 rfl ?_
 simp only [Tryz.ntmps85, List.size_toArray, List.length_cons, List.length_nil, Nat.reduceAdd, Nat.reduceSub, Array.replicate_succ, Array.replicate_zero, List.push_toArray, List.append_toArray, List.nil_append, List.cons_append]
 go_wp2_with fail
 obtain ⟨b, hb⟩ : ∃ b, w.heap.size = b := ⟨_, rfl⟩
 obtain ⟨W0, hW0⟩ : ∃ W0, ((w.alloc (.cells #[.func (.func 87) #[] #[]] 134)).alloc (.cells #[.func (.func 88) #[] #[]] 135)).alloc (.cells #[.slice none 0 0] 69) = W0 := ⟨_, rfl⟩
 have X0 : Ext w W0 := by rw [← hW0]; exact (by repeat first | exact xr _ | refine xa ?_ _ | refine xm ?_ _ _ | refine xd ?_ | refine xn ?_ _ | refine xs ?_ (by simp <;> omega) _)
 have G0 : W0.heap[b]? = some (.cells #[.func (.func 87) #[] #[]] 134) := by rw [← hW0, ← hb]; exact (by simp only [heap_alloc_get, World.size_alloc]; (repeat (split; (first | rfl | (exfalso; omega)))); (try (first | (exfalso; omega) | simp_all)))
 have G1 : W0.heap[b + 1]? = some (.cells #[.func (.func 88) #[] #[]] 135) := by rw [← hW0, ← hb]; exact (by simp only [heap_alloc_get, World.size_alloc]; (repeat (split; (first | rfl | (exfalso; omega)))); (try (first | (exfalso; omega) | simp_all)))
 have G2 : W0.heap[b + 1 + 1]? = some (.cells #[.slice none 0 0] 69) := by rw [← hW0, ← hb]; exact (by simp only [heap_alloc_get, World.size_alloc]; (repeat (split; (first | rfl | (exfalso; omega)))); (try (first | (exfalso; omega) | simp_all)))
 have S0 : W0.heap.size = b + 3 := by rw [← hW0, ← hb]; simp
 rw [hW0, hb]
 clear hW0
 refine wp_rangeH (gf := F) (lb := lb) (encs := encPn) (xs := xs) (S := fun k => w.heap.size ≤ k) (R := fun _ _ => True) rfl eg (fun _ => rfl) (by omega) (fun w1 hx _ => HI.out w1 (X0.trans hx))
  (fun j K W => MeI w b (b + 3) xs j K W) (fun _ _ _ => False) (fun k => k = b + 1 + 1) (fun k hk => by omega) ?_ (fun _ _ _ _ _ _ h => h) ?_ (fun _ _ _ _ => trivial) ?_ ?_ ?_ (fun _ _ _ _ h => h.elim)
 ·rintro j K U U' ht hsz hA
  rw [S0] at ht hsz
  exact hA.turn (by omega) (by omega) ht
 ·rintro j K U ⟨v, h1, h2, h3, h4, h5, h6, h7⟩
  rw [S0]
  refine ⟨fun h => ?_, fun h => ?_⟩
  ·rcases (h6 _).1 h with h | h
   ·omega
   ·exact (h7 _ h).2.2.2.1 rfl
  ·rcases (h6 _).1 h with h | h
   ·omega
   ·exact (h7 _ h).2.2.2.2 rfl
 ·intro U hU
  exact ⟨.slice none 0 0, ext_block G0 hU, ext_block G1 hU, ext_block G2 hU, by rw [List.take_zero]; exact RowPn.nil _ _, (X0.trans hU).below, fun k => ⟨fun h => .inl h, fun h => h.elim id (fun h => by cases h)⟩, fun g hg => by cases hg⟩
 ·rintro l j x K W hx hI hsz
  clear hI
  obtain ⟨x0, x1, x2, x3⟩ := x
  simp only [encPn, pnV]
  gi_wp2
  obtain ⟨xb, hxb⟩ : ∃ n, W.heap.size = n := ⟨_, rfl⟩
  obtain ⟨W1, hW1⟩ : ∃ V, W.alloc (.cells #[.int .i64 x0, .int .i64 x1, .int .i64 x2, .int .i64 x3] 73) = V := ⟨_, rfl⟩
  have X1 : Ext W W1 := by rw [← hW1]; exact (by repeat first | exact xr _ | refine xa ?_ _ | refine xm ?_ _ _ | refine xd ?_ | refine xn ?_ _ | refine xs ?_ (by simp <;> omega) _)
  have GX : W1.heap[xb]? = some (.cells #[.int .i64 x0, .int .i64 x1, .int .i64 x2, .int .i64 x3] 73) := by rw [← hW1, ← hxb]; exact heap_alloc_new _ _
  try rw [hW1]
  try rw [hxb]
  refine ⟨X1, ?_⟩
  rintro W2 t2 ⟨v, h1, h2, h3, h4, h5, h6, h7⟩ hsz2
  rw [S0] at hsz t2
  have GX2 : W2.heap[xb]? = some (.cells #[.int .i64 x0, .int .i64 x1, .int .i64 x2, .int .i64 x3] 73) := (t2.block _ (lt_of_heap GX) (by omega)).trans GX
  clear hW1 X1 GX t2
  obtain ⟨c0, c1, c2, c3, lx⟩ := pn_cells (p := ⟨x0, x1, x2, x3⟩) GX2
  dsimp only at c0 c1 c2 c3
  have k0 := cell_of_row _ _ 0 _ _ _ h1
  have k1 := cell_of_row _ _ 0 _ _ _ h2
  have HX := zh hx
  have HOUT := zh (meltF_take hx)
  have HLEN : (meltF (xs.take j)).length ≤ 900000 := by
   have := meltF_len xs j
   have := (List.getElem?_eq_some_iff.1 hx).1
   omega
  obtain ⟨out, hout⟩ : ∃ o, meltF (xs.take j) = o := ⟨_, rfl⟩
  rw [hout] at h4 HOUT HLEN
  clear hout hx
  obtain ⟨A, c, rfl, hP, hlc, hcm, hA⟩ := h4.read
  obtain ⟨n, hnn⟩ : ∃ n, out.length = n := ⟨_, rfl⟩
  have HN := zh hnn
  rw [hnn] at h3 h4 h6 h7 HLEN hlc
  have k2 := cell_of_row _ _ 0 _ _ _ h3
  simp at k0 k1 k2
  have l0 := lt_of_heap h1
  have l1 := lt_of_heap h2
  have l2 := lt_of_heap h3
  have H1 := zh h1
  have H2 := zh h2
  have H3 := zh h3
  have H4 := zh h4
  have H5 := zh h5
  have H6 := zh h6
  have H7 := zh h7
  have HP := zh hP
  have HG := zh GX2
  clear h1 h2 h3 h4 h5 h6 h7 hP GX2 hnn
  by_cases hn0 : n = 0
  ·subst hn0
   have HM : Hid (meltS out ⟨x0, x1, x2, x3⟩ = out ++ [⟨x0, x1, x2, x3⟩]) := zh (by rw [List.eq_nil_of_length_eq_zero HN.out]; rfl)
   gi_wp2
   refine wpIn_region_segs (12) [([0, 1, 2, 3, 4, 5, 6, 7, 8, 9], 10)] [11] (by kernel_rfl) (by kernel_rfl) (by kernel_rfl) ?_
   (refine segs_cons fun K hK => ?_); (first | (simp only [pick_nil]) | (simp only [pick, nthC])); (repeat (go_big_quiet_step (fail))); (refine wpQuiet_nil (hK _ fun next hn => ?_)); (clear hK K); (simp only [pick, nthC])
   go_wp2_with fail
   refine segQ_mk (fun _ => laid (Ext.refl _).drew) (hn _ _ ?_)
   clear hn next c0 c1 c2 c3 lx k0 k1 k2 l0 l1 l2
   (refine segs_nil fun K hK => ?_); (first | (simp only [pick_nil]) | (simp only [pick, nthC])); (repeat (go_big_quiet_step (fail))); (refine wpQuiet_nil (hK _ ?_)); (clear hK K)
   have XV : Hid (Ext W2 W2.drew) := zh (by repeat first | exact xr _ | refine xa ?_ _ | refine xm ?_ _ _ | refine xd ?_ | refine xn ?_ _ | refine xs ?_ (by simp <;> omega) _)
   obtain ⟨V, hV⟩ : ∃ V, W2.drew = V := ⟨_, rfl⟩
   have HXV : Hid (Ext W2 V) := zh (by rw [← hV]; exact XV.out)
   rw [hV]
   clear hV XV
   have HGV := zh (ext_block HG.out HXV.out)
   have H3V := zh (ext_block H3.out HXV.out)
   have kk := cell_of_row _ _ 0 _ _ _ H3V.out
   simp at kk
   have lk := lt_of_heap H3V.out
   obtain ⟨d0, d1, d2, d3, ld⟩ := pn_cells (p := ⟨x0, x1, x2, x3⟩) HGV.out
   dsimp only at d0 d1 d2 d3
   have H4x : Hid (RowPn (V.alloc (.cells #[.int .i64 x0, .int .i64 x1, .int .i64 x2, .int .i64 x3] 73)) w.heap.size (.slice A 0 c) out) := zh (H4.out.ext (HXV.out.alloc _))
   have HPx : Hid (Pns (V.alloc (.cells #[.int .i64 x0, .int .i64 x1, .int .i64 x2, .int .i64 x3] 73)) (some ⟨V.heap.size, 0, none⟩) [⟨x0, x1, x2, x3⟩]) := zh (by
    intro _
    refine ⟨V.heap.size, 0, rfl, by simp, fun k p hk => ?_⟩
    cases k with
    | succ k => simp at hk
    | zero =>
     simp at hk
     subst hk
     obtain ⟨a0, a1, a2, a3, _⟩ := pn_cells (p := ⟨x0, x1, x2, x3⟩) (heap_alloc_new V (.cells #[.int .i64 x0, .int .i64 x1, .int .i64 x2, .int .i64 x3] 73))
     exact ⟨a0, a1, a2, a3⟩)
   gi_wp2_with (gi_at_builtin; refine wpListIn_of_plain (fun _ _ h => h) _ _ _ (by kernel_rfl) ?_; refine app_paint w (qs := [⟨x0, x1, x2, x3⟩]) (by rfl) (.tmp 38) (.tmp 40) rfl H4x.out rfl rfl (fun h => by cases h) HPx.out (by have := HN.out; omega) (by simp) (by have := H5.out.size; have := HXV.out.size; simp; omega) ?_; intro v' w' hr' hg' hb')
   obtain ⟨A', c', hv', _⟩ := hr'.read
   obtain ⟨ln, hln⟩ : ∃ ln, (out ++ [(⟨x0, x1, x2, x3⟩ : Pn)]).length = ln := ⟨_, rfl⟩
   rw [hln] at hv'
   subst hv'
   clear hln
   have HG' := zh hg'
   have HR' := zh hr'
   have HB' := zh hb'
   have H3W : Hid (w'.heap[b + 1 + 1]? = some (.cells #[.slice A 0 c] 69)) := zh ((hg'.block _ (by simp; omega) (fun he => (H7.out _ he.symm).2.2.1 rfl)).trans (ext_block H3V.out (by repeat first | exact xr _ | refine xa ?_ _ | refine xm ?_ _ _ | refine xd ?_ | refine xn ?_ _ | refine xs ?_ (by simp <;> omega) _)))
   have ks := cell_of_row _ _ 0 _ _ _ H3W.out
   simp at ks
   have ls := lt_of_heap H3W.out
   have fs : w'.frozen? ⟨b + 1 + 1, 0, none⟩ = false := by simp [World.frozen?, H3W.out]
   clear hr' hg' hb' H4x HPx d0 d1 d2 d3 ld kk lk
   go_wp2_with fail
   refine onlyN_mk ?_
   have T0 : Turn (fun k => K k ∨ xb ≤ k) W2 V := Turn.of_ext HXV.out
   have T1 : Turn (fun k => K k ∨ xb ≤ k) V (V.alloc (.cells #[.int .i64 x0, .int .i64 x1, .int .i64 x2, .int .i64 x3] 73)) := Turn.of_ext (by repeat first | exact xr _ | refine xa ?_ _ | refine xm ?_ _ _ | refine xd ?_ | refine xn ?_ _ | refine xs ?_ (by simp <;> omega) _)
   have T2 : Turn (fun k => K k ∨ xb ≤ k) (V.alloc (.cells #[.int .i64 x0, .int .i64 x1, .int .i64 x2, .int .i64 x3] 73)) w' := Turn.grown HG'.out fun k hk _ => .inl ((H6.out k).2 (.inr hk))
   have T3 : Turn (fun k => K k ∨ xb ≤ k) w' (w'.setCell ⟨b + 1 + 1, 0, none⟩ (.slice A' ln c')) := Turn.setCell w' (p := ⟨b + 1 + 1, 0, none⟩) (.inl ((H6.out _).2 (.inl rfl))) _
   have TT := ((T0.trans T1).trans T2).trans T3
   have nb : ∀ k, k < xb → k ≠ b + 1 + 1 → (∀ g, (Value.slice A 0 c).ownBlock = some g → k ≠ g) → ¬ (K k ∨ xb ≤ k) := fun k h1 h2 h3 h => by
    rcases h with h | h
    ·rcases (H6.out k).1 h with h | h
     ·exact h2 h
     ·exact h3 k h rfl
    ·omega
   have szV := HXV.out.size
   have hown : ∀ g, (Value.slice A' ln c').ownBlock = some g → g ≠ b ∧ g ≠ b + 1 ∧ g ≠ b + 1 + 1 ∧ g ≠ b + 3 ∧ g ≠ b + 3 + 1 := fun g hg => by
    rcases HB'.out with h | h
    ·exact H7.out g (h ▸ hg)
    ·rw [h] at hg
     injection hg with hg
     simp at hg
     omega
   have ho' : RowPn (w'.setCell ⟨b + 1 + 1, 0, none⟩ (.slice A' ln c')) w.heap.size (.slice A' ln c') (meltF (xs.take (j + 1))) := by
    rw [HOUT.out, HM.out]
    refine own_keep HR'.out fun g hg => ?_
    have := (hown g hg).2.2.1
    simp [World.setCell, Array.getElem?_modify, Ne.symm this]
   refine ⟨TT, fun k => k = b + 1 + 1 ∨ (Value.slice A' ln c').ownBlock = some k, fun k hk => ?_, .slice A' ln c', ?_, ?_, ?_, ho', ?_, fun k => Iff.rfl, hown⟩
   ·rcases hk with rfl | hk
    ·exact ⟨.inl ((H6.out _).2 (.inl rfl)), by simp; omega⟩
    ·refine ⟨?_, own_old ho' k hk⟩
     rcases HB'.out with h | h
     ·exact .inl ((H6.out _).2 (.inr (h ▸ hk)))
     ·rw [h] at hk
      injection hk with hk
      simp at hk
      exact .inr (by omega)
   ·exact (TT.block _ (lt_of_heap H1.out) (nb _ (by omega) (by omega) fun g hg => Ne.symm (H7.out g hg).1)).trans H1.out
   ·exact (TT.block _ (lt_of_heap H2.out) (nb _ (by omega) (by omega) fun g hg => Ne.symm (H7.out g hg).2.1)).trans H2.out
   ·simp [World.setCell, Array.getElem?_modify, H3W.out]
   ·exact H5.out.trans (TT.below H5.out.size fun k hk => by
     rcases hk with hk | hk
     ·rcases (H6.out k).1 hk with h | h
      ·omega
      ·exact own_block H4.out k h
     ·omega)
  ·have hn1 : 0 < n := by omega
   have h4' : W2.ownsRow w.heap.size 73 4 (.slice A n c) n (pn out) := by
    have h := H4.out
    unfold RowPn at h
    rw [HN.out] at h
    exact h
   obtain ⟨gq, hA1, hg1, hg2⟩ := row_block h4' hn1
   clear h4'
   subst hA1
   obtain ⟨⟨y0, y1, y2, y3⟩, hy⟩ : ∃ y, out[n - 1]? = some y := ⟨_, List.getElem?_eq_getElem (by have := HN.out; omega)⟩
   have HY := zh hy
   obtain ⟨va, hva⟩ : ∃ v, alikeB ⟨y0, y1, y2, y3⟩ ⟨x0, x1, x2, x3⟩ = v := ⟨_, rfl⟩
   have HJ : Hid (meltS out ⟨x0, x1, x2, x3⟩ = if va then out.set (n - 1) ⟨y0, x1, y2, y3⟩ else out ++ [⟨x0, x1, x2, x3⟩]) := zh (by unfold meltS; rw [HN.out, hy]; simp only [hva]; rfl)
   obtain ⟨bA, oA, hAA, hbA, hcA⟩ := HP.out (by have := HN.out; omega)
   injection hAA with hAA
   injection hAA with ea eb
   subst ea eb
   obtain ⟨a0, a1, a2, a3⟩ := hcA (n - 1) _ hy
   simp only [Nat.zero_add] at a0 a1 a2 a3
   have g1 : decide (0 < n) = true := decide_eq_true hn1
   have e1 : ((n : Int) - 1) = ((n - 1 : Nat) : Int) := by omega
   have e2 : IntKind.i64.wrap ((n : Int) - 1) = ((n - 1 : Nat) : Int) := by rw [IntWalk.i64_in _ (by omega)]; omega
   have e3 : n - 1 < n := by omega
   clear hcA hy
   gi_wp2
   refine wpIn_region_segs (12) [([0, 1, 2, 3, 4, 5, 6, 7, 8, 9], 10)] [11] (by kernel_rfl) (by kernel_rfl) (by kernel_rfl) ?_
   (refine segs_cons fun K hK => ?_); (first | (simp only [pick_nil]) | (simp only [pick, nthC])); (repeat (go_big_quiet_step (fail))); (refine wpQuiet_nil (hK _ fun next hn => ?_)); (clear hK K); (simp only [pick, nthC])
   go_wp2_with fail
   refine (alike_any28 ⟨y0, y1, y2, y3⟩ ⟨x0, x1, x2, x3⟩ _).mono ?_
   rintro e w9 ⟨rfl, hx9⟩
   have X9 : Hid (Ext W2 w9) := zh (((by repeat first | exact xr _ | refine xa ?_ _ | refine xm ?_ _ _ | refine xd ?_ | refine xn ?_ _ | refine xs ?_ (by simp <;> omega) _) : Ext W2 W2.drew).trans hx9)
   rw [hva]
   clear hx9 hva
   go_wp2_with fail
   refine segQ_mk (fun _ => laid X9.out) (hn _ _ ?_)
   clear hn next c0 c1 c2 c3 lx k0 k1 k2 l0 l1 l2 a0 a1 a2 a3 hbA
   (refine segs_nil fun K hK => ?_); (first | (simp only [pick_nil]) | (simp only [pick, nthC])); (repeat (go_big_quiet_step (fail))); (refine wpQuiet_nil (hK _ ?_)); (clear hK K)
   cases va with
   | false =>
    have HM : Hid (meltS out ⟨x0, x1, x2, x3⟩ = out ++ [⟨x0, x1, x2, x3⟩]) := HJ
    have XV := X9
    obtain ⟨V, hV⟩ : ∃ V, w9 = V := ⟨_, rfl⟩
    have HXV : Hid (Ext W2 V) := zh (by rw [← hV]; exact XV.out)
    rw [hV]
    clear hV XV
    have HGV := zh (ext_block HG.out HXV.out)
    have H3V := zh (ext_block H3.out HXV.out)
    have kk := cell_of_row _ _ 0 _ _ _ H3V.out
    simp at kk
    have lk := lt_of_heap H3V.out
    obtain ⟨d0, d1, d2, d3, ld⟩ := pn_cells (p := ⟨x0, x1, x2, x3⟩) HGV.out
    dsimp only at d0 d1 d2 d3
    have H4x : Hid (RowPn (V.alloc (.cells #[.int .i64 x0, .int .i64 x1, .int .i64 x2, .int .i64 x3] 73)) w.heap.size (.slice (some ⟨gq, 0, none⟩) n c) out) := zh (H4.out.ext (HXV.out.alloc _))
    have HPx : Hid (Pns (V.alloc (.cells #[.int .i64 x0, .int .i64 x1, .int .i64 x2, .int .i64 x3] 73)) (some ⟨V.heap.size, 0, none⟩) [⟨x0, x1, x2, x3⟩]) := zh (by
     intro _
     refine ⟨V.heap.size, 0, rfl, by simp, fun k p hk => ?_⟩
     cases k with
     | succ k => simp at hk
     | zero =>
      simp at hk
      subst hk
      obtain ⟨a0, a1, a2, a3, _⟩ := pn_cells (p := ⟨x0, x1, x2, x3⟩) (heap_alloc_new V (.cells #[.int .i64 x0, .int .i64 x1, .int .i64 x2, .int .i64 x3] 73))
      exact ⟨a0, a1, a2, a3⟩)
    gi_wp2_with (gi_at_builtin; refine wpListIn_of_plain (fun _ _ h => h) _ _ _ (by kernel_rfl) ?_; refine app_paint w (qs := [⟨x0, x1, x2, x3⟩]) (by rfl) (.tmp 38) (.tmp 40) rfl H4x.out rfl rfl (fun h => by cases h) HPx.out (by have := HN.out; omega) (by simp) (by have := H5.out.size; have := HXV.out.size; simp; omega) ?_; intro v' w' hr' hg' hb')
    obtain ⟨A', c', hv', _⟩ := hr'.read
    obtain ⟨ln, hln⟩ : ∃ ln, (out ++ [(⟨x0, x1, x2, x3⟩ : Pn)]).length = ln := ⟨_, rfl⟩
    rw [hln] at hv'
    subst hv'
    clear hln
    have HG' := zh hg'
    have HR' := zh hr'
    have HB' := zh hb'
    have H3W : Hid (w'.heap[b + 1 + 1]? = some (.cells #[.slice (some ⟨gq, 0, none⟩) n c] 69)) := zh ((hg'.block _ (by simp; omega) (fun he => (H7.out _ he.symm).2.2.1 rfl)).trans (ext_block H3V.out (by repeat first | exact xr _ | refine xa ?_ _ | refine xm ?_ _ _ | refine xd ?_ | refine xn ?_ _ | refine xs ?_ (by simp <;> omega) _)))
    have ks := cell_of_row _ _ 0 _ _ _ H3W.out
    simp at ks
    have ls := lt_of_heap H3W.out
    have fs : w'.frozen? ⟨b + 1 + 1, 0, none⟩ = false := by simp [World.frozen?, H3W.out]
    clear hr' hg' hb' H4x HPx d0 d1 d2 d3 ld kk lk
    go_wp2_with fail
    refine onlyN_mk ?_
    have T0 : Turn (fun k => K k ∨ xb ≤ k) W2 V := Turn.of_ext HXV.out
    have T1 : Turn (fun k => K k ∨ xb ≤ k) V (V.alloc (.cells #[.int .i64 x0, .int .i64 x1, .int .i64 x2, .int .i64 x3] 73)) := Turn.of_ext (by repeat first | exact xr _ | refine xa ?_ _ | refine xm ?_ _ _ | refine xd ?_ | refine xn ?_ _ | refine xs ?_ (by simp <;> omega) _)
    have T2 : Turn (fun k => K k ∨ xb ≤ k) (V.alloc (.cells #[.int .i64 x0, .int .i64 x1, .int .i64 x2, .int .i64 x3] 73)) w' := Turn.grown HG'.out fun k hk _ => .inl ((H6.out k).2 (.inr hk))
    have T3 : Turn (fun k => K k ∨ xb ≤ k) w' (w'.setCell ⟨b + 1 + 1, 0, none⟩ (.slice A' ln c')) := Turn.setCell w' (p := ⟨b + 1 + 1, 0, none⟩) (.inl ((H6.out _).2 (.inl rfl))) _
    have TT := ((T0.trans T1).trans T2).trans T3
    have nb : ∀ k, k < xb → k ≠ b + 1 + 1 → (∀ g, (Value.slice (some ⟨gq, 0, none⟩) n c).ownBlock = some g → k ≠ g) → ¬ (K k ∨ xb ≤ k) := fun k h1 h2 h3 h => by
     rcases h with h | h
     ·rcases (H6.out k).1 h with h | h
      ·exact h2 h
      ·exact h3 k h rfl
     ·omega
    have szV := HXV.out.size
    have hown : ∀ g, (Value.slice A' ln c').ownBlock = some g → g ≠ b ∧ g ≠ b + 1 ∧ g ≠ b + 1 + 1 ∧ g ≠ b + 3 ∧ g ≠ b + 3 + 1 := fun g hg => by
     rcases HB'.out with h | h
     ·exact H7.out g (h ▸ hg)
     ·rw [h] at hg
      injection hg with hg
      simp at hg
      omega
    have ho' : RowPn (w'.setCell ⟨b + 1 + 1, 0, none⟩ (.slice A' ln c')) w.heap.size (.slice A' ln c') (meltF (xs.take (j + 1))) := by
     rw [HOUT.out, HM.out]
     refine own_keep HR'.out fun g hg => ?_
     have := (hown g hg).2.2.1
     simp [World.setCell, Array.getElem?_modify, Ne.symm this]
    refine ⟨TT, fun k => k = b + 1 + 1 ∨ (Value.slice A' ln c').ownBlock = some k, fun k hk => ?_, .slice A' ln c', ?_, ?_, ?_, ho', ?_, fun k => Iff.rfl, hown⟩
    ·rcases hk with rfl | hk
     ·exact ⟨.inl ((H6.out _).2 (.inl rfl)), by simp; omega⟩
     ·refine ⟨?_, own_old ho' k hk⟩
      rcases HB'.out with h | h
      ·exact .inl ((H6.out _).2 (.inr (h ▸ hk)))
      ·rw [h] at hk
       injection hk with hk
       simp at hk
       exact .inr (by omega)
    ·exact (TT.block _ (lt_of_heap H1.out) (nb _ (by omega) (by omega) fun g hg => Ne.symm (H7.out g hg).1)).trans H1.out
    ·exact (TT.block _ (lt_of_heap H2.out) (nb _ (by omega) (by omega) fun g hg => Ne.symm (H7.out g hg).2.1)).trans H2.out
    ·simp [World.setCell, Array.getElem?_modify, H3W.out]
    ·exact H5.out.trans (TT.below H5.out.size fun k hk => by
      rcases hk with hk | hk
      ·rcases (H6.out k).1 hk with h | h
       ·omega
       ·exact own_block H4.out k h
      ·omega)
   | true =>
    have HM : Hid (meltS out ⟨x0, x1, x2, x3⟩ = out.set (n - 1) ⟨y0, x1, y2, y3⟩) := HJ
    have k1 := cell_of_row _ _ 0 _ _ _ (ext_block H2.out X9.out)
    have k2 := cell_of_row _ _ 0 _ _ _ (ext_block H3.out X9.out)
    simp at k1 k2
    have l1 := lt_of_heap (ext_block H2.out X9.out)
    have l2 := lt_of_heap (ext_block H3.out X9.out)
    obtain ⟨c0, c1, c2, c3, lx⟩ := pn_cells (p := ⟨x0, x1, x2, x3⟩) (ext_block HG.out X9.out)
    dsimp only at c0 c1 c2 c3
    obtain ⟨bA, oA, hAA, hbA, hcA⟩ := (HP.out.ext X9.out) (by have := HN.out; omega)
    injection hAA with hAA
    injection hAA with ea eb
    subst ea eb
    obtain ⟨a0, a1, a2, a3⟩ := hcA (n - 1) _ HY.out
    simp only [Nat.zero_add] at a0 a1 a2 a3
    clear hcA
    gi_wp2
    refine wpIn_region_segs (12) [([0, 1, 2, 3, 4, 5, 6, 7, 8, 9], 10), ([11], 12)] [] (by kernel_rfl) (by kernel_rfl) (by kernel_rfl) ?_
    (refine segs_cons fun K hK => ?_); (first | (simp only [pick_nil]) | (simp only [pick, nthC])); (repeat (go_big_quiet_step (fail))); (refine wpQuiet_nil (hK _ fun next hn => ?_)); (clear hK K); (simp only [pick, nthC])
    go_wp2_with fail
    refine (one_any28 ⟨y0, y1, y2, y3⟩ ⟨x0, x1, x2, x3⟩ _).mono ?_
    rintro e w10 ⟨rfl, hx10⟩
    have X10 : Hid (Ext w9 w10) := zh (((by repeat first | exact xr _ | refine xa ?_ _ | refine xm ?_ _ _ | refine xd ?_ | refine xn ?_ _ | refine xs ?_ (by simp <;> omega) _) : Ext w9 w9.drew).trans hx10)
    clear hx10
    unfold pnV
    dsimp only
    go_wp2_with fail
    refine segQ_mk (fun _ => laid X10.out) (hn _ _ ?_)
    clear hn next a0 a1 a2 a3 c0 c1 c2 c3 k1 k2 l1 l2 lx hbA
    have HR10 := zh (H4.out.ext (X9.out.trans X10.out))
    obtain ⟨cur, hcur⟩ := own_obj HR10.out gq rfl
    have hcd := HR10.out
    unfold RowPn at hcd
    rw [HN.out] at hcd
    have HP10 := HP.out.ext (X9.out.trans X10.out)
    obtain ⟨bg, og, hgg, hbg, hcg⟩ := HP10 (by have := HN.out; omega)
    injection hgg with hgg
    injection hgg with ea eb
    subst ea eb
    obtain ⟨a0, a1, a2, a3⟩ := hcg (n - 1) _ HY.out
    simp only [Nat.zero_add] at a0 a1 a2 a3
    have gf : ∀ k, w10.frozen? ⟨gq, k, none⟩ = false := fun k => by simp [World.frozen?, hcur]
    have HST : Hid (RowPn (put4p w10 gq ((n - 1) * 4) ⟨y0, x1, y2, y3⟩) w.heap.size (.slice (some ⟨gq, 0, none⟩) n c) (out.set (n - 1) ⟨y0, x1, y2, y3⟩)) := zh (HR10.out.store HY.out)
    have TT : Hid (Turn (fun k => K k ∨ xb ≤ k) W2 (put4p w10 gq ((n - 1) * 4) ⟨y0, x1, y2, y3⟩)) := zh ((Turn.of_ext (X9.out.trans X10.out)).trans (put4p_turn _ _ _ _ (.inl ((H6.out _).2 (.inr rfl)))))
    have T3 : Hid (Turn (fun k => k = gq) W2 (put4p w10 gq ((n - 1) * 4) ⟨y0, x1, y2, y3⟩)) := zh ((Turn.of_ext (X9.out.trans X10.out)).trans (put4p_turn _ _ _ _ rfl))
    obtain ⟨W11, hW11⟩ : ∃ V, put4p w10 gq ((n - 1) * 4) ⟨y0, x1, y2, y3⟩ = V := ⟨_, rfl⟩
    rw [hW11] at HST TT T3
    unfold put4p at hW11
    clear hcg HP10 hcur hcd
    (refine segs_cons fun K hK => ?_); (first | (simp only [pick_nil]) | (simp only [pick, nthC])); (repeat (go_big_quiet_step (fail))); (refine wpQuiet_nil (hK _ fun next hn => ?_)); (clear hK K); (simp only [pick, nthC])
    go_wp2_with fail
    refine segQ_mk (fun h => absurd rfl h) (hn _ _ ?_)
    clear hn next
    (refine segs_nil fun K hK => ?_); (first | (simp only [pick_nil]) | (simp only [pick, nthC])); (repeat (go_big_quiet_step (fail))); (refine wpQuiet_nil (hK _ ?_)); (clear hK K)
    try simp only [hW11]
    clear hW11 gf a0 a1 a2 a3 hbg
    gi_wp2
    have hown : ∀ g, (Value.slice (some (⟨gq, 0, none⟩ : Addr)) n c).ownBlock = some g → g = gq := fun g hg => by injection hg with hg; exact hg.symm
    have nb : ∀ k, k < xb → k ≠ b + 1 + 1 → k ≠ gq → ¬ (K k ∨ xb ≤ k) := fun k h1 h2 h3 h => by
     rcases h with h | h
     ·rcases (H6.out k).1 h with h | h
      ·exact h2 h
      ·exact h3 (hown k h)
     ·omega
    have h7 := H7.out gq rfl
    have l2 := lt_of_heap H3.out
    have nbig : W2.heap.size ≤ W11.heap.size := TT.out.size
    refine ⟨TT.out, K, fun k hk => ⟨.inl hk, ?_⟩, _, ?_, ?_, ?_, (by rw [HOUT.out, HM.out]; exact HST.out), ?_, H6.out, H7.out⟩
    ·rcases (H6.out k).1 hk with h | h
     ·omega
     ·exact own_old HST.out k h
    ·exact (TT.out.block _ (lt_of_heap H1.out) (nb _ (by omega) (by omega) (Ne.symm h7.1))).trans H1.out
    ·exact (TT.out.block _ (lt_of_heap H2.out) (nb _ (by omega) (by omega) (Ne.symm h7.2.1))).trans H2.out
    ·exact (T3.out.block _ l2 (Ne.symm h7.2.2.1)).trans H3.out
    ·exact H5.out.trans (TT.out.below H5.out.size fun k hk => by
      rcases hk with hk | hk
      ·rcases (H6.out k).1 hk with h | h
       ·omega
       ·exact own_block H4.out k h
      ·omega)
 ·rintro K V ⟨v, h1, h2, h3, h4, h5, h6, h7⟩ hsz hk
  rw [S0] at hk ⊢
  rw [List.take_length] at h4
  have k0 := cell_of_row _ _ 0 _ _ _ h3
  simp at k0
  have l0 := lt_of_heap h3
  have tD : Turn (fun k => k = b + 3) V (V.putObj (b + 3) (.deferred none)) := putObj_turn _ _ rfl
  have OUT : Hid (PaintRet w (meltF xs) (.returned v) (V.putObj (b + 3) (.deferred none))) := zh (by
   refine ⟨v, rfl, own_keep h4 fun g hg => ?_, Ext.of_below (h5.trans (tD.below h5.size fun k hk => by omega))⟩
   have := h7 g hg
   exact tD.block g (own_old h4 g hg) (by omega))
  clear h1 h2 h3 h4 h5 h6 h7 tD
  go_wp2_with fail
  exact marks_ret1 (D := b + 3) (v := v) rfl hk (by simp [results, Tryz.results85, go_sem]) OUT.out
end Go.Proofs.YthpmncdfaggkiaaGreat
namespace Go.Proofs.YthpmncdfaggkiaaGreat
open Go.RowKit
attribute [local go_sem] more_drew more_drewN more_size more_cell more_frozen more_setCell drew_more drewN_more lt_add_r lt_add_r2 lt_add_r3 lt_add_r4 lt_add_r5 lt_add_r6 lt_add_r7 lt_add_r8 lt_add_r9 lt_add_r10 lt_self_r lt_self_r2
attribute [local go_sem] Oper.semAt_some
theorem clip_len (f t a b st mk : Int) : (clip f t a b st mk).length ≤ 1 := by
 unfold clip
 split <;> simp
theorem strF_len (l : List Nd) (ms : List Int) (sv : Nat → Int) (f t x : Int) (is : List Int) : (strF l ms sv f t x is).length ≤ 3 * is.length + 1 := by
 induction is generalizing x with
 | nil => exact Nat.le_trans (clip_len ..) (by simp)
 | cons i is ih =>
  have h1 := clip_len f t x (ndAt l i).lo 0 1
  have h2 := clip_len f t (ndAt l i).lo (ndAt l i).inn 0 ((ms[i.toNat]?).getD 0)
  have h3 := clip_len f t (ndAt l i).inn (ndAt l i).hi (sv i.toNat) ((ms[i.toNat]?).getD 0)
  have h4 := ih (ndAt l i).hi
  simp only [strF, leafPn, List.length_append, List.length_cons]
  omega
def OfRet (w : World) (ps : List Pn) (e : Ending) (w' : World) : Prop := ∃ v, e = .returned (.tuple #[v, .int .i64 0]) ∧ RowPn w' w.heap.size v ps ∧ Ext w w'
set_option maxRecDepth 100000 in
set_option maxHeartbeats 3000000 in
theorem of28_any (A : Option Addr) (c : Nat) (ps : List Prt) (MA : Option Addr) (cm : Nat) (ms : List Int) (SA : Option Addr) (sn cs : Nat) (sv : Nat → Int) (f t : Int) (rp : Prt) (w : World)
 (hS : PS w A c ps) (hT : Tree (nds ps)) (hM : Ints w MA ms) (hml : ms.length = ps.length) (hmc : ms.length ≤ cm) (hmt : cm ≤ 9223372036854775807)
 (hL : ∀ (i : Nat) (V : World), i < ps.length → Below w.heap.size w V → Calls Tryz.prog 28 #[.slice SA sn cs, .slice A ps.length c, .int .i64 i] V fun e w' => e = .returned (.int .i64 (sv i)) ∧ Ext V w')
 (hr : ps[0]? = some rp) (hr0 : rp.nd.lo = 0) (h0f : 0 ≤ f) (hft : f ≤ t) (hth : t ≤ rp.nd.hi) :
 Calls Tryz.prog 41 #[.slice A ps.length c, .slice MA ms.length cm, .slice SA sn cs, .int .i64 f, .int .i64 t] w (OfRet w (meltF (strF (nds ps) ms sv f t 0 (leavesF 0 (nds ps))))) := by
 have hpos : 0 < ps.length := (List.getElem?_eq_some_iff.1 hr).1
 have hlen : (strF (nds ps) ms sv f t 0 (leavesF 0 (nds ps))).length ≤ 900000 := by
  have h1 := strF_len (nds ps) ms sv f t 0 (leavesF 0 (nds ps))
  have h2 := leavesF_len (nds ps) 0
  rw [nds_length] at h2
  have h3 := hS.few.len
  omega
 have HS := zh hS
 have HT := zh hT
 have HM := zh hM
 have HL := zh hL
 have HML := zh hml
 have HMC := zh hmc
 have HMT := zh hmt
 obtain ⟨xs, hxs⟩ : ∃ xs, strF (nds ps) ms sv f t 0 (leavesF 0 (nds ps)) = xs := ⟨_, rfl⟩
 have HXS := zh hxs.symm
 rw [hxs] at hlen ⊢
 have HLEN := zh hlen
 have g1 : decide (f < 0) = false := decide_eq_false (by omega)
 have g2 : decide (t < f) = false := decide_eq_false (by omega)
 have g3 : decide (rp.nd.hi < t) = false := decide_eq_false (by omega)
 have g4 : decide (ms.length = ps.length) = true := decide_eq_true hml
 have CK := zh (check_ok hS hT)
 clear hS hT hM hL hmc hmt hxs hlen h0f hft hth
 go_enter Tryz.func41, Tryz.ntmps41
 go_wp2_with fail
 refine CK.out.mono ?_
 rintro e w1 ⟨rfl, hx1⟩
 have HX1 := zh hx1
 obtain ⟨bA, oA, hAA, hbA, hcA⟩ := (HS.out.ext hx1).parts hpos
 subst hAA
 have hc := hcA 0 rp hr
 obtain ⟨c0, c1, c2, c3, c4, c5, c6, c7⟩ := hc
 rw [hr0] at c2
 simp only [Nat.zero_mul, Nat.add_zero] at c0 c1 c2 c3 c4 c5 c6 c7
 rw [hml]
 rw [hml] at g4
 clear hx1 hcA c0 c1 c3 c5 c6 c7
 go_wp2_with fail
 refine (stretches_make (some ⟨bA, oA, none⟩) ps.length c MA ps.length cm SA sn cs f t w1).mono ?_
 rintro e w2 ⟨rfl, rfl⟩
 obtain ⟨n, hn⟩ : ∃ n, w1.heap.size = n := ⟨_, rfl⟩
 obtain ⟨W2, hW2⟩ : ∃ V, ((((w1.alloc (.cells #[.slice (some ⟨bA, oA, none⟩) ps.length c] 22)).alloc (.cells #[.slice MA ps.length cm] 31)).alloc (.cells #[.slice SA sn cs] 56)).alloc (.cells #[.int .i64 f] 3)).alloc (.cells #[.int .i64 t] 3) = V := ⟨_, rfl⟩
 have X2 : Hid (Ext w1 W2) := zh (by rw [← hW2]; exact (by repeat first | exact xr _ | refine xa ?_ _ | refine xm ?_ _ _ | refine xd ?_ | refine xn ?_ _ | refine xs ?_ (by simp <;> omega) _))
 have G0 : Hid (W2.heap[n]? = some (.cells #[.slice (some ⟨bA, oA, none⟩) ps.length c] 22)) := zh (by rw [← hW2, ← hn]; exact (by simp only [heap_alloc_get, World.size_alloc]; (repeat (split; (first | rfl | (exfalso; omega)))); (try (first | (exfalso; omega) | simp_all))))
 have G1 : Hid (W2.heap[n + 1]? = some (.cells #[.slice MA ms.length cm] 31)) := zh (by rw [← hW2, ← hn, HML.out]; exact (by simp only [heap_alloc_get, World.size_alloc]; (repeat (split; (first | rfl | (exfalso; omega)))); (try (first | (exfalso; omega) | simp_all))))
 have G2 : Hid (W2.heap[n + 2]? = some (.cells #[.slice SA sn cs] 56)) := zh (by rw [← hW2, ← hn]; exact (by simp only [heap_alloc_get, World.size_alloc]; (repeat (split; (first | rfl | (exfalso; omega)))); (try (first | (exfalso; omega) | simp_all))))
 have G3 : Hid (W2.heap[n + 3]? = some (.cells #[.int .i64 f] 3)) := zh (by rw [← hW2, ← hn]; exact (by simp only [heap_alloc_get, World.size_alloc]; (repeat (split; (first | rfl | (exfalso; omega)))); (try (first | (exfalso; omega) | simp_all))))
 have G4 : Hid (W2.heap[n + 4]? = some (.cells #[.int .i64 t] 3)) := zh (by rw [← hW2, ← hn]; exact (by simp only [heap_alloc_get, World.size_alloc]; (repeat (split; (first | rfl | (exfalso; omega)))); (try (first | (exfalso; omega) | simp_all))))
 rw [hW2, hn]
 clear hW2 hn g1 g2 g3 g4 c2 c4 hbA
 have X12 := zh (HX1.out.trans X2.out)
 have ME := zh (melt_any28 135 #[pt (n + 3), pt (n + 4), pt n, pt (n + 1), pt (n + 2)] xs W2 HLEN.out (enters_of Tryz.func135 (by kernel_rfl) rfl)
  (fun w1 hx => stretch_iter W2 (n + 3) (n + 4) n (n + 1) (n + 2) f t (some ⟨bA, oA, none⟩) c ps MA cm ms SA sn cs sv xs G3.out G4.out G0.out G1.out G2.out (HS.out.ext X12.out) HT.out (HM.out.ext X12.out) HML.out HMC.out HMT.out
    (fun i V hi hV => HL.out i V hi (X12.out.below.trans (hV.mono X12.out.size))) HXS.out w1 hx))
 go_wp2_with fail
 refine ME.out.mono ?_
 rintro e w3 ⟨v, rfl, hr3, hx3⟩
 have HR := zh (show RowPn w3 w.heap.size v (meltF xs) from own_base' hr3 X12.out.size)
 have X3 : Hid (Ext w w3) := zh (X12.out.trans hx3)
 clear hr3 hx3 ME
 go_wp2_with fail
 go_ret2
 exact ⟨_, rfl, HR.out, X3.out⟩
end Go.Proofs.YthpmncdfaggkiaaGreat
namespace Go.Proofs.YthpmncdfaggkiaaGreat
open Go.RowKit
def Gap : Int → Int → List Pn → Prop
 | x, y, [] => x = y
 | x, y, p :: ps => p.lo = x ∧ p.lo < p.hi ∧ Gap p.hi y ps
theorem Gap.append {ps qs : List Pn} {x y z : Int} (h : Gap x y ps) (h2 : Gap y z qs) : Gap x z (ps ++ qs) := by
 induction ps generalizing x with
 | nil => cases h; exact h2
 | cons p ps ih => exact ⟨h.1, h.2.1, ih h.2.2⟩
theorem Gap.split {ps qs : List Pn} {x z : Int} (h : Gap x z (ps ++ qs)) : ∃ y, Gap x y ps ∧ Gap y z qs := by
 induction ps generalizing x with
 | nil => exact ⟨x, rfl, h⟩
 | cons p ps ih =>
  obtain ⟨y, h1, h2⟩ := ih h.2.2
  exact ⟨y, ⟨h.1, h.2.1, h1⟩, h2⟩
theorem Gap.le {ps : List Pn} {x y : Int} (h : Gap x y ps) : x ≤ y := by
 induction ps generalizing x with
 | nil => cases h; exact Int.le_refl _
 | cons p ps ih => have := ih h.2.2; have := h.1; have := h.2.1; omega
def hold (f t z : Int) : Int := if z < f then f else if t < z then t else z
theorem clip_gap {f t a b : Int} (st mk : Int) (hft : f ≤ t) (hab : a ≤ b) : Gap (hold f t a) (hold f t b) (clip f t a b st mk) := by
 unfold clip
 by_cases h : clipB t b ≤ clipA f a
 ·rw [if_pos h]
  show hold f t a = hold f t b
  unfold clipB clipA at h
  unfold hold
  split at h <;> split at h <;> (repeat' split) <;> omega
 ·rw [if_neg h]
  refine ⟨?_, ?_, ?_⟩
  ·unfold clipB clipA at h
   unfold clipA hold
   dsimp only
   split at h <;> split at h <;> (repeat' split) <;> omega
  ·dsimp only
   omega
  ·show clipB t b = hold f t b
   unfold clipB clipA at h
   unfold clipB hold
   split at h <;> split at h <;> (repeat' split) <;> omega
def InRow (l : List Nd) : Int → List Int → Prop
 | x, [] => x ≤ (ndAt l 0).hi
 | x, i :: is => x ≤ (ndAt l i).lo ∧ (ndAt l i).lo ≤ (ndAt l i).inn ∧ (ndAt l i).inn ≤ (ndAt l i).hi ∧ InRow l (ndAt l i).hi is
theorem strF_gap (l : List Nd) (ms : List Int) (sv : Nat → Int) {f t x : Int} (hft : f ≤ t) {is : List Int} (h : InRow l x is) : Gap (hold f t x) (hold f t (ndAt l 0).hi) (strF l ms sv f t x is) := by
 induction is generalizing x with
 | nil => exact clip_gap _ _ hft h
 | cons i is ih =>
  obtain ⟨h1, h2, h3, h4⟩ := h
  exact Gap.append (Gap.append (clip_gap _ _ hft h1) (Gap.append (clip_gap _ _ hft h2) (clip_gap _ _ hft h3))) (ih h4)
theorem meltS_concat (init : List Pn) (y x : Pn) : meltS (init ++ [y]) x = if alikeB y x then init ++ [oneF y x] else init ++ [y, x] := by
 unfold meltS
 have h : (init ++ [y])[(init ++ [y]).length - 1]? = some y := by simp
 rw [h]
 dsimp only
 split
 ·simp
 ·simp
def NoAl : Option Pn → List Pn → Prop
 | _, [] => True
 | pr, p :: ps => (∀ q, pr = some q → alikeB q p = false) ∧ NoAl (some p) ps
theorem noAl_concat {pr : Option Pn} {ps : List Pn} {y x : Pn} (h : NoAl pr (ps ++ [y])) (hx : alikeB y x = false) : NoAl pr (ps ++ [y, x]) := by
 induction ps generalizing pr with
 | nil => exact ⟨h.1, fun q hq => by injection hq with hq; rw [← hq]; exact hx, trivial⟩
 | cons p ps ih => exact ⟨h.1, ih h.2⟩
theorem noAl_one {pr : Option Pn} {ps : List Pn} {y x : Pn} (h : NoAl pr (ps ++ [y])) : NoAl pr (ps ++ [oneF y x]) := by
 induction ps generalizing pr with
 | nil => exact ⟨fun q hq => h.1 q hq, trivial⟩
 | cons p ps ih => exact ⟨h.1, ih h.2⟩
theorem meltS_right {x z : Int} {out : List Pn} {p : Pn} (h : Gap x p.lo out) (hn : NoAl none out) (hp : p.lo < p.hi) (hz : p.hi = z) : Gap x z (meltS out p) ∧ NoAl none (meltS out p) := by
 rcases List.eq_nil_or_concat out with rfl | ⟨init, y, rfl⟩
 ·show Gap x z [p] ∧ NoAl none [p]
  refine ⟨⟨h.symm, hp, hz⟩, fun q hq => ?_, trivial⟩
  cases hq
 ·rw [List.concat_eq_append] at h hn ⊢
  rw [meltS_concat]
  obtain ⟨v, h1, h2⟩ := h.split
  obtain ⟨h3, h4, h5⟩ := h2
  by_cases ha : alikeB y p = true
  ·rw [if_pos ha]
   have hyl : y.hi = p.lo := h5
   exact ⟨h1.append ⟨h3, by show y.lo < p.hi; omega, hz⟩, noAl_one hn⟩
  ·rw [if_neg ha]
   exact ⟨h1.append ⟨h3, h4, h5.symm, hp, hz⟩, noAl_concat hn (by simpa using ha)⟩
theorem meltF_right {x z : Int} {xs out : List Pn} {y : Int} (h : Gap x y out) (hn : NoAl none out) (hx : Gap y z xs) : Gap x z (xs.foldl meltS out) ∧ NoAl none (xs.foldl meltS out) := by
 induction xs generalizing out y with
 | nil => cases hx; exact ⟨h, hn⟩
 | cons p xs ih =>
  obtain ⟨h1, h2, h3⟩ := hx
  obtain ⟨r1, r2⟩ := meltS_right (z := p.hi) (by rw [h1]; exact h) hn h2 rfl
  exact ih r1 r2 h3
def col (z : Int) : List Pn → Option (Int × Int)
 | [] => none
 | p :: ps => if hasB z p then some (p.st, p.mr) else col z ps
theorem col_append (z : Int) (ps qs : List Pn) : col z (ps ++ qs) = (col z ps).or (col z qs) := by
 induction ps with
 | nil => simp [col]
 | cons p ps ih =>
  simp only [List.cons_append, col]
  split
  ·rfl
  ·exact ih
theorem alike_eq {y p : Pn} (h : alikeB y p = true) : y.hi = p.lo ∧ y.st = p.st ∧ y.mr = p.mr := by
 simp only [alikeB, Bool.and_eq_true, decide_eq_true_eq] at h
 exact ⟨h.1.1, h.1.2, h.2⟩
theorem col_two (z : Int) {y p : Pn} (h : alikeB y p = true) (hy : y.lo < y.hi) (hp : p.lo < p.hi) : col z [oneF y p] = col z [y, p] := by
 obtain ⟨h1, h2, h3⟩ := alike_eq h
 simp only [col, hasB, oneF, h2, h3]
 by_cases a : y.lo ≤ z <;> by_cases b : z < p.hi <;> by_cases c : z < y.hi <;> by_cases d : p.lo ≤ z <;> simp [a, b, c, d] <;> omega
theorem col_meltS (z : Int) {x : Int} {out : List Pn} {p : Pn} (h : Gap x p.lo out) (hp : p.lo < p.hi) : col z (meltS out p) = col z (out ++ [p]) := by
 rcases List.eq_nil_or_concat out with rfl | ⟨init, y, rfl⟩
 ·rfl
 ·rw [List.concat_eq_append] at h ⊢
  rw [meltS_concat]
  obtain ⟨v, h1, h3, h4, h5⟩ := h.split
  by_cases ha : alikeB y p = true
  ·rw [if_pos ha, List.append_assoc, col_append, col_append, List.singleton_append, col_two z ha h4 hp]
  ·rw [if_neg ha, List.append_assoc]; rfl
theorem col_meltF {x y z' : Int} (z : Int) {xs out : List Pn} (h : Gap x y out) (hn : NoAl none out) (hx : Gap y z' xs) : col z (xs.foldl meltS out) = col z (out ++ xs) := by
 induction xs generalizing out y with
 | nil => rw [List.append_nil]; rfl
 | cons p xs ih =>
  obtain ⟨h1, h2, h3⟩ := hx
  obtain ⟨r1, r2⟩ := meltS_right (z := p.hi) (by rw [h1]; exact h) hn h2 rfl
  rw [List.foldl_cons, ih r1 r2 h3, col_append, col_meltS z (by rw [h1]; exact h) h2, ← col_append, List.append_assoc, List.singleton_append]
theorem meltF_col {x y : Int} (z : Int) {xs : List Pn} (hx : Gap x y xs) : col z (meltF xs) = col z xs := col_meltF (x := x) (y := x) z (out := []) rfl trivial hx
theorem col_at {p : Pn} {ps : List Pn} (h : p.lo < p.hi) : col p.lo (p :: ps) = some (p.st, p.mr) := by
 have : hasB p.lo p = true := by simp [hasB]; omega
 simp [col, this]
def colC (z a b st mk : Int) : Option (Int × Int) := if a ≤ z ∧ z < b then some (st, mk) else none
def colT (l : List Nd) (ms : List Int) (sv : Nat → Int) (z : Int) : Int → List Int → Option (Int × Int)
 | x, [] => colC z x (ndAt l 0).hi 0 1
 | x, i :: is => ((colC z x (ndAt l i).lo 0 1).or ((colC z (ndAt l i).lo (ndAt l i).inn 0 ((ms[i.toNat]?).getD 0)).or (colC z (ndAt l i).inn (ndAt l i).hi (sv i.toNat) ((ms[i.toNat]?).getD 0)))).or (colT l ms sv z (ndAt l i).hi is)
theorem col_clip (z f t a b st mk : Int) : col z (clip f t a b st mk) = if f ≤ z ∧ z < t then colC z a b st mk else none := by
 unfold clip colC
 by_cases h : clipB t b ≤ clipA f a
 ·rw [if_pos h]
  simp only [col]
  unfold clipB clipA at h
  by_cases h1 : f ≤ z ∧ z < t
  ·rw [if_pos h1, if_neg]
   split at h <;> split at h <;> omega
  ·rw [if_neg h1]
 ·rw [if_neg h]
  have e : (clipA f a ≤ z ∧ z < clipB t b) ↔ ((f ≤ z ∧ z < t) ∧ (a ≤ z ∧ z < b)) := by
   unfold clipA clipB
   split <;> split <;> omega
  simp only [col, hasB, Bool.and_eq_true, decide_eq_true_eq, e]
  by_cases h1 : f ≤ z ∧ z < t
  ·simp only [h1, true_and, if_true, and_self]
  ·simp only [h1, false_and, if_false]
theorem col_strF (l : List Nd) (ms : List Int) (sv : Nat → Int) (z f t x : Int) (is : List Int) : col z (strF l ms sv f t x is) = if f ≤ z ∧ z < t then colT l ms sv z x is else none := by
 induction is generalizing x with
 | nil => exact col_clip ..
 | cons i is ih =>
  simp only [strF, leafPn, colT, col_append, col_clip, ih]
  by_cases h1 : f ≤ z ∧ z < t
  ·simp only [if_pos h1]
  ·simp only [if_neg h1]; rfl
theorem hold_low {f t z : Int} (h0 : f ≤ t) (h1 : z ≤ f) : hold f t z = f := by unfold hold; split <;> (try split) <;> omega
theorem hold_high {f t z : Int} (h0 : f ≤ t) (h1 : t ≤ z) : hold f t z = t := by unfold hold; split <;> (try split) <;> omega
theorem strF_whole {l : List Nd} (ms : List Int) (sv : Nat → Int) {f t : Int} {is : List Int} (h : InRow l 0 is) (h0 : 0 ≤ f) (hft : f ≤ t) (ht : t ≤ (ndAt l 0).hi) : Gap f t (strF l ms sv f t 0 is) := by
 have g := strF_gap l ms sv hft h
 rwa [hold_low hft h0, hold_high hft ht] at g
def InR (l : List Nd) (y : Int) : Int → List Int → Prop
 | x, [] => x ≤ y
 | x, i :: is => x ≤ (ndAt l i).lo ∧ (ndAt l i).lo ≤ (ndAt l i).inn ∧ (ndAt l i).inn ≤ (ndAt l i).hi ∧ InR l y (ndAt l i).hi is
theorem InR.low {l : List Nd} {y x x' : Int} {is : List Int} (h : InR l y x is) (hx : x' ≤ x) : InR l y x' is := by
 cases is with
 | nil => exact Int.le_trans hx h
 | cons i is => exact ⟨Int.le_trans hx h.1, h.2⟩
theorem InR.append {l : List Nd} {x y z : Int} {is js : List Int} (h : InR l y x is) (h2 : InR l z y js) : InR l z x (is ++ js) := by
 induction is generalizing x with
 | nil => exact h2.low h
 | cons i is ih => exact ⟨h.1, h.2.1, h.2.2.1, ih h.2.2.2⟩
theorem InR.row {l : List Nd} {x : Int} {is : List Int} (h : InR l (ndAt l 0).hi x is) : InRow l x is := by
 induction is generalizing x with
 | nil => exact h
 | cons i is ih => exact ⟨h.1, h.2.1, h.2.2.1, ih h.2.2.2⟩
theorem leavesF_append : ∀ (a b : List Nd) (k : Nat), leavesF k (a ++ b) = leavesF k a ++ leavesF (k + a.length) b
 | [], b, k => rfl
 | p :: a, b, k => by
  simp only [List.cons_append, leavesF, leavesF_append a b (k + 1), List.length_cons, show k + 1 + a.length = k + (a.length + 1) by omega]
  split <;> rfl
def lvs (l : List Nd) (n e : Nat) : List Int := leavesF n ((l.drop n).take (e - n))
theorem lvs_self (l : List Nd) (n : Nat) : lvs l n n = [] := by simp [lvs, leavesF]
theorem lvs_add (l : List Nd) {n m e : Nat} (h1 : n ≤ m) (h2 : m ≤ e) (hm : m ≤ l.length) : lvs l n e = lvs l n m ++ lvs l m e := by
 unfold lvs
 have e1 : (l.drop n).take (e - n) = (l.drop n).take (m - n) ++ (l.drop m).take (e - m) := by
  rw [show e - n = (m - n) + (e - m) by omega, List.take_add, List.drop_drop, show n + (m - n) = m by omega]
 rw [e1, leavesF_append, List.length_take, List.length_drop, show n + min (m - n) (l.length - n) = m by omega]
theorem lvs_one {l : List Nd} {n : Nat} {p : Nd} (hp : l[n]? = some p) : lvs l n (n + 1) = if LeafK p.kind then [(n : Int)] else [] := by
 obtain ⟨hl, h⟩ := List.getElem?_eq_some_iff.1 hp
 unfold lvs
 rw [show n + 1 - n = 1 by omega, List.drop_eq_getElem_cons hl, h]
 simp [leavesF]
theorem trek_leaves {l : List Nd} (hb : ∀ p ∈ l, Bare p) (hl : ∀ p ∈ l, liesB l p.hi p.lo p.kids = true) {ks : List Int} {n e : Nat} {ok : Bool} (h : Trek l ks n ok e) : ok = true → e ≤ l.length → ∀ x y : Int, liesB l y x ks = true → InR l y x (lvs l n e) := by
 induction h with
 | nil n =>
  intro _ _ x y hx
  rw [lvs_self]
  have h : x ≤ y := by simpa [liesB] using hx
  exact h
 | bad k ks n _ => intro h; cases h
 | sub p ks n m hp h1 ih => intro h; cases h
 | cons p ks n m ok e hp h1 h2 ih1 ih2 =>
  intro hok hel x y hx
  have hle1 := h1.le.1
  have hle2 := h2.le.1
  have hmem := List.mem_of_getElem? hp
  have hB := hb p hmem
  have hx' : x ≤ p.lo ∧ liesB l y p.hi ks = true := by
   simp only [liesB, Int.toNat_natCast, hp, Bool.and_eq_true, decide_eq_true_eq] at hx
   exact hx
  have i2 := ih2 hok hel p.hi y hx'.2
  have i1 := ih1 rfl (by omega) p.lo p.hi (hl p hmem)
  rw [lvs_add l (show n ≤ n + 1 by omega) (show n + 1 ≤ e by omega) (by omega), lvs_add l hle1 hle2 (by omega), lvs_one hp]
  have hnd : ndAt l (n : Int) = p := by unfold ndAt; rw [Int.toNat_natCast, hp]; rfl
  obtain ⟨b1, b2, b3, b4, b5, b6, b7, b8, b9⟩ := hB
  have hin : p.lo ≤ p.inn ∧ p.inn ≤ p.hi := by
   by_cases ht : TokK p.kind
   ·exact b6 ht
   ·have := b7 ht
    omega
  by_cases hk : LeafK p.kind
  ·rw [if_pos hk]
   have hke : p.kids = [] := List.eq_nil_of_length_eq_zero (b9 hk)
   rw [hke] at h1
   cases h1
   rw [lvs_self]
   show InR l y x ((n : Int) :: lvs l (n + 1) e)
   refine ⟨?_, ?_, ?_, ?_⟩
   ·rw [hnd]; exact hx'.1
   ·rw [hnd]; exact hin.1
   ·rw [hnd]; exact hin.2
   ·rw [hnd]; exact i2
  ·rw [if_neg hk]
   show InR l y x (lvs l (n + 1) m ++ lvs l m e)
   exact InR.append (i1.low hx'.1) i2
theorem leaves_row {l : List Nd} (h : Tree l) : InRow l 0 (leavesF 0 l) := by
 have hpos := h.pos
 obtain ⟨r, hr⟩ : ∃ r, l[0]? = some r := ⟨_, List.getElem?_eq_getElem hpos⟩
 have hb : ∀ p ∈ l, Bare p := fun p hp => by
  obtain ⟨i, hi, rfl⟩ := List.getElem_of_mem hp
  exact (h.bare i _ (List.getElem?_eq_getElem hi)).1
 have hnd : ndAt l 0 = r := by unfold ndAt; rw [show (0 : Int).toNat = 0 from rfl, hr]; rfl
 have key := trek_leaves hb h.lies h.trek rfl (Nat.le_refl _) 0 r.hi (by
  have := (hb r (List.mem_of_getElem? hr)).2.2.1
  simp [liesB, hr, this])
 have e : lvs l 0 l.length = leavesF 0 l := by unfold lvs; simp
 rw [e] at key
 exact InR.row (by rw [hnd]; exact key)
end Go.Proofs.YthpmncdfaggkiaaGreat
namespace Go.Proofs.YthpmncdfaggkiaaGreat
open Go.RowKit
attribute [local go_sem] more_drew more_drewN more_size more_cell more_frozen more_setCell drew_more drewN_more lt_add_r lt_add_r2 lt_add_r3 lt_add_r4 lt_add_r5 lt_add_r6 lt_add_r7 lt_add_r8 lt_add_r9 lt_add_r10 lt_self_r lt_self_r2
def endsB (way path : List Int) : Bool := decide (path.length ≤ way.length) && decide (way.drop (way.length - path.length) = path)
set_option maxRecDepth 100000 in
set_option maxHeartbeats 1000000 in
theorem ends_any (A B : Option Addr) (way path : List Int) (c d : Nat) (w : World) (hx : Ints w A way) (hy : Ints w B path) (bx : way.length ≤ c) (bc : c ≤ 9223372036854775807) (by_ : path.length ≤ 9223372036854775807) :
 Calls Tryz.prog 71 #[.slice A way.length c, .slice B path.length d] w fun e w' => e = .returned (.bool (endsB way path)) ∧ Ext w w' := by
 by_cases hl : path.length ≤ way.length
 ·have hE : endsB way path = decide (way.drop (way.length - path.length) = path) := by
   unfold endsB
   rw [decide_eq_true hl, Bool.true_and]
  have HE := zh hE
  have hd := hx.drop (way.length - path.length) c bx
  have eq := fun w1 h1 h2 => equalInts (if c = way.length - path.length then A else A.map (·.add (way.length - path.length))) B (way.drop (way.length - path.length)) path (c - (way.length - path.length)) d w1 h1 h2 (by rw [List.length_drop]; omega) by_
  rw [List.length_drop] at eq
  obtain ⟨A', hif⟩ : ∃ A', (if c = way.length - path.length then A else A.map (·.add (way.length - path.length))) = A' := ⟨_, rfl⟩
  rw [hif] at eq hd
  have EQ := zh eq
  have HD := zh hd
  have HX := zh hx
  have HY := zh hy
  clear hE eq hd hx hy
  have hn : way.length - path.length ≤ way.length := by omega
  have e1 : IntKind.i64.wrap ((way.length : Int) - (path.length : Int)) = ((way.length - path.length : Nat) : Int) := by rw [IntWalk.i64_in _ (by omega)]; omega
  go_enter Tryz.func71, Tryz.ntmps71
  go_wp2_with fail
  refine (EQ.out _ HD.out HY.out).mono ?_
  rintro e w1 ⟨rfl, os1, k1, rfl⟩
  go_wp2
  go_ret
  exact ⟨ret_bool HE.out.symm, (by repeat first | exact xr _ | refine xa ?_ _ | refine xm ?_ _ _ | refine xd ?_ | refine xn ?_ _ | refine xs ?_ (by simp <;> omega) _)⟩
 ·have hl2 : ¬ ((path.length : Int) ≤ (way.length : Int)) := by omega
  have hE : endsB way path = false := by
   unfold endsB
   rw [decide_eq_false hl, Bool.false_and]
  have HE := zh hE
  clear hE
  go_enter Tryz.func71, Tryz.ntmps71
  go_wp2
  go_ret
  exact ⟨ret_bool HE.out.symm, (by repeat first | exact xr _ | refine xa ?_ _ | refine xm ?_ _ _ | refine xd ?_ | refine xn ?_ _ | refine xs ?_ (by simp <;> omega) _)⟩
structure Sty where
 kind : Int
 pA : Option Addr
 pc : Nat
 path : List Int
 st : Int
 prio : Int
def styOk (w : World) (s : Sty) : Prop := Ints w s.pA s.path ∧ s.path.length ≤ 9223372036854775807
set_option maxRecDepth 100000 in
set_option maxHeartbeats 1000000 in
theorem matches_any (s : Sty) (kind : Int) (A : Option Addr) (way : List Int) (c : Nat) (w : World) (hs : styOk w s) (hx : Ints w A way) (bx : way.length ≤ c) (bc : c ≤ 9223372036854775807) :
 Calls Tryz.prog 27 #[.agg #[.int .i64 s.kind, .slice s.pA s.path.length s.pc, .int .i64 s.st, .int .i64 s.prio], .int .i64 kind, .slice A way.length c] w
  fun e w' => e = .returned (.bool (decide (s.kind = kind) && endsB way s.path)) ∧ Ext w w' := by
 obtain ⟨h1, h2⟩ := hs
 have EN := zh (fun w1 g1 g2 => ends_any A s.pA way s.path c s.pc w1 g1 g2 bx bc h2)
 have H1 := zh h1
 have HX := zh hx
 clear h1 hx
 by_cases hk : s.kind = kind
 ·have hk1 : (s.kind == kind) = true := by simp [hk]
  have hk2 : decide (s.kind = kind) = true := by simp [hk]
  have HK := zh hk
  clear hk
  go_enter Tryz.func27, Tryz.ntmps27
  go_wp2_with (first | (go_at_call 71; refine (EN.out _ (HX.out.ext ((by repeat first | exact xr _ | refine xa ?_ _ | refine xm ?_ _ _ | refine xd ?_ | refine xn ?_ _ | refine xs ?_ (by simp <;> omega) _))) (H1.out.ext ((by repeat first | exact xr _ | refine xa ?_ _ | refine xm ?_ _ _ | refine xd ?_ | refine xn ?_ _ | refine xs ?_ (by simp <;> omega) _)))).mono ?_; rintro e w1 ⟨rfl, os1, k1, rfl⟩))
  go_ret
  exact ⟨ret_bool (by simp [HK.out]), (by repeat first | exact xr _ | refine xa ?_ _ | refine xm ?_ _ _ | refine xd ?_ | refine xn ?_ _ | refine xs ?_ (by simp <;> omega) _)⟩
 ·have hk1 : (s.kind == kind) = false := by simp [hk]
  have hk2 : decide (s.kind = kind) = false := by simp [hk]
  have HK := zh hk
  clear hk
  go_enter Tryz.func27, Tryz.ntmps27
  go_wp2_with fail
  go_ret
  exact ⟨ret_bool (by simp [HK.out]), (by repeat first | exact xr _ | refine xa ?_ _ | refine xm ?_ _ _ | refine xd ?_ | refine xn ?_ _ | refine xs ?_ (by simp <;> omega) _)⟩
def Styles (w : World) (A : Option Addr) (ss : List Sty) : Prop :=
 0 < ss.length → ∃ b off, A = some ⟨b, off, none⟩ ∧ b < w.heap.size ∧ ∀ k s, ss[k]? = some s →
  w.cell? ⟨b, off + k * 4, none⟩ = some (.int .i64 s.kind) ∧ w.cell? ⟨b, off + k * 4 + 1, none⟩ = some (.slice s.pA s.path.length s.pc) ∧
  w.cell? ⟨b, off + k * 4 + 2, none⟩ = some (.int .i64 s.st) ∧ w.cell? ⟨b, off + k * 4 + 3, none⟩ = some (.int .i64 s.prio)
def StylesOk (w : World) (ss : List Sty) : Prop := ∀ s ∈ ss, styOk w s
theorem Styles.ext {w w' : World} {A : Option Addr} {ss : List Sty} (h : Styles w A ss) (e : Ext w w') : Styles w' A ss := fun h0 => by
 obtain ⟨b, off, hA, hb, hc⟩ := h h0
 obtain ⟨os, k, rfl⟩ := e
 refine ⟨b, off, hA, by rw [more_size]; omega, fun j s hj => ?_⟩
 rw [more_cell _ _ _ _ _ hb, more_cell _ _ _ _ _ hb, more_cell _ _ _ _ _ hb, more_cell _ _ _ _ _ hb]
 exact hc j s hj
theorem StylesOk.ext {w w' : World} {ss : List Sty} (h : StylesOk w ss) (e : Ext w w') : StylesOk w' ss := fun s hs => ⟨(h s hs).1.ext e, (h s hs).2⟩
def matchB (s : Sty) (kind : Int) (way : List Int) : Bool := decide (s.kind = kind) && endsB way s.path
set_option maxRecDepth 100000 in
set_option maxHeartbeats 1000000 in
theorem better_none (p : Option Addr) (g : Nat) (w : World) (hg : w.cell? ⟨g, 0, none⟩ = some (.pointer none)) :
 Calls Tryz.prog 70 #[.pointer p, .pointer (some ⟨g, 0, none⟩)] w fun e w' => e = .returned (.bool true) ∧ Ext w w' := by
 go_enter Tryz.func70, Tryz.ntmps70
 go_wp2_with fail
 go_quiet (fail)
 go_wp2
 go_ret
 exact ⟨rfl, (by repeat first | exact xr _ | refine xa ?_ _ | refine xm ?_ _ _ | refine xd ?_ | refine xn ?_ _ | refine xs ?_ (by simp <;> omega) _)⟩
set_option maxRecDepth 100000 in
set_option maxHeartbeats 1000000 in
theorem better_some (b off b' off' g : Nat) (x y : Int) (w : World) (hg : w.cell? ⟨g, 0, none⟩ = some (.pointer (some ⟨b', off', none⟩)))
 (hx : w.cell? ⟨b, off + 3, none⟩ = some (.int .i64 x)) (hy : w.cell? ⟨b', off' + 3, none⟩ = some (.int .i64 y)) :
 Calls Tryz.prog 70 #[.pointer (some ⟨b, off, none⟩), .pointer (some ⟨g, 0, none⟩)] w fun e w' => e = .returned (.bool (decide (y < x))) ∧ Ext w w' := by
 go_enter Tryz.func70, Tryz.ntmps70
 go_wp2_with fail
 go_quiet (fail)
 go_wp2
 go_ret
 exact ⟨rfl, (by repeat first | exact xr _ | refine xa ?_ _ | refine xm ?_ _ _ | refine xd ?_ | refine xn ?_ _ | refine xs ?_ (by simp <;> omega) _)⟩
def prioAt (ss : List Sty) (j : Nat) : Int := (ss[j]?.map (·.prio)).getD 0
def stAt (ss : List Sty) (j : Nat) : Int := (ss[j]?.map (·.st)).getD 0
def betterB (ss : List Sty) (s : Sty) : Option Nat → Bool
 | none => true
 | some j => decide (prioAt ss j < s.prio)
def stOf (ss : List Sty) : Option Nat → Int
 | none => 0
 | some j => stAt ss j
def bestIx (ss : List Sty) (kind : Int) (way : List Int) : Nat → Option Nat
 | 0 => none
 | k + 1 => match ss[k]? with
  | some s => if matchB s kind way && betterB ss s (bestIx ss kind way k) then some k else bestIx ss kind way k
  | none => bestIx ss kind way k
theorem bestIx_lt (ss : List Sty) (kind : Int) (way : List Int) : ∀ k j, bestIx ss kind way k = some j → j < k ∧ j < ss.length
 | 0, j, h => by simp [bestIx] at h
 | k + 1, j, h => by
  rw [bestIx] at h
  cases hs : ss[k]? with
  | none =>
   rw [hs] at h
   have := bestIx_lt ss kind way k j h
   omega
  | some s =>
   rw [hs] at h
   have hl : k < ss.length := (List.getElem?_eq_some_iff.1 hs).1
   have ih := bestIx_lt ss kind way k
   generalize bestIx ss kind way k = o at h ih
   by_cases hc : (matchB s kind way && betterB ss s o) = true
   ·simp only [hc, if_true, Option.some.injEq] at h
    omega
   ·simp only [hc, Bool.false_eq_true, if_false] at h
    have := ih j h
    omega
def styleF (ss : List Sty) (kind : Int) (way : List Int) : Int := stOf ss (bestIx ss kind way ss.length)
def bestPtr (b off : Nat) : Option Nat → Value
 | none => .pointer none
 | some j => .pointer (some ⟨b, off + j * 4, none⟩)
set_option maxRecDepth 100000 in
set_option maxHeartbeats 1000000 in
theorem style_any (B : Option Addr) (ss : List Sty) (c : Nat) (kind : Int) (A : Option Addr) (way : List Int) (d : Nat) (w : World) (hS : Styles w B ss) (hO : StylesOk w ss) (bs : ss.length ≤ 9223372036854775807)
 (hx : Ints w A way) (bx : way.length ≤ d) (bd : d ≤ 9223372036854775807) :
 Calls Tryz.prog 26 #[.slice B ss.length c, .int .i64 kind, .slice A way.length d] w fun e w' => e = .returned (.int .i64 (styleF ss kind way)) ∧ Ext w w' := by
 rcases (show ss.length = 0 ∨ 0 < ss.length by omega) with h0 | h0
 ·obtain rfl := List.eq_nil_of_length_eq_zero h0
  go_enter Tryz.func26, Tryz.ntmps26
  go_wp2
  refine wp_loop_rounds 1 ?_
  rw [rounds_succ]
  go_wp2
  go_ret
  exact ⟨ret_int (by simp [styleF, bestIx, stOf]), (by repeat first | exact xr _ | refine xa ?_ _ | refine xm ?_ _ _ | refine xd ?_ | refine xn ?_ _ | refine xs ?_ (by simp <;> omega) _)⟩
 ·obtain ⟨b, off, rfl, hb, hc⟩ := hS h0
  have MA := zh (fun (s : Sty) (w1 : World) g1 g2 => matches_any s kind A way d w1 g1 g2 bx bd)
  have HC := zh hc
  have HO := zh hO
  have HX := zh hx
  have HL := zh (bestIx_lt ss kind way)
  clear hS hc hO hx
  go_enter Tryz.func26, Tryz.ntmps26
  go_wp2
  go_loopw [14] (fun i wr => ∃ k : Nat, k ≤ ss.length ∧ i = .int .i64 k ∧ Ext (w.alloc (.cells #[bestPtr b off (bestIx ss kind way k)] 121)) wr) (fun i _ => ss.length - (intOf i).toNat)
  case atStart => exact ⟨0, by omega, rfl, by unfold bestIx bestPtr; exact (by repeat first | exact xr _ | refine xa ?_ _ | refine xm ?_ _ _ | refine xd ?_ | refine xn ?_ _ | refine xs ?_ (by simp <;> omega) _)⟩
  case round =>
   obtain ⟨k, hk, rfl, hE⟩ := hrel
   by_cases hlt : k < ss.length
   ·obtain ⟨s, hs⟩ : ∃ s, ss[k]? = some s := ⟨_, List.getElem?_eq_getElem hlt⟩
    obtain ⟨c1, c2, c3, c4⟩ := HC.out k s hs
    have HOK := zh (HO.out s (List.mem_of_getElem? hs))
    have E0 : Hid (bestIx ss kind way (k + 1) = if matchB s kind way && betterB ss s (bestIx ss kind way k) then some k else bestIx ss kind way k) := by
     show _ = _
     rw [bestIx, hs]
    clear hs
    have LK := zh (HL.out k)
    generalize bestIx ss kind way k = o at *
    cases hm : matchB s kind way
    ·have hm' : (decide (s.kind = kind) && endsB way s.path) = false := hm
     have EN : Hid (bestIx ss kind way (k + 1) = o) := by
      have := E0.out
      rw [hm] at this
      exact this
     clear hm E0 LK
     obtain ⟨os, kk, rfl⟩ := hE
     go_wp2_with (first | (go_at_call 27; refine (MA.out s _ (by exact ⟨HOK.out.1.ext ((by repeat first | exact xr _ | refine xa ?_ _ | refine xm ?_ _ _ | refine xd ?_ | refine xn ?_ _ | refine xs ?_ (by simp <;> omega) _)), HOK.out.2⟩) (HX.out.ext ((by repeat first | exact xr _ | refine xa ?_ _ | refine xm ?_ _ _ | refine xd ?_ | refine xn ?_ _ | refine xs ?_ (by simp <;> omega) _)))).mono ?_; rintro e w1 ⟨rfl, os1, k1, rfl⟩))
     go_roundw
     case rel => exact ⟨k + 1, by omega, by go_num, by rw [EN.out]; exact (by repeat first | exact xr _ | refine xa ?_ _ | refine xm ?_ _ _ | refine xd ?_ | refine xn ?_ _ | refine xs ?_ (by simp <;> omega) _)⟩
     case measure => simp [intOf]; omega
    ·have hm' : (decide (s.kind = kind) && endsB way s.path) = true := hm
     cases o with
     | none =>
      have EN : Hid (bestIx ss kind way (k + 1) = some k) := by
       have := E0.out
       rw [hm] at this
       exact this
      clear hm E0 LK
      simp only [bestPtr] at hE
      obtain ⟨os, kk, rfl⟩ := hE
      go_wp2_with (first | (go_at_call 27; refine (MA.out s _ (by exact ⟨HOK.out.1.ext ((by repeat first | exact xr _ | refine xa ?_ _ | refine xm ?_ _ _ | refine xd ?_ | refine xn ?_ _ | refine xs ?_ (by simp <;> omega) _)), HOK.out.2⟩) (HX.out.ext ((by repeat first | exact xr _ | refine xa ?_ _ | refine xm ?_ _ _ | refine xd ?_ | refine xn ?_ _ | refine xs ?_ (by simp <;> omega) _)))).mono ?_; rintro e w1 ⟨rfl, os1, k1, rfl⟩) | (go_at_call 70; refine (better_none _ _ _ (by simp [go_sem])).mono ?_; rintro e w1 ⟨rfl, os2, k2, rfl⟩))
      go_roundw
      case rel => exact ⟨k + 1, by omega, by go_num, by rw [EN.out]; simp only [bestPtr]; exact (by repeat first | exact xr _ | refine xa ?_ _ | refine xm ?_ _ _ | refine xd ?_ | refine xn ?_ _ | refine xs ?_ (by simp <;> omega) _)⟩
      case measure => simp [intOf]; omega
     | some j =>
      obtain ⟨lj, lj2⟩ := LK.out j rfl
      obtain ⟨t, ht⟩ : ∃ t, ss[j]? = some t := ⟨_, List.getElem?_eq_getElem lj2⟩
      obtain ⟨d1, d2, d3, d4⟩ := HC.out j t ht
      have hp : prioAt ss j = t.prio := by simp [prioAt, ht]
      clear d1 d2 d3 ht LK
      by_cases hq : t.prio < s.prio
      ·have hq' : decide (t.prio < s.prio) = true := decide_eq_true hq
       have EN : Hid (bestIx ss kind way (k + 1) = some k) := by
        have := E0.out
        rw [hm] at this
        simp only [betterB, hp, hq', Bool.and_self, if_true] at this
        exact this
       clear hm E0 hp
       simp only [bestPtr] at hE
       obtain ⟨os, kk, rfl⟩ := hE
       go_wp2_with (first | (go_at_call 27; refine (MA.out s _ (by exact ⟨HOK.out.1.ext ((by repeat first | exact xr _ | refine xa ?_ _ | refine xm ?_ _ _ | refine xd ?_ | refine xn ?_ _ | refine xs ?_ (by simp <;> omega) _)), HOK.out.2⟩) (HX.out.ext ((by repeat first | exact xr _ | refine xa ?_ _ | refine xm ?_ _ _ | refine xd ?_ | refine xn ?_ _ | refine xs ?_ (by simp <;> omega) _)))).mono ?_; rintro e w1 ⟨rfl, os1, k1, rfl⟩) | (go_at_call 70; go_must (refine (better_some b (off + k * 4) b (off + j * 4) w.heap.size s.prio t.prio _ (by simp [go_sem]) (by simp [go_sem, hb, c4]) (by simp [go_sem, hb, d4])).mono ?_); rintro e w1 ⟨rfl, os2, k2, rfl⟩))
       go_roundw
       case rel => exact ⟨k + 1, by omega, by go_num, by rw [EN.out]; simp only [bestPtr]; exact (by repeat first | exact xr _ | refine xa ?_ _ | refine xm ?_ _ _ | refine xd ?_ | refine xn ?_ _ | refine xs ?_ (by simp <;> omega) _)⟩
       case measure => simp [intOf]; omega
      ·have hq' : decide (t.prio < s.prio) = false := decide_eq_false hq
       have EN : Hid (bestIx ss kind way (k + 1) = some j) := by
        have := E0.out
        rw [hm] at this
        simp only [betterB, hp, hq', Bool.and_false, Bool.false_eq_true, if_false] at this
        exact this
       clear hm E0 hp
       simp only [bestPtr] at hE
       obtain ⟨os, kk, rfl⟩ := hE
       go_wp2_with (first | (go_at_call 27; refine (MA.out s _ (by exact ⟨HOK.out.1.ext ((by repeat first | exact xr _ | refine xa ?_ _ | refine xm ?_ _ _ | refine xd ?_ | refine xn ?_ _ | refine xs ?_ (by simp <;> omega) _)), HOK.out.2⟩) (HX.out.ext ((by repeat first | exact xr _ | refine xa ?_ _ | refine xm ?_ _ _ | refine xd ?_ | refine xn ?_ _ | refine xs ?_ (by simp <;> omega) _)))).mono ?_; rintro e w1 ⟨rfl, os1, k1, rfl⟩) | (go_at_call 70; go_must (refine (better_some b (off + k * 4) b (off + j * 4) w.heap.size s.prio t.prio _ (by simp [go_sem]) (by simp [go_sem, hb, c4]) (by simp [go_sem, hb, d4])).mono ?_); rintro e w1 ⟨rfl, os2, k2, rfl⟩))
       go_roundw
       case rel => exact ⟨k + 1, by omega, by go_num, by rw [EN.out]; simp only [bestPtr]; exact (by repeat first | exact xr _ | refine xa ?_ _ | refine xm ?_ _ _ | refine xd ?_ | refine xn ?_ _ | refine xs ?_ (by simp <;> omega) _)⟩
       case measure => simp [intOf]; omega
   ·obtain rfl : k = ss.length := by omega
    obtain ⟨o, ho⟩ : ∃ o, bestIx ss kind way ss.length = o := ⟨_, rfl⟩
    have LK := zh (HL.out ss.length)
    have EN : Hid (styleF ss kind way = stOf ss o) := by
     show _ = _
     rw [styleF, ho]
    rw [ho] at hE LK
    clear ho
    cases o with
    | none =>
     simp only [bestPtr] at hE
     obtain ⟨os, kk, rfl⟩ := hE
     go_wp2
     go_ret
     exact ⟨ret_int EN.out.symm, (by repeat first | exact xr _ | refine xa ?_ _ | refine xm ?_ _ _ | refine xd ?_ | refine xn ?_ _ | refine xs ?_ (by simp <;> omega) _)⟩
    | some j =>
     obtain ⟨lj, lj2⟩ := LK.out j rfl
     obtain ⟨t, ht⟩ : ∃ t, ss[j]? = some t := ⟨_, List.getElem?_eq_getElem lj2⟩
     obtain ⟨d1, d2, d3, d4⟩ := HC.out j t ht
     have hp : stAt ss j = t.st := by simp [stAt, ht]
     have EN' : Hid (styleF ss kind way = t.st) := EN.out.trans hp
     clear d1 d2 d4 ht LK hp EN
     simp only [bestPtr] at hE
     obtain ⟨os, kk, rfl⟩ := hE
     go_wp2
     go_ret
     exact ⟨ret_int EN'.out.symm, (by repeat first | exact xr _ | refine xa ?_ _ | refine xm ?_ _ _ | refine xd ?_ | refine xn ?_ _ | refine xs ?_ (by simp <;> omega) _)⟩
def shortB (ss : List Sty) : Bool := ss.all (fun s => decide (s.path.length ≤ 20))
set_option maxRecDepth 100000 in
set_option maxHeartbeats 1000000 in
theorem lightStyles_any (B : Option Addr) (ss : List Sty) (c : Nat) (w : World) (hS : Styles w B ss) (hO : StylesOk w ss) (bs : ss.length ≤ 9223372036854775807) :
 Calls Tryz.prog 82 #[.slice B ss.length c] w fun e w' => e = .returned (.bool (shortB ss && decide (ss.length ≤ 70))) ∧ Ext w w' := by
 rcases (show ss.length = 0 ∨ 0 < ss.length by omega) with h0 | h0
 ·obtain rfl := List.eq_nil_of_length_eq_zero h0
  go_enter Tryz.func82, Tryz.ntmps82
  go_wp2
  refine wp_loop_rounds 1 ?_
  rw [rounds_succ]
  go_wp2
  go_ret
  exact ⟨rfl, (by repeat first | exact xr _ | refine xa ?_ _ | refine xm ?_ _ _ | refine xd ?_ | refine xn ?_ _ | refine xs ?_ (by simp <;> omega) _)⟩
 ·obtain ⟨b, off, rfl, hb, hc⟩ := hS h0
  have HC := zh hc
  have HO := zh hO
  clear hS hc hO
  go_enter Tryz.func82, Tryz.ntmps82
  go_wp2
  go_loopw [3] (fun i wr => ∃ k : Nat, k ≤ ss.length ∧ i = .int .i64 k ∧ shortB (ss.take k) = true ∧ Ext w wr) (fun i _ => ss.length - (intOf i).toNat)
  case atStart => exact ⟨0, by omega, rfl, by simp [shortB], (by repeat first | exact xr _ | refine xa ?_ _ | refine xm ?_ _ _ | refine xd ?_ | refine xn ?_ _ | refine xs ?_ (by simp <;> omega) _)⟩
  case round =>
   obtain ⟨k, hk, rfl, ht, os, kk, rfl⟩ := hrel
   have HT := zh ht
   clear ht
   by_cases hlt : k < ss.length
   ·obtain ⟨s, hs⟩ : ∃ s, ss[k]? = some s := ⟨_, List.getElem?_eq_getElem hlt⟩
    obtain ⟨c1, c2, c3, c4⟩ := HC.out k s hs
    have hp := (HO.out s (List.mem_of_getElem? hs)).2
    have HS := zh hs
    clear hs
    by_cases hl : s.path.length ≤ 20
    ·go_wp2
     go_roundw
     case rel => exact ⟨k + 1, by omega, by go_num, by rw [List.take_add_one, HS.out]; have := HT.out; simp only [shortB, List.all_append] at *; simp [this, hl], (by repeat first | exact xr _ | refine xa ?_ _ | refine xm ?_ _ _ | refine xd ?_ | refine xn ?_ _ | refine xs ?_ (by simp <;> omega) _)⟩
     case measure => simp [intOf]; omega
    ·go_wp2
     go_ret
     refine ⟨ret_bool ?_, (by repeat first | exact xr _ | refine xa ?_ _ | refine xm ?_ _ _ | refine xd ?_ | refine xn ?_ _ | refine xs ?_ (by simp <;> omega) _)⟩
     symm
     have hm := List.mem_of_getElem? HS.out
     rw [Bool.and_eq_false_iff]
     left
     rw [shortB, List.all_eq_false]
     exact ⟨s, hm, by simpa using hl⟩
   ·obtain rfl : k = ss.length := by omega
    have h1 := HT.out
    rw [List.take_length] at h1
    go_wp2
    go_ret
    exact ⟨ret_bool (by simp [h1]; omega), (by repeat first | exact xr _ | refine xa ?_ _ | refine xm ?_ _ _ | refine xd ?_ | refine xn ?_ _ | refine xs ?_ (by simp <;> omega) _)⟩
theorem Ints.left {w : World} {A : Option Addr} {us vs : List Int} (h : Ints w A (us ++ vs)) : Ints w A us := fun h0 => by
 obtain ⟨b, off, hA, hb, hc⟩ := h (by rw [List.length_append]; omega)
 refine ⟨b, off, hA, hb, fun k hk => ?_⟩
 rw [hc k (by rw [List.length_append]; omega), List.getD_eq_getElem?_getD, List.getD_eq_getElem?_getD, List.getElem?_append_left hk]
section
variable {B : Option Addr} {ss : List Sty} {cs : Nat} {A : Option Addr} {c : Nat} {ts : List Prt} {w : World}
set_option maxRecDepth 100000 in
set_option maxHeartbeats 2000000 in
theorem leaf26_yes {j : Nat} {p : Prt} {us : List Int} (hS : Styles w B ss) (hO : StylesOk w ss) (bs : ss.length ≤ 9223372036854775807) (h : PS w A c ts) (T : Tree (nds ts)) (hp : ts[j]? = some p) (hk : p.nd.kind = 3 ∨ p.nd.kind = 5) (hw : Way (nds ts) j (us ++ [p.nd.sym])) :
 Calls Tryz.prog 28 #[.slice B ss.length cs, .slice A ts.length c, .int .i64 j] w fun e w' => e = .returned (.int .i64 (styleF ss p.nd.sym us)) ∧ Ext w w' := by
 have HS := zh hS
 have HO := zh hO
 have S := zh h
 have HT := zh T
 have HW := zh hw
 have hl := h.few.len
 have hjl := (List.getElem?_eq_some_iff.1 hp).1
 have HPP := zh hp
 have HK := zh hk
 have CK := zh (check_ok h T)
 have hwl : us.length + 1 ≤ 1001 := by have := hw.length T; rw [List.length_append] at this; simp at this; omega
 have k3 : p.nd.kind = 3 ∨ (p.nd.kind ≠ 3 ∧ p.nd.kind = 5) := by omega
 clear hS hO h T hw hp hk
 go_enter Tryz.func28, Tryz.ntmps28
 go_upto_region 1 with fail
 go_cut [36] (fun t wx => t = .bool false ∧ Hid (Ext w wx))
 case first =>
  go_wp2_with fail
  refine CK.out.mono ?_
  rintro e w1 ⟨rfl, hx1⟩
  have HX1 := zh hx1
  obtain ⟨b, off, rfl, hb, hcell⟩ := (S.out.ext hx1).parts (by omega)
  have d1 := (hcell j p HPP.out).2.1
  clear hx1 hcell
  rcases k3 with k | ⟨k, k'⟩
  ·have k1 : (p.nd.kind != 3) = false := by simp [k]
   go_wp2_with fail
   go_meet
   exact ⟨by congr 1; simp; omega, HX1⟩
  ·have k1 : (p.nd.kind != 3) = true := by simp [k]
   have k2 : (p.nd.kind != 5) = false := by simp [k']
   go_wp2_with fail
   go_meet
   exact ⟨by congr 1; simp; omega, HX1⟩
 case rest =>
  obtain ⟨rfl, HX1⟩ := hcut
  have CP := zh (Path_yes j _ (S.out.ext HX1.out) HT.out HW.out hjl)
  clear k3
  go_wp2_with fail
  refine CP.out.mono ?_
  rintro e w2 ⟨A2, c2, rfl, ho, hx2⟩
  have HX2 := zh (HX1.out.trans hx2)
  have O2 := zh ho
  have hlw : (us ++ [p.nd.sym]).length = us.length + 1 := by simp
  obtain ⟨b, off, rfl, hb, hcell⟩ := (S.out.ext HX2.out).parts (by omega)
  have d0 := (hcell j p HPP.out).1
  rw [hlw]
  clear hx2 ho hcell hlw
  go_upto_region 4 with fail
  have ST := zh (fun (V : World) (x : Ext w2 V) => style_any B ss cs p.nd.sym A2 us c2 V (HS.out.ext (HX2.out.trans x)) (HO.out.ext (HX2.out.trans x)) bs (O2.out.ints.1.left.ext x) (by have := O2.out.ints.2.1; simp at this; omega) (by have := O2.out.ints.2.2.1; unfold maxLen at this; omega))
  have ol1 : us.length + 1 ≤ c2 := by have := O2.out.ints.2.1; simpa using this
  have ol2 : c2 ≤ 9223372036854775807 := by have := O2.out.ints.2.2.1; unfold maxLen at this; omega
  refine wp_region_ext (by kernel_rfl) (by kernel_rfl) ?_
  repeat (go_big_quiet_step ((go_at_call 26; exact calls_ext (ST.out _ (by repeat first | exact xr _ | refine xa ?_ _ | refine xm ?_ _ _ | refine xd ?_ | refine xn ?_ _ | refine xs ?_ (by simp <;> omega) _)))))
  refine wpQuiet_nil ?_
  intro _ hw'
  obtain ⟨x9, rfl⟩ := hw'
  go_wp2_with fail
  go_ret
  exact ⟨rfl, HX2.out.trans (by repeat first | exact xr _ | refine xa ?_ _ | refine xm ?_ _ _ | refine xd ?_ | refine xn ?_ _ | refine xs ?_ (by simp <;> omega) _)⟩
end
def Light28 (ps : List Prt) (ss : List Sty) : Prop := LightP 100 ps ∧ shortB ss = true ∧ ss.length ≤ 70
def Light28Ret (ps : List Prt) (ss : List Sty) (w : World) (e : Ending) (w' : World) : Prop := ∃ b, e = .returned (.bool b) ∧ (b = true → Light28 ps ss) ∧ Ext w w'
set_option maxRecDepth 100000 in
set_option maxHeartbeats 1000000 in
theorem light28_any (A : Option Addr) (c : Nat) (ps : List Prt) (B : Option Addr) (ss : List Sty) (cs : Nat) (w : World) (hS : Styles w B ss) (hO : StylesOk w ss) (bs : ss.length ≤ 9223372036854775807)
 (hP : Prts w A ps) (hl : ps.length ≤ 9223372036854775807) (hk : KidsLt ps) :
 Calls Tryz.prog 39 #[.slice A ps.length c, .slice none 0 0, .slice B ss.length cs] w (Light28Ret ps ss w) := by
 have HC := zh (lightParts_any 100 A c ps w (by omega) hP hl hk)
 have LS := zh (fun (V : World) (x : Ext w V) => lightStyles_any B ss cs V (hS.ext x) (hO.ext x) bs)
 clear hS hO hP hk
 go_enter Tryz.func39, Tryz.ntmps39
 go_wp2_with fail
 refine HC.out.mono ?_
 rintro e w1 ⟨b, rfl, hb, hx1⟩
 have HX1 := zh hx1
 have HB := zh hb
 clear hx1 hb
 cases b with
 | false =>
  go_wp2_with fail
  go_ret
  exact ⟨false, rfl, nofun, HX1.out⟩
 | true =>
  go_wp2_with fail
  refine (LS.out w1 HX1.out).mono ?_
  rintro e w2 ⟨rfl, hx2⟩
  have HX2 := zh (HX1.out.trans hx2)
  obtain ⟨v, hv⟩ : ∃ v, (shortB ss && decide (ss.length ≤ 70)) = v := ⟨_, rfl⟩
  have HV := zh hv
  rw [hv]
  clear hx2 hv
  go_wp2_with fail
  go_ret
  refine ⟨v, rfl, fun h => ?_, HX2.out⟩
  have h2 := HV.out.trans h
  rw [Bool.and_eq_true, decide_eq_true_iff] at h2
  exact ⟨HB.out trivial, h2.1, h2.2⟩
def LeafAt (l : List Nd) (i : Int) : Prop := Tree l ∧ ∃ (j : Nat) (p : Nd), i = (j : Int) ∧ l[j]? = some p ∧ (p.kind = 3 ∨ p.kind = 5)
section
variable {B : Option Addr} {ss : List Sty} {cs : Nat} {A : Option Addr} {c : Nat} {ts : List Prt} {w : World}
set_option maxRecDepth 100000 in
set_option maxHeartbeats 2000000 in
theorem leaf26_no (i : Int) (v : Value) (h : PS w A c ts) (hn : ¬ LeafAt (nds ts) i) :
 Calls Tryz.prog 28 #[v, .slice A ts.length c, .int .i64 i] w fun e w' => e = .returned (.int .i64 0) ∧ Ext w w' := by
 have hl := h.few.len
 have S := zh h
 by_cases T : Tree (nds ts)
 ·have CK := zh (check_ok h T)
  clear h
  by_cases h0 : i < 0
  ·clear hn T
   go_enter Tryz.func28, Tryz.ntmps28
   go_wp2_with fail
   refine CK.out.mono ?_
   rintro e w1 ⟨rfl, hx1⟩
   have HX1 := zh hx1
   clear hx1
   go_wp2_with fail
   go_ret
   exact ⟨rfl, HX1.out⟩
  ·by_cases h1 : i < (ts.length : Int)
   ·obtain ⟨j, rfl⟩ : ∃ j : Nat, i = (j : Int) := ⟨i.toNat, by omega⟩
    have hjl : j < ts.length := by omega
    obtain ⟨p, hp⟩ : ∃ p, ts[j]? = some p := ⟨_, List.getElem?_eq_getElem hjl⟩
    have hk : ¬ (p.nd.kind = 3 ∨ p.nd.kind = 5) := fun h => hn ⟨T, j, p.nd, rfl, nds_get hp, h⟩
    have k1 : (p.nd.kind != 3) = true := by simp; omega
    have k2 : (p.nd.kind != 5) = true := by simp; omega
    have HPP := zh hp
    clear hn T hp hk h0 h1
    go_enter Tryz.func28, Tryz.ntmps28
    go_wp2_with fail
    refine CK.out.mono ?_
    rintro e w1 ⟨rfl, hx1⟩
    have HX1 := zh hx1
    obtain ⟨b, off, rfl, hb, hcell⟩ := (S.out.ext hx1).parts (by omega)
    have d1 := (hcell j p HPP.out).2.1
    clear hx1 hcell
    go_wp2_with fail
    go_ret
    exact ⟨rfl, HX1.out⟩
   ·clear hn T
    go_enter Tryz.func28, Tryz.ntmps28
    go_wp2_with fail
    refine CK.out.mono ?_
    rintro e w1 ⟨rfl, hx1⟩
    have HX1 := zh hx1
    clear hx1
    go_wp2_with fail
    go_ret
    exact ⟨rfl, HX1.out⟩
 ·have CK := zh (check_no h T)
  clear h hn T
  go_enter Tryz.func28, Tryz.ntmps28
  go_wp2_with fail
  refine CK.out.mono ?_
  rintro e w1 ⟨rfl, hx1⟩
  have HX1 := zh hx1
  clear hx1
  go_wp2_with fail
  go_ret
  exact ⟨rfl, HX1.out⟩
end
end Go.Proofs.YthpmncdfaggkiaaGreat
namespace Go.Proofs.YthpmncdfaggkiaaGreat
open Go.RowKit
def LeafsAre (w : World) (SA : Option Addr) (sn cs : Nat) (A : Option Addr) (n c : Nat) (sv : Nat → Int) : Prop :=
 ∀ (i : Nat) (V : World), i < n → Below w.heap.size w V → Calls Tryz.prog 28 #[.slice SA sn cs, .slice A n c, .int .i64 i] V fun e w' => e = .returned (.int .i64 (sv i)) ∧ Ext V w'
theorem leafs_are {B : Option Addr} {ss : List Sty} {cs : Nat} {A : Option Addr} {c : Nat} {ps : List Prt} {w : World} (hS : Styles w B ss) (hO : StylesOk w ss) (bs : ss.length ≤ 9223372036854775807) (h : PS w A c ps) (T : Tree (nds ps)) :
 ∃ sv : Nat → Int, LeafsAre w B ss.length cs A ps.length c sv := by
 have key : ∀ i : Nat, ∃ s : Int, ∀ V : World, i < ps.length → Below w.heap.size w V → Calls Tryz.prog 28 #[.slice B ss.length cs, .slice A ps.length c, .int .i64 i] V fun e w' => e = .returned (.int .i64 s) ∧ Ext V w' := by
  intro i
  by_cases hl : LeafAt (nds ps) i
  ·obtain ⟨_, j, p, hj, hp, hk⟩ := hl
   obtain rfl : i = j := by omega
   obtain ⟨p', hpp, hpe⟩ := nds_get' hp
   subst hpe
   have hlt := (List.getElem?_eq_some_iff.1 hpp).1
   obtain ⟨ws, hw⟩ := Way.all T i i (Nat.le_refl _) (by rw [nds_length]; exact hlt)
   obtain ⟨q, us, hq, rfl⟩ := hw.ends
   rw [nds_get hpp] at hq
   injection hq with hq
   subst hq
   exact ⟨_, fun V _ hV => leaf26_yes (hS.ext (Ext.of_below hV)) (hO.ext (Ext.of_below hV)) bs (h.below hV) T hpp hk hw⟩
  ·exact ⟨0, fun V _ hV => leaf26_no i _ (h.below hV) hl⟩
 obtain ⟨sv, hsv⟩ := Classical.axiomOfChoice key
 exact ⟨sv, fun i V hi hV => hsv i V hi hV⟩
theorem paint_few (l : List Nd) (ms : List Int) (sv : Nat → Int) (f t x : Int) (is : List Int) : (meltF (strF l ms sv f t x is)).length ≤ 3 * is.length + 1 := by
 have h1 := strF_len l ms sv f t x is
 have h2 := meltF_len (strF l ms sv f t x is) (strF l ms sv f t x is).length
 rw [List.take_length] at h2
 omega
end Go.Proofs.YthpmncdfaggkiaaGreat
namespace Go.Proofs.YthpmncdfaggkiaaGreat
open Go.ChangeShapes Go.WideShapes Go.ChangeAt Go.RowKit
theorem laidOut : laidOutB Tryz.prog = true := by kernel_rfl
theorem trodAll_below {H : Type} {enc : TypeId × Value → H} {P : Program} (hl : laidOutB P = true) {W W' : World} (hb : Below W.heap.size W W') :
 ∀ {ts : List TypeId} {vs : List Value} {ds : List (DataW H)} {ps : List MemPlace}, (∀ t ∈ ts, P.readableRec t = true ∧ t < P.types.size) →
  DataW.TrodAll enc P W 0 (fun _ => true) true ts vs ds ps → (∀ x ∈ ps, x.block < W.heap.size) → DataW.TrodAll enc P W' 0 (fun b => decide (b < W.heap.size)) true ts vs ds ps
 | [], [], [], _, _, h, _ => h
 | t :: ts, v :: vs, d :: ds, ps, hr, h, hlt => by
  obtain ⟨p, q, h1, h2, rfl⟩ := h
  exact ⟨p, q, Below.trod hl (hr t (by simp)).1 (hr t (by simp)).2 h1 hb (fun x hx => hlt x (by simp [hx])),
   trodAll_below hl hb (fun u hu => hr u (by simp [hu])) h2 (fun x hx => hlt x (by simp [hx])), rfl⟩
 | [], [], _ :: _, _, _, h, _ => h.elim
 | [], _ :: _, [], _, _, h, _ => h.elim
 | [], _ :: _, _ :: _, _, _, h, _ => h.elim
 | _ :: _, [], [], _, _, h, _ => h.elim
 | _ :: _, [], _ :: _, _, _, h, _ => h.elim
 | _ :: _, _ :: _, [], _, _, h, _ => h.elim
theorem trodAll_length {H : Type} {enc : TypeId × Value → H} {P : Program} {W : World} {b : Nat} {sp : Nat → Bool} {hd : Bool} :
 ∀ {ts : List TypeId} {vs : List Value} {ds : List (DataW H)} {ps : List MemPlace}, DataW.TrodAll enc P W b sp hd ts vs ds ps → ds.length = ts.length ∧ vs.length = ts.length
 | [], [], [], _, _ => ⟨rfl, rfl⟩
 | t :: ts, v :: vs, d :: ds, ps, h => by
  obtain ⟨p, q, h1, h2, rfl⟩ := h
  have := trodAll_length h2
  simp [this.1, this.2]
 | [], [], _ :: _, _, h => h.elim
 | [], _ :: _, [], _, h => h.elim
 | [], _ :: _, _ :: _, _, h => h.elim
 | _ :: _, [], [], _, h => h.elim
 | _ :: _, [], _ :: _, _, h => h.elim
 | _ :: _, _ :: _, [], _, h => h.elim
set_option maxRecDepth 100000 in
theorem law_lifted {os : Os} (started : os.Started) {H : Type} {enc : TypeId × Value → H} {f : FuncId} {fn : Func} {s : ChangeSpec} {conds : List PathCond}
 (noInit : Tryz.checked.prog.inits.idxOf? f = none) (hfn : Tryz.checked.prog.funcs[f]? = some fn)
 (witness : ∃ (w : World) (tape : Tape) (i : Input), w.os = os ∧ (w.forCall tape i).Shaped Tryz.checked.prog ∧ i.vars = [] ∧ Input.okWide Tryz.checked.prog (w.forCall tape i) .any w.heap.size f i ∧
   s.pre6 enc Tryz.checked.prog fn conds false (w.forCall tape i).memory i.args ∧ Assume.holds {} Tryz.checked.prog (lone (Frame.enter Tryz.checked.prog f i.args .normal) [] (w.forCall tape i)))
 (hvars : s.vars = [])
 (hres : fn.resultTypes = #[4]) (hu : Tryz.prog.underlying 4 = some .bool)
 (hread : ∀ t ∈ fn.params.toList, Tryz.prog.readableRec t = true ∧ t < Tryz.prog.types.size)
 (hspec : ∀ ds : List (DataW H), ds.length = fn.params.toList.length → s.fn H ds = { results := [.lit (.bool true)], args := ds })
 (walk : ∀ (W : World) (base : Nat) (args : Array Value) (ds : List (DataW H)) (ps : List MemPlace),
   (∀ (j : Nat) t v, fn.params.toList[j]? = some t → args.toList[j]? = some v → Value.okWide Tryz.prog W .any base t v) →
   DataW.TrodAll enc Tryz.prog W 0 (fun _ => true) true fn.params.toList args.toList ds ps →
   (DataW.weightsEach Tryz.prog fn.params.toList ds).all (· ≤ reachBytes) = true →
   Calls Tryz.prog f args W fun e w' => e = .returned (.bool true) ∧ Below W.heap.size W w') :
 ReturnsInHanded {} Tryz.checked os f .any (s.pre6 enc Tryz.checked.prog fn conds false) (s.post enc Tryz.checked.prog fn false true false false) := by
 refine returnsInHanded_of_change_sized own started noInit hfn witness ?_
 intro W base args ds gs before hval hW _ hsz _
 have hW' := hW
 obtain ⟨p, q, hA, hV, hps, _, _⟩ := hW
 rw [hvars] at hV
 obtain ⟨rfl, rfl⟩ := trodVars_none hV
 rw [List.append_nil] at hps
 subst hps
 have hsz' : (DataW.weightsEach Tryz.prog fn.params.toList ds).all (· ≤ reachBytes) = true := by
  have hv : s.plain.varTypes Tryz.checked.prog = [] := by
   show (s.vars.filterMap _) = []
   rw [hvars]
   rfl
  rw [hv, List.append_nil, List.append_nil] at hsz
  exact hsz
 have hlen := trodAll_length hA
 refine (walk W base args ds before (fun j t v ht hv => hval j t v (by rw [← Array.getElem?_toList]; exact ht) (by rw [← Array.getElem?_toList]; exact hv)) hA hsz').mono fun e W' ⟨he, hb⟩ => ⟨_, he, ?_⟩
 have hsp := hspec ds hlen.1
 refine ⟨ds, [], before, [], before, [], hW', ?_, ?_, ?_, hb.frame _, fun h => by cases h⟩
 ·rw [List.append_nil, hsp, hres]
  exact trodAll_cons_mk (shut_bool hu _) trodAll_mk0
 ·rw [List.append_nil, hsp]
  exact trodAll_below laidOut hb hread hA (fun x hx => by simpa using hW'.lt x hx)
 ·rw [List.append_nil, hsp, hvars]
  rfl
end Go.Proofs.YthpmncdfaggkiaaGreat
namespace Go.Proofs.YthpmncdfaggkiaaGreat
open Go.ChangeShapes Go.WideShapes Go.ChangeAt Go.RowKit Go.Joins Go.Deep
section
variable {H : Type} {enc : TypeId × Value → H} {P : Program} {w : World} {base : Nat} {spare : Nat → Bool} {held : Bool}
theorem struct_cells {e : TypeId} {fs : Array Field} {n : Nat} {a : Addr} {cs : List Value} {x : DataW H × List MemPlace} (he : P.underlying e = some (.struct fs)) (hone : oneCellFields P fs = true)
 (hsz : P.cellsOf e = fs.size) (hc : w.cells? base a (P.cellsOf e) = some cs) (ht : DataW.trod enc P w base spare held n e cs = some x) (j : Nat) (f : Field) (hj : fs[j]? = some f) :
 ∃ (m : Nat) (v : Value) (y : DataW H × List MemPlace), w.cell? (a.add j) = some v ∧ DataW.trod enc P w base spare held m f.type [v] = some y := by
 obtain ⟨ys, m, _, _, _, hyl, hf⟩ := DataW.trod_struct he ht
 obtain ⟨_, hcl, hat⟩ := World.cells?_some hc
 obtain ⟨ho, hk⟩ := hone_of hone j f hj
 have hjl : j < fs.size := (Array.getElem?_eq_some_iff.1 hj).1
 have hjc : j < cs.length := by omega
 have h1 := hf j f hj
 rw [ho, hk, List.drop_eq_getElem_cons hjc] at h1
 refine ⟨m, cs[j], ys[j]'(by omega), ?_, ?_⟩
 ·exact (hat j (by omega)).trans (List.getElem?_eq_getElem hjc)
 ·exact h1.trans (List.getElem?_eq_getElem (by omega))
end
theorem cellsInt : Tryz.prog.cellsOf 3 = 1 := by kernel_rfl
theorem i64_bd {a : Int} (h : (Lit.int .i64 a).wf = true) : -9223372036854775808 ≤ a ∧ a ≤ 9223372036854775807 := by
 simpa [Lit.wf, IntKind.min, IntKind.max, IntKind.signed, IntKind.bits] using h
section
variable {H : Type} {enc : TypeId × Value → H} {W : World} {b0 : Nat} {v : Value} {d : DataW H} {p : List MemPlace}
set_option maxRecDepth 100000 in
theorem open_i64 (hv : Value.okWide Tryz.prog W .any b0 3 v) (h : DataW.Trod enc Tryz.prog W 0 (fun _ => true) true 3 v d p) :
 ∃ a : Int, v = .int .i64 a ∧ -9223372036854775808 ≤ a ∧ a ≤ 9223372036854775807 := by
 obtain ⟨x, rfl, _, _, wx⟩ := open_int Tryz.underlying3 hv h
 exact ⟨x, rfl, i64_bd wx⟩
set_option maxRecDepth 100000 in
theorem ints_cell {n : Nat} {y : DataW H × List MemPlace} (h : DataW.trod enc Tryz.prog W 0 (fun _ => true) true n 31 [v] = some y) :
 ∃ A c xs, v = .slice A xs.length c ∧ Ints W A xs ∧ xs.length ≤ c ∧ c ≤ 9223372036854775807 ∧ (∀ x ∈ xs, -9223372036854775808 ≤ x ∧ x ≤ 9223372036854775807) ∧ (A = none → c = 0) := by
 rcases open_ints Tryz.underlying31 Tryz.underlying3 cellsInt h with ⟨hcs, _⟩ | ⟨a, len, cap, zs, hcs, _, hl, hm, hz, _, hcell, hwz⟩
 ·injection hcs with hcs
  exact ⟨none, 0, [], hcs, Ints.nil, by simp, by omega, by simp, fun _ => rfl⟩
 ·injection hcs with hcs
  have hz : zs.length = cap := hz
  have hlen : (zs.take len).length = len := by rw [List.length_take]; omega
  refine ⟨some a, cap, zs.take len, by rw [hcs, hlen], ?_, by omega, by unfold maxLen at hm; omega, fun x hx => i64_bd (hwz x (List.mem_of_mem_take hx)), fun h => by cases h⟩
  intro h0
  rw [hlen] at h0
  obtain ⟨b, off, rfl, hc⟩ := ints_at hcell (by omega)
  refine ⟨b, off, rfl, ?_, ?_⟩
  ·have := hc 0 (by omega)
   exact World.block_lt_of_cell? _ _ this
  ·intro k hk
   rw [hlen] at hk
   rw [hc k (by omega)]
   simp [List.getD_eq_getElem?_getD, hk]
theorem ex_list {α : Type} (n : Nat) (R : Nat → α → Prop) (h : ∀ i, i < n → ∃ x, R i x) : ∃ l : List α, l.length = n ∧ ∀ i x, l[i]? = some x → R i x := by
 induction n with
 | zero => exact ⟨[], rfl, by simp⟩
 | succ n ih =>
  obtain ⟨l, hl, hr⟩ := ih (fun i hi => h i (by omega))
  obtain ⟨x, hx⟩ := h n (by omega)
  refine ⟨l ++ [x], by simp [hl], fun i y hy => ?_⟩
  rw [List.getElem?_append] at hy
  split at hy
  ·exact hr i y hy
  ·have : i - l.length = 0 := by
    rcases Nat.eq_zero_or_pos (i - l.length) with h0 | h0
    ·exact h0
    ·rw [List.getElem?_eq_none (by simp; omega)] at hy
     cases hy
   rw [this] at hy
   obtain rfl : x = y := by simpa using hy
   obtain rfl : i = n := by omega
   exact hx
theorem add_plain' (b off i : Nat) : (⟨b, off, none⟩ : Addr).add i = ⟨b, off + i, none⟩ := Go.WideShapes.add_plain b off i
end
theorem cellsPart : Tryz.prog.cellsOf 34 = 8 := by kernel_rfl
theorem u64_bd {a : Int} (h : (Lit.int .u64 a).wf = true) : 0 ≤ a ∧ a ≤ 18446744073709551615 := by
 simpa [Lit.wf, IntKind.min, IntKind.max, IntKind.signed, IntKind.bits] using h
theorem struct_cells2 {H : Type} {enc : TypeId × Value → H} {P : Program} {w : World} {base : Nat} {spare : Nat → Bool} {held : Bool} {e : TypeId} {fs : Array Field} {n : Nat} {a : Addr} {cs : List Value} {x : DataW H × List MemPlace} (he : P.underlying e = some (.struct fs)) (hone : oneCellFields P fs = true)
 (hsz : P.cellsOf e = fs.size) (hc : w.cells? base a (P.cellsOf e) = some cs) (ht : DataW.trod enc P w base spare held n e cs = some x) (j : Nat) (f : Field) (hj : fs[j]? = some f) :
 ∃ (m : Nat) (v : Value) (y : DataW H × List MemPlace), w.cell? (a.add j) = some v ∧ DataW.trod enc P w base spare held m f.type [v] = some y ∧ ∀ k ∈ y.1.weights P f.type, k ∈ x.1.weights P e := by
 obtain ⟨ys, m, hm, hx, _, hyl, hf⟩ := DataW.trod_struct he ht
 obtain ⟨_, hcl, hat⟩ := World.cells?_some hc
 obtain ⟨ho, hk⟩ := hone_of hone j f hj
 have hjl : j < fs.size := (Array.getElem?_eq_some_iff.1 hj).1
 have hjc : j < cs.length := by omega
 have h1 := hf j f hj
 rw [ho, hk, List.drop_eq_getElem_cons hjc] at h1
 refine ⟨m, cs[j], ys[j]'(by omega), ?_, ?_, ?_⟩
 ·exact (hat j (by omega)).trans (List.getElem?_eq_getElem hjc)
 ·exact h1.trans (List.getElem?_eq_getElem (by omega))
 ·intro k hk
  rw [hx]
  simp only [DataW.weights, he]
  refine DataW.weights_mem_each (j := j) (t := f.type) (d := (ys[j]'(by omega)).1) ?_ ?_ k hk
  ·rw [List.getElem?_map, Array.getElem?_toList, hj]
   rfl
  ·rw [List.getElem?_map, List.getElem?_eq_getElem (by omega)]
   rfl
theorem weights_elem {H : Type} {P : Program} {e : TypeId} : ∀ {l : List (DataW H)} {d : DataW H}, d ∈ l → ∀ k ∈ d.weights P e, k ∈ DataW.weightsAll P e l
 | d0 :: l, d, hd, k, hk => by
  simp only [DataW.weightsAll, List.mem_append]
  rcases List.mem_cons.1 hd with rfl | hd
  ·exact .inl hk
  ·exact .inr (weights_elem hd k hk)
set_option maxRecDepth 100000 in
theorem ints_cellS {H : Type} {enc : TypeId × Value → H} {W : World} {v : Value} {n : Nat} {y : DataW H × List MemPlace} (h : DataW.trod enc Tryz.prog W 0 (fun _ => true) true n 31 [v] = some y) (hw : ∀ k ∈ y.1.weights Tryz.prog 31, k ≤ reachBytes) :
 ∃ A c xs, v = .slice A xs.length c ∧ Ints W A xs ∧ xs.length ≤ c ∧ c ≤ 9223372036854775807 ∧ (∀ x ∈ xs, -9223372036854775808 ≤ x ∧ x ≤ 9223372036854775807) ∧ (A = none → c = 0) ∧ xs.length ≤ 140737488355328 := by
 obtain ⟨A, c, xs, rfl, h1, h2, h3, h4, h5⟩ := ints_cell h
 refine ⟨A, c, xs, rfl, h1, h2, h3, h4, h5, ?_⟩
 rcases open_ints Tryz.underlying31 Tryz.underlying3 cellsInt h with ⟨hcs, _⟩ | ⟨a, len, cap, zs, hcs, _, hl, hm, hz, hy, _, _⟩
 ·injection hcs with hcs
  injection hcs with _ hcs _
  omega
 ·injection hcs with hcs
  injection hcs with _ hcs _
  have hz : zs.length = cap := hz
  have hb : Tryz.prog.bytesOf 3 = 8 := by kernel_rfl
  rw [hy] at hw
  have hll : (lits IntKind.i64 (zs.take len) : List (DataW H)).length = len := by simp [lits]; omega
  have := hw (((lits IntKind.i64 (zs.take len) : List (DataW H)).length + (lits IntKind.i64 (zs.drop len) : List (DataW H)).length) * Tryz.prog.bytesOf 3) (by simp [DataW.weights, Tryz.underlying31])
  rw [hb, hll] at this
  have hr := reachBytes_lt
  omega
section
variable {H : Type} {enc : TypeId × Value → H} {W : World} {b0 : Nat} {v : Value} {d : DataW H} {p : List MemPlace}
set_option maxRecDepth 100000 in
theorem open_partsS (hv : Value.okWide Tryz.prog W .any b0 22 v) (h : DataW.Trod enc Tryz.prog W 0 (fun _ => true) true 22 v d p) (hw : ∀ k ∈ d.weights Tryz.prog 22, k ≤ reachBytes) :
 ∃ A c ps, v = .slice A (ps : List Prt).length c ∧ Prts W A ps ∧ PrtsOk W ps ∧ ps.length ≤ c ∧ c ≤ 9223372036854775807 ∧ (A = none → c = 0) ∧ (∀ p ∈ ps, p.nd.kids.length ≤ 140737488355328) := by
 obtain ⟨A0, len0, cap0, rfl⟩ := okWide_slice Tryz.underlying22 hv
 obtain ⟨fuel, hf⟩ := h
 rcases open_slice Tryz.underlying22 (show DataW.trod enc Tryz.prog W 0 (fun _ => true) true fuel 22 [.slice A0 len0 cap0] = _ by simpa [Value.cells] using hf) with ⟨hcs, _⟩ | ⟨a, len, cap, m, n, D, Pl, hcs, _, hl, hm, hmm, hxd, hcell⟩
 ·injection hcs with hcs
  exact ⟨none, 0, [], hcs, Prts.nil, (fun s hs => by simp at hs), by simp, by omega, fun _ => rfl, fun s hs => by simp at hs⟩
 ·injection hcs with hcs
  have hmm : m = cap := hmm
  obtain ⟨ss, hlen, hss⟩ := ex_list len (fun i (s : Prt) => W.cell? ((a.add (i * 8)).add 0) = some (.int .i64 s.nd.sym) ∧ W.cell? ((a.add (i * 8)).add 1) = some (.int .i64 s.nd.kind) ∧
   W.cell? ((a.add (i * 8)).add 2) = some (.int .i64 s.nd.lo) ∧ W.cell? ((a.add (i * 8)).add 3) = some (.int .i64 s.nd.inn) ∧ W.cell? ((a.add (i * 8)).add 4) = some (.int .i64 s.nd.hi) ∧
   W.cell? ((a.add (i * 8)).add 5) = some (.int .i64 s.nd.look) ∧ W.cell? ((a.add (i * 8)).add 6) = some (.slice s.kA s.nd.kids.length s.kc) ∧ W.cell? ((a.add (i * 8)).add 7) = some (.int .u64 s.nd.met) ∧ PrtOk W s ∧ s.nd.kids.length ≤ 140737488355328) (by
   intro i hi
   obtain ⟨cs', hc', ht'⟩ := hcell i (by omega)
   have hf := struct_cells2 Tryz.underlying34 (by kernel_rfl) cellsPart hc' ht'
   obtain ⟨n0, v0, y0, c0, t0, m0⟩ := hf 0 _ rfl
   obtain ⟨n1, v1, y1, c1, t1, m1⟩ := hf 1 _ rfl
   obtain ⟨n2, v2, y2, c2, t2, m2⟩ := hf 2 _ rfl
   obtain ⟨n3, v3, y3, c3, t3, m3⟩ := hf 3 _ rfl
   obtain ⟨n4, v4, y4, c4, t4, m4⟩ := hf 4 _ rfl
   obtain ⟨n5, v5, y5, c5, t5, m5⟩ := hf 5 _ rfl
   obtain ⟨n6, v6, y6, c6, t6, m6⟩ := hf 6 _ rfl
   obtain ⟨n7, v7, y7, c7, t7, m7⟩ := hf 7 _ rfl
   rw [cellsPart] at c0 c1 c2 c3 c4 c5 c6 c7
   obtain ⟨x0, e0, _, w0⟩ := DataW.trod_int Tryz.underlying3 t0
   obtain ⟨x1, e1, _, w1⟩ := DataW.trod_int Tryz.underlying3 t1
   obtain ⟨x2, e2, _, w2⟩ := DataW.trod_int Tryz.underlying3 t2
   obtain ⟨x3, e3, _, w3⟩ := DataW.trod_int Tryz.underlying3 t3
   obtain ⟨x4, e4, _, w4⟩ := DataW.trod_int Tryz.underlying3 t4
   obtain ⟨x5, e5, _, w5⟩ := DataW.trod_int Tryz.underlying3 t5
   obtain ⟨A, c, xs, rfl, hI, hx1, hx2, hx3, hx4, hx5⟩ := ints_cellS t6 (fun k hk => hw k (by rw [show d = _ from congrArg Prod.fst hxd]; simp only [DataW.weights, Tryz.underlying22]; exact List.mem_cons_of_mem _ (List.mem_append_left _ (weights_elem (List.mem_map.2 ⟨i, List.mem_range.2 hi, rfl⟩) k (m6 k hk)))))
   obtain ⟨x7, e7, _, w7⟩ := DataW.trod_int Tryz.underlying32 t7
   simp at e0 e1 e2 e3 e4 e5 e7
   subst e0 e1 e2 e3 e4 e5 e7
   exact ⟨⟨⟨x0, x1, x2, x3, x4, x5, xs, x7⟩, A, c⟩, c0, c1, c2, c3, c4, c5, c6, c7, ⟨hI, hx1, hx2, hx4, i64_bd w0, i64_bd w1, i64_bd w2, i64_bd w3, i64_bd w4, i64_bd w5, u64_bd w7, hx3⟩, hx5⟩)
  refine ⟨some a, cap, ss, by rw [hcs, hlen], ?_, ?_, by omega, by unfold maxLen at hm; omega, (fun h => by cases h), ?_⟩
  ·intro h0
   obtain ⟨s, hs⟩ : ∃ s, ss[0]? = some s := ⟨_, List.getElem?_eq_getElem h0⟩
   have h1 := (hss 0 s hs).1
   obtain ⟨b, off, spot⟩ := a
   have hspot : spot = none := by simpa [Addr.add] using World.cell?_spot h1
   subst hspot
   refine ⟨b, off, rfl, ?_, ?_⟩
   ·simp only [add_plain'] at h1
    exact World.block_lt_of_cell? _ _ h1
   ·intro k s hk
    obtain ⟨g0, g1, g2, g3, g4, g5, g6, g7, _⟩ := hss k s hk
    simp only [add_plain'] at g0 g1 g2 g3 g4 g5 g6 g7
    exact ⟨g0, g1, g2, g3, g4, g5, g6, g7⟩
  ·intro s hs
   obtain ⟨i, hi, rfl⟩ := List.getElem_of_mem hs
   exact (hss i _ (List.getElem?_eq_getElem hi)).2.2.2.2.2.2.2.2.1
  ·intro s hs
   obtain ⟨i, hi, rfl⟩ := List.getElem_of_mem hs
   exact (hss i _ (List.getElem?_eq_getElem hi)).2.2.2.2.2.2.2.2.2
end
structure StyB (s : Sty) : Prop where
 kind : I64 s.kind
 st : I64 s.st
 prio : I64 s.prio
 path : ∀ x ∈ s.path, I64 x
 cap : s.path.length ≤ s.pc
 top : s.pc ≤ 9223372036854775807
 none : s.pA = .none → s.pc = 0
theorem cellsStyle : Tryz.prog.cellsOf 55 = 4 := by kernel_rfl
section
variable {H : Type} {enc : TypeId × Value → H} {W : World} {b0 : Nat} {v : Value} {d : DataW H} {p : List MemPlace}
set_option maxRecDepth 100000 in
theorem open_styles (hv : Value.okWide Tryz.prog W .any b0 56 v) (h : DataW.Trod enc Tryz.prog W 0 (fun _ => true) true 56 v d p) :
 ∃ A c ss, v = .slice A (ss : List Sty).length c ∧ Styles W A ss ∧ StylesOk W ss ∧ ss.length ≤ c ∧ c ≤ 9223372036854775807 ∧ (A = none → c = 0) ∧ (∀ s ∈ ss, StyB s) := by
 obtain ⟨A0, len0, cap0, rfl⟩ := okWide_slice Tryz.underlying56 hv
 obtain ⟨fuel, hf⟩ := h
 rcases open_slice Tryz.underlying56 (show DataW.trod enc Tryz.prog W 0 (fun _ => true) true fuel 56 [.slice A0 len0 cap0] = _ by simpa [Value.cells] using hf) with ⟨hcs, _⟩ | ⟨a, len, cap, m, n, D, Pl, hcs, _, hl, hm, hmm, _, hcell⟩
 ·injection hcs with hcs
  exact ⟨none, 0, [], hcs, fun h => by simp at h, fun s hs => by simp at hs, by simp, by omega, fun _ => rfl, fun s hs => by simp at hs⟩
 ·injection hcs with hcs
  have hmm : m = cap := hmm
  obtain ⟨ss, hlen, hss⟩ := ex_list len (fun i (s : Sty) => W.cell? ((a.add (i * 4)).add 0) = some (.int .i64 s.kind) ∧ W.cell? ((a.add (i * 4)).add 1) = some (.slice s.pA s.path.length s.pc) ∧
   W.cell? ((a.add (i * 4)).add 2) = some (.int .i64 s.st) ∧ W.cell? ((a.add (i * 4)).add 3) = some (.int .i64 s.prio) ∧ styOk W s ∧ StyB s) (by
   intro i hi
   obtain ⟨cs', hc', ht'⟩ := hcell i (by omega)
   have hf := struct_cells Tryz.underlying55 (by kernel_rfl) cellsStyle hc' ht'
   obtain ⟨n0, v0, y0, c0, t0⟩ := hf 0 _ rfl
   obtain ⟨n1, v1, y1, c1, t1⟩ := hf 1 _ rfl
   obtain ⟨n2, v2, y2, c2, t2⟩ := hf 2 _ rfl
   obtain ⟨n3, v3, y3, c3, t3⟩ := hf 3 _ rfl
   rw [cellsStyle] at c0 c1 c2 c3
   obtain ⟨k, e0, _, b0⟩ := DataW.trod_int Tryz.underlying3 t0
   obtain ⟨st, e2, _, b2⟩ := DataW.trod_int Tryz.underlying3 t2
   obtain ⟨pr, e3, _, b3⟩ := DataW.trod_int Tryz.underlying3 t3
   obtain ⟨A, c, xs, rfl, hI, hx1, hx2, hx3, hx4⟩ := ints_cell t1
   simp at e0 e2 e3
   subst e0 e2 e3
   exact ⟨⟨k, A, c, xs, st, pr⟩, c0, c1, c2, c3, ⟨hI, by show xs.length ≤ _; omega⟩, ⟨i64_bd b0, i64_bd b2, i64_bd b3, hx3, hx1, hx2, hx4⟩⟩)
  refine ⟨some a, cap, ss, by rw [hcs, hlen], ?_, ?_, by omega, by unfold maxLen at hm; omega, (fun h => by cases h), ?_⟩
  ·intro h0
   obtain ⟨s, hs⟩ : ∃ s, ss[0]? = some s := ⟨_, List.getElem?_eq_getElem h0⟩
   have h1 := (hss 0 s hs).1
   obtain ⟨b, off, spot⟩ := a
   have hspot : spot = none := by simpa [Addr.add] using World.cell?_spot h1
   subst hspot
   refine ⟨b, off, rfl, ?_, ?_⟩
   ·simp only [add_plain'] at h1
    exact World.block_lt_of_cell? _ _ h1
   ·intro k s hk
    obtain ⟨g0, g1, g2, g3, _⟩ := hss k s hk
    simp only [add_plain'] at g0 g1 g2 g3
    exact ⟨g0, g1, g2, g3⟩
  ·intro s hs
   obtain ⟨i, hi, rfl⟩ := List.getElem_of_mem hs
   exact (hss i _ (List.getElem?_eq_getElem hi)).2.2.2.2.1
  ·intro s hs
   obtain ⟨i, hi, rfl⟩ := List.getElem_of_mem hs
   exact (hss i _ (List.getElem?_eq_getElem hi)).2.2.2.2.2
end
end Go.Proofs.YthpmncdfaggkiaaGreat
namespace Go.Proofs.YthpmncdfaggkiaaGreat
open Go.RowKit
def toPrt (p : Pt) : Prt := ⟨nd1 p.nd, p.kA, p.kc⟩
theorem pv_toPrt (ps : List Pt) : pv (ps.map toPrt) = pw ps := by
 unfold pv pw
 rw [List.flatMap_map]
 rfl
theorem nds_toPrt (ps : List Pt) : nds (ps.map toPrt) = (shs ps).map nd1 := by simp [nds, shs, toPrt]
def I64s (t : Sh) : Prop := I64 t.sym ∧ I64 t.kind ∧ I64 t.lo ∧ I64 t.inn ∧ I64 t.hi ∧ I64 t.look ∧ ∀ k ∈ t.ks, I64 k
theorem kc_le (l : List Nd) (j : Nat) : kc l 0 j ≤ kc l 0 l.length := by
 by_cases h : j ≤ l.length
 ·have := kc_add l (Nat.zero_le j) h
  omega
 ·unfold kc
  rw [List.take_of_length_le (by omega), List.take_of_length_le (Nat.le_refl _)]
  exact Nat.le_refl _
theorem RowA.ps {w : World} {base : Nat} {v : Value} {rs : List Pt} {ts : List Sh} (h : RowA w base v rs) (hs : shs rs = ts) (hb : ∀ t ∈ ts, I64s t) (hl : ts.length ≤ 1000) (hk : kc (ts.map nd1) 0 (ts.map nd1).length ≤ 1000000) : ∃ A c, v = .slice A rs.length c ∧ PS w A c (rs.map toPrt) := by
 obtain ⟨A, c, hv, hc, hlc, hcm, hn⟩ := own_cells h.own
 have hlen := shs_length hs
 refine ⟨A, c, hv, ?_⟩
 refine ⟨Prts.of_cells (by rw [pv_toPrt]; exact hc), fun p hp => ?_, ⟨by rw [List.length_map]; omega, fun j => ?_⟩, by rw [List.length_map]; exact hlc, by unfold maxLen at hcm; exact hcm, hn⟩
 ·obtain ⟨q, hq, rfl⟩ := List.mem_map.1 hp
  have hkk := h.kids q hq
  have hm : q.nd ∈ ts := by rw [← hs]; exact List.mem_map_of_mem hq
  obtain ⟨b1, b2, b3, b4, b5, b6, b7⟩ := hb _ hm
  have htop := hkk.top
  unfold maxLen at htop
  exact ⟨hkk.ints, hkk.cap, htop, hkk.nil, b1, b2, b3, b4, b5, b6, by show 0 ≤ (0 : Int) ∧ (0 : Int) ≤ 18446744073709551615; omega, b7⟩
 ·have h1 := kc_le (nds (rs.map toPrt)) j
  rw [nds_toPrt, hs] at h1 ⊢
  exact Nat.le_trans h1 hk
end Go.Proofs.YthpmncdfaggkiaaGreat
namespace Go.Proofs.YthpmncdfaggkiaaGreat
abbrev ndAB : List Nd := treeAB.map nd1
theorem ndAB_eq : ndAB = [⟨-3, 1, 0, 0, 3, 1, [1, 6], 0⟩, ⟨1, 2, 0, 0, 3, 2, [2, 3], 0⟩, ⟨0, 3, 0, 0, 1, 2, [], 0⟩, ⟨1, 2, 1, 1, 3, 4, [4, 5], 0⟩, ⟨0, 3, 1, 2, 3, 4, [], 0⟩, ⟨1, 2, 3, 3, 3, 4, [], 0⟩, ⟨-2, 6, 3, 3, 3, 4, [], 0⟩] := rfl
theorem ab_tree (m : Int) (hm : 0 ≤ m) : Tree [⟨-3, 1, 0, 0, 3, 1, [1, 6], 0⟩, ⟨1, 2, 0, 0, 3, 2, [2, 3], 0⟩, ⟨0, 3, 0, 0, 1, 2, [], 0⟩, ⟨1, 2, 1, 1, 3, 4, [4, 5], 0⟩, ⟨0, 3, 1, 2, 3, 4, [], m⟩, ⟨1, 2, 3, 3, 3, 4, [], 0⟩, ⟨-2, 6, 3, 3, 3, 4, [], 0⟩] := by
 refine ⟨fun i p hp => ?_, ?_, ?_⟩
 ·have hi : i < 7 := (List.getElem?_eq_some_iff.1 hp).1
  rcases (show i = 0 ∨ i = 1 ∨ i = 2 ∨ i = 3 ∨ i = 4 ∨ i = 5 ∨ i = 6 by omega) with rfl | rfl | rfl | rfl | rfl | rfl | rfl
  all_goals
   injection hp with hp
   subst hp
   exact ⟨by unfold Bare; simp [TokK, LeafK] , by simp⟩
 ·refine .cons _ _ 0 7 _ _ rfl ?_ (.nil 7)
  refine .cons _ _ 1 6 _ _ rfl ?_ (.cons _ _ 6 7 _ _ rfl (.nil 7) (.nil 7))
  refine .cons _ _ 2 3 _ _ rfl (.nil 3) (.cons _ _ 3 6 _ _ rfl ?_ (.nil 6))
  exact .cons _ _ 4 5 _ _ rfl (.nil 5) (.cons _ _ 5 6 _ _ rfl (.nil 6) (.nil 6))
 ·intro p hp
  simp only [List.mem_cons, List.not_mem_nil, or_false] at hp
  rcases hp with rfl | rfl | rfl | rfl | rfl | rfl | rfl <;> simp [liesB]
theorem ndAB_tree : Tree ndAB := by rw [ndAB_eq]; exact ab_tree 0 (by omega)
theorem treeAB_i64 : ∀ t ∈ treeAB, I64s t := by
 unfold treeAB I64s I64
 decide
end Go.Proofs.YthpmncdfaggkiaaGreat
