/- shift.Merge: the walk. -/
import Derived.Test.YtfjkghbnlmhcnaaSe
import Derived.Deep.AppendSrc
import Derived.Lib.AppendZeros
import Derived.WalkSpells
import Derived.WalkLawsBesides
import Derived.BigRegion
import Derived.Deep.RegionWith
import Derived.Deep.QuietTactic
import Derived.Deep.DeepCutAuto
import Derived.Deep.RegionHeld3
import Derived.Deep.RegionLaw
import Derived.BigQuiet
import Derived.Lib.Hide
namespace Go.Proofs.Ytfjkghbnlmhcnaa
open Go.RowKit
attribute [local go_sem] more_drew more_drewN more_size more_cell more_frozen more_setCell drew_more drewN_more lt_add_r lt_add_r2 lt_add_r3 lt_add_r4 lt_add_r5 lt_add_r6 lt_add_r7 lt_add_r8 lt_add_r9 lt_add_r10 lt_self_r lt_self_r2

theorem OwnS.keepB {w w' : World} {base c gx : Nat} {A : Option Addr} {ss : List Sn} (h : OwnS w base A c ss) (t : Turn (· = gx) w w') (hne : ∀ g, A = some ⟨g, 0, none⟩ → g ≠ gx) : OwnS w' base A c ss := by
  obtain ⟨h1, h2⟩ := h
  refine ⟨h1, h2.imp id ?_⟩
  rintro ⟨g, cap, cur, e, h3, h4, h5⟩
  have hA : A = some ⟨g, 0, none⟩ := by injection e
  exact ⟨g, cap, cur, e, h3, (t.block g (lt_of_heap h4) (hne g hA)).trans h4, h5⟩
theorem cell2_set {W : World} {g : Nat} {a b v u : Value} {T : TypeId} (h : W.heap[g]? = some (.cells #[a, b] T)) : ((W.setCell ⟨g, 0, none⟩ v).setCell ⟨g, 1, none⟩ u).heap[g]? = some (.cells #[v, u] T) := by
  simp [World.setCell, Array.getElem?_modify, h]
/-- one is cut out in place -/
theorem cut_run {W : World} {base g c i : Nat} {ss : List Sn} (h : OwnS W base (some ⟨g, 0, none⟩) c ss) (hi : i < ss.length) (a : Addr) (cc : Nat) (ha : a = ⟨g, (i + 1) * 2, none⟩ ∨ i + 1 = ss.length) :
    ∃ W', (∀ ty, (Builtin.append_ #[52, 52] ty #[.slice (some ⟨g, 0, none⟩) i c, .slice (some a) (ss.length - (i + 1)) cc]).run Try.prog W = .ok (.slice (some ⟨g, 0, none⟩) (i + (ss.length - (i + 1))) c) W') ∧
      OwnS W' base (some ⟨g, 0, none⟩) c (ss.take i ++ ss.drop (i + 1)) ∧ Turn (· = g) W W' := by
  obtain ⟨i3, hii, hz0, hz1, hz2⟩ := info_parts infoSpan
  obtain ⟨_, hc1, hc2, _⟩ := h.cells
  have hdl : (ss.drop (i + 1)).length = ss.length - (i + 1) := List.length_drop
  have RA := h.row
  have hS : Src Try.prog i3.size 52 (.slice (some a) (ss.length - (i + 1)) cc) (ss.length - (i + 1)) (sv (ss.drop (i + 1))) W := by
    rw [hz1]
    refine Src.ofSlice W Try.underlying52 a _ cc _ (by rw [sv_length, hdl]) (fun j u hj => ?_) (sv_one _)
    rcases ha with rfl | ha
    · rw [← sv_drop, List.getElem?_drop] at hj
      rw [Addr.add_lit]
      exact RA.cell hj
    · rw [ha, List.drop_eq_nil_of_le (Nat.le_refl _)] at hj
      cases hj
  have hap := fun ty => run_append_room_src W 52 52 ty 54 i3 Try.underlying52 hii g 0 i c _ _ (sv (ss.drop (i + 1))) hS (by omega)
    (fun j hj => RA.here (by rw [hz1]; rw [sv_length, hdl] at hj; omega)) (fun j _ => RA.frozen _)
  rw [hz1, Nat.zero_add] at hap
  refine ⟨_, hap, ?_, Turn.setCells (S := (· = g)) rfl _ _ _⟩
  have hvl := sv_length ss
  have hvd := sv_length (ss.drop (i + 1))
  have O1 := (RA.put (i * 2) (sv (ss.drop (i + 1))) (by omega)).narrow ((i + (ss.length - (i + 1))) * 2)
  have e : (((sv ss).take (i * 2) ++ sv (ss.drop (i + 1)) ++ (sv ss).drop (i * 2 + (sv (ss.drop (i + 1))).length)).take ((i + (ss.length - (i + 1))) * 2)) = sv (ss.take i ++ ss.drop (i + 1)) := by
    rw [List.take_append_of_le_length (by rw [List.length_append, List.length_take, hvd, hvl, hdl]; omega), List.take_of_length_le (by rw [List.length_append, List.length_take, hvd, hvl, hdl]; omega), sv_take, sv_append]
  rw [e] at O1
  exact O1.spans hc2
def clampS (s : Sn) : Sn := (clamp s.1, clamp s.2)
theorem clampS_big (s : Sn) : BigS (clampS s) := by
  have h1 := clamp_bd s.1
  have h2 := clamp_bd s.2
  unfold BigS BdS clampS
  dsimp only
  omega
theorem join_in {y x : Sn} (hy : BigS y) (hx : BigS x) : (min (clamp y.1) (clamp x.1), max (clamp y.2) (clamp x.2)) = joinP y x := by
  unfold BigS BdS at hy hx
  unfold joinP
  rw [clamp_in (by omega) (by omega), clamp_in (a := x.1) (by omega) (by omega), clamp_in (a := y.2) (by omega) (by omega), clamp_in (a := x.2) (by omega) (by omega)]
def lenOf : Value → Nat
  | .slice _ n _ => n
  | _ => 0
set_option maxRecDepth 100000 in
set_option maxHeartbeats 4000000 in
theorem merge_any (A : Option Addr) (c : Nat) (ss : List Sn) (w : World) (hP : Spns w A ss) (hl : ss.length ≤ 20) :
    Calls Try.prog 29 #[.slice A ss.length c] w
      fun e w' => ∃ A' c', e = .returned (.slice A' (mergeP (ss.map clampS)).length c') ∧ OwnS w' w.heap.size A' c' (mergeP (ss.map clampS)) ∧ Ext w w' := by
  have HP := Lib.hid hP
  clear hP
  go_enter Try.func29, Try.ntmps29
  go_wp2_with fail
  go_loopw [3, 9] (fun v s wr => ∃ j : Nat, j ≤ ss.length ∧ s = .int .i64 j ∧ Hid (RowSp wr w.heap.size v (mergeP ((ss.take j).map clampS))) ∧ Hid (Turn (w.heap.size ≤ ·) w wr)) (fun _ s _ => ss.length - (intOf s).toNat)
  case atStart => exact ⟨0, by omega, rfl, Lib.hid ⟨none, 0, rfl, OwnS.nil _ _⟩, Lib.hid (Turn.of_ext (by repeat (first | exact Ext.refl _ | refine Ext.alloc ?_ _ | refine Ext.more ?_ _ _ | refine Ext.drew ?_ | refine Ext.drewN ?_ _ | refine Ext.setCell ?_ (by simp <;> omega) _)))⟩
  case round =>
    obtain ⟨j, hj, rfl, ho, ht⟩ := hrel
    by_cases hlt : j < ss.length
    · obtain ⟨x, hx⟩ : ∃ x, ss[j]? = some x := ⟨_, List.getElem?_eq_getElem hlt⟩
      have hPr : Spns wr A ss := HP.out.keep ht.out (fun b off hb => by
        obtain ⟨b', off', hA, hb', _⟩ := HP.out (by omega)
        rw [hA] at hb
        injection hb with hb
        injection hb with hb
        omega)
      obtain ⟨b, off, rfl, hb, hcell⟩ := hPr (by omega)
      obtain ⟨d0, d1⟩ := hcell j x hx
      obtain ⟨out0, hout0⟩ : ∃ o, mergeP ((ss.take j).map clampS) = o := ⟨_, rfl⟩
      have HNX : Hid (mergeP ((ss.take (j + 1)).map clampS) = stepP out0 (clampS x)) := Lib.hid (by
        rw [List.take_add_one, hx]
        show mergeP ((ss.take j ++ [x]).map clampS) = _
        rw [List.map_append, List.map_cons, List.map_nil, mergeP_snoc, hout0])
      have HF : Hid (RiseS out0 ∧ (∀ y ∈ out0, BigS y) ∧ out0.length ≤ j) := Lib.hid (by
        obtain ⟨h1, h2, h3⟩ := mergeP_facts (b := 1099511627776) ((ss.take j).map clampS) [] List.Pairwise.nil (fun y hy => by cases hy) (fun y hy => by
          obtain ⟨s, _, rfl⟩ := List.mem_map.1 hy
          exact clampS_big s)
        rw [← hout0]
        refine ⟨h1, h2, ?_⟩
        rw [List.length_nil, List.length_map, List.length_take] at h3
        unfold mergeP
        omega)
      rw [hout0] at ho
      obtain ⟨A0, c0, rfl, hown⟩ := ho.out
      have HO := Lib.hid hown
      obtain ⟨xa, xb⟩ := x
      dsimp only at d0 d1
      clear hcell hx hout0 ho hown hPr
      go_wp2_with (go_at_call 44; refine (span_any _ _ _).mono ?_; rintro e w1 ⟨rfl, os1, k1, rfl⟩)
      obtain ⟨gx, hgx⟩ : ∃ gx, wr.heap.size = gx := ⟨_, rfl⟩
      obtain ⟨W3, hW3⟩ : ∃ W3, more (wr.alloc (.cells #[.int .i64 (clamp xa), .int .i64 (clamp xb)] 54)) os1 k1 = W3 := ⟨_, rfl⟩
      have X3 : Ext wr W3 := by rw [← hW3]; exact (by repeat (first | exact Ext.refl _ | refine Ext.alloc ?_ _ | refine Ext.more ?_ _ _ | refine Ext.drew ?_ | refine Ext.drewN ?_ _ | refine Ext.setCell ?_ (by simp <;> omega) _))
      have B3 : Hid (W3.heap[gx]? = some (.cells #[.int .i64 (clampS (xa, xb)).1, .int .i64 (clampS (xa, xb)).2] 54)) := Lib.hid (by
        rw [← hW3, ← hgx, more_heap _ _ _ _ (by simp)]
        exact heap_alloc_new _ _)
      have HO3 := Lib.hid (HO.out.ext X3)
      have HNE : Hid (∀ g, A0 = some ⟨g, 0, none⟩ → g ≠ gx) := Lib.hid (fun g hg => by
        subst hg
        have : g < wr.heap.size := by
          rcases HO.out.2 with ⟨h, _⟩ | ⟨g', _, _, h, _, h4, _⟩
          · cases h
          · injection h with h
            injection h with h
            injection h with h
            rw [h]
            exact lt_of_heap h4
        omega)
      have HT3 := Lib.hid (ht.out.trans (Turn.of_ext X3))
      have HGX : Hid (w.heap.size ≤ gx) := Lib.hid (by rw [← hgx]; exact ht.out.size)
      have HBX := Lib.hid (clampS_big (xa, xb))
      obtain ⟨x0, hx0⟩ : ∃ x0, clampS (xa, xb) = x0 := ⟨_, rfl⟩
      rw [hx0] at HNX B3 HBX
      rw [hgx, hW3]
      clear hgx hW3 X3 d0 d1 ht HO hx0 hb
      go_loopw [3] (fun v wi => ∃ (out : List Sn) (y : Sn), v = .slice A0 out.length c0 ∧ Hid (OwnS wi w.heap.size A0 c0 out) ∧ Hid (wi.heap[gx]? = some (.cells #[.int .i64 y.1, .int .i64 y.2] 54)) ∧
        Hid (absorb out.length out y = absorb out0.length out0 x0) ∧ Hid ((∀ z ∈ out, BigS z) ∧ BigS y) ∧ out.length ≤ j ∧ Hid (Turn (w.heap.size ≤ ·) w wi)) (fun v _ => lenOf v)
      case atStart => exact ⟨out0, x0, rfl, HO3, B3, Lib.hid rfl, Lib.hid ⟨HF.out.2.1, HBX.out⟩, HF.out.2.2, HT3⟩
      case round =>
        clear HO3 B3 HT3
        obtain ⟨out, y, rfl, ho, hb, ha, hbig, hlo, ht⟩ := hrel
        have hg := lt_of_heap hb.out
        have CI := Lib.hid (idxSpans 46 #[.pointer (some ⟨gx, 0, none⟩)] (fun z => touchP z y) A0 c0 out wr ho.out.cells.1 (by omega) (enters_of Try.func46 (by kernel_rfl) rfl)
          (fun w1 z hx hz => by
            have hb1 := ext_block hb.out hx
            exact touchS_any gx z y w1 (hbig.out.1 z hz) hbig.out.2 (by have := cell_of_row _ _ 0 _ _ _ hb1; simpa using this) (by have := cell_of_row _ _ 1 _ _ _ hb1; simpa using this) (lt_of_heap hb1)))
        go_wp2_with fail
        refine CI.out.mono ?_
        rintro e w2 ⟨rfl, hx2⟩
        have X2 := Lib.hid hx2
        have B2 := Lib.hid (ext_block hb.out hx2)
        have HO2 := Lib.hid (ho.out.ext hx2)
        have HT2 := Lib.hid (ht.out.trans (Turn.of_ext hx2))
        clear CI hx2 ho hb ht hg
        rcases first_idx (fun z => touchP z y) out 0 with ⟨h1, h2⟩ | ⟨i, h1, h2, h3⟩
        · rw [h1]
          have HAB : Hid (absorb out0.length out0 x0 = (out, y)) := Lib.hid (by rw [← ha.out]; exact absorb_none h2)
          clear h1 h2 ha
          have y0 := cell_of_row _ _ 0 _ _ _ B2.out
          have y1 := cell_of_row _ _ 1 _ _ _ B2.out
          simp at y0 y1
          have hg := lt_of_heap B2.out
          have HLO : Hid (out.length ≤ 1000000) := Lib.hid (by omega)
          go_wp2_with (at_builtin; refine app_span w (by rfl) (.tmp 34) (.tmp 36) rfl (ss := out) ⟨A0, c0, rfl, HO2.out.ext (by repeat (first | exact Ext.refl _ | refine Ext.alloc ?_ _ | refine Ext.more ?_ _ _ | refine Ext.drew ?_ | refine Ext.drewN ?_ _ | refine Ext.setCell ?_ (by simp <;> omega) _))⟩ y w2.heap.size rfl rfl (cells_lit _ _ _ _ _ rfl rfl) HLO.out (HT2.out.trans (Turn.of_ext (by repeat (first | exact Ext.refl _ | refine Ext.alloc ?_ _ | refine Ext.more ?_ _ _ | refine Ext.drew ?_ | refine Ext.drewN ?_ _ | refine Ext.setCell ?_ (by simp <;> omega) _)))) ?_; intro v4 w4 hr4 ht4)
          obtain ⟨A4, c4, rfl, ho4⟩ := hr4
          have HT4 := Lib.hid ((HT2.out.trans (Turn.of_ext (by repeat (first | exact Ext.refl _ | refine Ext.alloc ?_ _ | refine Ext.more ?_ _ _ | refine Ext.drew ?_ | refine Ext.drewN ?_ _ | refine Ext.setCell ?_ (by simp <;> omega) _)))).trans ht4)
          obtain ⟨g4, rfl, hg4, hg4'⟩ := ho4.block (by rw [List.length_append]; simp)
          have CS := Lib.hid (sortS_in w.heap.size g4 c4 (out ++ [y]) w4 ho4 (by rw [List.length_append]; simp) (by rw [List.length_append, List.length_singleton]; omega))
          have HRI : Hid (insAll (out ++ [y]) = stepP out0 x0) := Lib.hid (by
            have h1 := (absorb_facts out0.length out0 x0 rfl).1
            unfold stepP
            rw [HAB.out] at h1 ⊢
            rw [insAll_snoc, insAll_same (HF.out.1.sublist h1)])
          obtain ⟨ln, hln⟩ : ∃ ln, (out ++ [y]).length = ln := ⟨_, rfl⟩
          have HLN : Hid (ln = (stepP out0 x0).length) := Lib.hid (by rw [← hln, ← HRI.out, insAll_length])
          rw [hln] at CS ⊢
          clear ht4 ho4 y0 y1 hg HO2 HT2 B2 X2 hln
          go_wp2_with fail
          refine CS.out.mono ?_
          rintro e w5 ⟨rfl, ho5, ht5⟩
          have HO5 := Lib.hid ho5
          have HT5 := Lib.hid (HT4.out.trans (ht5.mono fun k _ hk => by rw [hk]; exact hg4))
          clear CS ho5 ht5 HT4
          go_wp2_with fail
          go_roundw
          case rel => exact ⟨j + 1, by omega, by go_num, Lib.hid ⟨some ⟨g4, 0, none⟩, c4, by rw [HNX.out, HLN.out], by rw [HNX.out, ← HRI.out]; exact HO5.out.ext (by repeat (first | exact Ext.refl _ | refine Ext.alloc ?_ _ | refine Ext.more ?_ _ _ | refine Ext.drew ?_ | refine Ext.drewN ?_ _ | refine Ext.setCell ?_ (by simp <;> omega) _))⟩, Lib.hid (HT5.out.trans (Turn.of_ext (by repeat (first | exact Ext.refl _ | refine Ext.alloc ?_ _ | refine Ext.more ?_ _ _ | refine Ext.drew ?_ | refine Ext.drewN ?_ _ | refine Ext.setCell ?_ (by simp <;> omega) _))))⟩
          case measure => simp [intOf]; omega
        · rw [h1, Nat.zero_add]
          have HAB : Hid (absorb (out.take i ++ out.drop (i + 1)).length (out.take i ++ out.drop (i + 1)) (joinP (out.getD i (0, 0)) y) = absorb out0.length out0 x0) := Lib.hid (by
            rw [← ha.out, show out.length = (out.take i ++ out.drop (i + 1)).length + 1 by rw [List.length_append, List.length_take, List.length_drop]; omega, absorb_some h2])
          obtain ⟨z, hz⟩ : ∃ z, out[i]? = some z := ⟨_, List.getElem?_eq_getElem h3⟩
          have hzd : out.getD i (0, 0) = z := by rw [List.getD_eq_getElem?_getD, hz]; rfl
          obtain ⟨g, rfl, hgb, hgs⟩ := HO2.out.block (by omega)
          obtain ⟨o0, o1⟩ := HO2.out.cell hz
          have y0 := cell_of_row _ _ 0 _ _ _ B2.out
          have y1 := cell_of_row _ _ 1 _ _ _ B2.out
          have z0 : w2.frozen? ⟨gx, 0, none⟩ = false := by simp [World.frozen?, B2.out]
          have z1 : w2.frozen? ⟨gx, 1, none⟩ = false := by simp [World.frozen?, B2.out]
          simp at y0 y1
          have hgx := lt_of_heap B2.out
          have hzb := hbig.out.1 z (List.mem_of_getElem? hz)
          have HJI := Lib.hid (join_in hzb hbig.out.2)
          rw [hzd] at HAB
          have HJB : Hid (BigS (joinP z y)) := Lib.hid (by
            have h1 := hzb
            have h2 := hbig.out.2
            unfold BigS BdS joinP at *
            dsimp only
            omega)
          have i0 : (i : Int) < (out.length : Int) := by omega
          have i1 : (0 : Int) ≤ (i : Int) := by omega
          have i2 : decide ((i : Int) < 0) = false := decide_eq_false (by omega)
          have w1 : IntKind.i64.wrap ((i : Int) + 1) = ((i + 1 : Nat) : Int) := by rw [IntKind.wrap_i64]; omega
          have hne := HNE.out g rfl
          clear h1 h2 hz hzd hzb ha
          go_upto_region 8 with fail
          refine wp_region_bt (6) (softs_bt [0, 1, 2, 3, 4] (.step 5 (.step 6 .fin))) (by kernel_rfl) (by kernel_rfl) ?_
          (refine bt_softs _ fun K hK => ?_); (simp only [pick, nthC]); (repeat (go_big_quiet_step (fail))); (refine wpQuiet_nil (hK _ ?_)); (clear hK K)
          (refine bt_step fun next hn => ?_); (simp only [pick, nthC])
          go_wp2_with fail
          refine (join_any _ _ _ _ _).mono ?_
          rintro e w3 ⟨rfl, os3, k3, rfl⟩
          go_wp2_with fail
          refine segQ_mk (fun _ => laid (by repeat (first | exact Ext.refl _ | refine Ext.alloc ?_ _ | refine Ext.more ?_ _ _ | refine Ext.drew ?_ | refine Ext.drewN ?_ _ | refine Ext.setCell ?_ (by simp <;> omega) _))) (hn _ _ ?_)
          clear hn next
          (refine bt_step fun next hn => ?_); (simp only [pick, nthC])
          go_wp2_with fail
          refine segQ_mk (fun h => absurd rfl h) (hn _ _ ?_)
          clear hn next
          (refine bt_fin ?_)
          obtain ⟨V, hV⟩ : ∃ V, (w2.setCell ⟨gx, 0, none⟩ (.int .i64 (min (clamp z.1) (clamp y.1)))).setCell ⟨gx, 1, none⟩ (.int .i64 (max (clamp z.2) (clamp y.2))) = V := ⟨_, rfl⟩
          have hB := cell2_set (v := .int .i64 (min (clamp z.1) (clamp y.1))) (u := .int .i64 (max (clamp z.2) (clamp y.2))) B2.out
          have hT : Turn (· = gx) w2 V := by
            rw [← hV]
            exact (Turn.setCell w2 (p := ⟨gx, 0, none⟩) (S := (· = gx)) rfl _).trans (Turn.setCell _ (p := ⟨gx, 1, none⟩) (S := (· = gx)) rfl _)
          rw [hV] at hB ⊢
          have hji := HJI.out
          rw [Prod.ext_iff] at hji
          dsimp only at hji
          rw [hji.1, hji.2] at hB
          obtain ⟨W4, hW4⟩ : ∃ W4, more V os3 k3 = W4 := ⟨_, rfl⟩
          have X4 : Ext V W4 := ⟨os3, k3, hW4.symm⟩
          have B4 := Lib.hid (ext_block hB X4)
          have HO4 := Lib.hid ((HO2.out.keepB hT (fun g' hg' => HNE.out g' hg')).ext X4)
          have HT4 := Lib.hid ((HT2.out.trans (hT.mono fun k _ hk => by rw [hk]; exact HGX.out)).trans (Turn.of_ext X4))
          rw [hW4]
          clear hV hB hT hji hW4 X4 o0 o1 y0 y1 z0 z1 hgx HJI HT2 HO2 B2 X2 hgs
          obtain ⟨W5, hrun, ho5, ht5⟩ := cut_run (HO4.out.ext ((Ext.refl _).drew)) h3 (if c0 = i + 1 then ⟨g, 0, none⟩ else ⟨g, (i + 1) * 2, none⟩) (c0 - (i + 1)) (by
            split
            · rename_i h
              have := HO4.out.cells.2.1
              exact .inr (by omega)
            · exact .inl rfl)
          have HR := Lib.hid hrun
          have HO5 := Lib.hid ho5
          have HT5 := Lib.hid ((HT4.out.trans (Turn.of_ext ((Ext.refl W4).drew))).trans (ht5.mono fun k _ hk => by rw [hk]; exact hgb))
          have B5 := Lib.hid ((ht5.block gx (lt_of_heap (show W4.drew.heap[gx]? = _ from B4.out)) (fun h => hne h.symm)).trans (show W4.drew.heap[gx]? = _ from B4.out))
          clear hrun ho5 ht5 HT4 HO4 B4
          have hol : (out.take i ++ out.drop (i + 1)).length = i + (out.length - (i + 1)) := by rw [List.length_append, List.length_take, List.length_drop]; omega
          have HOL := Lib.hid hol
          have i3 : (i : Int) ≤ (c0 : Int) := by
            have := HO5.out.cells.2.1
            omega
          clear hol
          go_upto_region 9 with fail
          refine wp_region_segsT (7) [8] [] [0, 1, 2, 3, 4, 5, 6] (by kernel_rfl) (by kernel_rfl) ?_
          (refine segsT_nil fun K hK => ?_); (first | (simp only [pick_nil]) | (simp only [pick, nthC])); (repeat (go_big_quiet_step (fail))); (refine wpQuiet_nil (hK _ ?_)); (clear hK K); (simp only [pick, nthC])
          rw [show (if c0 = i + 1 then some (⟨g, 0, none⟩ : Addr) else some ⟨g, (i + 1) * 2, none⟩) = some (if c0 = i + 1 then ⟨g, 0, none⟩ else ⟨g, (i + 1) * 2, none⟩) by split <;> rfl]
          obtain ⟨PA, hPA⟩ : ∃ PA : Addr, (if c0 = i + 1 then (⟨g, 0, none⟩ : Addr) else ⟨g, (i + 1) * 2, none⟩) = PA := ⟨_, rfl⟩
          rw [hPA] at HR ⊢
          clear hPA
          at_builtin
          refine Lib.wpList_append_run _ rfl _ _ _ _ rfl _ _ rfl rfl _ _ (HR.out _) ?_
          go_wp2_with fail
          refine onlyN_mk ?_
          go_wp2_with fail
          go_roundw
          case rel => exact ⟨out.take i ++ out.drop (i + 1), joinP z y, by rw [HOL.out], HO5, B5, HAB, Lib.hid ⟨fun u hu => hbig.out.1 u ((cut_sub out i).subset hu), HJB.out⟩, by rw [HOL.out]; omega, HT5⟩
          case measure => simp [lenOf]; omega
    · obtain rfl : j = ss.length := by omega
      obtain ⟨A1, c1, rfl, hown⟩ := ho.out
      have HO := Lib.hid hown
      rw [List.take_length] at HO
      rw [List.take_length]
      obtain ⟨ms, hms⟩ : ∃ ms, mergeP (ss.map clampS) = ms := ⟨_, rfl⟩
      have HMS := Lib.hid hms
      rw [hms] at HO ⊢
      clear hown ho hms
      go_wp2_with fail
      go_ret
      exact ⟨A1, c1, by rw [HMS.out]; rfl, by rw [HMS.out]; exact HO.out.ext (by repeat (first | exact Ext.refl _ | refine Ext.alloc ?_ _ | refine Ext.more ?_ _ _ | refine Ext.drew ?_ | refine Ext.drewN ?_ _ | refine Ext.setCell ?_ (by simp <;> omega) _)), (Ext.of_below (ht.out.below (Nat.le_refl _) fun k hk => hk)).trans (by repeat (first | exact Ext.refl _ | refine Ext.alloc ?_ _ | refine Ext.more ?_ _ _ | refine Ext.drew ?_ | refine Ext.drewN ?_ _ | refine Ext.setCell ?_ (by simp <;> omega) _))⟩
end Go.Proofs.Ytfjkghbnlmhcnaa
