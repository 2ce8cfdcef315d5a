/- TgTargetCalls: texts that the proof rests on, part 3. -/
import Derived.Test.YthpmncdfaggkiaaGreatCr1
import Derived.Test.YthpmncdfaggkiaaGreatCr10
import Derived.Test.YthpmncdfaggkiaaGreatCr11
import Derived.Test.YthpmncdfaggkiaaGreatCr2
import Derived.Test.YthpmncdfaggkiaaGreatCr3
import Derived.Test.YthpmncdfaggkiaaGreatCr5
import Derived.Test.YthpmncdfaggkiaaGreatCr6
import Derived.Test.YthpmncdfaggkiaaGreatCr7
import Derived.Test.YthpmncdfaggkiaaGreatCr8
import Derived.Test.YthpmncdfaggkiaaGreatCr9
import Derived.Test.YthpmncdfaggkiaaGreatTg1
import Derived.Test.YthpmncdfaggkiaaGreatTg2
import Derived.Test.YthpmncdfaggkiaaGreatTgTargetCalls1
import Derived.Test.YthpmncdfaggkiaaGreatTgTargetCalls2
import Derived.OwnWalk
import Derived.WalkSpells
import Derived.WalkLawsBesides
import Derived.BigRegion
import Derived.Deep.RegionWith
import Derived.Deep.QuietTactic
import Derived.Deep.DeepCutAuto
import Derived.Deep.RegionHeld3
import Derived.Deep.RegionLaw
import Derived.BigQuiet
import Derived.Lib.Hide
import Derived.Deep.LoopGhost
import Derived.WalkMore
import Derived.WalkKit
import Derived.Maps.AppendAt
import Derived.Deep.AppendLies
import Derived.RegionTactic
import Derived.Laws.OwnMore
import Derived.RangeFuncNested
import Derived.RangeFuncBound
import Derived.RangeFuncCalls
import Derived.RangeFuncLeaves
import Derived.RangeFuncRecord
import Derived.RangeFuncIn
import Derived.Sort.QuietThIn
import Derived.Orders
import Derived.Deep.Quiet
import Derived.Handy
import Derived.Deep.Draws
import Derived.LoopIn
import Derived.Lib.AppendZeros
import Derived.Deep.OwnRows
import Derived.Test.YthpmncdfaggkiaaGreatChecked
import Derived.OwnWalkIn
import Derived.TacticsInMore
import Derived.LoopNIn
import Derived.Laws.EntriesVeiled
import Derived.Test.YthpmncdfaggkiaaGreatRows
import Derived.Shelf.Abstract
import Derived.Laws.BitsAllLaws
import Derived.Laws.Closers25b
import Derived.ProofKit
import Derived.OpenShut
import Derived.SizedLaws
import Derived.Lib.SmallJoins
import Derived.Deep.Slices
import Derived.Deep.Fields
import Derived.ChangeSame
import Derived.Laws.Strings
import Derived.Laws.MakeOwn
import Derived.Lib.SlicesS
import Derived.Laws.StructEq
import Derived.Maps.OwnOps
import Derived.Maps.OwnSet
import Derived.Maps.Views
import Derived.Laws.BytesArg
namespace Go.Proofs.YthpmncdfaggkiaaGreat
open Go.RowKit
attribute [local go_sem] more_drew more_drewN more_size more_cell more_frozen more_setCell drew_more drewN_more lt_add_r lt_add_r2 lt_add_r3 lt_add_r4 lt_add_r5 lt_add_r6 lt_add_r7 lt_add_r8 lt_add_r9 lt_add_r10 lt_self_r lt_self_r2
def RunRet (w : World) (a b : Int) (l : List Nd) (e : Ending) (w' : World) : Prop := ∃ A c qs, e = .returned (.tuple #[.int .i64 a, .int .i64 b, .slice A (qs : List Prt).length c]) ∧ nds qs = l ∧ OwnP w' w.heap.size A c qs ∧ Ext w w'
theorem RunRet.of {w V w' : World} {a b : Int} {l : List Nd} {A : Option Addr} {c : Nat} {qs : List Prt} (hn : nds qs = l) (ho : OwnP w' V.heap.size A c qs) (hv : Ext w V) (hx : Ext V w') : RunRet w a b l (.returned (.tuple #[.int .i64 a, .int .i64 b, .slice A qs.length c])) w' := ⟨A, c, qs, rfl, hn, ho.base hv.size, hv.trans hx⟩
section
variable {A : Option Addr} {c : Nat} {ps : List Prt} {w : World}
set_option maxRecDepth 100000 in
set_option maxHeartbeats 2000000 in
theorem run_no (i terms : Int) (h : PS w A c ps) (hn : ¬ (MayOk (nds ps) ∧ InnerAt (nds ps) i)) : Calls Tryz.prog 30 #[.slice A ps.length c, .int .i64 i, .int .i64 terms] w (RunRet w (-2) 0 []) := by
  have S := zh h
  have hl := h.few.len
  have CM := zh (fun (V : World) (x : Ext w V) => mayT_any (h.ext x))
  have HN := zh hn
  have FIN : Hid (∀ V : World, Ext w V → RunRet w (-2) 0 [] (.returned (.tuple #[.int .i64 (-2), .int .i64 0, .slice none 0 0])) V) := zh fun V x => ⟨none, 0, [], rfl, rfl, OwnP.nil _ _, x⟩
  clear h hn
  go_enter Tryz.func30, Tryz.ntmps30
  go_wp2_with fail
  refine (CM.out _ (Ext.refl _)).mono ?_
  rintro e w2 ⟨bm, rfl, hbm, hx2⟩
  have HX2 := zh hx2
  have HM := zh hbm
  clear hx2 hbm
  cases bm with
  | false =>
    go_wp2_with fail
    go_ret3
    exact FIN.out _ HX2.out
  | true =>
    by_cases h0 : i < 0
    · have g0 : decide (i < 0) = true := decide_eq_true h0
      go_wp2_with fail
      go_ret3
      exact FIN.out _ HX2.out
    · have g0 : decide (i < 0) = false := decide_eq_false h0
      by_cases h1 : i < (ps.length : Int)
      · obtain ⟨j, rfl⟩ : ∃ j : Nat, i = (j : Int) := ⟨i.toNat, by omega⟩
        have hjl : j < ps.length := by omega
        obtain ⟨⟨q, kA, kcap⟩, hp⟩ : ∃ p, ps[j]? = some p := ⟨_, List.getElem?_eq_getElem hjl⟩
        obtain ⟨bA, off, rfl, hbA, hcell⟩ := (S.out.ext HX2.out).parts (by omega)
        obtain ⟨d0, d1, d2, d3, d4, d5, d6, d7⟩ := hcell j _ hp
        dsimp only at d0 d1 d2 d3 d4 d5 d6 d7
        have hk1 : ¬ q.kind = 1 := fun h => HN.out ⟨HM.out.1 rfl, j, q, rfl, nds_get hp, .inl h⟩
        have hk2 : ¬ q.kind = 2 := fun h => HN.out ⟨HM.out.1 rfl, j, q, rfl, nds_get hp, .inr h⟩
        have e1 : decide (q.kind = 1) = false := decide_eq_false hk1
        have e2 : decide (q.kind = 2) = false := decide_eq_false hk2
        clear hcell hp h0 h1
        go_wp2_with fail
        go_ret3
        exact FIN.out _ (HX2.out.alloc _)
      · have g1 : decide (i < (ps.length : Int)) = false := decide_eq_false h1
        go_wp2_with fail
        go_ret3
        exact FIN.out _ HX2.out
set_option maxRecDepth 100000 in
set_option maxHeartbeats 2000000 in
theorem rrun_no (i terms : Int) (h : PS w A c ps) (hn : ¬ (MayOk (nds ps) ∧ InnerAt (nds ps) i)) : Calls Tryz.prog 33 #[.slice A ps.length c, .int .i64 i, .int .i64 terms] w (RunRet w (-2) 0 []) := by
  have S := zh h
  have hl := h.few.len
  have CM := zh (fun (V : World) (x : Ext w V) => rmayT_any (h.ext x))
  have HN := zh hn
  have FIN : Hid (∀ V : World, Ext w V → RunRet w (-2) 0 [] (.returned (.tuple #[.int .i64 (-2), .int .i64 0, .slice none 0 0])) V) := zh fun V x => ⟨none, 0, [], rfl, rfl, OwnP.nil _ _, x⟩
  clear h hn
  go_enter Tryz.func33, Tryz.ntmps33
  go_wp2_with fail
  refine (CM.out _ (Ext.refl _)).mono ?_
  rintro e w2 ⟨bm, rfl, hbm, hx2⟩
  have HX2 := zh hx2
  have HM := zh hbm
  clear hx2 hbm
  cases bm with
  | false =>
    go_wp2_with fail
    go_ret3
    exact FIN.out _ HX2.out
  | true =>
    by_cases h0 : i < 0
    · have g0 : decide (i < 0) = true := decide_eq_true h0
      go_wp2_with fail
      go_ret3
      exact FIN.out _ HX2.out
    · have g0 : decide (i < 0) = false := decide_eq_false h0
      by_cases h1 : i < (ps.length : Int)
      · obtain ⟨j, rfl⟩ : ∃ j : Nat, i = (j : Int) := ⟨i.toNat, by omega⟩
        have hjl : j < ps.length := by omega
        obtain ⟨⟨q, kA, kcap⟩, hp⟩ : ∃ p, ps[j]? = some p := ⟨_, List.getElem?_eq_getElem hjl⟩
        obtain ⟨bA, off, rfl, hbA, hcell⟩ := (S.out.ext HX2.out).parts (by omega)
        obtain ⟨d0, d1, d2, d3, d4, d5, d6, d7⟩ := hcell j _ hp
        dsimp only at d0 d1 d2 d3 d4 d5 d6 d7
        have hk1 : ¬ q.kind = 1 := fun h => HN.out ⟨HM.out.1 rfl, j, q, rfl, nds_get hp, .inl h⟩
        have hk2 : ¬ q.kind = 2 := fun h => HN.out ⟨HM.out.1 rfl, j, q, rfl, nds_get hp, .inr h⟩
        have e1 : decide (q.kind = 1) = false := decide_eq_false hk1
        have e2 : decide (q.kind = 2) = false := decide_eq_false hk2
        clear hcell hp h0 h1
        go_wp2_with fail
        go_ret3
        exact FIN.out _ HX2.out
      · have g1 : decide (i < (ps.length : Int)) = false := decide_eq_false h1
        go_wp2_with fail
        go_ret3
        exact FIN.out _ HX2.out
set_option maxRecDepth 100000 in
set_option maxHeartbeats 2000000 in
theorem run_root (j : Nat) (q : Nd) (terms : Int) (h : PS w A c ps) (hm : MayOk (nds ps)) (hq : (nds ps)[j]? = some q) (hk : q.kind = 1) : Calls Tryz.prog 30 #[.slice A ps.length c, .int .i64 j, .int .i64 terms] w (RunRet w (-1) 0 (nds ps)) := by
  have S := zh h
  have hl := h.few.len
  have HMY := zh hm
  have CM := zh (fun (V : World) (x : Ext w V) => mayT_any (h.ext x))
  have CC := zh (fun (V : World) (x : Ext w V) => copy_any A c ps V (h.ext x).parts (h.ext x).oks h.few)
  have hjl : j < ps.length := by have := (List.getElem?_eq_some_iff.1 hq).1; rwa [nds_length] at this
  obtain ⟨⟨q', kA, kcap⟩, hp⟩ : ∃ p, ps[j]? = some p := ⟨_, List.getElem?_eq_getElem hjl⟩
  obtain rfl : q = q' := by rw [nds_get hp] at hq; injection hq with hq; exact hq.symm
  have HPP := zh hp
  have g0 : decide ((j : Int) < 0) = false := decide_eq_false (by omega)
  have g1 : decide (ps.length ≤ j) = false := decide_eq_false (by omega)
  clear h hm hq hp
  go_enter Tryz.func30, Tryz.ntmps30
  go_wp2_with fail
  refine (CM.out _ (Ext.refl _)).mono ?_
  rintro e w2 ⟨bm, rfl, hbm, hx2⟩
  have HX2 := zh hx2
  obtain rfl : bm = true := hbm.2 HMY.out
  obtain ⟨bA, off, rfl, hbA, hcell⟩ := (S.out.ext hx2).parts (by omega)
  obtain ⟨d0, d1, d2, d3, d4, d5, d6, d7⟩ := hcell j _ HPP.out
  dsimp only at d0 d1 d2 d3 d4 d5 d6 d7
  rw [hk] at d1
  clear hcell hx2 hbm
  go_wp2_with fail
  refine (CC.out _ (HX2.out.alloc _)).mono ?_
  rintro e w3 ⟨A3, c3, qs, rfl, hn3, ho3, hx3⟩
  have HN3 := zh hn3
  have HO3 := zh ho3
  have HX3 := zh hx3
  clear hn3 ho3 hx3
  go_wp2_with fail
  go_ret3
  exact RunRet.of HN3.out HO3.out (HX2.out.alloc _) HX3.out
set_option maxRecDepth 100000 in
set_option maxHeartbeats 2000000 in
theorem rrun_root (j : Nat) (q : Nd) (terms : Int) (h : PS w A c ps) (hm : MayOk (nds ps)) (hq : (nds ps)[j]? = some q) (hk : q.kind = 1) : Calls Tryz.prog 33 #[.slice A ps.length c, .int .i64 j, .int .i64 terms] w (RunRet w (-1) 0 (nds ps)) := by
  have S := zh h
  have hl := h.few.len
  have HMY := zh hm
  have CM := zh (fun (V : World) (x : Ext w V) => rmayT_any (h.ext x))
  have CC := zh (fun (V : World) (x : Ext w V) => rcopy_any (h.ext x))
  have hjl : j < ps.length := by have := (List.getElem?_eq_some_iff.1 hq).1; rwa [nds_length] at this
  obtain ⟨⟨q', kA, kcap⟩, hp⟩ : ∃ p, ps[j]? = some p := ⟨_, List.getElem?_eq_getElem hjl⟩
  obtain rfl : q = q' := by rw [nds_get hp] at hq; injection hq with hq; exact hq.symm
  have HPP := zh hp
  have g0 : decide ((j : Int) < 0) = false := decide_eq_false (by omega)
  have g1 : decide (ps.length ≤ j) = false := decide_eq_false (by omega)
  clear h hm hq hp
  go_enter Tryz.func33, Tryz.ntmps33
  go_wp2_with fail
  refine (CM.out _ (Ext.refl _)).mono ?_
  rintro e w2 ⟨bm, rfl, hbm, hx2⟩
  have HX2 := zh hx2
  obtain rfl : bm = true := hbm.2 HMY.out
  obtain ⟨bA, off, rfl, hbA, hcell⟩ := (S.out.ext hx2).parts (by omega)
  obtain ⟨d0, d1, d2, d3, d4, d5, d6, d7⟩ := hcell j _ HPP.out
  dsimp only at d0 d1 d2 d3 d4 d5 d6 d7
  rw [hk] at d1
  clear hcell hx2 hbm
  go_wp2_with fail
  refine (CC.out _ HX2.out).mono ?_
  rintro e w3 ⟨A3, c3, qs, rfl, hn3, ho3, hx3⟩
  have HN3 := zh hn3
  have HO3 := zh ho3
  have HX3 := zh hx3
  clear hn3 ho3 hx3
  go_wp2_with fail
  go_ret3
  exact RunRet.of HN3.out HO3.out HX2.out HX3.out
set_option maxRecDepth 100000 in
set_option maxHeartbeats 2000000 in
theorem run_non (j : Nat) (q : Nd) (terms : Int) (m : Nat) (hpt : Part (nds ps) j m) (h : PS w A c ps) (hm : MayOk (nds ps)) (hq : (nds ps)[j]? = some q) (hk : q.kind = 2) : Calls Tryz.prog 30 #[.slice A ps.length c, .int .i64 j, .int .i64 terms] w (RunRet w (wrap64 (q.sym - terms)) q.lo (subF (nds ps) j m)) := by
  have S := zh h
  have hl := h.few.len
  have HMY := zh hm
  have CM := zh (fun (V : World) (x : Ext w V) => mayT_any (h.ext x))
  have CC := zh (fun (V : World) (x : Ext w V) => Sub_yes j m (h.ext x) hm.1 hpt)
  have hjl : j < ps.length := by have := (List.getElem?_eq_some_iff.1 hq).1; rwa [nds_length] at this
  obtain ⟨⟨q', kA, kcap⟩, hp⟩ : ∃ p, ps[j]? = some p := ⟨_, List.getElem?_eq_getElem hjl⟩
  obtain rfl : q = q' := by rw [nds_get hp] at hq; injection hq with hq; exact hq.symm
  have HPP := zh hp
  have g0 : decide ((j : Int) < 0) = false := decide_eq_false (by omega)
  have g1 : decide (ps.length ≤ j) = false := decide_eq_false (by omega)
  clear h hm hq hp hpt
  go_enter Tryz.func30, Tryz.ntmps30
  go_wp2_with fail
  refine (CM.out _ (Ext.refl _)).mono ?_
  rintro e w2 ⟨bm, rfl, hbm, hx2⟩
  have HX2 := zh hx2
  obtain rfl : bm = true := hbm.2 HMY.out
  obtain ⟨bA, off, rfl, hbA, hcell⟩ := (S.out.ext hx2).parts (by omega)
  obtain ⟨d0, d1, d2, d3, d4, d5, d6, d7⟩ := hcell j _ HPP.out
  dsimp only at d0 d1 d2 d3 d4 d5 d6 d7
  rw [hk] at d1
  clear hcell hx2 hbm
  go_upto_region 8 with fail
  obtain ⟨g, hg⟩ : ∃ g, w2.heap.size = g := ⟨_, rfl⟩
  obtain ⟨W4, hW4⟩ : ∃ V, w2.alloc (.cells #[.int .i64 q.sym, .int .i64 2, .int .i64 q.lo, .int .i64 q.inn, .int .i64 q.hi, .int .i64 q.look, .slice kA q.kids.length kcap, .int .u64 q.met] 34) = V := ⟨_, rfl⟩
  have HX4 : Hid (Ext w W4) := zh (by rw [← hW4]; exact HX2.out.alloc _)
  have hB : W4.heap[g]? = some (.cells #[.int .i64 q.sym, .int .i64 2, .int .i64 q.lo, .int .i64 q.inn, .int .i64 q.hi, .int .i64 q.look, .slice kA q.kids.length kcap, .int .u64 q.met] 34) := by rw [← hW4, ← hg]; exact heap_alloc_new _ _
  have k0 := cell_of_row _ _ 0 _ _ _ hB
  have k2 := cell_of_row _ _ 2 _ _ _ hB
  have kl := lt_of_heap hB
  simp at k0 k2
  rw [hW4, hg]
  clear hW4 hg hB d0 d1 d2 d3 d4 d5 d6 d7
  obtain ⟨tv, htv⟩ : ∃ t, wrap64 (q.sym - terms) = t := ⟨_, rfl⟩
  have hw2 : IntKind.i64.wrap (q.sym - terms) = tv := by rw [IntKind.wrap_i64]; unfold wrap64 at htv; exact htv
  have HTV := zh htv
  refine wp_region_bt (12) (pures_bt [0, 2, 4, 6, 7] (softs_bt [1, 3, 5] (.step 8 (pures_bt [9, 10, 11] .fin)))) (by kernel_rfl) (by kernel_rfl) ?_
  refine bt_pures _ fun K hK => ?_; simp only [pick, nthC]; (repeat go_big_quiet_step (fail)); refine wpQuiet_nil (hK _ ?_); clear hK K
  refine bt_softs _ fun K hK => ?_; simp only [pick, nthC]; (repeat go_big_quiet_step (fail)); refine wpQuiet_nil (hK _ ?_); clear hK K
  refine bt_step fun next hn => ?_; simp only [pick, nthC]
  go_wp2_with fail
  refine (CC.out _ (HX4.out.trans (by repeat first | exact xr _ | refine xa ?_ _ | refine xm ?_ _ _ | refine xd ?_ | refine xn ?_ _ | refine xs ?_ (by simp <;> omega) _))).mono ?_
  rintro e w3 ⟨A3, c3, qs, rfl, hn3, ho3, hx3⟩
  have HN3 := zh hn3
  have HO3 := zh ho3
  have HX3 := zh hx3
  have HX43 := zh (((by repeat first | exact xr _ | refine xa ?_ _ | refine xm ?_ _ _ | refine xd ?_ | refine xn ?_ _ | refine xs ?_ (by simp <;> omega) _) : Ext W4 W4.drew).trans hx3)
  clear hn3 ho3 hx3
  go_wp2_with fail
  refine segQ_mk (fun _ => laid HX43.out) (hn _ _ ?_)
  clear hn next
  refine bt_pures _ fun K hK => ?_; simp only [pick, nthC]; (repeat go_big_quiet_step (fail)); refine wpQuiet_nil (hK _ ?_); clear hK K
  (refine bt_fin ?_)
  go_wp2_with fail
  go_ret3
  rw [HTV.out]
  exact RunRet.of HN3.out HO3.out (HX4.out.trans (by repeat first | exact xr _ | refine xa ?_ _ | refine xm ?_ _ _ | refine xd ?_ | refine xn ?_ _ | refine xs ?_ (by simp <;> omega) _)) HX3.out
set_option maxRecDepth 100000 in
set_option maxHeartbeats 2000000 in
theorem rrun_non (j : Nat) (q : Nd) (terms : Int) (m : Nat) (hpt : Part (nds ps) j m) (h : PS w A c ps) (hm : MayOk (nds ps)) (hq : (nds ps)[j]? = some q) (hk : q.kind = 2) : Calls Tryz.prog 33 #[.slice A ps.length c, .int .i64 j, .int .i64 terms] w (RunRet w (wrap64 (q.sym - terms)) q.lo (subF (nds ps) j m)) := by
  have S := zh h
  have hl := h.few.len
  have HMY := zh hm
  have CM := zh (fun (V : World) (x : Ext w V) => rmayT_any (h.ext x))
  have CC := zh (fun (V : World) (x : Ext w V) => rsub_yes j m (h.ext x) hm.1 hpt)
  have hjl : j < ps.length := by have := (List.getElem?_eq_some_iff.1 hq).1; rwa [nds_length] at this
  obtain ⟨⟨q', kA, kcap⟩, hp⟩ : ∃ p, ps[j]? = some p := ⟨_, List.getElem?_eq_getElem hjl⟩
  obtain rfl : q = q' := by rw [nds_get hp] at hq; injection hq with hq; exact hq.symm
  have HPP := zh hp
  have g0 : decide ((j : Int) < 0) = false := decide_eq_false (by omega)
  have g1 : decide (ps.length ≤ j) = false := decide_eq_false (by omega)
  clear h hm hq hp hpt
  go_enter Tryz.func33, Tryz.ntmps33
  go_wp2_with fail
  refine (CM.out _ (Ext.refl _)).mono ?_
  rintro e w2 ⟨bm, rfl, hbm, hx2⟩
  have HX2 := zh hx2
  obtain rfl : bm = true := hbm.2 HMY.out
  obtain ⟨bA, off, rfl, hbA, hcell⟩ := (S.out.ext hx2).parts (by omega)
  obtain ⟨d0, d1, d2, d3, d4, d5, d6, d7⟩ := hcell j _ HPP.out
  dsimp only at d0 d1 d2 d3 d4 d5 d6 d7
  rw [hk] at d1
  clear hcell hx2 hbm
  go_upto_region 7 with fail
  obtain ⟨tv, htv⟩ : ∃ t, wrap64 (q.sym - terms) = t := ⟨_, rfl⟩
  have hw2 : IntKind.i64.wrap (q.sym - terms) = tv := by rw [IntKind.wrap_i64]; unfold wrap64 at htv; exact htv
  have HTV := zh htv
  refine wp_region_bt (18) (pures_bt [0, 1, 2, 3, 5, 7, 8, 9, 10, 12, 13] (softs_bt [4, 6, 11] (.step 14 (pures_bt [15, 16, 17] .fin)))) (by kernel_rfl) (by kernel_rfl) ?_
  refine bt_pures _ fun K hK => ?_; simp only [pick, nthC]; (repeat go_big_quiet_step (fail)); refine wpQuiet_nil (hK _ ?_); clear hK K
  refine bt_softs _ fun K hK => ?_; simp only [pick, nthC]; (repeat go_big_quiet_step (fail)); refine wpQuiet_nil (hK _ ?_); clear hK K
  refine bt_step fun next hn => ?_; simp only [pick, nthC]
  go_wp2_with fail
  refine (CC.out _ (HX2.out.trans (by repeat first | exact xr _ | refine xa ?_ _ | refine xm ?_ _ _ | refine xd ?_ | refine xn ?_ _ | refine xs ?_ (by simp <;> omega) _))).mono ?_
  rintro e w3 ⟨A3, c3, qs, rfl, hn3, ho3, hx3⟩
  have HN3 := zh hn3
  have HO3 := zh ho3
  have HX3 := zh hx3
  have HX43 := zh (((by repeat first | exact xr _ | refine xa ?_ _ | refine xm ?_ _ _ | refine xd ?_ | refine xn ?_ _ | refine xs ?_ (by simp <;> omega) _) : Ext w2 w2.drew).trans hx3)
  clear hn3 ho3 hx3
  go_wp2_with fail
  refine segQ_mk (fun _ => laid HX43.out) (hn _ _ ?_)
  clear hn next
  refine bt_pures _ fun K hK => ?_; simp only [pick, nthC]; (repeat go_big_quiet_step (fail)); refine wpQuiet_nil (hK _ ?_); clear hK K
  (refine bt_fin ?_)
  go_wp2_with fail
  go_ret3
  rw [HTV.out]
  exact RunRet.of HN3.out HO3.out (HX2.out.trans (by repeat first | exact xr _ | refine xa ?_ _ | refine xm ?_ _ _ | refine xd ?_ | refine xn ?_ _ | refine xs ?_ (by simp <;> omega) _)) HX3.out
end
end Go.Proofs.YthpmncdfaggkiaaGreat
namespace Go.Proofs.YthpmncdfaggkiaaGreat
open Go.ChangeShapes Go.WideShapes Go.ChangeAt Go.RowKit
end Go.Proofs.YthpmncdfaggkiaaGreat
namespace Go.Proofs.YthpmncdfaggkiaaGreat
open Go.ChangeShapes Go.WideShapes Go.ChangeAt Go.RowKit Go.Joins Go.Deep
theorem cellsInt : Tryz.prog.cellsOf 3 = 1 := by kernel_rfl
theorem i64_bd {a : Int} (h : (Lit.int .i64 a).wf = true) : -9223372036854775808 ≤ a ∧ a ≤ 9223372036854775807 := by
  simpa [Lit.wf, IntKind.min, IntKind.max, IntKind.signed, IntKind.bits] using h
section
variable {H : Type} {enc : TypeId × Value → H} {W : World} {b0 : Nat} {v : Value} {d : DataW H} {p : List MemPlace}
set_option maxRecDepth 100000 in
theorem open_i64 (hv : Value.okWide Tryz.prog W .any b0 3 v) (h : DataW.Trod enc Tryz.prog W 0 (fun _ => true) true 3 v d p) :
    ∃ a : Int, v = .int .i64 a ∧ -9223372036854775808 ≤ a ∧ a ≤ 9223372036854775807 := by
  obtain ⟨x, rfl, _, _, wx⟩ := open_int Tryz.underlying3 hv h
  exact ⟨x, rfl, i64_bd wx⟩
set_option maxRecDepth 100000 in
theorem ints_cell {n : Nat} {y : DataW H × List MemPlace} (h : DataW.trod enc Tryz.prog W 0 (fun _ => true) true n 31 [v] = some y) :
    ∃ A c xs, v = .slice A xs.length c ∧ Ints W A xs ∧ xs.length ≤ c ∧ c ≤ 9223372036854775807 ∧ (∀ x ∈ xs, -9223372036854775808 ≤ x ∧ x ≤ 9223372036854775807) ∧ (A = none → c = 0) := by
  rcases open_ints Tryz.underlying31 Tryz.underlying3 cellsInt h with ⟨hcs, _⟩ | ⟨a, len, cap, zs, hcs, _, hl, hm, hz, _, hcell, hwz⟩
  · injection hcs with hcs
    exact ⟨none, 0, [], hcs, Ints.nil, by simp, by omega, by simp, fun _ => rfl⟩
  · injection hcs with hcs
    have hz : zs.length = cap := hz
    have hlen : (zs.take len).length = len := by rw [List.length_take]; omega
    refine ⟨some a, cap, zs.take len, by rw [hcs, hlen], ?_, by omega, by unfold maxLen at hm; omega, fun x hx => i64_bd (hwz x (List.mem_of_mem_take hx)), fun h => by cases h⟩
    intro h0
    rw [hlen] at h0
    obtain ⟨b, off, rfl, hc⟩ := ints_at hcell (by omega)
    refine ⟨b, off, rfl, ?_, ?_⟩
    · have := hc 0 (by omega)
      exact World.block_lt_of_cell? _ _ this
    · intro k hk
      rw [hlen] at hk
      rw [hc k (by omega)]
      simp [List.getD_eq_getElem?_getD, hk]
theorem ex_list {α : Type} (n : Nat) (R : Nat → α → Prop) (h : ∀ i, i < n → ∃ x, R i x) : ∃ l : List α, l.length = n ∧ ∀ i x, l[i]? = some x → R i x := by
  induction n with
  | zero => exact ⟨[], rfl, by simp⟩
  | succ n ih =>
    obtain ⟨l, hl, hr⟩ := ih (fun i hi => h i (by omega))
    obtain ⟨x, hx⟩ := h n (by omega)
    refine ⟨l ++ [x], by simp [hl], fun i y hy => ?_⟩
    rw [List.getElem?_append] at hy
    split at hy
    · exact hr i y hy
    · have : i - l.length = 0 := by
        rcases Nat.eq_zero_or_pos (i - l.length) with h0 | h0
        · exact h0
        · rw [List.getElem?_eq_none (by simp; omega)] at hy
          cases hy
      rw [this] at hy
      obtain rfl : x = y := by simpa using hy
      obtain rfl : i = n := by omega
      exact hx
theorem add_plain' (b off i : Nat) : (⟨b, off, none⟩ : Addr).add i = ⟨b, off + i, none⟩ := Go.WideShapes.add_plain b off i
end
theorem cellsPart : Tryz.prog.cellsOf 34 = 8 := by kernel_rfl
theorem u64_bd {a : Int} (h : (Lit.int .u64 a).wf = true) : 0 ≤ a ∧ a ≤ 18446744073709551615 := by
  simpa [Lit.wf, IntKind.min, IntKind.max, IntKind.signed, IntKind.bits] using h
theorem struct_cells2 {H : Type} {enc : TypeId × Value → H} {P : Program} {w : World} {base : Nat} {spare : Nat → Bool} {held : Bool} {e : TypeId} {fs : Array Field} {n : Nat} {a : Addr} {cs : List Value} {x : DataW H × List MemPlace} (he : P.underlying e = some (.struct fs)) (hone : oneCellFields P fs = true)
    (hsz : P.cellsOf e = fs.size) (hc : w.cells? base a (P.cellsOf e) = some cs) (ht : DataW.trod enc P w base spare held n e cs = some x) (j : Nat) (f : Field) (hj : fs[j]? = some f) :
    ∃ (m : Nat) (v : Value) (y : DataW H × List MemPlace), w.cell? (a.add j) = some v ∧ DataW.trod enc P w base spare held m f.type [v] = some y ∧ ∀ k ∈ y.1.weights P f.type, k ∈ x.1.weights P e := by
  obtain ⟨ys, m, hm, hx, _, hyl, hf⟩ := DataW.trod_struct he ht
  obtain ⟨_, hcl, hat⟩ := World.cells?_some hc
  obtain ⟨ho, hk⟩ := hone_of hone j f hj
  have hjl : j < fs.size := (Array.getElem?_eq_some_iff.1 hj).1
  have hjc : j < cs.length := by omega
  have h1 := hf j f hj
  rw [ho, hk, List.drop_eq_getElem_cons hjc] at h1
  refine ⟨m, cs[j], ys[j]'(by omega), ?_, ?_, ?_⟩
  · exact (hat j (by omega)).trans (List.getElem?_eq_getElem hjc)
  · exact h1.trans (List.getElem?_eq_getElem (by omega))
  · intro k hk
    rw [hx]
    simp only [DataW.weights, he]
    refine DataW.weights_mem_each (j := j) (t := f.type) (d := (ys[j]'(by omega)).1) ?_ ?_ k hk
    · rw [List.getElem?_map, Array.getElem?_toList, hj]
      rfl
    · rw [List.getElem?_map, List.getElem?_eq_getElem (by omega)]
      rfl
theorem weights_elem {H : Type} {P : Program} {e : TypeId} : ∀ {l : List (DataW H)} {d : DataW H}, d ∈ l → ∀ k ∈ d.weights P e, k ∈ DataW.weightsAll P e l
  | d0 :: l, d, hd, k, hk => by
    simp only [DataW.weightsAll, List.mem_append]
    rcases List.mem_cons.1 hd with rfl | hd
    · exact .inl hk
    · exact .inr (weights_elem hd k hk)
set_option maxRecDepth 100000 in
theorem ints_cellS {H : Type} {enc : TypeId × Value → H} {W : World} {v : Value} {n : Nat} {y : DataW H × List MemPlace} (h : DataW.trod enc Tryz.prog W 0 (fun _ => true) true n 31 [v] = some y) (hw : ∀ k ∈ y.1.weights Tryz.prog 31, k ≤ reachBytes) :
    ∃ A c xs, v = .slice A xs.length c ∧ Ints W A xs ∧ xs.length ≤ c ∧ c ≤ 9223372036854775807 ∧ (∀ x ∈ xs, -9223372036854775808 ≤ x ∧ x ≤ 9223372036854775807) ∧ (A = none → c = 0) ∧ xs.length ≤ 140737488355328 := by
  obtain ⟨A, c, xs, rfl, h1, h2, h3, h4, h5⟩ := ints_cell h
  refine ⟨A, c, xs, rfl, h1, h2, h3, h4, h5, ?_⟩
  rcases open_ints Tryz.underlying31 Tryz.underlying3 cellsInt h with ⟨hcs, _⟩ | ⟨a, len, cap, zs, hcs, _, hl, hm, hz, hy, _, _⟩
  · injection hcs with hcs
    injection hcs with _ hcs _
    omega
  · injection hcs with hcs
    injection hcs with _ hcs _
    have hz : zs.length = cap := hz
    have hb : Tryz.prog.bytesOf 3 = 8 := by kernel_rfl
    rw [hy] at hw
    have hll : (lits IntKind.i64 (zs.take len) : List (DataW H)).length = len := by simp [lits]; omega
    have := hw (((lits IntKind.i64 (zs.take len) : List (DataW H)).length + (lits IntKind.i64 (zs.drop len) : List (DataW H)).length) * Tryz.prog.bytesOf 3) (by simp [DataW.weights, Tryz.underlying31])
    rw [hb, hll] at this
    have hr := reachBytes_lt
    omega
section
variable {H : Type} {enc : TypeId × Value → H} {W : World} {b0 : Nat} {v : Value} {d : DataW H} {p : List MemPlace}
set_option maxRecDepth 100000 in
theorem open_partsS (hv : Value.okWide Tryz.prog W .any b0 22 v) (h : DataW.Trod enc Tryz.prog W 0 (fun _ => true) true 22 v d p) (hw : ∀ k ∈ d.weights Tryz.prog 22, k ≤ reachBytes) :
    ∃ A c ps, v = .slice A (ps : List Prt).length c ∧ Prts W A ps ∧ PrtsOk W ps ∧ ps.length ≤ c ∧ c ≤ 9223372036854775807 ∧ (A = none → c = 0) ∧ (∀ p ∈ ps, p.nd.kids.length ≤ 140737488355328) := by
  obtain ⟨A0, len0, cap0, rfl⟩ := okWide_slice Tryz.underlying22 hv
  obtain ⟨fuel, hf⟩ := h
  rcases open_slice Tryz.underlying22 (show DataW.trod enc Tryz.prog W 0 (fun _ => true) true fuel 22 [.slice A0 len0 cap0] = _ by simpa [Value.cells] using hf) with ⟨hcs, _⟩ | ⟨a, len, cap, m, n, D, Pl, hcs, _, hl, hm, hmm, hxd, hcell⟩
  · injection hcs with hcs
    exact ⟨none, 0, [], hcs, Prts.nil, (fun s hs => by simp at hs), by simp, by omega, fun _ => rfl, fun s hs => by simp at hs⟩
  · injection hcs with hcs
    have hmm : m = cap := hmm
    obtain ⟨ss, hlen, hss⟩ := ex_list len (fun i (s : Prt) => W.cell? ((a.add (i * 8)).add 0) = some (.int .i64 s.nd.sym) ∧ W.cell? ((a.add (i * 8)).add 1) = some (.int .i64 s.nd.kind) ∧
        W.cell? ((a.add (i * 8)).add 2) = some (.int .i64 s.nd.lo) ∧ W.cell? ((a.add (i * 8)).add 3) = some (.int .i64 s.nd.inn) ∧ W.cell? ((a.add (i * 8)).add 4) = some (.int .i64 s.nd.hi) ∧
        W.cell? ((a.add (i * 8)).add 5) = some (.int .i64 s.nd.look) ∧ W.cell? ((a.add (i * 8)).add 6) = some (.slice s.kA s.nd.kids.length s.kc) ∧ W.cell? ((a.add (i * 8)).add 7) = some (.int .u64 s.nd.met) ∧ PrtOk W s ∧ s.nd.kids.length ≤ 140737488355328) (by
      intro i hi
      obtain ⟨cs', hc', ht'⟩ := hcell i (by omega)
      have hf := struct_cells2 Tryz.underlying34 (by kernel_rfl) cellsPart hc' ht'
      obtain ⟨n0, v0, y0, c0, t0, m0⟩ := hf 0 _ rfl
      obtain ⟨n1, v1, y1, c1, t1, m1⟩ := hf 1 _ rfl
      obtain ⟨n2, v2, y2, c2, t2, m2⟩ := hf 2 _ rfl
      obtain ⟨n3, v3, y3, c3, t3, m3⟩ := hf 3 _ rfl
      obtain ⟨n4, v4, y4, c4, t4, m4⟩ := hf 4 _ rfl
      obtain ⟨n5, v5, y5, c5, t5, m5⟩ := hf 5 _ rfl
      obtain ⟨n6, v6, y6, c6, t6, m6⟩ := hf 6 _ rfl
      obtain ⟨n7, v7, y7, c7, t7, m7⟩ := hf 7 _ rfl
      rw [cellsPart] at c0 c1 c2 c3 c4 c5 c6 c7
      obtain ⟨x0, e0, _, w0⟩ := DataW.trod_int Tryz.underlying3 t0
      obtain ⟨x1, e1, _, w1⟩ := DataW.trod_int Tryz.underlying3 t1
      obtain ⟨x2, e2, _, w2⟩ := DataW.trod_int Tryz.underlying3 t2
      obtain ⟨x3, e3, _, w3⟩ := DataW.trod_int Tryz.underlying3 t3
      obtain ⟨x4, e4, _, w4⟩ := DataW.trod_int Tryz.underlying3 t4
      obtain ⟨x5, e5, _, w5⟩ := DataW.trod_int Tryz.underlying3 t5
      obtain ⟨A, c, xs, rfl, hI, hx1, hx2, hx3, hx4, hx5⟩ := ints_cellS t6 (fun k hk => hw k (by rw [show d = _ from congrArg Prod.fst hxd]; simp only [DataW.weights, Tryz.underlying22]; exact List.mem_cons_of_mem _ (List.mem_append_left _ (weights_elem (List.mem_map.2 ⟨i, List.mem_range.2 hi, rfl⟩) k (m6 k hk)))))
      obtain ⟨x7, e7, _, w7⟩ := DataW.trod_int Tryz.underlying32 t7
      simp at e0 e1 e2 e3 e4 e5 e7
      subst e0 e1 e2 e3 e4 e5 e7
      exact ⟨⟨⟨x0, x1, x2, x3, x4, x5, xs, x7⟩, A, c⟩, c0, c1, c2, c3, c4, c5, c6, c7, ⟨hI, hx1, hx2, hx4, i64_bd w0, i64_bd w1, i64_bd w2, i64_bd w3, i64_bd w4, i64_bd w5, u64_bd w7, hx3⟩, hx5⟩)
    refine ⟨some a, cap, ss, by rw [hcs, hlen], ?_, ?_, by omega, by unfold maxLen at hm; omega, (fun h => by cases h), ?_⟩
    · intro h0
      obtain ⟨s, hs⟩ : ∃ s, ss[0]? = some s := ⟨_, List.getElem?_eq_getElem h0⟩
      have h1 := (hss 0 s hs).1
      obtain ⟨b, off, spot⟩ := a
      have hspot : spot = none := by simpa [Addr.add] using World.cell?_spot h1
      subst hspot
      refine ⟨b, off, rfl, ?_, ?_⟩
      · simp only [add_plain'] at h1
        exact World.block_lt_of_cell? _ _ h1
      · intro k s hk
        obtain ⟨g0, g1, g2, g3, g4, g5, g6, g7, _⟩ := hss k s hk
        simp only [add_plain'] at g0 g1 g2 g3 g4 g5 g6 g7
        exact ⟨g0, g1, g2, g3, g4, g5, g6, g7⟩
    · intro s hs
      obtain ⟨i, hi, rfl⟩ := List.getElem_of_mem hs
      exact (hss i _ (List.getElem?_eq_getElem hi)).2.2.2.2.2.2.2.2.1
    · intro s hs
      obtain ⟨i, hi, rfl⟩ := List.getElem_of_mem hs
      exact (hss i _ (List.getElem?_eq_getElem hi)).2.2.2.2.2.2.2.2.2
end
end Go.Proofs.YthpmncdfaggkiaaGreat
namespace Go.Proofs.YthpmncdfaggkiaaGreat
open Go.RowKit
attribute [local go_sem] more_drew more_drewN more_size more_cell more_frozen more_setCell drew_more drewN_more lt_add_r lt_add_r2 lt_add_r3 lt_add_r4 lt_add_r5 lt_add_r6 lt_add_r7 lt_add_r8 lt_add_r9 lt_add_r10 lt_self_r lt_self_r2
theorem light25_any (A : Option Addr) (c : Nat) (ps : List Prt) (w : World) (h : Prts w A ps) (hc : ps.length ≤ 9223372036854775807) (hk : KidsLt ps) : Calls Tryz.prog 12 #[.slice A ps.length c] w (LightRet 100 ps w) := by
  have HC := zh (lightParts_any 100 A c ps w (by omega) h hc hk)
  clear h hk
  go_enter Tryz.func12, Tryz.ntmps12
  go_wp2_with fail
  refine HC.out.mono ?_
  rintro e w1 ⟨b, rfl, hb, hx1⟩
  have HX1 := zh hx1
  have HB := zh hb
  clear hx1 hb
  go_wp2_with fail
  go_ret
  exact ⟨b, rfl, HB.out, HX1.out⟩
end Go.Proofs.YthpmncdfaggkiaaGreat
namespace Go.Proofs.YthpmncdfaggkiaaGreat
open Go.ChangeShapes Go.WideShapes Go.ChangeAt Go.RowKit Go.Joins Go.Deep
structure DtB (d : Dty) : Prop where
  slot : I64 d.slot
  lo : I64 d.lo
  hi : I64 d.hi
  age : I64 d.age
  level : I64 d.level
theorem cellsDirty : Tryz.prog.cellsOf 26 = 5 := by kernel_rfl
theorem cellsSpan : Tryz.prog.cellsOf 24 = 2 := by kernel_rfl
section
variable {H : Type} {enc : TypeId × Value → H} {W : World} {b0 : Nat} {v : Value} {d : DataW H} {p : List MemPlace}
theorem list5 {α : Type} {l : List α} (h : l.length = 5) : ∃ a b c d e, l = [a, b, c, d, e] := by
  match l, h with
  | [a, b, c, d, e], _ => exact ⟨a, b, c, d, e, rfl⟩
theorem list4 {α : Type} {l : List α} (h : l.length = 4) : ∃ a b c d, l = [a, b, c, d] := by
  match l, h with
  | [a, b, c, d], _ => exact ⟨a, b, c, d, rfl⟩
theorem list2 {α : Type} {l : List α} (h : l.length = 2) : ∃ a b, l = [a, b] := by
  match l, h with
  | [a, b], _ => exact ⟨a, b, rfl⟩
set_option maxRecDepth 100000 in
theorem dirty_cells {n : Nat} {cs : List Value} {x : DataW H × List MemPlace} (hl : cs.length = 5) (ht : DataW.trod enc Tryz.prog W 0 (fun _ => true) true n 26 cs = some x) :
    ∃ d : Dty, cs = dyCells d ∧ DtB d := by
  obtain ⟨v0, v1, v2, v3, v4, rfl⟩ := list5 hl
  obtain ⟨ys, m, _, _, _, hyl, hf⟩ := DataW.trod_struct Tryz.underlying26 ht
  obtain ⟨y0, y1, y2, y3, rfl⟩ := list4 (show ys.length = 4 from hyl)
  have t0 := hf 0 _ rfl
  have t1 := hf 1 _ rfl
  have t2 := hf 2 _ rfl
  have t3 := hf 3 _ rfl
  clear hf
  simp only [List.getElem_toArray, List.getElem_cons_zero, List.getElem_cons_succ] at t0 t1 t2 t3
  rw [cellsInt] at t0 t2 t3
  rw [cellsSpan] at t1
  simp only [List.drop_zero, List.drop_succ_cons, List.take_succ_cons, List.take_zero, List.getElem?_cons_zero, List.getElem?_cons_succ] at t0 t1 t2 t3
  obtain ⟨x0, e0, _, w0⟩ := DataW.trod_int Tryz.underlying3 t0
  obtain ⟨x3, e3, _, w3⟩ := DataW.trod_int Tryz.underlying3 t2
  obtain ⟨x4, e4, _, w4⟩ := DataW.trod_int Tryz.underlying3 t3
  obtain ⟨zs, m', _, _, _, hzl, hg⟩ := DataW.trod_struct Tryz.underlying24 t1
  obtain ⟨z0, z1, rfl⟩ := list2 (show zs.length = 2 from hzl)
  have s0 := hg 0 _ rfl
  have s1 := hg 1 _ rfl
  clear hg
  simp only [List.getElem_toArray, List.getElem_cons_zero, List.getElem_cons_succ] at s0 s1
  rw [cellsInt] at s0 s1
  simp only [List.drop_zero, List.drop_succ_cons, List.take_succ_cons, List.take_zero, List.getElem?_cons_zero, List.getElem?_cons_succ] at s0 s1
  obtain ⟨x1, e1, _, w1⟩ := DataW.trod_int Tryz.underlying3 s0
  obtain ⟨x2, e2, _, w2⟩ := DataW.trod_int Tryz.underlying3 s1
  simp at e0 e1 e2 e3 e4
  subst e0 e1 e2 e3 e4
  exact ⟨⟨x0, x1, x2, x3, x4⟩, rfl, i64_bd w0, i64_bd w1, i64_bd w2, i64_bd w3, i64_bd w4⟩
end
end Go.Proofs.YthpmncdfaggkiaaGreat
namespace Go.Proofs.YthpmncdfaggkiaaGreat
open Go.RowKit
attribute [local go_sem] more_drew more_drewN more_size more_cell more_frozen more_setCell drew_more drewN_more lt_add_r lt_add_r2 lt_add_r3 lt_add_r4 lt_add_r5 lt_add_r6 lt_add_r7 lt_add_r8 lt_add_r9 lt_add_r10 lt_self_r lt_self_r2
theorem TellsB.both' {X : Prop} {w1 : World} {b : Bool} {e : Ending} {w' : World} (hb : b = true ↔ X) (h : TellsB w1 X e w') : e = .returned (.bool b) ∧ Ext w1 w' := by
  obtain ⟨b', rfl, hb', hx⟩ := h
  exact ⟨by rw [Bool.eq_iff_iff.2 (hb'.trans hb.symm)], hx⟩
theorem run_pair (l : List Nd) (i terms : Int) : ∃ a b o, o.length ≤ l.length ∧ (∀ w A c ps, PS w A c ps → nds ps = l → Calls Tryz.prog 30 #[.slice A ps.length c, .int .i64 i, .int .i64 terms] w (RunRet w a b o)) ∧
    ∀ w A c ps, PS w A c ps → nds ps = l → Calls Tryz.prog 33 #[.slice A ps.length c, .int .i64 i, .int .i64 terms] w (RunRet w a b o) := by
  by_cases hm : MayOk l ∧ InnerAt l i
  · obtain ⟨hm, j, p, rfl, hp, hk | hk⟩ := hm
    · exact ⟨-1, 0, l, Nat.le_refl _, fun w A c ps h e => by subst e; exact run_root j p terms h hm hp hk, fun w A c ps h e => by subst e; exact rrun_root j p terms h hm hp hk⟩
    · obtain ⟨m, hpt⟩ := hm.1.part (List.getElem?_eq_some_iff.1 hp).1
      exact ⟨wrap64 (p.sym - terms), p.lo, subF l j m, by have := len_sub (i := j) hpt.le; have := hpt.le; omega, fun w A c ps h e => by subst e; exact run_non j p terms m hpt h hm hp hk, fun w A c ps h e => by subst e; exact rrun_non j p terms m hpt h hm hp hk⟩
  · exact ⟨-2, 0, [], Nat.zero_le _, fun w A c ps h e => by subst e; exact run_no i terms h hm, fun w A c ps h e => by subst e; exact rrun_no i terms h hm⟩
theorem base_pair (l : List Nd) (d : Dty) : ∃ x : Int, (∀ w A c ps, PS w A c ps → nds ps = l → Calls Tryz.prog 14 #[.slice A ps.length c, dyV d] w fun e w' => e = .returned (.int .i64 x) ∧ Ext w w') ∧
    ∀ w A c ps, PS w A c ps → nds ps = l → Calls Tryz.prog 34 #[.slice A ps.length c, dyV d] w fun e w' => e = .returned (.int .i64 x) ∧ Ext w w' := by
  by_cases hm : MayOk l
  · obtain ⟨b, hb⟩ := BaseR.ex hm.1 d l.length 0 (by omega) hm.pos
    exact ⟨b, fun w A c ps h e => by subst e; exact base_yes d b h hm hb, fun w A c ps h e => by subst e; exact rbase_yes d b h hm hb⟩
  · exact ⟨0, fun w A c ps h e => by subst e; exact base_no d h hm, fun w A c ps h e => by subst e; exact rbase_no d h hm⟩
open Classical in
theorem ParOk.ex (l : List Nd) (T : Tree l) : ∃ us, ParOk l us := by
  refine ⟨(List.range l.length).map fun i => if h : ∃ j : Nat, Up l i j then (h.choose : Int) else -1, by simp, ?_, fun i j hu => ?_⟩
  · rw [List.getElem?_map, List.getElem?_range T.pos]
    simp only [Option.map_some]
    rw [dif_neg]
    rintro ⟨j, hj⟩
    have := T.up_lt hj
    omega
  · have hi := (T.up_lt hu).2
    rw [List.getElem?_map, List.getElem?_range hi]
    simp only [Option.map_some]
    have h : ∃ j : Nat, Up l i j := ⟨j, hu⟩
    rw [dif_pos h, T.up_one h.choose_spec hu]
theorem target_pair (l : List Nd) (d : Dty) (up : Int) (ht : I64 d.level) : ∃ x : Int, TargetOk l d up x ∧ (∀ w A c ps, PS w A c ps → nds ps = l → Calls Tryz.prog 17 #[.slice A ps.length c, dyV d, .int .i64 up] w fun e w' => e = .returned (.int .i64 x) ∧ Ext w w') ∧
    ∀ w A c ps, PS w A c ps → nds ps = l → Calls Tryz.prog 35 #[.slice A ps.length c, dyV d, .int .i64 up] w fun e w' => e = .returned (.int .i64 x) ∧ Ext w w' := by
  by_cases hm : MayOk l ∧ d.level < up
  · obtain ⟨b, hb⟩ := BaseR.ex hm.1.1 d l.length 0 (by omega) hm.1.pos
    obtain ⟨us, hu⟩ := ParOk.ex l hm.1.1
    have hT : TargetOk l d up (climbF us d.level.toNat b) := ⟨fun _ _ => ⟨us, b, hu, hb, rfl⟩, fun h => absurd hm h⟩
    exact ⟨_, hT, fun w A c ps h e => by subst e; exact target_yes d up _ h hm.1 hm.2 hT ht, fun w A c ps h e => by subst e; exact rtarget_yes d up _ h hm.1 hm.2 hT ht⟩
  · exact ⟨0, ⟨fun a b => absurd ⟨a, b⟩ hm, fun _ => rfl⟩, fun w A c ps h e => by subst e; exact target_no d up h hm, fun w A c ps h e => by subst e; exact rtarget_no d up h hm⟩
set_option maxRecDepth 100000 in
set_option maxHeartbeats 4000000 in
theorem targetCalls_any (A : Option Addr) (c : Nat) (ps : List Prt) (d : Dty) (i up terms : Int) (W : World) (hP : Prts W A ps) (hO : PrtsOk W ps) (hl : ps.length ≤ c) (hc : c ≤ 9223372036854775807) (hA : A = none → c = 0) (hk : KidsLt ps) (hd : DtB d) :
    Calls Tryz.prog 7 #[.slice A ps.length c, dyV d, .int .i64 i, .int .i64 up, .int .i64 terms] W fun e w' => e = .returned (.bool true) ∧ Ext W w' := by
  have HP := zh hP
  have HO := zh hO
  have HK := zh hk
  have HA := zh hA
  have HD := zh hd
  obtain ⟨bv, cb1, cb2⟩ := base_pair (nds ps) d
  obtain ⟨tv, _, ct1, ct2⟩ := target_pair (nds ps) d up hd.level
  obtain ⟨ra, rb, ro, hro, cr1, cr2⟩ := run_pair (nds ps) i terms
  obtain ⟨hv, hhv⟩ : ∃ b : Bool, b = true ↔ HoldsOk (nds ps) i d := by
    by_cases h : HoldsOk (nds ps) i d
    · exact ⟨true, by simp [h]⟩
    · exact ⟨false, by simp [h]⟩
  have ch1 : ∀ w, PS w A c ps → Calls Tryz.prog 31 #[.slice A ps.length c, .int .i64 i, dyV d] w fun e w' => e = .returned (.bool hv) ∧ Ext w w' := fun w h => (holds_any i d h).mono fun e w' h => TellsB.both' hhv h
  have ch2 : ∀ w, PS w A c ps → Calls Tryz.prog 36 #[.slice A ps.length c, .int .i64 i, dyV d] w fun e w' => e = .returned (.bool hv) ∧ Ext w w' := fun w h => (rholds_any i d h).mono fun e w' h => TellsB.both' hhv h
  obtain ⟨slot, lo, hi', age, level⟩ := d
  unfold dyV at cb1 cb2 ct1 ct2 ch1 ch2 ⊢
  dsimp only at cb1 cb2 ct1 ct2 ch1 ch2 ⊢
  have B1 := zh cb1
  have B2 := zh cb2
  have T1 := zh ct1
  have T2 := zh ct2
  have R1 := zh cr1
  have R2 := zh cr2
  have H1 := zh ch1
  have H2 := zh ch2
  have HRO := zh hro
  have eb : (bv == bv) = true := by simp
  have et : (tv == tv) = true := by simp
  have eh : (hv == hv) = true := by simp
  have ea : (ra == ra) = true := by simp
  have er : (rb == rb) = true := by simp
  clear hP hO hk hA hd cb1 cb2 ct1 ct2 cr1 cr2 ch1 ch2 hhv hro
  go_enter Tryz.func7, Tryz.ntmps7
  go_upto_region 1 with fail
  obtain ⟨b, hb⟩ : ∃ b, W.heap.size = b := ⟨_, rfl⟩
  obtain ⟨W1, hW1⟩ : ∃ W1, W.alloc (.cells #[.int .i64 slot, .int .i64 lo, .int .i64 hi', .int .i64 age, .int .i64 level] 26) = W1 := ⟨_, rfl⟩
  have X1 : Hid (Ext W W1) := zh (by rw [← hW1]; exact (by repeat first | exact xr _ | refine xa ?_ _ | refine xm ?_ _ _ | refine xd ?_ | refine xn ?_ _ | refine xs ?_ (by simp <;> omega) _))
  have G1 : W1.heap[b]? = some (.cells #[.int .i64 slot, .int .i64 lo, .int .i64 hi', .int .i64 age, .int .i64 level] 26) := by rw [← hW1, ← hb]; exact heap_alloc_new _ _
  rw [hW1, hb]
  have HG := zh G1
  clear hW1 hb G1
  go_wp2_with fail
  refine (lives25_any W1).mono ?_
  rintro e w1 ⟨rfl, hx1⟩
  have HX11 := zh hx1
  have HX1 := zh (X1.out.trans hx1)
  clear hx1
  go_wp2_with fail
  refine (light25_any A c ps w1 (HP.out.ext HX1.out) (by omega) HK.out).mono ?_
  rintro e w2 ⟨bl, rfl, hbl, hx2⟩
  have HX12 := zh (HX11.out.trans hx2)
  have HX2 := zh (HX1.out.trans hx2)
  clear hx2
  cases bl with
  | false =>
    go_wp2_with fail
    go_ret
    exact ⟨rfl, HX2.out⟩
  | true =>
    have hL := hbl rfl
    have S : Hid (PS W A c ps) := ⟨HP.out, HO.out, hL.few (by omega), hl, hc, HA.out⟩
    have hlen := hL.len
    clear hbl hL HP HO HK
    by_cases h1 : 1048576 < terms
    · have g1 : decide (1048576 < terms) = true := decide_eq_true h1
      go_wp2_with fail
      go_ret
      exact ⟨rfl, HX2.out⟩
    · have g1 : decide (1048576 < terms) = false := decide_eq_false h1
      by_cases h2 : terms < -1048576
      · have g2 : decide (terms < -1048576) = true := decide_eq_true h2
        go_wp2_with fail
        go_ret
        exact ⟨rfl, HX2.out⟩
      · have g2 : decide (terms < -1048576) = false := decide_eq_false h2
        clear h1 h2
        go_wp2_with fail
        refine (ownParts A c ps w2 (S.out.ext HX2.out).parts (S.out.ext HX2.out).oks S.out.few hl HA.out).mono ?_
        rintro e w3 ⟨A3, c3, qs, rfl, hn3, ho3, hx3⟩
        have HX13 := zh (HX12.out.trans hx3)
        have HX3 := zh (HX2.out.trans hx3)
        have P3 := zh (ho3.ps (S.out.few.of_lens (by rw [hn3])))
        have HN3 := zh hn3
        clear hn3 ho3 hx3
        go_wp2_with fail
        refine (R1.out _ _ _ _ P3.out HN3.out).mono ?_
        rintro e w4 ⟨A4, c4, q4, rfl, hn4, ho4, hx4⟩
        have HX14 := zh (HX13.out.trans hx4)
        have HX4 := zh (HX3.out.trans hx4)
        have HN4 := zh hn4
        have HO4 := zh ho4
        clear hn4 ho4 hx4
        go_wp2_with fail
        refine (R2.out _ _ _ _ (S.out.ext HX4.out) rfl).mono ?_
        rintro e w5 ⟨A5, c5, q5, rfl, hn5, ho5, hx5⟩
        have HX15 := zh (HX14.out.trans hx5)
        have HX5 := zh (HX4.out.trans hx5)
        have HN5 := zh hn5
        have HO5 := zh ho5
        have HO4' := zh (HO4.out.ext hx5)
        clear hn5 ho5 hx5 HO4
        have CS : Hid (∀ V, Ext w5 V → Calls Tryz.prog 37 #[.slice A4 q4.length c4, .slice A5 q5.length c5] V fun e w' => e = .returned (.bool true) ∧ Ext V w') := zh fun V x => by
          have h45 : nds q4 = nds q5 := HN4.out.trans HN5.out.symm
          have := rsame_any A4 A5 q4 q5 c4 c5 V (HO4'.out.ext x).cells.1 (HO4'.out.ext x).oks (HO5.out.ext x).cells.1 (HO5.out.ext x).oks (by rw [← nds_length, HN4.out]; have := HRO.out; rw [nds_length] at this; omega) (by rw [← nds_length, HN5.out]; have := HRO.out; rw [nds_length] at this; omega)
          rwa [decide_eq_true h45] at this
        obtain ⟨k0, k1, k2, k3, k4, kl⟩ := dy_cells (d := ⟨slot, lo, hi', age, level⟩) (ext_block HG.out HX15.out)
        dsimp only at k0 k1 k2 k3 k4
        go_upto_region 7 with fail
        refine wp_region_bt (45) (pures_bt [0, 3] (softs_bt [1, 4] (.step 2 (.step 5 (pures_bt [6, 7, 8, 10, 12, 14] (softs_bt [9, 13] (.step 11 (.step 15 (pures_bt [16, 17, 18, 19, 20, 23, 24] (softs_bt [21, 25] (.step 22 (.step 26 (pures_bt [27, 28, 29, 30, 31, 32, 33, 34, 35, 36, 37, 38, 39, 40, 41] (.step 42 (pures_bt [43, 44] .fin))))))))))))))) (by kernel_rfl) (by kernel_rfl) ?_
        refine bt_pures _ fun K hK => ?_; simp only [pick, nthC]; (repeat go_big_quiet_step (fail)); refine wpQuiet_nil (hK _ ?_); clear hK K
        refine bt_softs _ fun K hK => ?_; simp only [pick, nthC]; (repeat go_big_quiet_step (fail)); refine wpQuiet_nil (hK _ ?_); clear hK K
        refine bt_step fun next hn => ?_; simp only [pick, nthC]
        go_wp2_with fail
        refine (B1.out _ _ _ _ (S.out.ext (HX5.out.trans ((by repeat first | exact xr _ | refine xa ?_ _ | refine xm ?_ _ _ | refine xd ?_ | refine xn ?_ _ | refine xs ?_ (by simp <;> omega) _) : Ext w5 w5.drew))) rfl).mono ?_
        rintro e w21 ⟨rfl, hx⟩
        have V1 : Hid (Ext w5 w21) := zh (((by repeat first | exact xr _ | refine xa ?_ _ | refine xm ?_ _ _ | refine xd ?_ | refine xn ?_ _ | refine xs ?_ (by simp <;> omega) _) : Ext w5 w5.drew).trans hx)
        clear hx
        go_wp2_with fail
        refine segQ_mk (fun _ => laid V1.out) (hn _ _ ?_)
        clear hn next
        refine bt_step fun next hn => ?_; simp only [pick, nthC]
        go_wp2_with fail
        refine (B2.out _ _ _ _ (S.out.ext (HX5.out.trans V1.out)) rfl).mono ?_
        rintro e w22 ⟨rfl, hx⟩
        have V2 : Hid (Ext w5 w22) := zh (V1.out.trans hx)
        clear hx
        go_wp2_with fail
        refine segQ_mk (fun _ => laid V2.out) (hn _ _ ?_)
        clear hn next
        refine bt_pures _ fun K hK => ?_; simp only [pick, nthC]; (repeat go_big_quiet_step (fail)); refine wpQuiet_nil (hK _ ?_); clear hK K
        refine bt_softs _ fun K hK => ?_; simp only [pick, nthC]; (repeat go_big_quiet_step (fail)); refine wpQuiet_nil (hK _ ?_); clear hK K
        refine bt_step fun next hn => ?_; simp only [pick, nthC]
        go_wp2_with fail
        refine (T1.out _ _ _ _ (S.out.ext (HX5.out.trans V2.out)) rfl).mono ?_
        rintro e w23 ⟨rfl, hx⟩
        have V3 : Hid (Ext w5 w23) := zh (V2.out.trans hx)
        clear hx
        go_wp2_with fail
        refine segQ_mk (fun _ => laid V3.out) (hn _ _ ?_)
        clear hn next
        refine bt_step fun next hn => ?_; simp only [pick, nthC]
        go_wp2_with fail
        refine (T2.out _ _ _ _ (S.out.ext (HX5.out.trans V3.out)) rfl).mono ?_
        rintro e w24 ⟨rfl, hx⟩
        have V4 : Hid (Ext w5 w24) := zh (V3.out.trans hx)
        clear hx
        go_wp2_with fail
        refine segQ_mk (fun _ => laid V4.out) (hn _ _ ?_)
        clear hn next
        refine bt_pures _ fun K hK => ?_; simp only [pick, nthC]; (repeat go_big_quiet_step (fail)); refine wpQuiet_nil (hK _ ?_); clear hK K
        refine bt_softs _ fun K hK => ?_; simp only [pick, nthC]; (repeat go_big_quiet_step (fail)); refine wpQuiet_nil (hK _ ?_); clear hK K
        refine bt_step fun next hn => ?_; simp only [pick, nthC]
        go_wp2_with fail
        refine (H1.out _ (S.out.ext (HX5.out.trans V4.out))).mono ?_
        rintro e w25 ⟨rfl, hx⟩
        have V5 : Hid (Ext w5 w25) := zh (V4.out.trans hx)
        clear hx
        go_wp2_with fail
        refine segQ_mk (fun _ => laid V5.out) (hn _ _ ?_)
        clear hn next
        refine bt_step fun next hn => ?_; simp only [pick, nthC]
        go_wp2_with fail
        refine (H2.out _ (S.out.ext (HX5.out.trans V5.out))).mono ?_
        rintro e w26 ⟨rfl, hx⟩
        have V6 : Hid (Ext w5 w26) := zh (V5.out.trans hx)
        clear hx
        go_wp2_with fail
        refine segQ_mk (fun _ => laid V6.out) (hn _ _ ?_)
        clear hn next
        refine bt_pures _ fun K hK => ?_; simp only [pick, nthC]; (repeat go_big_quiet_step (fail)); refine wpQuiet_nil (hK _ ?_); clear hK K
        refine bt_step fun next hn => ?_; simp only [pick, nthC]
        go_wp2_with fail
        refine (CS.out _ V6.out).mono ?_
        rintro e w27 ⟨rfl, hx⟩
        have V7 : Hid (Ext w5 w27) := zh (V6.out.trans hx)
        clear hx
        go_wp2_with fail
        refine segQ_mk (fun _ => laid V7.out) (hn _ _ ?_)
        clear hn next
        refine bt_pures _ fun K hK => ?_; simp only [pick, nthC]; (repeat go_big_quiet_step (fail)); refine wpQuiet_nil (hK _ ?_); clear hK K
        (refine bt_fin ?_)
        go_wp2_with fail
        go_ret
        exact ⟨rfl, HX5.out.trans V7.out⟩
end Go.Proofs.YthpmncdfaggkiaaGreat
namespace Go.Proofs.YthpmncdfaggkiaaGreat
open Go.ChangeShapes Go.WideShapes Go.ChangeAt Go.RowKit Go.Joins
section
variable {H : Type} {enc : TypeId × Value → H} {W : World} {b0 : Nat} {v : Value} {d : DataW H} {p : List MemPlace}
set_option maxRecDepth 100000 in
theorem open_dirty (hv : Value.okWide Tryz.prog W .any b0 26 v) (h : DataW.Trod enc Tryz.prog W 0 (fun _ => true) true 26 v d p) :
    ∃ d : Dty, v = dyV d ∧ DtB d := by
  obtain ⟨cs, rfl, hsz⟩ := okWide_struct Tryz.underlying26 hv
  obtain ⟨fuel, hf⟩ := h
  have hl : cs.toList.length = 5 := by rw [Array.length_toList, hsz, cellsDirty]
  obtain ⟨d', hc, hb⟩ := dirty_cells hl (show DataW.trod enc Tryz.prog W 0 (fun _ => true) true fuel 26 cs.toList = _ by simpa [Value.cells] using hf)
  refine ⟨d', ?_, hb⟩
  have : cs = (dyCells d').toArray := by rw [← hc, Array.toArray_toList]
  rw [this]
  rfl
end
end Go.Proofs.YthpmncdfaggkiaaGreat
