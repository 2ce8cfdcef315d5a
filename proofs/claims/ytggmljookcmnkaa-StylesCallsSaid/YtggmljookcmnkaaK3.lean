/- The contract of viewportref11.Check. -/
import Derived.Test.YtggmljookcmnkaaK2
import Derived.Test.YtggmljookcmnkaaTz
import Derived.WalkSpells
import Derived.WalkLawsBesides
import Derived.BigRegion
import Derived.Deep.RegionWith
import Derived.Deep.QuietTactic
import Derived.Deep.DeepCutAuto
import Derived.Deep.RegionHeld3
import Derived.Deep.RegionLaw
import Derived.BigQuiet
import Derived.Lib.Hide
namespace Go.Proofs.Ytggmljookcmnkaa
open Go.RowKit
attribute [local go_sem] more_drew more_drewN more_size more_cell more_frozen more_setCell drew_more drewN_more lt_add_r lt_add_r2 lt_add_r3 lt_add_r4 lt_add_r5 lt_add_r6 lt_add_r7 lt_add_r8 lt_add_r9 lt_add_r10 lt_self_r lt_self_r2

theorem ext_blk {w w' : World} {b : Nat} {o : Obj} (h : w.heap[b]? = some o) (e : Ext w w') : w'.heap[b]? = some o := (e.below.block b (lt_of_heap h)).trans h
set_option maxRecDepth 100000 in
set_option maxHeartbeats 4000000 in
theorem rgram_any (g : Gr) (w : World) (h : GrOk w g) : Calls Try.prog 72 #[grV g] w fun e w' => e = .returned (.int .i64 (gramF g)) ∧ Ext w w' := by
  have H := Lib.hid h
  have HG : Hid (gramF g = if GrBig g then 3 else if g.prods.any longP then 3 else if GrFew g then 2 else if g.prods.any (badP g) then 2 else 0) := Lib.hid rfl
  unfold grV
  clear h
  by_cases c1 : 8 < g.terms
  · have q1 : decide (8 < g.terms) = true := decide_eq_true c1
    have HR : Hid (gramF g = 3) := Lib.hid (by rw [HG.out, if_pos (.inl c1)])
    go_enter Try.func72, Try.ntmps72
    go_wp2_with fail
    go_ret
    exact ⟨ret_int HR.out.symm, (by repeat (first | exact Ext.refl _ | refine Ext.alloc ?_ _ | refine Ext.more ?_ _ _ | refine Ext.drew ?_ | refine Ext.drewN ?_ _ | refine Ext.setCell ?_ (by simp <;> omega) _))⟩
  have q1 : decide (8 < g.terms) = false := decide_eq_false c1
  by_cases c2 : 16 < g.nons
  · have q2 : decide (16 < g.nons) = true := decide_eq_true c2
    have HR : Hid (gramF g = 3) := Lib.hid (by rw [HG.out, if_pos (.inr (.inl c2))])
    go_enter Try.func72, Try.ntmps72
    go_wp2_with fail
    go_ret
    exact ⟨ret_int HR.out.symm, (by repeat (first | exact Ext.refl _ | refine Ext.alloc ?_ _ | refine Ext.more ?_ _ _ | refine Ext.drew ?_ | refine Ext.drewN ?_ _ | refine Ext.setCell ?_ (by simp <;> omega) _))⟩
  have q2 : decide (16 < g.nons) = false := decide_eq_false c2
  by_cases c3 : 3 < g.k
  · have q3 : decide (3 < g.k) = true := decide_eq_true c3
    have HR : Hid (gramF g = 3) := Lib.hid (by rw [HG.out, if_pos (.inr (.inr (.inl c3)))])
    go_enter Try.func72, Try.ntmps72
    go_wp2_with fail
    go_ret
    exact ⟨ret_int HR.out.symm, (by repeat (first | exact Ext.refl _ | refine Ext.alloc ?_ _ | refine Ext.more ?_ _ _ | refine Ext.drew ?_ | refine Ext.drewN ?_ _ | refine Ext.setCell ?_ (by simp <;> omega) _))⟩
  have q3 : decide (3 < g.k) = false := decide_eq_false c3
  by_cases c4 : 64 < g.prods.length
  · have q4 : decide ((64 : Int) < (g.prods.length : Int)) = true := decide_eq_true (by omega)
    have HR : Hid (gramF g = 3) := Lib.hid (by rw [HG.out, if_pos (.inr (.inr (.inr c4)))])
    go_enter Try.func72, Try.ntmps72
    go_wp2_with fail
    go_ret
    exact ⟨ret_int HR.out.symm, (by repeat (first | exact Ext.refl _ | refine Ext.alloc ?_ _ | refine Ext.more ?_ _ _ | refine Ext.drew ?_ | refine Ext.drewN ?_ _ | refine Ext.setCell ?_ (by simp <;> omega) _))⟩
  have q4 : decide ((64 : Int) < (g.prods.length : Int)) = false := decide_eq_false (by omega)
  have HB : Hid (¬ GrBig g) := Lib.hid (by unfold GrBig; omega)
  have T1 : Hid (g.terms ≤ 8) := Lib.hid (by omega)
  have N1 : Hid (g.nons ≤ 16) := Lib.hid (by omega)
  clear c1 c2 c3
  obtain ⟨b1, hb1⟩ : ∃ b1, w.heap.size = b1 := ⟨_, rfl⟩
  obtain ⟨W1, hW1⟩ : ∃ W1, w.alloc (.cells #[.int .i64 g.terms, .int .i64 g.nons, .int .i64 g.k, .slice g.pA g.prods.length g.pc] 39) = W1 := ⟨_, rfl⟩
  have X1 : Hid (Ext w W1) := Lib.hid (by rw [← hW1]; exact (by repeat (first | exact Ext.refl _ | refine Ext.alloc ?_ _ | refine Ext.more ?_ _ _ | refine Ext.drew ?_ | refine Ext.drewN ?_ _ | refine Ext.setCell ?_ (by simp <;> omega) _)))
  have GA : Hid (GrAt W1 b1 g) := Lib.hid (GrAt.of (by rw [← hW1, ← hb1]; exact heap_alloc_new _ _))
  go_enter Try.func72, Try.ntmps72
  go_upto_region 1 with fail
  skip
  clear hW1 hb1
  obtain ⟨e0, e1, e2, e3, el⟩ := GA.out
  go_wp2_with fail
  clear e0 e1 e2 e3 el
  go_loopw [3] (fun s wr => ∃ i : Nat, i ≤ g.prods.length ∧ s = .int .i64 i ∧ Hid ((g.prods.take i).any longP = false) ∧ Hid (Ext W1 wr)) (fun s _ => g.prods.length - (intOf s).toNat)
  case atStart => exact ⟨0, by omega, rfl, Lib.hid rfl, Lib.hid (by repeat (first | exact Ext.refl _ | refine Ext.alloc ?_ _ | refine Ext.more ?_ _ _ | refine Ext.drew ?_ | refine Ext.drewN ?_ _ | refine Ext.setCell ?_ (by simp <;> omega) _))⟩
  case round =>
    obtain ⟨i, hi, rfl, hno, hx⟩ := hrel
    obtain ⟨e0, e1, e2, e3, el⟩ := GA.out.ext hx.out
    by_cases hlt : i < g.prods.length
    · obtain ⟨p, hp⟩ : ∃ p, g.prods[i]? = some p := ⟨_, List.getElem?_eq_getElem hlt⟩
      obtain ⟨b, off, hA, hb, hcell⟩ := (H.out.ext (X1.out.trans hx.out)).prods (by omega)
      obtain ⟨d0, d1⟩ := hcell i p hp
      rw [hA] at e3
      have HP := Lib.hid hp
      clear hcell hp
      by_cases hlp : 8 < p.right.length
      · have q5 : decide ((8 : Int) < (p.right.length : Int)) = true := decide_eq_true (by omega)
        have HR : Hid (gramF g = 3) := Lib.hid (by rw [HG.out, if_neg HB.out, if_pos (any_hit HP.out (by unfold longP; exact decide_eq_true hlp))])
        go_wp2_with fail
        go_ret
        exact ⟨ret_int HR.out.symm, (X1.out.trans hx.out).trans (by repeat (first | exact Ext.refl _ | refine Ext.alloc ?_ _ | refine Ext.more ?_ _ _ | refine Ext.drew ?_ | refine Ext.drewN ?_ _ | refine Ext.setCell ?_ (by simp <;> omega) _))⟩
      · have q5 : decide ((8 : Int) < (p.right.length : Int)) = false := decide_eq_false (by omega)
        have HNX : Hid ((g.prods.take (i + 1)).any longP = false) := Lib.hid (by rw [anyT_next longP HP.out, hno.out]; unfold longP; rw [Bool.false_or]; exact decide_eq_false hlp)
        go_wp2_with fail
        go_roundw
        case rel => exact ⟨i + 1, by omega, by go_num, HNX, Lib.hid (hx.out.trans (by repeat (first | exact Ext.refl _ | refine Ext.alloc ?_ _ | refine Ext.more ?_ _ _ | refine Ext.drew ?_ | refine Ext.drewN ?_ _ | refine Ext.setCell ?_ (by simp <;> omega) _)))⟩
        case measure => simp [intOf]; omega
    · obtain rfl : i = g.prods.length := by omega
      have HLN : Hid (g.prods.any longP = false) := Lib.hid (by have := hno.out; rw [List.take_length] at this; exact this)
      have HX := Lib.hid hx.out
      clear hno hx
      by_cases f1 : g.terms < 1
      · have q5 : decide (g.terms < 1) = true := decide_eq_true f1
        have HR : Hid (gramF g = 2) := Lib.hid (by rw [HG.out, if_neg HB.out, HLN.out, if_neg (by simp), if_pos (.inl f1)])
        go_wp2_with fail
        go_ret
        exact ⟨ret_int HR.out.symm, (X1.out.trans HX.out).trans (by repeat (first | exact Ext.refl _ | refine Ext.alloc ?_ _ | refine Ext.more ?_ _ _ | refine Ext.drew ?_ | refine Ext.drewN ?_ _ | refine Ext.setCell ?_ (by simp <;> omega) _))⟩
      have q5 : decide (g.terms < 1) = false := decide_eq_false f1
      by_cases f2 : g.nons < 1
      · have q6 : decide (g.nons < 1) = true := decide_eq_true f2
        have HR : Hid (gramF g = 2) := Lib.hid (by rw [HG.out, if_neg HB.out, HLN.out, if_neg (by simp), if_pos (.inr (.inl f2))])
        go_wp2_with fail
        go_ret
        exact ⟨ret_int HR.out.symm, (X1.out.trans HX.out).trans (by repeat (first | exact Ext.refl _ | refine Ext.alloc ?_ _ | refine Ext.more ?_ _ _ | refine Ext.drew ?_ | refine Ext.drewN ?_ _ | refine Ext.setCell ?_ (by simp <;> omega) _))⟩
      have q6 : decide (g.nons < 1) = false := decide_eq_false f2
      by_cases f3 : g.k < 1
      · have q7 : decide (g.k < 1) = true := decide_eq_true f3
        have HR : Hid (gramF g = 2) := Lib.hid (by rw [HG.out, if_neg HB.out, HLN.out, if_neg (by simp), if_pos (.inr (.inr (.inl f3)))])
        go_wp2_with fail
        go_ret
        exact ⟨ret_int HR.out.symm, (X1.out.trans HX.out).trans (by repeat (first | exact Ext.refl _ | refine Ext.alloc ?_ _ | refine Ext.more ?_ _ _ | refine Ext.drew ?_ | refine Ext.drewN ?_ _ | refine Ext.setCell ?_ (by simp <;> omega) _))⟩
      have q7 : decide (g.k < 1) = false := decide_eq_false f3
      by_cases f4 : g.prods.length < 1
      · have q8 : decide ((g.prods.length : Int) < 1) = true := decide_eq_true (by omega)
        have HR : Hid (gramF g = 2) := Lib.hid (by rw [HG.out, if_neg HB.out, HLN.out, if_neg (by simp), if_pos (.inr (.inr (.inr f4)))])
        go_wp2_with fail
        go_ret
        exact ⟨ret_int HR.out.symm, (X1.out.trans HX.out).trans (by repeat (first | exact Ext.refl _ | refine Ext.alloc ?_ _ | refine Ext.more ?_ _ _ | refine Ext.drew ?_ | refine Ext.drewN ?_ _ | refine Ext.setCell ?_ (by simp <;> omega) _))⟩
      have q8 : decide ((g.prods.length : Int) < 1) = false := decide_eq_false (by omega)
      have HFW : Hid (¬ GrFew g) := Lib.hid (by unfold GrFew; omega)
      have HT : Hid (1 ≤ g.terms ∧ g.terms ≤ 8) := Lib.hid ⟨by omega, T1.out⟩
      have HN : Hid (1 ≤ g.nons ∧ g.nons ≤ 16) := Lib.hid ⟨by omega, N1.out⟩
      clear f1 f2 f3 f4
      go_wp2_with fail
      clear e0 e1 e2 e3 el q5 q6 q7 q8
      go_loopw [4] (fun s wi => ∃ i : Nat, i ≤ g.prods.length ∧ s = .int .i64 i ∧ Hid ((g.prods.take i).any (badP g) = false) ∧ Hid (Ext W1 wi)) (fun s _ => g.prods.length - (intOf s).toNat)
      case atStart => exact ⟨0, by omega, rfl, Lib.hid rfl, Lib.hid (HX.out.trans (by repeat (first | exact Ext.refl _ | refine Ext.alloc ?_ _ | refine Ext.more ?_ _ _ | refine Ext.drew ?_ | refine Ext.drewN ?_ _ | refine Ext.setCell ?_ (by simp <;> omega) _)))⟩
      case round =>
        clear HX
        obtain ⟨i, hi, rfl, hno, hx⟩ := hrel
        have HX := Lib.hid hx.out
        obtain ⟨e0, e1, e2, e3, el⟩ := GA.out.ext hx.out
        by_cases hlt : i < g.prods.length
        · obtain ⟨p, hp⟩ : ∃ p, g.prods[i]? = some p := ⟨_, List.getElem?_eq_getElem hlt⟩
          obtain ⟨b, off, hA, hb, hcell⟩ := (H.out.ext (X1.out.trans hx.out)).prods (by omega)
          obtain ⟨d0, d1⟩ := hcell i p hp
          rw [hA] at e3
          have HP := Lib.hid hp
          have HPO := Lib.hid ((H.out.ext (X1.out.trans hx.out)).oks p (List.mem_of_getElem? hp))
          clear hcell hp hx
          by_cases l1 : p.left < 0
          · have q5 : decide (p.left < 0) = true := decide_eq_true l1
            have HR : Hid (gramF g = 2) := Lib.hid (by rw [HG.out, if_neg HB.out, HLN.out, if_neg (by simp), if_neg HFW.out, if_pos (any_hit HP.out (by unfold badP; rw [q5]; rfl))])
            go_wp2_with fail
            go_ret
            exact ⟨ret_int HR.out.symm, (X1.out.trans HX.out).trans (by repeat (first | exact Ext.refl _ | refine Ext.alloc ?_ _ | refine Ext.more ?_ _ _ | refine Ext.drew ?_ | refine Ext.drewN ?_ _ | refine Ext.setCell ?_ (by simp <;> omega) _))⟩
          have q5 : decide (p.left < 0) = false := decide_eq_false l1
          by_cases l2 : g.nons ≤ p.left
          · have q6 : decide (g.nons ≤ p.left) = true := decide_eq_true l2
            have HR : Hid (gramF g = 2) := Lib.hid (by rw [HG.out, if_neg HB.out, HLN.out, if_neg (by simp), if_neg HFW.out, if_pos (any_hit HP.out (by unfold badP; rw [q5, q6]; rfl))])
            go_wp2_with fail
            go_ret
            exact ⟨ret_int HR.out.symm, (X1.out.trans HX.out).trans (by repeat (first | exact Ext.refl _ | refine Ext.alloc ?_ _ | refine Ext.more ?_ _ _ | refine Ext.drew ?_ | refine Ext.drewN ?_ _ | refine Ext.setCell ?_ (by simp <;> omega) _))⟩
          have q6 : decide (g.nons ≤ p.left) = false := decide_eq_false l2
          clear l1 l2
          have HBP : Hid (badP g p = p.right.any (badS g)) := Lib.hid (by unfold badP; rw [q5, q6]; rfl)
          go_wp2_with fail
          obtain ⟨bp, hbp⟩ : ∃ bp, wr.heap.size = bp := ⟨_, rfl⟩
          obtain ⟨W5, hW5⟩ : ∃ W5, wr.alloc (.cells #[.int .i64 p.left, .slice p.rA p.right.length p.rc] 76) = W5 := ⟨_, rfl⟩
          have X5 : Hid (Ext wr W5) := Lib.hid (by rw [← hW5]; exact (by repeat (first | exact Ext.refl _ | refine Ext.alloc ?_ _ | refine Ext.more ?_ _ _ | refine Ext.drew ?_ | refine Ext.drewN ?_ _ | refine Ext.setCell ?_ (by simp <;> omega) _)))
          have B5 : Hid (W5.heap[bp]? = some (.cells #[.int .i64 p.left, .slice p.rA p.right.length p.rc] 76)) := Lib.hid (by rw [← hW5, ← hbp]; exact heap_alloc_new _ _)
          rw [hW5, hbp]
          have HX5 := Lib.hid (HX.out.trans X5.out)
          clear hW5 hbp e0 e1 e2 e3 el d0 d1 hb q5 q6
          go_loopw [6] (fun s wi => ∃ k : Nat, k ≤ p.right.length ∧ s = .int .i64 k ∧ Hid ((p.right.take k).any (badS g) = false) ∧ Hid (Ext W5 wi)) (fun s _ => p.right.length - (intOf s).toNat)
          case atStart => exact ⟨0, by omega, rfl, Lib.hid rfl, Lib.hid (by repeat (first | exact Ext.refl _ | refine Ext.alloc ?_ _ | refine Ext.more ?_ _ _ | refine Ext.drew ?_ | refine Ext.drewN ?_ _ | refine Ext.setCell ?_ (by simp <;> omega) _))⟩
          case round =>
            obtain ⟨k, hk, rfl, hnk, hx⟩ := hrel
            have HX6 := Lib.hid hx.out
            have hb5 := ext_blk B5.out hx.out
            have f1 := cell_of_row _ _ 1 _ _ _ hb5
            simp at f1
            have fl := lt_of_heap hb5
            obtain ⟨e0, e1, e2, e3, el⟩ := GA.out.ext (HX5.out.trans hx.out)
            by_cases hlk : k < p.right.length
            · obtain ⟨s, hs⟩ : ∃ s, p.right[k]? = some s := ⟨_, List.getElem?_eq_getElem hlk⟩
              have hI := HPO.out.right.ext (X5.out.trans hx.out)
              obtain ⟨br, ofr, hrA, hbr, hcr⟩ := hI (by omega)
              have d := hcr k hlk
              rw [List.getD_eq_getElem?_getD, hs] at d
              rw [hrA] at f1
              change wr.cell? ⟨br, ofr + k, none⟩ = some (.int .i64 s) at d
              have HS := Lib.hid hs
              have HTN := HT.out
              have HNN := HN.out
              have wS : IntKind.i64.wrap (g.terms + g.nons) = g.terms + g.nons := IntWalk.i64_in _ (by omega)
              have c1 := HPO.out.cap
              have c2 := HPO.out.top
              clear hb5 hI hcr hs hx HTN HNN
              by_cases l1 : s < 0
              · have q7 : decide (s < 0) = true := decide_eq_true l1
                have HR : Hid (gramF g = 2) := Lib.hid (by rw [HG.out, if_neg HB.out, HLN.out, if_neg (by simp), if_neg HFW.out, if_pos (any_hit HP.out (by rw [HBP.out]; exact any_hit HS.out (by unfold badS; rw [q7]; rfl)))])
                go_upto_region 19 with fail
                refine wp_region_bt (19) (softs_bt [0, 1, 2, 3, 4, 5, 6, 7, 8, 9, 10, 11, 12, 13, 14, 15, 16, 17, 18] .fin) (by kernel_rfl) (by kernel_rfl) ?_
                (refine bt_softs _ fun K hK => ?_); (simp only [pick, nthC]); (repeat (go_big_quiet_step (fail))); (refine wpQuiet_nil (hK _ ?_)); (clear hK K)
                (refine bt_fin ?_)
                go_wp2_with fail
                go_ret
                exact ⟨ret_int HR.out.symm, ((X1.out.trans HX5.out).trans HX6.out).trans (by repeat (first | exact Ext.refl _ | refine Ext.alloc ?_ _ | refine Ext.more ?_ _ _ | refine Ext.drew ?_ | refine Ext.drewN ?_ _ | refine Ext.setCell ?_ (by simp <;> omega) _))⟩
              have q7 : decide (s < 0) = false := decide_eq_false l1
              by_cases l2 : g.terms + g.nons ≤ s
              · have q8 : decide (g.terms + g.nons ≤ s) = true := decide_eq_true l2
                have HR : Hid (gramF g = 2) := Lib.hid (by rw [HG.out, if_neg HB.out, HLN.out, if_neg (by simp), if_neg HFW.out, if_pos (any_hit HP.out (by rw [HBP.out]; exact any_hit HS.out (by unfold badS; rw [q7, q8]; rfl)))])
                go_upto_region 19 with fail
                refine wp_region_bt (19) (softs_bt [0, 1, 2, 3, 4, 5, 6, 7, 8, 9, 10, 11, 12, 13, 14, 15, 16, 17, 18] .fin) (by kernel_rfl) (by kernel_rfl) ?_
                (refine bt_softs _ fun K hK => ?_); (simp only [pick, nthC]); (repeat (go_big_quiet_step (fail))); (refine wpQuiet_nil (hK _ ?_)); (clear hK K)
                (refine bt_fin ?_)
                go_wp2_with fail
                go_ret
                exact ⟨ret_int HR.out.symm, ((X1.out.trans HX5.out).trans HX6.out).trans (by repeat (first | exact Ext.refl _ | refine Ext.alloc ?_ _ | refine Ext.more ?_ _ _ | refine Ext.drew ?_ | refine Ext.drewN ?_ _ | refine Ext.setCell ?_ (by simp <;> omega) _))⟩
              have q8 : decide (g.terms + g.nons ≤ s) = false := decide_eq_false l2
              have HNX : Hid ((p.right.take (k + 1)).any (badS g) = false) := Lib.hid (by rw [anyT_next (badS g) HS.out, hnk.out]; unfold badS; rw [q7, q8]; rfl)
              clear l1 l2
              go_upto_region 19 with fail
              refine wp_region_bt (19) (softs_bt [0, 1, 2, 3, 4, 5, 6, 7, 8, 9, 10, 11, 12, 13, 14, 15, 16, 17, 18] .fin) (by kernel_rfl) (by kernel_rfl) ?_
              (refine bt_softs _ fun K hK => ?_); (simp only [pick, nthC]); (repeat (go_big_quiet_step (fail))); (refine wpQuiet_nil (hK _ ?_)); (clear hK K)
              (refine bt_fin ?_)
              go_wp2_with fail
              go_roundw
              case rel => exact ⟨k + 1, by omega, by go_num, HNX, Lib.hid (HX6.out.trans (by repeat (first | exact Ext.refl _ | refine Ext.alloc ?_ _ | refine Ext.more ?_ _ _ | refine Ext.drew ?_ | refine Ext.drewN ?_ _ | refine Ext.setCell ?_ (by simp <;> omega) _)))⟩
              case measure => simp [intOf]; omega
            · obtain rfl : k = p.right.length := by omega
              have HNX : Hid ((g.prods.take (i + 1)).any (badP g) = false) := Lib.hid (by have h1 := hnk.out; rw [List.take_length] at h1; rw [anyT_next (badP g) HP.out, hno.out, HBP.out, h1]; rfl)
              clear hx hb5
              go_wp2_with fail
              go_roundw
              case rel => exact ⟨i + 1, by omega, by go_num, HNX, Lib.hid ((HX5.out.trans HX6.out).trans (by repeat (first | exact Ext.refl _ | refine Ext.alloc ?_ _ | refine Ext.more ?_ _ _ | refine Ext.drew ?_ | refine Ext.drewN ?_ _ | refine Ext.setCell ?_ (by simp <;> omega) _)))⟩
              case measure => simp [intOf]; omega
        · obtain rfl : i = g.prods.length := by omega
          have HR : Hid (gramF g = 0) := Lib.hid (by have h1 := hno.out; rw [List.take_length] at h1; rw [HG.out, if_neg HB.out, HLN.out, if_neg (by simp), if_neg HFW.out, h1, if_neg (by simp)])
          go_wp2_with fail
          go_ret
          exact ⟨ret_int HR.out.symm, (X1.out.trans HX.out).trans (by repeat (first | exact Ext.refl _ | refine Ext.alloc ?_ _ | refine Ext.more ?_ _ _ | refine Ext.drew ?_ | refine Ext.drewN ?_ _ | refine Ext.setCell ?_ (by simp <;> omega) _))⟩
end Go.Proofs.Ytggmljookcmnkaa
