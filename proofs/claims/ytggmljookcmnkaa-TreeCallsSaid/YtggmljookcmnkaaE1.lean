/- E1: 2 texts in one. -/
import Derived.Test.YtggmljookcmnkaaB6
import Derived.Test.YtggmljookcmnkaaA7
import Derived.Test.YtggmljookcmnkaaD4
import Derived.WalkSpells
import Derived.WalkLawsBesides
import Derived.BigRegion
import Derived.Deep.RegionWith
import Derived.Deep.QuietTactic
import Derived.Deep.DeepCutAuto
import Derived.Deep.RegionHeld3
import Derived.Deep.RegionLaw
import Derived.BigQuiet
import Derived.Lib.Hide
/- The contracts of slices.Equal[int], tree.Same. -/
namespace Go.Proofs.Ytggmljookcmnkaa
open Go.RowKit
attribute [local go_sem] more_drew more_drewN more_size more_cell more_frozen more_setCell drew_more drewN_more lt_add_r lt_add_r2 lt_add_r3 lt_add_r4 lt_add_r5 lt_add_r6 lt_add_r7 lt_add_r8 lt_add_r9 lt_add_r10 lt_self_r lt_self_r2

set_option maxHeartbeats 1000000 in
theorem equalInts (A B : Option Addr) (xs ys : List Int) (c d : Nat) (w : World) (hx : Ints w A xs) (hy : Ints w B ys) (bx : xs.length ≤ 9223372036854775807) (by_ : ys.length ≤ 9223372036854775807) :
    Calls Try.prog 103 #[.slice A xs.length c, .slice B ys.length d] w fun e w' => e = .returned (.bool (decide (xs = ys))) ∧ Ext w w' := by
  by_cases hl : xs.length = ys.length
  · rcases hx.empty_or with rfl | ⟨h0, b, off, rfl, hb, hc⟩
    · obtain rfl : ys = [] := List.eq_nil_of_length_eq_zero hl.symm
      go_enter Try.func103, Try.ntmps103
      go_wp2
      refine wp_loop_rounds 1 ?_
      rw [rounds_succ]
      go_wp2
      go_ret
      exact ⟨rfl, (by repeat (first | exact Ext.refl _ | refine Ext.alloc ?_ _ | refine Ext.more ?_ _ _ | refine Ext.drew ?_ | refine Ext.drewN ?_ _ | refine Ext.setCell ?_ (by simp <;> omega) _))⟩
    · rcases hy.empty_or with rfl | ⟨h1, b', off', rfl, hb', hc'⟩
      · simp only [List.length_nil] at hl; omega
      · have hl2 : ((xs.length : Int) != (ys.length : Int)) = false := by simp; omega
        have HC := Lib.hid hc
        have HC' := Lib.hid hc'
        have HL := Lib.hid hl
        clear hc hc' hl hx hy
        go_enter Try.func103, Try.ntmps103
        go_wp2
        go_loopw [13] (fun i wr => ∃ k : Nat, k ≤ xs.length ∧ i = .int .i64 k ∧ xs.take k = ys.take k ∧ Ext w wr) (fun i _ => xs.length - (intOf i).toNat)
        case atStart => exact ⟨0, by omega, rfl, by simp, (by repeat (first | exact Ext.refl _ | refine Ext.alloc ?_ _ | refine Ext.more ?_ _ _ | refine Ext.drew ?_ | refine Ext.drewN ?_ _ | refine Ext.setCell ?_ (by simp <;> omega) _))⟩
        case round =>
          obtain ⟨k, hk, rfl, ht, os, kk, rfl⟩ := hrel
          have HT := Lib.hid ht
          clear ht
          by_cases hlt : k < xs.length
          · have c1 := HC.out k hlt
            have c2 := HC'.out k (by rw [← HL.out]; exact hlt)
            have hlt' : k < ys.length := by have := HL.out; omega
            generalize hu : xs.getD k 0 = u at *
            generalize hv : ys.getD k 0 = v at *
            have HU := Lib.hid hu
            have HV := Lib.hid hv
            clear hu hv
            by_cases e : u = v
            · have e1 : (u != v) = false := by simp [e]
              have E := Lib.hid e
              clear e
              go_upto_region 6 with fail
              go_quiet (fail)
              go_wp2
              go_roundw
              case rel => exact ⟨k + 1, by omega, by go_num, by rw [take_next hlt, take_next hlt', HT.out, HU.out, HV.out, E.out], (by repeat (first | exact Ext.refl _ | refine Ext.alloc ?_ _ | refine Ext.more ?_ _ _ | refine Ext.drew ?_ | refine Ext.drewN ?_ _ | refine Ext.setCell ?_ (by simp <;> omega) _))⟩
              case measure => simp [intOf]; omega
            · have e1 : (u != v) = true := by simp [e]
              have E := Lib.hid e
              clear e
              go_upto_region 6 with fail
              go_quiet (fail)
              go_wp2
              go_ret
              refine ⟨ret_bool ?_, (by repeat (first | exact Ext.refl _ | refine Ext.alloc ?_ _ | refine Ext.more ?_ _ _ | refine Ext.drew ?_ | refine Ext.drewN ?_ _ | refine Ext.setCell ?_ (by simp <;> omega) _))⟩
              symm
              rw [decide_eq_false_iff_not]
              intro h
              apply E.out
              rw [← HU.out, ← HV.out, h]
          · go_wp2
            go_ret
            refine ⟨ret_bool ?_, (by repeat (first | exact Ext.refl _ | refine Ext.alloc ?_ _ | refine Ext.more ?_ _ _ | refine Ext.drew ?_ | refine Ext.drewN ?_ _ | refine Ext.setCell ?_ (by simp <;> omega) _))⟩
            symm
            rw [decide_eq_true_eq]
            have := HT.out
            have h2 := HL.out
            rwa [List.take_of_length_le (by omega), List.take_of_length_le (by omega)] at this
  · have hl2 : ((xs.length : Int) != (ys.length : Int)) = true := by simp; omega
    have hl3 : decide (xs = ys) = false := by
      rw [decide_eq_false_iff_not]
      intro h
      exact hl (by rw [h])
    have HL := Lib.hid hl3
    clear hl hl3
    go_enter Try.func103, Try.ntmps103
    go_wp2
    go_ret
    exact ⟨ret_bool HL.out.symm, (by repeat (first | exact Ext.refl _ | refine Ext.alloc ?_ _ | refine Ext.more ?_ _ _ | refine Ext.drew ?_ | refine Ext.drewN ?_ _ | refine Ext.setCell ?_ (by simp <;> omega) _))⟩
def sameB (p q : Nd) : Bool := (p.sym == q.sym) && (p.kind == q.kind) && (p.lo == q.lo) && (p.inn == q.inn) && (p.hi == q.hi) && (p.look == q.look) && (p.met == q.met) && decide (p.kids = q.kids)
theorem sameB_iff (p q : Nd) : sameB p q = true ↔ p = q := by
  obtain ⟨a, b, c, d, e, f, g, h⟩ := p
  obtain ⟨a', b', c', d', e', f', g', h'⟩ := q
  simp only [sameB, Bool.and_eq_true, beq_iff_eq, decide_eq_true_eq, Nd.mk.injEq]
  constructor
  · rintro ⟨⟨⟨⟨⟨⟨⟨rfl, rfl⟩, rfl⟩, rfl⟩, rfl⟩, rfl⟩, rfl⟩, rfl⟩
    simp
  · rintro ⟨rfl, rfl, rfl, rfl, rfl, rfl, rfl, rfl⟩
    simp
instance ndDecEq : DecidableEq Nd := fun p q => decidable_of_iff _ (sameB_iff p q)
set_option maxRecDepth 100000 in
set_option maxHeartbeats 4000000 in
theorem same1_any (p q : Prt) (w : World) (hp : PrtOk w p) (hq : PrtOk w q) : Calls Try.prog 102 #[aggV p, aggV q] w fun e w' => e = .returned (.bool (sameB p.nd q.nd)) ∧ Ext w w' := by
  have CE := Lib.hid (fun w1 (x : Ext w w1) => equalInts p.kA q.kA p.nd.kids q.nd.kids p.kc q.kc w1 (hp.kids.ext x) (hq.kids.ext x) (Nat.le_trans hp.cap hp.top) (Nat.le_trans hq.cap hq.top))
  have h1 := Nat.le_trans hp.cap hp.top
  have h2 := Nat.le_trans hq.cap hq.top
  obtain ⟨⟨s1, k1, l1, i1, h1', o1, ks1, m1⟩, kA1, kc1⟩ := p
  obtain ⟨⟨s2, k2, l2, i2, h2', o2, ks2, m2⟩, kA2, kc2⟩ := q
  dsimp only at *
  clear hp hq
  go_enter Try.func102, Try.ntmps102
  go_wp2_with (first | (go_at_call 103; refine (CE.out _ (by repeat (first | exact Ext.refl _ | refine Ext.alloc ?_ _ | refine Ext.more ?_ _ _ | refine Ext.drew ?_ | refine Ext.drewN ?_ _ | refine Ext.setCell ?_ (by simp <;> omega) _))).mono ?_; rintro e w' ⟨rfl, os9, k9, rfl⟩) | go_in)
  all_goals go_ret
  all_goals refine ⟨ret_bool (by unfold sameB; simp_all), (by repeat (first | exact Ext.refl _ | refine Ext.alloc ?_ _ | refine Ext.more ?_ _ _ | refine Ext.drew ?_ | refine Ext.drewN ?_ _ | refine Ext.setCell ?_ (by simp <;> omega) _))⟩
end Go.Proofs.Ytggmljookcmnkaa

/- The contracts of EqualFunc, tree.Same; Own, OwnParts. -/
namespace Go.Proofs.Ytggmljookcmnkaa
open Go.RowKit
attribute [local go_sem] more_drew more_drewN more_size more_cell more_frozen more_setCell drew_more drewN_more lt_add_r lt_add_r2 lt_add_r3 lt_add_r4 lt_add_r5 lt_add_r6 lt_add_r7 lt_add_r8 lt_add_r9 lt_add_r10 lt_self_r lt_self_r2

theorem takeN {l : List Nd} {k : Nat} {p : Nd} (h : l[k]? = some p) : l.take (k + 1) = l.take k ++ [p] := by
  rw [List.take_add_one, h]
  rfl
set_option maxRecDepth 100000 in
set_option maxHeartbeats 4000000 in
theorem equalFunc_any (A B : Option Addr) (ps qs : List Prt) (c d : Nat) (w : World) (hP : Prts w A ps) (hO : PrtsOk w ps) (hQ : Prts w B qs) (hOq : PrtsOk w qs) (bx : ps.length ≤ 1000000) (by_ : qs.length ≤ 1000000) :
    Calls Try.prog 101 #[.slice A ps.length c, .slice B qs.length d, .func (.func 102) #[] #[]] w
      fun e w' => e = .returned (.bool (decide (nds ps = nds qs))) ∧ Ext w w' := by
  by_cases hl : ps.length = qs.length
  · have hl2 : ((ps.length : Int) != (qs.length : Int)) = false := by simp; omega
    have HL := Lib.hid hl
    have HP := Lib.hid hP
    have HQ := Lib.hid hQ
    have HO := Lib.hid hO
    have HOQ := Lib.hid hOq
    clear hl hP hO hQ hOq
    go_enter Try.func101, Try.ntmps101
    go_wp2_with fail
    go_loopw [17] (fun i wr => ∃ k : Nat, k ≤ ps.length ∧ i = .int .i64 k ∧ Hid ((nds ps).take k = (nds qs).take k) ∧ Hid (Ext w wr)) (fun i _ => ps.length - (intOf i).toNat)
    case atStart => exact ⟨0, by omega, rfl, Lib.hid (by simp), Lib.hid (by repeat (first | exact Ext.refl _ | refine Ext.alloc ?_ _ | refine Ext.more ?_ _ _ | refine Ext.drew ?_ | refine Ext.drewN ?_ _ | refine Ext.setCell ?_ (by simp <;> omega) _))⟩
    case round =>
      obtain ⟨k, hk, rfl, ht, hx⟩ := hrel
      by_cases hlt : k < ps.length
      · have hlt2 : k < qs.length := by have := HL.out; omega
        obtain ⟨p, hp⟩ : ∃ p, ps[k]? = some p := ⟨_, List.getElem?_eq_getElem hlt⟩
        obtain ⟨q, hq⟩ : ∃ q, qs[k]? = some q := ⟨_, List.getElem?_eq_getElem hlt2⟩
        obtain ⟨b1, o1, rfl, hb1, hc1⟩ := (HP.out.ext hx.out) (by omega)
        obtain ⟨b2, o2, rfl, hb2, hc2⟩ := (HQ.out.ext hx.out) (by omega)
        obtain ⟨x0, x1, x2, x3, x4, x5, x6, x7⟩ := hc1 k p hp
        obtain ⟨y0, y1, y2, y3, y4, y5, y6, y7⟩ := hc2 k q hq
        have CF := Lib.hid (fun w1 (x : Ext w w1) => same1_any p q w1 ((HO.out.get hp).ext x) ((HOQ.out.get hq).ext x))
        have HN1 := Lib.hid (nds_get hp)
        have HN2 := Lib.hid (nds_get hq)
        clear hc1 hc2 hp hq
        go_wp2_with fail
        refine (CF.out _ (hx.out.trans (by repeat (first | exact Ext.refl _ | refine Ext.alloc ?_ _ | refine Ext.more ?_ _ _ | refine Ext.drew ?_ | refine Ext.drewN ?_ _ | refine Ext.setCell ?_ (by simp <;> omega) _)))).mono ?_
        rintro e w2 ⟨rfl, hx2⟩
        have HX2 := Lib.hid ((hx.out.trans (by repeat (first | exact Ext.refl _ | refine Ext.alloc ?_ _ | refine Ext.more ?_ _ _ | refine Ext.drew ?_ | refine Ext.drewN ?_ _ | refine Ext.setCell ?_ (by simp <;> omega) _))).trans hx2)
        clear hx2 hx x0 x1 x2 x3 x4 x5 x6 x7 y0 y1 y2 y3 y4 y5 y6 y7
        cases hs : sameB p.nd q.nd with
        | true =>
          have hs2 := Lib.hid ((sameB_iff _ _).1 hs)
          clear hs
          go_wp2_with fail
          go_roundw
          case rel => exact ⟨k + 1, by omega, by go_num, Lib.hid (by rw [takeN HN1.out, takeN HN2.out, ht.out, hs2.out]), HX2⟩
          case measure => simp [intOf]; omega
        | false =>
          have hs2 : Hid (p.nd ≠ q.nd) := Lib.hid (fun h => by rw [(sameB_iff _ _).2 h] at hs; cases hs)
          clear hs
          go_wp2_with fail
          go_ret
          refine ⟨ret_bool ?_, HX2.out⟩
          symm
          rw [decide_eq_false_iff_not]
          intro h
          apply hs2.out
          have h1 := HN1.out
          rw [h, HN2.out] at h1
          injection h1 with h1
          exact h1.symm
      · obtain rfl : k = ps.length := by omega
        go_wp2_with fail
        go_ret
        refine ⟨ret_bool ?_, hx.out⟩
        symm
        rw [decide_eq_true_eq]
        have := ht.out
        have h2 := HL.out
        rwa [List.take_of_length_le (by rw [nds_length]; omega), List.take_of_length_le (by rw [nds_length]; omega)] at this
  · have hl2 : ((ps.length : Int) != (qs.length : Int)) = true := by simp; omega
    have hl3 : decide (nds ps = nds qs) = false := by
      rw [decide_eq_false_iff_not]
      intro h
      exact hl (by rw [← nds_length ps, h, nds_length])
    have HL := Lib.hid hl3
    clear hl hl3 hP hO hQ hOq
    go_enter Try.func101, Try.ntmps101
    go_wp2
    go_ret
    exact ⟨ret_bool HL.out.symm, (by repeat (first | exact Ext.refl _ | refine Ext.alloc ?_ _ | refine Ext.more ?_ _ _ | refine Ext.drew ?_ | refine Ext.drewN ?_ _ | refine Ext.setCell ?_ (by simp <;> omega) _))⟩
set_option maxRecDepth 100000 in
theorem sameT_any (A B : Option Addr) (ps qs : List Prt) (c d : Nat) (w : World) (hP : Prts w A ps) (hO : PrtsOk w ps) (hQ : Prts w B qs) (hOq : PrtsOk w qs) (bx : ps.length ≤ 1000000) (by_ : qs.length ≤ 1000000) :
    Calls Try.prog 44 #[.slice A ps.length c, .slice B qs.length d] w fun e w' => e = .returned (.bool (decide (nds ps = nds qs))) ∧ Ext w w' := by
  have CE := Lib.hid (equalFunc_any A B ps qs c d w hP hO hQ hOq bx by_)
  clear hP hO hQ hOq
  go_enter Try.func44, Try.ntmps44
  go_wp2_with fail
  refine CE.out.mono ?_
  rintro e w2 ⟨rfl, hx⟩
  have HX := Lib.hid hx
  clear hx
  go_wp2_with fail
  go_ret
  exact ⟨rfl, HX.out⟩
end Go.Proofs.Ytggmljookcmnkaa
