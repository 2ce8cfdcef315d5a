/- The contract of splice.Fits. -/
import Derived.Test.YtaffaeompdlecaaU2
import Derived.Test.YtaffaeompdlecaaD5
import Derived.Test.YtaffaeompdlecaaTx
import Derived.WalkSpells
import Derived.WalkLawsBesides
import Derived.BigRegion
import Derived.Deep.RegionWith
import Derived.Deep.QuietTactic
import Derived.Deep.DeepCutAuto
import Derived.Deep.RegionHeld3
import Derived.Deep.RegionLaw
import Derived.BigQuiet
import Derived.Lib.Hide
namespace Go.Proofs.Ytaffaeompdlecaa
open Go.RowKit
attribute [local go_sem] more_drew more_drewN more_size more_cell more_frozen more_setCell drew_more drewN_more lt_add_r lt_add_r2 lt_add_r3 lt_add_r4 lt_add_r5 lt_add_r6 lt_add_r7 lt_add_r8 lt_add_r9 lt_add_r10 lt_self_r lt_self_r2

def FitsT (l s : List Nd) (i : Int) : Prop := Tree l ∧ Tree s ∧ FitsP l s i
/-- a truth value that tells whether -/
def TellsB (w : World) (X : Prop) (e : Ending) (w' : World) : Prop := ∃ b, e = .returned (.bool b) ∧ (b = true ↔ X) ∧ Ext w w'
def headF (p q : Nd) : Bool := (p.sym == q.sym) && (p.kind == q.kind) && (p.lo == q.lo) && (p.hi == q.hi)
theorem headF_iff {l s : List Nd} {j : Nat} {p q : Nd} (hp : l[j]? = some p) (hq : s[0]? = some q) : headF p q = true ↔ FitsP l s j := by
  simp only [headF, Bool.and_eq_true, beq_iff_eq]
  constructor
  · rintro ⟨⟨⟨h1, h2⟩, h3⟩, h4⟩
    exact ⟨j, p, q, rfl, hp, hq, h1, h2, h3, h4⟩
  · rintro ⟨j', p', q', e, hp', hq', h1, h2, h3, h4⟩
    obtain rfl : j' = j := by omega
    rw [hp] at hp'
    rw [hq] at hq'
    cases hp'
    cases hq'
    exact ⟨⟨⟨h1, h2⟩, h3⟩, h4⟩
theorem FitsP.in {l s : List Nd} {i : Int} (h : FitsP l s i) : 0 ≤ i ∧ i < (l.length : Int) := by
  obtain ⟨j, p, q, rfl, hp, _⟩ := h
  have := (List.getElem?_eq_some_iff.1 hp).1
  omega
section
variable {A B : Option Addr} {c d : Nat} {ps ss : List Prt} {w : World}
set_option maxRecDepth 100000 in
set_option maxHeartbeats 2000000 in
theorem fits_any (i : Int) (h : PS w A c ps) (hs : PS w B d ss) : Calls Try.prog 74 #[.slice A ps.length c, .int .i64 i, .slice B ss.length d] w (TellsB w (FitsT (nds ps) (nds ss) i)) := by
  have HL := h.few.len
  have S := Lib.hid h
  have SS := Lib.hid hs
  clear h hs
  by_cases T : Tree (nds ps)
  · have CH := Lib.hid (fun w1 (x : Ext w w1) => check_ok (S.out.ext x) T)
    by_cases T2 : Tree (nds ss)
    · have CS := Lib.hid (fun w1 (x : Ext w w1) => check_ok (SS.out.ext x) T2)
      have hs0 := T2.pos
      rw [nds_length] at hs0
      have HT := Lib.hid T
      have HT2 := Lib.hid T2
      clear T T2
      by_cases h0 : i < 0
      · have NO : Hid (¬ FitsT (nds ps) (nds ss) i) := Lib.hid (fun ⟨_, _, h⟩ => by have := h.in; omega)
        go_enter Try.func74, Try.ntmps74
        go_wp2_with fail
        refine (CH.out _ (Ext.refl _)).mono ?_
        rintro e w1 ⟨rfl, hx1⟩
        have HX1 := Lib.hid hx1
        clear hx1
        go_wp2_with fail
        refine (CS.out _ HX1.out).mono ?_
        rintro e w2 ⟨rfl, hx2⟩
        have HX2 := Lib.hid (HX1.out.trans hx2)
        clear hx2
        go_wp2_with fail
        go_ret
        exact ⟨false, rfl, ⟨nofun, fun h => absurd h NO.out⟩, HX2.out⟩
      · by_cases h1 : i < (ps.length : Int)
        · obtain ⟨j, rfl⟩ : ∃ j : Nat, i = (j : Int) := ⟨i.toNat, by omega⟩
          have hjl : j < ps.length := by omega
          obtain ⟨p, hp⟩ : ∃ p, ps[j]? = some p := ⟨_, List.getElem?_eq_getElem hjl⟩
          obtain ⟨q, hq⟩ : ∃ q, ss[0]? = some q := ⟨_, List.getElem?_eq_getElem hs0⟩
          have HPP := Lib.hid hp
          have HQQ := Lib.hid hq
          clear hp hq h0 h1
          go_enter Try.func74, Try.ntmps74
          go_wp2_with fail
          refine (CH.out _ (Ext.refl _)).mono ?_
          rintro e w1 ⟨rfl, hx1⟩
          have HX1 := Lib.hid hx1
          clear hx1
          go_wp2_with fail
          refine (CS.out _ HX1.out).mono ?_
          rintro e w2 ⟨rfl, hx2⟩
          have HX2 := Lib.hid (HX1.out.trans hx2)
          clear hx2
          obtain ⟨b, off, rfl, hb, hcell⟩ := (S.out.ext HX2.out).parts (by omega)
          obtain ⟨d0, d1, d2, d3, d4, d5, d6, d7⟩ := hcell j _ HPP.out
          obtain ⟨b', off', rfl, hb', hcell'⟩ := (SS.out.ext HX2.out).parts hs0
          obtain ⟨e0, e1, e2, e3, e4, e5, e6, e7⟩ := hcell' 0 _ HQQ.out
          simp only [Nat.zero_mul, Nat.add_zero] at e0 e1 e2 e3 e4 e5 e6 e7
          have hjl2 := hjl
          clear hcell hcell'
          go_upto_region 3 with fail
          go_cut [7, 8] (fun x y wx => ∃ g h, x = pt g ∧ y = pt h ∧ Hid (wx.heap[g]? = some (.cells (prtCells p).toArray 35)) ∧ Hid (wx.heap[h]? = some (.cells (prtCells q).toArray 35)) ∧ Hid (Ext w wx))
          case first =>
            refine wp_region_segsB 10 (.two (.step 7 (.step 8 (.step 9 (.step 10 .fin)))) (.step 8 (.step 7 (.step 9 (.step 10 .fin))))) [0, 1, 2, 3, 4, 5, 6] (by kernel_rfl) (by kernel_rfl) ?_
            intro K hK
            simp only [pick, nthC]
            repeat (go_big_quiet_step (fail))
            refine wpQuiet_nil (hK _ ?_)
            clear hK K
            simp only [wpBr, pick, nthC]
            refine ⟨?_, ?_⟩
            · go_wp2_with fail
              refine segQ_mk (fun _ => laid (by repeat (first | exact Ext.refl _ | refine Ext.alloc ?_ _ | refine Ext.more ?_ _ _ | refine Ext.drew ?_ | refine Ext.drewN ?_ _ | refine Ext.setCell ?_ (by simp <;> omega) _))) ?_
              go_wp2_with fail
              refine segQ_mk (fun _ => laid (by repeat (first | exact Ext.refl _ | refine Ext.alloc ?_ _ | refine Ext.more ?_ _ _ | refine Ext.drew ?_ | refine Ext.drewN ?_ _ | refine Ext.setCell ?_ (by simp <;> omega) _))) ?_
              go_wp2_with fail
              refine segQ_mk (fun _ => laid (by repeat (first | exact Ext.refl _ | refine Ext.alloc ?_ _ | refine Ext.more ?_ _ _ | refine Ext.drew ?_ | refine Ext.drewN ?_ _ | refine Ext.setCell ?_ (by simp <;> omega) _))) ?_
              go_wp2_with fail
              refine segQ_mk (fun h => absurd rfl h) ?_
              go_wp2_with fail
              go_meet
              exact ⟨_, _, rfl, rfl, Lib.hid (by show ((w2.alloc _).alloc _).heap[_]? = _; exact (by simp only [heap_alloc_get, World.size_alloc]; (repeat (split; (first | rfl | (exfalso; omega)))); (try (first | (exfalso; omega) | simp_all)))), Lib.hid (by show ((w2.alloc _).alloc _).heap[_]? = _; exact (by simp only [heap_alloc_get, World.size_alloc]; (repeat (split; (first | rfl | (exfalso; omega)))); (try (first | (exfalso; omega) | simp_all)))), Lib.hid (HX2.out.trans (by repeat (first | exact Ext.refl _ | refine Ext.alloc ?_ _ | refine Ext.more ?_ _ _ | refine Ext.drew ?_ | refine Ext.drewN ?_ _ | refine Ext.setCell ?_ (by simp <;> omega) _)))⟩
            · go_wp2_with fail
              refine segQ_mk (fun _ => laid (by repeat (first | exact Ext.refl _ | refine Ext.alloc ?_ _ | refine Ext.more ?_ _ _ | refine Ext.drew ?_ | refine Ext.drewN ?_ _ | refine Ext.setCell ?_ (by simp <;> omega) _))) ?_
              go_wp2_with fail
              refine segQ_mk (fun _ => laid (by repeat (first | exact Ext.refl _ | refine Ext.alloc ?_ _ | refine Ext.more ?_ _ _ | refine Ext.drew ?_ | refine Ext.drewN ?_ _ | refine Ext.setCell ?_ (by simp <;> omega) _))) ?_
              go_wp2_with fail
              refine segQ_mk (fun _ => laid (by repeat (first | exact Ext.refl _ | refine Ext.alloc ?_ _ | refine Ext.more ?_ _ _ | refine Ext.drew ?_ | refine Ext.drewN ?_ _ | refine Ext.setCell ?_ (by simp <;> omega) _))) ?_
              go_wp2_with fail
              refine segQ_mk (fun h => absurd rfl h) ?_
              go_wp2_with fail
              go_meet
              exact ⟨_, _, rfl, rfl, Lib.hid (by show ((w2.alloc _).alloc _).heap[_]? = _; exact (by simp only [heap_alloc_get, World.size_alloc]; (repeat (split; (first | rfl | (exfalso; omega)))); (try (first | (exfalso; omega) | simp_all)))), Lib.hid (by show ((w2.alloc _).alloc _).heap[_]? = _; exact (by simp only [heap_alloc_get, World.size_alloc]; (repeat (split; (first | rfl | (exfalso; omega)))); (try (first | (exfalso; omega) | simp_all)))), Lib.hid (HX2.out.trans (by repeat (first | exact Ext.refl _ | refine Ext.alloc ?_ _ | refine Ext.more ?_ _ _ | refine Ext.drew ?_ | refine Ext.drewN ?_ _ | refine Ext.setCell ?_ (by simp <;> omega) _)))⟩
          case rest =>
            obtain ⟨g, h, rfl, rfl, G, H, X⟩ := hcut
            obtain ⟨lg, x0, x1, x2, x3, x4, x5, x6, x7⟩ := part_cells G.out
            obtain ⟨lh, y0, y1, y2, y3, y4, y5, y6, y7⟩ := part_cells H.out
            have IFF := Lib.hid (headF_iff (nds_get HPP.out) (nds_get HQQ.out))
            clear d0 d1 d2 d3 d4 d5 d6 d7 e0 e1 e2 e3 e4 e5 e6 e7 hb hb' HX2
            obtain ⟨⟨s1, k1, l1, i1, h1', o1, ks1, m1⟩, kA1, kc1⟩ := p
            obtain ⟨⟨s2, k2, l2, i2, h2', o2, ks2, m2⟩, kA2, kc2⟩ := q
            dsimp only at *
            go_wp2_with go_in
            all_goals go_ret
            all_goals exact ⟨_, rfl, Iff.trans (by unfold headF; simp_all) (Iff.trans IFF.out ⟨fun h => ⟨HT.out, HT2.out, h⟩, fun h => h.2.2⟩), X.out⟩
        · have NO : Hid (¬ FitsT (nds ps) (nds ss) i) := Lib.hid (fun ⟨_, _, h⟩ => by have := h.in; rw [nds_length] at this; omega)
          have h0' : ¬ i < 0 := h0
          go_enter Try.func74, Try.ntmps74
          go_wp2_with fail
          refine (CH.out _ (Ext.refl _)).mono ?_
          rintro e w1 ⟨rfl, hx1⟩
          have HX1 := Lib.hid hx1
          clear hx1
          go_wp2_with fail
          refine (CS.out _ HX1.out).mono ?_
          rintro e w2 ⟨rfl, hx2⟩
          have HX2 := Lib.hid (HX1.out.trans hx2)
          clear hx2
          go_wp2_with fail
          go_ret
          exact ⟨false, rfl, ⟨nofun, fun h => absurd h NO.out⟩, HX2.out⟩
    · have CS := Lib.hid (fun w1 (x : Ext w w1) => check_no (SS.out.ext x) T2)
      have NO : Hid (¬ FitsT (nds ps) (nds ss) i) := Lib.hid (fun ⟨_, h, _⟩ => T2 h)
      clear T2
      go_enter Try.func74, Try.ntmps74
      go_wp2_with fail
      refine (CH.out _ (Ext.refl _)).mono ?_
      rintro e w1 ⟨rfl, hx1⟩
      have HX1 := Lib.hid hx1
      clear hx1
      go_wp2_with fail
      refine (CS.out _ HX1.out).mono ?_
      rintro e w2 ⟨rfl, hx2⟩
      have HX2 := Lib.hid (HX1.out.trans hx2)
      clear hx2
      go_wp2_with fail
      go_ret
      exact ⟨false, rfl, ⟨nofun, fun h => absurd h NO.out⟩, HX2.out⟩
  · have CH := Lib.hid (fun w1 (x : Ext w w1) => check_no (S.out.ext x) T)
    have NO : Hid (¬ FitsT (nds ps) (nds ss) i) := Lib.hid (fun ⟨h, _, _⟩ => T h)
    clear T
    go_enter Try.func74, Try.ntmps74
    go_wp2_with fail
    refine (CH.out _ (Ext.refl _)).mono ?_
    rintro e w1 ⟨rfl, hx1⟩
    have HX1 := Lib.hid hx1
    clear hx1
    go_wp2_with fail
    go_ret
    exact ⟨false, rfl, ⟨nofun, fun h => absurd h NO.out⟩, HX1.out⟩
end
end Go.Proofs.Ytaffaeompdlecaa
