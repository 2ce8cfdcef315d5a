/- TgTargetCalls: texts that the proof rests on, part 2. -/
import Derived.Test.YthpmncdfaggkiaaGreatCr1
import Derived.Test.YthpmncdfaggkiaaGreatCr10
import Derived.Test.YthpmncdfaggkiaaGreatCr11
import Derived.Test.YthpmncdfaggkiaaGreatCr2
import Derived.Test.YthpmncdfaggkiaaGreatCr3
import Derived.Test.YthpmncdfaggkiaaGreatCr5
import Derived.Test.YthpmncdfaggkiaaGreatCr6
import Derived.Test.YthpmncdfaggkiaaGreatCr7
import Derived.Test.YthpmncdfaggkiaaGreatCr8
import Derived.Test.YthpmncdfaggkiaaGreatCr9
import Derived.Test.YthpmncdfaggkiaaGreatTg1
import Derived.Test.YthpmncdfaggkiaaGreatTg2
import Derived.Test.YthpmncdfaggkiaaGreatTgTargetCalls1
import Derived.WalkSpells
import Derived.WalkLawsBesides
import Derived.BigRegion
import Derived.Deep.RegionWith
import Derived.Deep.QuietTactic
import Derived.Deep.DeepCutAuto
import Derived.Deep.RegionHeld3
import Derived.Deep.RegionLaw
import Derived.BigQuiet
import Derived.Lib.Hide
import Derived.Test.YthpmncdfaggkiaaGreatChecked
import Derived.Maps.AppendAt
import Derived.Deep.AppendLies
import Derived.RegionTactic
import Derived.OwnWalk
import Derived.Laws.OwnMore
import Derived.RangeFuncNested
import Derived.RangeFuncBound
import Derived.RangeFuncCalls
import Derived.RangeFuncLeaves
import Derived.RangeFuncRecord
import Derived.RangeFuncIn
import Derived.Sort.QuietThIn
import Derived.Orders
import Derived.Deep.Quiet
import Derived.WalkKit
import Derived.Handy
import Derived.Deep.Draws
import Derived.OwnWalkIn
import Derived.TacticsInMore
import Derived.LoopNIn
import Derived.LoopIn
import Derived.Deep.LoopGhost
import Derived.Laws.EntriesVeiled
import Derived.Test.YthpmncdfaggkiaaGreatRows
import Derived.Shelf.Abstract
import Derived.Lib.AppendZeros
import Derived.Deep.OwnRows
import Derived.Laws.BitsAllLaws
import Derived.Laws.Closers25b
import Derived.WalkMore
namespace Go.Proofs.YthpmncdfaggkiaaGreat
open Go.RowKit
attribute [local go_sem] more_drew more_drewN more_size more_cell more_frozen more_setCell drew_more drewN_more lt_add_r lt_add_r2 lt_add_r3 lt_add_r4 lt_add_r5 lt_add_r6 lt_add_r7 lt_add_r8 lt_add_r9 lt_add_r10 lt_self_r lt_self_r2
set_option maxRecDepth 100000 in
set_option maxHeartbeats 1500000 in
theorem rend_any (A : Option Addr) (c : Nat) (ps : List Prt) : ∀ (fuel i m : Nat) (ok : Bool) (p : Prt) (w : World), PS w A c ps → ps.length - i ≤ fuel → ps[i]? = some p → Trek (nds ps) p.nd.kids (i + 1) ok m →
    Calls Tryz.prog 50 #[.slice A ps.length c, .int .i64 i] w fun e w' => e = .returned (.int .i64 (endR (nds ps) (i + 1) m ok p.nd.hi p.nd.lo p.nd.kids)) ∧ Ext w w' := by
  intro fuel
  induction fuel with
  | zero =>
    intro i m ok p w h hf hp ht
    have := lt_of_get hp
    omega
  | succ fuel ih =>
    intro i m ok p w h hf hp ht
    have hil := lt_of_get hp
    have hl := h.few.len
    obtain ⟨b, off, rfl, hb, hcell⟩ := h.parts (by omega)
    obtain ⟨_, _, d2, _, d4, _, d6, _⟩ := hcell i p hp
    have hcap := h.cap
    have b1 : IntKind.i64.wrap ((i : Int) + 1) = ((i + 1 : Nat) : Int) := by
      rw [show ((i : Int) + 1) = ((i + 1 : Nat) : Int) by omega]
      exact IntWalk.i64_in _ (by omega)
    have hpo := h.oks.get hp
    have ho1 := hpo.cap
    have ho2 := hpo.top
    have S := zh h
    have IH := zh ih
    have HT := zh ht
    have HPP := zh hp
    have HPO := zh hpo
    clear h ih ht hp hcell hpo
    go_enter Tryz.func50, Tryz.ntmps50
    go_upto_region 1 with fail
    refine wp_region_ext (by kernel_rfl) (by kernel_rfl) ?_
    repeat (go_big_quiet_step (fail))
    refine wpQuiet_nil ?_
    intro _ hw'
    obtain ⟨x9, rfl⟩ := hw'
    obtain ⟨W4, hW4⟩ : ∃ W4, more w x9.os x9.k = W4 := ⟨_, rfl⟩
    have HX4 : Hid (Ext w W4) := zh (by rw [← hW4]; exact ⟨_, _, rfl⟩)
    rw [hW4]
    clear hW4
    have CELLS := zh (fun (V : World) (x : Ext w V) => (⟨(x.below.cell (p := ⟨b, off + i * 8 + 4, none⟩) hb).trans d4, (x.below.cell (p := ⟨b, off + i * 8 + 6, none⟩) hb).trans d6, Nat.lt_of_lt_of_le hb x.size⟩ :
      V.cell? ⟨b, off + i * 8 + 4, none⟩ = some (.int .i64 p.nd.hi) ∧ V.cell? ⟨b, off + i * 8 + 6, none⟩ = some (.slice p.kA p.nd.kids.length p.kc) ∧ b < V.heap.size))
    clear d2 d4 d6 b1
    go_wp2_with fail
    go_loopw [5, 6, 7] (fun nx av kv wr => ∃ (k n2 : Nat) (a2 : Int), k ≤ p.nd.kids.length ∧ kv = .int .i64 k ∧ nx = .int .i64 n2 ∧ av = .int .i64 a2 ∧ i < n2 ∧ n2 ≤ ps.length ∧
      Hid (Trek (nds ps) (p.nd.kids.drop k) n2 ok m ∧ endR (nds ps) (i + 1) m ok p.nd.hi p.nd.lo p.nd.kids = endR (nds ps) n2 m ok p.nd.hi a2 (p.nd.kids.drop k)) ∧ Hid (Ext w wr)) (fun _ _ kv _ => p.nd.kids.length - (intOf kv).toNat)
    case atStart => exact ⟨0, i + 1, p.nd.lo, Nat.zero_le _, rfl, rfl, rfl, by omega, by omega, zh ⟨HT.out, rfl⟩, HX4⟩
    case round =>
      obtain ⟨k, n2, a2, hk, rfl, rfl, rfl, hin, hn2, hH, hx⟩ := hrel
      obtain ⟨kd4, kd6, kb⟩ := CELLS.out wr hx.out
      by_cases hlt : k < p.nd.kids.length
      · obtain ⟨bk, offk, hkA, hbk, hck⟩ := (HPO.out.ext hx.out).kids (by omega)
        have e1 := hck k hlt
        obtain ⟨x, hxk⟩ : ∃ x, p.nd.kids[k]? = some x := ⟨_, List.getElem?_eq_getElem hlt⟩
        rw [List.getD_eq_getElem?_getD, hxk] at e1
        dsimp only [Option.getD_some] at e1
        have hdr : p.nd.kids.drop k = x :: p.nd.kids.drop (k + 1) := by
          rw [List.drop_eq_getElem_cons hlt]
          congr 1
          rw [List.getElem?_eq_getElem hlt] at hxk
          injection hxk
        have hH' := hH.out
        rw [hdr] at hH'
        obtain ⟨ht2, he2⟩ := hH'
        have HE2 := zh he2
        have HT2 := zh ht2
        rw [hkA] at kd6
        clear hck hxk hdr he2 ht2 hH hkA
        by_cases hbad : x ≠ (n2 : Int) ∨ (nds ps).length ≤ n2
        · have HR := zh (endR_bad (hi := p.nd.hi) (at' := a2) HT2.out hbad)
          rw [nds_length] at hbad
          by_cases hxn : x = (n2 : Int)
          · subst hxn
            have hle : decide (ps.length ≤ n2) = true := decide_eq_true (by omega)
            clear hbad
            go_wp2_with fail
            go_ret
            exact ⟨ret_int (by rw [HE2.out, HR.out]), hx.out.trans (by repeat first | exact xr _ | refine xa ?_ _ | refine xm ?_ _ _ | refine xd ?_ | refine xn ?_ _ | refine xs ?_ (by simp <;> omega) _)⟩
          · have hxb : (x != (n2 : Int)) = true := by simpa using hxn
            clear hbad hxn
            go_wp2_with fail
            go_ret
            exact ⟨ret_int (by rw [HE2.out, HR.out]), hx.out.trans (by repeat first | exact xr _ | refine xa ?_ _ | refine xm ?_ _ _ | refine xd ?_ | refine xn ?_ _ | refine xs ?_ (by simp <;> omega) _)⟩
        · have hxn : x = (n2 : Int) := Decidable.byContradiction fun h => hbad (.inl h)
          have hnl : n2 < ps.length := by rw [← nds_length]; exact Nat.lt_of_not_le fun h => hbad (.inr h)
          subst hxn
          clear hbad
          obtain ⟨q, hq⟩ : ∃ q, ps[n2]? = some q := ⟨_, List.getElem?_eq_getElem hnl⟩
          obtain ⟨b2, off2, hA2, _, hc2⟩ := (S.out.ext hx.out).parts (by omega)
          injection hA2 with hA2
          injection hA2 with ea eb
          subst ea eb
          obtain ⟨_, _, g2, _, g4, _, _, _⟩ := hc2 n2 q hq
          have hle : decide (ps.length ≤ n2) = false := decide_eq_false (by omega)
          by_cases hah : q.nd.lo < a2
          · have HR := zh (endR_ahead (m := m) (ok := ok) (hi := p.nd.hi) (ks := p.nd.kids.drop (k + 1)) (nds_get hq) hah)
            have hd : decide (q.nd.lo < a2) = true := decide_eq_true hah
            clear hah hq hc2
            go_wp2_with fail
            go_ret
            exact ⟨ret_int (by rw [HE2.out, HR.out]), hx.out.trans (by repeat first | exact xr _ | refine xa ?_ _ | refine xm ?_ _ _ | refine xd ?_ | refine xn ?_ _ | refine xs ?_ (by simp <;> omega) _)⟩
          · have hd : decide (q.nd.lo < a2) = false := decide_eq_false hah
            obtain ⟨ok', m', ht'⟩ := trek_all (nds ps) ps.length q.nd.kids (n2 + 1) (by rw [nds_length]; omega)
            have CALL := zh (fun (V : World) (x : Ext wr V) => IH.out n2 m' ok' q V ((S.out.ext hx.out).ext x) (by omega) hq ht')
            have HBN := zh (endR_sub_bad (hi := p.nd.hi) (at' := a2) (nds_get hq) HT2.out ht')
            have HOK := zh (endR_sub_ok (hi := p.nd.hi) (at' := a2) (nds_get hq) (Int.not_lt.1 hah) HT2.out ht')
            have hm' := ht'.le.2 (by rw [nds_length]; omega)
            rw [nds_length] at hm'
            obtain ⟨r, hr⟩ : ∃ r, endR (nds ps) (n2 + 1) m' ok' q.nd.hi q.nd.lo q.nd.kids = r := ⟨_, rfl⟩
            rw [hr] at CALL HBN HOK
            clear hah hq hc2 ht' hr
            go_wp2_with fail
            refine (CALL.out _ (by repeat first | exact xr _ | refine xa ?_ _ | refine xm ?_ _ _ | refine xd ?_ | refine xn ?_ _ | refine xs ?_ (by simp <;> omega) _)).mono ?_
            rintro e w3 ⟨rfl, hx3⟩
            have HX3 : Hid (Ext w w3) := zh (hx.out.trans (Ext.trans (by repeat first | exact xr _ | refine xa ?_ _ | refine xm ?_ _ _ | refine xd ?_ | refine xn ?_ _ | refine xs ?_ (by simp <;> omega) _) hx3))
            clear hx3
            by_cases hneg : r < 0
            · have hrd : decide (r < 0) = true := decide_eq_true hneg
              have HR := zh (HBN.out (by omega))
              clear hneg
              go_wp2_with fail
              go_ret
              exact ⟨ret_int (by rw [HE2.out, HR.out]), HX3.out⟩
            · have hrd : decide (r < 0) = false := decide_eq_false hneg
              obtain ⟨h1, h2, h3, h4⟩ := HOK.out (by omega)
              clear hneg
              subst h1
              have HR := zh (show Trek (nds ps) (p.nd.kids.drop (k + 1)) m' ok m ∧ endR (nds ps) (i + 1) m ok p.nd.hi p.nd.lo p.nd.kids = endR (nds ps) m' m ok p.nd.hi q.nd.hi (p.nd.kids.drop (k + 1)) from ⟨h3, HE2.out.trans h4⟩)
              clear h3 h4
              go_wp2_with fail
              go_roundw
              case rel => exact ⟨k + 1, m', q.nd.hi, by omega, by go_num, rfl, rfl, by omega, hm', HR, HX3⟩
              case measure => simp [intOf]; omega
      · obtain rfl : k = p.nd.kids.length := by omega
        have hH' := hH.out
        rw [List.drop_eq_nil_of_le (Nat.le_refl _)] at hH'
        have HR := zh (hH'.2.trans (endR_nil hH'.1))
        clear hH' hH
        by_cases ha : a2 ≤ p.nd.hi
        · have hd : decide (p.nd.hi < a2) = false := decide_eq_false (by omega)
          have HR2 := zh (HR.out.trans (if_pos ha))
          clear ha
          go_wp2_with fail
          go_ret
          exact ⟨ret_int (by rw [HR2.out]), hx.out.trans (by repeat first | exact xr _ | refine xa ?_ _ | refine xm ?_ _ _ | refine xd ?_ | refine xn ?_ _ | refine xs ?_ (by simp <;> omega) _)⟩
        · have hd : decide (p.nd.hi < a2) = true := decide_eq_true (by omega)
          have HR2 := zh (HR.out.trans (if_neg ha))
          clear ha
          go_wp2_with fail
          go_ret
          exact ⟨ret_int (by rw [HR2.out]), hx.out.trans (by repeat first | exact xr _ | refine xa ?_ _ | refine xm ?_ _ _ | refine xd ?_ | refine xn ?_ _ | refine xs ?_ (by simp <;> omega) _)⟩
section
variable {A : Option Addr} {c : Nat} {ps : List Prt} {w : World}
set_option maxRecDepth 100000 in
set_option maxHeartbeats 1500000 in
theorem rcheck_any (h : PS w A c ps) : Calls Tryz.prog 13 #[.slice A ps.length c] w fun e w' => e = .returned (.int .i64 (checkF (nds ps))) ∧ Ext w w' := by
  have hl := h.few.len
  have S := zh h
  have HC := zh (checkF_few hl)
  have hd0 : decide ((524288 : Int) < (ps.length : Int)) = false := decide_eq_false (by omega)
  clear h
  go_enter Tryz.func13, Tryz.ntmps13
  go_wp2_with fail
  go_loopw [3] (fun v wr => ∃ j : Nat, j ≤ ps.length ∧ v = .int .i64 j ∧ Hid (∀ i p, i < j → ps[i]? = some p → Bare p.nd ∧ (0 < i → p.nd.kind ≠ 1)) ∧ Hid (Ext w wr)) (fun v _ => ps.length - (intOf v).toNat)
  case atStart => exact ⟨0, Nat.zero_le _, rfl, zh (fun i p hi => by omega), zh (Ext.refl _)⟩
  case round =>
    obtain ⟨j, hj, rfl, hB, hx⟩ := hrel
    by_cases hlt : j < ps.length
    · obtain ⟨p, hp⟩ : ∃ p, ps[j]? = some p := ⟨_, List.getElem?_eq_getElem hlt⟩
      obtain ⟨b, off, rfl, hb, hcell⟩ := (S.out.ext hx.out).parts (by omega)
      obtain ⟨d0, d1, d2, d3, d4, d5, d6, d7⟩ := hcell j p hp
      have hcap := S.out.cap
      have NT : Hid (¬ (Bare p.nd ∧ (0 < j → p.nd.kind ≠ 1)) → ¬ Tree (nds ps)) := zh fun hn T => hn (T.bare j p.nd (nds_get hp))
      have NX : Hid (Bare p.nd ∧ (0 < j → p.nd.kind ≠ 1) → ∀ i q, i < j + 1 → ps[i]? = some q → Bare q.nd ∧ (0 < i → q.nd.kind ≠ 1)) := zh fun hok i q hi hq => by
        rcases (show i < j ∨ i = j by omega) with h | rfl
        · exact hB.out i q h hq
        · rw [hp] at hq
          injection hq with hq
          subst hq
          exact hok
      have D1 := zh (fun (V : World) (x : Ext wr V) => (⟨(x.below.cell (p := ⟨b, off + j * 8 + 1, none⟩) hb).trans d1, Nat.lt_of_lt_of_le hb x.size⟩ : V.cell? ⟨b, off + j * 8 + 1, none⟩ = some (.int .i64 p.nd.kind) ∧ b < V.heap.size))
      clear hcell hp
      go_wp2_with fail
      refine (bareR_any p wr).mono ?_
      rintro e w2 ⟨rfl, hx2⟩
      obtain ⟨k1, k2⟩ := D1.out w2 hx2
      have HX2 := zh (hx.out.trans hx2)
      clear hx2 d0 d1 d2 d3 d4 d5 d6 d7
      by_cases hBr : Bare p.nd
      · have hbd : decide (Bare p.nd) = true := decide_eq_true hBr
        by_cases h0 : j = 0
        · have h0d : decide (0 < j) = false := decide_eq_false (by omega)
          have N2 := zh (NX.out ⟨hBr, fun h => by omega⟩)
          clear hBr h0
          go_wp2_with fail
          go_roundw
          case rel => exact ⟨j + 1, by omega, by go_num, N2, HX2⟩
          case measure => simp [intOf]; omega
        · have h0d : decide (0 < j) = true := decide_eq_true (by omega)
          by_cases hk : p.nd.kind = 1
          · have hk1 : (p.nd.kind == 1) = true := by simp [hk]
            have N2 := zh (NT.out (fun h => h.2 (by omega) hk))
            clear hBr h0 hk
            go_wp2_with fail
            go_ret
            exact ⟨ret_int (by rw [HC.out.2 N2.out]), HX2.out⟩
          · have hk1 : (p.nd.kind == 1) = false := by simp [hk]
            have N2 := zh (NX.out ⟨hBr, fun _ => hk⟩)
            clear hBr h0 hk
            go_wp2_with fail
            go_roundw
            case rel => exact ⟨j + 1, by omega, by go_num, N2, HX2⟩
            case measure => simp [intOf]; omega
      · have hbd : decide (Bare p.nd) = false := decide_eq_false hBr
        have N2 := zh (NT.out (fun h => hBr h.1))
        clear hBr
        go_wp2_with fail
        go_ret
        exact ⟨ret_int (by rw [HC.out.2 N2.out]), HX2.out⟩
    · obtain rfl : j = ps.length := by omega
      by_cases h0 : ps.length = 0
      · have hz : ((ps.length : Int) == 0) = true := by simp [h0]
        have N2 : Hid (¬ Tree (nds ps)) := zh fun T => by have := T.pos; rw [nds_length] at this; omega
        clear h0
        go_wp2_with fail
        go_ret
        exact ⟨ret_int (by rw [HC.out.2 N2.out]), hx.out⟩
      · have hz : ((ps.length : Int) == 0) = false := by rw [beq_eq_false_iff_ne]; omega
        obtain ⟨p, hp⟩ : ∃ p, ps[0]? = some p := ⟨_, List.getElem?_eq_getElem (by omega)⟩
        obtain ⟨ok, m, ht⟩ := trek_all (nds ps) ps.length p.nd.kids 1 (by rw [nds_length]; omega)
        have CE := zh (rend_any A c ps ps.length 0 m ok p wr (S.out.ext hx.out) (by omega) hp ht)
        have HTI : Hid (Tree (nds ps) ↔ endR (nds ps) 1 m ok p.nd.hi p.nd.lo p.nd.kids = (ps.length : Int)) := zh (by
          rw [tree_iff (nds_get hp) ht, nds_length]
          refine ⟨fun h => h.2, fun h => ⟨fun i q hq => ?_, h⟩⟩
          obtain ⟨q', hq', rfl⟩ := nds_get' hq
          exact hB.out i q' (lt_of_get hq') hq')
        obtain ⟨r, hr⟩ : ∃ r, endR (nds ps) 1 m ok p.nd.hi p.nd.lo p.nd.kids = r := ⟨_, rfl⟩
        rw [Nat.zero_add, hr] at CE
        rw [hr] at HTI
        clear hp ht hr h0
        go_wp2_with fail
        refine CE.out.mono ?_
        rintro e w3 ⟨rfl, hx3⟩
        have HX3 := zh (hx.out.trans hx3)
        clear hx3
        by_cases hrn : r = (ps.length : Int)
        · have hb : (r != (ps.length : Int)) = false := by simp [hrn]
          have T := zh (HTI.out.2 hrn)
          clear hrn
          go_wp2_with fail
          go_ret
          exact ⟨ret_int (by rw [HC.out.1 T.out]), HX3.out⟩
        · have hb : (r != (ps.length : Int)) = true := by simpa using hrn
          have T := zh (fun h => hrn (HTI.out.1 h))
          clear hrn
          go_wp2_with fail
          go_ret
          exact ⟨ret_int (by rw [HC.out.2 T.out]), HX3.out⟩
theorem rcheck_ok (h : PS w A c ps) (T : Tree (nds ps)) : Calls Tryz.prog 13 #[.slice A ps.length c] w fun e w' => e = .returned (.int .i64 0) ∧ Ext w w' :=
  (rcheck_any h).mono fun _ _ ⟨he, hx⟩ => ⟨by rw [he, (checkF_few h.few.len).1 T], hx⟩
theorem rcheck_no (h : PS w A c ps) (T : ¬ Tree (nds ps)) : Calls Tryz.prog 13 #[.slice A ps.length c] w fun e w' => e = .returned (.int .i64 2) ∧ Ext w w' :=
  (rcheck_any h).mono fun _ _ ⟨he, hx⟩ => ⟨by rw [he, (checkF_few h.few.len).2 T], hx⟩
set_option maxRecDepth 100000 in
set_option maxHeartbeats 1000000 in
theorem ris_yes (i : Int) (h : PS w A c ps) (T : Tree (nds ps)) : Calls Tryz.prog 56 #[.slice A ps.length c, .int .i64 i] w fun e w' => e = .returned (.bool (decide (0 ≤ i) && decide (i < (ps.length : Int)))) ∧ Ext w w' := by
  have CH := zh (rcheck_ok h T)
  have hl := h.few.len
  clear h T
  go_enter Tryz.func56, Tryz.ntmps56
  go_wp2_with fail
  refine CH.out.mono ?_
  rintro e w2 ⟨rfl, hx2⟩
  have HX := zh hx2
  clear hx2
  go_wp2_with fail
  all_goals go_ret
  all_goals exact ⟨ret_bool (by rw [Bool.eq_iff_iff]; simp; try omega), HX.out⟩
set_option maxRecDepth 100000 in
set_option maxHeartbeats 1000000 in
theorem rEnd_yes (i m : Nat) (h : PS w A c ps) (T : Tree (nds ps)) (hp : Part (nds ps) i m) : Calls Tryz.prog 18 #[.slice A ps.length c, .int .i64 i] w fun e w' => e = .returned (.int .i64 m) ∧ Ext w w' := by
  have hil := hp.lt
  rw [nds_length] at hil
  have CH := zh (ris_yes (i : Int) h T)
  obtain ⟨p, hpp⟩ : ∃ p, ps[i]? = some p := ⟨_, List.getElem?_eq_getElem hil⟩
  obtain ⟨ok, m', ht⟩ := trek_all (nds ps) ps.length p.nd.kids (i + 1) (by rw [nds_length]; omega)
  have CE := zh (fun (V : World) (x : Ext w V) => rend_any A c ps ps.length i m' ok p V (h.ext x) (by omega) hpp ht)
  rw [endR_tree T (nds_get hpp) hp ht] at CE
  have hd1 : decide ((0 : Int) ≤ (i : Int)) = true := decide_eq_true (by omega)
  have hd2 : decide ((i : Int) < (ps.length : Int)) = true := decide_eq_true (by omega)
  rw [hd1, hd2] at CH
  clear h T hp hpp ht hd1 hd2
  go_enter Tryz.func18, Tryz.ntmps18
  go_wp2_with fail
  refine CH.out.mono ?_
  rintro e w2 ⟨rfl, hx2⟩
  have HX := zh hx2
  clear hx2
  go_wp2_with fail
  refine (CE.out _ HX.out).mono ?_
  rintro e w3 ⟨rfl, hx3⟩
  have HX3 := zh (HX.out.trans hx3)
  clear hx3
  go_wp2_with fail
  go_ret
  exact ⟨rfl, HX3.out⟩
end
structure MvV (w : World) (m : Nat) (v : Value) (qs : List Prt) (p : Prt) (d : Int) (k : Nat) (A : Option Addr) (c : Nat) (W : World) : Prop where
  low : Low m W (fun U => RowP U w.heap.size v qs ∧ Below w.heap.size w U)
  part : W.heap[m]? = some (.cells (prtCells ⟨{ p.nd with kids := (p.nd.kids.take k).map (· + d) }, A, c⟩).toArray 34)
  own : OwnI W m A c ((p.nd.kids.take k).map (· + d))
theorem RowP.below {w w' : World} {base : Nat} {v : Value} {qs : List Prt} (h : RowP w base v qs) (e : Below w.heap.size w w') : RowP w' base v qs := by
  obtain ⟨A, c, hv, ho⟩ := h
  exact ⟨A, c, hv, own_keep ho.row fun g hg => e.block g (own_old ho.row g hg), fun q hq => (ho.kids q hq).below e, ho.fine⟩
theorem MvV.rowP {w : World} {m : Nat} {v : Value} {qs : List Prt} {p : Prt} {d : Int} {k : Nat} {A : Option Addr} {c : Nat} {W : World} (h : MvV w m v qs p d k A c W) : RowP W w.heap.size v qs :=
  Low.up (Φ := fun U => RowP U w.heap.size v qs) (h.low.imp fun _ h => h.1) fun _ h e => h.below e
theorem MvV.below {w : World} {m : Nat} {v : Value} {qs : List Prt} {p : Prt} {d : Int} {k : Nat} {A : Option Addr} {c : Nat} {W : World} (h : MvV w m v qs p d k A c W) : Below w.heap.size w W :=
  Low.up (Φ := Below w.heap.size w) (h.low.imp fun _ h => h.2) fun _ h e => h.trans (e.mono h.size)
set_option maxRecDepth 100000 in
set_option maxHeartbeats 2000000 in
theorem rmoved_any (d : Int) (A : Option Addr) (c : Nat) (ps : List Prt) (w : World) (hP : Prts w A ps) (hO : PrtsOk w ps) (hf : Few ps) (_ : ps.length ≤ c) (hfi : ∀ p ∈ ps, ∀ x ∈ p.nd.kids, I64 (x + d)) :
    Calls Tryz.prog 133 #[.slice A ps.length c, .int .i64 d] w (PartsRet w ((nds ps).map (Nd.by (· + d)))) := by
  have hl := hf.len
  have HP := zh hP
  have HO := zh hO
  have HFI := zh hfi
  have HFW := zh hf
  clear hP hO hfi hf
  go_enter Tryz.func133, Tryz.ntmps133
  go_wp2_with fail
  go_loopw [5, 6] (fun v i wr => ∃ (j : Nat) (qs : List Prt), j ≤ ps.length ∧ i = .int .i64 j ∧ Hid (qs.length = j ∧ nds qs = ((nds ps).take j).map (Nd.by (· + d))) ∧ Hid (RowP wr w.heap.size v qs) ∧ Hid (Ext w wr)) (fun _ i _ => ps.length - (intOf i).toNat)
  case atStart => exact ⟨0, [], Nat.zero_le _, rfl, zh ⟨rfl, rfl⟩, zh ⟨none, 0, rfl, OwnP.nil _ _⟩, zh (Ext.refl _)⟩
  case round =>
    obtain ⟨j, qs, hj, rfl, hq, hr, hx⟩ := hrel
    by_cases hlt : j < ps.length
    · obtain ⟨p, hp⟩ : ∃ p, ps[j]? = some p := ⟨_, List.getElem?_eq_getElem hlt⟩
      obtain ⟨b, off, rfl, hb, hcell⟩ := (HP.out.ext hx.out) (by omega)
      obtain ⟨d0, d1, d2, d3, d4, d5, d6, d7⟩ := hcell j _ hp
      have hpo := HO.out.get hp
      have hkn := HFW.out.kids_le (List.mem_of_getElem? hp)
      have HS : Hid (((nds ps).take (j + 1)).map (Nd.by (· + d)) = ((nds ps).take j).map (Nd.by (· + d)) ++ [p.nd.by (· + d)]) := zh (by
        have h1 := nds_get hp
        rw [List.getElem?_eq_getElem (by rw [nds_length]; exact hlt)] at h1
        injection h1 with h1
        rw [List.take_succ_eq_append_getElem (by rw [nds_length]; exact hlt), h1, List.map_append]
        rfl)
      have HPO := zh hpo
      have HPP := zh hp
      have HFK := zh (HFI.out p (List.mem_of_getElem? hp))
      clear hcell hp hpo
      go_upto_region 7 with fail
      obtain ⟨m, hm⟩ : ∃ m, wr.heap.size = m := ⟨_, rfl⟩
      obtain ⟨W4, hW4⟩ : ∃ W4, wr.alloc (.cells #[.int .i64 p.nd.sym, .int .i64 p.nd.kind, .int .i64 p.nd.lo, .int .i64 p.nd.inn, .int .i64 p.nd.hi, .int .i64 p.nd.look, .slice none 0 0, .int .u64 p.nd.met] 34) = W4 := ⟨_, rfl⟩
      have X4 : Ext wr W4 := by rw [← hW4]; exact (by repeat first | exact xr _ | refine xa ?_ _ | refine xm ?_ _ _ | refine xd ?_ | refine xn ?_ _ | refine xs ?_ (by simp <;> omega) _)
      have P4 : W4.heap[m]? = some (.cells (prtCells ⟨{ p.nd with kids := (p.nd.kids.take 0).map (· + d) }, none, 0⟩).toArray 34) := by
        rw [← hW4, ← hm]
        exact heap_alloc_new _ _
      have MV0 : Hid (MvV w m u5 qs p d 0 none 0 W4) := zh ⟨⟨wr, hm, (X4.below).mono (by omega), hr.out, hx.out.below⟩, P4, World.ownsRow_nil _ _ _ _⟩
      have HWM : Hid (w.heap.size ≤ m) := zh (by have := hx.out.size; omega)
      obtain ⟨wr0, hwr0⟩ : ∃ wr0 : World, wr0.heap.size = m := ⟨wr, hm⟩
      have HWR := zh hwr0
      rw [hm, hW4]
      clear hW4 X4 P4 d0 d1 d2 d3 d4 d5 d6 d7 hwr0 hm
      go_wp2_with fail
      go_loopw [8] (fun v wr2 => ∃ (k : Nat) (A2 : Option Addr) (c2 : Nat), k ≤ p.nd.kids.length ∧ v = .int .i64 k ∧ Hid (MvV w m u5 qs p d k A2 c2 wr2)) (fun v _ => p.nd.kids.length - (intOf v).toNat)
      case atStart => exact ⟨0, none, 0, Nat.zero_le _, rfl, MV0⟩
      case round =>
        obtain ⟨k, A2, c2, hk, rfl, hmv⟩ := hrel
        obtain ⟨b', off', hA', hb', hcell⟩ := (HP.out.below hmv.out.below) (by omega)
        injection hA' with hA'
        injection hA' with ea eb
        subst ea eb
        have d6 := (hcell j p HPP.out).2.2.2.2.2.2.1
        obtain ⟨ly, y0, y1, y2, y3, y4, y5, y6, y7⟩ := part_cells hmv.out.part
        have f6 : wr.frozen? ⟨m, 6, none⟩ = false := by simp [World.frozen?, hmv.out.part]
        have ko1 := HPO.out.cap
        have ko2 := HPO.out.top
        clear hcell
        by_cases hkl : k < p.nd.kids.length
        · obtain ⟨x, hxk⟩ : ∃ x, p.nd.kids[k]? = some x := ⟨_, List.getElem?_eq_getElem hkl⟩
          obtain ⟨bk, offk, hkA, hbk, hck⟩ := (HPO.out.below hmv.out.below).kids (by omega)
          have e1 := hck k hkl
          rw [List.getD_eq_getElem?_getD, hxk] at e1
          dsimp only [Option.getD_some] at e1
          have hxd := HFK.out x (List.mem_of_getElem? hxk)
          unfold I64 at hxd
          have b1 : IntKind.i64.wrap (x + d) = x + d := IntWalk.i64_in _ hxd
          have HTK : Hid ((p.nd.kids.take (k + 1)).map (· + d) = (p.nd.kids.take k).map (· + d) ++ [x + d]) := zh (by
            obtain ⟨hl', hx'⟩ := List.getElem?_eq_some_iff.1 hxk
            rw [List.take_succ_eq_append_getElem hl', List.map_append, hx']
            rfl)
          obtain ⟨xs, hxs⟩ : ∃ xs, (p.nd.kids.take k).map (· + d) = xs := ⟨_, rfl⟩
          have hxl : xs.length = k := by rw [← hxs, List.length_map, List.length_take]; omega
          have HOI : Hid (OwnI wr m A2 c2 xs) := zh (by rw [← hxs]; exact hmv.out.own)
          have HPM : Hid (wr.heap[m]? = some (.cells (prtCells ⟨{ p.nd with kids := xs }, A2, c2⟩).toArray 34)) := zh (by rw [← hxs]; exact hmv.out.part)
          have HLW := zh hmv.out.low
          have hmv0 := hmv.out.low
          change wr.cell? ⟨m, 6, none⟩ = some (.slice A2 ((p.nd.kids.take k).map (· + d)).length c2) at y6
          rw [hxs] at y6 HTK
          have HXL : Hid (xs.length ≤ 1000000) := zh (by omega)
          rw [hkA] at d6
          clear hck hxk hkA hxs hxl hmv hxd y0 y1 y2 y3 y4 y5 y7
          go_upto_region 10 with fail
          refine wp_region_segsT (13) [14, 15] [([0, 1, 2, 3, 4, 5, 6, 7, 8, 9, 10, 11], 12)] [] (by kernel_rfl) (by kernel_rfl) ?_
          (refine segsT_cons fun K hK => ?_); (first | (simp only [pick_nil]) | (simp only [pick, nthC])); (repeat (go_big_quiet_step (fail))); (refine wpQuiet_nil (hK _ fun next hn => ?_)); (clear hK K); (simp only [pick, nthC])
          go_wp2_with fail
          refine segQ_mk (fun _ => laid (by repeat first | exact xr _ | refine xa ?_ _ | refine xm ?_ _ _ | refine xd ?_ | refine xn ?_ _ | refine xs ?_ (by simp <;> omega) _)) (hn _ _ ?_)
          clear hn next
          (refine segsT_nil fun K hK => ?_); (first | (simp only [pick_nil]) | (simp only [pick, nthC])); (repeat (go_big_quiet_step (fail))); (refine wpQuiet_nil (hK _ ?_)); (clear hK K); (simp only [pick, nthC])
          have hm2 := hmv0.size
          have HR2 := zh (show RowI (wr.alloc (.cells #[.int .i64 (x + d)] 3)).drew wr0.heap.size (.slice A2 xs.length c2) xs from ⟨A2, c2, rfl, by rw [HWR.out]; exact HOI.out.ext (by repeat first | exact xr _ | refine xa ?_ _ | refine xm ?_ _ _ | refine xd ?_ | refine xn ?_ _ | refine xs ?_ (by simp <;> omega) _)⟩)
          at_builtin
          refine app_intO wr0 (by rfl) (.tmp 31) (.tmp 42) rfl HR2.out (x + d) wr.heap.size rfl rfl (by simp) (by show (wr.alloc (.cells #[.int .i64 (x + d)] 3)).cell? ⟨wr.heap.size, 0, none⟩ = _; rw [cell_of_row _ _ 0 _ _ _ (heap_alloc_new wr (.cells #[.int .i64 (x + d)] 3))]; rfl) HXL.out (by rw [HWR.out]; simp; omega) ?_
          intro v' w' hr' hg' hb'
          obtain ⟨A', c', hv', ho'⟩ := hr'
          obtain ⟨ln, hln⟩ : ∃ ln, (xs ++ [x + d]).length = ln := ⟨_, rfl⟩
          rw [hln] at hv'
          subst hv'
          rw [HWR.out] at ho'
          have hbn : some m ≠ (Value.slice A2 xs.length c2).ownBlock := fun he => by
            obtain ⟨cur, h2⟩ := own_obj HOI.out m he.symm
            rw [HPM.out] at h2
            injection h2 with h2
            injection h2 with _ h2
            exact absurd h2 (by decide)
          have hm1 : w'.heap[m]? = some (.cells (prtCells ⟨{ p.nd with kids := xs }, A2, c2⟩).toArray 34) := (hg'.block m (by simp; omega) hbn).trans (ext_block HPM.out (by repeat first | exact xr _ | refine xa ?_ _ | refine xm ?_ _ _ | refine xd ?_ | refine xn ?_ _ | refine xs ?_ (by simp <;> omega) _))
          have hown : ∀ g, (Value.slice A' ln c').ownBlock = some g → g ≠ m := fun g hg he => by
            obtain ⟨cur, h2⟩ := own_obj ho' g (hln.symm ▸ hg)
            rw [he, hm1] at h2
            injection h2 with h2
            injection h2 with _ h2
            exact absurd h2 (by decide)
          have fm : w'.frozen? ⟨m, 6, none⟩ = false := by simp [World.frozen?, hm1]
          have km := cell_of_row _ _ 6 _ _ _ hm1
          have lm := lt_of_heap hm1
          have HM1 := zh hm1
          have HOW := zh hown
          have HO' := zh ho'
          have HLN := zh hln
          have HG := zh hg'
          clear hm1 hown ho' hln hg' hb' hbn HR2
          go_wp2_with fail
          refine onlyN_mk ?_
          have T0 : Turn (fun k => m ≤ k) wr ((wr.alloc (.cells #[.int .i64 (x + d)] 3)).drew) := Turn.of_ext (by repeat first | exact xr _ | refine xa ?_ _ | refine xm ?_ _ _ | refine xd ?_ | refine xn ?_ _ | refine xs ?_ (by simp <;> omega) _)
          have T1 : Turn (fun k => m ≤ k) ((wr.alloc (.cells #[.int .i64 (x + d)] 3)).drew) w' := Turn.grown HG.out fun k hk _ => own_block HOI.out k hk
          have T2 : Turn (fun k => m ≤ k) w' (w'.setCell ⟨m, 6, none⟩ (.slice A' ln c')) := Turn.setCell w' (p := ⟨m, 6, none⟩) (Nat.le_refl m) _
          have TT := (T0.trans T1).trans T2
          have MVN : Hid (MvV w m u5 qs p d (k + 1) A' c' (w'.setCell ⟨m, 6, none⟩ (.slice A' ln c'))) := zh ⟨HLW.out.below (TT.below (by omega) fun k hk => hk), by
            rw [HTK.out, ← HLN.out]
            simp [World.setCell, Array.getElem?_modify, HM1.out, prtCells], by
            rw [HTK.out]
            refine own_keep HO'.out fun g hg => ?_
            have := HOW.out g (HLN.out ▸ hg)
            simp [World.setCell, Array.getElem?_modify, Ne.symm this]⟩
          clear T0 T1 T2 TT
          go_wp2_with fail
          go_roundw
          case rel => exact ⟨k + 1, A', c', by omega, by go_num, MVN⟩
          case measure => simp [intOf]; omega
        · obtain rfl : k = p.nd.kids.length := by omega
          have HR2 := zh hmv.out.rowP
          have HX2 : Hid (Ext w wr) := zh (Ext.of_below hmv.out.below)
          have hkk : (p.nd.kids.take p.nd.kids.length).map (· + d) = (p.nd.by (· + d)).kids := by rw [List.take_of_length_le (Nat.le_refl _)]; rfl
          have HO2 : Hid (OwnI wr w.heap.size A2 c2 (p.nd.by (· + d)).kids) := zh (hkk ▸ hmv.out.own.base HWM.out)
          have HPM : Hid (wr.heap[m]? = some (.cells (prtCells ⟨p.nd.by (· + d), A2, c2⟩).toArray 34)) := zh (by have := hmv.out.part; rw [hkk] at this; exact this)
          have HL : Hid (qs.length ≤ 1000000) := zh (by have := hq.out.1; omega)
          have HFN : Hid (FineP ⟨p.nd.by (· + d), A2, c2⟩) := by
            have hf := HPO.out.fine
            exact ⟨hf.sym, hf.kind, hf.lo, hf.inn, hf.hi, hf.look, hf.met, fun k hk => by
              obtain ⟨x, hx, rfl⟩ := List.mem_map.1 hk
              exact HFK.out x hx⟩
          clear hkk hmv y0 y1 y2 y3 y4 y5 y6 y7 f6
          obtain ⟨_, y0, y1, y2, y3, y4, y5, y6, y7⟩ := part_cells HPM.out
          go_wp2_with (at_builtin; refine app_part w (by rfl) (.tmp 45) (.tmp 47) rfl (HR2.out.ext (by repeat first | exact xr _ | refine xa ?_ _ | refine xm ?_ _ _ | refine xd ?_ | refine xn ?_ _ | refine xs ?_ (by simp <;> omega) _)) ⟨p.nd.by (· + d), A2, c2⟩ wr.heap.size rfl rfl (cells_lit _ _ _ _ _ rfl (by simp [prtCells, Nd.by])) (HO2.out.ext (by repeat first | exact xr _ | refine xa ?_ _ | refine xm ?_ _ _ | refine xd ?_ | refine xn ?_ _ | refine xs ?_ (by simp <;> omega) _)) HFN.out HL.out (HX2.out.trans (by repeat first | exact xr _ | refine xa ?_ _ | refine xm ?_ _ _ | refine xd ?_ | refine xn ?_ _ | refine xs ?_ (by simp <;> omega) _)) ?_; intro v7 w7 hr7 hx7)
          have HR7 := zh hr7
          have HX7 := zh hx7
          clear hr7 hx7
          go_roundw
          case rel => exact ⟨j + 1, _, by omega, by go_num, zh ⟨by rw [List.length_append, hq.out.1]; rfl, by rw [HS.out, ← hq.out.2]; simp [nds]⟩, HR7, HX7⟩
          case measure => simp [intOf]; omega
    · obtain rfl : j = ps.length := by omega
      obtain ⟨A1, c1, rfl, ho⟩ := hr.out
      have HO1 := zh ho
      clear ho
      go_wp2_with fail
      go_ret
      refine ⟨A1, c1, qs, rfl, ?_, HO1.out, hx.out⟩
      rw [hq.out.2, List.take_of_length_le (by rw [nds_length]; omega)]
section
variable {A : Option Addr} {c : Nat} {ps : List Prt} {w : World}
theorem ris_true (i : Int) (h : PS w A c ps) (T : IsP (nds ps) i) : Calls Tryz.prog 56 #[.slice A ps.length c, .int .i64 i] w fun e w' => e = .returned (.bool true) ∧ Ext w w' := by
  obtain ⟨T, h0, h1⟩ := T
  rw [nds_length] at h1
  refine (ris_yes i h T).mono ?_
  rintro e w' ⟨rfl, hx⟩
  exact ⟨ret_bool (by rw [decide_eq_true h0, decide_eq_true h1]; rfl), hx⟩
set_option maxRecDepth 100000 in
set_option maxHeartbeats 1000000 in
theorem rcopy_any (h : PS w A c ps) : Calls Tryz.prog 80 #[.slice A ps.length c] w (PartsRet w (nds ps)) := by
  have CM := zh (rmoved_any 0 A c ps w h.parts h.oks h.few h.cap (fun p hp x hx => by rw [Int.add_zero]; exact (h.oks p hp).ks x hx))
  have HID : Hid ((nds ps).map (Nd.by fun x => x + 0) = nds ps) := zh (by
    exact (List.map_congr_left (g := id) fun p _ => Nd.by_id fun k _ => Int.add_zero k).trans (List.map_id _))
  clear h
  go_enter Tryz.func80, Tryz.ntmps80
  go_wp2_with fail
  refine CM.out.mono ?_
  rintro e w2 ⟨A2, c2, qs, rfl, hn, ho, hx⟩
  rw [HID.out] at hn
  have HN := zh hn
  have HO := zh ho
  have HX := zh hx
  clear hn ho hx
  go_wp2_with fail
  go_ret
  exact ⟨A2, c2, qs, rfl, HN.out, HO.out, HX.out⟩
set_option maxRecDepth 100000 in
set_option maxHeartbeats 2000000 in
theorem rsub_yes (i m : Nat) (h : PS w A c ps) (T : Tree (nds ps)) (hp : Part (nds ps) i m) : Calls Tryz.prog 81 #[.slice A ps.length c, .int .i64 i] w (PartsRet w (subF (nds ps) i m)) := by
  have CH := zh (ris_true i h ⟨T, by omega, by have := hp.lt; omega⟩)
  have hil := hp.lt
  rw [nds_length] at hil
  obtain ⟨p, hpp⟩ : ∃ p, ps[i]? = some p := ⟨_, List.getElem?_eq_getElem hil⟩
  obtain ⟨ok, m', ht⟩ := trek_all (nds ps) ps.length p.nd.kids (i + 1) (by rw [nds_length]; omega)
  have CE := zh (fun (V : World) (x : Ext w V) => rend_any A c ps ps.length i m' ok p V (h.ext x) (by omega) hpp ht)
  rw [endR_tree T (nds_get hpp) hp ht] at CE
  clear hpp ht hil
  have HS := zh h
  have hl := h.few.len
  have hc1 := h.cap
  have hc2 := h.top
  have hlt := hp.lt
  have hme := hp.lt_end
  have hml := hp.le
  rw [nds_length] at hlt hml
  obtain ⟨b, off, rfl, hb, _⟩ := h.parts (by omega)
  have KF : Hid (∀ p ∈ (ps.drop i).take (m - i), ∀ x ∈ p.nd.kids, ∃ k : Nat, x = (k : Int) ∧ i < k ∧ k < m) := zh (by
    intro p hpm x hx
    obtain ⟨j, hj, rfl⟩ := List.getElem_of_mem hpm
    rw [List.length_take, List.length_drop] at hj
    have e : ps[i + j]? = some (((ps.drop i).take (m - i))[j]) := by
      rw [← List.getElem?_drop, ← List.getElem?_take_of_lt (show j < m - i by omega), List.getElem?_eq_getElem]
    obtain ⟨k, h1, h2, h3⟩ := hp.kid_in (show i ≤ i + j by omega) (by omega) (nds_get e) x hx
    exact ⟨k, h1, by omega, h3⟩)
  clear h T hp
  have s1 : IntKind.i64.wrap (-(i : Int)) = -(i : Int) := IntWalk.i64_in _ (by omega)
  go_enter Tryz.func81, Tryz.ntmps81
  go_wp2_with fail
  refine CH.out.mono ?_
  rintro e w2 ⟨rfl, hx2⟩
  have HX := zh hx2
  clear hx2
  go_wp2_with fail
  refine (CE.out _ HX.out).mono ?_
  rintro e w3 ⟨rfl, hx3⟩
  have X3 : Hid (Ext w w3) := zh (HX.out.trans hx3)
  clear hx3
  have hln : ((ps.drop i).take (m - i)).length = m - i := by rw [List.length_take, List.length_drop]; omega
  have CM := rmoved_any (-(i : Int)) (some ⟨b, off + i * 8, none⟩) (c - i) ((ps.drop i).take (m - i)) w3
    ((HS.out.parts.slice i (m - i)).ext X3.out) ((HS.out.oks.slice i (m - i)).ext X3.out) (HS.out.few.slice i (m - i)) (by rw [hln]; omega) (fun p hp x hx => by obtain ⟨k, rfl, h1, h2⟩ := KF.out p hp x hx; unfold I64; omega)
  rw [hln] at CM
  have HCM := zh CM
  clear CM hln
  go_wp2_with fail
  refine HCM.out.mono ?_
  rintro e w5 ⟨A5, c5, qs, rfl, hn5, ho5, hx5⟩
  have X5 : Hid (Ext w w5) := zh (X3.out.trans hx5)
  have HO5 : Hid (OwnP w5 w.heap.size A5 c5 qs) := zh (ho5.base X3.out.size)
  have HN5 : Hid (nds qs = subF (nds ps) i m) := zh (by rw [hn5, nds_take, nds_drop]; rfl)
  clear hn5 ho5 hx5 HCM
  go_wp2_with fail
  go_ret
  exact ⟨A5, c5, qs, rfl, HN5.out, HO5.out, X5.out⟩
end
def headB (p q : Nd) : Bool := (p.sym == q.sym) && (p.kind == q.kind) && (p.lo == q.lo) && (p.inn == q.inn) && (p.hi == q.hi) && (p.look == q.look) && (p.met == q.met) && ((p.kids.length : Int) == (q.kids.length : Int))
theorem headB_no {p q : Nd} (h : headB p q = false) : p ≠ q := by
  rintro rfl
  simp [headB] at h
theorem headB_yes {p q : Nd} (h : headB p q = true) : p.kids.length = q.kids.length ∧ (p.kids = q.kids → p = q) := by
  obtain ⟨a, b, c, d, e, f, g, h⟩ := p
  obtain ⟨a', b', c', d', e', f', g', h'⟩ := q
  simp only [headB, Bool.and_eq_true, beq_iff_eq] at h
  obtain ⟨⟨⟨⟨⟨⟨⟨rfl, rfl⟩, rfl⟩, rfl⟩, rfl⟩, rfl⟩, rfl⟩, hl⟩ := h
  exact ⟨Int.ofNat.inj hl, fun h => by dsimp only at h; rw [h]⟩
theorem takeNd {l : List Nd} {k : Nat} {p : Nd} (h : l[k]? = some p) : l.take (k + 1) = l.take k ++ [p] := by
  rw [List.take_add_one, h]
  rfl
set_option maxRecDepth 100000 in
set_option maxHeartbeats 2000000 in
theorem rsame_any (A B : Option Addr) (ps qs : List Prt) (c d : Nat) (w : World) (hP : Prts w A ps) (hO : PrtsOk w ps) (hQ : Prts w B qs) (hOq : PrtsOk w qs) (bx : ps.length ≤ 1000000) (_ : qs.length ≤ 1000000) :
    Calls Tryz.prog 37 #[.slice A ps.length c, .slice B qs.length d] w fun e w' => e = .returned (.bool (decide (nds ps = nds qs))) ∧ Ext w w' := by
  have HP := zh hP
  have HO := zh hO
  have HQ := zh hQ
  have HOQ := zh hOq
  clear hP hO hQ hOq
  by_cases hlen : ps.length = qs.length
  · have HLEN := zh hlen
    have hl2 : ((ps.length : Int) != (qs.length : Int)) = false := by simp; omega
    clear hlen
    go_enter Tryz.func37, Tryz.ntmps37
    go_wp2_with fail
    go_loopw [5] (fun i wr => ∃ j : Nat, j ≤ ps.length ∧ i = .int .i64 j ∧ Hid ((nds ps).take j = (nds qs).take j) ∧ Hid (Ext w wr)) (fun i _ => ps.length - (intOf i).toNat)
    case atStart => exact ⟨0, Nat.zero_le _, rfl, zh rfl, zh (Ext.refl _)⟩
    case round =>
      obtain ⟨j, hj, rfl, he, hx⟩ := hrel
      by_cases hlt : j < ps.length
      · obtain ⟨p, hp⟩ : ∃ p, ps[j]? = some p := ⟨_, List.getElem?_eq_getElem hlt⟩
        obtain ⟨q, hq⟩ : ∃ q, qs[j]? = some q := ⟨_, List.getElem?_eq_getElem (by have := HLEN.out; omega)⟩
        obtain ⟨b, off, rfl, hb, hcell⟩ := (HP.out.ext hx.out) (by omega)
        obtain ⟨d0, d1, d2, d3, d4, d5, d6, d7⟩ := hcell j _ hp
        obtain ⟨b', off', rfl, hb', hcell'⟩ := (HQ.out.ext hx.out) (by have := HLEN.out; omega)
        obtain ⟨e0, e1, e2, e3, e4, e5, e6, e7⟩ := hcell' j _ hq
        have hlt' : j < qs.length := by have := HLEN.out; omega
        have HPP := zh hp
        have HQQ := zh hq
        have HPO := zh (HO.out.get hp)
        have HQO := zh (HOQ.out.get hq)
        clear hcell hcell' hp hq
        go_upto_region 6 with fail
        go_cut [6, 7] (fun x y wx => ∃ g h, x = pt g ∧ y = pt h ∧ Hid (wx.heap[g]? = some (.cells (prtCells p).toArray 34)) ∧ Hid (wx.heap[h]? = some (.cells (prtCells q).toArray 34)) ∧ Hid (Ext w wx))
        case first =>
          refine wp_region_segsB 11 (.two (.step 8 (.step 9 (.step 10 (.step 11 .fin)))) (.step 9 (.step 8 (.step 10 (.step 11 .fin))))) [0, 1, 2, 3, 4, 5, 6, 7] (by kernel_rfl) (by kernel_rfl) ?_
          intro K hK
          simp only [pick, nthC]
          repeat (go_big_quiet_step (fail))
          refine wpQuiet_nil (hK _ ?_)
          clear hK K
          simp only [wpBr, pick, nthC]
          refine ⟨?_, ?_⟩
          · go_wp2_with fail
            refine segQ_mk (fun _ => laid (by repeat first | exact xr _ | refine xa ?_ _ | refine xm ?_ _ _ | refine xd ?_ | refine xn ?_ _ | refine xs ?_ (by simp <;> omega) _)) ?_
            go_wp2_with fail
            refine segQ_mk (fun _ => laid (by repeat first | exact xr _ | refine xa ?_ _ | refine xm ?_ _ _ | refine xd ?_ | refine xn ?_ _ | refine xs ?_ (by simp <;> omega) _)) ?_
            go_wp2_with fail
            refine segQ_mk (fun _ => laid (by repeat first | exact xr _ | refine xa ?_ _ | refine xm ?_ _ _ | refine xd ?_ | refine xn ?_ _ | refine xs ?_ (by simp <;> omega) _)) ?_
            go_wp2_with fail
            refine segQ_mk (fun h => absurd rfl h) ?_
            go_wp2_with fail
            go_meet
            exact ⟨_, _, rfl, rfl, zh (by show ((wr.alloc _).alloc _).heap[_]? = _; exact (by simp only [heap_alloc_get, World.size_alloc]; (repeat (split; (first | rfl | (exfalso; omega)))); (try (first | (exfalso; omega) | simp_all)))), zh (by show ((wr.alloc _).alloc _).heap[_]? = _; exact (by simp only [heap_alloc_get, World.size_alloc]; (repeat (split; (first | rfl | (exfalso; omega)))); (try (first | (exfalso; omega) | simp_all)))), zh (hx.out.trans (by repeat first | exact xr _ | refine xa ?_ _ | refine xm ?_ _ _ | refine xd ?_ | refine xn ?_ _ | refine xs ?_ (by simp <;> omega) _))⟩
          · go_wp2_with fail
            refine segQ_mk (fun _ => laid (by repeat first | exact xr _ | refine xa ?_ _ | refine xm ?_ _ _ | refine xd ?_ | refine xn ?_ _ | refine xs ?_ (by simp <;> omega) _)) ?_
            go_wp2_with fail
            refine segQ_mk (fun _ => laid (by repeat first | exact xr _ | refine xa ?_ _ | refine xm ?_ _ _ | refine xd ?_ | refine xn ?_ _ | refine xs ?_ (by simp <;> omega) _)) ?_
            go_wp2_with fail
            refine segQ_mk (fun _ => laid (by repeat first | exact xr _ | refine xa ?_ _ | refine xm ?_ _ _ | refine xd ?_ | refine xn ?_ _ | refine xs ?_ (by simp <;> omega) _)) ?_
            go_wp2_with fail
            refine segQ_mk (fun h => absurd rfl h) ?_
            go_wp2_with fail
            go_meet
            exact ⟨_, _, rfl, rfl, zh (by show ((wr.alloc _).alloc _).heap[_]? = _; exact (by simp only [heap_alloc_get, World.size_alloc]; (repeat (split; (first | rfl | (exfalso; omega)))); (try (first | (exfalso; omega) | simp_all)))), zh (by show ((wr.alloc _).alloc _).heap[_]? = _; exact (by simp only [heap_alloc_get, World.size_alloc]; (repeat (split; (first | rfl | (exfalso; omega)))); (try (first | (exfalso; omega) | simp_all)))), zh (hx.out.trans (by repeat first | exact xr _ | refine xa ?_ _ | refine xm ?_ _ _ | refine xd ?_ | refine xn ?_ _ | refine xs ?_ (by simp <;> omega) _))⟩
        case rest =>
          obtain ⟨g, h, rfl, rfl, G, H, X⟩ := hcut
          obtain ⟨lg, x0, x1, x2, x3, x4, x5, x6, x7⟩ := part_cells G.out
          obtain ⟨lh, y0, y1, y2, y3, y4, y5, y6, y7⟩ := part_cells H.out
          clear d0 d1 d2 d3 d4 d5 d6 d7 e0 e1 e2 e3 e4 e5 e6 e7 hb hb'
          go_upto_region 7 with fail
          go_cut [83] (fun t wx => t = .bool (!(headB p.nd q.nd)) ∧ wc = wx)
          case first =>
            obtain ⟨⟨s1, k1, l1, i1, h1', o1, ks1, m1⟩, kA1, kc1⟩ := p
            obtain ⟨⟨s2, k2, l2, i2, h2', o2, ks2, m2⟩, kA2, kc2⟩ := q
            dsimp only at *
            go_wp2_with go_in
            all_goals go_meet
            all_goals exact ⟨by unfold headB; simp_all [bne], rfl⟩
          case rest =>
            obtain ⟨rfl, rfl⟩ := hcut
            obtain ⟨hb, hhb⟩ : ∃ hb, headB p.nd q.nd = hb := ⟨_, rfl⟩
            have HHB := zh hhb
            rw [hhb]
            clear hhb x0 x1 x2 x3 x4 x5 x7 y0 y1 y2 y3 y4 y5 y7
            cases hb with
            | false =>
              go_wp2_with fail
              go_ret
              refine ⟨ret_bool ?_, X.out⟩
              symm
              refine decide_eq_false fun heq => headB_no HHB.out ?_
              have h1 := nds_get HPP.out
              rw [heq, nds_get HQQ.out] at h1
              injection h1 with h1
              exact h1.symm
            | true =>
              have hkl := (headB_yes HHB.out).1
              have HKL := zh hkl
              have ko1 := Nat.le_trans HPO.out.cap HPO.out.top
              have ko2 := HPO.out.cap
              have ko3 := HQO.out.cap
              have ko4 := HQO.out.top
              clear hkl
              go_wp2_with fail
              go_loopw [8] (fun i wr2 => ∃ k : Nat, k ≤ p.nd.kids.length ∧ i = .int .i64 k ∧ Hid (p.nd.kids.take k = q.nd.kids.take k) ∧ Hid (Ext wc wr2)) (fun i _ => p.nd.kids.length - (intOf i).toNat)
              case atStart => exact ⟨0, Nat.zero_le _, rfl, zh rfl, zh (Ext.refl _)⟩
              case round =>
                obtain ⟨k, hk, rfl, hkt, hx2⟩ := hrel
                have XX := zh (X.out.trans hx2.out)
                obtain ⟨mg, _, _, _, _, _, _, x6, _⟩ := part_cells (ext_block G.out hx2.out)
                obtain ⟨mh, _, _, _, _, _, _, y6, _⟩ := part_cells (ext_block H.out hx2.out)
                by_cases hkl : k < p.nd.kids.length
                · have hkl' : k < q.nd.kids.length := by have := HKL.out; omega
                  obtain ⟨b1, o1, hA1, hb1, hc1⟩ := (HPO.out.ext XX.out).kids (by omega)
                  obtain ⟨b2, o2, hA2, hb2, hc2⟩ := (HQO.out.ext XX.out).kids (by omega)
                  have c1 := hc1 k hkl
                  have c2 := hc2 k hkl'
                  rw [hA1] at x6
                  rw [hA2] at y6
                  have hti := take_next hkl
                  have htj := take_next hkl'
                  generalize p.nd.kids.getD k 0 = u at *
                  generalize q.nd.kids.getD k 0 = v at *
                  have HTI := zh hti
                  have HTJ := zh htj
                  clear hc1 hc2 hA1 hA2 hti htj
                  by_cases e : u = v
                  · have e1 : (u != v) = false := by simp [e]
                    have E := zh e
                    clear e
                    go_upto_region 12 with fail
                    go_quiet (fail)
                    go_wp2_with fail
                    go_roundw
                    case rel => exact ⟨k + 1, by omega, by go_num, zh (by rw [HTI.out, HTJ.out, hkt.out, E.out]), zh (hx2.out.trans (by repeat first | exact xr _ | refine xa ?_ _ | refine xm ?_ _ _ | refine xd ?_ | refine xn ?_ _ | refine xs ?_ (by simp <;> omega) _))⟩
                    case measure => simp [intOf]; omega
                  · have e1 : (u != v) = true := by simp [e]
                    have E := zh e
                    clear e
                    go_upto_region 12 with fail
                    go_quiet (fail)
                    go_wp2_with fail
                    go_ret
                    refine ⟨ret_bool ?_, XX.out.trans (by repeat first | exact xr _ | refine xa ?_ _ | refine xm ?_ _ _ | refine xd ?_ | refine xn ?_ _ | refine xs ?_ (by simp <;> omega) _)⟩
                    symm
                    refine decide_eq_false fun heq => E.out ?_
                    have h1 := nds_get HPP.out
                    rw [heq, nds_get HQQ.out] at h1
                    injection h1 with h1
                    have h2 := HTI.out
                    rw [← h1, HTJ.out, ← hkt.out] at h2
                    exact (List.singleton_inj.1 (List.append_cancel_left h2)).symm
                · obtain rfl : k = p.nd.kids.length := by omega
                  have HEQ : Hid (p.nd = q.nd) := zh ((headB_yes HHB.out).2 (by
                    have h1 := hkt.out
                    have h2 := HKL.out
                    rwa [List.take_of_length_le (Nat.le_refl _), List.take_of_length_le (by omega)] at h1))
                  go_wp2_with fail
                  go_roundw
                  case rel => exact ⟨j + 1, by omega, by go_num, zh (by rw [takeNd (nds_get HPP.out), takeNd (nds_get HQQ.out), he.out, HEQ.out]), XX⟩
                  case measure => simp [intOf]; omega
      · obtain rfl : j = ps.length := by omega
        go_wp2_with fail
        go_ret
        refine ⟨ret_bool ?_, hx.out⟩
        symm
        rw [decide_eq_true_eq]
        have := he.out
        have h2 := HLEN.out
        rwa [List.take_of_length_le (by rw [nds_length]; omega), List.take_of_length_le (by rw [nds_length]; omega)] at this
  · go_enter Tryz.func37, Tryz.ntmps37
    go_wp2_with fail
    go_ret
    exact ⟨ret_bool (by symm; exact decide_eq_false fun h => hlen (by have := congrArg List.length h; rwa [nds_length, nds_length] at this)), (by repeat first | exact xr _ | refine xa ?_ _ | refine xm ?_ _ _ | refine xd ?_ | refine xn ?_ _ | refine xs ?_ (by simp <;> omega) _)⟩
theorem rslot_any (n : Int) (w : World) : Calls Tryz.prog 52 #[.int .i64 n] w fun e w' => e = .returned (.bool (decide (0 ≤ n ∧ n < 64))) ∧ w = w' := by
  by_cases h1 : 0 ≤ n
  · by_cases h2 : n ≤ 63
    · go_enter Tryz.func52, Tryz.ntmps52
      go_wp2_with fail
      go_ret
      exact ⟨ret_bool (by simp; omega), rfl⟩
    · go_enter Tryz.func52, Tryz.ntmps52
      go_wp2_with fail
      go_ret
      exact ⟨ret_bool (by simp; omega), rfl⟩
  · go_enter Tryz.func52, Tryz.ntmps52
    go_wp2_with fail
    go_ret
    exact ⟨ret_bool (by simp; omega), rfl⟩
section
variable {A : Option Addr} {c : Nat} {ps : List Prt} {w : World}
set_option maxRecDepth 100000 in
set_option maxHeartbeats 3000000 in
theorem rdone_any (i : Int) (d : Dty) (h : PS w A c ps) : Calls Tryz.prog 15 #[.slice A ps.length c, .int .i64 i, dyV d] w (TellsB w (DoneOk (nds ps) i d)) := by
  have HL := h.few.len
  have hcp := h.cap
  have htp := h.top
  have S := zh h
  clear h
  obtain ⟨slot, lo, hi', age, level⟩ := d
  unfold dyV
  dsimp only
  go_enter Tryz.func15, Tryz.ntmps15
  go_upto_region 1 with fail
  obtain ⟨b, hb⟩ : ∃ b, w.heap.size = b := ⟨_, rfl⟩
  obtain ⟨W1, hW1⟩ : ∃ W1, w.alloc (.cells #[.int .i64 slot, .int .i64 lo, .int .i64 hi', .int .i64 age, .int .i64 level] 26) = W1 := ⟨_, rfl⟩
  have X1 : Hid (Ext w W1) := zh (by rw [← hW1]; exact (by repeat first | exact xr _ | refine xa ?_ _ | refine xm ?_ _ _ | refine xd ?_ | refine xn ?_ _ | refine xs ?_ (by simp <;> omega) _))
  have G1 : W1.heap[b]? = some (.cells #[.int .i64 slot, .int .i64 lo, .int .i64 hi', .int .i64 age, .int .i64 level] 26) := by rw [← hW1, ← hb]; exact heap_alloc_new _ _
  rw [hW1, hb]
  have k0 := cell_of_row _ _ 0 _ _ _ G1
  have k1 := cell_of_row _ _ 1 _ _ _ G1
  have k2 := cell_of_row _ _ 2 _ _ _ G1
  simp at k0 k1 k2
  have l0 := lt_of_heap G1
  have HG := zh G1
  have S1 : Hid (PS W1 A c ps) := zh (S.out.ext X1.out)
  clear hW1 hb G1
  by_cases T : Tree (nds ps)
  · have HT := zh T
    clear T
    by_cases h0 : i < 0
    · have NO : Hid (¬ DoneOk (nds ps) i ⟨slot, lo, hi', age, level⟩) := zh (fun ⟨_, _, _, k, m, p, e, _⟩ => by omega)
      have g0 : decide (i < 0) = true := decide_eq_true h0
      clear h0
      try simp only [List.append_eq, List.cons_append, List.nil_append]
      refine wp_region_ext (by kernel_rfl) (by kernel_rfl) ?_
      repeat (go_big_quiet_step ((first | (go_at_call 13; exact calls_ext (rcheck_ok (S1.out.ext ⟨_, _, rfl⟩) HT.out)))))
      refine wpQuiet_nil ?_
      intro _ hw'
      obtain ⟨x9, rfl⟩ := hw'
      go_wp2_with fail
      go_ret
      exact ⟨false, rfl, ⟨nofun, fun h => absurd h NO.out⟩, X1.out.trans ⟨_, _, rfl⟩⟩
    · by_cases h1 : i < (ps.length : Int)
      · obtain ⟨j, rfl⟩ : ∃ j : Nat, i = (j : Int) := ⟨i.toNat, by omega⟩
        have hjl : j < ps.length := by omega
        have g0 : decide ((j : Int) < 0) = false := decide_eq_false h0
        have g1 : decide (ps.length ≤ j) = false := decide_eq_false (by omega)
        clear h0 h1
        by_cases hs : SlotN slot
        · have h12 : 0 ≤ slot ∧ slot < 64 := hs
          have HS := zh hs
          have CSL := zh (fun (V : World) => by
            have := rslot_any slot V
            rw [decide_eq_true h12] at this
            exact this)
          obtain ⟨p, hp⟩ : ∃ p, ps[j]? = some p := ⟨_, List.getElem?_eq_getElem hjl⟩
          obtain ⟨bA, off, rfl, hbA, hcell⟩ := S1.out.parts (by omega)
          have d2 := (hcell j p hp).2.2.1
          have d4 := (hcell j p hp).2.2.2.2.1
          have HPP := zh hp
          clear hs h12 hcell hp
          by_cases c2 : lo < p.nd.lo
          · have NO : Hid (¬ DoneOk (nds ps) (j : Int) ⟨slot, lo, hi', age, level⟩) := zh (fun ⟨_, _, _, k', m', p', e, hp', _, h, _⟩ => by
              obtain rfl : j = k' := by omega
              rw [nds_get HPP.out] at hp'
              cases hp'
              dsimp only at h
              omega)
            have g2 : decide (lo < p.nd.lo) = true := decide_eq_true c2
            clear c2
            try simp only [List.append_eq, List.cons_append, List.nil_append]
            refine wp_region_ext (by kernel_rfl) (by kernel_rfl) ?_
            repeat (go_big_quiet_step ((first | (go_at_call 13; exact calls_ext (rcheck_ok (S1.out.ext ⟨_, _, rfl⟩) HT.out)) | (go_at_call 52; exact calls_ext_same (CSL.out _)))))
            refine wpQuiet_nil ?_
            intro _ hw'
            obtain ⟨x9, rfl⟩ := hw'
            go_wp2_with fail
            go_ret
            exact ⟨false, rfl, ⟨nofun, fun h => absurd h NO.out⟩, X1.out.trans ⟨_, _, rfl⟩⟩
          · have g2 : decide (lo < p.nd.lo) = false := decide_eq_false c2
            by_cases c3 : p.nd.hi < hi'
            · have NO : Hid (¬ DoneOk (nds ps) (j : Int) ⟨slot, lo, hi', age, level⟩) := zh (fun ⟨_, _, _, k', m', p', e, hp', _, _, h, _⟩ => by
                obtain rfl : j = k' := by omega
                rw [nds_get HPP.out] at hp'
                cases hp'
                dsimp only at h
                omega)
              have g3 : decide (p.nd.hi < hi') = true := decide_eq_true c3
              clear c2 c3
              try simp only [List.append_eq, List.cons_append, List.nil_append]
              refine wp_region_ext (by kernel_rfl) (by kernel_rfl) ?_
              repeat (go_big_quiet_step ((first | (go_at_call 13; exact calls_ext (rcheck_ok (S1.out.ext ⟨_, _, rfl⟩) HT.out)) | (go_at_call 52; exact calls_ext_same (CSL.out _)))))
              refine wpQuiet_nil ?_
              intro _ hw'
              obtain ⟨x9, rfl⟩ := hw'
              go_wp2_with fail
              go_ret
              exact ⟨false, rfl, ⟨nofun, fun h => absurd h NO.out⟩, X1.out.trans ⟨_, _, rfl⟩⟩
            · have g3 : decide (p.nd.hi < hi') = false := decide_eq_false c3
              by_cases c1 : hi' < lo
              · have NO : Hid (¬ DoneOk (nds ps) (j : Int) ⟨slot, lo, hi', age, level⟩) := zh (fun ⟨_, _, h, _⟩ => by dsimp only at h; omega)
                have g4 : decide (hi' < lo) = true := decide_eq_true c1
                clear c1 c2 c3
                try simp only [List.append_eq, List.cons_append, List.nil_append]
                refine wp_region_ext (by kernel_rfl) (by kernel_rfl) ?_
                repeat (go_big_quiet_step ((first | (go_at_call 13; exact calls_ext (rcheck_ok (S1.out.ext ⟨_, _, rfl⟩) HT.out)) | (go_at_call 52; exact calls_ext_same (CSL.out _)))))
                refine wpQuiet_nil ?_
                intro _ hw'
                obtain ⟨x9, rfl⟩ := hw'
                go_wp2_with fail
                go_ret
                exact ⟨false, rfl, ⟨nofun, fun h => absurd h NO.out⟩, X1.out.trans ⟨_, _, rfl⟩⟩
              · have g4 : decide (hi' < lo) = false := decide_eq_false c1
                have HC : Hid (lo ≤ hi' ∧ p.nd.lo ≤ lo ∧ hi' ≤ p.nd.hi) := zh ⟨by omega, by omega, by omega⟩
                obtain ⟨m, hpart⟩ := HT.out.part (i := j) (by rw [nds_length]; exact hjl)
                have HPT := zh hpart
                have hme := hpart.le
                rw [nds_length] at hme
                have YES : Hid ((∀ (n : Nat) (q : Nd), (nds ps)[n]? = some q → tb q.met slot.toNat = true → j ≤ n ∧ n < m) ↔ DoneOk (nds ps) (j : Int) ⟨slot, lo, hi', age, level⟩) := zh ⟨fun h => ⟨HT.out, HS.out, HC.out.1, j, m, p.nd, rfl, nds_get HPP.out, HPT.out, HC.out.2.1, HC.out.2.2, h⟩, fun ⟨_, _, _, k', m', p', e, hp', hm', _, _, h⟩ => by
                  obtain rfl : j = k' := by omega
                  obtain rfl := HPT.out.det hm'
                  exact h⟩
                clear c1 c2 c3 hpart
                try simp only [List.append_eq, List.cons_append, List.nil_append]
                refine wp_region_ext (by kernel_rfl) (by kernel_rfl) ?_
                repeat (go_big_quiet_step ((first | (go_at_call 13; exact calls_ext (rcheck_ok (S1.out.ext ⟨_, _, rfl⟩) HT.out)) | (go_at_call 52; exact calls_ext_same (CSL.out _)))))
                refine wpQuiet_nil ?_
                intro _ hw'
                obtain ⟨x9, rfl⟩ := hw'
                have HX2 : Hid (Ext W1 (more W1 x9.os x9.k)) := zh ⟨_, _, rfl⟩
                obtain ⟨W2, hW2⟩ : ∃ W2, more W1 x9.os x9.k = W2 := ⟨_, rfl⟩
                rw [hW2] at HX2 ⊢
                clear hW2 d2 d4 g0 g1 g2 g3 g4 k0 k1 k2 l0 hbA
                go_wp2_with fail
                refine (rEnd_yes j m (S1.out.ext HX2.out) HT.out HPT.out).mono ?_
                rintro e w3 ⟨rfl, hx3⟩
                have HX3 := zh (HX2.out.trans hx3)
                clear hx3
                go_wp2_with fail
                go_loopw [8] (fun v wr => ∃ n : Nat, n ≤ ps.length ∧ v = .int .i64 n ∧ Hid (∀ (k : Nat) (q : Nd), k < n → (nds ps)[k]? = some q → tb q.met slot.toNat = true → j ≤ k ∧ k < m) ∧ Hid (Ext W1 wr)) (fun v _ => ps.length - (intOf v).toNat)
                case atStart => exact ⟨0, Nat.zero_le _, rfl, zh (fun k q hk => by omega), HX3⟩
                case round =>
                  obtain ⟨n, hn, rfl, hI, hx⟩ := hrel
                  have HGR := ext_block HG.out hx.out
                  have y0 := cell_of_row _ _ 0 _ _ _ HGR
                  simp at y0
                  have ly := lt_of_heap HGR
                  clear HGR
                  by_cases hlt : n < ps.length
                  · obtain ⟨q, hq⟩ : ∃ q, ps[n]? = some q := ⟨_, List.getElem?_eq_getElem hlt⟩
                    obtain ⟨b', off', hA', hb', hcell⟩ := (S1.out.ext hx.out).parts (by omega)
                    injection hA' with hA'
                    injection hA' with ea eb
                    subst ea eb
                    have d7 := (hcell n q hq).2.2.2.2.2.2.2
                    have hmu : U64 q.nd.met := (S.out.oks.get hq).met
                    have hz := last_bit hmu slot.toNat
                    have HQ := zh (nds_get hq)
                    obtain ⟨s1, s2⟩ := HS.out
                    have FOK : Hid (((j ≤ n ∧ n < m) ∨ tb q.nd.met slot.toNat = false) → ∀ (k : Nat) (q : Nd), k < n + 1 → (nds ps)[k]? = some q → tb q.met slot.toNat = true → j ≤ k ∧ k < m) := zh fun h k q2 hk hq2 ht => by
                      rcases (show k < n ∨ k = n by omega) with h1 | rfl
                      · exact hI.out k q2 h1 hq2 ht
                      · rw [HQ.out] at hq2
                        cases hq2
                        rcases h with h | h
                        · exact h
                        · rw [h] at ht; cases ht
                    clear hcell hq hmu
                    cases ht : tb q.nd.met slot.toNat with
                    | true =>
                      rw [ht, if_pos rfl] at hz
                      by_cases a1 : n < j
                      · have NO : Hid (¬ DoneOk (nds ps) (j : Int) ⟨slot, lo, hi', age, level⟩) := zh (fun h => by have := YES.out.2 h n q.nd HQ.out ht; omega)
                        have g3 : decide (n < j) = true := decide_eq_true a1
                        clear ht a1
                        go_upto_region 7 with fail
                        try simp only [List.append_eq, List.cons_append, List.nil_append]
                        refine wp_region_bt (21) (softs_bt [0, 1, 2, 3, 4, 5, 6, 7, 8, 9, 10, 11, 12, 13, 14, 15, 16, 17, 18, 19, 20] .fin) (by kernel_rfl) (by kernel_rfl) ?_
                        refine bt_softs _ fun K hK => ?_; simp only [pick, nthC]; (repeat go_big_quiet_step (fail)); refine wpQuiet_nil (hK _ ?_); clear hK K
                        (refine bt_fin ?_)
                        go_wp2_with fail
                        go_ret
                        exact ⟨false, rfl, ⟨nofun, fun h => absurd h NO.out⟩, (X1.out.trans hx.out).drew⟩
                      · have g3 : decide (n < j) = false := decide_eq_false a1
                        by_cases a2 : m ≤ n
                        · have NO : Hid (¬ DoneOk (nds ps) (j : Int) ⟨slot, lo, hi', age, level⟩) := zh (fun h => by have := YES.out.2 h n q.nd HQ.out ht; omega)
                          have g4 : decide (m ≤ n) = true := decide_eq_true a2
                          clear ht a1 a2
                          go_upto_region 7 with fail
                          try simp only [List.append_eq, List.cons_append, List.nil_append]
                          refine wp_region_bt (21) (softs_bt [0, 1, 2, 3, 4, 5, 6, 7, 8, 9, 10, 11, 12, 13, 14, 15, 16, 17, 18, 19, 20] .fin) (by kernel_rfl) (by kernel_rfl) ?_
                          refine bt_softs _ fun K hK => ?_; simp only [pick, nthC]; (repeat go_big_quiet_step (fail)); refine wpQuiet_nil (hK _ ?_); clear hK K
                          (refine bt_fin ?_)
                          go_wp2_with fail
                          go_ret
                          exact ⟨false, rfl, ⟨nofun, fun h => absurd h NO.out⟩, (X1.out.trans hx.out).drew⟩
                        · have g4 : decide (m ≤ n) = false := decide_eq_false a2
                          have R := zh (FOK.out (.inl ⟨by omega, by omega⟩))
                          clear ht a1 a2
                          go_upto_region 7 with fail
                          try simp only [List.append_eq, List.cons_append, List.nil_append]
                          refine wp_region_bt (21) (softs_bt [0, 1, 2, 3, 4, 5, 6, 7, 8, 9, 10, 11, 12, 13, 14, 15, 16, 17, 18, 19, 20] .fin) (by kernel_rfl) (by kernel_rfl) ?_
                          refine bt_softs _ fun K hK => ?_; simp only [pick, nthC]; (repeat go_big_quiet_step (fail)); refine wpQuiet_nil (hK _ ?_); clear hK K
                          (refine bt_fin ?_)
                          go_wp2_with fail
                          go_roundw
                          case rel => exact ⟨n + 1, by omega, by go_num, R, zh hx.out.drew⟩
                          case measure => simp [intOf]; omega
                    | false =>
                      rw [ht, if_neg Bool.false_ne_true] at hz
                      have R := zh (FOK.out (.inr ht))
                      clear ht
                      go_upto_region 7 with fail
                      try simp only [List.append_eq, List.cons_append, List.nil_append]
                      refine wp_region_bt (21) (softs_bt [0, 1, 2, 3, 4, 5, 6, 7, 8, 9, 10, 11, 12, 13, 14, 15, 16, 17, 18, 19, 20] .fin) (by kernel_rfl) (by kernel_rfl) ?_
                      refine bt_softs _ fun K hK => ?_; simp only [pick, nthC]; (repeat go_big_quiet_step (fail)); refine wpQuiet_nil (hK _ ?_); clear hK K
                      (refine bt_fin ?_)
                      go_wp2_with fail
                      go_roundw
                      case rel => exact ⟨n + 1, by omega, by go_num, R, zh hx.out.drew⟩
                      case measure => simp [intOf]; omega
                  · obtain rfl : n = ps.length := by omega
                    have D0 := zh (YES.out.1 fun k q hq ht => hI.out k q (by have := (List.getElem?_eq_some_iff.1 hq).1; rwa [nds_length] at this) hq ht)
                    go_wp2_with fail
                    go_ret
                    exact ⟨true, rfl, ⟨fun _ => D0.out, fun _ => rfl⟩, X1.out.trans hx.out⟩
        · have NO : Hid (¬ DoneOk (nds ps) (j : Int) ⟨slot, lo, hi', age, level⟩) := zh (fun ⟨_, h, _⟩ => hs h)
          have h12 : ¬ (0 ≤ slot ∧ slot < 64) := hs
          have CSL := zh (fun (V : World) => by
            have := rslot_any slot V
            rw [decide_eq_false h12] at this
            exact this)
          clear hs h12
          try simp only [List.append_eq, List.cons_append, List.nil_append]
          refine wp_region_ext (by kernel_rfl) (by kernel_rfl) ?_
          repeat (go_big_quiet_step ((first | (go_at_call 13; exact calls_ext (rcheck_ok (S1.out.ext ⟨_, _, rfl⟩) HT.out)) | (go_at_call 52; exact calls_ext_same (CSL.out _)))))
          refine wpQuiet_nil ?_
          intro _ hw'
          obtain ⟨x9, rfl⟩ := hw'
          go_wp2_with fail
          go_ret
          exact ⟨false, rfl, ⟨nofun, fun h => absurd h NO.out⟩, X1.out.trans ⟨_, _, rfl⟩⟩
      · have NO : Hid (¬ DoneOk (nds ps) i ⟨slot, lo, hi', age, level⟩) := zh (fun ⟨_, _, _, k, m, p, e, hk, _⟩ => by have := (List.getElem?_eq_some_iff.1 hk).1; rw [nds_length] at this; omega)
        have g0 : decide (i < 0) = false := decide_eq_false h0
        have g1 : decide ((ps.length : Int) ≤ i) = true := decide_eq_true (by omega)
        clear h0 h1
        try simp only [List.append_eq, List.cons_append, List.nil_append]
        refine wp_region_ext (by kernel_rfl) (by kernel_rfl) ?_
        repeat (go_big_quiet_step ((first | (go_at_call 13; exact calls_ext (rcheck_ok (S1.out.ext ⟨_, _, rfl⟩) HT.out)))))
        refine wpQuiet_nil ?_
        intro _ hw'
        obtain ⟨x9, rfl⟩ := hw'
        go_wp2_with fail
        go_ret
        exact ⟨false, rfl, ⟨nofun, fun h => absurd h NO.out⟩, X1.out.trans ⟨_, _, rfl⟩⟩
  · have NO : Hid (¬ DoneOk (nds ps) i ⟨slot, lo, hi', age, level⟩) := zh (fun ⟨h, _⟩ => T h)
    have HT := zh T
    clear T
    try simp only [List.append_eq, List.cons_append, List.nil_append]
    refine wp_region_ext (by kernel_rfl) (by kernel_rfl) ?_
    repeat (go_big_quiet_step ((first | (go_at_call 13; exact calls_ext (rcheck_no (S1.out.ext ⟨_, _, rfl⟩) HT.out)))))
    refine wpQuiet_nil ?_
    intro _ hw'
    obtain ⟨x9, rfl⟩ := hw'
    go_wp2_with fail
    go_ret
    exact ⟨false, rfl, ⟨nofun, fun h => absurd h NO.out⟩, X1.out.trans ⟨_, _, rfl⟩⟩
end
section
variable {A : Option Addr} {c : Nat} {ps : List Prt} {w : World}
set_option maxRecDepth 100000 in
set_option maxHeartbeats 1000000 in
theorem rmayT_any (h : PS w A c ps) : Calls Tryz.prog 79 #[.slice A ps.length c] w (TellsB w (MayOk (nds ps))) := by
  have S := zh h
  have hl := h.few.len
  by_cases T : Tree (nds ps)
  · have hp := T.pos
    rw [nds_length] at hp
    obtain ⟨p, hpp⟩ : ∃ p, ps[0]? = some p := ⟨_, List.getElem?_eq_getElem hp⟩
    have YES : Hid (p.nd.kind = 1 ↔ MayOk (nds ps)) := zh ⟨fun hk => ⟨T, _, nds_get hpp, hk⟩, fun ⟨_, q, hq, hk⟩ => by rw [nds_get hpp] at hq; cases hq; exact hk⟩
    have HPP := zh hpp
    have HT := zh T
    clear T h hpp
    go_enter Tryz.func79, Tryz.ntmps79
    go_wp2_with fail
    refine (rcheck_ok S.out HT.out).mono ?_
    rintro e w1 ⟨rfl, hx1⟩
    have HX1 := zh hx1
    obtain ⟨bA, off, rfl, hbA, hcell⟩ := (S.out.ext hx1).parts (by omega)
    have d1 := (hcell 0 p HPP.out).2.1
    simp only [Nat.zero_mul, Nat.add_zero] at d1
    clear hcell hx1
    go_wp2_with fail
    go_ret
    exact ⟨_, rfl, by rw [← YES.out]; simp, HX1.out⟩
  · have HT := zh T
    have NO : Hid (¬ MayOk (nds ps)) := zh (fun h => T h.1)
    clear T h
    go_enter Tryz.func79, Tryz.ntmps79
    go_wp2_with fail
    refine (rcheck_no S.out (fun h => HT.out h)).mono ?_
    rintro e w1 ⟨rfl, hx1⟩
    have HX1 := zh hx1
    clear hx1
    go_wp2_with fail
    go_ret
    exact ⟨false, rfl, ⟨nofun, fun h => absurd h NO.out⟩, HX1.out⟩
end
section
variable {A : Option Addr} {c : Nat} {ps : List Prt} {w : World}
theorem base_no (d : Dty) (h : PS w A c ps) (hn : ¬ MayOk (nds ps)) : Calls Tryz.prog 14 #[.slice A ps.length c, dyV d] w fun e w' => e = .returned (.int .i64 0) ∧ Ext w w' := by
  have CM := zh (fun (V : World) (x : Ext w V) => mayT_any (h.ext x))
  have HN := zh hn
  clear h hn
  obtain ⟨slot, lo, hi', age, level⟩ := d
  unfold dyV
  dsimp only
  go_enter Tryz.func14, Tryz.ntmps14
  go_wp2_with fail
  go_step3
  go_wp2_with fail
  refine (CM.out _ (by repeat first | exact xr _ | refine xa ?_ _ | refine xm ?_ _ _ | refine xd ?_ | refine xn ?_ _ | refine xs ?_ (by simp <;> omega) _)).mono ?_
  rintro e w2 ⟨bm, rfl, hbm, hx2⟩
  have HX2 : Hid (Ext w w2) := zh (((by repeat first | exact xr _ | refine xa ?_ _ | refine xm ?_ _ _ | refine xd ?_ | refine xn ?_ _ | refine xs ?_ (by simp <;> omega) _) : Ext w _).trans hx2)
  obtain rfl : bm = false := by
    cases bm with
    | false => rfl
    | true => exact absurd (hbm.1 rfl) HN.out
  clear hx2 hbm
  go_wp2_with fail
  try rw [Exit.noGoto_ret]
  go_ret
  exact ⟨rfl, HX2.out⟩
set_option maxRecDepth 100000 in
set_option maxHeartbeats 2000000 in
theorem rholds_any (i : Int) (d : Dty) (h : PS w A c ps) : Calls Tryz.prog 36 #[.slice A ps.length c, .int .i64 i, dyV d] w (TellsB w (HoldsOk (nds ps) i d)) := by
  have S := zh h
  have hl := h.few.len
  have hcp := h.cap
  have htp := h.top
  have CM := zh (fun (V : World) (x : Ext w V) => rmayT_any (h.ext x))
  have CD := zh (fun (V : World) (x : Ext w V) => rdone_any i d (h.ext x))
  clear h
  obtain ⟨slot, lo, hi', age, level⟩ := d
  unfold dyV at CD ⊢
  dsimp only at CD ⊢
  go_enter Tryz.func36, Tryz.ntmps36
  go_upto_region 1 with fail
  obtain ⟨b, hb⟩ : ∃ b, w.heap.size = b := ⟨_, rfl⟩
  obtain ⟨W1, hW1⟩ : ∃ W1, w.alloc (.cells #[.int .i64 slot, .int .i64 lo, .int .i64 hi', .int .i64 age, .int .i64 level] 26) = W1 := ⟨_, rfl⟩
  have X1 : Hid (Ext w W1) := zh (by rw [← hW1]; exact (by repeat first | exact xr _ | refine xa ?_ _ | refine xm ?_ _ _ | refine xd ?_ | refine xn ?_ _ | refine xs ?_ (by simp <;> omega) _))
  have G1 : W1.heap[b]? = some (.cells #[.int .i64 slot, .int .i64 lo, .int .i64 hi', .int .i64 age, .int .i64 level] 26) := by rw [← hW1, ← hb]; exact heap_alloc_new _ _
  rw [hW1, hb]
  have HG := zh G1
  clear hW1 hb G1
  go_wp2_with fail
  refine (CM.out W1 X1.out).mono ?_
  rintro e w2 ⟨bm, rfl, hbm, hx2⟩
  have HX2 := zh (X1.out.trans hx2)
  have HX12 := zh hx2
  have HM := zh hbm
  clear hx2 hbm
  cases bm with
  | false =>
    have NO : Hid (¬ HoldsOk (nds ps) i ⟨slot, lo, hi', age, level⟩) := zh (fun h => by have := HM.out.2 h.1; cases this)
    go_wp2_with fail
    go_ret
    exact ⟨false, rfl, ⟨nofun, fun h => absurd h NO.out⟩, HX2.out⟩
  | true =>
    have HMY : Hid (MayOk (nds ps)) := zh (HM.out.1 rfl)
    by_cases h0 : i < 0
    · have NO : Hid (¬ HoldsOk (nds ps) i ⟨slot, lo, hi', age, level⟩) := zh (fun ⟨_, ⟨k, _, e, _⟩, _⟩ => by omega)
      have g0 : decide (0 ≤ i) = false := decide_eq_false (by omega)
      go_wp2_with fail
      go_ret
      exact ⟨false, rfl, ⟨nofun, fun h => absurd h NO.out⟩, HX2.out⟩
    · by_cases h1 : i < (ps.length : Int)
      · obtain ⟨j, rfl⟩ : ∃ j : Nat, i = (j : Int) := ⟨i.toNat, by omega⟩
        have hjl : j < ps.length := by omega
        obtain ⟨p, hp⟩ : ∃ p, ps[j]? = some p := ⟨_, List.getElem?_eq_getElem hjl⟩
        obtain ⟨bA, off, rfl, hbA, hcell⟩ := (S.out.ext HX2.out).parts (by omega)
        have d1 := (hcell j p hp).2.1
        obtain ⟨q0, q1, q2, q3, q4, ql⟩ := dy_cells (d := ⟨slot, lo, hi', age, level⟩) (ext_block HG.out HX12.out)
        dsimp only at q0 q1 q2 q3 q4
        obtain ⟨b1, hb1⟩ : ∃ b1, decide (p.nd.kind = 1) = b1 := ⟨_, rfl⟩
        obtain ⟨b2, hb2⟩ : ∃ b2, decide (p.nd.kind = 2) = b2 := ⟨_, rfl⟩
        have HIN : Hid ((b1 || b2) = true ↔ InnerAt (nds ps) (j : Int)) := zh (by
          rw [← hb1, ← hb2, Bool.or_eq_true, decide_eq_true_iff, decide_eq_true_iff]
          exact ⟨fun h => ⟨j, p.nd, rfl, nds_get hp, h⟩, fun ⟨k, q, e, hq, h⟩ => by
            obtain rfl : j = k := by omega
            rw [nds_get hp] at hq
            cases hq
            exact h⟩)
        clear hcell hp h0 h1
        cases b1 <;> cases b2
        · have NO : Hid (¬ HoldsOk (nds ps) (j : Int) ⟨slot, lo, hi', age, level⟩) := zh (fun h => by have := HIN.out.2 h.2.1; cases this)
          have hk1 : ¬ p.nd.kind = 1 := of_decide_eq_false hb1
          have hk2 : ¬ p.nd.kind = 2 := of_decide_eq_false hb2
          go_wp2_with fail
          go_ret
          exact ⟨false, rfl, ⟨nofun, fun h => absurd h NO.out⟩, HX2.out⟩
        all_goals
          have YES : Hid (DoneOk (nds ps) (j : Int) ⟨slot, lo, hi', age, level⟩ ↔ HoldsOk (nds ps) (j : Int) ⟨slot, lo, hi', age, level⟩) := zh ⟨fun h => ⟨HMY.out, HIN.out.1 rfl, h⟩, fun h => h.2.2⟩
        · have hk1 : ¬ p.nd.kind = 1 := of_decide_eq_false hb1
          have hk2 : p.nd.kind = 2 := of_decide_eq_true hb2
          go_wp2_with fail
          refine (CD.out _ HX2.out).mono ?_
          rintro e w3 ⟨b3, rfl, hb3, hx3⟩
          have HX3 := zh (HX2.out.trans hx3)
          have HB3 := zh hb3
          clear hx3 hb3
          go_wp2_with fail
          go_ret
          exact ⟨b3, rfl, HB3.out.trans YES.out, HX3.out⟩
        all_goals
          have hk1 : p.nd.kind = 1 := of_decide_eq_true hb1
          clear hb2
          go_wp2_with fail
          refine (CD.out _ HX2.out).mono ?_
          rintro e w3 ⟨b3, rfl, hb3, hx3⟩
          have HX3 := zh (HX2.out.trans hx3)
          have HB3 := zh hb3
          clear hx3 hb3
          go_wp2_with fail
          go_ret
          exact ⟨b3, rfl, HB3.out.trans YES.out, HX3.out⟩
      · have NO : Hid (¬ HoldsOk (nds ps) i ⟨slot, lo, hi', age, level⟩) := zh (fun ⟨_, ⟨k, p, e, hk, _⟩, _⟩ => by have := (List.getElem?_eq_some_iff.1 hk).1; rw [nds_length] at this; omega)
        have g0 : decide (0 ≤ i) = true := decide_eq_true (by omega)
        have g1 : decide (i < (ps.length : Int)) = false := decide_eq_false h1
        go_wp2_with fail
        go_ret
        exact ⟨false, rfl, ⟨nofun, fun h => absurd h NO.out⟩, HX2.out⟩
end
section
variable {A : Option Addr} {c : Nat} {ps : List Prt} {w : World}
set_option maxRecDepth 100000 in
set_option maxHeartbeats 1000000 in
theorem rParents_yes (h : PS w A c ps) (T : Tree (nds ps)) : Calls Tryz.prog 19 #[.slice A ps.length c] w (ParsRet w (nds ps)) := by
  have CH := zh (rcheck_ok h T)
  have HS := zh h
  have hl := h.few.len
  have hl0 : 0 < ps.length := by have := T.pos; rwa [nds_length] at this
  have HT := zh T
  have hmk := run_make_row' (P := Tryz.prog) 31 3 (.int .i64 0) 8 Tryz.underlying31 infoInt rfl .i64 .i64 ps.length (by omega) (by omega)
  clear h T
  go_enter Tryz.func19, Tryz.ntmps19
  go_wp2_with fail
  refine CH.out.mono ?_
  rintro e w3 ⟨rfl, hx3⟩
  have HX3 := zh hx3
  clear hx3
  go_upto_region 4 with fail
  obtain ⟨W4, hW4⟩ : ∃ W4, w3.alloc (.cells (madeCells #[.int .i64 0] ps.length) 3) = W4 := ⟨_, rfl⟩
  have M4 : Hid (MadeI W4 w3.heap.size (List.replicate ps.length 0)) := hW4 ▸ MadeI.new _ _
  have X4 : Hid (Ext w W4) := hW4 ▸ HX3.out.alloc _
  have hg : w.heap.size ≤ w3.heap.size := HX3.out.size
  rw [hW4]
  generalize w3.heap.size = g at *
  obtain ⟨m1, m2, m3⟩ := M4.out.cell (k := 0) (by simp; omega)
  have M5 := zh (M4.out.store 0 (-1))
  have X5 := zh (X4.out.setCell (p := ⟨g, 0, none⟩) hg (.int .i64 (-1)))
  clear hW4 hmk
  go_wp2_with fail
  generalize hW5 : W4.setCell ⟨g, 0, none⟩ (.int .i64 (-1)) = W5 at *
  clear hW5 m1 m2 m3
  go_loopw [4] (fun i wr => ∃ (j : Nat) (us : List Int), j ≤ ps.length ∧ i = .int .i64 j ∧ Hid (MadeI wr g us) ∧ Hid (ParUpto (nds ps) us j 0) ∧ Hid (Ext w wr)) (fun i _ => ps.length - (intOf i).toNat)
  case atStart => exact ⟨0, _, Nat.zero_le _, rfl, M5, zh (ParUpto.first (by simp [nds_length]) (by rw [List.getElem?_set_self (by rw [List.length_replicate]; exact hl0)])), X5⟩
  case round =>
    obtain ⟨j, us, hj, rfl, hM, hU, hX⟩ := hrel
    by_cases hlt : j < ps.length
    · obtain ⟨⟨q, kA, kcap⟩, hq⟩ : ∃ q, ps[j]? = some q := ⟨_, List.getElem?_eq_getElem hlt⟩
      obtain ⟨b, off, rfl, hb, hcell⟩ := (HS.out.ext hX.out).parts (by omega)
      obtain ⟨d0, d1, d2, d3, d4, d5, d6, d7⟩ := hcell j _ hq
      have ho := (HS.out.oks.get hq)
      have o1 : q.kids.length ≤ kcap := ho.cap
      have o2 : kcap ≤ 9223372036854775807 := ho.top
      dsimp only at d0 d1 d2 d3 d4 d5 d6 d7
      have HOQ := zh ho
      have HQ := zh (nds_get hq)
      have hq0 := hq
      clear hcell hq ho
      have D6 := zh (fun (V : World) (x : Ext w V) => (HS.out.ext x).parts (by omega))
      have HQP := zh hq0
      clear d0 d1 d2 d3 d4 d5 d6 d7 hq0
      go_wp2_with fail
      go_loopw [5] (fun i wr => ∃ (k : Nat) (us : List Int), k ≤ q.kids.length ∧ i = .int .i64 k ∧ Hid (MadeI wr g us) ∧ Hid (ParUpto (nds ps) us j k) ∧ Hid (Ext w wr)) (fun i _ => q.kids.length - (intOf i).toNat)
      case atStart => exact ⟨0, us, Nat.zero_le _, rfl, hM, hU, hX⟩
      case round =>
        obtain ⟨k, us, hk, rfl, hM, hU, hX⟩ := hrel
        obtain ⟨b', off', hA', hb', hcell⟩ := D6.out wr hX.out
        injection hA' with hA'
        injection hA' with ea eb
        subst ea eb
        have d6 := (hcell j _ HQP.out).2.2.2.2.2.2.1
        dsimp only at d6
        clear hcell
        by_cases hkl : k < q.kids.length
        · obtain ⟨b2, off2, hkA, hb2, hc2⟩ := (HOQ.out.ext hX.out).kids (by show 0 < q.kids.length; omega)
          change kA = _ at hkA
          subst hkA
          have e1 := hc2 k hkl
          obtain ⟨i, hi1, hi2, hi3⟩ := HT.out.kid_behind HQ.out (q.kids.getD k 0) (by rw [List.getD_eq_getElem?_getD, List.getElem?_eq_getElem hkl]; exact List.getElem_mem hkl)
          dsimp only at e1
          rw [hi1] at e1
          rw [nds_length] at hi3
          have hlen := hU.out.len
          rw [nds_length] at hlen
          obtain ⟨m1, m2, m3⟩ := hM.out.cell (k := i) (by omega)
          have M7 := zh (hM.out.store i j)
          have X7 := zh (hX.out.setCell (p := ⟨g, i, none⟩) hg (.int .i64 (j : Int)))
          have U7 := zh (hU.out.kid HT.out HQ.out (c := i) (K := k) (by rw [← hi1, List.getD_eq_getElem?_getD, List.getElem?_eq_getElem hkl]; rfl))
          clear hc2 hi1 hM hU hX hlen
          go_wp2_with fail
          go_roundw
          case rel => exact ⟨k + 1, _, by omega, by go_num, M7, U7, X7⟩
          case measure => simp [intOf]; omega
        · obtain rfl : k = q.kids.length := by omega
          go_wp2_with fail
          go_roundw
          case rel => exact ⟨j + 1, us, by omega, by go_num, hM, zh (ParUpto.next HQ.out hU.out), hX⟩
          case measure => simp [intOf]; omega
    · obtain rfl : j = ps.length := by omega
      go_wp2_with fail
      go_ret
      have hlen := hU.out.len
      rw [nds_length] at hlen
      have e : (Value.slice (some ⟨g, 0, none⟩) ps.length ps.length) = .slice (some ⟨g, 0, none⟩) us.length us.length := by rw [hlen]
      exact ⟨us, ParUpto.done (by rw [nds_length]; exact hU.out), some ⟨g, 0, none⟩, us.length, by rw [← e]; rfl, hM.out.own hg (by omega), hX.out⟩
end
section
variable {A : Option Addr} {c : Nat} {ps : List Prt} {w : World}
set_option maxRecDepth 100000 in
set_option maxHeartbeats 1000000 in
theorem rbase_no (d : Dty) (h : PS w A c ps) (hn : ¬ MayOk (nds ps)) : Calls Tryz.prog 34 #[.slice A ps.length c, dyV d] w fun e w' => e = .returned (.int .i64 0) ∧ Ext w w' := by
  have CM := zh (fun (V : World) (x : Ext w V) => rmayT_any (h.ext x))
  have HN := zh hn
  clear h hn
  obtain ⟨slot, lo, hi', age, level⟩ := d
  unfold dyV
  dsimp only
  go_enter Tryz.func34, Tryz.ntmps34
  go_upto_region 1 with fail
  obtain ⟨b, hb⟩ : ∃ b, w.heap.size = b := ⟨_, rfl⟩
  obtain ⟨W1, hW1⟩ : ∃ W1, w.alloc (.cells #[.int .i64 slot, .int .i64 lo, .int .i64 hi', .int .i64 age, .int .i64 level] 26) = W1 := ⟨_, rfl⟩
  have X1 : Hid (Ext w W1) := zh (by rw [← hW1]; exact (by repeat first | exact xr _ | refine xa ?_ _ | refine xm ?_ _ _ | refine xd ?_ | refine xn ?_ _ | refine xs ?_ (by simp <;> omega) _))
  have G1 : W1.heap[b]? = some (.cells #[.int .i64 slot, .int .i64 lo, .int .i64 hi', .int .i64 age, .int .i64 level] 26) := by rw [← hW1, ← hb]; exact heap_alloc_new _ _
  rw [hW1, hb]
  have HG := zh G1
  clear hW1 hb G1
  go_wp2_with fail
  refine wp_loop_rounds 1 ?_
  rw [rounds_succ]
  go_wp2_with fail
  refine (CM.out _ X1.out).mono ?_
  rintro e w2 ⟨bm, rfl, hbm, hx2⟩
  have HX2 : Hid (Ext w w2) := zh (X1.out.trans hx2)
  obtain rfl : bm = false := by
    cases bm with
    | false => rfl
    | true => exact absurd (hbm.1 rfl) HN.out
  clear hx2 hbm
  go_wp2_with fail
  go_ret
  exact ⟨rfl, HX2.out⟩
set_option maxRecDepth 100000 in
set_option maxHeartbeats 2000000 in
theorem rbase_yes (d : Dty) (r : Nat) (h : PS w A c ps) (hm : MayOk (nds ps)) (hr : BaseR (nds ps) d 0 r) : Calls Tryz.prog 34 #[.slice A ps.length c, dyV d] w fun e w' => e = .returned (.int .i64 r) ∧ Ext w w' := by
  have S := zh h
  have hl := h.few.len
  have hcp := h.cap
  have htp := h.top
  have HMY := zh hm
  have hp0 := hm.pos
  rw [nds_length] at hp0
  have CM := zh (fun (V : World) (x : Ext w V) => rmayT_any (h.ext x))
  have CD := zh (fun (i : Int) (V : World) (x : Ext w V) => rholds_any i d (h.ext x))
  have HR0 := zh hr
  clear h hm hr
  obtain ⟨slot, lo, hi', age, level⟩ := d
  unfold dyV at CD ⊢
  dsimp only at CD ⊢
  go_enter Tryz.func34, Tryz.ntmps34
  go_upto_region 1 with fail
  obtain ⟨b, hb⟩ : ∃ b, w.heap.size = b := ⟨_, rfl⟩
  obtain ⟨W1, hW1⟩ : ∃ W1, w.alloc (.cells #[.int .i64 slot, .int .i64 lo, .int .i64 hi', .int .i64 age, .int .i64 level] 26) = W1 := ⟨_, rfl⟩
  have X1 : Hid (Ext w W1) := zh (by rw [← hW1]; exact (by repeat first | exact xr _ | refine xa ?_ _ | refine xm ?_ _ _ | refine xd ?_ | refine xn ?_ _ | refine xs ?_ (by simp <;> omega) _))
  have G1 : W1.heap[b]? = some (.cells #[.int .i64 slot, .int .i64 lo, .int .i64 hi', .int .i64 age, .int .i64 level] 26) := by rw [← hW1, ← hb]; exact heap_alloc_new _ _
  rw [hW1, hb]
  have HG := zh G1
  clear hW1 hb G1
  go_wp2_with fail
  go_loopw [5] (fun v wr => ∃ i : Nat, i < ps.length ∧ v = .int .i64 i ∧ Hid (BaseR (nds ps) ⟨slot, lo, hi', age, level⟩ i r) ∧ Hid (Ext W1 wr)) (fun v _ => ps.length - (intOf v).toNat)
  case atStart => exact ⟨0, hp0, rfl, HR0, zh (Ext.refl _)⟩
  case round =>
    obtain ⟨i, hi, rfl, hb, hx⟩ := hrel
    go_wp2_with fail
    refine (CM.out _ (X1.out.trans hx.out)).mono ?_
    rintro e w2 ⟨bm, rfl, hbm, hx2⟩
    have HX2 := zh (hx.out.trans hx2)
    obtain rfl : bm = true := hbm.2 HMY.out
    clear hx2 hbm hx
    obtain ⟨⟨q, kA, kcap⟩, hp⟩ : ∃ p, ps[i]? = some p := ⟨_, List.getElem?_eq_getElem hi⟩
    have HPP := zh hp
    have HPO := zh (S.out.oks.get hp)
    have hko1 : q.kids.length ≤ kcap := HPO.out.cap
    have hko2 : kcap ≤ 9223372036854775807 := HPO.out.top
    have PT := zh (fun (V : World) (x : Ext W1 V) => (S.out.ext (X1.out.trans x)).parts (by omega))
    clear hp
    go_wp2_with fail
    go_loopw [6, 7] (fun v6 v7 wr => ∃ j : Nat, j ≤ q.kids.length ∧ v7 = .int .i64 j ∧ ((v6 = .int .i64 (-1) ∧ Hid (∀ (j' : Nat) (x : Int), j' < j → q.kids[j']? = some x → ¬ HoldsOk (nds ps) x ⟨slot, lo, hi', age, level⟩)) ∨ (∃ cn : Nat, v6 = .int .i64 cn ∧ i < cn ∧ cn < ps.length ∧ Hid (BaseR (nds ps) ⟨slot, lo, hi', age, level⟩ cn r))) ∧ Hid (Ext W1 wr)) (fun _ v7 _ => q.kids.length - (intOf v7).toNat)
    case atStart => exact ⟨0, Nat.zero_le _, rfl, .inl ⟨rfl, zh (fun j' x h => absurd h (Nat.not_lt_zero _))⟩, HX2⟩
    case round =>
      obtain ⟨j, hj, rfl, hcase, hx⟩ := hrel
      obtain ⟨bA, off, hA', hbA, hcell⟩ := PT.out wr hx.out
      subst hA'
      have d6 := (hcell i _ HPP.out).2.2.2.2.2.2.1
      dsimp only at d6
      obtain ⟨q0, q1, q2, q3, q4, ql⟩ := dy_cells (d := ⟨slot, lo, hi', age, level⟩) (ext_block HG.out hx.out)
      dsimp only at q0 q1 q2 q3 q4
      clear hcell
      rcases hcase with ⟨rfl, hbf⟩ | ⟨cn, rfl, hc1, hc2, hbn⟩
      · by_cases hlt : j < q.kids.length
        · obtain ⟨x, hxk⟩ : ∃ x, q.kids[j]? = some x := ⟨_, List.getElem?_eq_getElem hlt⟩
          obtain ⟨cn, rfl, hc1, hc2⟩ := HMY.out.1.kid_behind (nds_get HPP.out) x (List.mem_of_getElem? hxk)
          rw [nds_length] at hc2
          obtain ⟨bk, offk, hkA, hbk, hck⟩ := (HPO.out.ext (X1.out.trans hx.out)).kids (by show 0 < q.kids.length; omega)
          change kA = _ at hkA
          subst hkA
          have e1 := hck j hlt
          rw [List.getD_eq_getElem?_getD] at e1
          dsimp only at e1
          rw [hxk] at e1
          dsimp only [Option.getD_some] at e1
          have HXK := zh hxk
          have g1 : decide (j < q.kids.length) = true := decide_eq_true hlt
          clear hck hxk
          go_upto_region 7 with fail
          refine wp_region_bt (11) (pures_bt [0, 1, 2, 3, 4, 6] (softs_bt [5, 7, 8, 9] (.step 10 .fin))) (by kernel_rfl) (by kernel_rfl) ?_
          refine bt_pures _ fun K hK => ?_; simp only [pick, nthC]; (repeat go_big_quiet_step (fail)); refine wpQuiet_nil (hK _ ?_); clear hK K
          refine bt_softs _ fun K hK => ?_; simp only [pick, nthC]; (repeat go_big_quiet_step (fail)); refine wpQuiet_nil (hK _ ?_); clear hK K
          refine bt_step fun next hn => ?_; simp only [pick, nthC]
          go_wp2_with fail
          refine (CD.out cn wr.drew ((X1.out.trans hx.out).trans (by repeat first | exact xr _ | refine xa ?_ _ | refine xm ?_ _ _ | refine xd ?_ | refine xn ?_ _ | refine xs ?_ (by simp <;> omega) _))).mono ?_
          rintro e w3 ⟨bh, rfl, hbh, hx3⟩
          have HX13 := zh (((by repeat first | exact xr _ | refine xa ?_ _ | refine xm ?_ _ _ | refine xd ?_ | refine xn ?_ _ | refine xs ?_ (by simp <;> omega) _) : Ext wr wr.drew).trans hx3)
          have HX3 := zh (hx.out.trans HX13.out)
          have HBH := zh hbh
          clear hx3 hbh
          go_wp2_with fail
          refine segQ_mk (fun _ => laid HX13.out) (hn _ _ ?_)
          clear hn next
          (refine bt_fin ?_)
          clear d6 q0 q1 q2 q3 q4 ql e1 hbA hbk
          obtain ⟨bA', off', hA', hbA, hcell⟩ := PT.out w3 HX3.out
          injection hA' with hA'
          injection hA' with ea eb
          subst ea eb
          have d6 := (hcell i _ HPP.out).2.2.2.2.2.2.1
          dsimp only at d6
          obtain ⟨bk', offk', hkA, hbk, hck⟩ := (HPO.out.ext (X1.out.trans HX3.out)).kids (by show 0 < q.kids.length; omega)
          injection hkA with hkA
          injection hkA with ea eb
          subst ea eb
          have e1 := hck j hlt
          rw [List.getD_eq_getElem?_getD] at e1
          dsimp only at e1
          rw [HXK.out] at e1
          dsimp only [Option.getD_some] at e1
          clear hck hcell
          cases bh with
          | true =>
            have HN := zh (hb.out.down (nds_get HPP.out) HXK.out hbf.out (HBH.out.1 rfl))
            go_wp2_with fail
            go_roundw
            case rel => exact ⟨j + 1, by omega, by go_num, .inr ⟨cn, rfl, hc1, hc2, HN⟩, HX3⟩
            case measure => simp [intOf]; omega
          | false =>
            go_wp2_with fail
            go_roundw
            case rel => exact ⟨j + 1, by omega, by go_num, .inl ⟨rfl, zh (fun j' x h hx' => by
              rcases Nat.lt_or_ge j' j with h1 | h1
              · exact hbf.out j' x h1 hx'
              · obtain rfl : j' = j := by omega
                rw [HXK.out] at hx'
                cases hx'
                intro hh
                have := HBH.out.2 hh
                cases this)⟩, HX3⟩
            case measure => simp [intOf]; omega
        · obtain rfl : j = q.kids.length := by omega
          have HE : Hid (r = i) := zh (hb.out.stay (nds_get HPP.out) (fun k hk => by
            obtain ⟨j', hj'⟩ := List.getElem?_of_mem hk
            exact hbf.out j' k (List.getElem?_eq_some_iff.1 hj').1 hj'))
          go_wp2_with fail
          go_ret
          exact ⟨ret_int (by rw [HE.out]), X1.out.trans hx.out⟩
      · obtain ⟨bl, hbl⟩ : ∃ bl, decide (j < q.kids.length) = bl := ⟨_, rfl⟩
        have g2 : decide ((cn : Int) < 0) = false := decide_eq_false (by omega)
        cases bl
        all_goals
          go_wp2_with fail
          go_roundw
          case rel => exact ⟨cn, hc2, rfl, hbn, hx⟩
          case measure => simp [intOf]; omega
theorem rtarget_no (d : Dty) (up : Int) (h : PS w A c ps) (hn : ¬ (MayOk (nds ps) ∧ d.level < up)) : Calls Tryz.prog 35 #[.slice A ps.length c, dyV d, .int .i64 up] w fun e w' => e = .returned (.int .i64 0) ∧ Ext w w' := by
  have CM := zh (fun (V : World) (x : Ext w V) => rmayT_any (h.ext x))
  have HN := zh hn
  clear h hn
  obtain ⟨slot, lo, hi', age, level⟩ := d
  unfold dyV
  dsimp only
  go_enter Tryz.func35, Tryz.ntmps35
  go_upto_region 1 with fail
  obtain ⟨b, hb⟩ : ∃ b, w.heap.size = b := ⟨_, rfl⟩
  obtain ⟨W1, hW1⟩ : ∃ W1, w.alloc (.cells #[.int .i64 slot, .int .i64 lo, .int .i64 hi', .int .i64 age, .int .i64 level] 26) = W1 := ⟨_, rfl⟩
  have X1 : Hid (Ext w W1) := zh (by rw [← hW1]; exact (by repeat first | exact xr _ | refine xa ?_ _ | refine xm ?_ _ _ | refine xd ?_ | refine xn ?_ _ | refine xs ?_ (by simp <;> omega) _))
  have G1 : W1.heap[b]? = some (.cells #[.int .i64 slot, .int .i64 lo, .int .i64 hi', .int .i64 age, .int .i64 level] 26) := by rw [← hW1, ← hb]; exact heap_alloc_new _ _
  rw [hW1, hb]
  have HG := zh G1
  clear hW1 hb G1
  go_wp2_with fail
  refine (CM.out W1 X1.out).mono ?_
  rintro e w2 ⟨bm, rfl, hbm, hx2⟩
  have HX2 := zh (X1.out.trans hx2)
  have HG2 := zh (ext_block HG.out hx2)
  have HM := zh hbm
  clear hx2 hbm HG
  obtain ⟨q0, q1, q2, q3, q4, ql⟩ := dy_cells (d := ⟨slot, lo, hi', age, level⟩) HG2.out
  dsimp only at q0 q1 q2 q3 q4
  cases bm with
  | false =>
    go_wp2_with fail
    go_ret
    exact ⟨rfl, HX2.out⟩
  | true =>
    have hlv : ¬ level < up := fun h => HN.out ⟨HM.out.1 rfl, h⟩
    have g1 : decide (level < up) = false := decide_eq_false hlv
    go_wp2_with fail
    go_ret
    exact ⟨rfl, HX2.out⟩
set_option maxRecDepth 100000 in
set_option maxHeartbeats 2000000 in
theorem rtarget_yes (d : Dty) (up r : Int) (h : PS w A c ps) (hm : MayOk (nds ps)) (hlv : d.level < up) (hr : TargetOk (nds ps) d up r) (ht : I64 d.level) : Calls Tryz.prog 35 #[.slice A ps.length c, dyV d, .int .i64 up] w fun e w' => e = .returned (.int .i64 r) ∧ Ext w w' := by
  have CM := zh (fun (V : World) (x : Ext w V) => rmayT_any (h.ext x))
  have CP := zh (fun (V : World) (x : Ext w V) => rParents_yes (h.ext x) hm.1)
  obtain ⟨us0, b0, hu0, hb0, hr0⟩ := hr.1 hm hlv
  have CB := zh (fun (V : World) (x : Ext w V) => rbase_yes d b0 (h.ext x) hm hb0)
  have HMY := zh hm
  have HU0 := zh hu0
  have HB0 := zh hb0.lt
  have HR0 := zh hr0
  have HTL := zh ht
  have hl := h.few.len
  clear h hm hr hu0 hb0 hr0 ht
  obtain ⟨slot, lo, hi', age, level⟩ := d
  unfold dyV at CB ⊢
  dsimp only at CB hlv HR0 HTL ⊢
  go_enter Tryz.func35, Tryz.ntmps35
  go_upto_region 1 with fail
  obtain ⟨b, hb⟩ : ∃ b, w.heap.size = b := ⟨_, rfl⟩
  obtain ⟨W1, hW1⟩ : ∃ W1, w.alloc (.cells #[.int .i64 slot, .int .i64 lo, .int .i64 hi', .int .i64 age, .int .i64 level] 26) = W1 := ⟨_, rfl⟩
  have X1 : Hid (Ext w W1) := zh (by rw [← hW1]; exact (by repeat first | exact xr _ | refine xa ?_ _ | refine xm ?_ _ _ | refine xd ?_ | refine xn ?_ _ | refine xs ?_ (by simp <;> omega) _))
  have G1 : W1.heap[b]? = some (.cells #[.int .i64 slot, .int .i64 lo, .int .i64 hi', .int .i64 age, .int .i64 level] 26) := by rw [← hW1, ← hb]; exact heap_alloc_new _ _
  rw [hW1, hb]
  have HG := zh G1
  clear hW1 hb G1
  have g1 : decide (level < up) = true := decide_eq_true hlv
  go_wp2_with fail
  refine (CM.out W1 X1.out).mono ?_
  rintro e w2 ⟨bm, rfl, hbm, hx2⟩
  have HX2 := zh (X1.out.trans hx2)
  have HG2 := zh (ext_block HG.out hx2)
  obtain rfl : bm = true := hbm.2 HMY.out
  clear hx2 hbm HG
  obtain ⟨q0, q1, q2, q3, q4, ql⟩ := dy_cells (d := ⟨slot, lo, hi', age, level⟩) HG2.out
  dsimp only at q0 q1 q2 q3 q4
  go_wp2_with fail
  refine (CB.out _ HX2.out).mono ?_
  rintro e w3 ⟨rfl, hx3⟩
  have HX3 := zh (HX2.out.trans hx3)
  have HG3 := zh (ext_block HG2.out hx3)
  clear q0 q1 q2 q3 q4 ql hx3 HG2
  go_wp2_with fail
  refine (CP.out _ HX3.out).mono ?_
  rintro e w4 ⟨us, hu, B, cb, rfl, ho, hx4⟩
  have HX4 := zh (HX3.out.trans hx4)
  have HG4 := zh (ext_block HG3.out hx4)
  obtain rfl := hu.one HMY.out.1 HU0.out
  have HI := zh ho.ints.1
  have hcc := ho.ints.2.1
  have hct : cb ≤ 9223372036854775807 := by have := ho.ints.2.2.1; unfold maxLen at this; omega
  have HU := zh hu
  have hbl := HB0.out
  rw [nds_length] at hbl
  have hul : us.length = ps.length := by rw [hu.1, nds_length]
  have HUL := zh hul
  have ht2 : level ≤ 9223372036854775807 := by have := HTL.out; unfold I64 at this; omega
  clear hx4 ho hu HG3 hul
  go_upto_region 5 with fail
  go_wp2_with fail
  go_loopw [7, 9] (fun vi vn wr => ∃ k n : Nat, k < ps.length ∧ vi = .int .i64 k ∧ vn = .int .i64 n ∧ ((n : Int) ≤ level ∨ n = 0) ∧ Hid (climbF us (level.toNat - n) (k : Int) = r) ∧ Hid (Ext w4 wr)) (fun _ vn _ => level.toNat - (intOf vn).toNat)
  case atStart => exact ⟨b0, 0, hbl, rfl, rfl, .inr rfl, zh (by rw [HR0.out]; rfl), zh (Ext.refl _)⟩
  case round =>
    obtain ⟨k, n, hk, rfl, rfl, hnl, he, hx⟩ := hrel
    obtain ⟨q0, q1, q2, q3, q4, ql⟩ := dy_cells (d := ⟨slot, lo, hi', age, level⟩) (ext_block HG4.out hx.out)
    dsimp only at q0 q1 q2 q3 q4
    by_cases h0 : (n : Int) < level
    · have g2 : decide ((n : Int) < level) = true := decide_eq_true h0
      by_cases hk0 : 0 < k
      · have g3 : decide (0 < (k : Int)) = true := decide_eq_true (by omega)
        obtain ⟨j, hj, hlt, _⟩ := HU.out.step HMY.out.1 hk0 (by rw [nds_length]; exact hk)
        obtain ⟨bk, offk, rfl, hbk, hck⟩ := (HI.out.ext hx.out) (by have := HUL.out; omega)
        have e1 := hck k (by have := HUL.out; omega)
        rw [List.getD_eq_getElem?_getD, hj] at e1
        dsimp only [Option.getD_some] at e1
        have HN : Hid (climbF us (level.toNat - (n + 1)) (j : Int) = r) := zh (by
          rw [← he.out, show level.toNat - n = (level.toNat - (n + 1)) + 1 from by omega, climbF, if_pos (by omega), Int.toNat_natCast, hj]
          rfl)
        have hku : k < us.length := by have := HUL.out; omega
        clear hj hck
        go_wp2_with fail
        go_roundw
        case rel => exact ⟨j, n + 1, by omega, rfl, by go_num, .inl (by omega), HN, hx⟩
        case measure => simp [intOf]; omega
      · obtain rfl : k = 0 := by omega
        have HE : Hid (r = 0) := zh (by rw [← he.out, climbF_low _ (by simp)]; rfl)
        go_wp2_with fail
        go_ret
        exact ⟨ret_int (by rw [HE.out]; rfl), HX4.out.trans hx.out⟩
    · have g2 : decide ((n : Int) < level) = false := decide_eq_false h0
      have HE : Hid (r = (k : Int)) := zh (by rw [← he.out, show level.toNat - n = 0 from by omega]; rfl)
      go_wp2_with fail
      go_ret
      exact ⟨ret_int (by rw [HE.out]), HX4.out.trans hx.out⟩
end
end Go.Proofs.YthpmncdfaggkiaaGreat
