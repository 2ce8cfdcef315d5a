/- R2: 2 texts in one. -/
import Derived.Test.YtggmljookcmnkaaB1
import Derived.Test.YtggmljookcmnkaaA3
import Derived.WalkSpells
import Derived.WalkLawsBesides
import Derived.BigRegion
import Derived.Deep.RegionWith
import Derived.Deep.QuietTactic
import Derived.Deep.DeepCutAuto
import Derived.Deep.RegionHeld3
import Derived.Deep.RegionLaw
import Derived.BigQuiet
import Derived.Lib.Hide
/- The contracts of the document's end, Check, is, End (viewportref16). -/
namespace Go.Proofs.Ytggmljookcmnkaa
open Go.RowKit
attribute [local go_sem] more_drew more_drewN more_size more_cell more_frozen more_setCell drew_more drewN_more lt_add_r lt_add_r2 lt_add_r3 lt_add_r4 lt_add_r5 lt_add_r6 lt_add_r7 lt_add_r8 lt_add_r9 lt_add_r10 lt_self_r lt_self_r2

set_option maxRecDepth 100000 in
set_option maxHeartbeats 1500000 in
theorem rend_any (A : Option Addr) (c : Nat) (ps : List Prt) : ∀ (fuel i m : Nat) (ok : Bool) (p : Prt) (w : World), PS w A c ps → ps.length - i ≤ fuel → ps[i]? = some p → Trek (nds ps) p.nd.kids (i + 1) ok m →
    Calls Try.prog 66 #[.slice A ps.length c, .int .i64 i] w fun e w' => e = .returned (.int .i64 (endR (nds ps) (i + 1) m ok p.nd.hi p.nd.lo p.nd.kids)) ∧ Ext w w' := by
  intro fuel
  induction fuel with
  | zero =>
    intro i m ok p w h hf hp ht
    have := lt_of_get hp
    omega
  | succ fuel ih =>
    intro i m ok p w h hf hp ht
    have hil := lt_of_get hp
    have hl := h.few.len
    obtain ⟨b, off, rfl, hb, hcell⟩ := h.parts (by omega)
    obtain ⟨_, _, d2, _, d4, _, d6, _⟩ := hcell i p hp
    have hcap := h.cap
    have b1 : IntKind.i64.wrap ((i : Int) + 1) = ((i + 1 : Nat) : Int) := by
      rw [show ((i : Int) + 1) = ((i + 1 : Nat) : Int) by omega]
      exact IntWalk.i64_in _ (by omega)
    have hpo := h.oks.get hp
    have ho1 := hpo.cap
    have ho2 := hpo.top
    have S := Lib.hid h
    have IH := Lib.hid ih
    have HT := Lib.hid ht
    have HPP := Lib.hid hp
    have HPO := Lib.hid hpo
    clear h ih ht hp hcell hpo
    go_enter Try.func66, Try.ntmps66
    go_upto_region 1 with fail
    refine wp_region_ext (by kernel_rfl) (by kernel_rfl) ?_
    repeat (go_big_quiet_step (fail))
    refine wpQuiet_nil ?_
    intro _ hw'
    obtain ⟨x9, rfl⟩ := hw'
    obtain ⟨W4, hW4⟩ : ∃ W4, more w x9.os x9.k = W4 := ⟨_, rfl⟩
    have HX4 : Hid (Ext w W4) := Lib.hid (by rw [← hW4]; exact ⟨_, _, rfl⟩)
    rw [hW4]
    clear hW4
    have CELLS := Lib.hid (fun (V : World) (x : Ext w V) => (⟨(x.below.cell (p := ⟨b, off + i * 8 + 4, none⟩) hb).trans d4, (x.below.cell (p := ⟨b, off + i * 8 + 6, none⟩) hb).trans d6, Nat.lt_of_lt_of_le hb x.size⟩ :
      V.cell? ⟨b, off + i * 8 + 4, none⟩ = some (.int .i64 p.nd.hi) ∧ V.cell? ⟨b, off + i * 8 + 6, none⟩ = some (.slice p.kA p.nd.kids.length p.kc) ∧ b < V.heap.size))
    clear d2 d4 d6 b1
    go_wp2_with fail
    go_loopw [5, 6, 7] (fun nx av kv wr => ∃ (k n2 : Nat) (a2 : Int), k ≤ p.nd.kids.length ∧ kv = .int .i64 k ∧ nx = .int .i64 n2 ∧ av = .int .i64 a2 ∧ i < n2 ∧ n2 ≤ ps.length ∧
      Hid (Trek (nds ps) (p.nd.kids.drop k) n2 ok m ∧ endR (nds ps) (i + 1) m ok p.nd.hi p.nd.lo p.nd.kids = endR (nds ps) n2 m ok p.nd.hi a2 (p.nd.kids.drop k)) ∧ Hid (Ext w wr)) (fun _ _ kv _ => p.nd.kids.length - (intOf kv).toNat)
    case atStart => exact ⟨0, i + 1, p.nd.lo, Nat.zero_le _, rfl, rfl, rfl, by omega, by omega, Lib.hid ⟨HT.out, rfl⟩, HX4⟩
    case round =>
      obtain ⟨k, n2, a2, hk, rfl, rfl, rfl, hin, hn2, hH, hx⟩ := hrel
      obtain ⟨kd4, kd6, kb⟩ := CELLS.out wr hx.out
      by_cases hlt : k < p.nd.kids.length
      · obtain ⟨bk, offk, hkA, hbk, hck⟩ := (HPO.out.ext hx.out).kids (by omega)
        have e1 := hck k hlt
        obtain ⟨x, hxk⟩ : ∃ x, p.nd.kids[k]? = some x := ⟨_, List.getElem?_eq_getElem hlt⟩
        rw [List.getD_eq_getElem?_getD, hxk] at e1
        dsimp only [Option.getD_some] at e1
        have hdr : p.nd.kids.drop k = x :: p.nd.kids.drop (k + 1) := by
          rw [List.drop_eq_getElem_cons hlt]
          congr 1
          rw [List.getElem?_eq_getElem hlt] at hxk
          injection hxk
        have hH' := hH.out
        rw [hdr] at hH'
        obtain ⟨ht2, he2⟩ := hH'
        have HE2 := Lib.hid he2
        have HT2 := Lib.hid ht2
        rw [hkA] at kd6
        clear hck hxk hdr he2 ht2 hH hkA
        by_cases hbad : x ≠ (n2 : Int) ∨ (nds ps).length ≤ n2
        · have HR := Lib.hid (endR_bad (hi := p.nd.hi) (at' := a2) HT2.out hbad)
          rw [nds_length] at hbad
          by_cases hxn : x = (n2 : Int)
          · subst hxn
            have hle : decide (ps.length ≤ n2) = true := decide_eq_true (by omega)
            clear hbad
            go_wp2_with fail
            go_ret
            exact ⟨ret_int (by rw [HE2.out, HR.out]), hx.out.trans (by repeat (first | exact Ext.refl _ | refine Ext.alloc ?_ _ | refine Ext.more ?_ _ _ | refine Ext.drew ?_ | refine Ext.drewN ?_ _ | refine Ext.setCell ?_ (by simp <;> omega) _))⟩
          · have hxb : (x != (n2 : Int)) = true := by simpa using hxn
            clear hbad hxn
            go_wp2_with fail
            go_ret
            exact ⟨ret_int (by rw [HE2.out, HR.out]), hx.out.trans (by repeat (first | exact Ext.refl _ | refine Ext.alloc ?_ _ | refine Ext.more ?_ _ _ | refine Ext.drew ?_ | refine Ext.drewN ?_ _ | refine Ext.setCell ?_ (by simp <;> omega) _))⟩
        · have hxn : x = (n2 : Int) := Decidable.byContradiction fun h => hbad (.inl h)
          have hnl : n2 < ps.length := by rw [← nds_length]; exact Nat.lt_of_not_le fun h => hbad (.inr h)
          subst hxn
          clear hbad
          obtain ⟨q, hq⟩ : ∃ q, ps[n2]? = some q := ⟨_, List.getElem?_eq_getElem hnl⟩
          obtain ⟨b2, off2, hA2, _, hc2⟩ := (S.out.ext hx.out).parts (by omega)
          injection hA2 with hA2
          injection hA2 with ea eb
          subst ea eb
          obtain ⟨_, _, g2, _, g4, _, _, _⟩ := hc2 n2 q hq
          have hle : decide (ps.length ≤ n2) = false := decide_eq_false (by omega)
          by_cases hah : q.nd.lo < a2
          · have HR := Lib.hid (endR_ahead (m := m) (ok := ok) (hi := p.nd.hi) (ks := p.nd.kids.drop (k + 1)) (nds_get hq) hah)
            have hd : decide (q.nd.lo < a2) = true := decide_eq_true hah
            clear hah hq hc2
            go_wp2_with fail
            go_ret
            exact ⟨ret_int (by rw [HE2.out, HR.out]), hx.out.trans (by repeat (first | exact Ext.refl _ | refine Ext.alloc ?_ _ | refine Ext.more ?_ _ _ | refine Ext.drew ?_ | refine Ext.drewN ?_ _ | refine Ext.setCell ?_ (by simp <;> omega) _))⟩
          · have hd : decide (q.nd.lo < a2) = false := decide_eq_false hah
            obtain ⟨ok', m', ht'⟩ := trek_all (nds ps) ps.length q.nd.kids (n2 + 1) (by rw [nds_length]; omega)
            have CALL := Lib.hid (fun (V : World) (x : Ext wr V) => IH.out n2 m' ok' q V ((S.out.ext hx.out).ext x) (by omega) hq ht')
            have HBN := Lib.hid (endR_sub_bad (hi := p.nd.hi) (at' := a2) (nds_get hq) HT2.out ht')
            have HOK := Lib.hid (endR_sub_ok (hi := p.nd.hi) (at' := a2) (nds_get hq) (Int.not_lt.1 hah) HT2.out ht')
            have hm' := ht'.le.2 (by rw [nds_length]; omega)
            rw [nds_length] at hm'
            obtain ⟨r, hr⟩ : ∃ r, endR (nds ps) (n2 + 1) m' ok' q.nd.hi q.nd.lo q.nd.kids = r := ⟨_, rfl⟩
            rw [hr] at CALL HBN HOK
            clear hah hq hc2 ht' hr
            go_wp2_with fail
            refine (CALL.out _ (by repeat (first | exact Ext.refl _ | refine Ext.alloc ?_ _ | refine Ext.more ?_ _ _ | refine Ext.drew ?_ | refine Ext.drewN ?_ _ | refine Ext.setCell ?_ (by simp <;> omega) _))).mono ?_
            rintro e w3 ⟨rfl, hx3⟩
            have HX3 : Hid (Ext w w3) := Lib.hid (hx.out.trans (Ext.trans (by repeat (first | exact Ext.refl _ | refine Ext.alloc ?_ _ | refine Ext.more ?_ _ _ | refine Ext.drew ?_ | refine Ext.drewN ?_ _ | refine Ext.setCell ?_ (by simp <;> omega) _)) hx3))
            clear hx3
            by_cases hneg : r < 0
            · have hrd : decide (r < 0) = true := decide_eq_true hneg
              have HR := Lib.hid (HBN.out (by omega))
              clear hneg
              go_wp2_with fail
              go_ret
              exact ⟨ret_int (by rw [HE2.out, HR.out]), HX3.out⟩
            · have hrd : decide (r < 0) = false := decide_eq_false hneg
              obtain ⟨h1, h2, h3, h4⟩ := HOK.out (by omega)
              clear hneg
              subst h1
              have HR := Lib.hid (show Trek (nds ps) (p.nd.kids.drop (k + 1)) m' ok m ∧ endR (nds ps) (i + 1) m ok p.nd.hi p.nd.lo p.nd.kids = endR (nds ps) m' m ok p.nd.hi q.nd.hi (p.nd.kids.drop (k + 1)) from ⟨h3, HE2.out.trans h4⟩)
              clear h3 h4
              go_wp2_with fail
              go_roundw
              case rel => exact ⟨k + 1, m', q.nd.hi, by omega, by go_num, rfl, rfl, by omega, hm', HR, HX3⟩
              case measure => simp [intOf]; omega
      · obtain rfl : k = p.nd.kids.length := by omega
        have hH' := hH.out
        rw [List.drop_eq_nil_of_le (Nat.le_refl _)] at hH'
        have HR := Lib.hid (hH'.2.trans (endR_nil hH'.1))
        clear hH' hH
        by_cases ha : a2 ≤ p.nd.hi
        · have hd : decide (p.nd.hi < a2) = false := decide_eq_false (by omega)
          have HR2 := Lib.hid (HR.out.trans (if_pos ha))
          clear ha
          go_wp2_with fail
          go_ret
          exact ⟨ret_int (by rw [HR2.out]), hx.out.trans (by repeat (first | exact Ext.refl _ | refine Ext.alloc ?_ _ | refine Ext.more ?_ _ _ | refine Ext.drew ?_ | refine Ext.drewN ?_ _ | refine Ext.setCell ?_ (by simp <;> omega) _))⟩
        · have hd : decide (p.nd.hi < a2) = true := decide_eq_true (by omega)
          have HR2 := Lib.hid (HR.out.trans (if_neg ha))
          clear ha
          go_wp2_with fail
          go_ret
          exact ⟨ret_int (by rw [HR2.out]), hx.out.trans (by repeat (first | exact Ext.refl _ | refine Ext.alloc ?_ _ | refine Ext.more ?_ _ _ | refine Ext.drew ?_ | refine Ext.drewN ?_ _ | refine Ext.setCell ?_ (by simp <;> omega) _))⟩
end Go.Proofs.Ytggmljookcmnkaa

/- The contracts of the document's Check, is, End (viewportref16). -/
namespace Go.Proofs.Ytggmljookcmnkaa
open Go.RowKit
attribute [local go_sem] more_drew more_drewN more_size more_cell more_frozen more_setCell drew_more drewN_more lt_add_r lt_add_r2 lt_add_r3 lt_add_r4 lt_add_r5 lt_add_r6 lt_add_r7 lt_add_r8 lt_add_r9 lt_add_r10 lt_self_r lt_self_r2

section
variable {A : Option Addr} {c : Nat} {ps : List Prt} {w : World}
set_option maxRecDepth 100000 in
set_option maxHeartbeats 1500000 in
theorem rcheck_any (h : PS w A c ps) : Calls Try.prog 10 #[.slice A ps.length c] w fun e w' => e = .returned (.int .i64 (checkF (nds ps))) ∧ Ext w w' := by
  have hl := h.few.len
  have S := Lib.hid h
  have HC := Lib.hid (checkF_few hl)
  have hd0 : decide ((524288 : Int) < (ps.length : Int)) = false := decide_eq_false (by omega)
  clear h
  go_enter Try.func10, Try.ntmps10
  go_wp2_with fail
  go_loopw [3] (fun v wr => ∃ j : Nat, j ≤ ps.length ∧ v = .int .i64 j ∧ Hid (∀ i p, i < j → ps[i]? = some p → Bare p.nd ∧ (0 < i → p.nd.kind ≠ 1)) ∧ Hid (Ext w wr)) (fun v _ => ps.length - (intOf v).toNat)
  case atStart => exact ⟨0, Nat.zero_le _, rfl, Lib.hid (fun i p hi => by omega), Lib.hid (Ext.refl _)⟩
  case round =>
    obtain ⟨j, hj, rfl, hB, hx⟩ := hrel
    by_cases hlt : j < ps.length
    · obtain ⟨p, hp⟩ : ∃ p, ps[j]? = some p := ⟨_, List.getElem?_eq_getElem hlt⟩
      obtain ⟨b, off, rfl, hb, hcell⟩ := (S.out.ext hx.out).parts (by omega)
      obtain ⟨d0, d1, d2, d3, d4, d5, d6, d7⟩ := hcell j p hp
      have hcap := S.out.cap
      have NT : Hid (¬ (Bare p.nd ∧ (0 < j → p.nd.kind ≠ 1)) → ¬ Tree (nds ps)) := Lib.hid fun hn T => hn (T.bare j p.nd (nds_get hp))
      have NX : Hid (Bare p.nd ∧ (0 < j → p.nd.kind ≠ 1) → ∀ i q, i < j + 1 → ps[i]? = some q → Bare q.nd ∧ (0 < i → q.nd.kind ≠ 1)) := Lib.hid fun hok i q hi hq => by
        rcases (show i < j ∨ i = j by omega) with h | rfl
        · exact hB.out i q h hq
        · rw [hp] at hq
          injection hq with hq
          subst hq
          exact hok
      have D1 := Lib.hid (fun (V : World) (x : Ext wr V) => (⟨(x.below.cell (p := ⟨b, off + j * 8 + 1, none⟩) hb).trans d1, Nat.lt_of_lt_of_le hb x.size⟩ : V.cell? ⟨b, off + j * 8 + 1, none⟩ = some (.int .i64 p.nd.kind) ∧ b < V.heap.size))
      clear hcell hp
      go_wp2_with fail
      refine (bareR_any p wr).mono ?_
      rintro e w2 ⟨rfl, hx2⟩
      obtain ⟨k1, k2⟩ := D1.out w2 hx2
      have HX2 := Lib.hid (hx.out.trans hx2)
      clear hx2 d0 d1 d2 d3 d4 d5 d6 d7
      by_cases hBr : Bare p.nd
      · have hbd : decide (Bare p.nd) = true := decide_eq_true hBr
        by_cases h0 : j = 0
        · have h0d : decide (0 < j) = false := decide_eq_false (by omega)
          have N2 := Lib.hid (NX.out ⟨hBr, fun h => by omega⟩)
          clear hBr h0
          go_wp2_with fail
          go_roundw
          case rel => exact ⟨j + 1, by omega, by go_num, N2, HX2⟩
          case measure => simp [intOf]; omega
        · have h0d : decide (0 < j) = true := decide_eq_true (by omega)
          by_cases hk : p.nd.kind = 1
          · have hk1 : (p.nd.kind == 1) = true := by simp [hk]
            have N2 := Lib.hid (NT.out (fun h => h.2 (by omega) hk))
            clear hBr h0 hk
            go_wp2_with fail
            go_ret
            exact ⟨ret_int (by rw [HC.out.2 N2.out]), HX2.out⟩
          · have hk1 : (p.nd.kind == 1) = false := by simp [hk]
            have N2 := Lib.hid (NX.out ⟨hBr, fun _ => hk⟩)
            clear hBr h0 hk
            go_wp2_with fail
            go_roundw
            case rel => exact ⟨j + 1, by omega, by go_num, N2, HX2⟩
            case measure => simp [intOf]; omega
      · have hbd : decide (Bare p.nd) = false := decide_eq_false hBr
        have N2 := Lib.hid (NT.out (fun h => hBr h.1))
        clear hBr
        go_wp2_with fail
        go_ret
        exact ⟨ret_int (by rw [HC.out.2 N2.out]), HX2.out⟩
    · obtain rfl : j = ps.length := by omega
      by_cases h0 : ps.length = 0
      · have hz : ((ps.length : Int) == 0) = true := by simp [h0]
        have N2 : Hid (¬ Tree (nds ps)) := Lib.hid fun T => by have := T.pos; rw [nds_length] at this; omega
        clear h0
        go_wp2_with fail
        go_ret
        exact ⟨ret_int (by rw [HC.out.2 N2.out]), hx.out⟩
      · have hz : ((ps.length : Int) == 0) = false := by rw [beq_eq_false_iff_ne]; omega
        obtain ⟨p, hp⟩ : ∃ p, ps[0]? = some p := ⟨_, List.getElem?_eq_getElem (by omega)⟩
        obtain ⟨ok, m, ht⟩ := trek_all (nds ps) ps.length p.nd.kids 1 (by rw [nds_length]; omega)
        have CE := Lib.hid (rend_any A c ps ps.length 0 m ok p wr (S.out.ext hx.out) (by omega) hp ht)
        have HTI : Hid (Tree (nds ps) ↔ endR (nds ps) 1 m ok p.nd.hi p.nd.lo p.nd.kids = (ps.length : Int)) := Lib.hid (by
          rw [tree_iff (nds_get hp) ht, nds_length]
          refine ⟨fun h => h.2, fun h => ⟨fun i q hq => ?_, h⟩⟩
          obtain ⟨q', hq', rfl⟩ := nds_get' hq
          exact hB.out i q' (lt_of_get hq') hq')
        obtain ⟨r, hr⟩ : ∃ r, endR (nds ps) 1 m ok p.nd.hi p.nd.lo p.nd.kids = r := ⟨_, rfl⟩
        rw [Nat.zero_add, hr] at CE
        rw [hr] at HTI
        clear hp ht hr h0
        go_wp2_with fail
        refine CE.out.mono ?_
        rintro e w3 ⟨rfl, hx3⟩
        have HX3 := Lib.hid (hx.out.trans hx3)
        clear hx3
        by_cases hrn : r = (ps.length : Int)
        · have hb : (r != (ps.length : Int)) = false := by simp [hrn]
          have T := Lib.hid (HTI.out.2 hrn)
          clear hrn
          go_wp2_with fail
          go_ret
          exact ⟨ret_int (by rw [HC.out.1 T.out]), HX3.out⟩
        · have hb : (r != (ps.length : Int)) = true := by simpa using hrn
          have T := Lib.hid (fun h => hrn (HTI.out.1 h))
          clear hrn
          go_wp2_with fail
          go_ret
          exact ⟨ret_int (by rw [HC.out.2 T.out]), HX3.out⟩
theorem rcheck_ok (h : PS w A c ps) (T : Tree (nds ps)) : Calls Try.prog 10 #[.slice A ps.length c] w fun e w' => e = .returned (.int .i64 0) ∧ Ext w w' :=
  (rcheck_any h).mono fun _ _ ⟨he, hx⟩ => ⟨by rw [he, (checkF_few h.few.len).1 T], hx⟩
theorem rcheck_no (h : PS w A c ps) (T : ¬ Tree (nds ps)) : Calls Try.prog 10 #[.slice A ps.length c] w fun e w' => e = .returned (.int .i64 2) ∧ Ext w w' :=
  (rcheck_any h).mono fun _ _ ⟨he, hx⟩ => ⟨by rw [he, (checkF_few h.few.len).2 T], hx⟩
set_option maxRecDepth 100000 in
set_option maxHeartbeats 1000000 in
theorem ris_no (i : Int) (h : PS w A c ps) (T : ¬ Tree (nds ps)) : Calls Try.prog 67 #[.slice A ps.length c, .int .i64 i] w fun e w' => e = .returned (.bool false) ∧ Ext w w' := by
  have CH := Lib.hid (rcheck_no h T)
  have hl := h.few.len
  clear h T
  go_enter Try.func67, Try.ntmps67
  go_wp2_with fail
  refine CH.out.mono ?_
  rintro e w2 ⟨rfl, hx2⟩
  have HX := Lib.hid hx2
  clear hx2
  go_wp2_with fail
  go_ret
  exact ⟨rfl, HX.out⟩
set_option maxRecDepth 100000 in
set_option maxHeartbeats 1000000 in
theorem ris_yes (i : Int) (h : PS w A c ps) (T : Tree (nds ps)) : Calls Try.prog 67 #[.slice A ps.length c, .int .i64 i] w fun e w' => e = .returned (.bool (decide (0 ≤ i) && decide (i < (ps.length : Int)))) ∧ Ext w w' := by
  have CH := Lib.hid (rcheck_ok h T)
  have hl := h.few.len
  clear h T
  go_enter Try.func67, Try.ntmps67
  go_wp2_with fail
  refine CH.out.mono ?_
  rintro e w2 ⟨rfl, hx2⟩
  have HX := Lib.hid hx2
  clear hx2
  go_wp2_with fail
  all_goals go_ret
  all_goals exact ⟨ret_bool (by rw [Bool.eq_iff_iff]; simp; try omega), HX.out⟩
set_option maxRecDepth 100000 in
set_option maxHeartbeats 1000000 in
theorem rEnd_yes (i m : Nat) (h : PS w A c ps) (T : Tree (nds ps)) (hp : Part (nds ps) i m) : Calls Try.prog 54 #[.slice A ps.length c, .int .i64 i] w fun e w' => e = .returned (.int .i64 m) ∧ Ext w w' := by
  have hil := hp.lt
  rw [nds_length] at hil
  have CH := Lib.hid (ris_yes (i : Int) h T)
  obtain ⟨p, hpp⟩ : ∃ p, ps[i]? = some p := ⟨_, List.getElem?_eq_getElem hil⟩
  obtain ⟨ok, m', ht⟩ := trek_all (nds ps) ps.length p.nd.kids (i + 1) (by rw [nds_length]; omega)
  have CE := Lib.hid (fun (V : World) (x : Ext w V) => rend_any A c ps ps.length i m' ok p V (h.ext x) (by omega) hpp ht)
  rw [endR_tree T (nds_get hpp) hp ht] at CE
  have hd1 : decide ((0 : Int) ≤ (i : Int)) = true := decide_eq_true (by omega)
  have hd2 : decide ((i : Int) < (ps.length : Int)) = true := decide_eq_true (by omega)
  rw [hd1, hd2] at CH
  clear h T hp hpp ht hd1 hd2
  go_enter Try.func54, Try.ntmps54
  go_wp2_with fail
  refine CH.out.mono ?_
  rintro e w2 ⟨rfl, hx2⟩
  have HX := Lib.hid hx2
  clear hx2
  go_wp2_with fail
  refine (CE.out _ HX.out).mono ?_
  rintro e w3 ⟨rfl, hx3⟩
  have HX3 := Lib.hid (HX.out.trans hx3)
  clear hx3
  go_wp2_with fail
  go_ret
  exact ⟨rfl, HX3.out⟩
/-- no tree, or no place of it: 0 -/
theorem rEnd_no (i : Int) (h : PS w A c ps) (T : ¬ (Tree (nds ps) ∧ 0 ≤ i ∧ i < (ps.length : Int))) : Calls Try.prog 54 #[.slice A ps.length c, .int .i64 i] w fun e w' => e = .returned (.int .i64 0) ∧ Ext w w' := by
  have CH : Calls Try.prog 67 #[.slice A ps.length c, .int .i64 i] w fun e w' => e = .returned (.bool false) ∧ Ext w w' := by
    by_cases T1 : Tree (nds ps)
    · have := ris_yes i h T1
      have e : (decide (0 ≤ i) && decide (i < (ps.length : Int))) = false := by
        rw [Bool.and_eq_false_iff, decide_eq_false_iff_not, decide_eq_false_iff_not]
        by_cases h0 : 0 ≤ i
        · exact .inr fun h1 => T ⟨T1, h0, h1⟩
        · exact .inl h0
      rwa [e] at this
    · exact ris_no i h T1
  replace CH := Lib.hid CH
  clear h T
  go_enter Try.func54, Try.ntmps54
  go_wp2_with fail
  refine CH.out.mono ?_
  rintro e w2 ⟨rfl, hx2⟩
  have HX := Lib.hid hx2
  clear hx2
  go_wp2_with fail
  go_ret
  exact ⟨rfl, HX.out⟩
end
end Go.Proofs.Ytggmljookcmnkaa
