/- The contracts of the document's end, Check, is, End (viewportref16). -/
import Derived.Test.YtaffaeompdlecaaB1
import Derived.Test.YtaffaeompdlecaaA3
import Derived.WalkSpells
import Derived.WalkLawsBesides
import Derived.BigRegion
import Derived.Deep.RegionWith
import Derived.Deep.QuietTactic
import Derived.Deep.DeepCutAuto
import Derived.Deep.RegionHeld3
import Derived.Deep.RegionLaw
import Derived.BigQuiet
import Derived.Lib.Hide
namespace Go.Proofs.Ytaffaeompdlecaa
open Go.RowKit
attribute [local go_sem] more_drew more_drewN more_size more_cell more_frozen more_setCell drew_more drewN_more lt_add_r lt_add_r2 lt_add_r3 lt_add_r4 lt_add_r5 lt_add_r6 lt_add_r7 lt_add_r8 lt_add_r9 lt_add_r10 lt_self_r lt_self_r2

set_option maxRecDepth 100000 in
set_option maxHeartbeats 1500000 in
theorem rend_any (A : Option Addr) (c : Nat) (ps : List Prt) : ∀ (fuel i m : Nat) (ok : Bool) (p : Prt) (w : World), PS w A c ps → ps.length - i ≤ fuel → ps[i]? = some p → Trek (nds ps) p.nd.kids (i + 1) ok m →
    Calls Try.prog 116 #[.slice A ps.length c, .int .i64 i] w fun e w' => e = .returned (.int .i64 (endR (nds ps) (i + 1) m ok p.nd.hi p.nd.lo p.nd.kids)) ∧ Ext w w' := by
  intro fuel
  induction fuel with
  | zero =>
    intro i m ok p w h hf hp ht
    have := lt_of_get hp
    omega
  | succ fuel ih =>
    intro i m ok p w h hf hp ht
    have hil := lt_of_get hp
    have hl := h.few.len
    obtain ⟨b, off, rfl, hb, hcell⟩ := h.parts (by omega)
    obtain ⟨_, _, d2, _, d4, _, d6, _⟩ := hcell i p hp
    have hcap := h.cap
    have b1 : IntKind.i64.wrap ((i : Int) + 1) = ((i + 1 : Nat) : Int) := by
      rw [show ((i : Int) + 1) = ((i + 1 : Nat) : Int) by omega]
      exact IntWalk.i64_in _ (by omega)
    have hpo := h.oks.get hp
    have ho1 := hpo.cap
    have ho2 := hpo.top
    have S := Lib.hid h
    have IH := Lib.hid ih
    have HT := Lib.hid ht
    have HPP := Lib.hid hp
    have HPO := Lib.hid hpo
    clear h ih ht hp hcell hpo
    go_enter Try.func116, Try.ntmps116
    go_upto_region 1 with fail
    refine wp_region_ext (by kernel_rfl) (by kernel_rfl) ?_
    repeat (go_big_quiet_step (fail))
    refine wpQuiet_nil ?_
    intro _ hw'
    obtain ⟨x9, rfl⟩ := hw'
    obtain ⟨W4, hW4⟩ : ∃ W4, more w x9.os x9.k = W4 := ⟨_, rfl⟩
    have HX4 : Hid (Ext w W4) := Lib.hid (by rw [← hW4]; exact ⟨_, _, rfl⟩)
    rw [hW4]
    clear hW4
    have CELLS := Lib.hid (fun (V : World) (x : Ext w V) => (⟨(x.below.cell (p := ⟨b, off + i * 8 + 4, none⟩) hb).trans d4, (x.below.cell (p := ⟨b, off + i * 8 + 6, none⟩) hb).trans d6, Nat.lt_of_lt_of_le hb x.size⟩ :
      V.cell? ⟨b, off + i * 8 + 4, none⟩ = some (.int .i64 p.nd.hi) ∧ V.cell? ⟨b, off + i * 8 + 6, none⟩ = some (.slice p.kA p.nd.kids.length p.kc) ∧ b < V.heap.size))
    clear d2 d4 d6 b1
    go_wp2_with fail
    go_loopw [5, 6, 7] (fun nx av kv wr => ∃ (k n2 : Nat) (a2 : Int), k ≤ p.nd.kids.length ∧ kv = .int .i64 k ∧ nx = .int .i64 n2 ∧ av = .int .i64 a2 ∧ i < n2 ∧ n2 ≤ ps.length ∧
      Hid (Trek (nds ps) (p.nd.kids.drop k) n2 ok m ∧ endR (nds ps) (i + 1) m ok p.nd.hi p.nd.lo p.nd.kids = endR (nds ps) n2 m ok p.nd.hi a2 (p.nd.kids.drop k)) ∧ Hid (Ext w wr)) (fun _ _ kv _ => p.nd.kids.length - (intOf kv).toNat)
    case atStart => exact ⟨0, i + 1, p.nd.lo, Nat.zero_le _, rfl, rfl, rfl, by omega, by omega, Lib.hid ⟨HT.out, rfl⟩, HX4⟩
    case round =>
      obtain ⟨k, n2, a2, hk, rfl, rfl, rfl, hin, hn2, hH, hx⟩ := hrel
      obtain ⟨kd4, kd6, kb⟩ := CELLS.out wr hx.out
      by_cases hlt : k < p.nd.kids.length
      · obtain ⟨bk, offk, hkA, hbk, hck⟩ := (HPO.out.ext hx.out).kids (by omega)
        have e1 := hck k hlt
        obtain ⟨x, hxk⟩ : ∃ x, p.nd.kids[k]? = some x := ⟨_, List.getElem?_eq_getElem hlt⟩
        rw [List.getD_eq_getElem?_getD, hxk] at e1
        dsimp only [Option.getD_some] at e1
        have hdr : p.nd.kids.drop k = x :: p.nd.kids.drop (k + 1) := by
          rw [List.drop_eq_getElem_cons hlt]
          congr 1
          rw [List.getElem?_eq_getElem hlt] at hxk
          injection hxk
        have hH' := hH.out
        rw [hdr] at hH'
        obtain ⟨ht2, he2⟩ := hH'
        have HE2 := Lib.hid he2
        have HT2 := Lib.hid ht2
        rw [hkA] at kd6
        clear hck hxk hdr he2 ht2 hH hkA
        by_cases hbad : x ≠ (n2 : Int) ∨ (nds ps).length ≤ n2
        · have HR := Lib.hid (endR_bad (hi := p.nd.hi) (at' := a2) HT2.out hbad)
          rw [nds_length] at hbad
          by_cases hxn : x = (n2 : Int)
          · subst hxn
            have hle : decide (ps.length ≤ n2) = true := decide_eq_true (by omega)
            clear hbad
            go_wp2_with fail
            go_ret
            exact ⟨ret_int (by rw [HE2.out, HR.out]), hx.out.trans (by repeat (first | exact Ext.refl _ | refine Ext.alloc ?_ _ | refine Ext.more ?_ _ _ | refine Ext.drew ?_ | refine Ext.drewN ?_ _ | refine Ext.setCell ?_ (by simp <;> omega) _))⟩
          · have hxb : (x != (n2 : Int)) = true := by simpa using hxn
            clear hbad hxn
            go_wp2_with fail
            go_ret
            exact ⟨ret_int (by rw [HE2.out, HR.out]), hx.out.trans (by repeat (first | exact Ext.refl _ | refine Ext.alloc ?_ _ | refine Ext.more ?_ _ _ | refine Ext.drew ?_ | refine Ext.drewN ?_ _ | refine Ext.setCell ?_ (by simp <;> omega) _))⟩
        · have hxn : x = (n2 : Int) := Decidable.byContradiction fun h => hbad (.inl h)
          have hnl : n2 < ps.length := by rw [← nds_length]; exact Nat.lt_of_not_le fun h => hbad (.inr h)
          subst hxn
          clear hbad
          obtain ⟨q, hq⟩ : ∃ q, ps[n2]? = some q := ⟨_, List.getElem?_eq_getElem hnl⟩
          obtain ⟨b2, off2, hA2, _, hc2⟩ := (S.out.ext hx.out).parts (by omega)
          injection hA2 with hA2
          injection hA2 with ea eb
          subst ea eb
          obtain ⟨_, _, g2, _, g4, _, _, _⟩ := hc2 n2 q hq
          have hle : decide (ps.length ≤ n2) = false := decide_eq_false (by omega)
          by_cases hah : q.nd.lo < a2
          · have HR := Lib.hid (endR_ahead (m := m) (ok := ok) (hi := p.nd.hi) (ks := p.nd.kids.drop (k + 1)) (nds_get hq) hah)
            have hd : decide (q.nd.lo < a2) = true := decide_eq_true hah
            clear hah hq hc2
            go_wp2_with fail
            go_ret
            exact ⟨ret_int (by rw [HE2.out, HR.out]), hx.out.trans (by repeat (first | exact Ext.refl _ | refine Ext.alloc ?_ _ | refine Ext.more ?_ _ _ | refine Ext.drew ?_ | refine Ext.drewN ?_ _ | refine Ext.setCell ?_ (by simp <;> omega) _))⟩
          · have hd : decide (q.nd.lo < a2) = false := decide_eq_false hah
            obtain ⟨ok', m', ht'⟩ := trek_all (nds ps) ps.length q.nd.kids (n2 + 1) (by rw [nds_length]; omega)
            have CALL := Lib.hid (fun (V : World) (x : Ext wr V) => IH.out n2 m' ok' q V ((S.out.ext hx.out).ext x) (by omega) hq ht')
            have HBN := Lib.hid (endR_sub_bad (hi := p.nd.hi) (at' := a2) (nds_get hq) HT2.out ht')
            have HOK := Lib.hid (endR_sub_ok (hi := p.nd.hi) (at' := a2) (nds_get hq) (Int.not_lt.1 hah) HT2.out ht')
            have hm' := ht'.le.2 (by rw [nds_length]; omega)
            rw [nds_length] at hm'
            obtain ⟨r, hr⟩ : ∃ r, endR (nds ps) (n2 + 1) m' ok' q.nd.hi q.nd.lo q.nd.kids = r := ⟨_, rfl⟩
            rw [hr] at CALL HBN HOK
            clear hah hq hc2 ht' hr
            go_wp2_with fail
            refine (CALL.out _ (by repeat (first | exact Ext.refl _ | refine Ext.alloc ?_ _ | refine Ext.more ?_ _ _ | refine Ext.drew ?_ | refine Ext.drewN ?_ _ | refine Ext.setCell ?_ (by simp <;> omega) _))).mono ?_
            rintro e w3 ⟨rfl, hx3⟩
            have HX3 : Hid (Ext w w3) := Lib.hid (hx.out.trans (Ext.trans (by repeat (first | exact Ext.refl _ | refine Ext.alloc ?_ _ | refine Ext.more ?_ _ _ | refine Ext.drew ?_ | refine Ext.drewN ?_ _ | refine Ext.setCell ?_ (by simp <;> omega) _)) hx3))
            clear hx3
            by_cases hneg : r < 0
            · have hrd : decide (r < 0) = true := decide_eq_true hneg
              have HR := Lib.hid (HBN.out (by omega))
              clear hneg
              go_wp2_with fail
              go_ret
              exact ⟨ret_int (by rw [HE2.out, HR.out]), HX3.out⟩
            · have hrd : decide (r < 0) = false := decide_eq_false hneg
              obtain ⟨h1, h2, h3, h4⟩ := HOK.out (by omega)
              clear hneg
              subst h1
              have HR := Lib.hid (show Trek (nds ps) (p.nd.kids.drop (k + 1)) m' ok m ∧ endR (nds ps) (i + 1) m ok p.nd.hi p.nd.lo p.nd.kids = endR (nds ps) m' m ok p.nd.hi q.nd.hi (p.nd.kids.drop (k + 1)) from ⟨h3, HE2.out.trans h4⟩)
              clear h3 h4
              go_wp2_with fail
              go_roundw
              case rel => exact ⟨k + 1, m', q.nd.hi, by omega, by go_num, rfl, rfl, by omega, hm', HR, HX3⟩
              case measure => simp [intOf]; omega
      · obtain rfl : k = p.nd.kids.length := by omega
        have hH' := hH.out
        rw [List.drop_eq_nil_of_le (Nat.le_refl _)] at hH'
        have HR := Lib.hid (hH'.2.trans (endR_nil hH'.1))
        clear hH' hH
        by_cases ha : a2 ≤ p.nd.hi
        · have hd : decide (p.nd.hi < a2) = false := decide_eq_false (by omega)
          have HR2 := Lib.hid (HR.out.trans (if_pos ha))
          clear ha
          go_wp2_with fail
          go_ret
          exact ⟨ret_int (by rw [HR2.out]), hx.out.trans (by repeat (first | exact Ext.refl _ | refine Ext.alloc ?_ _ | refine Ext.more ?_ _ _ | refine Ext.drew ?_ | refine Ext.drewN ?_ _ | refine Ext.setCell ?_ (by simp <;> omega) _))⟩
        · have hd : decide (p.nd.hi < a2) = true := decide_eq_true (by omega)
          have HR2 := Lib.hid (HR.out.trans (if_neg ha))
          clear ha
          go_wp2_with fail
          go_ret
          exact ⟨ret_int (by rw [HR2.out]), hx.out.trans (by repeat (first | exact Ext.refl _ | refine Ext.alloc ?_ _ | refine Ext.more ?_ _ _ | refine Ext.drew ?_ | refine Ext.drewN ?_ _ | refine Ext.setCell ?_ (by simp <;> omega) _))⟩
end Go.Proofs.Ytaffaeompdlecaa
