/- The contract of the document's Stale (viewportref16). -/
import Derived.Test.YtggmljookcmnkaaR2
import Derived.Test.YtggmljookcmnkaaG4
import Derived.WalkSpells
import Derived.WalkLawsBesides
import Derived.BigRegion
import Derived.Deep.RegionWith
import Derived.Deep.QuietTactic
import Derived.Deep.DeepCutAuto
import Derived.Deep.RegionHeld3
import Derived.Deep.RegionLaw
import Derived.BigQuiet
import Derived.Lib.Hide
namespace Go.Proofs.Ytggmljookcmnkaa
open Go.RowKit
attribute [local go_sem] more_drew more_drewN more_size more_cell more_frozen more_setCell drew_more drewN_more lt_add_r lt_add_r2 lt_add_r3 lt_add_r4 lt_add_r5 lt_add_r6 lt_add_r7 lt_add_r8 lt_add_r9 lt_add_r10 lt_self_r lt_self_r2

theorem any_take {ks : List Int} {f : Int → Bool} {j : Nat} {x : Int} (h : ks[j]? = some x) : (ks.take (j + 1)).any f = ((ks.take j).any f || f x) := by
  obtain ⟨hl, hx⟩ := List.getElem?_eq_some_iff.1 h
  rw [List.take_succ_eq_append_getElem hl, List.any_append, hx]
  simp
set_option maxRecDepth 100000 in
set_option maxHeartbeats 2000000 in
theorem rstale_any (A : Option Addr) (c : Nat) (ps : List Prt) (w : World) (h : PS w A c ps) (T : Tree (nds ps)) :
    Calls Try.prog 62 #[.slice A ps.length c] w fun e w' => ∃ st, StaleOk (nds ps) st ∧ BoolsRet w st e w' := by
  have hl := h.few.len
  have hp := T.pos
  rw [nds_length] at hp
  have S := Lib.hid h
  have HT := Lib.hid T
  have hmk := run_make_row' (P := Try.prog) 66 4 (.bool false) 1 Try.underlying66 infoBool rfl .i64 .i64 ps.length (by omega) (by omega)
  clear h T
  go_enter Try.func62, Try.ntmps62
  go_wp2_with fail
  refine (rcheck_ok S.out HT.out).mono ?_
  rintro e w1 ⟨rfl, hx1⟩
  have HX1 := Lib.hid hx1
  clear hx1
  go_upto_region 4 with fail
  obtain ⟨g, hg⟩ : ∃ g, w1.heap.size = g := ⟨_, rfl⟩
  have M0 := MadeB.new w1 ps.length
  obtain ⟨W2, hW2⟩ : ∃ W2, w1.alloc (.cells (madeCells #[.bool false] ps.length) 4) = W2 := ⟨_, rfl⟩
  have M2 : Hid (MadeB W2 g (List.replicate ps.length false)) := Lib.hid (by rw [← hW2, ← hg]; exact M0)
  have X2 : Hid (Ext w W2) := Lib.hid (by rw [← hW2]; exact HX1.out.trans (by repeat (first | exact Ext.refl _ | refine Ext.alloc ?_ _ | refine Ext.more ?_ _ _ | refine Ext.drew ?_ | refine Ext.drewN ?_ _ | refine Ext.setCell ?_ (by simp <;> omega) _)))
  have HGW : Hid (w.heap.size ≤ g) := Lib.hid (by rw [← hg]; exact HX1.out.size)
  have hwg : w.heap.size ≤ g := HGW.out
  rw [hg, hW2]
  clear M0 hW2 hmk hg
  have ST0 := StaleTo.first (l := nds ps) (bs := List.replicate ps.length false) (by rw [List.length_replicate, nds_length])
  rw [nds_length] at ST0
  have HS0 := Lib.hid ST0
  clear ST0
  go_wp2_with fail
  go_loopw [4] (fun v wr => ∃ (k : Nat) (bs : List Bool), k ≤ ps.length ∧ v = .int .i64 ((k : Int) - 1) ∧ Hid (MadeB wr g bs) ∧ Hid (StaleTo (nds ps) k bs) ∧ Hid (Ext w wr)) (fun v _ => (intOf v + 1).toNat)
  case atStart => exact ⟨ps.length, _, Nat.le_refl _, rfl, M2, HS0, X2⟩
  case round =>
    obtain ⟨k, bs, hk, rfl, hM, hST, hx⟩ := hrel
    cases k with
    | zero =>
      have hbl : bs.length = ps.length := by rw [hST.out.len, nds_length]
      have OUT : Hid (∃ st, StaleOk (nds ps) st ∧ BoolsRet w st (.returned (.slice (some ⟨g, 0, none⟩) ps.length ps.length)) wr) := Lib.hid ⟨bs, hST.out.last, g, by rw [hbl], hM.out, hwg, hx.out⟩
      clear hbl hM hST
      go_wp2_with fail
      go_ret
      exact OUT.out
    | succ k =>
      have e0 : (((k + 1 : Nat) : Int) - 1) = (k : Int) := by omega
      rw [e0]
      obtain ⟨p, hp'⟩ : ∃ p, ps[k]? = some p := ⟨_, List.getElem?_eq_getElem (by omega)⟩
      have hbl : bs.length = ps.length := by rw [hST.out.len, nds_length]
      obtain ⟨v0, hv0⟩ : ∃ v0, bs[k]? = some v0 := ⟨_, List.getElem?_eq_getElem (by omega)⟩
      obtain ⟨b, off, rfl, hb, hcell⟩ := (S.out.ext hx.out).parts (by omega)
      obtain ⟨_, _, _, _, _, _, d6, d7⟩ := hcell k p hp'
      obtain ⟨f0, f1, f2⟩ := hM.out.cell hv0
      have hcap := S.out.cap
      have HPP := Lib.hid hp'
      have HBL := Lib.hid hbl
      have HPO := Lib.hid (S.out.oks.get hp')
      have hkl : k < ps.length := by omega
      obtain ⟨b1, hb1⟩ : ∃ b1, (p.nd.met != 0) = b1 := ⟨_, rfl⟩
      have HB1 : Hid (b1 = decide (p.nd.met ≠ 0)) := Lib.hid (by rw [← hb1]; by_cases h : p.nd.met = 0 <;> simp [h])
      have MS := Lib.hid (hM.out.store k b1)
      have XS := Lib.hid (hx.out.setCell (p := ⟨g, k, none⟩) hwg (.bool b1))
      have D6 := Lib.hid (fun (V : World) (x : Ext w V) => (⟨(x.below.cell (p := ⟨b, off + k * 8 + 6, none⟩) (by
          obtain ⟨b', off', hA', hb', _⟩ := S.out.parts (by omega)
          injection hA' with hA'
          injection hA' with hA'
          show b < _
          omega)).trans (by
          obtain ⟨b', off', hA', hb', hc'⟩ := S.out.parts (by omega)
          injection hA' with hA'
          injection hA' with ea eb
          subst ea eb
          exact (hc' k p hp').2.2.2.2.2.2.1), by
          obtain ⟨b', off', hA', hb', _⟩ := S.out.parts (by omega)
          injection hA' with hA'
          injection hA' with hA'
          have := x.size
          omega⟩ : V.cell? ⟨b, off + k * 8 + 6, none⟩ = some (.slice p.kA p.nd.kids.length p.kc) ∧ b < V.heap.size))
      have hko1 := HPO.out.cap
      have hko2 := HPO.out.top
      clear hcell hp' hbl hv0 hM
      go_upto_region 8 with fail
      obtain ⟨W5, hW5⟩ : ∃ W5, wr.setCell ⟨g, k, none⟩ (.bool b1) = W5 := ⟨_, rfl⟩
      rw [hW5] at MS XS ⊢
      clear hW5 f0 f1 f2 d6 d7 hb1
      go_wp2_with fail
      go_loopw [5] (fun v wr => ∃ j : Nat, j ≤ p.nd.kids.length ∧ v = .int .i64 j ∧ Hid (MadeB wr g (bs.set k (b1 || (p.nd.kids.take j).any fun x => (bs[x.toNat]?).getD false))) ∧ Hid (Ext w wr)) (fun v _ => p.nd.kids.length - (intOf v).toNat)
      case atStart => exact ⟨0, Nat.zero_le _, rfl, Lib.hid (by rw [List.take_zero, List.any_nil, Bool.or_false]; exact MS.out), XS⟩
      case round =>
        obtain ⟨j, hj, rfl, hM2, hx2⟩ := hrel
        obtain ⟨kd6, kb⟩ := D6.out wr hx2.out
        by_cases hlt : j < p.nd.kids.length
        · obtain ⟨x, hxk⟩ : ∃ x, p.nd.kids[j]? = some x := ⟨_, List.getElem?_eq_getElem hlt⟩
          obtain ⟨cn, rfl, hc1, hc2⟩ := HT.out.kid_behind (nds_get HPP.out) x (List.mem_of_getElem? hxk)
          rw [nds_length] at hc2
          obtain ⟨bk, offk, hkA, hbk, hck⟩ := (HPO.out.ext hx2.out).kids (by omega)
          have e1 := hck j hlt
          rw [List.getD_eq_getElem?_getD, hxk] at e1
          dsimp only [Option.getD_some] at e1
          have HAT := Lib.hid (any_take (f := fun x => (bs[x.toNat]?).getD false) hxk)
          obtain ⟨v1, hv1⟩ : ∃ v1, bs[cn]? = some v1 := ⟨_, List.getElem?_eq_getElem (by rw [HBL.out]; exact hc2)⟩
          rw [Int.toNat_natCast, hv1, Option.getD_some] at HAT
          obtain ⟨cur, hcur⟩ : ∃ cur, (b1 || (p.nd.kids.take j).any fun x => (bs[x.toNat]?).getD false) = cur := ⟨_, rfl⟩
          have HN : Hid ((b1 || (p.nd.kids.take (j + 1)).any fun x => (bs[x.toNat]?).getD false) = (cur || v1)) := Lib.hid (by rw [HAT.out, ← Bool.or_assoc, hcur])
          rw [hcur] at hM2
          obtain ⟨f0, f1, f2⟩ := hM2.out.cell (k := k) (v := cur) (List.getElem?_set_self (by rw [HBL.out]; exact hkl))
          obtain ⟨g0, g1, g2⟩ := hM2.out.cell (k := cn) (v := v1) (by rw [List.getElem?_set_ne (by omega)]; exact hv1)
          have MS2 := Lib.hid (fun v => hM2.out.store k v)
          have XS2 := Lib.hid (fun v => hx2.out.setCell (p := ⟨g, k, none⟩) hwg (.bool v))
          rw [hkA] at kd6
          clear hck hxk hkA hv1 hcur HAT hM2
          cases cur with
          | true =>
            go_wp2_with fail
            go_roundw
            case rel =>
              refine ⟨j + 1, by omega, by go_num, Lib.hid ?_, XS2.out true⟩
              rw [HN.out, Bool.true_or]
              have := MS2.out true
              rwa [set_set'] at this
            case measure => simp [intOf]; omega
          | false =>
            go_wp2_with fail
            go_roundw
            case rel =>
              refine ⟨j + 1, by omega, by go_num, Lib.hid ?_, XS2.out v1⟩
              rw [HN.out, Bool.false_or]
              have := MS2.out v1
              rwa [set_set'] at this
            case measure => simp [intOf]; omega
        · obtain rfl : j = p.nd.kids.length := by omega
          have HS2 := Lib.hid (hST.out.step HT.out (nds_get HPP.out))
          rw [List.take_length] at hM2
          rw [HB1.out] at hM2
          go_wp2_with fail
          go_roundw
          case rel => exact ⟨k, _, by omega, by congr 1, hM2, HS2, hx2⟩
          case measure => simp [intOf]
end Go.Proofs.Ytggmljookcmnkaa
