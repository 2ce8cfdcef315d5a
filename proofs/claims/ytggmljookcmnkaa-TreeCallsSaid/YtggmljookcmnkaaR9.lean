/- The contract of the document's Bare (viewportref16). -/
import Derived.Test.YtggmljookcmnkaaR5
import Derived.Test.YtggmljookcmnkaaF1
import Derived.WalkSpells
import Derived.WalkLawsBesides
import Derived.BigRegion
import Derived.Deep.RegionWith
import Derived.Deep.QuietTactic
import Derived.Deep.DeepCutAuto
import Derived.Deep.RegionHeld3
import Derived.Deep.RegionLaw
import Derived.BigQuiet
import Derived.Lib.Hide
namespace Go.Proofs.Ytggmljookcmnkaa
open Go.RowKit
attribute [local go_sem] more_drew more_drewN more_size more_cell more_frozen more_setCell drew_more drewN_more lt_add_r lt_add_r2 lt_add_r3 lt_add_r4 lt_add_r5 lt_add_r6 lt_add_r7 lt_add_r8 lt_add_r9 lt_add_r10 lt_self_r lt_self_r2

set_option maxRecDepth 100000 in
set_option maxHeartbeats 2000000 in
theorem rbare_yes (A : Option Addr) (c : Nat) (ps : List Prt) (w : World) (h : PS w A c ps) (T : Tree (nds ps)) : Calls Try.prog 59 #[.slice A ps.length c] w (PartsRet w ((nds ps).map Nd.unmet)) := by
  have hl := h.few.len
  have hp := T.pos
  rw [nds_length] at hp
  have S := Lib.hid h
  have HT := Lib.hid T
  clear h T
  go_enter Try.func59, Try.ntmps59
  go_wp2_with fail
  refine (rcheck_ok S.out HT.out).mono ?_
  rintro e w1 ⟨rfl, hx1⟩
  have HX1 := Lib.hid hx1
  clear hx1
  go_wp2_with fail
  refine (rcopy_any (S.out.ext HX1.out)).mono ?_
  rintro e w2 ⟨A2, c2, qs, rfl, hn, ho, hx⟩
  have hql : qs.length = ps.length := by rw [← nds_length, hn, nds_length]
  obtain ⟨g, rfl, hg1, hg2⟩ := row_block ho.row (by omega)
  have hbase := Nat.le_trans HX1.out.size hg1
  have HN := Lib.hid hn
  have HO : Hid (OwnP w2 w.heap.size (some ⟨g, 0, none⟩) c2 (unmetTo qs 0)) := Lib.hid (by unfold unmetTo; simpa using ho.base HX1.out.size)
  have HX2 := Lib.hid (HX1.out.trans hx)
  have HQL := Lib.hid hql
  have hcp := ho.cells.2.1
  clear hn ho hx hg1 hg2
  rw [hql] at hcp ⊢
  clear hql
  go_wp2_with fail
  go_loopw [4] (fun i wr => ∃ j : Nat, j ≤ ps.length ∧ i = .int .i64 j ∧ Hid (OwnP wr w.heap.size (some ⟨g, 0, none⟩) c2 (unmetTo qs j)) ∧ Hid (Ext w wr)) (fun i _ => ps.length - (intOf i).toNat)
  case atStart => exact ⟨0, Nat.zero_le _, rfl, HO, HX2⟩
  case round =>
    obtain ⟨j, hj, rfl, ho, hx⟩ := hrel
    by_cases hlt : j < ps.length
    · obtain ⟨q, hq⟩ : ∃ q, qs[j]? = some q := ⟨_, List.getElem?_eq_getElem (by rw [HQL.out]; exact hlt)⟩
      have hget := unmetTo_get hq
      have hat := ho.out.at hget.1
      have d7 := hat.met
      have f7 := hat.frozen (j * 8 + 7)
      have l7 := hat.lt
      have HG := Lib.hid hget
      clear hget hat hq
      go_wp2_with fail
      go_roundw
      case rel =>
        refine ⟨j + 1, by omega, by go_num, Lib.hid ?_, Lib.hid (hx.out.setCell hbase _)⟩
        rw [← HG.out.2]
        have f := ho.out.fine q (List.mem_of_getElem? HG.out.1)
        exact ho.out.put HG.out.1 (by omega) rfl ⟨rfl, rfl, rfl⟩ ⟨f.sym, f.kind, f.lo, f.inn, f.hi, f.look, ⟨by show (0 : Int) ≤ 0; omega, by show (0 : Int) ≤ _; omega⟩, f.ks⟩
      case measure => simp [intOf]; omega
    · obtain rfl : j = ps.length := by omega
      go_wp2_with fail
      go_ret
      refine ⟨some ⟨g, 0, none⟩, c2, unmetTo qs ps.length, by rw [unmetTo_length, HQL.out]; rfl, ?_, ho.out, hx.out⟩
      rw [← HQL.out, unmetTo_all, HN.out]
theorem rbare_no (A : Option Addr) (c : Nat) (ps : List Prt) (w : World) (h : PS w A c ps) (T : ¬ Tree (nds ps)) : Calls Try.prog 59 #[.slice A ps.length c] w fun e w' => e = .returned (.slice none 0 0) ∧ Ext w w' := by
  have hl := h.few.len
  have S := Lib.hid h
  have HT := Lib.hid T
  clear h T
  go_enter Try.func59, Try.ntmps59
  go_wp2_with fail
  refine (rcheck_no S.out HT.out).mono ?_
  rintro e w1 ⟨rfl, hx1⟩
  have HX1 := Lib.hid hx1
  clear hx1
  go_wp2_with fail
  go_ret
  exact ⟨rfl, HX1.out⟩
end Go.Proofs.Ytggmljookcmnkaa
