/- A1: 3 texts in one. -/
import Derived.Test.YtggmljookcmnkaaRows
import Derived.Test.YtggmljookcmnkaaNt
import Derived.Test.YtggmljookcmnkaaW
import Derived.WalkSpells
import Derived.WalkLawsBesides
import Derived.Deep.RegionWith
import Derived.Deep.QuietTactic
import Derived.BigQuiet
import Derived.Lib.Hide
import Derived.WalkSpells
import Derived.WalkLawsBesides
import Derived.BigRegion
import Derived.Deep.RegionWith
import Derived.Deep.QuietTactic
import Derived.Deep.DeepCutAuto
import Derived.Deep.RegionHeld3
import Derived.Deep.RegionLaw
import Derived.BigQuiet
import Derived.Lib.Hide
/- The contracts of leaf, token, bare. -/
namespace Go.Proofs.Ytggmljookcmnkaa
open Go.RowKit
attribute [local go_sem] more_drew more_drewN more_size more_cell more_frozen more_setCell drew_more drewN_more lt_add_r lt_add_r2 lt_add_r3 lt_add_r4 lt_add_r5 lt_add_r6 lt_self_r lt_self_r2

theorem leaf_any (k : Int) (w : World) : Calls Try.prog 85 #[.int .i64 k] w fun e w' => e = .returned (.bool (decide (LeafK k))) ∧ w = w' := by
  have H : decide (LeafK k) = ((k != 1) && (k != 2)) := by
    rw [Bool.eq_iff_iff, decide_eq_true_iff]
    unfold LeafK
    simp
  replace H := Lib.hid H
  go_enter Try.func85, Try.ntmps85
  go_wp2
  all_goals go_ret
  all_goals exact ⟨ret_bool (by rw [H.out] <;> simp [*]), rfl⟩
theorem token_any (k : Int) (w : World) : Calls Try.prog 134 #[.int .i64 k] w fun e w' => e = .returned (.bool (decide (TokK k))) ∧ w = w' := by
  have H : decide (TokK k) = (((k == 3) || (k == 5)) || (k == 6)) := by
    rw [Bool.eq_iff_iff, decide_eq_true_iff]
    unfold TokK
    simp [or_assoc]
  replace H := Lib.hid H
  go_enter Try.func134, Try.ntmps134
  go_wp2
  all_goals go_ret
  all_goals exact ⟨ret_bool (by rw [H.out] <;> simp [*]), rfl⟩
end Go.Proofs.Ytggmljookcmnkaa

/- The contracts of bare, both texts. -/
namespace Go.Proofs.Ytggmljookcmnkaa
open Go.RowKit
attribute [local go_sem] more_drew more_drewN more_size more_cell more_frozen more_setCell drew_more drewN_more lt_add_r lt_add_r2 lt_add_r3 lt_add_r4 lt_add_r5 lt_add_r6 lt_self_r lt_self_r2

theorem leafR_any (k : Int) (w : World) : Calls Try.prog 109 #[.int .i64 k] w fun e w' => e = .returned (.bool (decide (LeafK k))) ∧ w = w' := by
  have H : decide (LeafK k) = ((k != 1) && (k != 2)) := by
    rw [Bool.eq_iff_iff, decide_eq_true_iff]
    unfold LeafK
    simp
  replace H := Lib.hid H
  go_enter Try.func109, Try.ntmps109
  go_wp2
  all_goals go_ret
  all_goals exact ⟨ret_bool (by rw [H.out] <;> simp [*]), rfl⟩
/-- a part as a value -/
abbrev aggV (p : Prt) : Value := .agg #[.int .i64 p.nd.sym, .int .i64 p.nd.kind, .int .i64 p.nd.lo, .int .i64 p.nd.inn, .int .i64 p.nd.hi, .int .i64 p.nd.look, .slice p.kA p.nd.kids.length p.kc, .int .u64 p.nd.met]
set_option maxHeartbeats 1000000 in
theorem bare_any (p : Prt) (w : World) : Calls Try.prog 97 #[aggV p] w fun e w' => e = .returned (.bool (decide (Bare p.nd))) ∧ Ext w w' := by
  obtain ⟨⟨sym, kind, lo, inn, hi, look, kids, met⟩, kA, kc⟩ := p
  go_enter Try.func97, Try.ntmps97
  go_wp2_with (first | (go_at_call 134; refine (token_any _ _).mono ?_; rintro e w' ⟨rfl, rfl⟩) | (go_at_call 85; refine (leaf_any _ _).mono ?_; rintro e w' ⟨rfl, rfl⟩) | go_in)
  all_goals go_ret
  all_goals refine ⟨ret_bool ?_, (Ext.refl _).alloc _⟩
  all_goals (rw [Bool.eq_iff_iff, decide_eq_true_iff])
  all_goals grind [Bare, TokK, LeafK]
end Go.Proofs.Ytggmljookcmnkaa

/- The contract of lies. -/
namespace Go.Proofs.Ytggmljookcmnkaa
open Go.RowKit
attribute [local go_sem] more_drew more_drewN more_size more_cell more_frozen more_setCell drew_more drewN_more lt_add_r lt_add_r2 lt_add_r3 lt_add_r4 lt_add_r5 lt_add_r6 lt_add_r7 lt_add_r8 lt_add_r9 lt_add_r10 lt_self_r lt_self_r2

/-- all kids are places -/
def KidsIn (n : Nat) (ks : List Int) : Prop := ∀ k ∈ ks, ∃ j : Nat, k = (j : Int) ∧ j < n
set_option maxRecDepth 100000 in
set_option maxHeartbeats 1000000 in
theorem lies_any (A : Option Addr) (c : Nat) (ps : List Prt) (p : Prt) (w : World) (hP : Prts w A ps) (hl : ps.length ≤ 9223372036854775807) (hp : PrtOk w p) (hk : KidsIn ps.length p.nd.kids) :
    Calls Try.prog 100 #[.slice A ps.length c, aggV p] w fun e w' => e = .returned (.bool (liesB (nds ps) p.nd.hi p.nd.lo p.nd.kids)) ∧ Ext w w' := by
  have HK := Lib.hid hk
  have HP := Lib.hid hP
  have HKI := Lib.hid hp.kids
  have hc1 := hp.cap
  have hc2 := hp.top
  clear hk hP hp
  obtain ⟨⟨sym, kind, lo, inn, hi, look, kids, met⟩, kA, kc⟩ := p
  dsimp only at *
  go_enter Try.func100, Try.ntmps100
  go_wp2
  go_loop [5, 13] (fun a i => ∃ (j : Nat) (x : Int), j ≤ kids.length ∧ a = .int .i64 x ∧ i = .int .i64 j ∧ Hid (liesB (nds ps) hi lo kids = liesB (nds ps) hi x (kids.drop j))) (fun _ i => kids.length - (intOf i).toNat)
  case atStart => exact ⟨0, lo, Nat.zero_le _, rfl, rfl, Lib.hid rfl⟩
  case round =>
    obtain ⟨j, x, hj, rfl, rfl, he⟩ := hrel
    by_cases hlt : j < kids.length
    · obtain ⟨b, off, rfl, hb, hcell⟩ := HKI.out (by omega)
      have c1 := hcell j hlt
      obtain ⟨i, hi1, hi2⟩ := HK.out (kids.getD j 0) (by rw [List.getD_eq_getElem?_getD, List.getElem?_eq_getElem hlt]; exact List.getElem_mem hlt)
      rw [hi1] at c1
      obtain ⟨q, hq⟩ : ∃ q, ps[i]? = some q := ⟨_, List.getElem?_eq_getElem hi2⟩
      obtain ⟨b2, off2, rfl, hb2, hcell2⟩ := HP.out (by omega)
      obtain ⟨_, _, d2, _, d4, _⟩ := hcell2 i q hq
      have HS : Hid (liesB (nds ps) hi x (kids.drop j) = (decide (x ≤ q.nd.lo) && liesB (nds ps) hi q.nd.hi (kids.drop (j + 1)))) := by
        rw [List.drop_eq_getElem_cons hlt]
        have e : kids[j] = (i : Int) := by rw [← hi1, List.getD_eq_getElem?_getD, List.getElem?_eq_getElem hlt]; rfl
        rw [e]
        simp only [liesB, Int.toNat_natCast]
        rw [nds_get hq]
        exact Lib.hid rfl
      have hbs : b ≠ w.heap.size := by omega
      have hbs2 : b2 ≠ w.heap.size := by omega
      clear hcell hcell2 hi1 hq
      by_cases hx : x ≤ q.nd.lo
      · go_wp2
        go_round
        case rel => exact ⟨j + 1, q.nd.hi, by omega, rfl, by go_num, Lib.hid (by rw [he.out, HS.out, decide_eq_true hx, Bool.true_and])⟩
        case measure => simp [intOf]; omega
      · go_wp2
        go_ret
        exact ⟨ret_bool (by rw [he.out, HS.out, decide_eq_false (by omega), Bool.false_and]), (by repeat (first | exact Ext.refl _ | refine Ext.alloc ?_ _ | refine Ext.more ?_ _ _ | refine Ext.drew ?_ | refine Ext.drewN ?_ _ | refine Ext.setCell ?_ (by simp <;> omega) _))⟩
    · obtain rfl : j = kids.length := by omega
      go_wp2
      go_ret
      exact ⟨ret_bool (by rw [he.out, List.drop_eq_nil_of_le (Nat.le_refl _)]; rfl), (by repeat (first | exact Ext.refl _ | refine Ext.alloc ?_ _ | refine Ext.more ?_ _ _ | refine Ext.drew ?_ | refine Ext.drewN ?_ _ | refine Ext.setCell ?_ (by simp <;> omega) _))⟩
end Go.Proofs.Ytggmljookcmnkaa
