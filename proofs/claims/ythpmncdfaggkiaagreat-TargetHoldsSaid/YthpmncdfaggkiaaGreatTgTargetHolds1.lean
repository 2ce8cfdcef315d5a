/- TgTargetHolds: texts that the proof rests on, part 1. -/
import Derived.Test.YthpmncdfaggkiaaGreatCr1
import Derived.Test.YthpmncdfaggkiaaGreatCr10
import Derived.Test.YthpmncdfaggkiaaGreatCr11
import Derived.Test.YthpmncdfaggkiaaGreatCr2
import Derived.Test.YthpmncdfaggkiaaGreatCr3
import Derived.Test.YthpmncdfaggkiaaGreatCr5
import Derived.Test.YthpmncdfaggkiaaGreatCr6
import Derived.Test.YthpmncdfaggkiaaGreatCr7
import Derived.Test.YthpmncdfaggkiaaGreatCr8
import Derived.Test.YthpmncdfaggkiaaGreatCr9
import Derived.Test.YthpmncdfaggkiaaGreatTg1
import Derived.Test.YthpmncdfaggkiaaGreatTg2
import Derived.WalkKit
import Derived.Handy
import Derived.Deep.Draws
import Derived.BigQuiet
import Derived.Lib.Hide
import Derived.Test.YthpmncdfaggkiaaGreatRows
import Derived.WalkSpells
import Derived.WalkLawsBesides
import Derived.Deep.RegionWith
import Derived.Deep.QuietTactic
import Derived.BigRegion
import Derived.Deep.DeepCutAuto
import Derived.Deep.RegionHeld3
import Derived.Deep.RegionLaw
import Derived.Test.YthpmncdfaggkiaaGreatChecked
import Derived.Maps.AppendAt
import Derived.Deep.AppendLies
import Derived.RegionTactic
import Derived.OwnWalk
import Derived.Laws.OwnMore
import Derived.RangeFuncNested
import Derived.RangeFuncBound
import Derived.RangeFuncCalls
import Derived.RangeFuncLeaves
import Derived.RangeFuncRecord
import Derived.RangeFuncIn
import Derived.Sort.QuietThIn
import Derived.Orders
import Derived.Deep.Quiet
import Derived.OwnWalkIn
import Derived.TacticsInMore
import Derived.LoopNIn
import Derived.LoopIn
import Derived.Deep.LoopGhost
import Derived.Laws.EntriesVeiled
import Derived.Shelf.Abstract
import Derived.Lib.AppendZeros
import Derived.Deep.OwnRows
import Derived.Laws.BitsAllLaws
import Derived.Laws.Closers25b
import Derived.ProofKit
import Derived.OpenShut
import Derived.SizedLaws
import Derived.Lib.SmallJoins
import Derived.Deep.Slices
import Derived.Deep.Fields
import Derived.ChangeSame
import Derived.WalkMore
import Derived.Laws.Strings
import Derived.Laws.MakeOwn
import Derived.Lib.SlicesS
import Derived.Laws.StructEq
import Derived.Maps.OwnOps
import Derived.Maps.OwnSet
import Derived.Maps.Views
import Derived.Laws.BytesArg
namespace Go.Proofs.YthpmncdfaggkiaaGreat
open Go.RowKit
theorem wp_region_ext {P : Program} {id : Nat} {Q : Exit → Act → World → Prop} {a : Act} {w : World} {l : List Oper} (hm : P.follows .mixedOrders = true) (hB : Region.lexB .any l.toArray = true)
    (h : wpQuiet P l.toArray (fun w' => ∃ x : Lay, w' = more w x.os x.k) (fun a' => ∀ w', (∃ x : Lay, w' = more w x.os x.k) → Q .normal a' w') l a) : (Code.region id l.toArray true).wp P Q a w :=
  wp_region_quiet (C := fun w' => ∃ x : Lay, w' = more w x.os x.k) hm hB ⟨⟨[], w.drawn + 1⟩, by simp [more]⟩ (by simpa using h)
theorem calls_ext {P : Program} {f : FuncId} {args : Array Value} {w : World} {x : Lay} {v : Value}
    (h : Calls P f args (more w x.os x.k) fun e w' => e = .returned v ∧ Ext (more w x.os x.k) w') : Calls P f args (more w x.os x.k) fun e w'' => e = .returned v ∧ ∃ y : Lay, w'' = more w y.os y.k :=
  h.mono fun _ _ ⟨he, os, k, hw⟩ => ⟨he, ⟨x.os ++ os, k⟩, by rw [hw, more_more]⟩
theorem calls_ext_same {P : Program} {f : FuncId} {args : Array Value} {w : World} {x : Lay} {v : Value}
    (h : Calls P f args (more w x.os x.k) fun e w' => e = .returned v ∧ more w x.os x.k = w') : Calls P f args (more w x.os x.k) fun e w'' => e = .returned v ∧ ∃ y : Lay, w'' = more w y.os y.k :=
  h.mono fun _ _ ⟨he, hw⟩ => ⟨he, x, hw.symm⟩
end Go.Proofs.YthpmncdfaggkiaaGreat
namespace Go.Proofs.YthpmncdfaggkiaaGreat
theorem Tree.up_lt {l : List Nd} (h : Tree l) {i j : Nat} (hu : Up l i j) : j < i ∧ i < l.length := by
  obtain ⟨p, hp, hk⟩ := hu
  obtain ⟨q, m, a, b, c⟩ := h.at (lt_of_get hp)
  rw [hp] at a; cases a
  obtain ⟨i', e1, e2, e3⟩ := b.kid rfl _ hk
  omega

theorem Part.kid_in {l : List Nd} {i m : Nat} (h : Part l i m) {j : Nat} (h1 : i ≤ j) (h2 : j < m) {p : Nd} (hp : l[j]? = some p) : ∀ k ∈ p.kids, ∃ c : Nat, k = (c : Int) ∧ j < c ∧ c < m := by
  intro k hk
  obtain ⟨q, m1, a, b, c⟩ := h.trek.inside rfl j h1 h2
  rw [hp] at a
  cases a
  obtain ⟨c', e1, e2, e3⟩ := b.kid rfl k hk
  exact ⟨c', e1, by omega, by omega⟩


def LiesIn (l : List Nd) (n m : Nat) : Prop := ∀ (j : Nat) (q : Nd), n ≤ j → j < m → l[j]? = some q → liesB l q.hi q.lo q.kids = true
theorem LiesIn.split {l : List Nd} {a b c : Nat} (h1 : a ≤ b) (h2 : b ≤ c) : LiesIn l a c ↔ LiesIn l a b ∧ LiesIn l b c := by
  refine ⟨fun h => ⟨fun j q hj hj2 => h j q hj (by omega), fun j q hj hj2 => h j q (by omega) hj2⟩, fun ⟨h, h'⟩ j q hj hj2 hq => ?_⟩
  rcases Nat.lt_or_ge j b with hb | hb
  · exact h j q hj hb hq
  · exact h' j q hb hj2 hq
open Classical in
noncomputable def endR (l : List Nd) (n m : Nat) (ok : Bool) (hi at' : Int) (ks : List Int) : Int :=
  if ok = true ∧ LiesIn l n m ∧ liesB l hi at' ks = true then (m : Int) else -1
theorem endR_nil {l : List Nd} {n m : Nat} {ok : Bool} {hi at' : Int} (h : Trek l [] n ok m) : endR l n m ok hi at' [] = if at' ≤ hi then (n : Int) else -1 := by
  cases h
  have h0 : LiesIn l n n := fun j q h1 h2 => by omega
  have h1 : liesB l hi at' [] = decide (at' ≤ hi) := by rw [liesB]
  unfold endR
  by_cases hx : at' ≤ hi
  · rw [if_pos hx, if_pos ⟨rfl, h0, by rw [h1]; exact decide_eq_true hx⟩]
  · rw [if_neg hx, if_neg (fun hc => hx (of_decide_eq_true (h1 ▸ hc.2.2)))]
theorem endR_bad {l : List Nd} {n m : Nat} {ok : Bool} {hi at' k : Int} {ks : List Int} (h : Trek l (k :: ks) n ok m) (hb : k ≠ (n : Int) ∨ l.length ≤ n) : endR l n m ok hi at' (k :: ks) = -1 := by
  obtain ⟨rfl, _⟩ := h.stop hb
  unfold endR
  simp
theorem endR_ahead {l : List Nd} {n m : Nat} {ok : Bool} {hi at' : Int} {ks : List Int} {q : Nd} (hq : l[n]? = some q) (hb : q.lo < at') : endR l n m ok hi at' ((n : Int) :: ks) = -1 := by
  unfold endR
  rw [if_neg]
  rintro ⟨_, _, h⟩
  unfold liesB at h
  rw [Int.toNat_natCast, hq] at h
  simp only [Bool.and_eq_true, decide_eq_true_eq] at h
  omega
theorem liesB_cons {l : List Nd} {n : Nat} {q : Nd} {hi at' : Int} {ks : List Int} (hq : l[n]? = some q) (hb : at' ≤ q.lo) : (liesB l hi at' ((n : Int) :: ks) = true) ↔ liesB l hi q.hi ks = true := by
  have : liesB l hi at' ((n : Int) :: ks) = (decide (at' ≤ q.lo) && liesB l hi q.hi ks) := by
    conv => lhs; unfold liesB
    rw [Int.toNat_natCast, hq]
  rw [this]
  simp [hb]
theorem endR_sub_bad {l : List Nd} {n m m' : Nat} {ok ok' : Bool} {hi at' : Int} {ks : List Int} {q : Nd} (hq : l[n]? = some q) (h : Trek l ((n : Int) :: ks) n ok m) (h' : Trek l q.kids (n + 1) ok' m') (he : endR l (n + 1) m' ok' q.hi q.lo q.kids < 0) : endR l n m ok hi at' ((n : Int) :: ks) = -1 := by
  unfold endR at he ⊢
  rw [if_neg]
  rintro ⟨h1, h2, h3⟩
  subst h1
  rw [if_pos] at he
  · omega
  · rcases h.head rfl hq with ⟨hf, _⟩ | ⟨m1, t1, t2⟩
    · cases hf
    · obtain ⟨rfl, rfl⟩ := t1.det h'
      have l1 := t1.le.1
      have l2 := t2.le.1
      exact ⟨rfl, fun j p hj hj2 => h2 j p (by omega) (by omega), h2 n q (Nat.le_refl _) (by omega) hq⟩
theorem endR_sub_ok {l : List Nd} {n m m' : Nat} {ok ok' : Bool} {hi at' : Int} {ks : List Int} {q : Nd} (hq : l[n]? = some q) (hb : at' ≤ q.lo) (h : Trek l ((n : Int) :: ks) n ok m) (h' : Trek l q.kids (n + 1) ok' m') (he : ¬ endR l (n + 1) m' ok' q.hi q.lo q.kids < 0) :
    endR l (n + 1) m' ok' q.hi q.lo q.kids = (m' : Int) ∧ n < m' ∧ Trek l ks m' ok m ∧ endR l n m ok hi at' ((n : Int) :: ks) = endR l m' m ok hi q.hi ks := by
  have l0 := h'.le.1
  by_cases hc : ok' = true ∧ LiesIn l (n + 1) m' ∧ liesB l q.hi q.lo q.kids = true
  · have e1 : endR l (n + 1) m' ok' q.hi q.lo q.kids = (m' : Int) := if_pos hc
    obtain ⟨rfl, c2, c3⟩ := hc
    rcases h.head rfl hq with ⟨rfl, t1⟩ | ⟨m1, t1, t2⟩
    · have := (t1.det h').1; cases this
    · obtain ⟨_, rfl⟩ := t1.det h'
      refine ⟨e1, by omega, t2, ?_⟩
      have l2 := t2.le.1
      have hin : LiesIn l n m' := fun j p hj hj2 hp => by
        rcases Nat.eq_or_lt_of_le hj with rfl | hlt
        · rw [hq] at hp; cases hp; exact c3
        · exact c2 j p hlt hj2 hp
      unfold endR
      have : (ok = true ∧ LiesIn l n m ∧ liesB l hi at' ((n : Int) :: ks) = true) ↔ (ok = true ∧ LiesIn l m' m ∧ liesB l hi q.hi ks = true) := by
        rw [LiesIn.split (by omega : n ≤ m') l2, liesB_cons hq hb]
        exact ⟨fun ⟨a, ⟨_, b⟩, c⟩ => ⟨a, b, c⟩, fun ⟨a, b, c⟩ => ⟨a, ⟨hin, b⟩, c⟩⟩
      by_cases hx : ok = true ∧ LiesIn l m' m ∧ liesB l hi q.hi ks = true
      · rw [if_pos hx, if_pos (this.2 hx)]
      · rw [if_neg hx, if_neg (fun hc => hx (this.1 hc))]
  · exfalso
    apply he
    unfold endR
    rw [if_neg hc]
    omega
theorem tree_iff {l : List Nd} {ok : Bool} {m : Nat} {p : Nd} (hp : l[0]? = some p) (ht : Trek l p.kids 1 ok m) : Tree l ↔ (∀ i q, l[i]? = some q → Bare q ∧ (0 < i → q.kind ≠ 1)) ∧ endR l 1 m ok p.hi p.lo p.kids = (l.length : Int) := by
  have hl := lt_of_get hp
  constructor
  · intro T
    refine ⟨T.bare, ?_⟩
    have t := Trek.ofOne (n := 0) hp T.trek
    obtain ⟨rfl, rfl⟩ := t.det ht
    unfold endR
    rw [if_pos ⟨rfl, fun j q _ _ hq => T.lies q (List.mem_of_getElem? hq), T.lies p (List.mem_of_getElem? hp)⟩]
  · rintro ⟨h1, h2⟩
    unfold endR at h2
    split at h2
    · rename_i hc
      obtain ⟨rfl, c2, c3⟩ := hc
      have hm : m = l.length := by omega
      subst hm
      refine ⟨h1, Trek.one (n := 0) hp ht, fun q hq => ?_⟩
      obtain ⟨j, hj, rfl⟩ := List.getElem_of_mem hq
      rcases Nat.eq_zero_or_pos j with rfl | h0
      · rw [List.getElem?_eq_getElem hj] at hp
        injection hp with hp
        rw [hp]
        exact c3
      · exact c2 j _ h0 hj (List.getElem?_eq_getElem hj)
    · omega
theorem endR_tree {l : List Nd} (T : Tree l) {i m : Nat} {p : Nd} (hp : l[i]? = some p) (h : Part l i m) {ok : Bool} {m' : Nat} (ht : Trek l p.kids (i + 1) ok m') : endR l (i + 1) m' ok p.hi p.lo p.kids = (m : Int) := by
  obtain ⟨rfl, rfl⟩ := (Trek.ofOne hp h.trek).det ht
  unfold endR
  rw [if_pos ⟨rfl, fun j q _ _ hq => T.lies q (List.mem_of_getElem? hq), T.lies p (List.mem_of_getElem? hp)⟩]
end Go.Proofs.YthpmncdfaggkiaaGreat
namespace Go.Proofs.YthpmncdfaggkiaaGreat
open Go.RowKit
theorem Prts.nil {w : World} {A : Option Addr} : Prts w A [] := fun h => by simp at h
end Go.Proofs.YthpmncdfaggkiaaGreat
namespace Go.Proofs.YthpmncdfaggkiaaGreat
end Go.Proofs.YthpmncdfaggkiaaGreat
namespace Go.Proofs.YthpmncdfaggkiaaGreat
open Go.RowKit
attribute [local go_sem] more_drew more_drewN more_size more_cell more_frozen more_setCell drew_more drewN_more lt_add_r lt_add_r2 lt_add_r3 lt_add_r4 lt_add_r5 lt_add_r6 lt_self_r lt_self_r2
theorem leafR_any (k : Int) (w : World) : Calls Tryz.prog 91 #[.int .i64 k] w fun e w' => e = .returned (.bool (decide (LeafK k))) ∧ w = w' := by
  have H : decide (LeafK k) = ((k != 1) && (k != 2)) := by
    rw [Bool.eq_iff_iff, decide_eq_true_iff]
    unfold LeafK
    simp
  replace H := zh H
  go_enter Tryz.func91, Tryz.ntmps91
  go_wp2
  all_goals go_ret
  all_goals exact ⟨ret_bool (by rw [H.out] <;> simp [*]), rfl⟩
end Go.Proofs.YthpmncdfaggkiaaGreat
namespace Go.Proofs.YthpmncdfaggkiaaGreat
open Go.RowKit
attribute [local go_sem] more_drew more_drewN more_size more_cell more_frozen more_setCell drew_more drewN_more lt_add_r lt_add_r2 lt_add_r3 lt_add_r4 lt_add_r5 lt_add_r6 lt_add_r7 lt_add_r8 lt_add_r9 lt_add_r10 lt_self_r lt_self_r2
def Lt20 (x : Int) : Prop := -1048576 ≤ x ∧ x ≤ 1048576
structure LightP (most : Nat) (ps : List Prt) : Prop where
  len : ps.length ≤ most
  kids : kc (nds ps) 0 ps.length ≤ 2 * most
  places : ∀ p ∈ ps, Lt20 p.nd.lo ∧ Lt20 p.nd.hi ∧ Lt20 p.nd.look
theorem kc_all (l : List Nd) (j : Nat) : kc l 0 j ≤ kc l 0 l.length := by
  rcases Nat.le_total j l.length with h | h
  · rw [kc_add l (Nat.zero_le j) h]
    omega
  · unfold kc
    rw [List.take_of_length_le h, List.take_of_length_le (Nat.le_refl _)]
    exact Nat.le_refl _
theorem LightP.few {most : Nat} {ps : List Prt} (h : LightP most ps) (hm : most ≤ 1000) : Few ps :=
  ⟨by have := h.len; omega, fun j => by have := kc_all (nds ps) j; rw [nds_length] at this; have := h.kids; omega⟩
def KidsLt (ps : List Prt) : Prop := ∀ p ∈ ps, p.nd.kids.length ≤ 140737488355328
def LightRet (most : Nat) (ps : List Prt) (w : World) (e : Ending) (w' : World) : Prop := ∃ b : Bool, e = .returned (.bool b) ∧ (b = true → LightP most ps) ∧ Ext w w'
set_option maxRecDepth 100000 in
set_option maxHeartbeats 2000000 in
theorem lightParts_any (most : Nat) (A : Option Addr) (c : Nat) (ps : List Prt) (w : World) (hm : most ≤ 1000) (hP : Prts w A ps) (hl : ps.length ≤ 9223372036854775807) (hk : KidsLt ps) :
    Calls Tryz.prog 48 #[.slice A ps.length c, .int .i64 most] w (LightRet most ps w) := by
  have HP := zh hP
  have HK := zh hk
  clear hP hk
  go_enter Tryz.func48, Tryz.ntmps48
  go_wp2_with fail
  go_loopw [5, 6] (fun s i wr => ∃ j n : Nat, j ≤ ps.length ∧ j ≤ most + 1 ∧ i = .int .i64 j ∧ s = .int .i64 n ∧ Hid (n = kc (nds ps) 0 j) ∧ n ≤ 140737488355328 * j ∧ Hid (∀ i p, i < j → ps[i]? = some p → Lt20 p.nd.lo ∧ Lt20 p.nd.hi ∧ Lt20 p.nd.look) ∧ Hid (Ext w wr)) (fun _ i _ => ps.length - (intOf i).toNat)
  case atStart => exact ⟨0, 0, Nat.zero_le _, Nat.zero_le _, rfl, rfl, zh (kc_self _ _).symm, by omega, zh fun i p h => by omega, zh (by repeat first | exact xr _ | refine xa ?_ _ | refine xm ?_ _ _ | refine xd ?_ | refine xn ?_ _ | refine xs ?_ (by simp <;> omega) _)⟩
  case round =>
    obtain ⟨j, n, hj, hjm, rfl, rfl, hn, hn2, hpl, hx⟩ := hrel
    by_cases hlt : j < ps.length
    · by_cases hle : j ≤ most
      · obtain ⟨p, hp⟩ : ∃ p, ps[j]? = some p := ⟨_, List.getElem?_eq_getElem hlt⟩
        obtain ⟨bA, off, rfl, hbA, hcell⟩ := (HP.out.ext hx.out) (by omega)
        obtain ⟨d0, d1, d2, d3, d4, d5, d6, d7⟩ := hcell j p hp
        have hkl := HK.out p (List.mem_of_getElem? hp)
        have HN : Hid (n + p.nd.kids.length = kc (nds ps) 0 (j + 1)) := by rw [kc_add _ (Nat.zero_le j) (show j ≤ j + 1 by omega), kc_one (nds_get hp), ← hn.out]; exact zh rfl
        have HPJ := zh hp
        clear hcell hp
        by_cases hg : (Lt20 p.nd.lo ∧ Lt20 p.nd.hi ∧ Lt20 p.nd.look)
        · obtain ⟨⟨g1, g2⟩, ⟨g3, g4⟩, ⟨g5, g6⟩⟩ := hg
          go_wp2_with fail
          go_roundw
          case rel =>
            refine ⟨j + 1, n + p.nd.kids.length, by omega, by omega, by go_num, by go_num, HN, by omega, zh fun i q hi hq => ?_, zh (hx.out.trans (by repeat first | exact xr _ | refine xa ?_ _ | refine xm ?_ _ _ | refine xd ?_ | refine xn ?_ _ | refine xs ?_ (by simp <;> omega) _))⟩
            rcases (show i < j ∨ i = j by omega) with h | rfl
            · exact hpl.out i q h hq
            · rw [HPJ.out] at hq
              injection hq with hq
              subst hq
              exact ⟨⟨g1, g2⟩, ⟨g3, g4⟩, ⟨g5, g6⟩⟩
          case measure => simp [intOf]; omega
        · have HG := zh hg
          clear hg
          go_wp2_with fail
          all_goals first
            | (go_ret; exact ⟨false, rfl, (fun h => (by cases h)), hx.out.trans (by repeat first | exact xr _ | refine xa ?_ _ | refine xm ?_ _ _ | refine xd ?_ | refine xn ?_ _ | refine xs ?_ (by simp <;> omega) _)⟩)
            | (exfalso; have := HG.out; unfold Lt20 at this; omega)
      · obtain rfl : j = most + 1 := by omega
        have g1 : decide (most + 1 ≤ most) = false := by simp
        go_wp2_with fail
        all_goals first
          | (go_ret; exact ⟨false, rfl, (fun h => (by cases h)), hx.out⟩)
          | (exfalso; omega)
    · obtain rfl : j = ps.length := by omega
      have g1 : decide (ps.length < ps.length) = false := by simp
      by_cases hle : ps.length ≤ most
      · by_cases hks : n ≤ 2 * most
        · have hL : LightP most ps := ⟨hle, by rw [← hn.out]; exact hks, fun p hp => by
            obtain ⟨i, hi, rfl⟩ := List.getElem_of_mem hp
            exact hpl.out i _ hi (List.getElem?_eq_getElem hi)⟩
          have HL := zh hL
          clear hL
          go_wp2_with fail
          go_ret
          exact ⟨_, rfl, fun _ => HL.out, hx.out⟩
        · have hd : decide ((n : Int) ≤ 2 * (most : Int)) = false := decide_eq_false (by omega)
          go_wp2_with fail
          go_ret
          exact ⟨false, ret_bool (by first | rfl | exact hd | (simp; omega)), (fun h => (by cases h)), hx.out⟩
      · have g2 : decide (ps.length ≤ most) = false := decide_eq_false hle
        go_wp2_with fail
        go_ret
        exact ⟨false, rfl, (fun h => (by cases h)), hx.out⟩
end Go.Proofs.YthpmncdfaggkiaaGreat
namespace Go.Proofs.YthpmncdfaggkiaaGreat
theorem first_holds (l : List Nd) (d : Dty) (ks : List Int) : (∀ k ∈ ks, ¬ HoldsOk l k d) ∨ ∃ (j : Nat) (x : Int), ks[j]? = some x ∧ HoldsOk l x d ∧ ∀ (j' : Nat) (x' : Int), j' < j → ks[j']? = some x' → ¬ HoldsOk l x' d := by
  induction ks with
  | nil => exact .inl fun k hk => by cases hk
  | cons k ks ih =>
    by_cases hk : HoldsOk l k d
    · exact .inr ⟨0, k, rfl, hk, fun j' x' h => absurd h (Nat.not_lt_zero _)⟩
    · rcases ih with h | ⟨j, x, hx, hh, hb⟩
      · refine .inl fun y hy => ?_
        rcases List.mem_cons.1 hy with rfl | hy
        · exact hk
        · exact h y hy
      · refine .inr ⟨j + 1, x, hx, hh, fun j' x' hj hx' => ?_⟩
        match j', hx' with
        | 0, hx' =>
          obtain rfl : k = x' := by simpa using hx'
          exact hk
        | j' + 1, hx' => exact hb j' x' (by omega) (by simpa using hx')
theorem BaseR.ex {l : List Nd} (T : Tree l) (d : Dty) : ∀ (n i : Nat), l.length - i ≤ n → i < l.length → ∃ r, BaseR l d i r := by
  intro n
  induction n with
  | zero => intro i h1 h2; omega
  | succ n ih =>
    intro i h1 h2
    obtain ⟨p, hp⟩ : ∃ p, l[i]? = some p := ⟨_, List.getElem?_eq_getElem h2⟩
    rcases first_holds l d p.kids with h | ⟨j, x, hx, hh, hb⟩
    · exact ⟨i, .stop i p hp h⟩
    · obtain ⟨c, rfl, c1, c2⟩ := T.kid_behind hp x (List.mem_of_getElem? hx)
      obtain ⟨r, hr⟩ := ih c (by omega) c2
      exact ⟨r, .go i p j c r hp hx hb hh hr⟩
theorem BaseR.one {l : List Nd} {d : Dty} {i r r' : Nat} (h : BaseR l d i r) (h' : BaseR l d i r') : r' = r := by
  induction h with
  | stop i p hp hn => exact h'.stay hp hn
  | go i p j k r hp hj hb hh _ ih => exact ih (h'.down hp hj hb hh)
theorem BaseR.holds {l : List Nd} {d : Dty} {i r : Nat} (h : BaseR l d i r) : r = i ∨ HoldsOk l (r : Int) d := by
  induction h with
  | stop i p hp hn => exact .inl rfl
  | go i p j k r hp hj hb hh _ ih =>
    rcases ih with rfl | h
    · exact .inr hh
    · exact .inr h
theorem BaseR.last {l : List Nd} {d : Dty} {i r : Nat} (h : BaseR l d i r) : ∀ p, l[r]? = some p → ∀ k ∈ p.kids, ¬ HoldsOk l k d := by
  induction h with
  | stop i p hp hn =>
    intro q hq
    rw [hp] at hq
    cases hq
    exact hn
  | go i p j k r hp hj hb hh _ ih => exact ih
theorem climbF_succ (us : List Int) : ∀ (n : Nat) (i : Int), climbF us (n + 1) i = climbF us 1 (climbF us n i)
  | 0, _ => rfl
  | n + 1, i => by
    by_cases h : 0 < i
    · rw [climbF, if_pos h, climbF_succ us n, show climbF us (n + 1) i = climbF us n ((us[i.toNat]?).getD 0) from by rw [climbF, if_pos h]]
    · have h' : i ≤ 0 := by omega
      rw [climbF_low (n + 1 + 1) h', climbF_low (n + 1) h', climbF_low 1 h']
theorem climbF_add (us : List Int) (n : Nat) : ∀ (m : Nat) (i : Int), climbF us (n + m) i = climbF us m (climbF us n i)
  | 0, _ => rfl
  | m + 1, i => by rw [← Nat.add_assoc, climbF_succ, climbF_add us n m, ← climbF_succ]
theorem climbF_nat {l : List Nd} {us : List Int} (T : Tree l) (h : ParOk l us) : ∀ (n i : Nat), i < l.length → ∃ r : Nat, climbF us n (i : Int) = (r : Int) ∧ r ≤ i - n
  | 0, i, _ => ⟨i, rfl, Nat.le_refl _⟩
  | n + 1, i, hi => by
    rcases Nat.eq_zero_or_pos i with rfl | h0
    · exact ⟨0, climbF_low _ (by simp), by omega⟩
    · obtain ⟨j, hj, hlt, _⟩ := h.step T h0 hi
      obtain ⟨r, hr, hle⟩ := climbF_nat T h n j (by omega)
      refine ⟨r, ?_, by omega⟩
      rw [climbF, if_pos (by omega), Int.toNat_natCast, hj]
      exact hr
end Go.Proofs.YthpmncdfaggkiaaGreat
namespace Go.Proofs.YthpmncdfaggkiaaGreat
open Go.RowKit
attribute [local go_sem] more_drew more_drewN more_size more_cell more_frozen more_setCell drew_more drewN_more lt_add_r lt_add_r2 lt_add_r3 lt_add_r4 lt_add_r5 lt_add_r6 lt_add_r7 lt_add_r8 lt_add_r9 lt_add_r10 lt_self_r lt_self_r2
def dyCells (d : Dty) : List Value := [.int .i64 d.slot, .int .i64 d.lo, .int .i64 d.hi, .int .i64 d.age, .int .i64 d.level]
end Go.Proofs.YthpmncdfaggkiaaGreat
namespace Go.Proofs.YthpmncdfaggkiaaGreat
open Go.RowKit
attribute [local go_sem] more_drew more_drewN more_size more_cell more_frozen more_setCell drew_more drewN_more lt_add_r lt_add_r2 lt_add_r3 lt_add_r4 lt_add_r5 lt_add_r6 lt_self_r lt_self_r2
set_option maxHeartbeats 2000000 in
theorem bareR_any (p : Prt) (w : World) : Calls Tryz.prog 49 #[aggV p] w fun e w' => e = .returned (.bool (decide (Bare p.nd))) ∧ Ext w w' := by
  obtain ⟨⟨sym, kind, lo, inn, hi, look, kids, met⟩, kA, kc⟩ := p
  go_enter Tryz.func49, Tryz.ntmps49
  go_wp2_with (first | (go_at_call 91; refine (leafR_any _ _).mono ?_; rintro e w' ⟨rfl, rfl⟩) | go_in)
  all_goals go_ret
  all_goals refine ⟨ret_bool ?_, (Ext.refl _).alloc _⟩
  all_goals (rw [Bool.eq_iff_iff, decide_eq_true_iff])
  all_goals grind [Bare, TokK, LeafK]
end Go.Proofs.YthpmncdfaggkiaaGreat
namespace Go.Proofs.YthpmncdfaggkiaaGreat
open Go.RowKit
attribute [local go_sem] more_drew more_drewN more_size more_cell more_frozen more_setCell drew_more drewN_more lt_add_r lt_add_r2 lt_add_r3 lt_add_r4 lt_add_r5 lt_add_r6 lt_add_r7 lt_add_r8 lt_add_r9 lt_add_r10 lt_self_r lt_self_r2
set_option maxRecDepth 100000 in
set_option maxHeartbeats 1500000 in
theorem rend_any (A : Option Addr) (c : Nat) (ps : List Prt) : ∀ (fuel i m : Nat) (ok : Bool) (p : Prt) (w : World), PS w A c ps → ps.length - i ≤ fuel → ps[i]? = some p → Trek (nds ps) p.nd.kids (i + 1) ok m →
    Calls Tryz.prog 50 #[.slice A ps.length c, .int .i64 i] w fun e w' => e = .returned (.int .i64 (endR (nds ps) (i + 1) m ok p.nd.hi p.nd.lo p.nd.kids)) ∧ Ext w w' := by
  intro fuel
  induction fuel with
  | zero =>
    intro i m ok p w h hf hp ht
    have := lt_of_get hp
    omega
  | succ fuel ih =>
    intro i m ok p w h hf hp ht
    have hil := lt_of_get hp
    have hl := h.few.len
    obtain ⟨b, off, rfl, hb, hcell⟩ := h.parts (by omega)
    obtain ⟨_, _, d2, _, d4, _, d6, _⟩ := hcell i p hp
    have hcap := h.cap
    have b1 : IntKind.i64.wrap ((i : Int) + 1) = ((i + 1 : Nat) : Int) := by
      rw [show ((i : Int) + 1) = ((i + 1 : Nat) : Int) by omega]
      exact IntWalk.i64_in _ (by omega)
    have hpo := h.oks.get hp
    have ho1 := hpo.cap
    have ho2 := hpo.top
    have S := zh h
    have IH := zh ih
    have HT := zh ht
    have HPP := zh hp
    have HPO := zh hpo
    clear h ih ht hp hcell hpo
    go_enter Tryz.func50, Tryz.ntmps50
    go_upto_region 1 with fail
    refine wp_region_ext (by kernel_rfl) (by kernel_rfl) ?_
    repeat (go_big_quiet_step (fail))
    refine wpQuiet_nil ?_
    intro _ hw'
    obtain ⟨x9, rfl⟩ := hw'
    obtain ⟨W4, hW4⟩ : ∃ W4, more w x9.os x9.k = W4 := ⟨_, rfl⟩
    have HX4 : Hid (Ext w W4) := zh (by rw [← hW4]; exact ⟨_, _, rfl⟩)
    rw [hW4]
    clear hW4
    have CELLS := zh (fun (V : World) (x : Ext w V) => (⟨(x.below.cell (p := ⟨b, off + i * 8 + 4, none⟩) hb).trans d4, (x.below.cell (p := ⟨b, off + i * 8 + 6, none⟩) hb).trans d6, Nat.lt_of_lt_of_le hb x.size⟩ :
      V.cell? ⟨b, off + i * 8 + 4, none⟩ = some (.int .i64 p.nd.hi) ∧ V.cell? ⟨b, off + i * 8 + 6, none⟩ = some (.slice p.kA p.nd.kids.length p.kc) ∧ b < V.heap.size))
    clear d2 d4 d6 b1
    go_wp2_with fail
    go_loopw [5, 6, 7] (fun nx av kv wr => ∃ (k n2 : Nat) (a2 : Int), k ≤ p.nd.kids.length ∧ kv = .int .i64 k ∧ nx = .int .i64 n2 ∧ av = .int .i64 a2 ∧ i < n2 ∧ n2 ≤ ps.length ∧
      Hid (Trek (nds ps) (p.nd.kids.drop k) n2 ok m ∧ endR (nds ps) (i + 1) m ok p.nd.hi p.nd.lo p.nd.kids = endR (nds ps) n2 m ok p.nd.hi a2 (p.nd.kids.drop k)) ∧ Hid (Ext w wr)) (fun _ _ kv _ => p.nd.kids.length - (intOf kv).toNat)
    case atStart => exact ⟨0, i + 1, p.nd.lo, Nat.zero_le _, rfl, rfl, rfl, by omega, by omega, zh ⟨HT.out, rfl⟩, HX4⟩
    case round =>
      obtain ⟨k, n2, a2, hk, rfl, rfl, rfl, hin, hn2, hH, hx⟩ := hrel
      obtain ⟨kd4, kd6, kb⟩ := CELLS.out wr hx.out
      by_cases hlt : k < p.nd.kids.length
      · obtain ⟨bk, offk, hkA, hbk, hck⟩ := (HPO.out.ext hx.out).kids (by omega)
        have e1 := hck k hlt
        obtain ⟨x, hxk⟩ : ∃ x, p.nd.kids[k]? = some x := ⟨_, List.getElem?_eq_getElem hlt⟩
        rw [List.getD_eq_getElem?_getD, hxk] at e1
        dsimp only [Option.getD_some] at e1
        have hdr : p.nd.kids.drop k = x :: p.nd.kids.drop (k + 1) := by
          rw [List.drop_eq_getElem_cons hlt]
          congr 1
          rw [List.getElem?_eq_getElem hlt] at hxk
          injection hxk
        have hH' := hH.out
        rw [hdr] at hH'
        obtain ⟨ht2, he2⟩ := hH'
        have HE2 := zh he2
        have HT2 := zh ht2
        rw [hkA] at kd6
        clear hck hxk hdr he2 ht2 hH hkA
        by_cases hbad : x ≠ (n2 : Int) ∨ (nds ps).length ≤ n2
        · have HR := zh (endR_bad (hi := p.nd.hi) (at' := a2) HT2.out hbad)
          rw [nds_length] at hbad
          by_cases hxn : x = (n2 : Int)
          · subst hxn
            have hle : decide (ps.length ≤ n2) = true := decide_eq_true (by omega)
            clear hbad
            go_wp2_with fail
            go_ret
            exact ⟨ret_int (by rw [HE2.out, HR.out]), hx.out.trans (by repeat first | exact xr _ | refine xa ?_ _ | refine xm ?_ _ _ | refine xd ?_ | refine xn ?_ _ | refine xs ?_ (by simp <;> omega) _)⟩
          · have hxb : (x != (n2 : Int)) = true := by simpa using hxn
            clear hbad hxn
            go_wp2_with fail
            go_ret
            exact ⟨ret_int (by rw [HE2.out, HR.out]), hx.out.trans (by repeat first | exact xr _ | refine xa ?_ _ | refine xm ?_ _ _ | refine xd ?_ | refine xn ?_ _ | refine xs ?_ (by simp <;> omega) _)⟩
        · have hxn : x = (n2 : Int) := Decidable.byContradiction fun h => hbad (.inl h)
          have hnl : n2 < ps.length := by rw [← nds_length]; exact Nat.lt_of_not_le fun h => hbad (.inr h)
          subst hxn
          clear hbad
          obtain ⟨q, hq⟩ : ∃ q, ps[n2]? = some q := ⟨_, List.getElem?_eq_getElem hnl⟩
          obtain ⟨b2, off2, hA2, _, hc2⟩ := (S.out.ext hx.out).parts (by omega)
          injection hA2 with hA2
          injection hA2 with ea eb
          subst ea eb
          obtain ⟨_, _, g2, _, g4, _, _, _⟩ := hc2 n2 q hq
          have hle : decide (ps.length ≤ n2) = false := decide_eq_false (by omega)
          by_cases hah : q.nd.lo < a2
          · have HR := zh (endR_ahead (m := m) (ok := ok) (hi := p.nd.hi) (ks := p.nd.kids.drop (k + 1)) (nds_get hq) hah)
            have hd : decide (q.nd.lo < a2) = true := decide_eq_true hah
            clear hah hq hc2
            go_wp2_with fail
            go_ret
            exact ⟨ret_int (by rw [HE2.out, HR.out]), hx.out.trans (by repeat first | exact xr _ | refine xa ?_ _ | refine xm ?_ _ _ | refine xd ?_ | refine xn ?_ _ | refine xs ?_ (by simp <;> omega) _)⟩
          · have hd : decide (q.nd.lo < a2) = false := decide_eq_false hah
            obtain ⟨ok', m', ht'⟩ := trek_all (nds ps) ps.length q.nd.kids (n2 + 1) (by rw [nds_length]; omega)
            have CALL := zh (fun (V : World) (x : Ext wr V) => IH.out n2 m' ok' q V ((S.out.ext hx.out).ext x) (by omega) hq ht')
            have HBN := zh (endR_sub_bad (hi := p.nd.hi) (at' := a2) (nds_get hq) HT2.out ht')
            have HOK := zh (endR_sub_ok (hi := p.nd.hi) (at' := a2) (nds_get hq) (Int.not_lt.1 hah) HT2.out ht')
            have hm' := ht'.le.2 (by rw [nds_length]; omega)
            rw [nds_length] at hm'
            obtain ⟨r, hr⟩ : ∃ r, endR (nds ps) (n2 + 1) m' ok' q.nd.hi q.nd.lo q.nd.kids = r := ⟨_, rfl⟩
            rw [hr] at CALL HBN HOK
            clear hah hq hc2 ht' hr
            go_wp2_with fail
            refine (CALL.out _ (by repeat first | exact xr _ | refine xa ?_ _ | refine xm ?_ _ _ | refine xd ?_ | refine xn ?_ _ | refine xs ?_ (by simp <;> omega) _)).mono ?_
            rintro e w3 ⟨rfl, hx3⟩
            have HX3 : Hid (Ext w w3) := zh (hx.out.trans (Ext.trans (by repeat first | exact xr _ | refine xa ?_ _ | refine xm ?_ _ _ | refine xd ?_ | refine xn ?_ _ | refine xs ?_ (by simp <;> omega) _) hx3))
            clear hx3
            by_cases hneg : r < 0
            · have hrd : decide (r < 0) = true := decide_eq_true hneg
              have HR := zh (HBN.out (by omega))
              clear hneg
              go_wp2_with fail
              go_ret
              exact ⟨ret_int (by rw [HE2.out, HR.out]), HX3.out⟩
            · have hrd : decide (r < 0) = false := decide_eq_false hneg
              obtain ⟨h1, h2, h3, h4⟩ := HOK.out (by omega)
              clear hneg
              subst h1
              have HR := zh (show Trek (nds ps) (p.nd.kids.drop (k + 1)) m' ok m ∧ endR (nds ps) (i + 1) m ok p.nd.hi p.nd.lo p.nd.kids = endR (nds ps) m' m ok p.nd.hi q.nd.hi (p.nd.kids.drop (k + 1)) from ⟨h3, HE2.out.trans h4⟩)
              clear h3 h4
              go_wp2_with fail
              go_roundw
              case rel => exact ⟨k + 1, m', q.nd.hi, by omega, by go_num, rfl, rfl, by omega, hm', HR, HX3⟩
              case measure => simp [intOf]; omega
      · obtain rfl : k = p.nd.kids.length := by omega
        have hH' := hH.out
        rw [List.drop_eq_nil_of_le (Nat.le_refl _)] at hH'
        have HR := zh (hH'.2.trans (endR_nil hH'.1))
        clear hH' hH
        by_cases ha : a2 ≤ p.nd.hi
        · have hd : decide (p.nd.hi < a2) = false := decide_eq_false (by omega)
          have HR2 := zh (HR.out.trans (if_pos ha))
          clear ha
          go_wp2_with fail
          go_ret
          exact ⟨ret_int (by rw [HR2.out]), hx.out.trans (by repeat first | exact xr _ | refine xa ?_ _ | refine xm ?_ _ _ | refine xd ?_ | refine xn ?_ _ | refine xs ?_ (by simp <;> omega) _)⟩
        · have hd : decide (p.nd.hi < a2) = true := decide_eq_true (by omega)
          have HR2 := zh (HR.out.trans (if_neg ha))
          clear ha
          go_wp2_with fail
          go_ret
          exact ⟨ret_int (by rw [HR2.out]), hx.out.trans (by repeat first | exact xr _ | refine xa ?_ _ | refine xm ?_ _ _ | refine xd ?_ | refine xn ?_ _ | refine xs ?_ (by simp <;> omega) _)⟩
section
variable {A : Option Addr} {c : Nat} {ps : List Prt} {w : World}
set_option maxRecDepth 100000 in
set_option maxHeartbeats 1500000 in
theorem rcheck_any (h : PS w A c ps) : Calls Tryz.prog 13 #[.slice A ps.length c] w fun e w' => e = .returned (.int .i64 (checkF (nds ps))) ∧ Ext w w' := by
  have hl := h.few.len
  have S := zh h
  have HC := zh (checkF_few hl)
  have hd0 : decide ((524288 : Int) < (ps.length : Int)) = false := decide_eq_false (by omega)
  clear h
  go_enter Tryz.func13, Tryz.ntmps13
  go_wp2_with fail
  go_loopw [3] (fun v wr => ∃ j : Nat, j ≤ ps.length ∧ v = .int .i64 j ∧ Hid (∀ i p, i < j → ps[i]? = some p → Bare p.nd ∧ (0 < i → p.nd.kind ≠ 1)) ∧ Hid (Ext w wr)) (fun v _ => ps.length - (intOf v).toNat)
  case atStart => exact ⟨0, Nat.zero_le _, rfl, zh (fun i p hi => by omega), zh (Ext.refl _)⟩
  case round =>
    obtain ⟨j, hj, rfl, hB, hx⟩ := hrel
    by_cases hlt : j < ps.length
    · obtain ⟨p, hp⟩ : ∃ p, ps[j]? = some p := ⟨_, List.getElem?_eq_getElem hlt⟩
      obtain ⟨b, off, rfl, hb, hcell⟩ := (S.out.ext hx.out).parts (by omega)
      obtain ⟨d0, d1, d2, d3, d4, d5, d6, d7⟩ := hcell j p hp
      have hcap := S.out.cap
      have NT : Hid (¬ (Bare p.nd ∧ (0 < j → p.nd.kind ≠ 1)) → ¬ Tree (nds ps)) := zh fun hn T => hn (T.bare j p.nd (nds_get hp))
      have NX : Hid (Bare p.nd ∧ (0 < j → p.nd.kind ≠ 1) → ∀ i q, i < j + 1 → ps[i]? = some q → Bare q.nd ∧ (0 < i → q.nd.kind ≠ 1)) := zh fun hok i q hi hq => by
        rcases (show i < j ∨ i = j by omega) with h | rfl
        · exact hB.out i q h hq
        · rw [hp] at hq
          injection hq with hq
          subst hq
          exact hok
      have D1 := zh (fun (V : World) (x : Ext wr V) => (⟨(x.below.cell (p := ⟨b, off + j * 8 + 1, none⟩) hb).trans d1, Nat.lt_of_lt_of_le hb x.size⟩ : V.cell? ⟨b, off + j * 8 + 1, none⟩ = some (.int .i64 p.nd.kind) ∧ b < V.heap.size))
      clear hcell hp
      go_wp2_with fail
      refine (bareR_any p wr).mono ?_
      rintro e w2 ⟨rfl, hx2⟩
      obtain ⟨k1, k2⟩ := D1.out w2 hx2
      have HX2 := zh (hx.out.trans hx2)
      clear hx2 d0 d1 d2 d3 d4 d5 d6 d7
      by_cases hBr : Bare p.nd
      · have hbd : decide (Bare p.nd) = true := decide_eq_true hBr
        by_cases h0 : j = 0
        · have h0d : decide (0 < j) = false := decide_eq_false (by omega)
          have N2 := zh (NX.out ⟨hBr, fun h => by omega⟩)
          clear hBr h0
          go_wp2_with fail
          go_roundw
          case rel => exact ⟨j + 1, by omega, by go_num, N2, HX2⟩
          case measure => simp [intOf]; omega
        · have h0d : decide (0 < j) = true := decide_eq_true (by omega)
          by_cases hk : p.nd.kind = 1
          · have hk1 : (p.nd.kind == 1) = true := by simp [hk]
            have N2 := zh (NT.out (fun h => h.2 (by omega) hk))
            clear hBr h0 hk
            go_wp2_with fail
            go_ret
            exact ⟨ret_int (by rw [HC.out.2 N2.out]), HX2.out⟩
          · have hk1 : (p.nd.kind == 1) = false := by simp [hk]
            have N2 := zh (NX.out ⟨hBr, fun _ => hk⟩)
            clear hBr h0 hk
            go_wp2_with fail
            go_roundw
            case rel => exact ⟨j + 1, by omega, by go_num, N2, HX2⟩
            case measure => simp [intOf]; omega
      · have hbd : decide (Bare p.nd) = false := decide_eq_false hBr
        have N2 := zh (NT.out (fun h => hBr h.1))
        clear hBr
        go_wp2_with fail
        go_ret
        exact ⟨ret_int (by rw [HC.out.2 N2.out]), HX2.out⟩
    · obtain rfl : j = ps.length := by omega
      by_cases h0 : ps.length = 0
      · have hz : ((ps.length : Int) == 0) = true := by simp [h0]
        have N2 : Hid (¬ Tree (nds ps)) := zh fun T => by have := T.pos; rw [nds_length] at this; omega
        clear h0
        go_wp2_with fail
        go_ret
        exact ⟨ret_int (by rw [HC.out.2 N2.out]), hx.out⟩
      · have hz : ((ps.length : Int) == 0) = false := by rw [beq_eq_false_iff_ne]; omega
        obtain ⟨p, hp⟩ : ∃ p, ps[0]? = some p := ⟨_, List.getElem?_eq_getElem (by omega)⟩
        obtain ⟨ok, m, ht⟩ := trek_all (nds ps) ps.length p.nd.kids 1 (by rw [nds_length]; omega)
        have CE := zh (rend_any A c ps ps.length 0 m ok p wr (S.out.ext hx.out) (by omega) hp ht)
        have HTI : Hid (Tree (nds ps) ↔ endR (nds ps) 1 m ok p.nd.hi p.nd.lo p.nd.kids = (ps.length : Int)) := zh (by
          rw [tree_iff (nds_get hp) ht, nds_length]
          refine ⟨fun h => h.2, fun h => ⟨fun i q hq => ?_, h⟩⟩
          obtain ⟨q', hq', rfl⟩ := nds_get' hq
          exact hB.out i q' (lt_of_get hq') hq')
        obtain ⟨r, hr⟩ : ∃ r, endR (nds ps) 1 m ok p.nd.hi p.nd.lo p.nd.kids = r := ⟨_, rfl⟩
        rw [Nat.zero_add, hr] at CE
        rw [hr] at HTI
        clear hp ht hr h0
        go_wp2_with fail
        refine CE.out.mono ?_
        rintro e w3 ⟨rfl, hx3⟩
        have HX3 := zh (hx.out.trans hx3)
        clear hx3
        by_cases hrn : r = (ps.length : Int)
        · have hb : (r != (ps.length : Int)) = false := by simp [hrn]
          have T := zh (HTI.out.2 hrn)
          clear hrn
          go_wp2_with fail
          go_ret
          exact ⟨ret_int (by rw [HC.out.1 T.out]), HX3.out⟩
        · have hb : (r != (ps.length : Int)) = true := by simpa using hrn
          have T := zh (fun h => hrn (HTI.out.1 h))
          clear hrn
          go_wp2_with fail
          go_ret
          exact ⟨ret_int (by rw [HC.out.2 T.out]), HX3.out⟩
theorem rcheck_ok (h : PS w A c ps) (T : Tree (nds ps)) : Calls Tryz.prog 13 #[.slice A ps.length c] w fun e w' => e = .returned (.int .i64 0) ∧ Ext w w' :=
  (rcheck_any h).mono fun _ _ ⟨he, hx⟩ => ⟨by rw [he, (checkF_few h.few.len).1 T], hx⟩
theorem rcheck_no (h : PS w A c ps) (T : ¬ Tree (nds ps)) : Calls Tryz.prog 13 #[.slice A ps.length c] w fun e w' => e = .returned (.int .i64 2) ∧ Ext w w' :=
  (rcheck_any h).mono fun _ _ ⟨he, hx⟩ => ⟨by rw [he, (checkF_few h.few.len).2 T], hx⟩
set_option maxRecDepth 100000 in
set_option maxHeartbeats 1000000 in
theorem ris_yes (i : Int) (h : PS w A c ps) (T : Tree (nds ps)) : Calls Tryz.prog 56 #[.slice A ps.length c, .int .i64 i] w fun e w' => e = .returned (.bool (decide (0 ≤ i) && decide (i < (ps.length : Int)))) ∧ Ext w w' := by
  have CH := zh (rcheck_ok h T)
  have hl := h.few.len
  clear h T
  go_enter Tryz.func56, Tryz.ntmps56
  go_wp2_with fail
  refine CH.out.mono ?_
  rintro e w2 ⟨rfl, hx2⟩
  have HX := zh hx2
  clear hx2
  go_wp2_with fail
  all_goals go_ret
  all_goals exact ⟨ret_bool (by rw [Bool.eq_iff_iff]; simp; try omega), HX.out⟩
set_option maxRecDepth 100000 in
set_option maxHeartbeats 1000000 in
theorem rEnd_yes (i m : Nat) (h : PS w A c ps) (T : Tree (nds ps)) (hp : Part (nds ps) i m) : Calls Tryz.prog 18 #[.slice A ps.length c, .int .i64 i] w fun e w' => e = .returned (.int .i64 m) ∧ Ext w w' := by
  have hil := hp.lt
  rw [nds_length] at hil
  have CH := zh (ris_yes (i : Int) h T)
  obtain ⟨p, hpp⟩ : ∃ p, ps[i]? = some p := ⟨_, List.getElem?_eq_getElem hil⟩
  obtain ⟨ok, m', ht⟩ := trek_all (nds ps) ps.length p.nd.kids (i + 1) (by rw [nds_length]; omega)
  have CE := zh (fun (V : World) (x : Ext w V) => rend_any A c ps ps.length i m' ok p V (h.ext x) (by omega) hpp ht)
  rw [endR_tree T (nds_get hpp) hp ht] at CE
  have hd1 : decide ((0 : Int) ≤ (i : Int)) = true := decide_eq_true (by omega)
  have hd2 : decide ((i : Int) < (ps.length : Int)) = true := decide_eq_true (by omega)
  rw [hd1, hd2] at CH
  clear h T hp hpp ht hd1 hd2
  go_enter Tryz.func18, Tryz.ntmps18
  go_wp2_with fail
  refine CH.out.mono ?_
  rintro e w2 ⟨rfl, hx2⟩
  have HX := zh hx2
  clear hx2
  go_wp2_with fail
  refine (CE.out _ HX.out).mono ?_
  rintro e w3 ⟨rfl, hx3⟩
  have HX3 := zh (HX.out.trans hx3)
  clear hx3
  go_wp2_with fail
  go_ret
  exact ⟨rfl, HX3.out⟩
end
theorem rslot_any (n : Int) (w : World) : Calls Tryz.prog 52 #[.int .i64 n] w fun e w' => e = .returned (.bool (decide (0 ≤ n ∧ n < 64))) ∧ w = w' := by
  by_cases h1 : 0 ≤ n
  · by_cases h2 : n ≤ 63
    · go_enter Tryz.func52, Tryz.ntmps52
      go_wp2_with fail
      go_ret
      exact ⟨ret_bool (by simp; omega), rfl⟩
    · go_enter Tryz.func52, Tryz.ntmps52
      go_wp2_with fail
      go_ret
      exact ⟨ret_bool (by simp; omega), rfl⟩
  · go_enter Tryz.func52, Tryz.ntmps52
    go_wp2_with fail
    go_ret
    exact ⟨ret_bool (by simp; omega), rfl⟩
section
variable {A : Option Addr} {c : Nat} {ps : List Prt} {w : World}
set_option maxRecDepth 100000 in
set_option maxHeartbeats 3000000 in
theorem rdone_any (i : Int) (d : Dty) (h : PS w A c ps) : Calls Tryz.prog 15 #[.slice A ps.length c, .int .i64 i, dyV d] w (TellsB w (DoneOk (nds ps) i d)) := by
  have HL := h.few.len
  have hcp := h.cap
  have htp := h.top
  have S := zh h
  clear h
  obtain ⟨slot, lo, hi', age, level⟩ := d
  unfold dyV
  dsimp only
  go_enter Tryz.func15, Tryz.ntmps15
  go_upto_region 1 with fail
  obtain ⟨b, hb⟩ : ∃ b, w.heap.size = b := ⟨_, rfl⟩
  obtain ⟨W1, hW1⟩ : ∃ W1, w.alloc (.cells #[.int .i64 slot, .int .i64 lo, .int .i64 hi', .int .i64 age, .int .i64 level] 26) = W1 := ⟨_, rfl⟩
  have X1 : Hid (Ext w W1) := zh (by rw [← hW1]; exact (by repeat first | exact xr _ | refine xa ?_ _ | refine xm ?_ _ _ | refine xd ?_ | refine xn ?_ _ | refine xs ?_ (by simp <;> omega) _))
  have G1 : W1.heap[b]? = some (.cells #[.int .i64 slot, .int .i64 lo, .int .i64 hi', .int .i64 age, .int .i64 level] 26) := by rw [← hW1, ← hb]; exact heap_alloc_new _ _
  rw [hW1, hb]
  have k0 := cell_of_row _ _ 0 _ _ _ G1
  have k1 := cell_of_row _ _ 1 _ _ _ G1
  have k2 := cell_of_row _ _ 2 _ _ _ G1
  simp at k0 k1 k2
  have l0 := lt_of_heap G1
  have HG := zh G1
  have S1 : Hid (PS W1 A c ps) := zh (S.out.ext X1.out)
  clear hW1 hb G1
  by_cases T : Tree (nds ps)
  · have HT := zh T
    clear T
    by_cases h0 : i < 0
    · have NO : Hid (¬ DoneOk (nds ps) i ⟨slot, lo, hi', age, level⟩) := zh (fun ⟨_, _, _, k, m, p, e, _⟩ => by omega)
      have g0 : decide (i < 0) = true := decide_eq_true h0
      clear h0
      try simp only [List.append_eq, List.cons_append, List.nil_append]
      refine wp_region_ext (by kernel_rfl) (by kernel_rfl) ?_
      repeat (go_big_quiet_step ((first | (go_at_call 13; exact calls_ext (rcheck_ok (S1.out.ext ⟨_, _, rfl⟩) HT.out)))))
      refine wpQuiet_nil ?_
      intro _ hw'
      obtain ⟨x9, rfl⟩ := hw'
      go_wp2_with fail
      go_ret
      exact ⟨false, rfl, ⟨nofun, fun h => absurd h NO.out⟩, X1.out.trans ⟨_, _, rfl⟩⟩
    · by_cases h1 : i < (ps.length : Int)
      · obtain ⟨j, rfl⟩ : ∃ j : Nat, i = (j : Int) := ⟨i.toNat, by omega⟩
        have hjl : j < ps.length := by omega
        have g0 : decide ((j : Int) < 0) = false := decide_eq_false h0
        have g1 : decide (ps.length ≤ j) = false := decide_eq_false (by omega)
        clear h0 h1
        by_cases hs : SlotN slot
        · have h12 : 0 ≤ slot ∧ slot < 64 := hs
          have HS := zh hs
          have CSL := zh (fun (V : World) => by
            have := rslot_any slot V
            rw [decide_eq_true h12] at this
            exact this)
          obtain ⟨p, hp⟩ : ∃ p, ps[j]? = some p := ⟨_, List.getElem?_eq_getElem hjl⟩
          obtain ⟨bA, off, rfl, hbA, hcell⟩ := S1.out.parts (by omega)
          have d2 := (hcell j p hp).2.2.1
          have d4 := (hcell j p hp).2.2.2.2.1
          have HPP := zh hp
          clear hs h12 hcell hp
          by_cases c2 : lo < p.nd.lo
          · have NO : Hid (¬ DoneOk (nds ps) (j : Int) ⟨slot, lo, hi', age, level⟩) := zh (fun ⟨_, _, _, k', m', p', e, hp', _, h, _⟩ => by
              obtain rfl : j = k' := by omega
              rw [nds_get HPP.out] at hp'
              cases hp'
              dsimp only at h
              omega)
            have g2 : decide (lo < p.nd.lo) = true := decide_eq_true c2
            clear c2
            try simp only [List.append_eq, List.cons_append, List.nil_append]
            refine wp_region_ext (by kernel_rfl) (by kernel_rfl) ?_
            repeat (go_big_quiet_step ((first | (go_at_call 13; exact calls_ext (rcheck_ok (S1.out.ext ⟨_, _, rfl⟩) HT.out)) | (go_at_call 52; exact calls_ext_same (CSL.out _)))))
            refine wpQuiet_nil ?_
            intro _ hw'
            obtain ⟨x9, rfl⟩ := hw'
            go_wp2_with fail
            go_ret
            exact ⟨false, rfl, ⟨nofun, fun h => absurd h NO.out⟩, X1.out.trans ⟨_, _, rfl⟩⟩
          · have g2 : decide (lo < p.nd.lo) = false := decide_eq_false c2
            by_cases c3 : p.nd.hi < hi'
            · have NO : Hid (¬ DoneOk (nds ps) (j : Int) ⟨slot, lo, hi', age, level⟩) := zh (fun ⟨_, _, _, k', m', p', e, hp', _, _, h, _⟩ => by
                obtain rfl : j = k' := by omega
                rw [nds_get HPP.out] at hp'
                cases hp'
                dsimp only at h
                omega)
              have g3 : decide (p.nd.hi < hi') = true := decide_eq_true c3
              clear c2 c3
              try simp only [List.append_eq, List.cons_append, List.nil_append]
              refine wp_region_ext (by kernel_rfl) (by kernel_rfl) ?_
              repeat (go_big_quiet_step ((first | (go_at_call 13; exact calls_ext (rcheck_ok (S1.out.ext ⟨_, _, rfl⟩) HT.out)) | (go_at_call 52; exact calls_ext_same (CSL.out _)))))
              refine wpQuiet_nil ?_
              intro _ hw'
              obtain ⟨x9, rfl⟩ := hw'
              go_wp2_with fail
              go_ret
              exact ⟨false, rfl, ⟨nofun, fun h => absurd h NO.out⟩, X1.out.trans ⟨_, _, rfl⟩⟩
            · have g3 : decide (p.nd.hi < hi') = false := decide_eq_false c3
              by_cases c1 : hi' < lo
              · have NO : Hid (¬ DoneOk (nds ps) (j : Int) ⟨slot, lo, hi', age, level⟩) := zh (fun ⟨_, _, h, _⟩ => by dsimp only at h; omega)
                have g4 : decide (hi' < lo) = true := decide_eq_true c1
                clear c1 c2 c3
                try simp only [List.append_eq, List.cons_append, List.nil_append]
                refine wp_region_ext (by kernel_rfl) (by kernel_rfl) ?_
                repeat (go_big_quiet_step ((first | (go_at_call 13; exact calls_ext (rcheck_ok (S1.out.ext ⟨_, _, rfl⟩) HT.out)) | (go_at_call 52; exact calls_ext_same (CSL.out _)))))
                refine wpQuiet_nil ?_
                intro _ hw'
                obtain ⟨x9, rfl⟩ := hw'
                go_wp2_with fail
                go_ret
                exact ⟨false, rfl, ⟨nofun, fun h => absurd h NO.out⟩, X1.out.trans ⟨_, _, rfl⟩⟩
              · have g4 : decide (hi' < lo) = false := decide_eq_false c1
                have HC : Hid (lo ≤ hi' ∧ p.nd.lo ≤ lo ∧ hi' ≤ p.nd.hi) := zh ⟨by omega, by omega, by omega⟩
                obtain ⟨m, hpart⟩ := HT.out.part (i := j) (by rw [nds_length]; exact hjl)
                have HPT := zh hpart
                have hme := hpart.le
                rw [nds_length] at hme
                have YES : Hid ((∀ (n : Nat) (q : Nd), (nds ps)[n]? = some q → tb q.met slot.toNat = true → j ≤ n ∧ n < m) ↔ DoneOk (nds ps) (j : Int) ⟨slot, lo, hi', age, level⟩) := zh ⟨fun h => ⟨HT.out, HS.out, HC.out.1, j, m, p.nd, rfl, nds_get HPP.out, HPT.out, HC.out.2.1, HC.out.2.2, h⟩, fun ⟨_, _, _, k', m', p', e, hp', hm', _, _, h⟩ => by
                  obtain rfl : j = k' := by omega
                  obtain rfl := HPT.out.det hm'
                  exact h⟩
                clear c1 c2 c3 hpart
                try simp only [List.append_eq, List.cons_append, List.nil_append]
                refine wp_region_ext (by kernel_rfl) (by kernel_rfl) ?_
                repeat (go_big_quiet_step ((first | (go_at_call 13; exact calls_ext (rcheck_ok (S1.out.ext ⟨_, _, rfl⟩) HT.out)) | (go_at_call 52; exact calls_ext_same (CSL.out _)))))
                refine wpQuiet_nil ?_
                intro _ hw'
                obtain ⟨x9, rfl⟩ := hw'
                have HX2 : Hid (Ext W1 (more W1 x9.os x9.k)) := zh ⟨_, _, rfl⟩
                obtain ⟨W2, hW2⟩ : ∃ W2, more W1 x9.os x9.k = W2 := ⟨_, rfl⟩
                rw [hW2] at HX2 ⊢
                clear hW2 d2 d4 g0 g1 g2 g3 g4 k0 k1 k2 l0 hbA
                go_wp2_with fail
                refine (rEnd_yes j m (S1.out.ext HX2.out) HT.out HPT.out).mono ?_
                rintro e w3 ⟨rfl, hx3⟩
                have HX3 := zh (HX2.out.trans hx3)
                clear hx3
                go_wp2_with fail
                go_loopw [8] (fun v wr => ∃ n : Nat, n ≤ ps.length ∧ v = .int .i64 n ∧ Hid (∀ (k : Nat) (q : Nd), k < n → (nds ps)[k]? = some q → tb q.met slot.toNat = true → j ≤ k ∧ k < m) ∧ Hid (Ext W1 wr)) (fun v _ => ps.length - (intOf v).toNat)
                case atStart => exact ⟨0, Nat.zero_le _, rfl, zh (fun k q hk => by omega), HX3⟩
                case round =>
                  obtain ⟨n, hn, rfl, hI, hx⟩ := hrel
                  have HGR := ext_block HG.out hx.out
                  have y0 := cell_of_row _ _ 0 _ _ _ HGR
                  simp at y0
                  have ly := lt_of_heap HGR
                  clear HGR
                  by_cases hlt : n < ps.length
                  · obtain ⟨q, hq⟩ : ∃ q, ps[n]? = some q := ⟨_, List.getElem?_eq_getElem hlt⟩
                    obtain ⟨b', off', hA', hb', hcell⟩ := (S1.out.ext hx.out).parts (by omega)
                    injection hA' with hA'
                    injection hA' with ea eb
                    subst ea eb
                    have d7 := (hcell n q hq).2.2.2.2.2.2.2
                    have hmu : U64 q.nd.met := (S.out.oks.get hq).met
                    have hz := last_bit hmu slot.toNat
                    have HQ := zh (nds_get hq)
                    obtain ⟨s1, s2⟩ := HS.out
                    have FOK : Hid (((j ≤ n ∧ n < m) ∨ tb q.nd.met slot.toNat = false) → ∀ (k : Nat) (q : Nd), k < n + 1 → (nds ps)[k]? = some q → tb q.met slot.toNat = true → j ≤ k ∧ k < m) := zh fun h k q2 hk hq2 ht => by
                      rcases (show k < n ∨ k = n by omega) with h1 | rfl
                      · exact hI.out k q2 h1 hq2 ht
                      · rw [HQ.out] at hq2
                        cases hq2
                        rcases h with h | h
                        · exact h
                        · rw [h] at ht; cases ht
                    clear hcell hq hmu
                    cases ht : tb q.nd.met slot.toNat with
                    | true =>
                      rw [ht, if_pos rfl] at hz
                      by_cases a1 : n < j
                      · have NO : Hid (¬ DoneOk (nds ps) (j : Int) ⟨slot, lo, hi', age, level⟩) := zh (fun h => by have := YES.out.2 h n q.nd HQ.out ht; omega)
                        have g3 : decide (n < j) = true := decide_eq_true a1
                        clear ht a1
                        go_upto_region 7 with fail
                        try simp only [List.append_eq, List.cons_append, List.nil_append]
                        refine wp_region_bt (21) (softs_bt [0, 1, 2, 3, 4, 5, 6, 7, 8, 9, 10, 11, 12, 13, 14, 15, 16, 17, 18, 19, 20] .fin) (by kernel_rfl) (by kernel_rfl) ?_
                        refine bt_softs _ fun K hK => ?_; simp only [pick, nthC]; (repeat go_big_quiet_step (fail)); refine wpQuiet_nil (hK _ ?_); clear hK K
                        (refine bt_fin ?_)
                        go_wp2_with fail
                        go_ret
                        exact ⟨false, rfl, ⟨nofun, fun h => absurd h NO.out⟩, (X1.out.trans hx.out).drew⟩
                      · have g3 : decide (n < j) = false := decide_eq_false a1
                        by_cases a2 : m ≤ n
                        · have NO : Hid (¬ DoneOk (nds ps) (j : Int) ⟨slot, lo, hi', age, level⟩) := zh (fun h => by have := YES.out.2 h n q.nd HQ.out ht; omega)
                          have g4 : decide (m ≤ n) = true := decide_eq_true a2
                          clear ht a1 a2
                          go_upto_region 7 with fail
                          try simp only [List.append_eq, List.cons_append, List.nil_append]
                          refine wp_region_bt (21) (softs_bt [0, 1, 2, 3, 4, 5, 6, 7, 8, 9, 10, 11, 12, 13, 14, 15, 16, 17, 18, 19, 20] .fin) (by kernel_rfl) (by kernel_rfl) ?_
                          refine bt_softs _ fun K hK => ?_; simp only [pick, nthC]; (repeat go_big_quiet_step (fail)); refine wpQuiet_nil (hK _ ?_); clear hK K
                          (refine bt_fin ?_)
                          go_wp2_with fail
                          go_ret
                          exact ⟨false, rfl, ⟨nofun, fun h => absurd h NO.out⟩, (X1.out.trans hx.out).drew⟩
                        · have g4 : decide (m ≤ n) = false := decide_eq_false a2
                          have R := zh (FOK.out (.inl ⟨by omega, by omega⟩))
                          clear ht a1 a2
                          go_upto_region 7 with fail
                          try simp only [List.append_eq, List.cons_append, List.nil_append]
                          refine wp_region_bt (21) (softs_bt [0, 1, 2, 3, 4, 5, 6, 7, 8, 9, 10, 11, 12, 13, 14, 15, 16, 17, 18, 19, 20] .fin) (by kernel_rfl) (by kernel_rfl) ?_
                          refine bt_softs _ fun K hK => ?_; simp only [pick, nthC]; (repeat go_big_quiet_step (fail)); refine wpQuiet_nil (hK _ ?_); clear hK K
                          (refine bt_fin ?_)
                          go_wp2_with fail
                          go_roundw
                          case rel => exact ⟨n + 1, by omega, by go_num, R, zh hx.out.drew⟩
                          case measure => simp [intOf]; omega
                    | false =>
                      rw [ht, if_neg Bool.false_ne_true] at hz
                      have R := zh (FOK.out (.inr ht))
                      clear ht
                      go_upto_region 7 with fail
                      try simp only [List.append_eq, List.cons_append, List.nil_append]
                      refine wp_region_bt (21) (softs_bt [0, 1, 2, 3, 4, 5, 6, 7, 8, 9, 10, 11, 12, 13, 14, 15, 16, 17, 18, 19, 20] .fin) (by kernel_rfl) (by kernel_rfl) ?_
                      refine bt_softs _ fun K hK => ?_; simp only [pick, nthC]; (repeat go_big_quiet_step (fail)); refine wpQuiet_nil (hK _ ?_); clear hK K
                      (refine bt_fin ?_)
                      go_wp2_with fail
                      go_roundw
                      case rel => exact ⟨n + 1, by omega, by go_num, R, zh hx.out.drew⟩
                      case measure => simp [intOf]; omega
                  · obtain rfl : n = ps.length := by omega
                    have D0 := zh (YES.out.1 fun k q hq ht => hI.out k q (by have := (List.getElem?_eq_some_iff.1 hq).1; rwa [nds_length] at this) hq ht)
                    go_wp2_with fail
                    go_ret
                    exact ⟨true, rfl, ⟨fun _ => D0.out, fun _ => rfl⟩, X1.out.trans hx.out⟩
        · have NO : Hid (¬ DoneOk (nds ps) (j : Int) ⟨slot, lo, hi', age, level⟩) := zh (fun ⟨_, h, _⟩ => hs h)
          have h12 : ¬ (0 ≤ slot ∧ slot < 64) := hs
          have CSL := zh (fun (V : World) => by
            have := rslot_any slot V
            rw [decide_eq_false h12] at this
            exact this)
          clear hs h12
          try simp only [List.append_eq, List.cons_append, List.nil_append]
          refine wp_region_ext (by kernel_rfl) (by kernel_rfl) ?_
          repeat (go_big_quiet_step ((first | (go_at_call 13; exact calls_ext (rcheck_ok (S1.out.ext ⟨_, _, rfl⟩) HT.out)) | (go_at_call 52; exact calls_ext_same (CSL.out _)))))
          refine wpQuiet_nil ?_
          intro _ hw'
          obtain ⟨x9, rfl⟩ := hw'
          go_wp2_with fail
          go_ret
          exact ⟨false, rfl, ⟨nofun, fun h => absurd h NO.out⟩, X1.out.trans ⟨_, _, rfl⟩⟩
      · have NO : Hid (¬ DoneOk (nds ps) i ⟨slot, lo, hi', age, level⟩) := zh (fun ⟨_, _, _, k, m, p, e, hk, _⟩ => by have := (List.getElem?_eq_some_iff.1 hk).1; rw [nds_length] at this; omega)
        have g0 : decide (i < 0) = false := decide_eq_false h0
        have g1 : decide ((ps.length : Int) ≤ i) = true := decide_eq_true (by omega)
        clear h0 h1
        try simp only [List.append_eq, List.cons_append, List.nil_append]
        refine wp_region_ext (by kernel_rfl) (by kernel_rfl) ?_
        repeat (go_big_quiet_step ((first | (go_at_call 13; exact calls_ext (rcheck_ok (S1.out.ext ⟨_, _, rfl⟩) HT.out)))))
        refine wpQuiet_nil ?_
        intro _ hw'
        obtain ⟨x9, rfl⟩ := hw'
        go_wp2_with fail
        go_ret
        exact ⟨false, rfl, ⟨nofun, fun h => absurd h NO.out⟩, X1.out.trans ⟨_, _, rfl⟩⟩
  · have NO : Hid (¬ DoneOk (nds ps) i ⟨slot, lo, hi', age, level⟩) := zh (fun ⟨h, _⟩ => T h)
    have HT := zh T
    clear T
    try simp only [List.append_eq, List.cons_append, List.nil_append]
    refine wp_region_ext (by kernel_rfl) (by kernel_rfl) ?_
    repeat (go_big_quiet_step ((first | (go_at_call 13; exact calls_ext (rcheck_no (S1.out.ext ⟨_, _, rfl⟩) HT.out)))))
    refine wpQuiet_nil ?_
    intro _ hw'
    obtain ⟨x9, rfl⟩ := hw'
    go_wp2_with fail
    go_ret
    exact ⟨false, rfl, ⟨nofun, fun h => absurd h NO.out⟩, X1.out.trans ⟨_, _, rfl⟩⟩
end
end Go.Proofs.YthpmncdfaggkiaaGreat
namespace Go.Proofs.YthpmncdfaggkiaaGreat
open Go.ChangeShapes Go.WideShapes Go.ChangeAt Go.RowKit
end Go.Proofs.YthpmncdfaggkiaaGreat
namespace Go.Proofs.YthpmncdfaggkiaaGreat
open Go.ChangeShapes Go.WideShapes Go.ChangeAt Go.RowKit Go.Joins Go.Deep
theorem cellsInt : Tryz.prog.cellsOf 3 = 1 := by kernel_rfl
theorem i64_bd {a : Int} (h : (Lit.int .i64 a).wf = true) : -9223372036854775808 ≤ a ∧ a ≤ 9223372036854775807 := by
  simpa [Lit.wf, IntKind.min, IntKind.max, IntKind.signed, IntKind.bits] using h
section
variable {H : Type} {enc : TypeId × Value → H} {W : World} {b0 : Nat} {v : Value} {d : DataW H} {p : List MemPlace}
set_option maxRecDepth 100000 in
theorem open_i64 (hv : Value.okWide Tryz.prog W .any b0 3 v) (h : DataW.Trod enc Tryz.prog W 0 (fun _ => true) true 3 v d p) :
    ∃ a : Int, v = .int .i64 a ∧ -9223372036854775808 ≤ a ∧ a ≤ 9223372036854775807 := by
  obtain ⟨x, rfl, _, _, wx⟩ := open_int Tryz.underlying3 hv h
  exact ⟨x, rfl, i64_bd wx⟩
set_option maxRecDepth 100000 in
theorem ints_cell {n : Nat} {y : DataW H × List MemPlace} (h : DataW.trod enc Tryz.prog W 0 (fun _ => true) true n 31 [v] = some y) :
    ∃ A c xs, v = .slice A xs.length c ∧ Ints W A xs ∧ xs.length ≤ c ∧ c ≤ 9223372036854775807 ∧ (∀ x ∈ xs, -9223372036854775808 ≤ x ∧ x ≤ 9223372036854775807) ∧ (A = none → c = 0) := by
  rcases open_ints Tryz.underlying31 Tryz.underlying3 cellsInt h with ⟨hcs, _⟩ | ⟨a, len, cap, zs, hcs, _, hl, hm, hz, _, hcell, hwz⟩
  · injection hcs with hcs
    exact ⟨none, 0, [], hcs, Ints.nil, by simp, by omega, by simp, fun _ => rfl⟩
  · injection hcs with hcs
    have hz : zs.length = cap := hz
    have hlen : (zs.take len).length = len := by rw [List.length_take]; omega
    refine ⟨some a, cap, zs.take len, by rw [hcs, hlen], ?_, by omega, by unfold maxLen at hm; omega, fun x hx => i64_bd (hwz x (List.mem_of_mem_take hx)), fun h => by cases h⟩
    intro h0
    rw [hlen] at h0
    obtain ⟨b, off, rfl, hc⟩ := ints_at hcell (by omega)
    refine ⟨b, off, rfl, ?_, ?_⟩
    · have := hc 0 (by omega)
      exact World.block_lt_of_cell? _ _ this
    · intro k hk
      rw [hlen] at hk
      rw [hc k (by omega)]
      simp [List.getD_eq_getElem?_getD, hk]
theorem ex_list {α : Type} (n : Nat) (R : Nat → α → Prop) (h : ∀ i, i < n → ∃ x, R i x) : ∃ l : List α, l.length = n ∧ ∀ i x, l[i]? = some x → R i x := by
  induction n with
  | zero => exact ⟨[], rfl, by simp⟩
  | succ n ih =>
    obtain ⟨l, hl, hr⟩ := ih (fun i hi => h i (by omega))
    obtain ⟨x, hx⟩ := h n (by omega)
    refine ⟨l ++ [x], by simp [hl], fun i y hy => ?_⟩
    rw [List.getElem?_append] at hy
    split at hy
    · exact hr i y hy
    · have : i - l.length = 0 := by
        rcases Nat.eq_zero_or_pos (i - l.length) with h0 | h0
        · exact h0
        · rw [List.getElem?_eq_none (by simp; omega)] at hy
          cases hy
      rw [this] at hy
      obtain rfl : x = y := by simpa using hy
      obtain rfl : i = n := by omega
      exact hx
theorem add_plain' (b off i : Nat) : (⟨b, off, none⟩ : Addr).add i = ⟨b, off + i, none⟩ := Go.WideShapes.add_plain b off i
end
theorem cellsPart : Tryz.prog.cellsOf 34 = 8 := by kernel_rfl
theorem u64_bd {a : Int} (h : (Lit.int .u64 a).wf = true) : 0 ≤ a ∧ a ≤ 18446744073709551615 := by
  simpa [Lit.wf, IntKind.min, IntKind.max, IntKind.signed, IntKind.bits] using h
theorem struct_cells2 {H : Type} {enc : TypeId × Value → H} {P : Program} {w : World} {base : Nat} {spare : Nat → Bool} {held : Bool} {e : TypeId} {fs : Array Field} {n : Nat} {a : Addr} {cs : List Value} {x : DataW H × List MemPlace} (he : P.underlying e = some (.struct fs)) (hone : oneCellFields P fs = true)
    (hsz : P.cellsOf e = fs.size) (hc : w.cells? base a (P.cellsOf e) = some cs) (ht : DataW.trod enc P w base spare held n e cs = some x) (j : Nat) (f : Field) (hj : fs[j]? = some f) :
    ∃ (m : Nat) (v : Value) (y : DataW H × List MemPlace), w.cell? (a.add j) = some v ∧ DataW.trod enc P w base spare held m f.type [v] = some y ∧ ∀ k ∈ y.1.weights P f.type, k ∈ x.1.weights P e := by
  obtain ⟨ys, m, hm, hx, _, hyl, hf⟩ := DataW.trod_struct he ht
  obtain ⟨_, hcl, hat⟩ := World.cells?_some hc
  obtain ⟨ho, hk⟩ := hone_of hone j f hj
  have hjl : j < fs.size := (Array.getElem?_eq_some_iff.1 hj).1
  have hjc : j < cs.length := by omega
  have h1 := hf j f hj
  rw [ho, hk, List.drop_eq_getElem_cons hjc] at h1
  refine ⟨m, cs[j], ys[j]'(by omega), ?_, ?_, ?_⟩
  · exact (hat j (by omega)).trans (List.getElem?_eq_getElem hjc)
  · exact h1.trans (List.getElem?_eq_getElem (by omega))
  · intro k hk
    rw [hx]
    simp only [DataW.weights, he]
    refine DataW.weights_mem_each (j := j) (t := f.type) (d := (ys[j]'(by omega)).1) ?_ ?_ k hk
    · rw [List.getElem?_map, Array.getElem?_toList, hj]
      rfl
    · rw [List.getElem?_map, List.getElem?_eq_getElem (by omega)]
      rfl
theorem weights_elem {H : Type} {P : Program} {e : TypeId} : ∀ {l : List (DataW H)} {d : DataW H}, d ∈ l → ∀ k ∈ d.weights P e, k ∈ DataW.weightsAll P e l
  | d0 :: l, d, hd, k, hk => by
    simp only [DataW.weightsAll, List.mem_append]
    rcases List.mem_cons.1 hd with rfl | hd
    · exact .inl hk
    · exact .inr (weights_elem hd k hk)
set_option maxRecDepth 100000 in
theorem ints_cellS {H : Type} {enc : TypeId × Value → H} {W : World} {v : Value} {n : Nat} {y : DataW H × List MemPlace} (h : DataW.trod enc Tryz.prog W 0 (fun _ => true) true n 31 [v] = some y) (hw : ∀ k ∈ y.1.weights Tryz.prog 31, k ≤ reachBytes) :
    ∃ A c xs, v = .slice A xs.length c ∧ Ints W A xs ∧ xs.length ≤ c ∧ c ≤ 9223372036854775807 ∧ (∀ x ∈ xs, -9223372036854775808 ≤ x ∧ x ≤ 9223372036854775807) ∧ (A = none → c = 0) ∧ xs.length ≤ 140737488355328 := by
  obtain ⟨A, c, xs, rfl, h1, h2, h3, h4, h5⟩ := ints_cell h
  refine ⟨A, c, xs, rfl, h1, h2, h3, h4, h5, ?_⟩
  rcases open_ints Tryz.underlying31 Tryz.underlying3 cellsInt h with ⟨hcs, _⟩ | ⟨a, len, cap, zs, hcs, _, hl, hm, hz, hy, _, _⟩
  · injection hcs with hcs
    injection hcs with _ hcs _
    omega
  · injection hcs with hcs
    injection hcs with _ hcs _
    have hz : zs.length = cap := hz
    have hb : Tryz.prog.bytesOf 3 = 8 := by kernel_rfl
    rw [hy] at hw
    have hll : (lits IntKind.i64 (zs.take len) : List (DataW H)).length = len := by simp [lits]; omega
    have := hw (((lits IntKind.i64 (zs.take len) : List (DataW H)).length + (lits IntKind.i64 (zs.drop len) : List (DataW H)).length) * Tryz.prog.bytesOf 3) (by simp [DataW.weights, Tryz.underlying31])
    rw [hb, hll] at this
    have hr := reachBytes_lt
    omega
section
variable {H : Type} {enc : TypeId × Value → H} {W : World} {b0 : Nat} {v : Value} {d : DataW H} {p : List MemPlace}
set_option maxRecDepth 100000 in
theorem open_partsS (hv : Value.okWide Tryz.prog W .any b0 22 v) (h : DataW.Trod enc Tryz.prog W 0 (fun _ => true) true 22 v d p) (hw : ∀ k ∈ d.weights Tryz.prog 22, k ≤ reachBytes) :
    ∃ A c ps, v = .slice A (ps : List Prt).length c ∧ Prts W A ps ∧ PrtsOk W ps ∧ ps.length ≤ c ∧ c ≤ 9223372036854775807 ∧ (A = none → c = 0) ∧ (∀ p ∈ ps, p.nd.kids.length ≤ 140737488355328) := by
  obtain ⟨A0, len0, cap0, rfl⟩ := okWide_slice Tryz.underlying22 hv
  obtain ⟨fuel, hf⟩ := h
  rcases open_slice Tryz.underlying22 (show DataW.trod enc Tryz.prog W 0 (fun _ => true) true fuel 22 [.slice A0 len0 cap0] = _ by simpa [Value.cells] using hf) with ⟨hcs, _⟩ | ⟨a, len, cap, m, n, D, Pl, hcs, _, hl, hm, hmm, hxd, hcell⟩
  · injection hcs with hcs
    exact ⟨none, 0, [], hcs, Prts.nil, (fun s hs => by simp at hs), by simp, by omega, fun _ => rfl, fun s hs => by simp at hs⟩
  · injection hcs with hcs
    have hmm : m = cap := hmm
    obtain ⟨ss, hlen, hss⟩ := ex_list len (fun i (s : Prt) => W.cell? ((a.add (i * 8)).add 0) = some (.int .i64 s.nd.sym) ∧ W.cell? ((a.add (i * 8)).add 1) = some (.int .i64 s.nd.kind) ∧
        W.cell? ((a.add (i * 8)).add 2) = some (.int .i64 s.nd.lo) ∧ W.cell? ((a.add (i * 8)).add 3) = some (.int .i64 s.nd.inn) ∧ W.cell? ((a.add (i * 8)).add 4) = some (.int .i64 s.nd.hi) ∧
        W.cell? ((a.add (i * 8)).add 5) = some (.int .i64 s.nd.look) ∧ W.cell? ((a.add (i * 8)).add 6) = some (.slice s.kA s.nd.kids.length s.kc) ∧ W.cell? ((a.add (i * 8)).add 7) = some (.int .u64 s.nd.met) ∧ PrtOk W s ∧ s.nd.kids.length ≤ 140737488355328) (by
      intro i hi
      obtain ⟨cs', hc', ht'⟩ := hcell i (by omega)
      have hf := struct_cells2 Tryz.underlying34 (by kernel_rfl) cellsPart hc' ht'
      obtain ⟨n0, v0, y0, c0, t0, m0⟩ := hf 0 _ rfl
      obtain ⟨n1, v1, y1, c1, t1, m1⟩ := hf 1 _ rfl
      obtain ⟨n2, v2, y2, c2, t2, m2⟩ := hf 2 _ rfl
      obtain ⟨n3, v3, y3, c3, t3, m3⟩ := hf 3 _ rfl
      obtain ⟨n4, v4, y4, c4, t4, m4⟩ := hf 4 _ rfl
      obtain ⟨n5, v5, y5, c5, t5, m5⟩ := hf 5 _ rfl
      obtain ⟨n6, v6, y6, c6, t6, m6⟩ := hf 6 _ rfl
      obtain ⟨n7, v7, y7, c7, t7, m7⟩ := hf 7 _ rfl
      rw [cellsPart] at c0 c1 c2 c3 c4 c5 c6 c7
      obtain ⟨x0, e0, _, w0⟩ := DataW.trod_int Tryz.underlying3 t0
      obtain ⟨x1, e1, _, w1⟩ := DataW.trod_int Tryz.underlying3 t1
      obtain ⟨x2, e2, _, w2⟩ := DataW.trod_int Tryz.underlying3 t2
      obtain ⟨x3, e3, _, w3⟩ := DataW.trod_int Tryz.underlying3 t3
      obtain ⟨x4, e4, _, w4⟩ := DataW.trod_int Tryz.underlying3 t4
      obtain ⟨x5, e5, _, w5⟩ := DataW.trod_int Tryz.underlying3 t5
      obtain ⟨A, c, xs, rfl, hI, hx1, hx2, hx3, hx4, hx5⟩ := ints_cellS t6 (fun k hk => hw k (by rw [show d = _ from congrArg Prod.fst hxd]; simp only [DataW.weights, Tryz.underlying22]; exact List.mem_cons_of_mem _ (List.mem_append_left _ (weights_elem (List.mem_map.2 ⟨i, List.mem_range.2 hi, rfl⟩) k (m6 k hk)))))
      obtain ⟨x7, e7, _, w7⟩ := DataW.trod_int Tryz.underlying32 t7
      simp at e0 e1 e2 e3 e4 e5 e7
      subst e0 e1 e2 e3 e4 e5 e7
      exact ⟨⟨⟨x0, x1, x2, x3, x4, x5, xs, x7⟩, A, c⟩, c0, c1, c2, c3, c4, c5, c6, c7, ⟨hI, hx1, hx2, hx4, i64_bd w0, i64_bd w1, i64_bd w2, i64_bd w3, i64_bd w4, i64_bd w5, u64_bd w7, hx3⟩, hx5⟩)
    refine ⟨some a, cap, ss, by rw [hcs, hlen], ?_, ?_, by omega, by unfold maxLen at hm; omega, (fun h => by cases h), ?_⟩
    · intro h0
      obtain ⟨s, hs⟩ : ∃ s, ss[0]? = some s := ⟨_, List.getElem?_eq_getElem h0⟩
      have h1 := (hss 0 s hs).1
      obtain ⟨b, off, spot⟩ := a
      have hspot : spot = none := by simpa [Addr.add] using World.cell?_spot h1
      subst hspot
      refine ⟨b, off, rfl, ?_, ?_⟩
      · simp only [add_plain'] at h1
        exact World.block_lt_of_cell? _ _ h1
      · intro k s hk
        obtain ⟨g0, g1, g2, g3, g4, g5, g6, g7, _⟩ := hss k s hk
        simp only [add_plain'] at g0 g1 g2 g3 g4 g5 g6 g7
        exact ⟨g0, g1, g2, g3, g4, g5, g6, g7⟩
    · intro s hs
      obtain ⟨i, hi, rfl⟩ := List.getElem_of_mem hs
      exact (hss i _ (List.getElem?_eq_getElem hi)).2.2.2.2.2.2.2.2.1
    · intro s hs
      obtain ⟨i, hi, rfl⟩ := List.getElem_of_mem hs
      exact (hss i _ (List.getElem?_eq_getElem hi)).2.2.2.2.2.2.2.2.2
end
end Go.Proofs.YthpmncdfaggkiaaGreat
namespace Go.Proofs.YthpmncdfaggkiaaGreat
open Go.RowKit
attribute [local go_sem] more_drew more_drewN more_size more_cell more_frozen more_setCell drew_more drewN_more lt_add_r lt_add_r2 lt_add_r3 lt_add_r4 lt_add_r5 lt_add_r6 lt_add_r7 lt_add_r8 lt_add_r9 lt_add_r10 lt_self_r lt_self_r2
theorem light25_any (A : Option Addr) (c : Nat) (ps : List Prt) (w : World) (h : Prts w A ps) (hc : ps.length ≤ 9223372036854775807) (hk : KidsLt ps) : Calls Tryz.prog 12 #[.slice A ps.length c] w (LightRet 100 ps w) := by
  have HC := zh (lightParts_any 100 A c ps w (by omega) h hc hk)
  clear h hk
  go_enter Tryz.func12, Tryz.ntmps12
  go_wp2_with fail
  refine HC.out.mono ?_
  rintro e w1 ⟨b, rfl, hb, hx1⟩
  have HX1 := zh hx1
  have HB := zh hb
  clear hx1 hb
  go_wp2_with fail
  go_ret
  exact ⟨b, rfl, HB.out, HX1.out⟩
end Go.Proofs.YthpmncdfaggkiaaGreat
namespace Go.Proofs.YthpmncdfaggkiaaGreat
open Go.ChangeShapes Go.WideShapes Go.ChangeAt Go.RowKit Go.Joins Go.Deep
structure DtB (d : Dty) : Prop where
  slot : I64 d.slot
  lo : I64 d.lo
  hi : I64 d.hi
  age : I64 d.age
  level : I64 d.level
theorem cellsDirty : Tryz.prog.cellsOf 26 = 5 := by kernel_rfl
theorem cellsSpan : Tryz.prog.cellsOf 24 = 2 := by kernel_rfl
section
variable {H : Type} {enc : TypeId × Value → H} {W : World} {b0 : Nat} {v : Value} {d : DataW H} {p : List MemPlace}
theorem list5 {α : Type} {l : List α} (h : l.length = 5) : ∃ a b c d e, l = [a, b, c, d, e] := by
  match l, h with
  | [a, b, c, d, e], _ => exact ⟨a, b, c, d, e, rfl⟩
theorem list4 {α : Type} {l : List α} (h : l.length = 4) : ∃ a b c d, l = [a, b, c, d] := by
  match l, h with
  | [a, b, c, d], _ => exact ⟨a, b, c, d, rfl⟩
theorem list2 {α : Type} {l : List α} (h : l.length = 2) : ∃ a b, l = [a, b] := by
  match l, h with
  | [a, b], _ => exact ⟨a, b, rfl⟩
set_option maxRecDepth 100000 in
theorem dirty_cells {n : Nat} {cs : List Value} {x : DataW H × List MemPlace} (hl : cs.length = 5) (ht : DataW.trod enc Tryz.prog W 0 (fun _ => true) true n 26 cs = some x) :
    ∃ d : Dty, cs = dyCells d ∧ DtB d := by
  obtain ⟨v0, v1, v2, v3, v4, rfl⟩ := list5 hl
  obtain ⟨ys, m, _, _, _, hyl, hf⟩ := DataW.trod_struct Tryz.underlying26 ht
  obtain ⟨y0, y1, y2, y3, rfl⟩ := list4 (show ys.length = 4 from hyl)
  have t0 := hf 0 _ rfl
  have t1 := hf 1 _ rfl
  have t2 := hf 2 _ rfl
  have t3 := hf 3 _ rfl
  clear hf
  simp only [List.getElem_toArray, List.getElem_cons_zero, List.getElem_cons_succ] at t0 t1 t2 t3
  rw [cellsInt] at t0 t2 t3
  rw [cellsSpan] at t1
  simp only [List.drop_zero, List.drop_succ_cons, List.take_succ_cons, List.take_zero, List.getElem?_cons_zero, List.getElem?_cons_succ] at t0 t1 t2 t3
  obtain ⟨x0, e0, _, w0⟩ := DataW.trod_int Tryz.underlying3 t0
  obtain ⟨x3, e3, _, w3⟩ := DataW.trod_int Tryz.underlying3 t2
  obtain ⟨x4, e4, _, w4⟩ := DataW.trod_int Tryz.underlying3 t3
  obtain ⟨zs, m', _, _, _, hzl, hg⟩ := DataW.trod_struct Tryz.underlying24 t1
  obtain ⟨z0, z1, rfl⟩ := list2 (show zs.length = 2 from hzl)
  have s0 := hg 0 _ rfl
  have s1 := hg 1 _ rfl
  clear hg
  simp only [List.getElem_toArray, List.getElem_cons_zero, List.getElem_cons_succ] at s0 s1
  rw [cellsInt] at s0 s1
  simp only [List.drop_zero, List.drop_succ_cons, List.take_succ_cons, List.take_zero, List.getElem?_cons_zero, List.getElem?_cons_succ] at s0 s1
  obtain ⟨x1, e1, _, w1⟩ := DataW.trod_int Tryz.underlying3 s0
  obtain ⟨x2, e2, _, w2⟩ := DataW.trod_int Tryz.underlying3 s1
  simp at e0 e1 e2 e3 e4
  subst e0 e1 e2 e3 e4
  exact ⟨⟨x0, x1, x2, x3, x4⟩, rfl, i64_bd w0, i64_bd w1, i64_bd w2, i64_bd w3, i64_bd w4⟩
end
end Go.Proofs.YthpmncdfaggkiaaGreat
namespace Go.Proofs.YthpmncdfaggkiaaGreat
open Go.RowKit
attribute [local go_sem] more_drew more_drewN more_size more_cell more_frozen more_setCell drew_more drewN_more lt_add_r lt_add_r2 lt_add_r3 lt_add_r4 lt_add_r5 lt_add_r6 lt_add_r7 lt_add_r8 lt_add_r9 lt_add_r10 lt_self_r lt_self_r2
open Classical in
theorem ParOk.ex (l : List Nd) (T : Tree l) : ∃ us, ParOk l us := by
  refine ⟨(List.range l.length).map fun i => if h : ∃ j : Nat, Up l i j then (h.choose : Int) else -1, by simp, ?_, fun i j hu => ?_⟩
  · rw [List.getElem?_map, List.getElem?_range T.pos]
    simp only [Option.map_some]
    rw [dif_neg]
    rintro ⟨j, hj⟩
    have := T.up_lt hj
    omega
  · have hi := (T.up_lt hu).2
    rw [List.getElem?_map, List.getElem?_range hi]
    simp only [Option.map_some]
    have h : ∃ j : Nat, Up l i j := ⟨j, hu⟩
    rw [dif_pos h, T.up_one h.choose_spec hu]
end Go.Proofs.YthpmncdfaggkiaaGreat
namespace Go.Proofs.YthpmncdfaggkiaaGreat
open Go.ChangeShapes Go.WideShapes Go.ChangeAt Go.RowKit Go.Joins
section
variable {H : Type} {enc : TypeId × Value → H} {W : World} {b0 : Nat} {v : Value} {d : DataW H} {p : List MemPlace}
set_option maxRecDepth 100000 in
theorem open_dirty (hv : Value.okWide Tryz.prog W .any b0 26 v) (h : DataW.Trod enc Tryz.prog W 0 (fun _ => true) true 26 v d p) :
    ∃ d : Dty, v = dyV d ∧ DtB d := by
  obtain ⟨cs, rfl, hsz⟩ := okWide_struct Tryz.underlying26 hv
  obtain ⟨fuel, hf⟩ := h
  have hl : cs.toList.length = 5 := by rw [Array.length_toList, hsz, cellsDirty]
  obtain ⟨d', hc, hb⟩ := dirty_cells hl (show DataW.trod enc Tryz.prog W 0 (fun _ => true) true fuel 26 cs.toList = _ by simpa [Value.cells] using hf)
  refine ⟨d', ?_, hb⟩
  have : cs = (dyCells d').toArray := by rw [← hc, Array.toArray_toList]
  rw [this]
  rfl
end
end Go.Proofs.YthpmncdfaggkiaaGreat
namespace Go.Proofs.YthpmncdfaggkiaaGreat
open Go.RowKit
def pickF (n m : Int) : Int := if m < 1 then 0 else n % m
theorem pickF_bd (n m : Int) (h : 1 ≤ m) : 0 ≤ pickF n m ∧ pickF n m < m := by
  unfold pickF
  rw [if_neg (by omega)]
  exact ⟨Int.emod_nonneg _ (by omega), Int.emod_lt_of_pos _ (by omega)⟩
theorem tmod_neg (n m : Int) (hm : 1 ≤ m) (h : n.tmod m < 0) : n.tmod m + m = n % m := by
  rw [Int.tmod_eq_emod] at h ⊢
  split at h <;> rename_i hc
  · have := Int.emod_nonneg n (show m ≠ 0 by omega); omega
  · rw [if_neg hc]; omega
theorem tmod_pos (n m : Int) (hm : 1 ≤ m) (h : ¬ n.tmod m < 0) : n.tmod m = n % m := by
  rw [Int.tmod_eq_emod] at h ⊢
  split at h <;> rename_i hc
  · rw [if_pos hc]; omega
  · have := Int.emod_lt_of_pos n (show 0 < m by omega); omega
theorem tmod_bd (n m : Int) (hm : 1 ≤ m) : -m < n.tmod m ∧ n.tmod m < m := by
  have h1 := Int.emod_nonneg n (show m ≠ 0 by omega)
  have h2 := Int.emod_lt_of_pos n (show 0 < m by omega)
  rw [Int.tmod_eq_emod]
  split <;> omega
set_option maxHeartbeats 400000 in
theorem pick_any (n m : Int) (w : World) (hm : m ≤ 4611686018427387904) (hn : -9223372036854775808 ≤ n ∧ n ≤ 9223372036854775807) :
    Calls Tryz.prog 16 #[.int .i64 n, .int .i64 m] w fun e w' => e = .returned (.int .i64 (pickF n m)) ∧ w = w' := by
  by_cases h1 : m < 1
  · have H : Hid (pickF n m = 0) := if_pos h1
    go_enter Tryz.func16, Tryz.ntmps16
    go_wp2
    go_ret
    exact ⟨ret_int H.out.symm, rfl⟩
  · have H : Hid (pickF n m = n % m) := if_neg h1
    by_cases h0 : 0 ≤ n
    · have h2 : 0 ≤ n % m := Int.emod_nonneg _ (by omega)
      go_enter Tryz.func16, Tryz.ntmps16
      go_wp2
      go_ret
      exact ⟨ret_int H.out.symm, rfl⟩
    · have hb := tmod_bd n m (by omega)
      by_cases h3 : n.tmod m < 0
      · have H2 : Hid _ := tmod_neg n m (by omega) h3
        go_enter Tryz.func16, Tryz.ntmps16
        go_wp2
        go_ret
        exact ⟨ret_int (H2.out.trans H.out.symm), rfl⟩
      · have H2 : Hid _ := tmod_pos n m (by omega) h3
        go_enter Tryz.func16, Tryz.ntmps16
        go_wp2
        go_ret
        exact ⟨ret_int (H2.out.trans H.out.symm), rfl⟩
end Go.Proofs.YthpmncdfaggkiaaGreat
namespace Go.Proofs.YthpmncdfaggkiaaGreat
open Go.RowKit
attribute [local go_sem] more_drew more_drewN more_size more_cell more_frozen more_setCell drew_more drewN_more lt_add_r lt_add_r2 lt_add_r3 lt_add_r4 lt_add_r5 lt_add_r6 lt_add_r7 lt_add_r8 lt_add_r9 lt_add_r10 lt_self_r lt_self_r2
theorem BaseR.level {l : List Nd} {d : Dty} {i r : Nat} (h : BaseR l d i r) (m : Int) : BaseR l { d with level := m } i r := by
  induction h with
  | stop i p hp hn => exact .stop i p hp hn
  | go i p j k r hp hj hb hh _ ih => exact .go i p j k r hp hj hb hh ih
theorem climbF_in {l : List Nd} {us : List Int} (T : Tree l) (h : ParOk l us) : ∀ (n i : Nat), i < l.length → ∃ r m : Nat, climbF us n (i : Int) = (r : Int) ∧ r ≤ i ∧ Part l r m ∧ i < m
  | 0, i, hi => by
    obtain ⟨m, hm⟩ := T.part hi
    exact ⟨i, m, rfl, Nat.le_refl _, hm, hm.lt_end⟩
  | n + 1, i, hi => by
    rcases Nat.eq_zero_or_pos i with rfl | h0
    · obtain ⟨m, hm⟩ := T.part hi
      exact ⟨0, m, climbF_low _ (by simp), Nat.le_refl _, hm, hm.lt_end⟩
    · obtain ⟨j, hj, hlt, p, hp, hk⟩ := h.step T h0 hi
      obtain ⟨r, m, hr, hle, hm, hjm⟩ := climbF_in T h n j (by omega)
      refine ⟨r, m, ?_, by omega, hm, ?_⟩
      · rw [climbF, if_pos (by omega), Int.toNat_natCast, hj]
        exact hr
      · obtain ⟨c, hc, _, hcm⟩ := hm.kid_in hle hjm hp _ hk
        omega
theorem targets_in {l : List Nd} {d : Dty} {up m M x y : Int} (hm : MayOk l) (h0 : 0 ≤ m) (hle : m ≤ M) (hx : TargetOk l { d with level := m } up x) (hy : TargetOk l { d with level := M } up y) :
    ∃ xn yn me : Nat, x = (xn : Int) ∧ y = (yn : Int) ∧ yn ≤ xn ∧ xn < me ∧ Part l yn me ∧ (M < up ∨ yn = 0) := by
  have hxn : ∃ xn : Nat, x = (xn : Int) ∧ xn < l.length := by
    by_cases hmu : m < up
    · obtain ⟨us, b, hu, hb, rfl⟩ := hx.1 hm hmu
      obtain ⟨r, hr, hle⟩ := climbF_nat hm.1 hu m.toNat b hb.lt
      exact ⟨r, hr, by have := hb.lt; omega⟩
    · exact ⟨0, hx.2 (fun h => hmu h.2), hm.pos⟩
  by_cases hM : M < up
  · obtain ⟨us, b, hu, hb, hxe⟩ := hx.1 hm (by show m < up; omega)
    obtain ⟨us', b', hu', hb', hye⟩ := hy.1 hm hM
    obtain rfl := hu.one hm.1 hu'
    obtain rfl := (hb.level M).one hb'
    obtain ⟨xn, rfl, hxl⟩ := hxn
    obtain ⟨r, me, hr, hle2, hpt, hlt⟩ := climbF_in hm.1 hu (M - m).toNat xn hxl
    refine ⟨xn, r, me, rfl, ?_, hle2, hlt, hpt, .inl hM⟩
    rw [hye, ← hr, hxe, ← climbF_add]
    congr 1
    show M.toNat = m.toNat + (M - m).toNat
    omega
  · obtain ⟨xn, rfl, hxl⟩ := hxn
    have hy0 : y = 0 := hy.2 (fun h => hM h.2)
    exact ⟨xn, 0, l.length, rfl, by rw [hy0]; rfl, by omega, hxl, ⟨hm.pos, hm.1.trek, Nat.le_refl _⟩, .inr rfl⟩
theorem TargetOk.ex (l : List Nd) (d : Dty) (up : Int) : ∃ r, TargetOk l d up r := by
  by_cases hm : MayOk l ∧ d.level < up
  · obtain ⟨b, hb⟩ := BaseR.ex hm.1.1 d l.length 0 (by omega) hm.1.pos
    obtain ⟨us, hu⟩ := ParOk.ex l hm.1.1
    exact ⟨climbF us d.level.toNat b, fun _ _ => ⟨us, b, hu, hb, rfl⟩, fun h => absurd hm h⟩
  · exact ⟨0, fun a b => absurd ⟨a, b⟩ hm, fun _ => rfl⟩
theorem target_all {A : Option Addr} {c : Nat} {ps : List Prt} {w : World} (d : Dty) (up r : Int) (h : PS w A c ps) (hr : TargetOk (nds ps) d up r) (ht : I64 d.level) : Calls Tryz.prog 17 #[.slice A ps.length c, dyV d, .int .i64 up] w fun e w' => e = .returned (.int .i64 r) ∧ Ext w w' := by
  by_cases hm : MayOk (nds ps) ∧ d.level < up
  · exact target_yes d up r h hm.1 hm.2 hr ht
  · rw [hr.2 hm]
    exact target_no d up h hm
theorem dy_set {V : World} {b : Nat} {slot lo hi age level : Int} (h : V.heap[b]? = some (.cells #[.int .i64 slot, .int .i64 lo, .int .i64 hi, .int .i64 age, .int .i64 level] 26)) (x : Int) : (V.setCell ⟨b, 4, none⟩ (.int .i64 x)).heap[b]? = some (.cells #[.int .i64 slot, .int .i64 lo, .int .i64 hi, .int .i64 age, .int .i64 x] 26) := by
  simp [World.setCell, Array.getElem?_modify, h]
theorem dy_frozen {V : World} {b : Nat} {cs : Array Value} {T : TypeId} (h : V.heap[b]? = some (.cells cs T)) : V.frozen? ⟨b, 4, none⟩ = false := by simp [World.frozen?, h]
set_option maxRecDepth 100000 in
set_option maxHeartbeats 4000000 in
theorem targetHolds_any (A : Option Addr) (c : Nat) (ps : List Prt) (d : Dty) (up n1 n2 : Int) (W : World) (hP : Prts W A ps) (hO : PrtsOk W ps) (hl : ps.length ≤ c) (hc : c ≤ 9223372036854775807) (hA : A = none → c = 0) (hk : KidsLt ps) (hd : DtB d) (hu : I64 up) (hn1 : I64 n1) (hn2 : I64 n2) :
    Calls Tryz.prog 3 #[.slice A ps.length c, dyV d, .int .i64 up, .int .i64 n1, .int .i64 n2] W fun e w' => e = .returned (.bool true) ∧ Ext W w' := by
  have HP := zh hP
  have HO := zh hO
  have HK := zh hk
  have HA := zh hA
  have HD := zh hd
  obtain ⟨slot, lo, hi', age, level⟩ := d
  unfold dyV
  dsimp only
  clear hP hO hk hA hd
  go_enter Tryz.func3, Tryz.ntmps3
  go_upto_region 1 with fail
  obtain ⟨b, hb⟩ : ∃ b, W.heap.size = b := ⟨_, rfl⟩
  have HB0 : Hid (W.heap.size ≤ b) := zh (by omega)
  obtain ⟨W1, hW1⟩ : ∃ W1, W.alloc (.cells #[.int .i64 slot, .int .i64 lo, .int .i64 hi', .int .i64 age, .int .i64 level] 26) = W1 := ⟨_, rfl⟩
  have X1 : Hid (Ext W W1) := zh (by rw [← hW1]; exact (by repeat first | exact xr _ | refine xa ?_ _ | refine xm ?_ _ _ | refine xd ?_ | refine xn ?_ _ | refine xs ?_ (by simp <;> omega) _))
  have G1 : W1.heap[b]? = some (.cells #[.int .i64 slot, .int .i64 lo, .int .i64 hi', .int .i64 age, .int .i64 level] 26) := by rw [← hW1, ← hb]; exact heap_alloc_new _ _
  rw [hW1, hb]
  have HG := zh G1
  clear hW1 hb G1
  go_wp2_with fail
  refine (lives25_any W1).mono ?_
  rintro e w1 ⟨rfl, hx1⟩
  have HX1 := zh (X1.out.trans hx1)
  have HG1 := zh (ext_block HG.out hx1)
  clear hx1 HG
  go_wp2_with fail
  refine (light25_any A c ps w1 (HP.out.ext HX1.out) (by omega) HK.out).mono ?_
  rintro e w2 ⟨bl, rfl, hbl, hx2⟩
  have HX2 := zh (HX1.out.trans hx2)
  have HG2 := zh (ext_block HG1.out hx2)
  clear hx2 HG1
  cases bl with
  | false =>
    go_wp2_with fail
    go_ret
    exact ⟨rfl, HX2.out⟩
  | true =>
    have hL := hbl rfl
    have S : Hid (PS W A c ps) := ⟨HP.out, HO.out, hL.few (by omega), hl, hc, HA.out⟩
    have hlen := hL.len
    clear hbl hL HP HO HK
    by_cases T : Tree (nds ps)
    · have hp0 := T.pos
      rw [nds_length] at hp0
      obtain ⟨p0, hpp0⟩ : ∃ p, ps[0]? = some p := ⟨_, List.getElem?_eq_getElem hp0⟩
      have HT := zh T
      have HPP0 := zh hpp0
      clear T hpp0
      by_cases hk0 : p0.nd.kind = 1
      · have HMY : Hid (MayOk (nds ps)) := zh ⟨HT.out, _, nds_get HPP0.out, hk0⟩
        go_wp2_with fail
        refine (rcheck_ok (S.out.ext HX2.out) HT.out).mono ?_
        rintro e w3 ⟨rfl, hx3⟩
        have HX3 := zh (HX2.out.trans hx3)
        have HG3 := zh (ext_block HG2.out hx3)
        obtain ⟨bA, off, hA', hbA, hcell⟩ := (S.out.ext HX3.out).parts (by omega)
        subst hA'
        have d1 := (hcell 0 p0 HPP0.out).2.1
        simp only [Nat.zero_mul, Nat.add_zero] at d1
        rw [hk0] at d1
        clear hcell hx3 hk0
        obtain ⟨rb, hrb⟩ := BaseR.ex HMY.out.1 ⟨slot, lo, hi', age, level⟩ (nds ps).length 0 (by omega) HMY.out.pos
        have HRB := zh hrb
        have hrl := hrb.lt
        rw [nds_length] at hrl
        clear hrb
        obtain ⟨k0, k1, k2, k3, k4, kl⟩ := dy_cells (d := ⟨slot, lo, hi', age, level⟩) HG3.out
        dsimp only at k0 k1 k2 k3 k4
        go_wp2_with fail
        refine (base_yes ⟨slot, lo, hi', age, level⟩ rb (S.out.ext HX3.out) HMY.out HRB.out).mono ?_
        rintro e w4 ⟨rfl, hx4⟩
        have HX4 := zh (HX3.out.trans hx4)
        have HG4 := zh (ext_block HG3.out hx4)
        clear hx4 k0 k1 k2 k3 k4 kl hbA d1
        obtain ⟨k0, k1, k2, k3, k4, kl⟩ := dy_cells (d := ⟨slot, lo, hi', age, level⟩) HG4.out
        dsimp only at k0 k1 k2 k3 k4
        have g5 : decide ((rb : Int) < 0) = false := decide_eq_false (by omega)
        have g6 : decide (ps.length ≤ rb) = false := decide_eq_false (by omega)
        by_cases hr0 : 0 < rb
        · have g7 : decide ((0 : Int) < (rb : Int)) = true := decide_eq_true (by omega)
          have HDN : Hid (DoneOk (nds ps) (rb : Int) ⟨slot, lo, hi', age, level⟩) := zh (by
            rcases HRB.out.holds with h | h
            · omega
            · exact h.2.2)
          go_wp2_with fail
          refine (rdone_any (rb : Int) ⟨slot, lo, hi', age, level⟩ (S.out.ext HX4.out)).mono ?_
          rintro e w5 ⟨bd, rfl, hbd, hx5⟩
          obtain rfl : bd = true := hbd.2 HDN.out
          have HX5 := zh (HX4.out.trans hx5)
          have HG5 := zh (ext_block HG4.out hx5)
          clear hx5 hbd k0 k1 k2 k3 k4 kl hr0 g5 g6 g7
          obtain ⟨⟨q, kA, kcap⟩, hq⟩ : ∃ p, ps[rb]? = some p := ⟨_, List.getElem?_eq_getElem hrl⟩
          have HQ := zh hq
          have HPO := zh (S.out.oks.get hq)
          have hko1 : q.kids.length ≤ kcap := HPO.out.cap
          have hko2 : kcap ≤ 9223372036854775807 := HPO.out.top
          have PT := zh (fun (V : World) (x : Ext W V) => (S.out.ext x).parts (by omega))
          clear hq
          go_wp2_with fail
          go_loopw [12] (fun v wr => ∃ j : Nat, j ≤ q.kids.length ∧ v = .int .i64 j ∧ Hid (Ext w5 wr)) (fun v _ => q.kids.length - (intOf v).toNat)
          case atStart => exact ⟨0, Nat.zero_le _, rfl, zh (Ext.refl _)⟩
          case round =>
            obtain ⟨j, hj, rfl, hx⟩ := hrel
            obtain ⟨bA', off', hA', hbA, hcell⟩ := PT.out wr (HX5.out.trans hx.out)
            injection hA' with hA'
            injection hA' with ea eb
            subst ea eb
            have d6 := (hcell rb _ HQ.out).2.2.2.2.2.2.1
            dsimp only at d6
            obtain ⟨k0, k1, k2, k3, k4, kl⟩ := dy_cells (d := ⟨slot, lo, hi', age, level⟩) (ext_block HG5.out hx.out)
            dsimp only at k0 k1 k2 k3 k4
            by_cases hlt : j < q.kids.length
            · obtain ⟨x, hxk⟩ : ∃ x, q.kids[j]? = some x := ⟨_, List.getElem?_eq_getElem hlt⟩
              obtain ⟨cn, rfl, hc1, hc2⟩ := HT.out.kid_behind (nds_get HQ.out) x (List.mem_of_getElem? hxk)
              rw [nds_length] at hc2
              obtain ⟨pc, hpc⟩ : ∃ p, ps[cn]? = some p := ⟨_, List.getElem?_eq_getElem hc2⟩
              have dk := (hcell cn pc hpc).2.1
              obtain ⟨bk, offk, hkA, hbk, hck⟩ := (HPO.out.ext (HX5.out.trans hx.out)).kids (by show 0 < q.kids.length; omega)
              change kA = _ at hkA
              subst hkA
              have e1 := hck j hlt
              rw [List.getD_eq_getElem?_getD] at e1
              dsimp only at e1
              rw [hxk] at e1
              dsimp only [Option.getD_some] at e1
              have HNOT : Hid (pc.nd.kind = 2 → ¬ DoneOk (nds ps) (cn : Int) ⟨slot, lo, hi', age, level⟩) := zh (fun h2 hdn => HRB.out.last _ (nds_get HQ.out) _ (List.mem_of_getElem? hxk) ⟨HMY.out, ⟨cn, pc.nd, rfl, nds_get hpc, .inr h2⟩, hdn⟩)
              clear hck hxk hcell hpc
              by_cases h2 : pc.nd.kind = 2
              · have HN2 := zh (HNOT.out h2)
                rw [h2] at dk
                clear h2
                go_wp2_with fail
                refine (rdone_any (cn : Int) ⟨slot, lo, hi', age, level⟩ (S.out.ext (HX5.out.trans hx.out))).mono ?_
                rintro e w6 ⟨bd, rfl, hbd, hx6⟩
                obtain rfl : bd = false := by
                  cases bd with
                  | false => rfl
                  | true => exact absurd (hbd.1 rfl) HN2.out
                have HX6 := zh (hx.out.trans hx6)
                clear hx6 hbd
                go_wp2_with fail
                go_roundw
                case rel => exact ⟨j + 1, by omega, by go_num, HX6⟩
                case measure => simp [intOf]; omega
              · have g8 : decide (pc.nd.kind = 2) = false := decide_eq_false h2
                go_wp2_with fail
                go_roundw
                case rel => exact ⟨j + 1, by omega, by go_num, hx⟩
                case measure => simp [intOf]; omega
            · obtain rfl : j = q.kids.length := by omega
              obtain ⟨a1, ha1⟩ : ∃ x, pickF n1 20 = x := ⟨_, rfl⟩
              obtain ⟨a2, ha2⟩ : ∃ x, pickF n2 20 = x := ⟨_, rfl⟩
              have b1 := pickF_bd n1 20 (by omega)
              have b2 := pickF_bd n2 20 (by omega)
              rw [ha1] at b1
              rw [ha2] at b2
              have P1 := zh (fun V => pick_any n1 20 V (by omega) hn1)
              have P2 := zh (fun V => pick_any n2 20 V (by omega) hn2)
              rw [ha1] at P1
              rw [ha2] at P2
              obtain ⟨mn, hmn⟩ : ∃ m, (if a2 < a1 then a2 else a1) = m := ⟨_, rfl⟩
              obtain ⟨mx, hmx⟩ : ∃ m, (if a1 < a2 then a2 else a1) = m := ⟨_, rfl⟩
              have HMM : Hid (0 ≤ mn ∧ mn ≤ mx ∧ mx < 20) := zh (by rw [← hmn, ← hmx]; split <;> split <;> omega)
              obtain ⟨x, hxo⟩ := TargetOk.ex (nds ps) ⟨slot, lo, hi', age, mn⟩ up
              obtain ⟨y, hyo⟩ := TargetOk.ex (nds ps) ⟨slot, lo, hi', age, mx⟩ up
              obtain ⟨xn, yn, me, rfl, rfl, t1, t2, t3, t4⟩ := targets_in (d := ⟨slot, lo, hi', age, level⟩) HMY.out HMM.out.1 HMM.out.2.1 hxo hyo
              have HXO := zh hxo
              have HYO := zh hyo
              have HPT := zh t3
              have HT4 := zh t4
              have HGR := zh (ext_block HG5.out hx.out)
              have kf := dy_frozen HGR.out
              have HGS := zh (dy_set HGR.out mn)
              have HXR := zh (HX5.out.trans hx.out)
              have HXS := zh (HXR.out.setCell (p := ⟨b, 4, none⟩) HB0.out (.int .i64 mn))
              clear hcell ha1 ha2 hxo hyo t3 t4
              go_wp2_with fail
              refine (P1.out _).mono ?_
              rintro e w7 ⟨rfl, rfl⟩
              go_wp2_with fail
              refine (P2.out _).mono ?_
              rintro e w7 ⟨rfl, rfl⟩
              go_upto_region 15 with fail
              obtain ⟨W6, hW6⟩ : ∃ V, wr.setCell ⟨b, 4, none⟩ (.int .i64 mn) = V := ⟨_, rfl⟩
              rw [hW6] at HGS HXS ⊢
              clear k0 k1 k2 k3 k4 kl kf hW6 hmn d6 hbA HGR HXR
              obtain ⟨k0, k1, k2, k3, k4, kl⟩ := dy_cells (d := ⟨slot, lo, hi', age, mn⟩) HGS.out
              dsimp only at k0 k1 k2 k3 k4
              go_wp2_with fail
              refine (target_all ⟨slot, lo, hi', age, mn⟩ up xn (S.out.ext HXS.out) HXO.out (by have := HMM.out; show I64 mn; unfold I64; omega)).mono ?_
              rintro e w7 ⟨rfl, hx7⟩
              have HX7 := zh (HXS.out.trans hx7)
              have HG7 := zh (ext_block HGS.out hx7)
              clear k0 k1 k2 k3 k4 kl hx7
              obtain ⟨k0, k1, k2, k3, k4, kl⟩ := dy_cells (d := ⟨slot, lo, hi', age, mn⟩) HG7.out
              dsimp only at k0 k1 k2 k3 k4
              have kf := dy_frozen HG7.out
              have HGT := zh (dy_set HG7.out mx)
              have HXT := zh (HX7.out.setCell (p := ⟨b, 4, none⟩) HB0.out (.int .i64 mx))
              go_wp2_with fail
              refine (P1.out _).mono ?_
              rintro e w8 ⟨rfl, rfl⟩
              go_wp2_with fail
              refine (P2.out _).mono ?_
              rintro e w8 ⟨rfl, rfl⟩
              go_upto_region 17 with fail
              obtain ⟨W8, hW8⟩ : ∃ V, w7.setCell ⟨b, 4, none⟩ (.int .i64 mx) = V := ⟨_, rfl⟩
              rw [hW8] at HGT HXT ⊢
              clear k0 k1 k2 k3 k4 kl kf hW8 hmx HX7 HG7
              obtain ⟨k0, k1, k2, k3, k4, kl⟩ := dy_cells (d := ⟨slot, lo, hi', age, mx⟩) HGT.out
              dsimp only at k0 k1 k2 k3 k4
              go_wp2_with fail
              refine (target_all ⟨slot, lo, hi', age, mx⟩ up yn (S.out.ext HXT.out) HYO.out (by have := HMM.out; show I64 mx; unfold I64; omega)).mono ?_
              rintro e w9 ⟨rfl, hx9⟩
              have HX9 := zh (HXT.out.trans hx9)
              have HG9 := zh (ext_block HGT.out hx9)
              clear k0 k1 k2 k3 k4 kl hx9
              have g8 : decide ((0 : Int) ≤ (yn : Int)) = true := decide_eq_true (by omega)
              have g9 : decide (yn ≤ xn) = true := decide_eq_true t1
              have g10 : decide (xn < me) = true := decide_eq_true t2
              go_wp2_with fail
              refine (rEnd_yes yn me (S.out.ext HX9.out) HT.out HPT.out).mono ?_
              rintro e w10 ⟨rfl, hx10⟩
              have HX10 := zh (HX9.out.trans hx10)
              obtain ⟨k0, k1, k2, k3, k4, kl⟩ := dy_cells (d := ⟨slot, lo, hi', age, mx⟩) (ext_block HG9.out hx10)
              dsimp only at k0 k1 k2 k3 k4
              clear hx10
              by_cases hup : mx < up
              · have g11 : decide (mx < up) = true := decide_eq_true hup
                go_wp2_with fail
                go_ret
                exact ⟨rfl, HX10.out⟩
              · have g11 : decide (mx < up) = false := decide_eq_false hup
                obtain rfl : yn = 0 := HT4.out.resolve_left hup
                go_wp2_with fail
                go_ret
                exact ⟨rfl, HX10.out⟩
        · obtain rfl : rb = 0 := by omega
          have HX5 := HX4
          have HG5 := HG4
          simp only [Int.natCast_zero]
          have hne : (ps.length = 0) = False := eq_false (by omega)
          have g8 : decide ((ps.length : Int) ≤ 0) = false := decide_eq_false (by omega)
          clear k0 k1 k2 k3 k4 kl hr0 g5
          obtain ⟨⟨q, kA, kcap⟩, hq⟩ : ∃ p, ps[0]? = some p := ⟨_, List.getElem?_eq_getElem hrl⟩
          have HQ := zh hq
          have HPO := zh (S.out.oks.get hq)
          have hko1 : q.kids.length ≤ kcap := HPO.out.cap
          have hko2 : kcap ≤ 9223372036854775807 := HPO.out.top
          have PT := zh (fun (V : World) (x : Ext W V) => (S.out.ext x).parts (by omega))
          clear hq
          go_wp2_with fail
          clear hne g8 g6
          go_loopw [12] (fun v wr => ∃ j : Nat, j ≤ q.kids.length ∧ v = .int .i64 j ∧ Hid (Ext w4 wr)) (fun v _ => q.kids.length - (intOf v).toNat)
          case atStart => exact ⟨0, Nat.zero_le _, rfl, zh (Ext.refl _)⟩
          case round =>
            obtain ⟨j, hj, rfl, hx⟩ := hrel
            obtain ⟨bA', off', hA', hbA, hcell⟩ := PT.out wr (HX5.out.trans hx.out)
            injection hA' with hA'
            injection hA' with ea eb
            subst ea eb
            have d6 := (hcell 0 _ HQ.out).2.2.2.2.2.2.1
            dsimp only at d6
            obtain ⟨k0, k1, k2, k3, k4, kl⟩ := dy_cells (d := ⟨slot, lo, hi', age, level⟩) (ext_block HG5.out hx.out)
            dsimp only at k0 k1 k2 k3 k4
            by_cases hlt : j < q.kids.length
            · obtain ⟨x, hxk⟩ : ∃ x, q.kids[j]? = some x := ⟨_, List.getElem?_eq_getElem hlt⟩
              obtain ⟨cn, rfl, hc1, hc2⟩ := HT.out.kid_behind (nds_get HQ.out) x (List.mem_of_getElem? hxk)
              rw [nds_length] at hc2
              obtain ⟨pc, hpc⟩ : ∃ p, ps[cn]? = some p := ⟨_, List.getElem?_eq_getElem hc2⟩
              have dk := (hcell cn pc hpc).2.1
              obtain ⟨bk, offk, hkA, hbk, hck⟩ := (HPO.out.ext (HX5.out.trans hx.out)).kids (by show 0 < q.kids.length; omega)
              change kA = _ at hkA
              subst hkA
              have e1 := hck j hlt
              rw [List.getD_eq_getElem?_getD] at e1
              dsimp only at e1
              rw [hxk] at e1
              dsimp only [Option.getD_some] at e1
              have HNOT : Hid (pc.nd.kind = 2 → ¬ DoneOk (nds ps) (cn : Int) ⟨slot, lo, hi', age, level⟩) := zh (fun h2 hdn => HRB.out.last _ (nds_get HQ.out) _ (List.mem_of_getElem? hxk) ⟨HMY.out, ⟨cn, pc.nd, rfl, nds_get hpc, .inr h2⟩, hdn⟩)
              clear hck hxk hcell hpc
              by_cases h2 : pc.nd.kind = 2
              · have HN2 := zh (HNOT.out h2)
                rw [h2] at dk
                clear h2
                go_wp2_with fail
                refine (rdone_any (cn : Int) ⟨slot, lo, hi', age, level⟩ (S.out.ext (HX5.out.trans hx.out))).mono ?_
                rintro e w6 ⟨bd, rfl, hbd, hx6⟩
                obtain rfl : bd = false := by
                  cases bd with
                  | false => rfl
                  | true => exact absurd (hbd.1 rfl) HN2.out
                have HX6 := zh (hx.out.trans hx6)
                clear hx6 hbd
                go_wp2_with fail
                go_roundw
                case rel => exact ⟨j + 1, by omega, by go_num, HX6⟩
                case measure => simp [intOf]; omega
              · have g8 : decide (pc.nd.kind = 2) = false := decide_eq_false h2
                go_wp2_with fail
                go_roundw
                case rel => exact ⟨j + 1, by omega, by go_num, hx⟩
                case measure => simp [intOf]; omega
            · obtain rfl : j = q.kids.length := by omega
              obtain ⟨a1, ha1⟩ : ∃ x, pickF n1 20 = x := ⟨_, rfl⟩
              obtain ⟨a2, ha2⟩ : ∃ x, pickF n2 20 = x := ⟨_, rfl⟩
              have b1 := pickF_bd n1 20 (by omega)
              have b2 := pickF_bd n2 20 (by omega)
              rw [ha1] at b1
              rw [ha2] at b2
              have P1 := zh (fun V => pick_any n1 20 V (by omega) hn1)
              have P2 := zh (fun V => pick_any n2 20 V (by omega) hn2)
              rw [ha1] at P1
              rw [ha2] at P2
              obtain ⟨mn, hmn⟩ : ∃ m, (if a2 < a1 then a2 else a1) = m := ⟨_, rfl⟩
              obtain ⟨mx, hmx⟩ : ∃ m, (if a1 < a2 then a2 else a1) = m := ⟨_, rfl⟩
              have HMM : Hid (0 ≤ mn ∧ mn ≤ mx ∧ mx < 20) := zh (by rw [← hmn, ← hmx]; split <;> split <;> omega)
              obtain ⟨x, hxo⟩ := TargetOk.ex (nds ps) ⟨slot, lo, hi', age, mn⟩ up
              obtain ⟨y, hyo⟩ := TargetOk.ex (nds ps) ⟨slot, lo, hi', age, mx⟩ up
              obtain ⟨xn, yn, me, rfl, rfl, t1, t2, t3, t4⟩ := targets_in (d := ⟨slot, lo, hi', age, level⟩) HMY.out HMM.out.1 HMM.out.2.1 hxo hyo
              have HXO := zh hxo
              have HYO := zh hyo
              have HPT := zh t3
              have HT4 := zh t4
              have HGR := zh (ext_block HG5.out hx.out)
              have kf := dy_frozen HGR.out
              have HGS := zh (dy_set HGR.out mn)
              have HXR := zh (HX5.out.trans hx.out)
              have HXS := zh (HXR.out.setCell (p := ⟨b, 4, none⟩) HB0.out (.int .i64 mn))
              clear hcell ha1 ha2 hxo hyo t3 t4
              go_wp2_with fail
              refine (P1.out _).mono ?_
              rintro e w7 ⟨rfl, rfl⟩
              go_wp2_with fail
              refine (P2.out _).mono ?_
              rintro e w7 ⟨rfl, rfl⟩
              go_upto_region 15 with fail
              obtain ⟨W6, hW6⟩ : ∃ V, wr.setCell ⟨b, 4, none⟩ (.int .i64 mn) = V := ⟨_, rfl⟩
              rw [hW6] at HGS HXS ⊢
              clear k0 k1 k2 k3 k4 kl kf hW6 hmn d6 hbA HGR HXR
              obtain ⟨k0, k1, k2, k3, k4, kl⟩ := dy_cells (d := ⟨slot, lo, hi', age, mn⟩) HGS.out
              dsimp only at k0 k1 k2 k3 k4
              go_wp2_with fail
              refine (target_all ⟨slot, lo, hi', age, mn⟩ up xn (S.out.ext HXS.out) HXO.out (by have := HMM.out; show I64 mn; unfold I64; omega)).mono ?_
              rintro e w7 ⟨rfl, hx7⟩
              have HX7 := zh (HXS.out.trans hx7)
              have HG7 := zh (ext_block HGS.out hx7)
              clear k0 k1 k2 k3 k4 kl hx7
              obtain ⟨k0, k1, k2, k3, k4, kl⟩ := dy_cells (d := ⟨slot, lo, hi', age, mn⟩) HG7.out
              dsimp only at k0 k1 k2 k3 k4
              have kf := dy_frozen HG7.out
              have HGT := zh (dy_set HG7.out mx)
              have HXT := zh (HX7.out.setCell (p := ⟨b, 4, none⟩) HB0.out (.int .i64 mx))
              go_wp2_with fail
              refine (P1.out _).mono ?_
              rintro e w8 ⟨rfl, rfl⟩
              go_wp2_with fail
              refine (P2.out _).mono ?_
              rintro e w8 ⟨rfl, rfl⟩
              go_upto_region 17 with fail
              obtain ⟨W8, hW8⟩ : ∃ V, w7.setCell ⟨b, 4, none⟩ (.int .i64 mx) = V := ⟨_, rfl⟩
              rw [hW8] at HGT HXT ⊢
              clear k0 k1 k2 k3 k4 kl kf hW8 hmx HX7 HG7
              obtain ⟨k0, k1, k2, k3, k4, kl⟩ := dy_cells (d := ⟨slot, lo, hi', age, mx⟩) HGT.out
              dsimp only at k0 k1 k2 k3 k4
              go_wp2_with fail
              refine (target_all ⟨slot, lo, hi', age, mx⟩ up yn (S.out.ext HXT.out) HYO.out (by have := HMM.out; show I64 mx; unfold I64; omega)).mono ?_
              rintro e w9 ⟨rfl, hx9⟩
              have HX9 := zh (HXT.out.trans hx9)
              have HG9 := zh (ext_block HGT.out hx9)
              clear k0 k1 k2 k3 k4 kl hx9
              have g8 : decide ((0 : Int) ≤ (yn : Int)) = true := decide_eq_true (by omega)
              have g9 : decide (yn ≤ xn) = true := decide_eq_true t1
              have g10 : decide (xn < me) = true := decide_eq_true t2
              go_wp2_with fail
              refine (rEnd_yes yn me (S.out.ext HX9.out) HT.out HPT.out).mono ?_
              rintro e w10 ⟨rfl, hx10⟩
              have HX10 := zh (HX9.out.trans hx10)
              obtain ⟨k0, k1, k2, k3, k4, kl⟩ := dy_cells (d := ⟨slot, lo, hi', age, mx⟩) (ext_block HG9.out hx10)
              dsimp only at k0 k1 k2 k3 k4
              clear hx10
              by_cases hup : mx < up
              · have g11 : decide (mx < up) = true := decide_eq_true hup
                go_wp2_with fail
                go_ret
                exact ⟨rfl, HX10.out⟩
              · have g11 : decide (mx < up) = false := decide_eq_false hup
                obtain rfl : yn = 0 := HT4.out.resolve_left hup
                go_wp2_with fail
                go_ret
                exact ⟨rfl, HX10.out⟩
      · have hk1 : decide (p0.nd.kind = 1) = false := decide_eq_false hk0
        go_wp2_with fail
        refine (rcheck_ok (S.out.ext HX2.out) HT.out).mono ?_
        rintro e w3 ⟨rfl, hx3⟩
        have HX3 := zh (HX2.out.trans hx3)
        obtain ⟨bA, off, hA', hbA, hcell⟩ := (S.out.ext HX3.out).parts (by omega)
        subst hA'
        have d1 := (hcell 0 p0 HPP0.out).2.1
        simp only [Nat.zero_mul, Nat.add_zero] at d1
        clear hcell hx3
        go_wp2_with fail
        go_ret
        exact ⟨rfl, HX3.out⟩
    · have HT := zh T
      clear T
      go_wp2_with fail
      refine (rcheck_no (S.out.ext HX2.out) (fun h => HT.out h)).mono ?_
      rintro e w3 ⟨rfl, hx3⟩
      have HX3 := zh (HX2.out.trans hx3)
      clear hx3
      go_wp2_with fail
      go_ret
      exact ⟨rfl, HX3.out⟩
end Go.Proofs.YthpmncdfaggkiaaGreat
