/- TgTargetUp: texts that the proof rests on, part 1. -/
import Derived.Test.YthpmncdfaggkiaaGreatCr1
import Derived.Test.YthpmncdfaggkiaaGreatCr10
import Derived.Test.YthpmncdfaggkiaaGreatCr11
import Derived.Test.YthpmncdfaggkiaaGreatCr2
import Derived.Test.YthpmncdfaggkiaaGreatCr3
import Derived.Test.YthpmncdfaggkiaaGreatCr5
import Derived.Test.YthpmncdfaggkiaaGreatCr6
import Derived.Test.YthpmncdfaggkiaaGreatCr7
import Derived.Test.YthpmncdfaggkiaaGreatCr8
import Derived.Test.YthpmncdfaggkiaaGreatCr9
import Derived.Test.YthpmncdfaggkiaaGreatTg1
import Derived.Test.YthpmncdfaggkiaaGreatTg2
import Derived.WalkKit
import Derived.Handy
import Derived.Deep.Draws
import Derived.BigQuiet
import Derived.Lib.Hide
import Derived.Test.YthpmncdfaggkiaaGreatRows
import Derived.WalkSpells
import Derived.WalkLawsBesides
import Derived.Deep.RegionWith
import Derived.Deep.QuietTactic
import Derived.BigRegion
import Derived.Deep.DeepCutAuto
import Derived.Deep.RegionHeld3
import Derived.Deep.RegionLaw
import Derived.Test.YthpmncdfaggkiaaGreatChecked
import Derived.Maps.AppendAt
import Derived.Deep.AppendLies
import Derived.RegionTactic
import Derived.OwnWalk
import Derived.Laws.OwnMore
import Derived.RangeFuncNested
import Derived.RangeFuncBound
import Derived.RangeFuncCalls
import Derived.RangeFuncLeaves
import Derived.RangeFuncRecord
import Derived.RangeFuncIn
import Derived.Sort.QuietThIn
import Derived.Orders
import Derived.Deep.Quiet
import Derived.OwnWalkIn
import Derived.TacticsInMore
import Derived.LoopNIn
import Derived.LoopIn
import Derived.Deep.LoopGhost
import Derived.Laws.EntriesVeiled
import Derived.Shelf.Abstract
import Derived.Deep.OwnRows
import Derived.Lib.AppendZeros
import Derived.Laws.BitsAllLaws
import Derived.Laws.Closers25b
import Derived.ProofKit
import Derived.OpenShut
import Derived.SizedLaws
import Derived.Lib.SmallJoins
import Derived.Deep.Slices
import Derived.Deep.Fields
import Derived.ChangeSame
import Derived.WalkMore
import Derived.Laws.Strings
import Derived.Laws.MakeOwn
import Derived.Lib.SlicesS
import Derived.Laws.StructEq
import Derived.Maps.OwnOps
import Derived.Maps.OwnSet
import Derived.Maps.Views
import Derived.Laws.BytesArg
namespace Go.Proofs.YthpmncdfaggkiaaGreat
open Go.RowKit
theorem wp_region_ext {P : Program} {id : Nat} {Q : Exit → Act → World → Prop} {a : Act} {w : World} {l : List Oper} (hm : P.follows .mixedOrders = true) (hB : Region.lexB .any l.toArray = true)
    (h : wpQuiet P l.toArray (fun w' => ∃ x : Lay, w' = more w x.os x.k) (fun a' => ∀ w', (∃ x : Lay, w' = more w x.os x.k) → Q .normal a' w') l a) : (Code.region id l.toArray true).wp P Q a w :=
  wp_region_quiet (C := fun w' => ∃ x : Lay, w' = more w x.os x.k) hm hB ⟨⟨[], w.drawn + 1⟩, by simp [more]⟩ (by simpa using h)
end Go.Proofs.YthpmncdfaggkiaaGreat
namespace Go.Proofs.YthpmncdfaggkiaaGreat




def LiesIn (l : List Nd) (n m : Nat) : Prop := ∀ (j : Nat) (q : Nd), n ≤ j → j < m → l[j]? = some q → liesB l q.hi q.lo q.kids = true
theorem LiesIn.split {l : List Nd} {a b c : Nat} (h1 : a ≤ b) (h2 : b ≤ c) : LiesIn l a c ↔ LiesIn l a b ∧ LiesIn l b c := by
  refine ⟨fun h => ⟨fun j q hj hj2 => h j q hj (by omega), fun j q hj hj2 => h j q (by omega) hj2⟩, fun ⟨h, h'⟩ j q hj hj2 hq => ?_⟩
  rcases Nat.lt_or_ge j b with hb | hb
  · exact h j q hj hb hq
  · exact h' j q hb hj2 hq
open Classical in
noncomputable def endR (l : List Nd) (n m : Nat) (ok : Bool) (hi at' : Int) (ks : List Int) : Int :=
  if ok = true ∧ LiesIn l n m ∧ liesB l hi at' ks = true then (m : Int) else -1
theorem endR_nil {l : List Nd} {n m : Nat} {ok : Bool} {hi at' : Int} (h : Trek l [] n ok m) : endR l n m ok hi at' [] = if at' ≤ hi then (n : Int) else -1 := by
  cases h
  have h0 : LiesIn l n n := fun j q h1 h2 => by omega
  have h1 : liesB l hi at' [] = decide (at' ≤ hi) := by rw [liesB]
  unfold endR
  by_cases hx : at' ≤ hi
  · rw [if_pos hx, if_pos ⟨rfl, h0, by rw [h1]; exact decide_eq_true hx⟩]
  · rw [if_neg hx, if_neg (fun hc => hx (of_decide_eq_true (h1 ▸ hc.2.2)))]
theorem endR_bad {l : List Nd} {n m : Nat} {ok : Bool} {hi at' k : Int} {ks : List Int} (h : Trek l (k :: ks) n ok m) (hb : k ≠ (n : Int) ∨ l.length ≤ n) : endR l n m ok hi at' (k :: ks) = -1 := by
  obtain ⟨rfl, _⟩ := h.stop hb
  unfold endR
  simp
theorem endR_ahead {l : List Nd} {n m : Nat} {ok : Bool} {hi at' : Int} {ks : List Int} {q : Nd} (hq : l[n]? = some q) (hb : q.lo < at') : endR l n m ok hi at' ((n : Int) :: ks) = -1 := by
  unfold endR
  rw [if_neg]
  rintro ⟨_, _, h⟩
  unfold liesB at h
  rw [Int.toNat_natCast, hq] at h
  simp only [Bool.and_eq_true, decide_eq_true_eq] at h
  omega
theorem liesB_cons {l : List Nd} {n : Nat} {q : Nd} {hi at' : Int} {ks : List Int} (hq : l[n]? = some q) (hb : at' ≤ q.lo) : (liesB l hi at' ((n : Int) :: ks) = true) ↔ liesB l hi q.hi ks = true := by
  have : liesB l hi at' ((n : Int) :: ks) = (decide (at' ≤ q.lo) && liesB l hi q.hi ks) := by
    conv => lhs; unfold liesB
    rw [Int.toNat_natCast, hq]
  rw [this]
  simp [hb]
theorem endR_sub_bad {l : List Nd} {n m m' : Nat} {ok ok' : Bool} {hi at' : Int} {ks : List Int} {q : Nd} (hq : l[n]? = some q) (h : Trek l ((n : Int) :: ks) n ok m) (h' : Trek l q.kids (n + 1) ok' m') (he : endR l (n + 1) m' ok' q.hi q.lo q.kids < 0) : endR l n m ok hi at' ((n : Int) :: ks) = -1 := by
  unfold endR at he ⊢
  rw [if_neg]
  rintro ⟨h1, h2, h3⟩
  subst h1
  rw [if_pos] at he
  · omega
  · rcases h.head rfl hq with ⟨hf, _⟩ | ⟨m1, t1, t2⟩
    · cases hf
    · obtain ⟨rfl, rfl⟩ := t1.det h'
      have l1 := t1.le.1
      have l2 := t2.le.1
      exact ⟨rfl, fun j p hj hj2 => h2 j p (by omega) (by omega), h2 n q (Nat.le_refl _) (by omega) hq⟩
theorem endR_sub_ok {l : List Nd} {n m m' : Nat} {ok ok' : Bool} {hi at' : Int} {ks : List Int} {q : Nd} (hq : l[n]? = some q) (hb : at' ≤ q.lo) (h : Trek l ((n : Int) :: ks) n ok m) (h' : Trek l q.kids (n + 1) ok' m') (he : ¬ endR l (n + 1) m' ok' q.hi q.lo q.kids < 0) :
    endR l (n + 1) m' ok' q.hi q.lo q.kids = (m' : Int) ∧ n < m' ∧ Trek l ks m' ok m ∧ endR l n m ok hi at' ((n : Int) :: ks) = endR l m' m ok hi q.hi ks := by
  have l0 := h'.le.1
  by_cases hc : ok' = true ∧ LiesIn l (n + 1) m' ∧ liesB l q.hi q.lo q.kids = true
  · have e1 : endR l (n + 1) m' ok' q.hi q.lo q.kids = (m' : Int) := if_pos hc
    obtain ⟨rfl, c2, c3⟩ := hc
    rcases h.head rfl hq with ⟨rfl, t1⟩ | ⟨m1, t1, t2⟩
    · have := (t1.det h').1; cases this
    · obtain ⟨_, rfl⟩ := t1.det h'
      refine ⟨e1, by omega, t2, ?_⟩
      have l2 := t2.le.1
      have hin : LiesIn l n m' := fun j p hj hj2 hp => by
        rcases Nat.eq_or_lt_of_le hj with rfl | hlt
        · rw [hq] at hp; cases hp; exact c3
        · exact c2 j p hlt hj2 hp
      unfold endR
      have : (ok = true ∧ LiesIn l n m ∧ liesB l hi at' ((n : Int) :: ks) = true) ↔ (ok = true ∧ LiesIn l m' m ∧ liesB l hi q.hi ks = true) := by
        rw [LiesIn.split (by omega : n ≤ m') l2, liesB_cons hq hb]
        exact ⟨fun ⟨a, ⟨_, b⟩, c⟩ => ⟨a, b, c⟩, fun ⟨a, b, c⟩ => ⟨a, ⟨hin, b⟩, c⟩⟩
      by_cases hx : ok = true ∧ LiesIn l m' m ∧ liesB l hi q.hi ks = true
      · rw [if_pos hx, if_pos (this.2 hx)]
      · rw [if_neg hx, if_neg (fun hc => hx (this.1 hc))]
  · exfalso
    apply he
    unfold endR
    rw [if_neg hc]
    omega
theorem tree_iff {l : List Nd} {ok : Bool} {m : Nat} {p : Nd} (hp : l[0]? = some p) (ht : Trek l p.kids 1 ok m) : Tree l ↔ (∀ i q, l[i]? = some q → Bare q ∧ (0 < i → q.kind ≠ 1)) ∧ endR l 1 m ok p.hi p.lo p.kids = (l.length : Int) := by
  have hl := lt_of_get hp
  constructor
  · intro T
    refine ⟨T.bare, ?_⟩
    have t := Trek.ofOne (n := 0) hp T.trek
    obtain ⟨rfl, rfl⟩ := t.det ht
    unfold endR
    rw [if_pos ⟨rfl, fun j q _ _ hq => T.lies q (List.mem_of_getElem? hq), T.lies p (List.mem_of_getElem? hp)⟩]
  · rintro ⟨h1, h2⟩
    unfold endR at h2
    split at h2
    · rename_i hc
      obtain ⟨rfl, c2, c3⟩ := hc
      have hm : m = l.length := by omega
      subst hm
      refine ⟨h1, Trek.one (n := 0) hp ht, fun q hq => ?_⟩
      obtain ⟨j, hj, rfl⟩ := List.getElem_of_mem hq
      rcases Nat.eq_zero_or_pos j with rfl | h0
      · rw [List.getElem?_eq_getElem hj] at hp
        injection hp with hp
        rw [hp]
        exact c3
      · exact c2 j _ h0 hj (List.getElem?_eq_getElem hj)
    · omega
end Go.Proofs.YthpmncdfaggkiaaGreat
namespace Go.Proofs.YthpmncdfaggkiaaGreat
open Go.RowKit
theorem Prts.nil {w : World} {A : Option Addr} : Prts w A [] := fun h => by simp at h
end Go.Proofs.YthpmncdfaggkiaaGreat
namespace Go.Proofs.YthpmncdfaggkiaaGreat
end Go.Proofs.YthpmncdfaggkiaaGreat
namespace Go.Proofs.YthpmncdfaggkiaaGreat
open Go.RowKit
attribute [local go_sem] more_drew more_drewN more_size more_cell more_frozen more_setCell drew_more drewN_more lt_add_r lt_add_r2 lt_add_r3 lt_add_r4 lt_add_r5 lt_add_r6 lt_self_r lt_self_r2
theorem leafR_any (k : Int) (w : World) : Calls Tryz.prog 91 #[.int .i64 k] w fun e w' => e = .returned (.bool (decide (LeafK k))) ∧ w = w' := by
  have H : decide (LeafK k) = ((k != 1) && (k != 2)) := by
    rw [Bool.eq_iff_iff, decide_eq_true_iff]
    unfold LeafK
    simp
  replace H := zh H
  go_enter Tryz.func91, Tryz.ntmps91
  go_wp2
  all_goals go_ret
  all_goals exact ⟨ret_bool (by rw [H.out] <;> simp [*]), rfl⟩
end Go.Proofs.YthpmncdfaggkiaaGreat
namespace Go.Proofs.YthpmncdfaggkiaaGreat
open Go.RowKit
attribute [local go_sem] more_drew more_drewN more_size more_cell more_frozen more_setCell drew_more drewN_more lt_add_r lt_add_r2 lt_add_r3 lt_add_r4 lt_add_r5 lt_add_r6 lt_add_r7 lt_add_r8 lt_add_r9 lt_add_r10 lt_self_r lt_self_r2
def Lt20 (x : Int) : Prop := -1048576 ≤ x ∧ x ≤ 1048576
structure LightP (most : Nat) (ps : List Prt) : Prop where
  len : ps.length ≤ most
  kids : kc (nds ps) 0 ps.length ≤ 2 * most
  places : ∀ p ∈ ps, Lt20 p.nd.lo ∧ Lt20 p.nd.hi ∧ Lt20 p.nd.look
theorem kc_all (l : List Nd) (j : Nat) : kc l 0 j ≤ kc l 0 l.length := by
  rcases Nat.le_total j l.length with h | h
  · rw [kc_add l (Nat.zero_le j) h]
    omega
  · unfold kc
    rw [List.take_of_length_le h, List.take_of_length_le (Nat.le_refl _)]
    exact Nat.le_refl _
theorem LightP.few {most : Nat} {ps : List Prt} (h : LightP most ps) (hm : most ≤ 1000) : Few ps :=
  ⟨by have := h.len; omega, fun j => by have := kc_all (nds ps) j; rw [nds_length] at this; have := h.kids; omega⟩
def KidsLt (ps : List Prt) : Prop := ∀ p ∈ ps, p.nd.kids.length ≤ 140737488355328
def LightRet (most : Nat) (ps : List Prt) (w : World) (e : Ending) (w' : World) : Prop := ∃ b : Bool, e = .returned (.bool b) ∧ (b = true → LightP most ps) ∧ Ext w w'
set_option maxRecDepth 100000 in
set_option maxHeartbeats 2000000 in
theorem lightParts_any (most : Nat) (A : Option Addr) (c : Nat) (ps : List Prt) (w : World) (hm : most ≤ 1000) (hP : Prts w A ps) (hl : ps.length ≤ 9223372036854775807) (hk : KidsLt ps) :
    Calls Tryz.prog 48 #[.slice A ps.length c, .int .i64 most] w (LightRet most ps w) := by
  have HP := zh hP
  have HK := zh hk
  clear hP hk
  go_enter Tryz.func48, Tryz.ntmps48
  go_wp2_with fail
  go_loopw [5, 6] (fun s i wr => ∃ j n : Nat, j ≤ ps.length ∧ j ≤ most + 1 ∧ i = .int .i64 j ∧ s = .int .i64 n ∧ Hid (n = kc (nds ps) 0 j) ∧ n ≤ 140737488355328 * j ∧ Hid (∀ i p, i < j → ps[i]? = some p → Lt20 p.nd.lo ∧ Lt20 p.nd.hi ∧ Lt20 p.nd.look) ∧ Hid (Ext w wr)) (fun _ i _ => ps.length - (intOf i).toNat)
  case atStart => exact ⟨0, 0, Nat.zero_le _, Nat.zero_le _, rfl, rfl, zh (kc_self _ _).symm, by omega, zh fun i p h => by omega, zh (by repeat first | exact xr _ | refine xa ?_ _ | refine xm ?_ _ _ | refine xd ?_ | refine xn ?_ _ | refine xs ?_ (by simp <;> omega) _)⟩
  case round =>
    obtain ⟨j, n, hj, hjm, rfl, rfl, hn, hn2, hpl, hx⟩ := hrel
    by_cases hlt : j < ps.length
    · by_cases hle : j ≤ most
      · obtain ⟨p, hp⟩ : ∃ p, ps[j]? = some p := ⟨_, List.getElem?_eq_getElem hlt⟩
        obtain ⟨bA, off, rfl, hbA, hcell⟩ := (HP.out.ext hx.out) (by omega)
        obtain ⟨d0, d1, d2, d3, d4, d5, d6, d7⟩ := hcell j p hp
        have hkl := HK.out p (List.mem_of_getElem? hp)
        have HN : Hid (n + p.nd.kids.length = kc (nds ps) 0 (j + 1)) := by rw [kc_add _ (Nat.zero_le j) (show j ≤ j + 1 by omega), kc_one (nds_get hp), ← hn.out]; exact zh rfl
        have HPJ := zh hp
        clear hcell hp
        by_cases hg : (Lt20 p.nd.lo ∧ Lt20 p.nd.hi ∧ Lt20 p.nd.look)
        · obtain ⟨⟨g1, g2⟩, ⟨g3, g4⟩, ⟨g5, g6⟩⟩ := hg
          go_wp2_with fail
          go_roundw
          case rel =>
            refine ⟨j + 1, n + p.nd.kids.length, by omega, by omega, by go_num, by go_num, HN, by omega, zh fun i q hi hq => ?_, zh (hx.out.trans (by repeat first | exact xr _ | refine xa ?_ _ | refine xm ?_ _ _ | refine xd ?_ | refine xn ?_ _ | refine xs ?_ (by simp <;> omega) _))⟩
            rcases (show i < j ∨ i = j by omega) with h | rfl
            · exact hpl.out i q h hq
            · rw [HPJ.out] at hq
              injection hq with hq
              subst hq
              exact ⟨⟨g1, g2⟩, ⟨g3, g4⟩, ⟨g5, g6⟩⟩
          case measure => simp [intOf]; omega
        · have HG := zh hg
          clear hg
          go_wp2_with fail
          all_goals first
            | (go_ret; exact ⟨false, rfl, (fun h => (by cases h)), hx.out.trans (by repeat first | exact xr _ | refine xa ?_ _ | refine xm ?_ _ _ | refine xd ?_ | refine xn ?_ _ | refine xs ?_ (by simp <;> omega) _)⟩)
            | (exfalso; have := HG.out; unfold Lt20 at this; omega)
      · obtain rfl : j = most + 1 := by omega
        have g1 : decide (most + 1 ≤ most) = false := by simp
        go_wp2_with fail
        all_goals first
          | (go_ret; exact ⟨false, rfl, (fun h => (by cases h)), hx.out⟩)
          | (exfalso; omega)
    · obtain rfl : j = ps.length := by omega
      have g1 : decide (ps.length < ps.length) = false := by simp
      by_cases hle : ps.length ≤ most
      · by_cases hks : n ≤ 2 * most
        · have hL : LightP most ps := ⟨hle, by rw [← hn.out]; exact hks, fun p hp => by
            obtain ⟨i, hi, rfl⟩ := List.getElem_of_mem hp
            exact hpl.out i _ hi (List.getElem?_eq_getElem hi)⟩
          have HL := zh hL
          clear hL
          go_wp2_with fail
          go_ret
          exact ⟨_, rfl, fun _ => HL.out, hx.out⟩
        · have hd : decide ((n : Int) ≤ 2 * (most : Int)) = false := decide_eq_false (by omega)
          go_wp2_with fail
          go_ret
          exact ⟨false, ret_bool (by first | rfl | exact hd | (simp; omega)), (fun h => (by cases h)), hx.out⟩
      · have g2 : decide (ps.length ≤ most) = false := decide_eq_false hle
        go_wp2_with fail
        go_ret
        exact ⟨false, rfl, (fun h => (by cases h)), hx.out⟩
theorem OwnI.turn {w w' : World} {base : Nat} {A : Option Addr} {c : Nat} {xs : List Int} {S : Nat → Prop} (h : OwnI w base A c xs) (t : Turn S w w') (hS : ∀ k, base ≤ k → ¬ S k) : OwnI w' base A c xs :=
  own_keep h fun g hg => t.block g (own_old h g hg) (hS g (own_block h g hg))
end Go.Proofs.YthpmncdfaggkiaaGreat
namespace Go.Proofs.YthpmncdfaggkiaaGreat
theorem first_holds (l : List Nd) (d : Dty) (ks : List Int) : (∀ k ∈ ks, ¬ HoldsOk l k d) ∨ ∃ (j : Nat) (x : Int), ks[j]? = some x ∧ HoldsOk l x d ∧ ∀ (j' : Nat) (x' : Int), j' < j → ks[j']? = some x' → ¬ HoldsOk l x' d := by
  induction ks with
  | nil => exact .inl fun k hk => by cases hk
  | cons k ks ih =>
    by_cases hk : HoldsOk l k d
    · exact .inr ⟨0, k, rfl, hk, fun j' x' h => absurd h (Nat.not_lt_zero _)⟩
    · rcases ih with h | ⟨j, x, hx, hh, hb⟩
      · refine .inl fun y hy => ?_
        rcases List.mem_cons.1 hy with rfl | hy
        · exact hk
        · exact h y hy
      · refine .inr ⟨j + 1, x, hx, hh, fun j' x' hj hx' => ?_⟩
        match j', hx' with
        | 0, hx' =>
          obtain rfl : k = x' := by simpa using hx'
          exact hk
        | j' + 1, hx' => exact hb j' x' (by omega) (by simpa using hx')
theorem BaseR.ex {l : List Nd} (T : Tree l) (d : Dty) : ∀ (n i : Nat), l.length - i ≤ n → i < l.length → ∃ r, BaseR l d i r := by
  intro n
  induction n with
  | zero => intro i h1 h2; omega
  | succ n ih =>
    intro i h1 h2
    obtain ⟨p, hp⟩ : ∃ p, l[i]? = some p := ⟨_, List.getElem?_eq_getElem h2⟩
    rcases first_holds l d p.kids with h | ⟨j, x, hx, hh, hb⟩
    · exact ⟨i, .stop i p hp h⟩
    · obtain ⟨c, rfl, c1, c2⟩ := T.kid_behind hp x (List.mem_of_getElem? hx)
      obtain ⟨r, hr⟩ := ih c (by omega) c2
      exact ⟨r, .go i p j c r hp hx hb hh hr⟩
theorem climbF_succ (us : List Int) : ∀ (n : Nat) (i : Int), climbF us (n + 1) i = climbF us 1 (climbF us n i)
  | 0, _ => rfl
  | n + 1, i => by
    by_cases h : 0 < i
    · rw [climbF, if_pos h, climbF_succ us n, show climbF us (n + 1) i = climbF us n ((us[i.toNat]?).getD 0) from by rw [climbF, if_pos h]]
    · have h' : i ≤ 0 := by omega
      rw [climbF_low (n + 1 + 1) h', climbF_low (n + 1) h', climbF_low 1 h']
theorem climbF_nat {l : List Nd} {us : List Int} (T : Tree l) (h : ParOk l us) : ∀ (n i : Nat), i < l.length → ∃ r : Nat, climbF us n (i : Int) = (r : Int) ∧ r ≤ i - n
  | 0, i, _ => ⟨i, rfl, Nat.le_refl _⟩
  | n + 1, i, hi => by
    rcases Nat.eq_zero_or_pos i with rfl | h0
    · exact ⟨0, climbF_low _ (by simp), by omega⟩
    · obtain ⟨j, hj, hlt, _⟩ := h.step T h0 hi
      obtain ⟨r, hr, hle⟩ := climbF_nat T h n j (by omega)
      refine ⟨r, ?_, by omega⟩
      rw [climbF, if_pos (by omega), Int.toNat_natCast, hj]
      exact hr
end Go.Proofs.YthpmncdfaggkiaaGreat
namespace Go.Proofs.YthpmncdfaggkiaaGreat
open Go.RowKit
attribute [local go_sem] more_drew more_drewN more_size more_cell more_frozen more_setCell drew_more drewN_more lt_add_r lt_add_r2 lt_add_r3 lt_add_r4 lt_add_r5 lt_add_r6 lt_add_r7 lt_add_r8 lt_add_r9 lt_add_r10 lt_self_r lt_self_r2
def dyCells (d : Dty) : List Value := [.int .i64 d.slot, .int .i64 d.lo, .int .i64 d.hi, .int .i64 d.age, .int .i64 d.level]
end Go.Proofs.YthpmncdfaggkiaaGreat
namespace Go.Proofs.YthpmncdfaggkiaaGreat
open Go.RowKit
attribute [local go_sem] more_drew more_drewN more_size more_cell more_frozen more_setCell drew_more drewN_more lt_add_r lt_add_r2 lt_add_r3 lt_add_r4 lt_add_r5 lt_add_r6 lt_self_r lt_self_r2
set_option maxHeartbeats 2000000 in
theorem bareR_any (p : Prt) (w : World) : Calls Tryz.prog 49 #[aggV p] w fun e w' => e = .returned (.bool (decide (Bare p.nd))) ∧ Ext w w' := by
  obtain ⟨⟨sym, kind, lo, inn, hi, look, kids, met⟩, kA, kc⟩ := p
  go_enter Tryz.func49, Tryz.ntmps49
  go_wp2_with (first | (go_at_call 91; refine (leafR_any _ _).mono ?_; rintro e w' ⟨rfl, rfl⟩) | go_in)
  all_goals go_ret
  all_goals refine ⟨ret_bool ?_, (Ext.refl _).alloc _⟩
  all_goals (rw [Bool.eq_iff_iff, decide_eq_true_iff])
  all_goals grind [Bare, TokK, LeafK]
end Go.Proofs.YthpmncdfaggkiaaGreat
namespace Go.Proofs.YthpmncdfaggkiaaGreat
open Go.RowKit
attribute [local go_sem] more_drew more_drewN more_size more_cell more_frozen more_setCell drew_more drewN_more lt_add_r lt_add_r2 lt_add_r3 lt_add_r4 lt_add_r5 lt_add_r6 lt_add_r7 lt_add_r8 lt_add_r9 lt_add_r10 lt_self_r lt_self_r2
set_option maxRecDepth 100000 in
set_option maxHeartbeats 1500000 in
theorem rend_any (A : Option Addr) (c : Nat) (ps : List Prt) : ∀ (fuel i m : Nat) (ok : Bool) (p : Prt) (w : World), PS w A c ps → ps.length - i ≤ fuel → ps[i]? = some p → Trek (nds ps) p.nd.kids (i + 1) ok m →
    Calls Tryz.prog 50 #[.slice A ps.length c, .int .i64 i] w fun e w' => e = .returned (.int .i64 (endR (nds ps) (i + 1) m ok p.nd.hi p.nd.lo p.nd.kids)) ∧ Ext w w' := by
  intro fuel
  induction fuel with
  | zero =>
    intro i m ok p w h hf hp ht
    have := lt_of_get hp
    omega
  | succ fuel ih =>
    intro i m ok p w h hf hp ht
    have hil := lt_of_get hp
    have hl := h.few.len
    obtain ⟨b, off, rfl, hb, hcell⟩ := h.parts (by omega)
    obtain ⟨_, _, d2, _, d4, _, d6, _⟩ := hcell i p hp
    have hcap := h.cap
    have b1 : IntKind.i64.wrap ((i : Int) + 1) = ((i + 1 : Nat) : Int) := by
      rw [show ((i : Int) + 1) = ((i + 1 : Nat) : Int) by omega]
      exact IntWalk.i64_in _ (by omega)
    have hpo := h.oks.get hp
    have ho1 := hpo.cap
    have ho2 := hpo.top
    have S := zh h
    have IH := zh ih
    have HT := zh ht
    have HPP := zh hp
    have HPO := zh hpo
    clear h ih ht hp hcell hpo
    go_enter Tryz.func50, Tryz.ntmps50
    go_upto_region 1 with fail
    refine wp_region_ext (by kernel_rfl) (by kernel_rfl) ?_
    repeat (go_big_quiet_step (fail))
    refine wpQuiet_nil ?_
    intro _ hw'
    obtain ⟨x9, rfl⟩ := hw'
    obtain ⟨W4, hW4⟩ : ∃ W4, more w x9.os x9.k = W4 := ⟨_, rfl⟩
    have HX4 : Hid (Ext w W4) := zh (by rw [← hW4]; exact ⟨_, _, rfl⟩)
    rw [hW4]
    clear hW4
    have CELLS := zh (fun (V : World) (x : Ext w V) => (⟨(x.below.cell (p := ⟨b, off + i * 8 + 4, none⟩) hb).trans d4, (x.below.cell (p := ⟨b, off + i * 8 + 6, none⟩) hb).trans d6, Nat.lt_of_lt_of_le hb x.size⟩ :
      V.cell? ⟨b, off + i * 8 + 4, none⟩ = some (.int .i64 p.nd.hi) ∧ V.cell? ⟨b, off + i * 8 + 6, none⟩ = some (.slice p.kA p.nd.kids.length p.kc) ∧ b < V.heap.size))
    clear d2 d4 d6 b1
    go_wp2_with fail
    go_loopw [5, 6, 7] (fun nx av kv wr => ∃ (k n2 : Nat) (a2 : Int), k ≤ p.nd.kids.length ∧ kv = .int .i64 k ∧ nx = .int .i64 n2 ∧ av = .int .i64 a2 ∧ i < n2 ∧ n2 ≤ ps.length ∧
      Hid (Trek (nds ps) (p.nd.kids.drop k) n2 ok m ∧ endR (nds ps) (i + 1) m ok p.nd.hi p.nd.lo p.nd.kids = endR (nds ps) n2 m ok p.nd.hi a2 (p.nd.kids.drop k)) ∧ Hid (Ext w wr)) (fun _ _ kv _ => p.nd.kids.length - (intOf kv).toNat)
    case atStart => exact ⟨0, i + 1, p.nd.lo, Nat.zero_le _, rfl, rfl, rfl, by omega, by omega, zh ⟨HT.out, rfl⟩, HX4⟩
    case round =>
      obtain ⟨k, n2, a2, hk, rfl, rfl, rfl, hin, hn2, hH, hx⟩ := hrel
      obtain ⟨kd4, kd6, kb⟩ := CELLS.out wr hx.out
      by_cases hlt : k < p.nd.kids.length
      · obtain ⟨bk, offk, hkA, hbk, hck⟩ := (HPO.out.ext hx.out).kids (by omega)
        have e1 := hck k hlt
        obtain ⟨x, hxk⟩ : ∃ x, p.nd.kids[k]? = some x := ⟨_, List.getElem?_eq_getElem hlt⟩
        rw [List.getD_eq_getElem?_getD, hxk] at e1
        dsimp only [Option.getD_some] at e1
        have hdr : p.nd.kids.drop k = x :: p.nd.kids.drop (k + 1) := by
          rw [List.drop_eq_getElem_cons hlt]
          congr 1
          rw [List.getElem?_eq_getElem hlt] at hxk
          injection hxk
        have hH' := hH.out
        rw [hdr] at hH'
        obtain ⟨ht2, he2⟩ := hH'
        have HE2 := zh he2
        have HT2 := zh ht2
        rw [hkA] at kd6
        clear hck hxk hdr he2 ht2 hH hkA
        by_cases hbad : x ≠ (n2 : Int) ∨ (nds ps).length ≤ n2
        · have HR := zh (endR_bad (hi := p.nd.hi) (at' := a2) HT2.out hbad)
          rw [nds_length] at hbad
          by_cases hxn : x = (n2 : Int)
          · subst hxn
            have hle : decide (ps.length ≤ n2) = true := decide_eq_true (by omega)
            clear hbad
            go_wp2_with fail
            go_ret
            exact ⟨ret_int (by rw [HE2.out, HR.out]), hx.out.trans (by repeat first | exact xr _ | refine xa ?_ _ | refine xm ?_ _ _ | refine xd ?_ | refine xn ?_ _ | refine xs ?_ (by simp <;> omega) _)⟩
          · have hxb : (x != (n2 : Int)) = true := by simpa using hxn
            clear hbad hxn
            go_wp2_with fail
            go_ret
            exact ⟨ret_int (by rw [HE2.out, HR.out]), hx.out.trans (by repeat first | exact xr _ | refine xa ?_ _ | refine xm ?_ _ _ | refine xd ?_ | refine xn ?_ _ | refine xs ?_ (by simp <;> omega) _)⟩
        · have hxn : x = (n2 : Int) := Decidable.byContradiction fun h => hbad (.inl h)
          have hnl : n2 < ps.length := by rw [← nds_length]; exact Nat.lt_of_not_le fun h => hbad (.inr h)
          subst hxn
          clear hbad
          obtain ⟨q, hq⟩ : ∃ q, ps[n2]? = some q := ⟨_, List.getElem?_eq_getElem hnl⟩
          obtain ⟨b2, off2, hA2, _, hc2⟩ := (S.out.ext hx.out).parts (by omega)
          injection hA2 with hA2
          injection hA2 with ea eb
          subst ea eb
          obtain ⟨_, _, g2, _, g4, _, _, _⟩ := hc2 n2 q hq
          have hle : decide (ps.length ≤ n2) = false := decide_eq_false (by omega)
          by_cases hah : q.nd.lo < a2
          · have HR := zh (endR_ahead (m := m) (ok := ok) (hi := p.nd.hi) (ks := p.nd.kids.drop (k + 1)) (nds_get hq) hah)
            have hd : decide (q.nd.lo < a2) = true := decide_eq_true hah
            clear hah hq hc2
            go_wp2_with fail
            go_ret
            exact ⟨ret_int (by rw [HE2.out, HR.out]), hx.out.trans (by repeat first | exact xr _ | refine xa ?_ _ | refine xm ?_ _ _ | refine xd ?_ | refine xn ?_ _ | refine xs ?_ (by simp <;> omega) _)⟩
          · have hd : decide (q.nd.lo < a2) = false := decide_eq_false hah
            obtain ⟨ok', m', ht'⟩ := trek_all (nds ps) ps.length q.nd.kids (n2 + 1) (by rw [nds_length]; omega)
            have CALL := zh (fun (V : World) (x : Ext wr V) => IH.out n2 m' ok' q V ((S.out.ext hx.out).ext x) (by omega) hq ht')
            have HBN := zh (endR_sub_bad (hi := p.nd.hi) (at' := a2) (nds_get hq) HT2.out ht')
            have HOK := zh (endR_sub_ok (hi := p.nd.hi) (at' := a2) (nds_get hq) (Int.not_lt.1 hah) HT2.out ht')
            have hm' := ht'.le.2 (by rw [nds_length]; omega)
            rw [nds_length] at hm'
            obtain ⟨r, hr⟩ : ∃ r, endR (nds ps) (n2 + 1) m' ok' q.nd.hi q.nd.lo q.nd.kids = r := ⟨_, rfl⟩
            rw [hr] at CALL HBN HOK
            clear hah hq hc2 ht' hr
            go_wp2_with fail
            refine (CALL.out _ (by repeat first | exact xr _ | refine xa ?_ _ | refine xm ?_ _ _ | refine xd ?_ | refine xn ?_ _ | refine xs ?_ (by simp <;> omega) _)).mono ?_
            rintro e w3 ⟨rfl, hx3⟩
            have HX3 : Hid (Ext w w3) := zh (hx.out.trans (Ext.trans (by repeat first | exact xr _ | refine xa ?_ _ | refine xm ?_ _ _ | refine xd ?_ | refine xn ?_ _ | refine xs ?_ (by simp <;> omega) _) hx3))
            clear hx3
            by_cases hneg : r < 0
            · have hrd : decide (r < 0) = true := decide_eq_true hneg
              have HR := zh (HBN.out (by omega))
              clear hneg
              go_wp2_with fail
              go_ret
              exact ⟨ret_int (by rw [HE2.out, HR.out]), HX3.out⟩
            · have hrd : decide (r < 0) = false := decide_eq_false hneg
              obtain ⟨h1, h2, h3, h4⟩ := HOK.out (by omega)
              clear hneg
              subst h1
              have HR := zh (show Trek (nds ps) (p.nd.kids.drop (k + 1)) m' ok m ∧ endR (nds ps) (i + 1) m ok p.nd.hi p.nd.lo p.nd.kids = endR (nds ps) m' m ok p.nd.hi q.nd.hi (p.nd.kids.drop (k + 1)) from ⟨h3, HE2.out.trans h4⟩)
              clear h3 h4
              go_wp2_with fail
              go_roundw
              case rel => exact ⟨k + 1, m', q.nd.hi, by omega, by go_num, rfl, rfl, by omega, hm', HR, HX3⟩
              case measure => simp [intOf]; omega
      · obtain rfl : k = p.nd.kids.length := by omega
        have hH' := hH.out
        rw [List.drop_eq_nil_of_le (Nat.le_refl _)] at hH'
        have HR := zh (hH'.2.trans (endR_nil hH'.1))
        clear hH' hH
        by_cases ha : a2 ≤ p.nd.hi
        · have hd : decide (p.nd.hi < a2) = false := decide_eq_false (by omega)
          have HR2 := zh (HR.out.trans (if_pos ha))
          clear ha
          go_wp2_with fail
          go_ret
          exact ⟨ret_int (by rw [HR2.out]), hx.out.trans (by repeat first | exact xr _ | refine xa ?_ _ | refine xm ?_ _ _ | refine xd ?_ | refine xn ?_ _ | refine xs ?_ (by simp <;> omega) _)⟩
        · have hd : decide (p.nd.hi < a2) = true := decide_eq_true (by omega)
          have HR2 := zh (HR.out.trans (if_neg ha))
          clear ha
          go_wp2_with fail
          go_ret
          exact ⟨ret_int (by rw [HR2.out]), hx.out.trans (by repeat first | exact xr _ | refine xa ?_ _ | refine xm ?_ _ _ | refine xd ?_ | refine xn ?_ _ | refine xs ?_ (by simp <;> omega) _)⟩
section
variable {A : Option Addr} {c : Nat} {ps : List Prt} {w : World}
set_option maxRecDepth 100000 in
set_option maxHeartbeats 1500000 in
theorem rcheck_any (h : PS w A c ps) : Calls Tryz.prog 13 #[.slice A ps.length c] w fun e w' => e = .returned (.int .i64 (checkF (nds ps))) ∧ Ext w w' := by
  have hl := h.few.len
  have S := zh h
  have HC := zh (checkF_few hl)
  have hd0 : decide ((524288 : Int) < (ps.length : Int)) = false := decide_eq_false (by omega)
  clear h
  go_enter Tryz.func13, Tryz.ntmps13
  go_wp2_with fail
  go_loopw [3] (fun v wr => ∃ j : Nat, j ≤ ps.length ∧ v = .int .i64 j ∧ Hid (∀ i p, i < j → ps[i]? = some p → Bare p.nd ∧ (0 < i → p.nd.kind ≠ 1)) ∧ Hid (Ext w wr)) (fun v _ => ps.length - (intOf v).toNat)
  case atStart => exact ⟨0, Nat.zero_le _, rfl, zh (fun i p hi => by omega), zh (Ext.refl _)⟩
  case round =>
    obtain ⟨j, hj, rfl, hB, hx⟩ := hrel
    by_cases hlt : j < ps.length
    · obtain ⟨p, hp⟩ : ∃ p, ps[j]? = some p := ⟨_, List.getElem?_eq_getElem hlt⟩
      obtain ⟨b, off, rfl, hb, hcell⟩ := (S.out.ext hx.out).parts (by omega)
      obtain ⟨d0, d1, d2, d3, d4, d5, d6, d7⟩ := hcell j p hp
      have hcap := S.out.cap
      have NT : Hid (¬ (Bare p.nd ∧ (0 < j → p.nd.kind ≠ 1)) → ¬ Tree (nds ps)) := zh fun hn T => hn (T.bare j p.nd (nds_get hp))
      have NX : Hid (Bare p.nd ∧ (0 < j → p.nd.kind ≠ 1) → ∀ i q, i < j + 1 → ps[i]? = some q → Bare q.nd ∧ (0 < i → q.nd.kind ≠ 1)) := zh fun hok i q hi hq => by
        rcases (show i < j ∨ i = j by omega) with h | rfl
        · exact hB.out i q h hq
        · rw [hp] at hq
          injection hq with hq
          subst hq
          exact hok
      have D1 := zh (fun (V : World) (x : Ext wr V) => (⟨(x.below.cell (p := ⟨b, off + j * 8 + 1, none⟩) hb).trans d1, Nat.lt_of_lt_of_le hb x.size⟩ : V.cell? ⟨b, off + j * 8 + 1, none⟩ = some (.int .i64 p.nd.kind) ∧ b < V.heap.size))
      clear hcell hp
      go_wp2_with fail
      refine (bareR_any p wr).mono ?_
      rintro e w2 ⟨rfl, hx2⟩
      obtain ⟨k1, k2⟩ := D1.out w2 hx2
      have HX2 := zh (hx.out.trans hx2)
      clear hx2 d0 d1 d2 d3 d4 d5 d6 d7
      by_cases hBr : Bare p.nd
      · have hbd : decide (Bare p.nd) = true := decide_eq_true hBr
        by_cases h0 : j = 0
        · have h0d : decide (0 < j) = false := decide_eq_false (by omega)
          have N2 := zh (NX.out ⟨hBr, fun h => by omega⟩)
          clear hBr h0
          go_wp2_with fail
          go_roundw
          case rel => exact ⟨j + 1, by omega, by go_num, N2, HX2⟩
          case measure => simp [intOf]; omega
        · have h0d : decide (0 < j) = true := decide_eq_true (by omega)
          by_cases hk : p.nd.kind = 1
          · have hk1 : (p.nd.kind == 1) = true := by simp [hk]
            have N2 := zh (NT.out (fun h => h.2 (by omega) hk))
            clear hBr h0 hk
            go_wp2_with fail
            go_ret
            exact ⟨ret_int (by rw [HC.out.2 N2.out]), HX2.out⟩
          · have hk1 : (p.nd.kind == 1) = false := by simp [hk]
            have N2 := zh (NX.out ⟨hBr, fun _ => hk⟩)
            clear hBr h0 hk
            go_wp2_with fail
            go_roundw
            case rel => exact ⟨j + 1, by omega, by go_num, N2, HX2⟩
            case measure => simp [intOf]; omega
      · have hbd : decide (Bare p.nd) = false := decide_eq_false hBr
        have N2 := zh (NT.out (fun h => hBr h.1))
        clear hBr
        go_wp2_with fail
        go_ret
        exact ⟨ret_int (by rw [HC.out.2 N2.out]), HX2.out⟩
    · obtain rfl : j = ps.length := by omega
      by_cases h0 : ps.length = 0
      · have hz : ((ps.length : Int) == 0) = true := by simp [h0]
        have N2 : Hid (¬ Tree (nds ps)) := zh fun T => by have := T.pos; rw [nds_length] at this; omega
        clear h0
        go_wp2_with fail
        go_ret
        exact ⟨ret_int (by rw [HC.out.2 N2.out]), hx.out⟩
      · have hz : ((ps.length : Int) == 0) = false := by rw [beq_eq_false_iff_ne]; omega
        obtain ⟨p, hp⟩ : ∃ p, ps[0]? = some p := ⟨_, List.getElem?_eq_getElem (by omega)⟩
        obtain ⟨ok, m, ht⟩ := trek_all (nds ps) ps.length p.nd.kids 1 (by rw [nds_length]; omega)
        have CE := zh (rend_any A c ps ps.length 0 m ok p wr (S.out.ext hx.out) (by omega) hp ht)
        have HTI : Hid (Tree (nds ps) ↔ endR (nds ps) 1 m ok p.nd.hi p.nd.lo p.nd.kids = (ps.length : Int)) := zh (by
          rw [tree_iff (nds_get hp) ht, nds_length]
          refine ⟨fun h => h.2, fun h => ⟨fun i q hq => ?_, h⟩⟩
          obtain ⟨q', hq', rfl⟩ := nds_get' hq
          exact hB.out i q' (lt_of_get hq') hq')
        obtain ⟨r, hr⟩ : ∃ r, endR (nds ps) 1 m ok p.nd.hi p.nd.lo p.nd.kids = r := ⟨_, rfl⟩
        rw [Nat.zero_add, hr] at CE
        rw [hr] at HTI
        clear hp ht hr h0
        go_wp2_with fail
        refine CE.out.mono ?_
        rintro e w3 ⟨rfl, hx3⟩
        have HX3 := zh (hx.out.trans hx3)
        clear hx3
        by_cases hrn : r = (ps.length : Int)
        · have hb : (r != (ps.length : Int)) = false := by simp [hrn]
          have T := zh (HTI.out.2 hrn)
          clear hrn
          go_wp2_with fail
          go_ret
          exact ⟨ret_int (by rw [HC.out.1 T.out]), HX3.out⟩
        · have hb : (r != (ps.length : Int)) = true := by simpa using hrn
          have T := zh (fun h => hrn (HTI.out.1 h))
          clear hrn
          go_wp2_with fail
          go_ret
          exact ⟨ret_int (by rw [HC.out.2 T.out]), HX3.out⟩
theorem rcheck_ok (h : PS w A c ps) (T : Tree (nds ps)) : Calls Tryz.prog 13 #[.slice A ps.length c] w fun e w' => e = .returned (.int .i64 0) ∧ Ext w w' :=
  (rcheck_any h).mono fun _ _ ⟨he, hx⟩ => ⟨by rw [he, (checkF_few h.few.len).1 T], hx⟩
theorem rcheck_no (h : PS w A c ps) (T : ¬ Tree (nds ps)) : Calls Tryz.prog 13 #[.slice A ps.length c] w fun e w' => e = .returned (.int .i64 2) ∧ Ext w w' :=
  (rcheck_any h).mono fun _ _ ⟨he, hx⟩ => ⟨by rw [he, (checkF_few h.few.len).2 T], hx⟩
end
section
variable {A : Option Addr} {c : Nat} {ps : List Prt} {w : World}
set_option maxRecDepth 100000 in
set_option maxHeartbeats 1000000 in
theorem rParents_yes (h : PS w A c ps) (T : Tree (nds ps)) : Calls Tryz.prog 19 #[.slice A ps.length c] w (ParsRet w (nds ps)) := by
  have CH := zh (rcheck_ok h T)
  have HS := zh h
  have hl := h.few.len
  have hl0 : 0 < ps.length := by have := T.pos; rwa [nds_length] at this
  have HT := zh T
  have hmk := run_make_row' (P := Tryz.prog) 31 3 (.int .i64 0) 8 Tryz.underlying31 infoInt rfl .i64 .i64 ps.length (by omega) (by omega)
  clear h T
  go_enter Tryz.func19, Tryz.ntmps19
  go_wp2_with fail
  refine CH.out.mono ?_
  rintro e w3 ⟨rfl, hx3⟩
  have HX3 := zh hx3
  clear hx3
  go_upto_region 4 with fail
  obtain ⟨W4, hW4⟩ : ∃ W4, w3.alloc (.cells (madeCells #[.int .i64 0] ps.length) 3) = W4 := ⟨_, rfl⟩
  have M4 : Hid (MadeI W4 w3.heap.size (List.replicate ps.length 0)) := hW4 ▸ MadeI.new _ _
  have X4 : Hid (Ext w W4) := hW4 ▸ HX3.out.alloc _
  have hg : w.heap.size ≤ w3.heap.size := HX3.out.size
  rw [hW4]
  generalize w3.heap.size = g at *
  obtain ⟨m1, m2, m3⟩ := M4.out.cell (k := 0) (by simp; omega)
  have M5 := zh (M4.out.store 0 (-1))
  have X5 := zh (X4.out.setCell (p := ⟨g, 0, none⟩) hg (.int .i64 (-1)))
  clear hW4 hmk
  go_wp2_with fail
  generalize hW5 : W4.setCell ⟨g, 0, none⟩ (.int .i64 (-1)) = W5 at *
  clear hW5 m1 m2 m3
  go_loopw [4] (fun i wr => ∃ (j : Nat) (us : List Int), j ≤ ps.length ∧ i = .int .i64 j ∧ Hid (MadeI wr g us) ∧ Hid (ParUpto (nds ps) us j 0) ∧ Hid (Ext w wr)) (fun i _ => ps.length - (intOf i).toNat)
  case atStart => exact ⟨0, _, Nat.zero_le _, rfl, M5, zh (ParUpto.first (by simp [nds_length]) (by rw [List.getElem?_set_self (by rw [List.length_replicate]; exact hl0)])), X5⟩
  case round =>
    obtain ⟨j, us, hj, rfl, hM, hU, hX⟩ := hrel
    by_cases hlt : j < ps.length
    · obtain ⟨⟨q, kA, kcap⟩, hq⟩ : ∃ q, ps[j]? = some q := ⟨_, List.getElem?_eq_getElem hlt⟩
      obtain ⟨b, off, rfl, hb, hcell⟩ := (HS.out.ext hX.out).parts (by omega)
      obtain ⟨d0, d1, d2, d3, d4, d5, d6, d7⟩ := hcell j _ hq
      have ho := (HS.out.oks.get hq)
      have o1 : q.kids.length ≤ kcap := ho.cap
      have o2 : kcap ≤ 9223372036854775807 := ho.top
      dsimp only at d0 d1 d2 d3 d4 d5 d6 d7
      have HOQ := zh ho
      have HQ := zh (nds_get hq)
      have hq0 := hq
      clear hcell hq ho
      have D6 := zh (fun (V : World) (x : Ext w V) => (HS.out.ext x).parts (by omega))
      have HQP := zh hq0
      clear d0 d1 d2 d3 d4 d5 d6 d7 hq0
      go_wp2_with fail
      go_loopw [5] (fun i wr => ∃ (k : Nat) (us : List Int), k ≤ q.kids.length ∧ i = .int .i64 k ∧ Hid (MadeI wr g us) ∧ Hid (ParUpto (nds ps) us j k) ∧ Hid (Ext w wr)) (fun i _ => q.kids.length - (intOf i).toNat)
      case atStart => exact ⟨0, us, Nat.zero_le _, rfl, hM, hU, hX⟩
      case round =>
        obtain ⟨k, us, hk, rfl, hM, hU, hX⟩ := hrel
        obtain ⟨b', off', hA', hb', hcell⟩ := D6.out wr hX.out
        injection hA' with hA'
        injection hA' with ea eb
        subst ea eb
        have d6 := (hcell j _ HQP.out).2.2.2.2.2.2.1
        dsimp only at d6
        clear hcell
        by_cases hkl : k < q.kids.length
        · obtain ⟨b2, off2, hkA, hb2, hc2⟩ := (HOQ.out.ext hX.out).kids (by show 0 < q.kids.length; omega)
          change kA = _ at hkA
          subst hkA
          have e1 := hc2 k hkl
          obtain ⟨i, hi1, hi2, hi3⟩ := HT.out.kid_behind HQ.out (q.kids.getD k 0) (by rw [List.getD_eq_getElem?_getD, List.getElem?_eq_getElem hkl]; exact List.getElem_mem hkl)
          dsimp only at e1
          rw [hi1] at e1
          rw [nds_length] at hi3
          have hlen := hU.out.len
          rw [nds_length] at hlen
          obtain ⟨m1, m2, m3⟩ := hM.out.cell (k := i) (by omega)
          have M7 := zh (hM.out.store i j)
          have X7 := zh (hX.out.setCell (p := ⟨g, i, none⟩) hg (.int .i64 (j : Int)))
          have U7 := zh (hU.out.kid HT.out HQ.out (c := i) (K := k) (by rw [← hi1, List.getD_eq_getElem?_getD, List.getElem?_eq_getElem hkl]; rfl))
          clear hc2 hi1 hM hU hX hlen
          go_wp2_with fail
          go_roundw
          case rel => exact ⟨k + 1, _, by omega, by go_num, M7, U7, X7⟩
          case measure => simp [intOf]; omega
        · obtain rfl : k = q.kids.length := by omega
          go_wp2_with fail
          go_roundw
          case rel => exact ⟨j + 1, us, by omega, by go_num, hM, zh (ParUpto.next HQ.out hU.out), hX⟩
          case measure => simp [intOf]; omega
    · obtain rfl : j = ps.length := by omega
      go_wp2_with fail
      go_ret
      have hlen := hU.out.len
      rw [nds_length] at hlen
      have e : (Value.slice (some ⟨g, 0, none⟩) ps.length ps.length) = .slice (some ⟨g, 0, none⟩) us.length us.length := by rw [hlen]
      exact ⟨us, ParUpto.done (by rw [nds_length]; exact hU.out), some ⟨g, 0, none⟩, us.length, by rw [← e]; rfl, hM.out.own hg (by omega), hX.out⟩
end
end Go.Proofs.YthpmncdfaggkiaaGreat
namespace Go.Proofs.YthpmncdfaggkiaaGreat
open Go.ChangeShapes Go.WideShapes Go.ChangeAt Go.RowKit
end Go.Proofs.YthpmncdfaggkiaaGreat
namespace Go.Proofs.YthpmncdfaggkiaaGreat
open Go.ChangeShapes Go.WideShapes Go.ChangeAt Go.RowKit Go.Joins Go.Deep
theorem cellsInt : Tryz.prog.cellsOf 3 = 1 := by kernel_rfl
theorem i64_bd {a : Int} (h : (Lit.int .i64 a).wf = true) : -9223372036854775808 ≤ a ∧ a ≤ 9223372036854775807 := by
  simpa [Lit.wf, IntKind.min, IntKind.max, IntKind.signed, IntKind.bits] using h
section
variable {H : Type} {enc : TypeId × Value → H} {W : World} {b0 : Nat} {v : Value} {d : DataW H} {p : List MemPlace}
set_option maxRecDepth 100000 in
theorem ints_cell {n : Nat} {y : DataW H × List MemPlace} (h : DataW.trod enc Tryz.prog W 0 (fun _ => true) true n 31 [v] = some y) :
    ∃ A c xs, v = .slice A xs.length c ∧ Ints W A xs ∧ xs.length ≤ c ∧ c ≤ 9223372036854775807 ∧ (∀ x ∈ xs, -9223372036854775808 ≤ x ∧ x ≤ 9223372036854775807) ∧ (A = none → c = 0) := by
  rcases open_ints Tryz.underlying31 Tryz.underlying3 cellsInt h with ⟨hcs, _⟩ | ⟨a, len, cap, zs, hcs, _, hl, hm, hz, _, hcell, hwz⟩
  · injection hcs with hcs
    exact ⟨none, 0, [], hcs, Ints.nil, by simp, by omega, by simp, fun _ => rfl⟩
  · injection hcs with hcs
    have hz : zs.length = cap := hz
    have hlen : (zs.take len).length = len := by rw [List.length_take]; omega
    refine ⟨some a, cap, zs.take len, by rw [hcs, hlen], ?_, by omega, by unfold maxLen at hm; omega, fun x hx => i64_bd (hwz x (List.mem_of_mem_take hx)), fun h => by cases h⟩
    intro h0
    rw [hlen] at h0
    obtain ⟨b, off, rfl, hc⟩ := ints_at hcell (by omega)
    refine ⟨b, off, rfl, ?_, ?_⟩
    · have := hc 0 (by omega)
      exact World.block_lt_of_cell? _ _ this
    · intro k hk
      rw [hlen] at hk
      rw [hc k (by omega)]
      simp [List.getD_eq_getElem?_getD, hk]
theorem ex_list {α : Type} (n : Nat) (R : Nat → α → Prop) (h : ∀ i, i < n → ∃ x, R i x) : ∃ l : List α, l.length = n ∧ ∀ i x, l[i]? = some x → R i x := by
  induction n with
  | zero => exact ⟨[], rfl, by simp⟩
  | succ n ih =>
    obtain ⟨l, hl, hr⟩ := ih (fun i hi => h i (by omega))
    obtain ⟨x, hx⟩ := h n (by omega)
    refine ⟨l ++ [x], by simp [hl], fun i y hy => ?_⟩
    rw [List.getElem?_append] at hy
    split at hy
    · exact hr i y hy
    · have : i - l.length = 0 := by
        rcases Nat.eq_zero_or_pos (i - l.length) with h0 | h0
        · exact h0
        · rw [List.getElem?_eq_none (by simp; omega)] at hy
          cases hy
      rw [this] at hy
      obtain rfl : x = y := by simpa using hy
      obtain rfl : i = n := by omega
      exact hx
theorem add_plain' (b off i : Nat) : (⟨b, off, none⟩ : Addr).add i = ⟨b, off + i, none⟩ := Go.WideShapes.add_plain b off i
end
theorem cellsPart : Tryz.prog.cellsOf 34 = 8 := by kernel_rfl
theorem u64_bd {a : Int} (h : (Lit.int .u64 a).wf = true) : 0 ≤ a ∧ a ≤ 18446744073709551615 := by
  simpa [Lit.wf, IntKind.min, IntKind.max, IntKind.signed, IntKind.bits] using h
theorem struct_cells2 {H : Type} {enc : TypeId × Value → H} {P : Program} {w : World} {base : Nat} {spare : Nat → Bool} {held : Bool} {e : TypeId} {fs : Array Field} {n : Nat} {a : Addr} {cs : List Value} {x : DataW H × List MemPlace} (he : P.underlying e = some (.struct fs)) (hone : oneCellFields P fs = true)
    (hsz : P.cellsOf e = fs.size) (hc : w.cells? base a (P.cellsOf e) = some cs) (ht : DataW.trod enc P w base spare held n e cs = some x) (j : Nat) (f : Field) (hj : fs[j]? = some f) :
    ∃ (m : Nat) (v : Value) (y : DataW H × List MemPlace), w.cell? (a.add j) = some v ∧ DataW.trod enc P w base spare held m f.type [v] = some y ∧ ∀ k ∈ y.1.weights P f.type, k ∈ x.1.weights P e := by
  obtain ⟨ys, m, hm, hx, _, hyl, hf⟩ := DataW.trod_struct he ht
  obtain ⟨_, hcl, hat⟩ := World.cells?_some hc
  obtain ⟨ho, hk⟩ := hone_of hone j f hj
  have hjl : j < fs.size := (Array.getElem?_eq_some_iff.1 hj).1
  have hjc : j < cs.length := by omega
  have h1 := hf j f hj
  rw [ho, hk, List.drop_eq_getElem_cons hjc] at h1
  refine ⟨m, cs[j], ys[j]'(by omega), ?_, ?_, ?_⟩
  · exact (hat j (by omega)).trans (List.getElem?_eq_getElem hjc)
  · exact h1.trans (List.getElem?_eq_getElem (by omega))
  · intro k hk
    rw [hx]
    simp only [DataW.weights, he]
    refine DataW.weights_mem_each (j := j) (t := f.type) (d := (ys[j]'(by omega)).1) ?_ ?_ k hk
    · rw [List.getElem?_map, Array.getElem?_toList, hj]
      rfl
    · rw [List.getElem?_map, List.getElem?_eq_getElem (by omega)]
      rfl
theorem weights_elem {H : Type} {P : Program} {e : TypeId} : ∀ {l : List (DataW H)} {d : DataW H}, d ∈ l → ∀ k ∈ d.weights P e, k ∈ DataW.weightsAll P e l
  | d0 :: l, d, hd, k, hk => by
    simp only [DataW.weightsAll, List.mem_append]
    rcases List.mem_cons.1 hd with rfl | hd
    · exact .inl hk
    · exact .inr (weights_elem hd k hk)
set_option maxRecDepth 100000 in
theorem ints_cellS {H : Type} {enc : TypeId × Value → H} {W : World} {v : Value} {n : Nat} {y : DataW H × List MemPlace} (h : DataW.trod enc Tryz.prog W 0 (fun _ => true) true n 31 [v] = some y) (hw : ∀ k ∈ y.1.weights Tryz.prog 31, k ≤ reachBytes) :
    ∃ A c xs, v = .slice A xs.length c ∧ Ints W A xs ∧ xs.length ≤ c ∧ c ≤ 9223372036854775807 ∧ (∀ x ∈ xs, -9223372036854775808 ≤ x ∧ x ≤ 9223372036854775807) ∧ (A = none → c = 0) ∧ xs.length ≤ 140737488355328 := by
  obtain ⟨A, c, xs, rfl, h1, h2, h3, h4, h5⟩ := ints_cell h
  refine ⟨A, c, xs, rfl, h1, h2, h3, h4, h5, ?_⟩
  rcases open_ints Tryz.underlying31 Tryz.underlying3 cellsInt h with ⟨hcs, _⟩ | ⟨a, len, cap, zs, hcs, _, hl, hm, hz, hy, _, _⟩
  · injection hcs with hcs
    injection hcs with _ hcs _
    omega
  · injection hcs with hcs
    injection hcs with _ hcs _
    have hz : zs.length = cap := hz
    have hb : Tryz.prog.bytesOf 3 = 8 := by kernel_rfl
    rw [hy] at hw
    have hll : (lits IntKind.i64 (zs.take len) : List (DataW H)).length = len := by simp [lits]; omega
    have := hw (((lits IntKind.i64 (zs.take len) : List (DataW H)).length + (lits IntKind.i64 (zs.drop len) : List (DataW H)).length) * Tryz.prog.bytesOf 3) (by simp [DataW.weights, Tryz.underlying31])
    rw [hb, hll] at this
    have hr := reachBytes_lt
    omega
section
variable {H : Type} {enc : TypeId × Value → H} {W : World} {b0 : Nat} {v : Value} {d : DataW H} {p : List MemPlace}
set_option maxRecDepth 100000 in
theorem open_partsS (hv : Value.okWide Tryz.prog W .any b0 22 v) (h : DataW.Trod enc Tryz.prog W 0 (fun _ => true) true 22 v d p) (hw : ∀ k ∈ d.weights Tryz.prog 22, k ≤ reachBytes) :
    ∃ A c ps, v = .slice A (ps : List Prt).length c ∧ Prts W A ps ∧ PrtsOk W ps ∧ ps.length ≤ c ∧ c ≤ 9223372036854775807 ∧ (A = none → c = 0) ∧ (∀ p ∈ ps, p.nd.kids.length ≤ 140737488355328) := by
  obtain ⟨A0, len0, cap0, rfl⟩ := okWide_slice Tryz.underlying22 hv
  obtain ⟨fuel, hf⟩ := h
  rcases open_slice Tryz.underlying22 (show DataW.trod enc Tryz.prog W 0 (fun _ => true) true fuel 22 [.slice A0 len0 cap0] = _ by simpa [Value.cells] using hf) with ⟨hcs, _⟩ | ⟨a, len, cap, m, n, D, Pl, hcs, _, hl, hm, hmm, hxd, hcell⟩
  · injection hcs with hcs
    exact ⟨none, 0, [], hcs, Prts.nil, (fun s hs => by simp at hs), by simp, by omega, fun _ => rfl, fun s hs => by simp at hs⟩
  · injection hcs with hcs
    have hmm : m = cap := hmm
    obtain ⟨ss, hlen, hss⟩ := ex_list len (fun i (s : Prt) => W.cell? ((a.add (i * 8)).add 0) = some (.int .i64 s.nd.sym) ∧ W.cell? ((a.add (i * 8)).add 1) = some (.int .i64 s.nd.kind) ∧
        W.cell? ((a.add (i * 8)).add 2) = some (.int .i64 s.nd.lo) ∧ W.cell? ((a.add (i * 8)).add 3) = some (.int .i64 s.nd.inn) ∧ W.cell? ((a.add (i * 8)).add 4) = some (.int .i64 s.nd.hi) ∧
        W.cell? ((a.add (i * 8)).add 5) = some (.int .i64 s.nd.look) ∧ W.cell? ((a.add (i * 8)).add 6) = some (.slice s.kA s.nd.kids.length s.kc) ∧ W.cell? ((a.add (i * 8)).add 7) = some (.int .u64 s.nd.met) ∧ PrtOk W s ∧ s.nd.kids.length ≤ 140737488355328) (by
      intro i hi
      obtain ⟨cs', hc', ht'⟩ := hcell i (by omega)
      have hf := struct_cells2 Tryz.underlying34 (by kernel_rfl) cellsPart hc' ht'
      obtain ⟨n0, v0, y0, c0, t0, m0⟩ := hf 0 _ rfl
      obtain ⟨n1, v1, y1, c1, t1, m1⟩ := hf 1 _ rfl
      obtain ⟨n2, v2, y2, c2, t2, m2⟩ := hf 2 _ rfl
      obtain ⟨n3, v3, y3, c3, t3, m3⟩ := hf 3 _ rfl
      obtain ⟨n4, v4, y4, c4, t4, m4⟩ := hf 4 _ rfl
      obtain ⟨n5, v5, y5, c5, t5, m5⟩ := hf 5 _ rfl
      obtain ⟨n6, v6, y6, c6, t6, m6⟩ := hf 6 _ rfl
      obtain ⟨n7, v7, y7, c7, t7, m7⟩ := hf 7 _ rfl
      rw [cellsPart] at c0 c1 c2 c3 c4 c5 c6 c7
      obtain ⟨x0, e0, _, w0⟩ := DataW.trod_int Tryz.underlying3 t0
      obtain ⟨x1, e1, _, w1⟩ := DataW.trod_int Tryz.underlying3 t1
      obtain ⟨x2, e2, _, w2⟩ := DataW.trod_int Tryz.underlying3 t2
      obtain ⟨x3, e3, _, w3⟩ := DataW.trod_int Tryz.underlying3 t3
      obtain ⟨x4, e4, _, w4⟩ := DataW.trod_int Tryz.underlying3 t4
      obtain ⟨x5, e5, _, w5⟩ := DataW.trod_int Tryz.underlying3 t5
      obtain ⟨A, c, xs, rfl, hI, hx1, hx2, hx3, hx4, hx5⟩ := ints_cellS t6 (fun k hk => hw k (by rw [show d = _ from congrArg Prod.fst hxd]; simp only [DataW.weights, Tryz.underlying22]; exact List.mem_cons_of_mem _ (List.mem_append_left _ (weights_elem (List.mem_map.2 ⟨i, List.mem_range.2 hi, rfl⟩) k (m6 k hk)))))
      obtain ⟨x7, e7, _, w7⟩ := DataW.trod_int Tryz.underlying32 t7
      simp at e0 e1 e2 e3 e4 e5 e7
      subst e0 e1 e2 e3 e4 e5 e7
      exact ⟨⟨⟨x0, x1, x2, x3, x4, x5, xs, x7⟩, A, c⟩, c0, c1, c2, c3, c4, c5, c6, c7, ⟨hI, hx1, hx2, hx4, i64_bd w0, i64_bd w1, i64_bd w2, i64_bd w3, i64_bd w4, i64_bd w5, u64_bd w7, hx3⟩, hx5⟩)
    refine ⟨some a, cap, ss, by rw [hcs, hlen], ?_, ?_, by omega, by unfold maxLen at hm; omega, (fun h => by cases h), ?_⟩
    · intro h0
      obtain ⟨s, hs⟩ : ∃ s, ss[0]? = some s := ⟨_, List.getElem?_eq_getElem h0⟩
      have h1 := (hss 0 s hs).1
      obtain ⟨b, off, spot⟩ := a
      have hspot : spot = none := by simpa [Addr.add] using World.cell?_spot h1
      subst hspot
      refine ⟨b, off, rfl, ?_, ?_⟩
      · simp only [add_plain'] at h1
        exact World.block_lt_of_cell? _ _ h1
      · intro k s hk
        obtain ⟨g0, g1, g2, g3, g4, g5, g6, g7, _⟩ := hss k s hk
        simp only [add_plain'] at g0 g1 g2 g3 g4 g5 g6 g7
        exact ⟨g0, g1, g2, g3, g4, g5, g6, g7⟩
    · intro s hs
      obtain ⟨i, hi, rfl⟩ := List.getElem_of_mem hs
      exact (hss i _ (List.getElem?_eq_getElem hi)).2.2.2.2.2.2.2.2.1
    · intro s hs
      obtain ⟨i, hi, rfl⟩ := List.getElem_of_mem hs
      exact (hss i _ (List.getElem?_eq_getElem hi)).2.2.2.2.2.2.2.2.2
end
end Go.Proofs.YthpmncdfaggkiaaGreat
namespace Go.Proofs.YthpmncdfaggkiaaGreat
open Go.RowKit
attribute [local go_sem] more_drew more_drewN more_size more_cell more_frozen more_setCell drew_more drewN_more lt_add_r lt_add_r2 lt_add_r3 lt_add_r4 lt_add_r5 lt_add_r6 lt_add_r7 lt_add_r8 lt_add_r9 lt_add_r10 lt_self_r lt_self_r2
theorem light25_any (A : Option Addr) (c : Nat) (ps : List Prt) (w : World) (h : Prts w A ps) (hc : ps.length ≤ 9223372036854775807) (hk : KidsLt ps) : Calls Tryz.prog 12 #[.slice A ps.length c] w (LightRet 100 ps w) := by
  have HC := zh (lightParts_any 100 A c ps w (by omega) h hc hk)
  clear h hk
  go_enter Tryz.func12, Tryz.ntmps12
  go_wp2_with fail
  refine HC.out.mono ?_
  rintro e w1 ⟨b, rfl, hb, hx1⟩
  have HX1 := zh hx1
  have HB := zh hb
  clear hx1 hb
  go_wp2_with fail
  go_ret
  exact ⟨b, rfl, HB.out, HX1.out⟩
end Go.Proofs.YthpmncdfaggkiaaGreat
namespace Go.Proofs.YthpmncdfaggkiaaGreat
open Go.ChangeShapes Go.WideShapes Go.ChangeAt Go.RowKit Go.Joins Go.Deep
structure DtB (d : Dty) : Prop where
  slot : I64 d.slot
  lo : I64 d.lo
  hi : I64 d.hi
  age : I64 d.age
  level : I64 d.level
theorem cellsDirty : Tryz.prog.cellsOf 26 = 5 := by kernel_rfl
theorem cellsSpan : Tryz.prog.cellsOf 24 = 2 := by kernel_rfl
section
variable {H : Type} {enc : TypeId × Value → H} {W : World} {b0 : Nat} {v : Value} {d : DataW H} {p : List MemPlace}
theorem list5 {α : Type} {l : List α} (h : l.length = 5) : ∃ a b c d e, l = [a, b, c, d, e] := by
  match l, h with
  | [a, b, c, d, e], _ => exact ⟨a, b, c, d, e, rfl⟩
theorem list4 {α : Type} {l : List α} (h : l.length = 4) : ∃ a b c d, l = [a, b, c, d] := by
  match l, h with
  | [a, b, c, d], _ => exact ⟨a, b, c, d, rfl⟩
theorem list2 {α : Type} {l : List α} (h : l.length = 2) : ∃ a b, l = [a, b] := by
  match l, h with
  | [a, b], _ => exact ⟨a, b, rfl⟩
set_option maxRecDepth 100000 in
theorem dirty_cells {n : Nat} {cs : List Value} {x : DataW H × List MemPlace} (hl : cs.length = 5) (ht : DataW.trod enc Tryz.prog W 0 (fun _ => true) true n 26 cs = some x) :
    ∃ d : Dty, cs = dyCells d ∧ DtB d := by
  obtain ⟨v0, v1, v2, v3, v4, rfl⟩ := list5 hl
  obtain ⟨ys, m, _, _, _, hyl, hf⟩ := DataW.trod_struct Tryz.underlying26 ht
  obtain ⟨y0, y1, y2, y3, rfl⟩ := list4 (show ys.length = 4 from hyl)
  have t0 := hf 0 _ rfl
  have t1 := hf 1 _ rfl
  have t2 := hf 2 _ rfl
  have t3 := hf 3 _ rfl
  clear hf
  simp only [List.getElem_toArray, List.getElem_cons_zero, List.getElem_cons_succ] at t0 t1 t2 t3
  rw [cellsInt] at t0 t2 t3
  rw [cellsSpan] at t1
  simp only [List.drop_zero, List.drop_succ_cons, List.take_succ_cons, List.take_zero, List.getElem?_cons_zero, List.getElem?_cons_succ] at t0 t1 t2 t3
  obtain ⟨x0, e0, _, w0⟩ := DataW.trod_int Tryz.underlying3 t0
  obtain ⟨x3, e3, _, w3⟩ := DataW.trod_int Tryz.underlying3 t2
  obtain ⟨x4, e4, _, w4⟩ := DataW.trod_int Tryz.underlying3 t3
  obtain ⟨zs, m', _, _, _, hzl, hg⟩ := DataW.trod_struct Tryz.underlying24 t1
  obtain ⟨z0, z1, rfl⟩ := list2 (show zs.length = 2 from hzl)
  have s0 := hg 0 _ rfl
  have s1 := hg 1 _ rfl
  clear hg
  simp only [List.getElem_toArray, List.getElem_cons_zero, List.getElem_cons_succ] at s0 s1
  rw [cellsInt] at s0 s1
  simp only [List.drop_zero, List.drop_succ_cons, List.take_succ_cons, List.take_zero, List.getElem?_cons_zero, List.getElem?_cons_succ] at s0 s1
  obtain ⟨x1, e1, _, w1⟩ := DataW.trod_int Tryz.underlying3 s0
  obtain ⟨x2, e2, _, w2⟩ := DataW.trod_int Tryz.underlying3 s1
  simp at e0 e1 e2 e3 e4
  subst e0 e1 e2 e3 e4
  exact ⟨⟨x0, x1, x2, x3, x4⟩, rfl, i64_bd w0, i64_bd w1, i64_bd w2, i64_bd w3, i64_bd w4⟩
end
end Go.Proofs.YthpmncdfaggkiaaGreat
namespace Go.Proofs.YthpmncdfaggkiaaGreat
open Go.ChangeShapes Go.WideShapes Go.ChangeAt Go.RowKit Go.Joins
section
variable {H : Type} {enc : TypeId × Value → H} {W : World} {b0 : Nat} {v : Value} {d : DataW H} {p : List MemPlace}
set_option maxRecDepth 100000 in
theorem open_dirty (hv : Value.okWide Tryz.prog W .any b0 26 v) (h : DataW.Trod enc Tryz.prog W 0 (fun _ => true) true 26 v d p) :
    ∃ d : Dty, v = dyV d ∧ DtB d := by
  obtain ⟨cs, rfl, hsz⟩ := okWide_struct Tryz.underlying26 hv
  obtain ⟨fuel, hf⟩ := h
  have hl : cs.toList.length = 5 := by rw [Array.length_toList, hsz, cellsDirty]
  obtain ⟨d', hc, hb⟩ := dirty_cells hl (show DataW.trod enc Tryz.prog W 0 (fun _ => true) true fuel 26 cs.toList = _ by simpa [Value.cells] using hf)
  refine ⟨d', ?_, hb⟩
  have : cs = (dyCells d').toArray := by rw [← hc, Array.toArray_toList]
  rw [this]
  rfl
end
end Go.Proofs.YthpmncdfaggkiaaGreat
namespace Go.Proofs.YthpmncdfaggkiaaGreat
open Go.RowKit
attribute [local go_sem] more_drew more_drewN more_size more_cell more_frozen more_setCell drew_more drewN_more lt_add_r lt_add_r2 lt_add_r3 lt_add_r4 lt_add_r5 lt_add_r6 lt_add_r7 lt_add_r8 lt_add_r9 lt_add_r10 lt_self_r lt_self_r2
theorem BaseR.level {l : List Nd} {d : Dty} {i r : Nat} (h : BaseR l d i r) (m : Int) : BaseR l { d with level := m } i r := by
  induction h with
  | stop i p hp hn => exact .stop i p hp hn
  | go i p j k r hp hj hb hh _ ih => exact .go i p j k r hp hj hb hh ih
theorem target_all {A : Option Addr} {c : Nat} {ps : List Prt} {w : World} (d : Dty) (up r : Int) (h : PS w A c ps) (hr : TargetOk (nds ps) d up r) (ht : I64 d.level) : Calls Tryz.prog 17 #[.slice A ps.length c, dyV d, .int .i64 up] w fun e w' => e = .returned (.int .i64 r) ∧ Ext w w' := by
  by_cases hm : MayOk (nds ps) ∧ d.level < up
  · exact target_yes d up r h hm.1 hm.2 hr ht
  · rw [hr.2 hm]
    exact target_no d up h hm
theorem dy_set {V : World} {b : Nat} {slot lo hi age level : Int} (h : V.heap[b]? = some (.cells #[.int .i64 slot, .int .i64 lo, .int .i64 hi, .int .i64 age, .int .i64 level] 26)) (x : Int) : (V.setCell ⟨b, 4, none⟩ (.int .i64 x)).heap[b]? = some (.cells #[.int .i64 slot, .int .i64 lo, .int .i64 hi, .int .i64 age, .int .i64 x] 26) := by
  simp [World.setCell, Array.getElem?_modify, h]
theorem dy_frozen {V : World} {b : Nat} {cs : Array Value} {T : TypeId} (h : V.heap[b]? = some (.cells cs T)) : V.frozen? ⟨b, 4, none⟩ = false := by simp [World.frozen?, h]
set_option maxRecDepth 100000 in
set_option maxHeartbeats 4000000 in
theorem targetUp_any (A : Option Addr) (c : Nat) (ps : List Prt) (d : Dty) (W : World) (hP : Prts W A ps) (hO : PrtsOk W ps) (hl : ps.length ≤ c) (hc : c ≤ 9223372036854775807) (hA : A = none → c = 0) (hk : KidsLt ps) (hd : DtB d) :
    Calls Tryz.prog 4 #[.slice A ps.length c, dyV d] W fun e w' => e = .returned (.bool true) ∧ Ext W w' := by
  have HP := zh hP
  have HO := zh hO
  have HK := zh hk
  have HA := zh hA
  have HD := zh hd
  obtain ⟨slot, lo, hi', age, level⟩ := d
  unfold dyV
  dsimp only
  clear hP hO hk hA hd
  go_enter Tryz.func4, Tryz.ntmps4
  go_upto_region 1 with fail
  obtain ⟨b, hb⟩ : ∃ b, W.heap.size = b := ⟨_, rfl⟩
  have HB0 : Hid (W.heap.size ≤ b) := zh (by omega)
  obtain ⟨W1, hW1⟩ : ∃ W1, W.alloc (.cells #[.int .i64 slot, .int .i64 lo, .int .i64 hi', .int .i64 age, .int .i64 level] 26) = W1 := ⟨_, rfl⟩
  have X1 : Hid (Ext W W1) := zh (by rw [← hW1]; exact (by repeat first | exact xr _ | refine xa ?_ _ | refine xm ?_ _ _ | refine xd ?_ | refine xn ?_ _ | refine xs ?_ (by simp <;> omega) _))
  have G1 : W1.heap[b]? = some (.cells #[.int .i64 slot, .int .i64 lo, .int .i64 hi', .int .i64 age, .int .i64 level] 26) := by rw [← hW1, ← hb]; exact heap_alloc_new _ _
  rw [hW1, hb]
  have HG := zh G1
  clear hW1 hb G1
  go_wp2_with fail
  refine (lives25_any W1).mono ?_
  rintro e w1 ⟨rfl, hx1⟩
  have HX1 := zh (X1.out.trans hx1)
  have HG1 := zh (ext_block HG.out hx1)
  clear hx1 HG
  go_wp2_with fail
  refine (light25_any A c ps w1 (HP.out.ext HX1.out) (by omega) HK.out).mono ?_
  rintro e w2 ⟨bl, rfl, hbl, hx2⟩
  have HX2 := zh (HX1.out.trans hx2)
  have HG2 := zh (ext_block HG1.out hx2)
  clear hx2 HG1
  cases bl with
  | false =>
    go_wp2_with fail
    go_ret
    exact ⟨rfl, HX2.out⟩
  | true =>
    have hL := hbl rfl
    have S : Hid (PS W A c ps) := ⟨HP.out, HO.out, hL.few (by omega), hl, hc, HA.out⟩
    have hlen := hL.len
    clear hbl hL HP HO HK
    by_cases T : Tree (nds ps)
    · have hp0 := T.pos
      rw [nds_length] at hp0
      obtain ⟨p0, hpp0⟩ : ∃ p, ps[0]? = some p := ⟨_, List.getElem?_eq_getElem hp0⟩
      have HT := zh T
      have HPP0 := zh hpp0
      clear T hpp0
      by_cases hk0 : p0.nd.kind = 1
      · have HMY : Hid (MayOk (nds ps)) := zh ⟨HT.out, _, nds_get HPP0.out, hk0⟩
        go_wp2_with fail
        refine (rcheck_ok (S.out.ext HX2.out) HT.out).mono ?_
        rintro e w3 ⟨rfl, hx3⟩
        have HX3 := zh (HX2.out.trans hx3)
        have HG3 := zh (ext_block HG2.out hx3)
        obtain ⟨bA, off, hA', hbA, hcell⟩ := (S.out.ext HX3.out).parts (by omega)
        subst hA'
        have d1 := (hcell 0 p0 HPP0.out).2.1
        simp only [Nat.zero_mul, Nat.add_zero] at d1
        rw [hk0] at d1
        clear hcell hx3 hk0
        obtain ⟨rb, hrb⟩ := BaseR.ex HMY.out.1 ⟨slot, lo, hi', age, 0⟩ (nds ps).length 0 (by omega) HMY.out.pos
        have HRB := zh hrb
        have hrl := hrb.lt
        have HRL := zh hrl
        rw [nds_length] at hrl
        clear hrb
        go_wp2_with fail
        refine (rParents_yes (S.out.ext HX3.out) HT.out).mono ?_
        rintro e w4 ⟨us, hus, B, cb, rfl, hown, hx4⟩
        have HX4 := zh (HX3.out.trans hx4)
        have HG4 := zh (ext_block HG3.out hx4)
        have HU := zh hus
        have HOW := zh hown
        have HLB : Hid (b < w3.heap.size) := zh (lt_of_heap HG3.out)
        have hcb1 := hown.ints.2.1
        have hcb2 : cb ≤ 9223372036854775807 := by have := hown.ints.2.2.1; unfold maxLen at this; omega
        have hul : us.length = ps.length := by rw [hus.1, nds_length]
        have HUL := zh hul
        have TK : Hid (∀ n : Nat, n < 200 → TargetOk (nds ps) ⟨slot, lo, hi', age, n⟩ 200 (climbF us n (rb : Int))) := zh fun n hn => ⟨fun _ _ => ⟨us, rb, HU.out, HRB.out.level n, rfl⟩, fun h => absurd ⟨HMY.out, by show (n : Int) < 200; omega⟩ h⟩
        clear hx4 hus hown hul hbA d1
        have kf := dy_frozen HG4.out
        obtain ⟨k0, k1, k2, k3, k4, kl⟩ := dy_cells (d := ⟨slot, lo, hi', age, level⟩) HG4.out
        dsimp only at k0 k1 k2 k3 k4
        have HG5 := zh (dy_set HG4.out 0)
        have HX5 := zh (HX4.out.setCell (p := ⟨b, 4, none⟩) HB0.out (.int .i64 0))
        have HT5 : Hid (Turn (fun k => k = b) w4 (w4.setCell ⟨b, 4, none⟩ (.int .i64 0))) := zh (Turn.setCell (S := fun k => k = b) w4 (p := ⟨b, 4, none⟩) rfl (.int .i64 0))
        go_upto_region 7 with fail
        obtain ⟨W5, hW5⟩ : ∃ V, w4.setCell ⟨b, 4, none⟩ (.int .i64 0) = V := ⟨_, rfl⟩
        rw [hW5] at HG5 HX5 HT5 ⊢
        clear hW5 kf k0 k1 k2 k3 k4 kl
        obtain ⟨k0, k1, k2, k3, k4, kl⟩ := dy_cells (d := ⟨slot, lo, hi', age, 0⟩) HG5.out
        dsimp only at k0 k1 k2 k3 k4
        go_wp2_with fail
        refine (target_all ⟨slot, lo, hi', age, 0⟩ 200 (rb : Int) (S.out.ext HX5.out) (TK.out 0 (by omega)) (by show I64 0; unfold I64; omega)).mono ?_
        rintro e w6 ⟨rfl, hx6⟩
        have HX6 := zh (HX5.out.trans hx6)
        have HG6 := zh (ext_block HG5.out hx6)
        have HT6 := zh (HT5.out.trans (Turn.of_ext hx6))
        clear k0 k1 k2 k3 k4 kl hx6 HT5
        obtain ⟨k0, k1, k2, k3, k4, kl⟩ := dy_cells (d := ⟨slot, lo, hi', age, 0⟩) HG6.out
        dsimp only at k0 k1 k2 k3 k4
        go_wp2_with fail
        refine (base_yes ⟨slot, lo, hi', age, 0⟩ rb (S.out.ext HX6.out) HMY.out HRB.out).mono ?_
        rintro e w7 ⟨rfl, hx7⟩
        have HX7 := zh (HX6.out.trans hx7)
        have HG7 := zh (ext_block HG6.out hx7)
        have HT7 := zh (HT6.out.trans (Turn.of_ext hx7))
        clear k0 k1 k2 k3 k4 kl hx7 HT6 HG6 HX6 HX5 HG5
        go_wp2_with fail
        go_loopw [6, 7] (fun v6 v7 wr => ∃ n m kn : Nat, m + 1 = n ∧ n ≤ 150 ∧ v7 = .int .i64 n ∧ v6 = .int .i64 kn ∧ kn < ps.length ∧ Hid (climbF us m (rb : Int) = (kn : Int)) ∧ Hid (∃ lv, wr.heap[b]? = some (.cells #[.int .i64 slot, .int .i64 lo, .int .i64 hi', .int .i64 age, .int .i64 lv] 26)) ∧ Hid (Ext W wr) ∧ Hid (Turn (fun k => k = b) w4 wr)) (fun _ v7 _ => 151 - (intOf v7).toNat)
        case atStart => exact ⟨1, 0, rb, rfl, by omega, rfl, rfl, hrl, zh rfl, zh ⟨0, HG7.out⟩, HX7, HT7⟩
        case round =>
          obtain ⟨n, m, kn, hmn, hn, rfl, rfl, hkn, he, hg, hx, ht⟩ := hrel
          obtain ⟨nx, hnx, hnl⟩ := climbF_nat HT.out HU.out n rb HRL.out
          by_cases h0 : n < 150
          · obtain ⟨lv, hlv⟩ := hg.out
            have kf := dy_frozen hlv
            obtain ⟨k0, k1, k2, k3, k4, kl⟩ := dy_cells (d := ⟨slot, lo, hi', age, lv⟩) hlv
            dsimp only at k0 k1 k2 k3 k4
            have HGS := zh (dy_set hlv (n : Int))
            have HXS := zh (hx.out.setCell (p := ⟨b, 4, none⟩) HB0.out (.int .i64 (n : Int)))
            have HTS : Hid (Turn (fun k => k = b) w4 (wr.setCell ⟨b, 4, none⟩ (.int .i64 (n : Int)))) := zh (ht.out.trans (Turn.setCell (S := fun k => k = b) wr (p := ⟨b, 4, none⟩) rfl _))
            have TO := TK.out n (by omega)
            rw [hnx] at TO
            have HTO := zh TO
            have hnl2 : nx < ps.length := by omega
            have HST : Hid (if kn = 0 then nx = 0 else us[kn]? = some (nx : Int)) := zh (by
              have h1 := climbF_succ us m (rb : Int)
              rw [hmn, he.out, hnx] at h1
              split
              · rename_i hk0
                subst hk0
                rw [climbF_low _ (by simp)] at h1
                omega
              · rename_i hk0
                obtain ⟨j, hj, _, _⟩ := HU.out.step HT.out (i := kn) (by omega) (by rw [nds_length]; exact hkn)
                rw [climbF, if_pos (by omega), Int.toNat_natCast, hj] at h1
                rw [hj, h1]
                rfl)
            have HNX := zh hnx
            have e0 : decide ((n : Int) < 150) = true := decide_eq_true (by omega)
            clear hlv hnx TO
            go_upto_region 14 with fail
            obtain ⟨W6, hW6⟩ : ∃ V, wr.setCell ⟨b, 4, none⟩ (.int .i64 (n : Int)) = V := ⟨_, rfl⟩
            rw [hW6] at HGS HXS HTS ⊢
            clear hW6 kf k0 k1 k2 k3 k4 kl ht hg
            obtain ⟨k0, k1, k2, k3, k4, kl⟩ := dy_cells (d := ⟨slot, lo, hi', age, (n : Int)⟩) HGS.out
            dsimp only at k0 k1 k2 k3 k4
            go_wp2_with fail
            refine (target_all ⟨slot, lo, hi', age, (n : Int)⟩ 200 (nx : Int) (S.out.ext HXS.out) HTO.out (by show I64 (n : Int); unfold I64; omega)).mono ?_
            rintro e w8 ⟨rfl, hx8⟩
            have HX8 := zh (HXS.out.trans hx8)
            have HG8 := zh (ext_block HGS.out hx8)
            have HT8 := zh (HTS.out.trans (Turn.of_ext hx8))
            clear k0 k1 k2 k3 k4 kl hx8 HGS HTS HXS hx
            by_cases hk0 : kn = 0
            · have h0x : nx = 0 := by have := HST.out; rwa [if_pos hk0] at this
              subst hk0 h0x
              simp only [Int.natCast_zero]
              clear e0
              go_wp2_with fail
              go_roundw
              case rel => exact ⟨n + 1, n, 0, rfl, by omega, by go_num, rfl, hnl2, HNX, zh ⟨_, HG8.out⟩, HX8, HT8⟩
              case measure => simp [intOf]; omega
            · have hus : us[kn]? = some (nx : Int) := by have := HST.out; rwa [if_neg hk0] at this
              have HI := zh (HOW.out.turn HT8.out (fun k hk he => by have := HLB.out; omega)).ints.1
              have hkl : kn < us.length := by have := HUL.out; omega
              obtain ⟨bk, offk, hBA, hbk, hck⟩ := HI.out (by omega)
              subst hBA
              have e1 := hck kn hkl
              rw [List.getD_eq_getElem?_getD, hus] at e1
              dsimp only [Option.getD_some] at e1
              have f0 : decide ((kn : Int) = 0) = false := decide_eq_false (by omega)
              have f1 : decide (0 < (kn : Int)) = true := decide_eq_true (by omega)
              clear hck hus e0
              go_wp2_with fail
              go_roundw
              case rel => exact ⟨n + 1, n, nx, rfl, by omega, by go_num, rfl, hnl2, HNX, zh ⟨_, HG8.out⟩, HX8, HT8⟩
              case measure => simp [intOf]; omega
          · have e0 : decide ((n : Int) < 150) = false := decide_eq_false (by omega)
            have hk0 : kn = 0 := by
              obtain ⟨r, hr, hrle⟩ := climbF_nat HT.out HU.out m rb HRL.out
              have := he.out
              omega
            subst hk0
            simp only [Int.natCast_zero]
            clear hg ht hnx
            go_wp2_with fail
            go_ret
            exact ⟨rfl, hx.out⟩
      · have hk1 : decide (p0.nd.kind = 1) = false := decide_eq_false hk0
        go_wp2_with fail
        refine (rcheck_ok (S.out.ext HX2.out) HT.out).mono ?_
        rintro e w3 ⟨rfl, hx3⟩
        have HX3 := zh (HX2.out.trans hx3)
        obtain ⟨bA, off, hA', hbA, hcell⟩ := (S.out.ext HX3.out).parts (by omega)
        subst hA'
        have d1 := (hcell 0 p0 HPP0.out).2.1
        simp only [Nat.zero_mul, Nat.add_zero] at d1
        clear hcell hx3
        go_wp2_with fail
        go_ret
        exact ⟨rfl, HX3.out⟩
    · have HT := zh T
      clear T
      go_wp2_with fail
      refine (rcheck_no (S.out.ext HX2.out) (fun h => HT.out h)).mono ?_
      rintro e w3 ⟨rfl, hx3⟩
      have HX3 := zh (HX2.out.trans hx3)
      clear hx3
      go_wp2_with fail
      go_ret
      exact ⟨rfl, HX3.out⟩
end Go.Proofs.YthpmncdfaggkiaaGreat
