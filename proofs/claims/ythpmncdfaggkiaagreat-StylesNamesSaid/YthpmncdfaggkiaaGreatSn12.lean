/- Sn: texts that the proof rests on, part 12. -/
import Derived.Test.YthpmncdfaggkiaaGreatSn1
import Derived.Test.YthpmncdfaggkiaaGreatSn11
import Derived.OwnWalkIn
import Derived.TacticsInMore
import Derived.LoopNIn
import Derived.LoopIn
import Derived.Deep.LoopGhost
import Derived.Laws.EntriesVeiled
import Derived.WalkSpells
import Derived.WalkLawsBesides
import Derived.BigRegion
import Derived.Deep.RegionWith
import Derived.Deep.QuietTactic
import Derived.Deep.DeepCutAuto
import Derived.Deep.RegionHeld3
import Derived.Deep.RegionLaw
import Derived.BigQuiet
import Derived.Lib.Hide
import Derived.Shelf.Abstract
import Derived.Deep.OwnRows
import Derived.Lib.AppendZeros
/- A5: 2 texts in one. -/
/- The contract of walk: its closures. -/
namespace Go.Proofs.YthpmncdfaggkiaaGreat
open Go.RowKit
attribute [local go_sem] more_drew more_drewN more_size more_cell more_frozen more_setCell drew_more drewN_more lt_add_r lt_add_r2 lt_add_r3 lt_add_r4 lt_add_r5 lt_add_r6 lt_add_r7 lt_add_r8 lt_add_r9 lt_add_r10 lt_self_r lt_self_r2
attribute [local go_sem] Oper.semAt_some
/-- what 'down' lies among -/
structure Dn where
  w0 : World
  A : Option Addr
  c : Nat
  ps : List Prt
  B : Nat
  bl : Nat
  bY : Nat
  bd : Nat
  nx : Nat
  lY : Nat
  S : Nat → Prop
  J : Nat → World → Prop
  Jx : Nat → World → Prop
def Dn.Fix (D : Dn) (W : World) : Prop :=
  Below D.w0.heap.size D.w0 W ∧ W.heap[D.bl]? = some (.cells #[.slice D.A D.ps.length D.c] 22) ∧ W.heap[D.bY]? = some (.cells #[.func (.yield D.lY) #[] #[]] 84) ∧
  W.heap[D.bd]? = some (.cells #[.func (.func 167) #[] #[pt D.nx, pt D.bl, pt D.bY, pt D.bd]] 84) ∧ D.B ≤ W.heap.size
structure Dn.Ok (D : Dn) : Prop where
  parts : Prts D.w0 D.A D.ps
  oks : PrtsOk D.w0 D.ps
  len : D.ps.length ≤ 1000000
  w0 : D.w0.heap.size ≤ D.B
  bl : D.w0.heap.size ≤ D.bl ∧ D.bl < D.B ∧ ¬ D.S D.bl
  bY : D.B ≤ D.bY
  bd : D.B ≤ D.bd
  nx : D.B ≤ D.nx ∧ D.nx ≠ D.bY ∧ D.nx ≠ D.bd
  free : ∀ b, b < D.w0.heap.size → ¬ D.S b
  hJ : ∀ j W W', Below D.B W W' → D.J j W → D.J j W'
  hJx : ∀ j W W', Below D.B W W' → D.Jx j W → D.Jx j W'
theorem Dn.Fix.turn {D : Dn} (O : D.Ok) {W W' : World} (h : D.Fix W) (t : Turn (fun b => (D.S b ∧ b < D.B) ∨ b = D.nx) W W') : D.Fix W' := by
  obtain ⟨h1, h2, h3, h4, h5⟩ := h
  have ob := O.bl
  have oy := O.bY
  have od := O.bd
  have on := O.nx
  have o0 := O.w0
  refine ⟨h1.trans (t.below h1.size fun k hk => ?_), (t.block _ (lt_of_heap h2) ?_).trans h2, (t.block _ (lt_of_heap h3) ?_).trans h3, (t.block _ (lt_of_heap h4) ?_).trans h4, Nat.le_trans h5 t.size⟩
  · rcases hk with hk | hk
    · exact Nat.le_of_not_lt fun hlt => O.free k hlt hk.1
    · omega
  · rintro (hk | hk)
    · exact ob.2.2 hk.1
    · omega
  · rintro (hk | hk) <;> omega
  · rintro (hk | hk) <;> omega
theorem Dn.Fix.ext {D : Dn} (O : D.Ok) {W W' : World} (h : D.Fix W) (e : Ext W W') : D.Fix W' := h.turn O (Turn.of_ext e)
/-- the counter -/
def Dn.Nx (D : Dn) (n : Nat) (W : World) : Prop := W.heap[D.nx]? = some (.cells #[.int .i64 (n : Int)] 3)
def Dn.Post (D : Dn) (ok : Bool) (m : Nat) (e : Ending) (W' : World) : Prop :=
  D.Fix W' ∧ ((e = .returned (.bool ok) ∧ D.Nx m W' ∧ D.J m W') ∨ (e = .returned (.bool false) ∧ ∃ j, j ≤ m ∧ D.Jx j W'))
def encI (x : Int) : Array Value := #[.int .i64 x]
theorem Trek.uncons {l : List Nd} {k : Int} {ks : List Int} {n m : Nat} {ok : Bool} (h : Trek l (k :: ks) n ok m) : (ok = false ∧ Trek l [k] n false m) ∨ ∃ m1, Trek l [k] n true m1 ∧ Trek l ks m1 ok m := by
  cases h with
  | bad _ _ _ hb => exact .inl ⟨rfl, .bad k [] n hb⟩
  | sub p _ _ _ hp h1 => exact .inl ⟨rfl, .sub p [] n m hp h1⟩
  | cons p _ _ m1 _ _ hp h1 h2 => exact .inr ⟨m1, .cons p [] n m1 true m1 hp h1 (.nil m1), h2⟩
set_option maxRecDepth 100000 in
set_option maxHeartbeats 3000000 in
theorem down_stop (D : Dn) (n : Nat) (at_ : Int) (ok : Bool) (m : Nat) (W : World) (_ : n ≤ 1000000) (_ : D.ps.length ≤ 1000000) (hs : at_ ≠ (n : Int) ∨ D.ps.length ≤ n) (ht : Trek (nds D.ps) [at_] n ok m) (hF : D.Fix W) (hN : D.Nx n W) (hJ : D.J n W) :
    Calls Tryz.prog 167 #[.int .i64 at_, pt D.nx, pt D.bl, pt D.bY, pt D.bd] W (D.Post ok m) := by
  obtain ⟨rfl, hmn⟩ := ht.stop (by rw [nds_length]; exact hs)
  obtain rfl : n = m := hmn.symm
  obtain ⟨f1, f2, f3, f4, f5⟩ := hF
  have c1 := cell_of_row _ _ 0 _ _ _ f2
  have c4 := cell_of_row _ _ 0 _ _ _ hN
  simp at c1 c4
  have l1 := lt_of_heap f2
  have l4 := lt_of_heap hN
  have HF : Hid (D.Fix W) := ⟨f1, f2, f3, f4, f5⟩
  have HN := Lib.hid hN
  have HJ := Lib.hid hJ
  clear hN hJ ht f1 f2 f3 f4
  by_cases ha : at_ = (n : Int)
  · subst ha
    have hle : D.ps.length ≤ n := by omega
    clear hs
    go_enter Tryz.func167, Tryz.ntmps167
    go_wp2_with fail
    go_ret
    exact ⟨HF.out, .inl ⟨rfl, HN.out, HJ.out⟩⟩
  · have ha1 : (at_ != (n : Int)) = true := by simpa using ha
    clear hs
    go_enter Tryz.func167, Tryz.ntmps167
    go_wp2_with fail
    go_ret
    exact ⟨HF.out, .inl ⟨rfl, HN.out, HJ.out⟩⟩
set_option maxRecDepth 100000 in
set_option maxHeartbeats 3000000 in
theorem down_any (D : Dn) (O : D.Ok) (M : Nat)
    (hY : ∀ (j : Nat) (W : World), j < M → D.B ≤ W.heap.size → D.J j W → YieldAt Fence.wide 0 Tryz.prog D.lY (encI (j : Int)) W fun e W' =>
      (e = .returned (.bool true) ∧ D.J (j + 1) W' ∧ Turn (fun b => D.S b ∧ b < D.B) W W') ∨ (e = .returned (.bool false) ∧ D.Jx (j + 1) W' ∧ Turn (fun b => D.S b ∧ b < D.B) W W')) :
    ∀ (fuel n : Nat) (at_ : Int) (ok : Bool) (m : Nat) (W : World), D.ps.length - n ≤ fuel → n ≤ 1000000 → m ≤ M → Trek (nds D.ps) [at_] n ok m → D.Fix W → D.Nx n W → D.J n W →
      Calls Tryz.prog 167 #[.int .i64 at_, pt D.nx, pt D.bl, pt D.bY, pt D.bd] W (D.Post ok m) := by
  intro fuel
  induction fuel with
  | zero =>
    intro n at_ ok m W hf hn hm ht hF hN hJ
    exact down_stop D n at_ ok m W hn O.len (.inr (by omega)) ht hF hN hJ
  | succ fuel ih =>
    intro n at_ ok m W hf hn hm ht hF hN hJ
    by_cases hs : at_ ≠ (n : Int) ∨ D.ps.length ≤ n
    · exact down_stop D n at_ ok m W hn O.len hs ht hF hN hJ
    obtain rfl : at_ = (n : Int) := Decidable.byContradiction fun hc => hs (.inl hc)
    have hlt : n < D.ps.length := Nat.lt_of_not_le fun hc => hs (.inr hc)
    obtain ⟨⟨qn, kA, kcap⟩, hq⟩ : ∃ q, D.ps[n]? = some q := ⟨_, List.getElem?_eq_getElem hlt⟩
    have hdec : decide (D.ps.length ≤ n) = false := decide_eq_false (by omega)
    have ht2 := Trek.ofOne (nds_get hq) ht
    have hnm := ht2.le.1
    have hF0 := hF
    obtain ⟨f1, f2, f3, f4, f5⟩ := hF
    have c1 := cell_of_row _ _ 0 _ _ _ f2
    have c2 := cell_of_row _ _ 0 _ _ _ f3
    have c4 := cell_of_row _ _ 0 _ _ _ hN
    simp at c1 c2 c4
    have l1 := lt_of_heap f2
    have l2 := lt_of_heap f3
    have l4 := lt_of_heap hN
    obtain ⟨fn, tmps, assign, body, hy, hRound⟩ := hY n W (by omega) f5 hJ
    unfold encI at hy
    have HF := Lib.hid hF0
    have HN := Lib.hid hN
    have HT := Lib.hid ht2
    have HO := Lib.hid O
    have IH := Lib.hid ih
    have HR := Lib.hid hRound
    have HQ := Lib.hid hq
    have hlen := O.len
    clear hN hJ ht ht2 O hY ih f1 f2 f3 f4 hs hRound hF0 hq
    go_enter Tryz.func167, Tryz.ntmps167
    go_upto_region 1 with fail
    refine (wpIn_wide (n := 1)).1 ?_
    gi_wp2
    refine HR.out.mono ?_
    rintro e w8 (⟨rfl, hJ8, t8⟩ | ⟨rfl, hJ8, t8⟩)
    · have t8' : Turn (fun b => (D.S b ∧ b < D.B) ∨ b = D.nx) W w8 := t8.mono fun k _ hk => .inl hk
      have h8 := HF.out.turn HO.out t8'
      have n8 : D.Nx n w8 := (t8.block _ l4 (fun hk => by have := HO.out.nx; omega)).trans HN.out
      have a4 := cell_of_row _ _ 0 _ _ _ n8
      have a1 := cell_of_row _ _ 0 _ _ _ h8.2.1
      simp at a1 a4
      have a5 : w8.frozen? ⟨D.nx, 0, none⟩ = false := by simp [World.frozen?, show w8.heap[D.nx]? = _ from n8]
      have a6 := lt_of_heap n8
      have a7 := lt_of_heap h8.2.1
      have hbn : D.bl ≠ D.nx := by have := HO.out.nx; have := HO.out.bl; omega
      obtain ⟨b, off, hA, hb, hcell⟩ := (HO.out.parts.below h8.1) (by omega)
      have hbw : b < D.w0.heap.size := by
        obtain ⟨b', off', hA', hb', _⟩ := HO.out.parts (by omega)
        rw [hA] at hA'
        injection hA' with hA'
        injection hA' with hA'
        omega
      have hbx : b ≠ D.nx := by have := HO.out.nx; have := HO.out.w0; omega
      obtain ⟨_, _, _, _, _, _, d6, _⟩ := hcell n _ HQ.out
      have hA1 := hA
      rw [hA] at a1
      obtain ⟨w9, hw9⟩ : ∃ w9, w8.setCell ⟨D.nx, 0, none⟩ (.int .i64 ((n : Int) + 1)) = w9 := ⟨_, rfl⟩
      have T9 : Turn (fun b => (D.S b ∧ b < D.B) ∨ b = D.nx) w8 w9 := hw9 ▸ Turn.setCell (S := fun b => (D.S b ∧ b < D.B) ∨ b = D.nx) w8 (p := ⟨D.nx, 0, none⟩) (.inr rfl) _
      have F9 := Lib.hid (h8.turn HO.out T9)
      have N9 : Hid (D.Nx (n + 1) w9) := by
        rw [← hw9]
        show (World.heap _)[D.nx]? = _
        simp [World.setCell, Array.getElem?_modify, show w8.heap[D.nx]? = _ from n8]
      have J9 : Hid (D.J (n + 1) w9) := HO.out.hJ _ _ _ (by
        rw [← hw9]
        exact (Turn.setCell (S := fun b => b = D.nx) w8 (p := ⟨D.nx, 0, none⟩) rfl _).below h8.2.2.2.2 (fun k hk => by have := HO.out.nx; omega)) hJ8
      clear t8 t8' hy HR hcell h8 n8 hJ8 T9
      have KO := Lib.hid (HO.out.oks.get HQ.out)
      have kc1 : qn.kids.length ≤ kcap := KO.out.cap
      have kc2 : kcap ≤ 9223372036854775807 := KO.out.top
      have HW9 := Lib.hid hw9
      clear hw9
      gi_wp2
      go_wp2_with fail
      rw [HW9.out]
      clear HW9 a4 a5 a6 a7 c1 c2 c4 l1 l2 l4 f5 hA hA1 d6
      go_loopg [32] qn.kids.length (fun g s32 wr => ∃ j n2 : Nat, j ≤ qn.kids.length ∧ Hid (g = qn.kids.length - j) ∧ s32 = .int .i64 j ∧ n < n2 ∧ n2 ≤ D.ps.length ∧ Hid (D.Fix wr ∧ D.Nx n2 wr ∧ D.J n2 wr ∧ Trek (nds D.ps) (qn.kids.drop j) n2 ok m))
      case atStart => exact ⟨0, n + 1, Nat.zero_le _, Lib.hid rfl, rfl, by omega, by omega, Lib.hid ⟨F9.out, N9.out, J9.out, HT.out⟩⟩
      case round =>
        obtain ⟨j, n2, hj, hg, rfl, hn2, hn3, hH⟩ := hrel
        by_cases hjl : j < qn.kids.length
        · obtain ⟨k1, k2, k3, k4⟩ := hH.out
          obtain ⟨b, off, hA, hb, hcell⟩ := ((KO.out.below k1.1)).kids (by show 0 < qn.kids.length; omega)
          change kA = _ at hA
          subst hA
          have d1 := hcell j hjl
          generalize hkd : qn.kids.getD j 0 = kid at *
          have hk4 : Trek (nds D.ps) (kid :: qn.kids.drop (j + 1)) n2 ok m := by
            rw [List.drop_eq_getElem_cons hjl] at k4
            have e : qn.kids[j] = kid := by rw [← hkd, List.getD_eq_getElem?_getD, List.getElem?_eq_getElem hjl]; rfl
            rw [e] at k4
            exact k4
          have g3 := cell_of_row _ _ 0 _ _ _ k1.2.2.2.1
          simp at g3
          have g4 := lt_of_heap k1.2.2.2.1
          obtain ⟨ok2, m2, hm2, hT2⟩ : ∃ ok2 m2, m2 ≤ M ∧ Trek (nds D.ps) [kid] n2 ok2 m2 ∧ m2 ≤ m ∧ ((ok2 = false ∧ ok = false ∧ m2 = m) ∨ (ok2 = true ∧ Trek (nds D.ps) (qn.kids.drop (j + 1)) m2 ok m)) := by
            rcases hk4.uncons with ⟨rfl, h⟩ | ⟨m1, h1, h2⟩
            · exact ⟨false, m, hm, h, Nat.le_refl _, .inl ⟨rfl, rfl, rfl⟩⟩
            · have := h2.le.1
              exact ⟨true, m1, by omega, h1, this, .inr ⟨rfl, h2⟩⟩
          have CALL := Lib.hid (IH.out n2 kid ok2 m2 wr (by omega) (by omega) hm2 hT2.1 k1 k2 k3)
          have HT2 := Lib.hid hT2
          have hn4 : n2 ≤ m2 := hT2.1.le.1
          have hn5 : m2 ≤ D.ps.length := by have := hT2.1.le.2 (by rw [nds_length]; omega); rwa [nds_length] at this
          clear hcell hkd k1 k2 k3 k4 hk4 hT2 hH
          go_wp2_with fail
          refine CALL.out.mono ?_
          rintro e w3 ⟨f3, (⟨rfl, n3, j3⟩ | ⟨rfl, jx, x1, x2⟩)⟩
          · obtain ⟨h1, h2, (⟨rfl, rfl, rfl⟩ | ⟨rfl, h3⟩)⟩ := HT2.out
            · go_wp2_with fail
              go_ret
              exact ⟨f3, .inl ⟨rfl, n3, j3⟩⟩
            · have HH : Hid (D.Fix w3 ∧ D.Nx m2 w3 ∧ D.J m2 w3 ∧ Trek (nds D.ps) (qn.kids.drop (j + 1)) m2 ok m) := ⟨f3, n3, j3, h3⟩
              clear f3 n3 j3 h3 h1 HT2 CALL g3
              go_wp2_with fail
              go_roundg (qn.kids.length - (j + 1))
              case measure => have := hg.out; omega
              case rel => exact ⟨j + 1, m2, by omega, Lib.hid rfl, by go_num, by omega, by omega, HH⟩
          · go_wp2_with fail
            go_ret
            exact ⟨f3, .inr ⟨rfl, jx, by have := HT2.out.2.1; omega, x2⟩⟩
        · obtain rfl : j = qn.kids.length := by omega
          obtain ⟨k1, k2, k3, k4⟩ := hH.out
          rw [List.drop_eq_nil_of_le (Nat.le_refl _)] at k4
          cases k4
          go_wp2_with fail
          go_ret
          exact ⟨k1, .inl ⟨rfl, k2, k3⟩⟩
    · have t8' : Turn (fun b => (D.S b ∧ b < D.B) ∨ b = D.nx) W w8 := t8.mono fun k _ hk => .inl hk
      have h8 := HF.out.turn HO.out t8'
      clear t8 t8' hy HR
      gi_wp2
      go_wp2_with fail
      go_ret
      exact ⟨h8, .inr ⟨rfl, n + 1, by omega, hJ8⟩⟩
end Go.Proofs.YthpmncdfaggkiaaGreat
/- The contract of walk: the iterator. -/
namespace Go.Proofs.YthpmncdfaggkiaaGreat
open Go.RowKit
attribute [local go_sem] more_drew more_drewN more_size more_cell more_frozen more_setCell drew_more drewN_more lt_add_r lt_add_r2 lt_add_r3 lt_add_r4 lt_add_r5 lt_add_r6 lt_add_r7 lt_add_r8 lt_add_r9 lt_add_r10 lt_self_r lt_self_r2
attribute [local go_sem] Oper.semAt_some
def places (M : Nat) : List Int := (List.range M).map fun (n : Nat) => (n : Int)
theorem places_get {M j : Nat} {x : Int} (h : (places M)[j]? = some x) : x = (j : Int) ∧ j < M := by
  unfold places at h
  rw [List.getElem?_map] at h
  cases hj : (List.range M)[j]? with
  | none => rw [hj] at h; cases h
  | some k =>
    rw [hj] at h
    injection h with h
    obtain ⟨h1, h2⟩ := List.getElem?_eq_some_iff.1 hj
    rw [List.getElem_range] at h2
    rw [List.length_range] at h1
    subst h2
    exact ⟨h.symm, h1⟩
theorem places_at {M j : Nat} (h : j < M) : (places M)[j]? = some (j : Int) := by
  unfold places
  rw [List.getElem?_map, List.getElem?_range h]
  rfl
theorem places_length (M : Nat) : (places M).length = M := by
  unfold places
  rw [List.length_map, List.length_range]
theorem walk_make (A : Option Addr) (n c : Nat) (w : World) :
    Calls Tryz.prog 120 #[.slice A n c, .int .i64 0] w fun e w' => e = .returned (.func (.func 166) #[] #[pt (w.heap.size + 1), pt w.heap.size]) ∧
      w' = (w.alloc (.cells #[.slice A n c] 22)).alloc (.cells #[.int .i64 0] 3) := by
  go_enter Tryz.func120, Tryz.ntmps120
  go_wp2_with fail
  go_ret
  exact ⟨rfl, rfl⟩
set_option maxRecDepth 100000 in
set_option maxHeartbeats 3000000 in
theorem walk_iter (A : Option Addr) (c : Nat) (ps : List Prt) (w0 w1 : World) (lb ib : Nat) (S : Nat → Prop) (ok : Bool) (M : Nat) (hP : Prts w0 A ps) (hO : PrtsOk w0 ps) (hlen : ps.length ≤ 1000000)
    (h0 : Below w0.heap.size w0 w1) (hlb : w1.heap[lb]? = some (.cells #[.slice A ps.length c] 22)) (hl0 : w0.heap.size ≤ lb) (hlS : ¬ S lb) (hib : w1.heap[ib]? = some (.cells #[.int .i64 0] 3))
    (hfree : ∀ b, b < w0.heap.size → ¬ S b) (ht : Trek (nds ps) [0] 0 ok M) : IterB Tryz.prog 166 #[pt ib, pt lb] encI (places M) S w1 := by
  intro l J Jx hJ hJx hY hJ0
  obtain ⟨D, hD⟩ : ∃ D : Dn, D = { w0, A, c, ps, B := w1.heap.size, bl := lb, bY := w1.heap.size, bd := w1.heap.size + 1 + 1, nx := w1.heap.size + 1, lY := l, S, J, Jx } := ⟨_, rfl⟩
  have hlbl := lt_of_heap hlb
  have hibl := lt_of_heap hib
  have c1 := cell_of_row _ _ 0 _ _ _ hib
  simp at c1
  have O : Hid D.Ok := by
    subst hD
    exact ⟨hP, hO, hlen, h0.size, ⟨hl0, hlbl, hlS⟩, Nat.le_refl _, by show w1.heap.size ≤ w1.heap.size + 1 + 1; omega, by show w1.heap.size ≤ w1.heap.size + 1 ∧ w1.heap.size + 1 ≠ w1.heap.size ∧ w1.heap.size + 1 ≠ w1.heap.size + 1 + 1; omega, hfree, hJ, hJx⟩
  have HY : Hid (∀ (j : Nat) (W : World), j < M → D.B ≤ W.heap.size → D.J j W → YieldAt Fence.wide 0 Tryz.prog D.lY (encI (j : Int)) W fun e W' =>
      (e = .returned (.bool true) ∧ D.J (j + 1) W' ∧ Turn (fun b => D.S b ∧ b < D.B) W W') ∨ (e = .returned (.bool false) ∧ D.Jx (j + 1) W' ∧ Turn (fun b => D.S b ∧ b < D.B) W W')) := by
    subst hD
    exact fun j W hj hB hJj => hY j _ W (places_at hj) hB hJj
  have HD := Lib.hid hD
  have HJ0 := Lib.hid hJ0
  have H0 := Lib.hid h0
  have HT := Lib.hid ht
  have HLB := Lib.hid hlb
  have HJ := Lib.hid hJ
  clear hD hY hJ0 h0 hJ hJx ht hlb hfree hP hO
  simp only [List.append_toArray, List.cons_append, List.nil_append]
  go_enter Tryz.func166, Tryz.ntmps166
  go_wp2_with fail
  obtain rfl := HD.out
  obtain ⟨W4, hW4⟩ : ∃ W4, ((w1.alloc (.cells #[.func (.yield l) #[] #[]] 84)).alloc (.cells #[.int .i64 0] 3)).alloc (.cells #[.func (.func 167) #[] #[pt (w1.heap.size + 1), pt lb, pt w1.heap.size, pt (w1.heap.size + 1 + 1)]] 84) = W4 := ⟨_, rfl⟩
  have x4 : Ext w1 W4 := hW4 ▸ (by repeat (first | exact Ext.refl _ | refine Ext.alloc ?_ _ | refine Ext.more ?_ _ _ | refine Ext.drew ?_ | refine Ext.drewN ?_ _ | refine Ext.setCell ?_ (by simp <;> omega) _))
  have s4 : W4.heap.size = w1.heap.size + 3 := by rw [← hW4]; simp
  have g1 : W4.heap[w1.heap.size]? = some (.cells #[.func (.yield l) #[] #[]] 84) := by
    rw [← hW4]
    exact ext_block (heap_alloc_new w1 _) (by repeat (first | exact Ext.refl _ | refine Ext.alloc ?_ _ | refine Ext.more ?_ _ _ | refine Ext.drew ?_ | refine Ext.drewN ?_ _ | refine Ext.setCell ?_ (by simp <;> omega) _))
  have g2 : W4.heap[w1.heap.size + 1]? = some (.cells #[.int .i64 0] 3) := by
    rw [← hW4]
    have := heap_alloc_new (w1.alloc (.cells #[.func (.yield l) #[] #[]] 84)) (.cells #[.int .i64 0] 3)
    rw [World.size_alloc] at this
    exact ext_block this (by repeat (first | exact Ext.refl _ | refine Ext.alloc ?_ _ | refine Ext.more ?_ _ _ | refine Ext.drew ?_ | refine Ext.drewN ?_ _ | refine Ext.setCell ?_ (by simp <;> omega) _))
  have g3 : W4.heap[w1.heap.size + 1 + 1]? = some (.cells #[.func (.func 167) #[] #[pt (w1.heap.size + 1), pt lb, pt w1.heap.size, pt (w1.heap.size + 1 + 1)]] 84) := by
    rw [← hW4]
    have := heap_alloc_new ((w1.alloc (.cells #[.func (.yield l) #[] #[]] 84)).alloc (.cells #[.int .i64 0] 3)) (.cells #[.func (.func 167) #[] #[pt (w1.heap.size + 1), pt lb, pt w1.heap.size, pt (w1.heap.size + 1 + 1)]] 84)
    rw [World.size_alloc, World.size_alloc] at this
    exact this
  rw [hW4]
  refine (down_any _ O.out M HY.out ps.length 0 0 ok M W4 (by show ps.length - 0 ≤ _; omega) (by omega) (Nat.le_refl _) HT.out ⟨H0.out.trans (x4.below.mono H0.out.size), ext_block HLB.out x4, g1, g3, by show w1.heap.size ≤ _; omega⟩ g2 (HJ.out 0 _ _ x4.below HJ0.out)).mono ?_
  rintro e w5 ⟨f5, hp⟩
  have hsz : w1.heap.size ≤ w5.heap.size := f5.2.2.2.2
  rcases hp with ⟨rfl, _, j5⟩ | ⟨rfl, j, hj, j5⟩
  · go_wp2_with fail
    go_end0
    exact ⟨⟨_, rfl⟩, hsz, .inl (by rw [places_length]; exact j5)⟩
  · go_wp2_with fail
    go_end0
    exact ⟨⟨_, rfl⟩, hsz, .inr ⟨j, by rw [places_length]; exact hj, j5⟩⟩
end Go.Proofs.YthpmncdfaggkiaaGreat
/- The contracts of slices.IndexFunc, slices.ContainsFunc: parts, ints. -/
namespace Go.Proofs.YthpmncdfaggkiaaGreat
open Go.RowKit
attribute [local go_sem] more_drew more_drewN more_size more_cell more_frozen more_setCell drew_more drewN_more lt_add_r lt_add_r2 lt_add_r3 lt_add_r4 lt_add_r5 lt_add_r6 lt_add_r7 lt_add_r8 lt_add_r9 lt_add_r10 lt_self_r lt_self_r2
/-- the place of the first that is so, -1: none -/
def firstF {α : Type} (f : α → Bool) : Nat → List α → Int
  | _, [] => -1
  | k, p :: l => if f p then (k : Int) else firstF f (k + 1) l
theorem firstF_any {α : Type} (f : α → Bool) : ∀ (l : List α) (k : Nat), decide (0 ≤ firstF f k l) = l.any f
  | [], k => rfl
  | p :: l, k => by
    unfold firstF
    rw [List.any_cons]
    split
    · rename_i h; rw [h]; simp
    · rename_i h; rw [firstF_any f l (k + 1)]; simp [h]
theorem firstF_bd {α : Type} (f : α → Bool) : ∀ (l : List α) (k : Nat), -1 ≤ firstF f k l ∧ firstF f k l < (k : Int) + l.length + 1
  | [], k => by unfold firstF; simp only [List.length_nil]; omega
  | p :: l, k => by
    unfold firstF
    have := firstF_bd f l (k + 1)
    rw [List.length_cons]
    split <;> omega
set_option maxRecDepth 100000 in
set_option maxHeartbeats 1000000 in
theorem idxParts (F : Nat) (lb : Array Value) (f : Prt → Bool) (A : Option Addr) (c : Nat) (ps : List Prt) (w : World) (hP : Prts w A ps) (hl : ps.length ≤ 9223372036854775807) (eg : Enters Tryz.prog F)
    (hf : ∀ (wr : World) (p : Prt), Ext w wr → p ∈ ps → Calls Tryz.prog F (#[aggV p] ++ lb) wr fun e w' => e = .returned (.bool (f p)) ∧ Ext wr w') :
    Calls Tryz.prog 170 #[.slice A ps.length c, .func (.func F) #[] lb] w fun e w' => e = .returned (.int .i64 (firstF f 0 ps)) ∧ Ext w w' := by
  have HP := Lib.hid hP
  have HF := Lib.hid hf
  unfold Enters at eg
  clear hP hf
  go_enter Tryz.func170, Tryz.ntmps170
  go_wp2
  go_loopw [8] (fun i wr => ∃ j : Nat, j ≤ ps.length ∧ i = .int .i64 j ∧ Hid (firstF f 0 ps = firstF f j (ps.drop j)) ∧ Ext w wr) (fun i _ => ps.length - (intOf i).toNat)
  case atStart => exact ⟨0, Nat.zero_le _, rfl, Lib.hid rfl, (by repeat (first | exact Ext.refl _ | refine Ext.alloc ?_ _ | refine Ext.more ?_ _ _ | refine Ext.drew ?_ | refine Ext.drewN ?_ _ | refine Ext.setCell ?_ (by simp <;> omega) _))⟩
  case round =>
    obtain ⟨j, hj, rfl, he, hx⟩ := hrel
    by_cases hlt : j < ps.length
    · obtain ⟨p, hp⟩ : ∃ p, ps[j]? = some p := ⟨_, List.getElem?_eq_getElem hlt⟩
      obtain ⟨b, off, rfl, hb, hcell⟩ := (HP.out.ext hx) (by omega)
      obtain ⟨d0, d1, d2, d3, d4, d5, d6, d7⟩ := hcell j p hp
      have CF := Lib.hid (HF.out wr p hx (List.mem_of_getElem? hp))
      have HS : Hid (firstF f j (ps.drop j) = if f p then (j : Int) else firstF f (j + 1) (ps.drop (j + 1))) := by
        rw [List.drop_eq_getElem_cons hlt]
        rw [List.getElem?_eq_getElem hlt] at hp
        injection hp with hp
        rw [hp]
        exact Lib.hid rfl
      have HX := Lib.hid hx
      clear hcell hp hx
      go_wp2_with fail
      refine CF.out.mono ?_
      rintro e w2 ⟨rfl, hx2⟩
      have HX2 := Lib.hid (HX.out.trans hx2)
      clear hx2
      cases hfp : f p with
      | true =>
        rw [hfp] at HS
        have HS' := Lib.hid HS.out
        clear hfp HS
        go_wp2_with fail
        go_ret
        exact ⟨ret_int (by rw [he.out, HS'.out]; rfl), HX2.out⟩
      | false =>
        rw [hfp] at HS
        have HS' := Lib.hid HS.out
        clear hfp HS
        go_wp2_with fail
        go_roundw
        case rel => exact ⟨j + 1, by omega, by go_num, Lib.hid (by rw [he.out, HS'.out]; rfl), HX2.out⟩
        case measure => simp [intOf]; omega
    · obtain rfl : j = ps.length := by omega
      have HX := Lib.hid hx
      clear hx
      go_wp2_with fail
      go_ret
      exact ⟨ret_int (by rw [he.out, List.drop_eq_nil_of_le (Nat.le_refl _)]; rfl), HX.out⟩
theorem hasParts (F : Nat) (lb : Array Value) (f : Prt → Bool) (A : Option Addr) (c : Nat) (ps : List Prt) (w : World) (hP : Prts w A ps) (hl : ps.length ≤ 9223372036854775000) (eg : Enters Tryz.prog F)
    (hf : ∀ (wr : World) (p : Prt), Ext w wr → p ∈ ps → Calls Tryz.prog F (#[aggV p] ++ lb) wr fun e w' => e = .returned (.bool (f p)) ∧ Ext wr w') :
    Calls Tryz.prog 122 #[.slice A ps.length c, .func (.func F) #[] lb] w fun e w' => e = .returned (.bool (ps.any f)) ∧ Ext w w' := by
  have CF := Lib.hid (idxParts F lb f A c ps w hP (by omega) eg hf)
  have HB := firstF_bd f ps 0
  have HA := Lib.hid (firstF_any f ps 0)
  clear hP hf eg
  go_enter Tryz.func122, Tryz.ntmps122
  go_wp2_with fail
  refine CF.out.mono ?_
  rintro e w2 ⟨rfl, hx2⟩
  have HX2 := Lib.hid hx2
  clear hx2
  go_wp2_with fail
  go_ret
  exact ⟨ret_bool HA.out, HX2.out⟩
set_option maxRecDepth 100000 in
set_option maxHeartbeats 1000000 in
theorem idxInts (F : Nat) (lb : Array Value) (f : Int → Bool) (A : Option Addr) (c : Nat) (xs : List Int) (w : World) (hP : Ints w A xs) (hl : xs.length ≤ 9223372036854775807) (eg : Enters Tryz.prog F)
    (hf : ∀ (wr : World) (x : Int), Ext w wr → x ∈ xs → Calls Tryz.prog F (#[.int .i64 x] ++ lb) wr fun e w' => e = .returned (.bool (f x)) ∧ Ext wr w') :
    Calls Tryz.prog 165 #[.slice A xs.length c, .func (.func F) #[] lb] w fun e w' => e = .returned (.int .i64 (firstF f 0 xs)) ∧ Ext w w' := by
  have HP := Lib.hid hP
  have HF := Lib.hid hf
  unfold Enters at eg
  clear hP hf
  go_enter Tryz.func165, Tryz.ntmps165
  go_wp2
  go_loopw [8] (fun i wr => ∃ j : Nat, j ≤ xs.length ∧ i = .int .i64 j ∧ Hid (firstF f 0 xs = firstF f j (xs.drop j)) ∧ Ext w wr) (fun i _ => xs.length - (intOf i).toNat)
  case atStart => exact ⟨0, Nat.zero_le _, rfl, Lib.hid rfl, (by repeat (first | exact Ext.refl _ | refine Ext.alloc ?_ _ | refine Ext.more ?_ _ _ | refine Ext.drew ?_ | refine Ext.drewN ?_ _ | refine Ext.setCell ?_ (by simp <;> omega) _))⟩
  case round =>
    obtain ⟨j, hj, rfl, he, hx⟩ := hrel
    by_cases hlt : j < xs.length
    · obtain ⟨b, off, rfl, hb, hcell⟩ := (HP.out.ext hx) (by omega)
      have d0 := hcell j hlt
      obtain ⟨x, hxe⟩ : ∃ x, xs.getD j 0 = x := ⟨_, rfl⟩
      have hxm : xs[j] = x := by rw [← hxe, List.getD_eq_getElem?_getD, List.getElem?_eq_getElem hlt]; rfl
      rw [hxe] at d0
      have CF := Lib.hid (HF.out wr x hx (hxm ▸ List.getElem_mem hlt))
      have HS : Hid (firstF f j (xs.drop j) = if f x then (j : Int) else firstF f (j + 1) (xs.drop (j + 1))) := by
        rw [List.drop_eq_getElem_cons hlt, hxm]
        exact Lib.hid rfl
      have HX := Lib.hid hx
      clear hcell hx hxe hxm
      go_wp2_with fail
      refine CF.out.mono ?_
      rintro e w2 ⟨rfl, hx2⟩
      have HX2 := Lib.hid (HX.out.trans hx2)
      clear hx2
      cases hfp : f x with
      | true =>
        rw [hfp] at HS
        have HS' := Lib.hid HS.out
        clear hfp HS
        go_wp2_with fail
        go_ret
        exact ⟨ret_int (by rw [he.out, HS'.out]; rfl), HX2.out⟩
      | false =>
        rw [hfp] at HS
        have HS' := Lib.hid HS.out
        clear hfp HS
        go_wp2_with fail
        go_roundw
        case rel => exact ⟨j + 1, by omega, by go_num, Lib.hid (by rw [he.out, HS'.out]; rfl), HX2.out⟩
        case measure => simp [intOf]; omega
    · obtain rfl : j = xs.length := by omega
      have HX := Lib.hid hx
      clear hx
      go_wp2_with fail
      go_ret
      exact ⟨ret_int (by rw [he.out, List.drop_eq_nil_of_le (Nat.le_refl _)]; rfl), HX.out⟩
theorem hasInts (F : Nat) (lb : Array Value) (f : Int → Bool) (A : Option Addr) (c : Nat) (xs : List Int) (w : World) (hP : Ints w A xs) (hl : xs.length ≤ 9223372036854775000) (eg : Enters Tryz.prog F)
    (hf : ∀ (wr : World) (x : Int), Ext w wr → x ∈ xs → Calls Tryz.prog F (#[.int .i64 x] ++ lb) wr fun e w' => e = .returned (.bool (f x)) ∧ Ext wr w') :
    Calls Tryz.prog 116 #[.slice A xs.length c, .func (.func F) #[] lb] w fun e w' => e = .returned (.bool (xs.any f)) ∧ Ext w w' := by
  have CF := Lib.hid (idxInts F lb f A c xs w hP (by omega) eg hf)
  have HB := firstF_bd f xs 0
  have HA := Lib.hid (firstF_any f xs 0)
  clear hP hf eg
  go_enter Tryz.func116, Tryz.ntmps116
  go_wp2_with fail
  refine CF.out.mono ?_
  rintro e w2 ⟨rfl, hx2⟩
  have HX2 := Lib.hid hx2
  clear hx2
  go_wp2_with fail
  go_ret
  exact ⟨ret_bool HA.out, HX2.out⟩
end Go.Proofs.YthpmncdfaggkiaaGreat
/- The contract of tree.Check. -/
namespace Go.Proofs.YthpmncdfaggkiaaGreat
open Go.RowKit
attribute [local go_sem] more_drew more_drewN more_size more_cell more_frozen more_setCell drew_more drewN_more lt_add_r lt_add_r2 lt_add_r3 lt_add_r4 lt_add_r5 lt_add_r6 lt_add_r7 lt_add_r8 lt_add_r9 lt_add_r10 lt_self_r lt_self_r2
attribute [local go_sem] Oper.semAt_some
/-- few parts, few kids -/
structure Few (ps : List Prt) : Prop where
  len : ps.length ≤ 1000
  kids : ∀ j, kc (nds ps) 0 j ≤ 1000000
theorem checkF_few {ps : List Prt} (h : ps.length ≤ 1000) : (Tree (nds ps) → checkF (nds ps) = 0) ∧ (¬ Tree (nds ps) → checkF (nds ps) = 2) := by
  have hl := nds_length ps
  unfold checkF
  rw [if_neg (by omega)]
  exact ⟨fun h => if_pos h, fun h => if_neg h⟩
theorem Tree.ends {l : List Nd} (T : Tree l) {ok : Bool} {M : Nat} (ht : Trek l [0] 0 ok M) : ok = true ∧ M = l.length := T.trek.det ht
theorem trek_ok {l : List Nd} {ok : Bool} (ht : Trek l [0] 0 ok l.length) : kc l 0 l.length + 1 = l.length ↔ ok = true := by
  have := ht.count
  simp only [List.length_singleton] at this
  cases ok with
  | true => have := this.1 rfl; simp; omega
  | false => have := this.2 rfl; simp; omega
theorem putObj_other (W : World) {D k : Nat} (o : Obj) (h : D ≠ k) : (W.putObj D o).heap[k]? = W.heap[k]? := World.putObj_heap_other (by omega)
def KidsOk (ps : List Prt) : Prop := ∀ p ∈ ps, KidsIn ps.length p.nd.kids
theorem trek_kids {ps : List Prt} (ht : Trek (nds ps) [0] 0 true ps.length) : KidsOk ps := by
  intro p hp k hk
  obtain ⟨j, hj, rfl⟩ := List.getElem_of_mem hp
  obtain ⟨q, m, h1, h2, h3⟩ := ht.inside rfl j (Nat.zero_le _) (by omega)
  rw [nds_get (List.getElem?_eq_getElem hj)] at h1
  injection h1 with h1
  subst h1
  obtain ⟨i, e, _, h5⟩ := h2.kid rfl k hk
  exact ⟨i, e, by omega⟩
set_option maxRecDepth 100000 in
set_option maxHeartbeats 1000000 in
theorem check1_any (lb : Nat) (A : Option Addr) (c : Nat) (ps : List Prt) (p : Prt) (w : World) (hlb : w.heap[lb]? = some (.cells #[.slice A ps.length c] 22)) (hP : Prts w A ps) (hl : ps.length ≤ 9223372036854775807) (hp : PrtOk w p) (hk : KidsIn ps.length p.nd.kids) :
    Calls Tryz.prog 123 #[aggV p, pt lb] w fun e w' => e = .returned (.bool (!liesB (nds ps) p.nd.hi p.nd.lo p.nd.kids)) ∧ Ext w w' := by
  have CL := Lib.hid (fun w1 h1 h2 => lies_any A c ps p w1 h1 hl h2 hk)
  have HP := Lib.hid hP
  have HPO := Lib.hid hp
  have c1 := cell_of_row _ _ 0 _ _ _ hlb
  simp at c1
  have l1 := lt_of_heap hlb
  clear hP hp hk hlb
  go_enter Tryz.func123, Tryz.ntmps123
  go_wp2_with fail
  refine (CL.out _ (HP.out.ext (by repeat (first | exact Ext.refl _ | refine Ext.alloc ?_ _ | refine Ext.more ?_ _ _ | refine Ext.drew ?_ | refine Ext.drewN ?_ _ | refine Ext.setCell ?_ (by simp <;> omega) _))) (HPO.out.ext (by repeat (first | exact Ext.refl _ | refine Ext.alloc ?_ _ | refine Ext.more ?_ _ _ | refine Ext.drew ?_ | refine Ext.drewN ?_ _ | refine Ext.setCell ?_ (by simp <;> omega) _)))).mono ?_
  rintro e w2 ⟨rfl, hx2⟩
  have HX2 := Lib.hid hx2
  clear hx2
  go_wp2_with fail
  go_ret
  exact ⟨rfl, ((Ext.refl _).alloc _).trans HX2.out⟩
set_option maxRecDepth 100000 in
set_option maxHeartbeats 3000000 in
theorem check_any (A : Option Addr) (c : Nat) (ps : List Prt) (w : World) (hP : Prts w A ps) (hO : PrtsOk w ps) (hf : Few ps) :
    Calls Tryz.prog 72 #[.slice A ps.length c] w fun e w' => e = .returned (.int .i64 (checkF (nds ps))) ∧ Ext w w' := by
  obtain ⟨ok, M, ht⟩ := trek_all (nds ps) (nds ps).length [0] 0 (by omega)
  have hM : M ≤ ps.length := by have := ht.le.2 (Nat.zero_le _); rwa [nds_length] at this
  have hlen := hf.len
  have HFK := Lib.hid hf.kids
  have HP := Lib.hid hP
  have HO := Lib.hid hO
  have HT := Lib.hid ht
  have HC := Lib.hid (checkF_few hlen)
  clear hP hO ht hf
  have hd0 : decide ((524288 : Int) < (ps.length : Int)) = false := decide_eq_false (by omega)
  refine calls_of_marks Tryz.func72 rfl ?_
  simp only [Tryz.ntmps72, List.size_toArray, List.length_cons, List.length_nil, Nat.reduceAdd, Nat.reduceSub, Array.replicate_succ, Array.replicate_zero, List.push_toArray, List.append_toArray, List.nil_append, List.cons_append]
  go_wp2_with (go_at_call 120; refine (walk_make _ _ _ _).mono ?_; rintro e w2 ⟨rfl, rfl⟩)
  obtain ⟨b, hb⟩ : ∃ b, w.heap.size = b := ⟨_, rfl⟩
  obtain ⟨W5, hW5⟩ : ∃ W5, ((((w.alloc (Obj.cells #[Value.slice A ps.length c] 22)).alloc (Obj.cells #[Value.int IntKind.i64 0] 29)).alloc (Obj.cells #[Value.int IntKind.i64 0] 3)).alloc (Obj.cells #[Value.slice A ps.length c] 22)).alloc (Obj.cells #[Value.int IntKind.i64 0] 3) = W5 := ⟨_, rfl⟩
  have X5 : Ext w W5 := by rw [← hW5]; exact (by repeat (first | exact Ext.refl _ | refine Ext.alloc ?_ _ | refine Ext.more ?_ _ _ | refine Ext.drew ?_ | refine Ext.drewN ?_ _ | refine Ext.setCell ?_ (by simp <;> omega) _))
  have S5 : W5.heap.size = b + 5 := by rw [← hW5, ← hb]; simp
  have G0 : W5.heap[b]? = some (.cells #[.slice A ps.length c] 22) := by rw [← hW5, ← hb]; exact (by simp only [heap_alloc_get, World.size_alloc]; (repeat (split; (first | rfl | (exfalso; omega)))); (try (first | (exfalso; omega) | simp_all)))
  have G1 : W5.heap[b + 1]? = some (.cells #[.int .i64 0] 29) := by rw [← hW5, ← hb]; exact (by simp only [heap_alloc_get, World.size_alloc]; (repeat (split; (first | rfl | (exfalso; omega)))); (try (first | (exfalso; omega) | simp_all)))
  have G2 : W5.heap[b + 1 + 1]? = some (.cells #[.int .i64 0] 3) := by rw [← hW5, ← hb]; exact (by simp only [heap_alloc_get, World.size_alloc]; (repeat (split; (first | rfl | (exfalso; omega)))); (try (first | (exfalso; omega) | simp_all)))
  have G3 : W5.heap[b + 1 + 1 + 1]? = some (.cells #[.slice A ps.length c] 22) := by rw [← hW5, ← hb]; exact (by simp only [heap_alloc_get, World.size_alloc]; (repeat (split; (first | rfl | (exfalso; omega)))); (try (first | (exfalso; omega) | simp_all)))
  have G4 : W5.heap[b + 1 + 1 + 1 + 1]? = some (.cells #[.int .i64 0] 3) := by rw [← hW5, ← hb]; exact (by simp only [heap_alloc_get, World.size_alloc]; (repeat (split; (first | rfl | (exfalso; omega)))); (try (first | (exfalso; omega) | simp_all)))
  rw [hW5, hb]
  clear hW5
  refine wp_range (gf := 166) (lb := #[pt (b + 1 + 1 + 1 + 1), pt (b + 1 + 1 + 1)]) (encs := encI) (xs := places M) (S := fun k => k = b + 1 ∨ k = b + 1 + 1 ∨ b + 5 ≤ k) rfl (enters_of Tryz.func166 (by kernel_rfl) rfl) (fun _ => rfl) (fun k hk => by omega)
    (fun w1 hx _ => walk_iter A c ps w w1 _ _ _ ok M HP.out HO.out (by omega) (X5.trans hx).below (ext_block G3 hx) (by omega) (by omega) (ext_block G4 hx) (by omega) HT.out)
    (fun j W' => W'.heap[b]? = some (.cells #[.slice A ps.length c] 22) ∧ W'.heap[b + 1]? = some (.cells #[.int .i64 0] 29) ∧ W'.heap[b + 1 + 1]? = some (.cells #[.int .i64 (j : Int)] 3) ∧ Below w.heap.size w W' ∧
      ∀ i p, i < j → ps[i]? = some p → Bare p.nd ∧ (0 < i → p.nd.kind ≠ 1))
    (fun cd j W' => cd = .ret ∧ ¬ Tree (nds ps) ∧ W'.heap[b + 1]? = some (.cells #[.int .i64 2] 29) ∧ Below w.heap.size w W') ?_ ?_ ⟨G0, G1, G2, X5.below, fun i p hi => by omega⟩ ?_ ?_ ?_
  · rintro j U U' hbe hsz ⟨i1, i2, i3, i4, i5⟩
    rw [S5] at hbe hsz
    exact ⟨(hbe.block _ (by omega)).trans i1, (hbe.block _ (by omega)).trans i2, (hbe.block _ (by omega)).trans i3, i4.trans (hbe.mono (by omega)), i5⟩
  · rintro cd j U U' hbe hsz ⟨i1, i2, i3, i4⟩
    rw [S5] at hbe hsz
    exact ⟨i1, i2, (hbe.block _ (by omega)).trans i3, i4.trans (hbe.mono (by omega))⟩
  · rintro l j x W' hx _ hsz
    obtain ⟨rfl, hjM⟩ := places_get hx
    simp only [encI]
    gi_wp2
    refine ⟨Ext.refl _, ?_⟩
    rintro W2 t2 ⟨i1, i2, i3, i4, i5⟩ hsz2
    clear hx t2 hsz
    obtain ⟨p, hp⟩ : ∃ p, ps[j]? = some p := ⟨_, List.getElem?_eq_getElem (by omega)⟩
    have c1 := cell_of_row _ _ 0 _ _ _ i1
    have c2 := cell_of_row _ _ 0 _ _ _ i2
    have c3 := cell_of_row _ _ 0 _ _ _ i3
    simp at c1 c2 c3
    have l1 := lt_of_heap i1
    have l2 := lt_of_heap i2
    have l3 := lt_of_heap i3
    have r2 : W2.frozen? ⟨b + 1, 0, none⟩ = false := by simp [World.frozen?, i2]
    have r3 : W2.frozen? ⟨b + 1 + 1, 0, none⟩ = false := by simp [World.frozen?, i3]
    obtain ⟨bA, off, rfl, hbA, hcell⟩ := (HP.out.below i4) (by omega)
    obtain ⟨d0, d1, d2, d3, d4, d5, d6, d7⟩ := hcell j p hp
    have I1 := Lib.hid i1
    have I2 := Lib.hid i2
    have I3 := Lib.hid i3
    have I4 := Lib.hid i4
    have I5 := Lib.hid i5
    have HPJ := Lib.hid hp
    clear i1 i2 i3 i4 i5 hp hcell
    have fin2 : ∀ (os : List Obj) (k : Nat), ¬ Tree (nds ps) → Turn (fun b1 => ((b1 = b + 1 ∨ b1 = b + 1 + 1 ∨ b + 5 ≤ b1) ∧ b1 < W5.heap.size) ∨ W'.heap.size ≤ b1) W2 (more (W2.setCell ⟨b + 1, 0, none⟩ (.int .i64 2)) os k) ∧
        ¬ Tree (nds ps) ∧ (more (W2.setCell ⟨b + 1, 0, none⟩ (.int .i64 2)) os k).heap[b + 1]? = some (.cells #[.int .i64 2] 29) ∧ Below w.heap.size w (more (W2.setCell ⟨b + 1, 0, none⟩ (.int .i64 2)) os k) := fun os k hT => by
      have T := Turn.setCell (S := fun k => k = b + 1) W2 (p := ⟨b + 1, 0, none⟩) rfl (.int .i64 2)
      have E : Ext (W2.setCell ⟨b + 1, 0, none⟩ (.int .i64 2)) (more (W2.setCell ⟨b + 1, 0, none⟩ (.int .i64 2)) os k) := ⟨os, k, rfl⟩
      have T2 := T.trans (Turn.of_ext E)
      refine ⟨T2.mono fun k _ hk => .inl ⟨.inl hk, by omega⟩, hT, ext_block ?_ E, I4.out.trans (T2.below I4.out.size fun k hk => by omega)⟩
      simp [World.setCell, Array.getElem?_modify, I2.out]
    have fin1 : ∀ (os : List Obj) (k : Nat), Bare p.nd ∧ (0 < j → p.nd.kind ≠ 1) → Turn (fun b1 => ((b1 = b + 1 ∨ b1 = b + 1 + 1 ∨ b + 5 ≤ b1) ∧ b1 < W5.heap.size) ∨ W'.heap.size ≤ b1) W2 (more (W2.setCell ⟨b + 1 + 1, 0, none⟩ (.int .i64 ((j : Int) + 1))) os k) ∧
        (more (W2.setCell ⟨b + 1 + 1, 0, none⟩ (.int .i64 ((j : Int) + 1))) os k).heap[b]? = some (.cells #[.slice (some ⟨bA, off, none⟩) ps.length c] 22) ∧ (more (W2.setCell ⟨b + 1 + 1, 0, none⟩ (.int .i64 ((j : Int) + 1))) os k).heap[b + 1]? = some (.cells #[.int .i64 0] 29) ∧
        (more (W2.setCell ⟨b + 1 + 1, 0, none⟩ (.int .i64 ((j : Int) + 1))) os k).heap[b + 1 + 1]? = some (.cells #[.int .i64 ((j + 1 : Nat) : Int)] 3) ∧ Below w.heap.size w (more (W2.setCell ⟨b + 1 + 1, 0, none⟩ (.int .i64 ((j : Int) + 1))) os k) ∧
        ∀ i p, i < j + 1 → ps[i]? = some p → Bare p.nd ∧ (0 < i → p.nd.kind ≠ 1) := fun os k hT => by
      have T := Turn.setCell (S := fun k => k = b + 1 + 1) W2 (p := ⟨b + 1 + 1, 0, none⟩) rfl (.int .i64 ((j : Int) + 1))
      have E : Ext (W2.setCell ⟨b + 1 + 1, 0, none⟩ (.int .i64 ((j : Int) + 1))) (more (W2.setCell ⟨b + 1 + 1, 0, none⟩ (.int .i64 ((j : Int) + 1))) os k) := ⟨os, k, rfl⟩
      have T2 := T.trans (Turn.of_ext E)
      refine ⟨T2.mono fun k _ hk => .inl ⟨.inr (.inl hk), by omega⟩, (T2.block _ l1 (by omega)).trans I1.out, (T2.block _ l2 (by omega)).trans I2.out, ext_block ?_ E, I4.out.trans (T2.below I4.out.size fun k hk => by omega), fun i q hi hq => ?_⟩
      · simp [World.setCell, Array.getElem?_modify, I3.out]
      · rcases (show i < j ∨ i = j by omega) with h | rfl
        · exact I5.out i q h hq
        · rw [HPJ.out] at hq
          injection hq with hq
          subst hq
          exact hT
    have notT : ¬ (Bare p.nd ∧ (0 < j → p.nd.kind ≠ 1)) → ¬ Tree (nds ps) := fun hn T => hn (T.bare j _ (nds_get HPJ.out))
    have F1 := Lib.hid fin1
    have F2 := Lib.hid fin2
    have NT := Lib.hid notT
    clear fin1 fin2 notT
    by_cases hB : Bare p.nd
    · have hBd : decide (Bare p.nd) = true := decide_eq_true hB
      have HB := Lib.hid hB
      clear hB
      by_cases hj : 0 < j
      · have hj1 : decide (0 < j) = true := decide_eq_true hj
        have HJ := Lib.hid hj
        clear hj
        by_cases hk : p.nd.kind = 1
        · have hk1 : (p.nd.kind == 1) = true := by simpa using hk
          have HK := Lib.hid hk
          clear hk
          gi_wp2_with (first | (refine ⟨trivial, rfl, ?_⟩; refine (CallsIn.inRound l (callsIn_wide.2 (bare_any p _))).mono ?_; rintro e w3 ⟨rfl, os3, k3, rfl⟩))
          have h := F2.out os3 k3 (NT.out fun hh => hh.2 HJ.out HK.out)
          exact ⟨h.1, rfl, h.2⟩
        · have hk1 : (p.nd.kind == 1) = false := by simpa using hk
          have HK := Lib.hid hk
          clear hk
          gi_wp2_with (first | (refine ⟨trivial, rfl, ?_⟩; refine (CallsIn.inRound l (callsIn_wide.2 (bare_any p _))).mono ?_; rintro e w3 ⟨rfl, os3, k3, rfl⟩))
          exact F1.out _ _ ⟨HB.out, fun _ => HK.out⟩
      · have hj1 : decide (0 < j) = false := decide_eq_false hj
        have HJ := Lib.hid hj
        clear hj
        gi_wp2_with (first | (refine ⟨trivial, rfl, ?_⟩; refine (CallsIn.inRound l (callsIn_wide.2 (bare_any p _))).mono ?_; rintro e w3 ⟨rfl, os3, k3, rfl⟩))
        exact F1.out _ _ ⟨HB.out, fun h => absurd h HJ.out⟩
    · have hBd : decide (Bare p.nd) = false := decide_eq_false hB
      have HB := Lib.hid hB
      clear hB
      gi_wp2_with (first | (refine ⟨trivial, rfl, ?_⟩; refine (CallsIn.inRound l (callsIn_wide.2 (bare_any p _))).mono ?_; rintro e w3 ⟨rfl, os3, k3, rfl⟩))
      have h := F2.out os3 k3 (NT.out fun hh => HB.out hh.1)
      exact ⟨h.1, rfl, h.2⟩
  · rintro D W' ⟨i1, i2, i3, i4, i5⟩ hD hsz hk
    rw [places_length] at i3 i5
    have c1 := cell_of_row _ _ 0 _ _ _ i1
    have c2 := cell_of_row _ _ 0 _ _ _ i2
    have c3 := cell_of_row _ _ 0 _ _ _ i3
    simp at c1 c2 c3
    have l1 := lt_of_heap i1
    have l2 := lt_of_heap i2
    have l3 := lt_of_heap i3
    have lD := lt_of_heap hk
    have r2 : W'.frozen? ⟨b + 1, 0, none⟩ = false := by simp [World.frozen?, i2]
    have fin : ∀ (X : World) (v : Int), Ext W' X → Ext w ((X.setCell ⟨b + 1, 0, none⟩ (.int .i64 v)).putObj D (.deferred none)) ∧ ((X.setCell ⟨b + 1, 0, none⟩ (.int .i64 v)).putObj D (.deferred none)).cell? ⟨b + 1, 0, none⟩ = some (.int .i64 v) ∧
        (X.setCell ⟨b + 1, 0, none⟩ (.int .i64 v)).heap[D]? = some (.deferred (some [])) := fun X v hX => by
      have T := Turn.setCell (S := fun k => k = b + 1) X (p := ⟨b + 1, 0, none⟩) rfl (.int .i64 v)
      have hX2 := ext_block i2 hX
      have hXD := ext_block hk hX
      have h1 : (X.setCell ⟨b + 1, 0, none⟩ (.int .i64 v)).heap[b + 1]? = some (.cells #[.int .i64 v] 29) := by simp [World.setCell, Array.getElem?_modify, hX2]
      have i4X := i4.trans (hX.below.mono i4.size)
      have i4X2 := i4X.trans (T.below i4X.size fun k hk => by omega)
      refine ⟨Ext.of_below (i4X2.trans ((putObj_turn (S := fun b => b = D) _ _ rfl).below i4X2.size fun k hk => by omega)), ?_, (T.block _ (lt_of_heap hXD) (by omega)).trans hXD⟩
      have := cell_of_row _ _ 0 _ _ _ ((putObj_other (X.setCell ⟨b + 1, 0, none⟩ (.int .i64 v)) (.deferred none) (show D ≠ b + 1 by omega)).trans h1)
      simpa using this
    have FX := Lib.hid (fun (X : World) (hX : Ext W' X) => (⟨(hX.below.cell (p := ⟨b, 0, none⟩) l1).trans c1, (hX.below.cell (p := ⟨b + 1, 0, none⟩) l2).trans c2, (hX.below.frozen (p := ⟨b + 1, 0, none⟩) l2).trans r2, Nat.lt_of_lt_of_le l1 hX.size, Nat.lt_of_lt_of_le l2 hX.size⟩ :
      X.cell? ⟨b, 0, none⟩ = some (.slice A ps.length c) ∧ X.cell? ⟨b + 1, 0, none⟩ = some (.int .i64 0) ∧ X.frozen? ⟨b + 1, 0, none⟩ = false ∧ b < X.heap.size ∧ b + 1 < X.heap.size))
    have I1 := Lib.hid i1
    have I4 := Lib.hid i4
    have I5 := Lib.hid i5
    have FIN := Lib.hid fin
    have HK := Lib.hid hk
    clear i1 i2 i3 i4 i5 fin hk
    by_cases hML : M = ps.length
    · have hm1 : ((M : Int) != (ps.length : Int)) = false := by simp [hML]
      by_cases h0 : M = 0
      · have hm2 : ((M : Int) == 0) = true := by simp [h0]
        have HML := Lib.hid hML
        have H0 := Lib.hid h0
        clear hML h0
        go_wp2_with fail
        obtain ⟨f1, f2, f3⟩ := FIN.out W' 2 (Ext.refl _)
        refine marks_ret1 (D := D) (v := .int .i64 2) rfl f3 (by simp [results, Tryz.results72, go_sem, f2]) ⟨by rw [HC.out.2 (fun T => by have := T.pos; rw [nds_length] at this; have := HML.out; have := H0.out; omega)], f1⟩
      · have hm2 : ((M : Int) == 0) = false := by simp [h0]
        have HT2 : Hid (Trek (nds ps) [0] 0 ok (nds ps).length) := by rw [nds_length, ← hML]; exact HT.out
        clear hML h0
        go_wp2_with fail
        go_loopw [5, 44] (fun s i wr => ∃ j n : Nat, j ≤ ps.length ∧ i = .int .i64 j ∧ s = .int .i64 n ∧ Hid (n = kc (nds ps) 0 j) ∧ n ≤ 1000000 ∧ Ext W' wr) (fun _ i _ => ps.length - (intOf i).toNat)
        case atStart => exact ⟨0, 0, Nat.zero_le _, rfl, rfl, Lib.hid (kc_self _ _).symm, by omega, Ext.refl _⟩
        case round =>
          obtain ⟨j, n, hj, rfl, rfl, hn, hn2, hx⟩ := hrel
          by_cases hlt : j < ps.length
          · obtain ⟨p, hp⟩ : ∃ p, ps[j]? = some p := ⟨_, List.getElem?_eq_getElem hlt⟩
            obtain ⟨bA, off, rfl, hbA, hcell⟩ := (HP.out.below (I4.out.trans (hx.below.mono I4.out.size))) (by omega)
            obtain ⟨d0, d1, d2, d3, d4, d5, d6, d7⟩ := hcell j p hp
            have HN : Hid (n + p.nd.kids.length = kc (nds ps) 0 (j + 1)) := by rw [kc_add _ (Nat.zero_le j) (show j ≤ j + 1 by omega), kc_one (nds_get hp), ← hn.out]; exact Lib.hid rfl
            have hb1 : n + p.nd.kids.length ≤ 1000000 := by rw [HN.out]; exact HFK.out _
            have HX := Lib.hid hx
            clear hx hcell hp
            go_wp2_with fail
            go_roundw
            case rel => exact ⟨j + 1, n + p.nd.kids.length, by omega, by go_num, by go_num, HN, hb1, HX.out.alloc _⟩
            case measure => simp [intOf]; omega
          · obtain rfl : j = ps.length := by omega
            obtain ⟨g1, g2, g3, g4, g5⟩ := FX.out wr hx
            have HX := Lib.hid hx
            clear hx
            by_cases hke : n + 1 = ps.length
            · have hok : ok = true := (trek_ok HT2.out).1 (by rw [nds_length, ← hn.out]; exact hke)
              have ht3 : Trek (nds ps) [0] 0 true ps.length := by have := HT2.out; rw [hok, nds_length] at this; exact this
              have hke2 : ((n : Int) != (ps.length : Int) - 1) = false := by simp; omega
              have KO := Lib.hid (trek_kids ht3)
              have HT3 := Lib.hid ht3
              have HML2 : Hid (M = ps.length) := Lib.hid (by have := (HT2.out.det HT.out).2; rwa [nds_length] at this)
              have CA := Lib.hid (hasParts 123 #[pt b] (fun p => !liesB (nds ps) p.nd.hi p.nd.lo p.nd.kids) A c ps wr (HP.out.below (I4.out.trans (HX.out.below.mono I4.out.size))) (by omega)
                (enters_of Tryz.func123 (by kernel_rfl) rfl) (fun w1 p h1 h2 => check1_any b A c ps p w1 (ext_block (ext_block I1.out HX.out) h1) (HP.out.below (I4.out.trans ((HX.out.trans h1).below.mono I4.out.size))) (by omega)
                  ((HO.out p h2).below (I4.out.trans ((HX.out.trans h1).below.mono I4.out.size))) (KO.out p h2)))
              clear hke hok ht3
              go_wp2_with fail
              refine CA.out.mono ?_
              rintro e w2 ⟨rfl, hx2⟩
              obtain ⟨k1, k2, k3, k4, k5⟩ := FX.out w2 (HX.out.trans hx2)
              have HX2 := Lib.hid (HX.out.trans hx2)
              clear hx2
              cases hany : ps.any (fun p => !liesB (nds ps) p.nd.hi p.nd.lo p.nd.kids) with
              | true =>
                have hnT : ¬ Tree (nds ps) := fun T => by
                  obtain ⟨p, hp, hq⟩ := List.any_eq_true.1 hany
                  rw [T.lies p.nd (List.mem_map.2 ⟨p, hp, rfl⟩)] at hq
                  cases hq
                have HNT := Lib.hid hnT
                clear hany hnT
                go_wp2_with fail
                obtain ⟨f1, f2, f3⟩ := FIN.out w2 2 HX2.out
                refine marks_ret1 (D := D) (v := .int .i64 2) rfl f3 (by simp [results, Tryz.results72, go_sem, f2]) ⟨by rw [HC.out.2 HNT.out], f1⟩
              | false =>
                have hT : Tree (nds ps) := by
                  refine ⟨fun i q hq => ?_, by rw [nds_length]; exact HT3.out, fun q hq => ?_⟩
                  · obtain ⟨p, hp, rfl⟩ := nds_get' hq
                    exact I5.out i p (by have := lt_of_get hp; have := HML2.out; omega) hp
                  · obtain ⟨p, hp, rfl⟩ := List.mem_map.1 hq
                    have := List.any_eq_false.1 hany p hp
                    simpa using this
                have HNT := Lib.hid hT
                clear hany hT
                go_wp2_with fail
                obtain ⟨f1, f2, f3⟩ := FIN.out w2 0 HX2.out
                refine marks_ret1 (D := D) (v := .int .i64 0) rfl f3 (by simp [results, Tryz.results72, go_sem, f2]) ⟨by rw [HC.out.1 HNT.out], f1⟩
            · have hnT : ¬ Tree (nds ps) := fun T => hke (by
                have h1 := (T.ends HT.out).1
                have := (trek_ok HT2.out).2 h1
                rw [nds_length, ← hn.out] at this
                exact this)
              have HNT := Lib.hid hnT
              have hke2 : ((n : Int) != (ps.length : Int) - 1) = true := by simp; omega
              clear hke hnT
              go_wp2_with fail
              obtain ⟨f1, f2, f3⟩ := FIN.out wr 2 HX.out
              refine marks_ret1 (D := D) (v := .int .i64 2) rfl f3 (by simp [results, Tryz.results72, go_sem, f2]) ⟨by rw [HC.out.2 HNT.out], f1⟩
    · have hm1 : ((M : Int) != (ps.length : Int)) = true := by simp; omega
      have HML := Lib.hid hML
      clear hML
      go_wp2_with fail
      obtain ⟨f1, f2, f3⟩ := FIN.out W' 2 (Ext.refl _)
      refine marks_ret1 (D := D) (v := .int .i64 2) rfl f3 (by simp [results, Tryz.results72, go_sem, f2]) ⟨by rw [HC.out.2 (fun T => HML.out (by have := (T.ends HT.out).2; rwa [nds_length] at this))], f1⟩
  · rintro D cd j W' hj ⟨rfl, hT, i3, i4⟩ hD hsz hk
    have hq := (putObj_other W' (.deferred none) (show D ≠ b + 1 by omega)).trans i3
    have c1 := cell_of_row _ _ 0 _ _ _ hq
    simp at c1
    go_wp2_with fail
    refine marks_ret1 (D := D) (v := .int .i64 2) rfl hk (by simp [results, Tryz.results72, go_sem, c1]) ⟨by rw [HC.out.2 hT], ?_⟩
    exact Ext.of_below (i4.trans ((putObj_turn (S := fun b => b = D) _ _ rfl).below i4.size fun k hk => by omega))
end Go.Proofs.YthpmncdfaggkiaaGreat
/- B1: 2 texts in one. -/
/- The contracts of is, end, End. -/
namespace Go.Proofs.YthpmncdfaggkiaaGreat
open Go.RowKit
attribute [local go_sem] more_drew more_drewN more_size more_cell more_frozen more_setCell drew_more drewN_more lt_add_r lt_add_r2 lt_add_r3 lt_add_r4 lt_add_r5 lt_add_r6 lt_add_r7 lt_add_r8 lt_add_r9 lt_add_r10 lt_self_r lt_self_r2
/-- a slice of parts that is read -/
structure PS (w : World) (A : Option Addr) (c : Nat) (ps : List Prt) : Prop where
  parts : Prts w A ps
  oks : PrtsOk w ps
  few : Few ps
  cap : ps.length ≤ c
  top : c ≤ 9223372036854775807
  none : A = .none → c = 0
theorem PS.ext {w w' : World} {A : Option Addr} {c : Nat} {ps : List Prt} (h : PS w A c ps) (e : Ext w w') : PS w' A c ps := ⟨h.parts.ext e, h.oks.ext e, h.few, h.cap, h.top, h.none⟩
theorem PS.below {w w' : World} {A : Option Addr} {c : Nat} {ps : List Prt} (h : PS w A c ps) (e : Below w.heap.size w w') : PS w' A c ps := ⟨h.parts.below e, h.oks.below e, h.few, h.cap, h.top, h.none⟩
section
variable {A : Option Addr} {c : Nat} {ps : List Prt} {w : World}
theorem check_ok (h : PS w A c ps) (T : Tree (nds ps)) : Calls Tryz.prog 72 #[.slice A ps.length c] w fun e w' => e = .returned (.int .i64 0) ∧ Ext w w' :=
  (check_any A c ps w h.parts h.oks h.few).mono fun _ _ ⟨he, hx⟩ => ⟨by rw [he, (checkF_few h.few.len).1 T], hx⟩
theorem check_no (h : PS w A c ps) (T : ¬ Tree (nds ps)) : Calls Tryz.prog 72 #[.slice A ps.length c] w fun e w' => e = .returned (.int .i64 2) ∧ Ext w w' :=
  (check_any A c ps w h.parts h.oks h.few).mono fun _ _ ⟨he, hx⟩ => ⟨by rw [he, (checkF_few h.few.len).2 T], hx⟩
set_option maxRecDepth 100000 in
set_option maxHeartbeats 1000000 in
theorem is_yes (i : Int) (h : PS w A c ps) (T : Tree (nds ps)) : Calls Tryz.prog 125 #[.slice A ps.length c, .int .i64 i] w fun e w' => e = .returned (.bool (decide (0 ≤ i) && decide (i < (ps.length : Int)))) ∧ Ext w w' := by
  have CH := Lib.hid (check_ok h T)
  have hl := h.few.len
  clear h T
  go_enter Tryz.func125, Tryz.ntmps125
  go_wp2_with fail
  refine CH.out.mono ?_
  rintro e w2 ⟨rfl, hx2⟩
  have HX := Lib.hid hx2
  clear hx2
  go_wp2_with fail
  all_goals go_ret
  all_goals exact ⟨ret_bool (by rw [Bool.eq_iff_iff]; simp; try omega), HX.out⟩
end
end Go.Proofs.YthpmncdfaggkiaaGreat
/- Results that are slices of ints; append of one. The contracts of End, Find, Leaves. -/
namespace Go.Proofs.YthpmncdfaggkiaaGreat
open Go.RowKit
attribute [local go_sem] more_drew more_drewN more_size more_cell more_frozen more_setCell drew_more drewN_more lt_add_r lt_add_r2 lt_add_r3 lt_add_r4 lt_add_r5 lt_add_r6 lt_add_r7 lt_add_r8 lt_add_r9 lt_add_r10 lt_self_r lt_self_r2
section
variable {A : Option Addr} {c : Nat} {ps : List Prt} {w : World}
/-- a tree may be, and a place -/
def IsP (l : List Nd) (i : Int) : Prop := Tree l ∧ 0 ≤ i ∧ i < (l.length : Int)
theorem is_true (i : Int) (h : PS w A c ps) (T : IsP (nds ps) i) : Calls Tryz.prog 125 #[.slice A ps.length c, .int .i64 i] w fun e w' => e = .returned (.bool true) ∧ Ext w w' := by
  obtain ⟨T, h0, h1⟩ := T
  rw [nds_length] at h1
  refine (is_yes i h T).mono ?_
  rintro e w' ⟨rfl, hx⟩
  exact ⟨ret_bool (by rw [decide_eq_true h0, decide_eq_true h1]; rfl), hx⟩
end
end Go.Proofs.YthpmncdfaggkiaaGreat
/- B3: 3 texts in one. -/
/- The contract of Leaves. -/
namespace Go.Proofs.YthpmncdfaggkiaaGreat
open Go.RowKit
attribute [local go_sem] more_drew more_drewN more_size more_cell more_frozen more_setCell drew_more drewN_more lt_add_r lt_add_r2 lt_add_r3 lt_add_r4 lt_add_r5 lt_add_r6 lt_add_r7 lt_add_r8 lt_add_r9 lt_add_r10 lt_self_r lt_self_r2
section
variable {A : Option Addr} {c : Nat} {ps : List Prt} {w : World}
end
end Go.Proofs.YthpmncdfaggkiaaGreat
/- The contract of Parents. -/
namespace Go.Proofs.YthpmncdfaggkiaaGreat
open Go.RowKit
attribute [local go_sem] more_drew more_drewN more_size more_cell more_frozen more_setCell drew_more drewN_more lt_add_r lt_add_r2 lt_add_r3 lt_add_r4 lt_add_r5 lt_add_r6 lt_add_r7 lt_add_r8 lt_add_r9 lt_add_r10 lt_self_r lt_self_r2
/-- a row of ints that was made -/
def MadeI (w : World) (g : Nat) (us : List Int) : Prop := w.heap[g]? = some (.cells (iv us).toArray 3)
theorem made_cells (v : Value) (n : Nat) : madeCells #[v] n = (List.replicate n v).toArray := by
  apply Array.ext
  · simp [madeCells]
  · intro i h1 h2
    simp [madeCells, Nat.mod_one]
theorem MadeI.new (w : World) (n : Nat) : MadeI (w.alloc (.cells (madeCells #[.int .i64 0] n) 3)) w.heap.size (List.replicate n 0) := by
  unfold MadeI
  rw [heap_alloc_new, made_cells]
  unfold iv
  rw [List.map_replicate]
theorem MadeI.cell {w : World} {g : Nat} {us : List Int} (h : MadeI w g us) {k : Nat} (hk : k < us.length) : w.cell? ⟨g, k, none⟩ = some (.int .i64 (us.getD k 0)) ∧ w.frozen? ⟨g, k, none⟩ = false ∧ g < w.heap.size := by
  refine ⟨?_, by simp [World.frozen?, show w.heap[g]? = _ from h], lt_of_heap h⟩
  have := cell_of_row _ _ k _ _ _ h
  rw [this]
  simpa using iv_get hk
theorem MadeI.store {w : World} {g : Nat} {us : List Int} (h : MadeI w g us) (k : Nat) (x : Int) : MadeI (w.setCell ⟨g, k, none⟩ (.int .i64 x)) g (us.set k x) := by
  unfold MadeI at *
  simp [World.setCell, Array.getElem?_modify, h, iv, List.map_set]
theorem MadeI.ext {w w' : World} {g : Nat} {us : List Int} (h : MadeI w g us) (e : Ext w w') : MadeI w' g us := (e.below.block g (lt_of_heap h)).trans h
theorem MadeI.own {w : World} {g base : Nat} {us : List Int} (h : MadeI w g us) (hb : base ≤ g) (hl : us.length ≤ 1000000) : OwnI w base (some ⟨g, 0, none⟩) us.length us := by
  refine ⟨by rw [iv_length, Nat.mul_one], .inr ⟨g, us.length, (iv us).toArray, rfl, hb, h, Nat.le_refl _, by unfold maxLen; omega, by simp [iv_length], ?_⟩⟩
  rw [List.take_of_length_le (by simp [iv_length])]
/-- what is told of the first parts -/
structure ParUpto (l : List Nd) (us : List Int) (J K : Nat) : Prop where
  len : us.length = l.length
  root : us[0]? = some (-1)
  up : ∀ (i j : Nat) (p : Nd), l[j]? = some p → (j < J ∧ (i : Int) ∈ p.kids) ∨ (j = J ∧ (i : Int) ∈ p.kids.take K) → us[i]? = some (j : Int)
theorem ParUpto.first {l : List Nd} {us : List Int} (h : us.length = l.length) (h0 : us[0]? = some (-1)) : ParUpto l us 0 0 := ⟨h, h0, fun i j p _ hh => by
  rcases hh with ⟨h1, _⟩ | ⟨_, h2⟩
  · omega
  · simp at h2⟩
theorem ParUpto.kid {l : List Nd} (T : Tree l) {us : List Int} {J K : Nat} (h : ParUpto l us J K) {p : Nd} (hp : l[J]? = some p) {c : Nat} (hc : p.kids[K]? = some (c : Int)) : ParUpto l (us.set c (J : Int)) J (K + 1) := by
  have hcm : (c : Int) ∈ p.kids := List.mem_of_getElem? hc
  obtain ⟨c', e, h1, h2⟩ := T.kid_behind hp _ hcm
  obtain rfl : c = c' := by omega
  refine ⟨by rw [List.length_set]; exact h.len, by rw [List.getElem?_set_ne (by omega)]; exact h.root, fun i j q hq hh => ?_⟩
  by_cases hic : i = c
  · subst hic
    have : j = J := T.up_one (i := i) ⟨q, hq, by rcases hh with ⟨_, h⟩ | ⟨_, h⟩; exact h; exact List.mem_of_mem_take h⟩ ⟨p, hp, hcm⟩
    subst this
    rw [List.getElem?_set_self (by rw [h.len]; exact h2)]
  · rw [List.getElem?_set_ne (by omega)]
    refine h.up i j q hq ?_
    rcases hh with hh | ⟨rfl, hm⟩
    · exact .inl hh
    · refine .inr ⟨rfl, ?_⟩
      rw [hp] at hq
      cases hq
      rw [List.take_add_one, hc] at hm
      simp only [Option.toList_some, List.mem_append, List.mem_singleton] at hm
      rcases hm with hm | hm
      · exact hm
      · omega
theorem ParUpto.next {l : List Nd} {us : List Int} {J : Nat} {p : Nd} (hp : l[J]? = some p) (h : ParUpto l us J p.kids.length) : ParUpto l us (J + 1) 0 := by
  refine ⟨h.len, h.root, fun i j q hq hh => h.up i j q hq ?_⟩
  rcases hh with ⟨h1, h2⟩ | ⟨_, h2⟩
  · rcases Nat.lt_or_ge j J with hj | hj
    · exact .inl ⟨hj, h2⟩
    · obtain rfl : j = J := by omega
      rw [hp] at hq
      cases hq
      exact .inr ⟨rfl, by rwa [List.take_length]⟩
  · simp at h2
theorem ParUpto.done {l : List Nd} {us : List Int} (h : ParUpto l us l.length 0) : ParOk l us := ⟨h.len, h.root, fun i j ⟨p, hp, hk⟩ => h.up i j p hp (.inl ⟨lt_of_get hp, hk⟩)⟩
section
variable {A : Option Addr} {c : Nat} {ps : List Prt} {w : World}
def ParsRet (w : World) (l : List Nd) (e : Ending) (w' : World) : Prop := ∃ us, ParOk l us ∧ IntsRet w us e w'
set_option maxRecDepth 100000 in
set_option maxHeartbeats 1000000 in
theorem Parents_yes (h : PS w A c ps) (T : Tree (nds ps)) : Calls Tryz.prog 53 #[.slice A ps.length c] w (ParsRet w (nds ps)) := by
  have CH := Lib.hid (check_ok h T)
  have HS := Lib.hid h
  have hl := h.few.len
  have hl0 : 0 < ps.length := by have := T.pos; rwa [nds_length] at this
  have HT := Lib.hid T
  have hmk := run_make_row' (P := Tryz.prog) 31 3 (.int .i64 0) 8 Tryz.underlying31 infoInt rfl .i64 .i64 ps.length (by omega) (by omega)
  clear h T
  go_enter Tryz.func53, Tryz.ntmps53
  go_wp2_with fail
  refine CH.out.mono ?_
  rintro e w3 ⟨rfl, hx3⟩
  have HX3 := Lib.hid hx3
  clear hx3
  go_upto_region 4 with fail
  obtain ⟨W4, hW4⟩ : ∃ W4, w3.alloc (.cells (madeCells #[.int .i64 0] ps.length) 3) = W4 := ⟨_, rfl⟩
  have M4 : Hid (MadeI W4 w3.heap.size (List.replicate ps.length 0)) := hW4 ▸ MadeI.new _ _
  have X4 : Hid (Ext w W4) := hW4 ▸ HX3.out.alloc _
  have hg : w.heap.size ≤ w3.heap.size := HX3.out.size
  rw [hW4]
  generalize w3.heap.size = g at *
  obtain ⟨m1, m2, m3⟩ := M4.out.cell (k := 0) (by simp; omega)
  have M5 := Lib.hid (M4.out.store 0 (-1))
  have X5 := Lib.hid (X4.out.setCell (p := ⟨g, 0, none⟩) hg (.int .i64 (-1)))
  clear hW4 hmk
  go_wp2_with fail
  generalize hW5 : W4.setCell ⟨g, 0, none⟩ (.int .i64 (-1)) = W5 at *
  clear hW5 m1 m2 m3
  go_loopw [18] (fun i wr => ∃ (j : Nat) (us : List Int), j ≤ ps.length ∧ i = .int .i64 j ∧ Hid (MadeI wr g us) ∧ Hid (ParUpto (nds ps) us j 0) ∧ Hid (Ext w wr)) (fun i _ => ps.length - (intOf i).toNat)
  case atStart => exact ⟨0, _, Nat.zero_le _, rfl, M5, Lib.hid (ParUpto.first (by simp [nds_length]) (by rw [List.getElem?_set_self (by rw [List.length_replicate]; exact hl0)])), X5⟩
  case round =>
    obtain ⟨j, us, hj, rfl, hM, hU, hX⟩ := hrel
    by_cases hlt : j < ps.length
    · obtain ⟨⟨q, kA, kcap⟩, hq⟩ : ∃ q, ps[j]? = some q := ⟨_, List.getElem?_eq_getElem hlt⟩
      obtain ⟨b, off, rfl, hb, hcell⟩ := (HS.out.ext hX.out).parts (by omega)
      obtain ⟨d0, d1, d2, d3, d4, d5, d6, d7⟩ := hcell j _ hq
      have ho := (HS.out.oks.get hq)
      have o1 : q.kids.length ≤ kcap := ho.cap
      have o2 : kcap ≤ 9223372036854775807 := ho.top
      dsimp only at d0 d1 d2 d3 d4 d5 d6 d7
      have HOQ := Lib.hid ho
      have HQ := Lib.hid (nds_get hq)
      clear hcell hq ho
      go_wp2_with fail
      have M6 := Lib.hid (hM.out.ext (w' := wr.alloc (.cells #[.int .i64 q.sym, .int .i64 q.kind, .int .i64 q.lo, .int .i64 q.inn, .int .i64 q.hi, .int .i64 q.look, .slice kA q.kids.length kcap, .int .u64 q.met] 34)) ((Ext.refl _).alloc _))
      have X6 := Lib.hid (hX.out.alloc (.cells #[.int .i64 q.sym, .int .i64 q.kind, .int .i64 q.lo, .int .i64 q.inn, .int .i64 q.hi, .int .i64 q.look, .slice kA q.kids.length kcap, .int .u64 q.met] 34))
      generalize wr.alloc (.cells #[.int .i64 q.sym, .int .i64 q.kind, .int .i64 q.lo, .int .i64 q.inn, .int .i64 q.hi, .int .i64 q.look, .slice kA q.kids.length kcap, .int .u64 q.met] 34) = W6 at *
      clear d0 d1 d2 d3 d4 d5 d6 d7 hM hX
      go_loopw [26] (fun i wr => ∃ (k : Nat) (us : List Int), k ≤ q.kids.length ∧ i = .int .i64 k ∧ Hid (MadeI wr g us) ∧ Hid (ParUpto (nds ps) us j k) ∧ Hid (Ext w wr)) (fun i _ => q.kids.length - (intOf i).toNat)
      case atStart => exact ⟨0, us, Nat.zero_le _, rfl, M6, hU, X6⟩
      case round =>
        obtain ⟨k, us, hk, rfl, hM, hU, hX⟩ := hrel
        by_cases hkl : k < q.kids.length
        · obtain ⟨b2, off2, hkA, hb2, hc2⟩ := (HOQ.out.ext hX.out).kids (by show 0 < q.kids.length; omega)
          change kA = _ at hkA
          subst hkA
          have e1 := hc2 k hkl
          obtain ⟨i, hi1, hi2, hi3⟩ := HT.out.kid_behind HQ.out (q.kids.getD k 0) (by rw [List.getD_eq_getElem?_getD, List.getElem?_eq_getElem hkl]; exact List.getElem_mem hkl)
          dsimp only at e1
          rw [hi1] at e1
          rw [nds_length] at hi3
          have hlen := hU.out.len
          rw [nds_length] at hlen
          obtain ⟨m1, m2, m3⟩ := hM.out.cell (k := i) (by omega)
          have M7 := Lib.hid (hM.out.store i j)
          have X7 := Lib.hid (hX.out.setCell (p := ⟨g, i, none⟩) hg (.int .i64 (j : Int)))
          have U7 := Lib.hid (hU.out.kid HT.out HQ.out (c := i) (K := k) (by rw [← hi1, List.getD_eq_getElem?_getD, List.getElem?_eq_getElem hkl]; rfl))
          clear hc2 hi1 hM hU hX hlen
          go_wp2_with fail
          go_roundw
          case rel => exact ⟨k + 1, _, by omega, by go_num, M7, U7, X7⟩
          case measure => simp [intOf]; omega
        · obtain rfl : k = q.kids.length := by omega
          go_wp2_with fail
          go_roundw
          case rel => exact ⟨j + 1, us, by omega, by go_num, hM, Lib.hid (ParUpto.next HQ.out hU.out), hX⟩
          case measure => simp [intOf]; omega
    · obtain rfl : j = ps.length := by omega
      go_wp2_with fail
      go_ret
      have hlen := hU.out.len
      rw [nds_length] at hlen
      have e : (Value.slice (some ⟨g, 0, none⟩) ps.length ps.length) = .slice (some ⟨g, 0, none⟩) us.length us.length := by rw [hlen]
      exact ⟨us, ParUpto.done (by rw [nds_length]; exact hU.out), some ⟨g, 0, none⟩, us.length, by rw [← e]; rfl, hM.out.own hg (by omega), hX.out⟩
end
end Go.Proofs.YthpmncdfaggkiaaGreat
/- The contracts of slices.Reverse, Path. -/
namespace Go.Proofs.YthpmncdfaggkiaaGreat
open Go.RowKit
attribute [local go_sem] more_drew more_drewN more_size more_cell more_frozen more_setCell drew_more drewN_more lt_add_r lt_add_r2 lt_add_r3 lt_add_r4 lt_add_r5 lt_add_r6 lt_add_r7 lt_add_r8 lt_add_r9 lt_add_r10 lt_self_r lt_self_r2
theorem OwnI.store {w : World} {base g c : Nat} {xs : List Int} (h : OwnI w base (some ⟨g, 0, none⟩) c xs) {k : Nat} (_ : k < xs.length) (x : Int) : OwnI (w.setCell ⟨g, k, none⟩ (.int .i64 x)) base (some ⟨g, 0, none⟩) c (xs.set k x) := by
  obtain ⟨h1, h2⟩ := h
  rcases h2 with ⟨h2, _⟩ | ⟨g', cap, cur, h2, h3, h4, h5, h6, h7, h8⟩
  · cases h2
  · injection h2 with a1 a2 a3
    injection a1 with a1
    injection a1 with a1
    subst a1 a3
    refine ⟨by rw [iv_length, List.length_set, Nat.mul_one], .inr ⟨g, c, cur.setIfInBounds k (.int .i64 x), by rw [List.length_set], h3, by simp [World.setCell, Array.getElem?_modify, h4], by rw [List.length_set]; exact h5, h6, by rw [Array.size_setIfInBounds]; exact h7, ?_⟩⟩
    unfold iv at h8 ⊢
    rw [List.map_set, List.length_set, Array.toList_setIfInBounds, List.take_set, h8]
theorem OwnI.cell {w : World} {base g c : Nat} {xs : List Int} (h : OwnI w base (some ⟨g, 0, none⟩) c xs) {k : Nat} (hk : k < xs.length) : w.cell? ⟨g, k, none⟩ = some (.int .i64 (xs.getD k 0)) ∧ w.frozen? ⟨g, k, none⟩ = false ∧ g < w.heap.size := by
  obtain ⟨hI, _⟩ := h.ints
  obtain ⟨b, off, hA, hb, hc⟩ := hI (by omega)
  injection hA with hA
  injection hA with hA hB
  subst hA hB
  have := hc k hk
  rw [Nat.zero_add] at this
  exact ⟨this, World.ownsRow.frozenAt h k, hb⟩
/-- the ends are turned about as far as i -/
def RevTo (xs ys : List Int) (i : Nat) : Prop := ys.length = xs.length ∧ ∀ k, k < xs.length → ys.getD k 0 = if k < i ∨ xs.length ≤ k + i then xs.getD (xs.length - 1 - k) 0 else xs.getD k 0
theorem RevTo.first (xs : List Int) : RevTo xs xs 0 := ⟨rfl, fun k hk => by rw [if_neg (by omega)]⟩
theorem RevTo.swap {xs ys : List Int} {i j : Nat} (h : RevTo xs ys i) (hj : i + j + 1 = xs.length) (hij : i < j) : RevTo xs ((ys.set i (ys.getD j 0)).set j (ys.getD i 0)) (i + 1) := by
  refine ⟨by rw [List.length_set, List.length_set, h.1], fun k hk => ?_⟩
  have hl := h.1
  have hi := h.2 i (by omega)
  have hjj := h.2 j (by omega)
  rw [if_neg (by omega)] at hi hjj
  by_cases h1 : k = j
  · subst h1
    rw [List.getD_eq_getElem?_getD, List.getElem?_set_self (by rw [List.length_set]; omega), if_pos (by omega), Option.getD_some, hi]
    congr 1
    omega
  · by_cases h2 : k = i
    · subst h2
      rw [List.getD_eq_getElem?_getD, List.getElem?_set_ne (by omega), List.getElem?_set_self (by omega), if_pos (by omega), Option.getD_some, hjj]
      congr 1
      omega
    · have hkk := h.2 k hk
      rw [List.getD_eq_getElem?_getD, List.getElem?_set_ne (by omega), List.getElem?_set_ne (by omega), ← List.getD_eq_getElem?_getD, hkk]
      by_cases h3 : k < i ∨ xs.length ≤ k + i
      · rw [if_pos h3, if_pos (by omega)]
      · rw [if_neg h3, if_neg (by omega)]
theorem RevTo.done {xs ys : List Int} {i : Nat} (h : RevTo xs ys i) (hi : xs.length ≤ i + i + 1) : ys = xs.reverse := by
  apply List.ext_getElem?
  intro k
  rcases Nat.lt_or_ge k xs.length with hk | hk
  · have hkk := h.2 k hk
    have e1 : ys[k]? = some (ys.getD k 0) := by
      rw [List.getD_eq_getElem?_getD, List.getElem?_eq_getElem (by rw [h.1]; exact hk)]
      rfl
    rw [e1, hkk, List.getElem?_reverse hk]
    have e2 : ∀ j, j < xs.length → some (xs.getD j 0) = xs[j]? := fun j hj => by
      rw [List.getD_eq_getElem?_getD, List.getElem?_eq_getElem hj]
      rfl
    by_cases h3 : k < i ∨ xs.length ≤ k + i
    · rw [if_pos h3, e2 _ (by omega)]
    · rw [if_neg h3, e2 _ hk]
      congr 1
      omega
  · rw [List.getElem?_eq_none (by rw [h.1]; exact hk), List.getElem?_eq_none (by rw [List.length_reverse]; exact hk)]
/-- a row is turned about -/
def RevPost (w : World) (base : Nat) (A : Option Addr) (c : Nat) (xs : List Int) (e : Ending) (w' : World) : Prop := e = .returned (.tuple #[]) ∧ OwnI w' base A c xs.reverse ∧ Turn (fun b => base ≤ b) w w'
set_option maxRecDepth 100000 in
set_option maxHeartbeats 2000000 in
theorem reverse_any (A : Option Addr) (c base : Nat) (xs : List Int) (w : World) (h : OwnI w base A c xs) (hl : xs.length ≤ 1000000) (_ : base ≤ w.heap.size) : Calls Tryz.prog 126 #[.slice A xs.length c] w (RevPost w base A c xs) := by
  rcases Nat.eq_zero_or_pos xs.length with h0 | h0
  · obtain rfl := List.eq_nil_of_length_eq_zero h0
    have HH := Lib.hid h
    clear h
    go_enter Tryz.func126, Tryz.ntmps126
    go_wp2
    refine wp_loop_rounds 1 ?_
    rw [rounds_succ]
    go_wp2
    go_end0
    exact ⟨rfl, HH.out, Turn.refl _⟩
  · have hint := h.ints
    obtain ⟨g, off, rfl, hg, _⟩ := hint.1 h0
    have hoff : off = 0 ∧ base ≤ g := by
      rcases h.2 with ⟨h2, _⟩ | ⟨g', cap, cur, h2, h3, _⟩
      · cases h2
      · injection h2 with a1 a2 a3
        injection a1 with a1
        injection a1 with a1 a2
        subst a1 a2
        exact ⟨rfl, h3⟩
    obtain ⟨rfl, hbg⟩ := hoff
    have HH := Lib.hid h
    clear h hint
    go_enter Tryz.func126, Tryz.ntmps126
    go_wp2
    go_loopw [2, 3] (fun s t wr => ∃ (i : Nat) (ys : List Int), i < xs.length ∧ s = .int .i64 i ∧ t = .int .i64 ((xs.length : Int) - 1 - (i : Int)) ∧ Hid (RevTo xs ys i) ∧ Hid (OwnI wr base (some ⟨g, 0, none⟩) c ys) ∧ Hid (Turn (fun b => base ≤ b) w wr)) (fun s _ _ => xs.length - (intOf s).toNat)
    case atStart => exact ⟨0, xs, h0, rfl, by go_num, Lib.hid (RevTo.first xs), HH, Lib.hid (Turn.refl _)⟩
    case round =>
      obtain ⟨i, ys, hi, rfl, rfl, hR, hO, hT⟩ := hrel
      obtain ⟨j, hj⟩ : ∃ j : Nat, i + j + 1 = xs.length := ⟨xs.length - 1 - i, by omega⟩
      have ej : (xs.length : Int) - 1 - (i : Int) = (j : Int) := by omega
      rw [ej]
      by_cases hlt : i < j
      · have hyl := hR.out.1
        obtain ⟨a1, a2, a3⟩ := hO.out.cell (k := i) (by omega)
        obtain ⟨b1, b2, b3⟩ := hO.out.cell (k := j) (by omega)
        have O1 := hO.out.store (k := i) (by omega) (ys.getD j 0)
        have O2 := O1.store (k := j) (by rw [List.length_set]; omega) (ys.getD i 0)
        have R2 := Lib.hid (hR.out.swap hj hlt)
        have T2 := Lib.hid ((hT.out.trans (Turn.setCell (S := fun b => base ≤ b) wr (p := ⟨g, i, none⟩) hbg (.int .i64 (ys.getD j 0)))).trans (Turn.setCell (S := fun b => base ≤ b) _ (p := ⟨g, j, none⟩) hbg (.int .i64 (ys.getD i 0))))
        obtain ⟨x, hx⟩ : ∃ x, ys.getD i 0 = x := ⟨_, rfl⟩
        obtain ⟨y, hy⟩ : ∃ y, ys.getD j 0 = y := ⟨_, rfl⟩
        rw [hx] at a1
        rw [hy] at b1
        rw [hx, hy] at O2 R2 T2
        have HO2 := Lib.hid O2
        have g1 : (i : Int) < (xs.length : Int) := by omega
        have g2 : (j : Int) < (xs.length : Int) := by omega
        clear hR hO hT O1 O2 hx hy hyl ej
        go_wp2_with fail
        go_region
        go_wp2_with fail
        refine ⟨⟨i + 1, _, by omega, by go_num, congrArg (Value.int IntKind.i64) (by omega), R2, Lib.hid (HO2.out.ext ((Ext.refl _).drew)), Lib.hid (T2.out.trans (Turn.of_ext ((Ext.refl _).drew)))⟩, by simp only [intOf]; omega⟩
      · have hR2 := Lib.hid (hR.out.done (by omega))
        clear hR ej
        go_wp2_with fail
        go_end0
        refine ⟨rfl, ?_, hT.out⟩
        rw [← hR2.out]
        exact hO.out
section
variable {A : Option Addr} {c : Nat} {ps : List Prt} {w : World}
set_option maxRecDepth 100000 in
set_option maxHeartbeats 1000000 in
theorem Path_yes (i : Nat) (ws : List Int) (h : PS w A c ps) (T : Tree (nds ps)) (hw : Way (nds ps) i ws) (hi : i < ps.length) : Calls Tryz.prog 73 #[.slice A ps.length c, .int .i64 i] w (IntsRet w ws) := by
  have CH := Lib.hid (is_true i h ⟨T, by omega, by rw [nds_length]; omega⟩)
  have HS := Lib.hid h
  have HT := Lib.hid T
  have HW := Lib.hid hw
  have hl := h.few.len
  have hwl : ws.length ≤ 1001 := by have := hw.length T; omega
  clear h T hw
  go_enter Tryz.func73, Tryz.ntmps73
  go_wp2_with fail
  refine CH.out.mono ?_
  rintro e w2 ⟨rfl, hx2⟩
  have HX := Lib.hid hx2
  clear hx2
  go_wp2_with fail
  refine (Parents_yes (HS.out.ext HX.out) HT.out).mono ?_
  rintro e w3 ⟨us, hus, Au, cu, rfl, hou, hx3⟩
  have HX3 := Lib.hid (HX.out.trans hx3)
  have HU := Lib.hid hou
  have HUS := Lib.hid hus
  have hul : us.length = ps.length := by rw [hus.1, nds_length]
  have hu1 := hou.ints.2.1
  have hu2 := hou.ints.2.2.1
  unfold maxLen at hu2
  clear hx3 hou hus
  go_wp2_with fail
  go_loopw [1, 5] (fun s v wr => ∃ (xs : List Int), xs.length ≤ ws.length ∧ Hid (RowI wr w3.heap.size v xs) ∧ Hid (Ext w3 wr) ∧
      ((∃ (j : Nat) (vs : List Int), s = .int .i64 j ∧ j < ps.length ∧ Hid (Way (nds ps) j vs ∧ ws = vs ++ xs.reverse)) ∨ (s = .int .i64 (-1) ∧ Hid (ws = xs.reverse)))) (fun s _ _ => (intOf s + 1).toNat)
  case atStart => exact ⟨[], Nat.zero_le _, Lib.hid ⟨none, 0, rfl, OwnI.nil _ _⟩, Lib.hid (Ext.refl _), .inl ⟨i, ws, rfl, hi, Lib.hid ⟨HW.out, by simp⟩⟩⟩
  case round =>
    obtain ⟨xs, hxl, hr, hx, (⟨j, vs, rfl, hj, hv⟩ | ⟨rfl, hv⟩)⟩ := hrel
    · obtain ⟨⟨q, kA, kcap⟩, hq⟩ : ∃ q, ps[j]? = some q := ⟨_, List.getElem?_eq_getElem hj⟩
      obtain ⟨b, off, rfl, hb, hcell⟩ := (HS.out.ext (HX3.out.trans hx.out)).parts (by omega)
      obtain ⟨d0, _, _, _, _, _, _, _⟩ := hcell j _ hq
      dsimp only at d0
      have HQ := Lib.hid hq
      clear hcell hq
      obtain ⟨b2, off2, rfl, hb2, hc2⟩ := HU.out.ints.1 (by omega)
      have e1 := hc2 j (by omega)
      clear hc2
      have hj2 : j < us.length := by omega
      have HL : Hid (xs.length ≤ 1000000) := Lib.hid (by omega)
      have HXX := Lib.hid (HX3.out.trans hx.out)
      obtain ⟨hway, hws⟩ := hv.out
      obtain ⟨s', hs'⟩ : ∃ s', us.getD j 0 = s' := ⟨_, rfl⟩
      have hus' : us[j]? = some s' := by rw [← hs', List.getD_eq_getElem?_getD, List.getElem?_eq_getElem hj2]; rfl
      rw [hs'] at e1
      have NEXT : Hid (xs.length + 1 ≤ ws.length ∧ ((∃ (j' : Nat) (vs' : List Int), s' = (j' : Int) ∧ j' < j ∧ Way (nds ps) j' vs' ∧ ws = vs' ++ (xs ++ [q.sym]).reverse) ∨ (s' = -1 ∧ ws = (xs ++ [q.sym]).reverse))) := by
        cases hway with
        | root p hp =>
          rw [nds_get HQ.out] at hp
          cases hp
          rw [HUS.out.2.1] at hus'
          cases hus'
          refine ⟨by rw [hws]; simp, .inr ⟨rfl, ?_⟩⟩
          rw [hws, List.reverse_append]
          rfl
        | step _ j' p vs' hu hp hw' =>
          rw [nds_get HQ.out] at hp
          cases hp
          rw [HUS.out.2.2 j j' hu] at hus'
          cases hus'
          refine ⟨by rw [hws]; simp, .inl ⟨j', vs', rfl, (HT.out.up_lt hu).1, hw', ?_⟩⟩
          rw [hws, List.reverse_append, List.append_assoc]
          rfl
      clear hway hws hv hs' hus'
      go_wp2_with (at_builtin; refine app_int w3 (by rfl) (.tmp 19) (.tmp 25) rfl (hr.out.ext (by repeat (first | exact Ext.refl _ | refine Ext.alloc ?_ _ | refine Ext.more ?_ _ _ | refine Ext.drew ?_ | refine Ext.drewN ?_ _ | refine Ext.setCell ?_ (by simp <;> omega) _))) q.sym wr.heap.size rfl rfl (by simp) (by simp [go_sem]) HL.out (hx.out.trans (by repeat (first | exact Ext.refl _ | refine Ext.alloc ?_ _ | refine Ext.more ?_ _ _ | refine Ext.drew ?_ | refine Ext.drewN ?_ _ | refine Ext.setCell ?_ (by simp <;> omega) _))) ?_; intro v7 w7 hr7 hg7 hx7; have e7 := (hx7.below.cell (p := ⟨b2, off2 + j, none⟩) hb2).trans e1)
      have HR7 := Lib.hid hr7
      have HX7 := Lib.hid hx7
      clear hr7 hg7 hx7 e7
      go_roundw
      case rel =>
        obtain ⟨hn1, hn2⟩ := NEXT.out
        refine ⟨xs ++ [q.sym], by simp; omega, HR7, HX7, ?_⟩
        rcases hn2 with ⟨j', vs', rfl, hjj, h1, h2⟩ | ⟨rfl, h2⟩
        · exact .inl ⟨j', vs', rfl, by omega, Lib.hid ⟨h1, h2⟩⟩
        · exact .inr ⟨rfl, Lib.hid h2⟩
      case measure =>
        obtain ⟨hn1, hn2⟩ := NEXT.out
        rcases hn2 with ⟨j', vs', rfl, hjj, h1, h2⟩ | ⟨rfl, h2⟩ <;> simp only [intOf] <;> omega
    · obtain ⟨A1, c1, rfl, ho⟩ := hr.out
      have HO := Lib.hid ho
      have HV := Lib.hid hv.out
      clear ho
      go_wp2_with fail
      refine (reverse_any A1 c1 w3.heap.size xs wr HO.out (by omega) hx.out.size).mono ?_
      rintro e w8 ⟨rfl, ho8, t8⟩
      have HO8 := Lib.hid ho8
      have HX8 := Lib.hid (HX3.out.trans (Ext.of_below (hx.out.below.trans (t8.below hx.out.size fun k hk => hk))))
      clear ho8 t8
      go_wp2_with fail
      go_ret
      have hlx : xs.length = ws.length := by rw [HV.out, List.length_reverse]
      refine ⟨A1, c1, by show Ending.returned (Value.slice A1 xs.length c1) = _; rw [hlx], ?_, HX8.out⟩
      rw [HV.out]
      exact HO8.out.base HX3.out.size
end
end Go.Proofs.YthpmncdfaggkiaaGreat
/- B7: 2 texts in one. -/
/- Parts that lie in a row of cells; the example, lives, light of chapter 16. -/
namespace Go.Proofs.YthpmncdfaggkiaaGreat
open Go.RowKit
attribute [local go_sem] more_drew more_drewN more_size more_cell more_frozen more_setCell drew_more drewN_more lt_add_r lt_add_r2 lt_add_r3 lt_add_r4 lt_add_r5 lt_add_r6 lt_add_r7 lt_add_r8 lt_add_r9 lt_add_r10 lt_self_r lt_self_r2
/-- the cells of parts -/
def pv (ps : List Prt) : List Value := ps.flatMap prtCells
theorem pv_length (ps : List Prt) : (pv ps).length = ps.length * 8 := by
  induction ps with
  | nil => rfl
  | cons p ps ih => simp only [pv, List.flatMap_cons, List.length_append, List.length_cons] at *; rw [ih]; simp [prtCells]; omega
theorem pv_get : ∀ {ps : List Prt} {k : Nat} {p : Prt} (r : Nat), ps[k]? = some p → r < 8 → (pv ps)[k * 8 + r]? = (prtCells p)[r]?
  | [], k, p, r, h, _ => by simp at h
  | q :: ps, 0, p, r, h, hr => by
    simp at h
    subst h
    simp only [pv, List.flatMap_cons, Nat.zero_mul, Nat.zero_add]
    rw [List.getElem?_append_left (by simp [prtCells]; omega)]
  | q :: ps, k + 1, p, r, h, hr => by
    simp only [pv, List.flatMap_cons]
    rw [List.getElem?_append_right (by simp [prtCells]; omega)]
    have := pv_get (ps := ps) (k := k) r (by simpa using h) hr
    rw [← this]
    congr 1
    simp [prtCells]
    omega
theorem Prts.of_cells {w : World} {A : Option Addr} {ps : List Prt} (h : CellsAt w A (pv ps)) : Prts w A ps := fun h0 => by
  obtain ⟨b, off, hA, hb, hc⟩ := h (by rw [pv_length]; omega)
  refine ⟨b, off, hA, hb, fun k p hk => ?_⟩
  have key : ∀ r v, r < 8 → (prtCells p)[r]? = some v → w.cell? ⟨b, off + k * 8 + r, none⟩ = some v := fun r v hr hv => by
    rw [Nat.add_assoc]
    exact hc _ _ ((pv_get r hk hr).trans hv)
  exact ⟨by have := key 0 _ (by omega) rfl; simpa using this, key 1 _ (by omega) rfl, key 2 _ (by omega) rfl, key 3 _ (by omega) rfl, key 4 _ (by omega) rfl, key 5 _ (by omega) rfl, key 6 _ (by omega) rfl, key 7 _ (by omega) rfl⟩
def smI (x : Int) : Bool := decide (-1000000 ≤ x) && decide (x ≤ 1000000)
theorem smI_ok {x : Int} (h : smI x = true) : I64 x := by
  unfold smI at h
  simp only [Bool.and_eq_true, decide_eq_true_eq] at h
  unfold I64
  omega
def smallB (p : Nd) : Bool := smI p.sym && smI p.kind && smI p.lo && smI p.inn && smI p.hi && smI p.look && (decide (0 ≤ p.met) && decide (p.met ≤ 1000000)) && p.kids.all smI
theorem PrtOk.lit {w : World} {p : Prt} (hk : Ints w p.kA p.nd.kids) (hc : p.nd.kids.length ≤ p.kc) (ht : p.kc ≤ 1000) (hn : p.kA = .none → p.kc = 0) (hs : smallB p.nd = true) : PrtOk w p := by
  unfold smallB at hs
  simp only [Bool.and_eq_true, decide_eq_true_eq] at hs
  obtain ⟨⟨⟨⟨⟨⟨⟨s1, s2⟩, s3⟩, s4⟩, s5⟩, s6⟩, s7⟩, s8⟩ := hs
  exact ⟨hk, hc, by omega, hn, smI_ok s1, smI_ok s2, smI_ok s3, smI_ok s4, smI_ok s5, smI_ok s6, by omega, fun k hk => smI_ok (List.all_eq_true.1 s8 k hk)⟩
end Go.Proofs.YthpmncdfaggkiaaGreat
/- The contracts of lives, light of chapter 16. -/
namespace Go.Proofs.YthpmncdfaggkiaaGreat
open Go.RowKit
attribute [local go_sem] more_drew more_drewN more_size more_cell more_frozen more_setCell drew_more drewN_more lt_add_r lt_add_r2 lt_add_r3 lt_add_r4 lt_add_r5 lt_add_r6 lt_add_r7 lt_add_r8 lt_add_r9 lt_add_r10 lt_self_r lt_self_r2
end Go.Proofs.YthpmncdfaggkiaaGreat
/- Rows of parts of the call's own; append of one. -/
namespace Go.Proofs.YthpmncdfaggkiaaGreat
open Go.RowKit
attribute [local go_sem] more_drew more_drewN more_size more_cell more_frozen more_setCell drew_more drewN_more lt_add_r lt_add_r2 lt_add_r3 lt_add_r4 lt_add_r5 lt_add_r6 lt_add_r7 lt_add_r8 lt_add_r9 lt_add_r10 lt_self_r lt_self_r2
theorem OwnI.turn {w w' : World} {base : Nat} {A : Option Addr} {c : Nat} {xs : List Int} {S : Nat → Prop} (h : OwnI w base A c xs) (t : Turn S w w') (hS : ∀ k, base ≤ k → ¬ S k) : OwnI w' base A c xs :=
  own_keep h fun g hg => t.block g (own_old h g hg) (hS g (own_block h g hg))
theorem Turn.set {S : Nat → Prop} {a b : World} (h : Turn S a b) {p : Addr} (hp : S p.block) {u : Value} : Turn S a (b.setCell p u) := h.trans (Turn.setCell b hp u)
end Go.Proofs.YthpmncdfaggkiaaGreat
/- E1: 2 texts in one. -/
/- The contracts of slices.Equal[int], tree.Same. -/
namespace Go.Proofs.YthpmncdfaggkiaaGreat
open Go.RowKit
attribute [local go_sem] more_drew more_drewN more_size more_cell more_frozen more_setCell drew_more drewN_more lt_add_r lt_add_r2 lt_add_r3 lt_add_r4 lt_add_r5 lt_add_r6 lt_add_r7 lt_add_r8 lt_add_r9 lt_add_r10 lt_self_r lt_self_r2
set_option maxHeartbeats 1000000 in
theorem equalInts (A B : Option Addr) (xs ys : List Int) (c d : Nat) (w : World) (hx : Ints w A xs) (hy : Ints w B ys) (bx : xs.length ≤ 9223372036854775807) (by_ : ys.length ≤ 9223372036854775807) :
    Calls Tryz.prog 119 #[.slice A xs.length c, .slice B ys.length d] w fun e w' => e = .returned (.bool (decide (xs = ys))) ∧ Ext w w' := by
  by_cases hl : xs.length = ys.length
  · rcases hx.empty_or with rfl | ⟨h0, b, off, rfl, hb, hc⟩
    · obtain rfl : ys = [] := List.eq_nil_of_length_eq_zero hl.symm
      go_enter Tryz.func119, Tryz.ntmps119
      go_wp2
      refine wp_loop_rounds 1 ?_
      rw [rounds_succ]
      go_wp2
      go_ret
      exact ⟨rfl, (by repeat (first | exact Ext.refl _ | refine Ext.alloc ?_ _ | refine Ext.more ?_ _ _ | refine Ext.drew ?_ | refine Ext.drewN ?_ _ | refine Ext.setCell ?_ (by simp <;> omega) _))⟩
    · rcases hy.empty_or with rfl | ⟨h1, b', off', rfl, hb', hc'⟩
      · simp only [List.length_nil] at hl; omega
      · have hl2 : ((xs.length : Int) != (ys.length : Int)) = false := by simp; omega
        have HC := Lib.hid hc
        have HC' := Lib.hid hc'
        have HL := Lib.hid hl
        clear hc hc' hl hx hy
        go_enter Tryz.func119, Tryz.ntmps119
        go_wp2
        go_loopw [13] (fun i wr => ∃ k : Nat, k ≤ xs.length ∧ i = .int .i64 k ∧ xs.take k = ys.take k ∧ Ext w wr) (fun i _ => xs.length - (intOf i).toNat)
        case atStart => exact ⟨0, by omega, rfl, by simp, (by repeat (first | exact Ext.refl _ | refine Ext.alloc ?_ _ | refine Ext.more ?_ _ _ | refine Ext.drew ?_ | refine Ext.drewN ?_ _ | refine Ext.setCell ?_ (by simp <;> omega) _))⟩
        case round =>
          obtain ⟨k, hk, rfl, ht, os, kk, rfl⟩ := hrel
          have HT := Lib.hid ht
          clear ht
          by_cases hlt : k < xs.length
          · have c1 := HC.out k hlt
            have c2 := HC'.out k (by rw [← HL.out]; exact hlt)
            have hlt' : k < ys.length := by have := HL.out; omega
            generalize hu : xs.getD k 0 = u at *
            generalize hv : ys.getD k 0 = v at *
            have HU := Lib.hid hu
            have HV := Lib.hid hv
            clear hu hv
            by_cases e : u = v
            · have e1 : (u != v) = false := by simp [e]
              have E := Lib.hid e
              clear e
              go_upto_region 6 with fail
              go_quiet (fail)
              go_wp2
              go_roundw
              case rel => exact ⟨k + 1, by omega, by go_num, by rw [take_next hlt, take_next hlt', HT.out, HU.out, HV.out, E.out], (by repeat (first | exact Ext.refl _ | refine Ext.alloc ?_ _ | refine Ext.more ?_ _ _ | refine Ext.drew ?_ | refine Ext.drewN ?_ _ | refine Ext.setCell ?_ (by simp <;> omega) _))⟩
              case measure => simp [intOf]; omega
            · have e1 : (u != v) = true := by simp [e]
              have E := Lib.hid e
              clear e
              go_upto_region 6 with fail
              go_quiet (fail)
              go_wp2
              go_ret
              refine ⟨ret_bool ?_, (by repeat (first | exact Ext.refl _ | refine Ext.alloc ?_ _ | refine Ext.more ?_ _ _ | refine Ext.drew ?_ | refine Ext.drewN ?_ _ | refine Ext.setCell ?_ (by simp <;> omega) _))⟩
              symm
              rw [decide_eq_false_iff_not]
              intro h
              apply E.out
              rw [← HU.out, ← HV.out, h]
          · go_wp2
            go_ret
            refine ⟨ret_bool ?_, (by repeat (first | exact Ext.refl _ | refine Ext.alloc ?_ _ | refine Ext.more ?_ _ _ | refine Ext.drew ?_ | refine Ext.drewN ?_ _ | refine Ext.setCell ?_ (by simp <;> omega) _))⟩
            symm
            rw [decide_eq_true_eq]
            have := HT.out
            have h2 := HL.out
            rwa [List.take_of_length_le (by omega), List.take_of_length_le (by omega)] at this
  · have hl2 : ((xs.length : Int) != (ys.length : Int)) = true := by simp; omega
    have hl3 : decide (xs = ys) = false := by
      rw [decide_eq_false_iff_not]
      intro h
      exact hl (by rw [h])
    have HL := Lib.hid hl3
    clear hl hl3
    go_enter Tryz.func119, Tryz.ntmps119
    go_wp2
    go_ret
    exact ⟨ret_bool HL.out.symm, (by repeat (first | exact Ext.refl _ | refine Ext.alloc ?_ _ | refine Ext.more ?_ _ _ | refine Ext.drew ?_ | refine Ext.drewN ?_ _ | refine Ext.setCell ?_ (by simp <;> omega) _))⟩
def sameB (p q : Nd) : Bool := (p.sym == q.sym) && (p.kind == q.kind) && (p.lo == q.lo) && (p.inn == q.inn) && (p.hi == q.hi) && (p.look == q.look) && (p.met == q.met) && decide (p.kids = q.kids)
theorem sameB_iff (p q : Nd) : sameB p q = true ↔ p = q := by
  obtain ⟨a, b, c, d, e, f, g, h⟩ := p
  obtain ⟨a', b', c', d', e', f', g', h'⟩ := q
  simp only [sameB, Bool.and_eq_true, beq_iff_eq, decide_eq_true_eq, Nd.mk.injEq]
  constructor
  · rintro ⟨⟨⟨⟨⟨⟨⟨rfl, rfl⟩, rfl⟩, rfl⟩, rfl⟩, rfl⟩, rfl⟩, rfl⟩
    simp
  · rintro ⟨rfl, rfl, rfl, rfl, rfl, rfl, rfl, rfl⟩
    simp
instance ndDecEq : DecidableEq Nd := fun p q => decidable_of_iff _ (sameB_iff p q)
end Go.Proofs.YthpmncdfaggkiaaGreat
/- The contracts of EqualFunc, tree.Same; Own, OwnParts. -/
namespace Go.Proofs.YthpmncdfaggkiaaGreat
open Go.RowKit
attribute [local go_sem] more_drew more_drewN more_size more_cell more_frozen more_setCell drew_more drewN_more lt_add_r lt_add_r2 lt_add_r3 lt_add_r4 lt_add_r5 lt_add_r6 lt_add_r7 lt_add_r8 lt_add_r9 lt_add_r10 lt_self_r lt_self_r2
end Go.Proofs.YthpmncdfaggkiaaGreat
/- The contracts of styles.ends, Matches, Style. -/
namespace Go.Proofs.YthpmncdfaggkiaaGreat
open Go.RowKit
attribute [local go_sem] more_drew more_drewN more_size more_cell more_frozen more_setCell drew_more drewN_more lt_add_r lt_add_r2 lt_add_r3 lt_add_r4 lt_add_r5 lt_add_r6 lt_add_r7 lt_add_r8 lt_add_r9 lt_add_r10 lt_self_r lt_self_r2
def endsB (way path : List Int) : Bool := decide (path.length ≤ way.length) && decide (way.drop (way.length - path.length) = path)
set_option maxRecDepth 100000 in
set_option maxHeartbeats 1000000 in
theorem ends_any (A B : Option Addr) (way path : List Int) (c d : Nat) (w : World) (hx : Ints w A way) (hy : Ints w B path) (bx : way.length ≤ c) (bc : c ≤ 9223372036854775807) (by_ : path.length ≤ 9223372036854775807) :
    Calls Tryz.prog 71 #[.slice A way.length c, .slice B path.length d] w fun e w' => e = .returned (.bool (endsB way path)) ∧ Ext w w' := by
  by_cases hl : path.length ≤ way.length
  · have hE : endsB way path = decide (way.drop (way.length - path.length) = path) := by
      unfold endsB
      rw [decide_eq_true hl, Bool.true_and]
    have HE := Lib.hid hE
    have hd := hx.drop (way.length - path.length) c bx
    have eq := fun w1 h1 h2 => equalInts (if c = way.length - path.length then A else A.map (·.add (way.length - path.length))) B (way.drop (way.length - path.length)) path (c - (way.length - path.length)) d w1 h1 h2 (by rw [List.length_drop]; omega) by_
    rw [List.length_drop] at eq
    obtain ⟨A', hif⟩ : ∃ A', (if c = way.length - path.length then A else A.map (·.add (way.length - path.length))) = A' := ⟨_, rfl⟩
    rw [hif] at eq hd
    have EQ := Lib.hid eq
    have HD := Lib.hid hd
    have HX := Lib.hid hx
    have HY := Lib.hid hy
    clear hE eq hd hx hy
    have hn : way.length - path.length ≤ way.length := by omega
    have e1 : IntKind.i64.wrap ((way.length : Int) - (path.length : Int)) = ((way.length - path.length : Nat) : Int) := by rw [IntWalk.i64_in _ (by omega)]; omega
    go_enter Tryz.func71, Tryz.ntmps71
    go_wp2_with fail
    refine (EQ.out _ HD.out HY.out).mono ?_
    rintro e w1 ⟨rfl, os1, k1, rfl⟩
    go_wp2
    go_ret
    exact ⟨ret_bool HE.out.symm, (by repeat (first | exact Ext.refl _ | refine Ext.alloc ?_ _ | refine Ext.more ?_ _ _ | refine Ext.drew ?_ | refine Ext.drewN ?_ _ | refine Ext.setCell ?_ (by simp <;> omega) _))⟩
  · have hl2 : ¬ ((path.length : Int) ≤ (way.length : Int)) := by omega
    have hE : endsB way path = false := by
      unfold endsB
      rw [decide_eq_false hl, Bool.false_and]
    have HE := Lib.hid hE
    clear hE
    go_enter Tryz.func71, Tryz.ntmps71
    go_wp2
    go_ret
    exact ⟨ret_bool HE.out.symm, (by repeat (first | exact Ext.refl _ | refine Ext.alloc ?_ _ | refine Ext.more ?_ _ _ | refine Ext.drew ?_ | refine Ext.drewN ?_ _ | refine Ext.setCell ?_ (by simp <;> omega) _))⟩
/-- A style: its kind, its path's header, the path, its number, its priority. -/
structure Sty where
  kind : Int
  pA : Option Addr
  pc : Nat
  path : List Int
  st : Int
  prio : Int
def styOk (w : World) (s : Sty) : Prop := Ints w s.pA s.path ∧ s.path.length ≤ 9223372036854775807
set_option maxRecDepth 100000 in
set_option maxHeartbeats 1000000 in
theorem matches_any (s : Sty) (kind : Int) (A : Option Addr) (way : List Int) (c : Nat) (w : World) (hs : styOk w s) (hx : Ints w A way) (bx : way.length ≤ c) (bc : c ≤ 9223372036854775807) :
    Calls Tryz.prog 27 #[.agg #[.int .i64 s.kind, .slice s.pA s.path.length s.pc, .int .i64 s.st, .int .i64 s.prio], .int .i64 kind, .slice A way.length c] w
      fun e w' => e = .returned (.bool (decide (s.kind = kind) && endsB way s.path)) ∧ Ext w w' := by
  obtain ⟨h1, h2⟩ := hs
  have EN := Lib.hid (fun w1 g1 g2 => ends_any A s.pA way s.path c s.pc w1 g1 g2 bx bc h2)
  have H1 := Lib.hid h1
  have HX := Lib.hid hx
  clear h1 hx
  by_cases hk : s.kind = kind
  · have hk1 : (s.kind == kind) = true := by simp [hk]
    have hk2 : decide (s.kind = kind) = true := by simp [hk]
    have HK := Lib.hid hk
    clear hk
    go_enter Tryz.func27, Tryz.ntmps27
    go_wp2_with (first | (go_at_call 71; refine (EN.out _ (HX.out.ext ((by repeat (first | exact Ext.refl _ | refine Ext.alloc ?_ _ | refine Ext.more ?_ _ _ | refine Ext.drew ?_ | refine Ext.drewN ?_ _ | refine Ext.setCell ?_ (by simp <;> omega) _)))) (H1.out.ext ((by repeat (first | exact Ext.refl _ | refine Ext.alloc ?_ _ | refine Ext.more ?_ _ _ | refine Ext.drew ?_ | refine Ext.drewN ?_ _ | refine Ext.setCell ?_ (by simp <;> omega) _))))).mono ?_; rintro e w1 ⟨rfl, os1, k1, rfl⟩))
    go_ret
    exact ⟨ret_bool (by simp [HK.out]), (by repeat (first | exact Ext.refl _ | refine Ext.alloc ?_ _ | refine Ext.more ?_ _ _ | refine Ext.drew ?_ | refine Ext.drewN ?_ _ | refine Ext.setCell ?_ (by simp <;> omega) _))⟩
  · have hk1 : (s.kind == kind) = false := by simp [hk]
    have hk2 : decide (s.kind = kind) = false := by simp [hk]
    have HK := Lib.hid hk
    clear hk
    go_enter Tryz.func27, Tryz.ntmps27
    go_wp2_with fail
    go_ret
    exact ⟨ret_bool (by simp [HK.out]), (by repeat (first | exact Ext.refl _ | refine Ext.alloc ?_ _ | refine Ext.more ?_ _ _ | refine Ext.drew ?_ | refine Ext.drewN ?_ _ | refine Ext.setCell ?_ (by simp <;> omega) _))⟩
/-- the styles of a slice lie in the cells from A on -/
def Styles (w : World) (A : Option Addr) (ss : List Sty) : Prop :=
  0 < ss.length → ∃ b off, A = some ⟨b, off, none⟩ ∧ b < w.heap.size ∧ ∀ k s, ss[k]? = some s →
    w.cell? ⟨b, off + k * 4, none⟩ = some (.int .i64 s.kind) ∧ w.cell? ⟨b, off + k * 4 + 1, none⟩ = some (.slice s.pA s.path.length s.pc) ∧
    w.cell? ⟨b, off + k * 4 + 2, none⟩ = some (.int .i64 s.st) ∧ w.cell? ⟨b, off + k * 4 + 3, none⟩ = some (.int .i64 s.prio)
def StylesOk (w : World) (ss : List Sty) : Prop := ∀ s ∈ ss, styOk w s
theorem Styles.ext {w w' : World} {A : Option Addr} {ss : List Sty} (h : Styles w A ss) (e : Ext w w') : Styles w' A ss := fun h0 => by
  obtain ⟨b, off, hA, hb, hc⟩ := h h0
  obtain ⟨os, k, rfl⟩ := e
  refine ⟨b, off, hA, by rw [more_size]; omega, fun j s hj => ?_⟩
  rw [more_cell _ _ _ _ _ hb, more_cell _ _ _ _ _ hb, more_cell _ _ _ _ _ hb, more_cell _ _ _ _ _ hb]
  exact hc j s hj
theorem StylesOk.ext {w w' : World} {ss : List Sty} (h : StylesOk w ss) (e : Ext w w') : StylesOk w' ss := fun s hs => ⟨(h s hs).1.ext e, (h s hs).2⟩
def matchB (s : Sty) (kind : Int) (way : List Int) : Bool := decide (s.kind = kind) && endsB way s.path
set_option maxRecDepth 100000 in
set_option maxHeartbeats 1000000 in
theorem better_none (p : Option Addr) (g : Nat) (w : World) (hg : w.cell? ⟨g, 0, none⟩ = some (.pointer none)) :
    Calls Tryz.prog 70 #[.pointer p, .pointer (some ⟨g, 0, none⟩)] w fun e w' => e = .returned (.bool true) ∧ Ext w w' := by
  go_enter Tryz.func70, Tryz.ntmps70
  go_wp2_with fail
  go_quiet (fail)
  go_wp2
  go_ret
  exact ⟨rfl, (by repeat (first | exact Ext.refl _ | refine Ext.alloc ?_ _ | refine Ext.more ?_ _ _ | refine Ext.drew ?_ | refine Ext.drewN ?_ _ | refine Ext.setCell ?_ (by simp <;> omega) _))⟩
set_option maxRecDepth 100000 in
set_option maxHeartbeats 1000000 in
theorem better_some (b off b' off' g : Nat) (x y : Int) (w : World) (hg : w.cell? ⟨g, 0, none⟩ = some (.pointer (some ⟨b', off', none⟩)))
    (hx : w.cell? ⟨b, off + 3, none⟩ = some (.int .i64 x)) (hy : w.cell? ⟨b', off' + 3, none⟩ = some (.int .i64 y)) :
    Calls Tryz.prog 70 #[.pointer (some ⟨b, off, none⟩), .pointer (some ⟨g, 0, none⟩)] w fun e w' => e = .returned (.bool (decide (y < x))) ∧ Ext w w' := by
  go_enter Tryz.func70, Tryz.ntmps70
  go_wp2_with fail
  go_quiet (fail)
  go_wp2
  go_ret
  exact ⟨rfl, (by repeat (first | exact Ext.refl _ | refine Ext.alloc ?_ _ | refine Ext.more ?_ _ _ | refine Ext.drew ?_ | refine Ext.drewN ?_ _ | refine Ext.setCell ?_ (by simp <;> omega) _))⟩
def prioAt (ss : List Sty) (j : Nat) : Int := (ss[j]?.map (·.prio)).getD 0
def stAt (ss : List Sty) (j : Nat) : Int := (ss[j]?.map (·.st)).getD 0
def betterB (ss : List Sty) (s : Sty) : Option Nat → Bool
  | none => true
  | some j => decide (prioAt ss j < s.prio)
def stOf (ss : List Sty) : Option Nat → Int
  | none => 0
  | some j => stAt ss j
/-- the best style of the first k -/
def bestIx (ss : List Sty) (kind : Int) (way : List Int) : Nat → Option Nat
  | 0 => none
  | k + 1 => match ss[k]? with
    | some s => if matchB s kind way && betterB ss s (bestIx ss kind way k) then some k else bestIx ss kind way k
    | none => bestIx ss kind way k
theorem bestIx_lt (ss : List Sty) (kind : Int) (way : List Int) : ∀ k j, bestIx ss kind way k = some j → j < k ∧ j < ss.length
  | 0, j, h => by simp [bestIx] at h
  | k + 1, j, h => by
    rw [bestIx] at h
    cases hs : ss[k]? with
    | none =>
      rw [hs] at h
      have := bestIx_lt ss kind way k j h
      omega
    | some s =>
      rw [hs] at h
      have hl : k < ss.length := (List.getElem?_eq_some_iff.1 hs).1
      have ih := bestIx_lt ss kind way k
      generalize bestIx ss kind way k = o at h ih
      by_cases hc : (matchB s kind way && betterB ss s o) = true
      · simp only [hc, if_true, Option.some.injEq] at h
        omega
      · simp only [hc, Bool.false_eq_true, if_false] at h
        have := ih j h
        omega
def styleF (ss : List Sty) (kind : Int) (way : List Int) : Int := stOf ss (bestIx ss kind way ss.length)
/-- the pointer to the best one -/
def bestPtr (b off : Nat) : Option Nat → Value
  | none => .pointer none
  | some j => .pointer (some ⟨b, off + j * 4, none⟩)
set_option maxRecDepth 100000 in
set_option maxHeartbeats 1000000 in
theorem style_any (B : Option Addr) (ss : List Sty) (c : Nat) (kind : Int) (A : Option Addr) (way : List Int) (d : Nat) (w : World) (hS : Styles w B ss) (hO : StylesOk w ss) (bs : ss.length ≤ 9223372036854775807)
    (hx : Ints w A way) (bx : way.length ≤ d) (bd : d ≤ 9223372036854775807) :
    Calls Tryz.prog 26 #[.slice B ss.length c, .int .i64 kind, .slice A way.length d] w fun e w' => e = .returned (.int .i64 (styleF ss kind way)) ∧ Ext w w' := by
  rcases (show ss.length = 0 ∨ 0 < ss.length by omega) with h0 | h0
  · obtain rfl := List.eq_nil_of_length_eq_zero h0
    go_enter Tryz.func26, Tryz.ntmps26
    go_wp2
    refine wp_loop_rounds 1 ?_
    rw [rounds_succ]
    go_wp2
    go_ret
    exact ⟨ret_int (by simp [styleF, bestIx, stOf]), (by repeat (first | exact Ext.refl _ | refine Ext.alloc ?_ _ | refine Ext.more ?_ _ _ | refine Ext.drew ?_ | refine Ext.drewN ?_ _ | refine Ext.setCell ?_ (by simp <;> omega) _))⟩
  · obtain ⟨b, off, rfl, hb, hc⟩ := hS h0
    have MA := Lib.hid (fun (s : Sty) (w1 : World) g1 g2 => matches_any s kind A way d w1 g1 g2 bx bd)
    have HC := Lib.hid hc
    have HO := Lib.hid hO
    have HX := Lib.hid hx
    have HL := Lib.hid (bestIx_lt ss kind way)
    clear hS hc hO hx
    go_enter Tryz.func26, Tryz.ntmps26
    go_wp2
    go_loopw [14] (fun i wr => ∃ k : Nat, k ≤ ss.length ∧ i = .int .i64 k ∧ Ext (w.alloc (.cells #[bestPtr b off (bestIx ss kind way k)] 121)) wr) (fun i _ => ss.length - (intOf i).toNat)
    case atStart => exact ⟨0, by omega, rfl, by unfold bestIx bestPtr; exact (by repeat (first | exact Ext.refl _ | refine Ext.alloc ?_ _ | refine Ext.more ?_ _ _ | refine Ext.drew ?_ | refine Ext.drewN ?_ _ | refine Ext.setCell ?_ (by simp <;> omega) _))⟩
    case round =>
      obtain ⟨k, hk, rfl, hE⟩ := hrel
      by_cases hlt : k < ss.length
      · obtain ⟨s, hs⟩ : ∃ s, ss[k]? = some s := ⟨_, List.getElem?_eq_getElem hlt⟩
        obtain ⟨c1, c2, c3, c4⟩ := HC.out k s hs
        have HOK := Lib.hid (HO.out s (List.mem_of_getElem? hs))
        have E0 : Hid (bestIx ss kind way (k + 1) = if matchB s kind way && betterB ss s (bestIx ss kind way k) then some k else bestIx ss kind way k) := by
          show _ = _
          rw [bestIx, hs]
        clear hs
        have LK := Lib.hid (HL.out k)
        generalize bestIx ss kind way k = o at *
        cases hm : matchB s kind way
        · have hm' : (decide (s.kind = kind) && endsB way s.path) = false := hm
          have EN : Hid (bestIx ss kind way (k + 1) = o) := by
            have := E0.out
            rw [hm] at this
            exact this
          clear hm E0 LK
          obtain ⟨os, kk, rfl⟩ := hE
          go_wp2_with (first | (go_at_call 27; refine (MA.out s _ (by exact ⟨HOK.out.1.ext ((by repeat (first | exact Ext.refl _ | refine Ext.alloc ?_ _ | refine Ext.more ?_ _ _ | refine Ext.drew ?_ | refine Ext.drewN ?_ _ | refine Ext.setCell ?_ (by simp <;> omega) _))), HOK.out.2⟩) (HX.out.ext ((by repeat (first | exact Ext.refl _ | refine Ext.alloc ?_ _ | refine Ext.more ?_ _ _ | refine Ext.drew ?_ | refine Ext.drewN ?_ _ | refine Ext.setCell ?_ (by simp <;> omega) _))))).mono ?_; rintro e w1 ⟨rfl, os1, k1, rfl⟩))
          go_roundw
          case rel => exact ⟨k + 1, by omega, by go_num, by rw [EN.out]; exact (by repeat (first | exact Ext.refl _ | refine Ext.alloc ?_ _ | refine Ext.more ?_ _ _ | refine Ext.drew ?_ | refine Ext.drewN ?_ _ | refine Ext.setCell ?_ (by simp <;> omega) _))⟩
          case measure => simp [intOf]; omega
        · have hm' : (decide (s.kind = kind) && endsB way s.path) = true := hm
          cases o with
          | none =>
            have EN : Hid (bestIx ss kind way (k + 1) = some k) := by
              have := E0.out
              rw [hm] at this
              exact this
            clear hm E0 LK
            simp only [bestPtr] at hE
            obtain ⟨os, kk, rfl⟩ := hE
            go_wp2_with (first | (go_at_call 27; refine (MA.out s _ (by exact ⟨HOK.out.1.ext ((by repeat (first | exact Ext.refl _ | refine Ext.alloc ?_ _ | refine Ext.more ?_ _ _ | refine Ext.drew ?_ | refine Ext.drewN ?_ _ | refine Ext.setCell ?_ (by simp <;> omega) _))), HOK.out.2⟩) (HX.out.ext ((by repeat (first | exact Ext.refl _ | refine Ext.alloc ?_ _ | refine Ext.more ?_ _ _ | refine Ext.drew ?_ | refine Ext.drewN ?_ _ | refine Ext.setCell ?_ (by simp <;> omega) _))))).mono ?_; rintro e w1 ⟨rfl, os1, k1, rfl⟩) | (go_at_call 70; refine (better_none _ _ _ (by simp [go_sem])).mono ?_; rintro e w1 ⟨rfl, os2, k2, rfl⟩))
            go_roundw
            case rel => exact ⟨k + 1, by omega, by go_num, by rw [EN.out]; simp only [bestPtr]; exact (by repeat (first | exact Ext.refl _ | refine Ext.alloc ?_ _ | refine Ext.more ?_ _ _ | refine Ext.drew ?_ | refine Ext.drewN ?_ _ | refine Ext.setCell ?_ (by simp <;> omega) _))⟩
            case measure => simp [intOf]; omega
          | some j =>
            obtain ⟨lj, lj2⟩ := LK.out j rfl
            obtain ⟨t, ht⟩ : ∃ t, ss[j]? = some t := ⟨_, List.getElem?_eq_getElem lj2⟩
            obtain ⟨d1, d2, d3, d4⟩ := HC.out j t ht
            have hp : prioAt ss j = t.prio := by simp [prioAt, ht]
            clear d1 d2 d3 ht LK
            by_cases hq : t.prio < s.prio
            · have hq' : decide (t.prio < s.prio) = true := decide_eq_true hq
              have EN : Hid (bestIx ss kind way (k + 1) = some k) := by
                have := E0.out
                rw [hm] at this
                simp only [betterB, hp, hq', Bool.and_self, if_true] at this
                exact this
              clear hm E0 hp
              simp only [bestPtr] at hE
              obtain ⟨os, kk, rfl⟩ := hE
              go_wp2_with (first | (go_at_call 27; refine (MA.out s _ (by exact ⟨HOK.out.1.ext ((by repeat (first | exact Ext.refl _ | refine Ext.alloc ?_ _ | refine Ext.more ?_ _ _ | refine Ext.drew ?_ | refine Ext.drewN ?_ _ | refine Ext.setCell ?_ (by simp <;> omega) _))), HOK.out.2⟩) (HX.out.ext ((by repeat (first | exact Ext.refl _ | refine Ext.alloc ?_ _ | refine Ext.more ?_ _ _ | refine Ext.drew ?_ | refine Ext.drewN ?_ _ | refine Ext.setCell ?_ (by simp <;> omega) _))))).mono ?_; rintro e w1 ⟨rfl, os1, k1, rfl⟩) | (go_at_call 70; go_must (refine (better_some b (off + k * 4) b (off + j * 4) w.heap.size s.prio t.prio _ (by simp [go_sem]) (by simp [go_sem, hb, c4]) (by simp [go_sem, hb, d4])).mono ?_); rintro e w1 ⟨rfl, os2, k2, rfl⟩))
              go_roundw
              case rel => exact ⟨k + 1, by omega, by go_num, by rw [EN.out]; simp only [bestPtr]; exact (by repeat (first | exact Ext.refl _ | refine Ext.alloc ?_ _ | refine Ext.more ?_ _ _ | refine Ext.drew ?_ | refine Ext.drewN ?_ _ | refine Ext.setCell ?_ (by simp <;> omega) _))⟩
              case measure => simp [intOf]; omega
            · have hq' : decide (t.prio < s.prio) = false := decide_eq_false hq
              have EN : Hid (bestIx ss kind way (k + 1) = some j) := by
                have := E0.out
                rw [hm] at this
                simp only [betterB, hp, hq', Bool.and_false, Bool.false_eq_true, if_false] at this
                exact this
              clear hm E0 hp
              simp only [bestPtr] at hE
              obtain ⟨os, kk, rfl⟩ := hE
              go_wp2_with (first | (go_at_call 27; refine (MA.out s _ (by exact ⟨HOK.out.1.ext ((by repeat (first | exact Ext.refl _ | refine Ext.alloc ?_ _ | refine Ext.more ?_ _ _ | refine Ext.drew ?_ | refine Ext.drewN ?_ _ | refine Ext.setCell ?_ (by simp <;> omega) _))), HOK.out.2⟩) (HX.out.ext ((by repeat (first | exact Ext.refl _ | refine Ext.alloc ?_ _ | refine Ext.more ?_ _ _ | refine Ext.drew ?_ | refine Ext.drewN ?_ _ | refine Ext.setCell ?_ (by simp <;> omega) _))))).mono ?_; rintro e w1 ⟨rfl, os1, k1, rfl⟩) | (go_at_call 70; go_must (refine (better_some b (off + k * 4) b (off + j * 4) w.heap.size s.prio t.prio _ (by simp [go_sem]) (by simp [go_sem, hb, c4]) (by simp [go_sem, hb, d4])).mono ?_); rintro e w1 ⟨rfl, os2, k2, rfl⟩))
              go_roundw
              case rel => exact ⟨k + 1, by omega, by go_num, by rw [EN.out]; simp only [bestPtr]; exact (by repeat (first | exact Ext.refl _ | refine Ext.alloc ?_ _ | refine Ext.more ?_ _ _ | refine Ext.drew ?_ | refine Ext.drewN ?_ _ | refine Ext.setCell ?_ (by simp <;> omega) _))⟩
              case measure => simp [intOf]; omega
      · obtain rfl : k = ss.length := by omega
        obtain ⟨o, ho⟩ : ∃ o, bestIx ss kind way ss.length = o := ⟨_, rfl⟩
        have LK := Lib.hid (HL.out ss.length)
        have EN : Hid (styleF ss kind way = stOf ss o) := by
          show _ = _
          rw [styleF, ho]
        rw [ho] at hE LK
        clear ho
        cases o with
        | none =>
          simp only [bestPtr] at hE
          obtain ⟨os, kk, rfl⟩ := hE
          go_wp2
          go_ret
          exact ⟨ret_int EN.out.symm, (by repeat (first | exact Ext.refl _ | refine Ext.alloc ?_ _ | refine Ext.more ?_ _ _ | refine Ext.drew ?_ | refine Ext.drewN ?_ _ | refine Ext.setCell ?_ (by simp <;> omega) _))⟩
        | some j =>
          obtain ⟨lj, lj2⟩ := LK.out j rfl
          obtain ⟨t, ht⟩ : ∃ t, ss[j]? = some t := ⟨_, List.getElem?_eq_getElem lj2⟩
          obtain ⟨d1, d2, d3, d4⟩ := HC.out j t ht
          have hp : stAt ss j = t.st := by simp [stAt, ht]
          have EN' : Hid (styleF ss kind way = t.st) := EN.out.trans hp
          clear d1 d2 d4 ht LK hp EN
          simp only [bestPtr] at hE
          obtain ⟨os, kk, rfl⟩ := hE
          go_wp2
          go_ret
          exact ⟨ret_int EN'.out.symm, (by repeat (first | exact Ext.refl _ | refine Ext.alloc ?_ _ | refine Ext.more ?_ _ _ | refine Ext.drew ?_ | refine Ext.drewN ?_ _ | refine Ext.setCell ?_ (by simp <;> omega) _))⟩
end Go.Proofs.YthpmncdfaggkiaaGreat
/- The contracts of LightStyles; the example and lives of chapter 26. -/
namespace Go.Proofs.YthpmncdfaggkiaaGreat
open Go.RowKit
attribute [local go_sem] more_drew more_drewN more_size more_cell more_frozen more_setCell drew_more drewN_more lt_add_r lt_add_r2 lt_add_r3 lt_add_r4 lt_add_r5 lt_add_r6 lt_add_r7 lt_add_r8 lt_add_r9 lt_add_r10 lt_self_r lt_self_r2
set_option maxRecDepth 100000 in
set_option maxHeartbeats 1000000 in
theorem example26 (w : World) : Calls Tryz.prog 25 #[] w fun e w' => ∃ g p : Nat, e = .returned (.slice (some ⟨g, 0, none⟩) 2 2) ∧ Ext w w' ∧ w.heap.size ≤ g ∧
    (let ss : List Sty := [⟨0, none, 0, [], 1, 0⟩, ⟨0, some ⟨p, 0, none⟩, 1, [1], 2, 1⟩]
     Styles w' (some ⟨g, 0, none⟩) ss ∧ StylesOk w' ss) := by
  go_enter Tryz.func25, Tryz.ntmps25
  go_wp2
  go_ret
  refine ⟨_, w.heap.size, rfl, (by repeat (first | exact Ext.refl _ | refine Ext.alloc ?_ _ | refine Ext.more ?_ _ _ | refine Ext.drew ?_ | refine Ext.drewN ?_ _ | refine Ext.setCell ?_ (by simp <;> omega) _)), ?_, ?_, ?_⟩
  · omega
  · intro _
    refine ⟨_, _, rfl, by simp, ?_⟩
    intro k s hk
    match k, hk with
    | 0, hk => obtain rfl : _ = s := by simpa using hk
               simp [go_sem]
    | 1, hk => obtain rfl : _ = s := by simpa using hk
               simp [go_sem]
    | k + 2, hk => simp at hk
  · intro s hs
    simp only [List.mem_cons, List.not_mem_nil, or_false] at hs
    rcases hs with rfl | rfl
    · exact ⟨Ints.nil, by simp⟩
    · refine ⟨fun _ => ⟨_, _, rfl, by simp; omega, ?_⟩, by simp⟩
      intro k hk
      match k, hk with
      | 0, _ => simp [go_sem]
set_option maxRecDepth 100000 in
set_option maxHeartbeats 1000000 in
theorem lives26 (w : World) : Calls Tryz.prog 23 #[] w fun e w' => e = .returned (.bool true) ∧ Ext w w' := by
  go_enter Tryz.func23, Tryz.ntmps23
  go_wp2_with fail
  refine (example26 _).mono ?_
  rintro e w1 ⟨g, p, rfl, ⟨os1, k1, rfl⟩, hg, hS, hO⟩
  have S1 := Lib.hid hS
  have O1 := Lib.hid hO
  clear hS hO
  go_wp2_with fail
  refine (style_any _ _ 2 0 _ [-3] 1 _ (S1.out.ext ((by repeat (first | exact Ext.refl _ | refine Ext.alloc ?_ _ | refine Ext.more ?_ _ _ | refine Ext.drew ?_ | refine Ext.drewN ?_ _ | refine Ext.setCell ?_ (by simp <;> omega) _)))) (O1.out.ext ((by repeat (first | exact Ext.refl _ | refine Ext.alloc ?_ _ | refine Ext.more ?_ _ _ | refine Ext.drew ?_ | refine Ext.drewN ?_ _ | refine Ext.setCell ?_ (by simp <;> omega) _)))) (by simp) (fun _ => ⟨_, _, rfl, by simp [more_size] <;> omega, fun k hk => ?_⟩) (by simp) (by simp)).mono ?_
  · match k, hk with
    | 0, _ => simp [go_sem]
  rintro e w2 ⟨rfl, os2, k2, rfl⟩
  have e1 : styleF [⟨0, none, 0, [], 1, 0⟩, ⟨0, some ⟨p, 0, none⟩, 1, [1], 2, 1⟩] 0 [-3] = 1 := by rfl
  rw [e1]
  go_wp2_with fail
  clear S1 O1 hg
  refine (example26 _).mono ?_
  rintro e w1 ⟨g, p, rfl, ⟨os1, k1, rfl⟩, hg, hS, hO⟩
  have S1 := Lib.hid hS
  have O1 := Lib.hid hO
  clear hS hO
  go_wp2_with fail
  refine (style_any _ _ 2 0 _ [-3, 1] 2 _ (S1.out.ext ((by repeat (first | exact Ext.refl _ | refine Ext.alloc ?_ _ | refine Ext.more ?_ _ _ | refine Ext.drew ?_ | refine Ext.drewN ?_ _ | refine Ext.setCell ?_ (by simp <;> omega) _)))) (O1.out.ext ((by repeat (first | exact Ext.refl _ | refine Ext.alloc ?_ _ | refine Ext.more ?_ _ _ | refine Ext.drew ?_ | refine Ext.drewN ?_ _ | refine Ext.setCell ?_ (by simp <;> omega) _)))) (by simp) (fun _ => ⟨_, _, rfl, by simp [more_size] <;> omega, fun k hk => ?_⟩) (by simp) (by simp)).mono ?_
  · match k, hk with
    | 0, _ => simp [go_sem]
    | 1, _ => simp [go_sem]
  rintro e w2 ⟨rfl, os2, k2, rfl⟩
  have e1 : styleF [⟨0, none, 0, [], 1, 0⟩, ⟨0, some ⟨p, 0, none⟩, 1, [1], 2, 1⟩] 0 [-3, 1] = 2 := by rfl
  rw [e1]
  go_wp2_with fail
  go_ret
  exact ⟨rfl, (by repeat (first | exact Ext.refl _ | refine Ext.alloc ?_ _ | refine Ext.more ?_ _ _ | refine Ext.drew ?_ | refine Ext.drewN ?_ _ | refine Ext.setCell ?_ (by simp <;> omega) _))⟩
end Go.Proofs.YthpmncdfaggkiaaGreat
/- The contracts of light of chapter 26, styles.Leaf. -/
namespace Go.Proofs.YthpmncdfaggkiaaGreat
open Go.RowKit
attribute [local go_sem] more_drew more_drewN more_size more_cell more_frozen more_setCell drew_more drewN_more lt_add_r lt_add_r2 lt_add_r3 lt_add_r4 lt_add_r5 lt_add_r6 lt_add_r7 lt_add_r8 lt_add_r9 lt_add_r10 lt_self_r lt_self_r2
theorem Ints.left {w : World} {A : Option Addr} {us vs : List Int} (h : Ints w A (us ++ vs)) : Ints w A us := fun h0 => by
  obtain ⟨b, off, hA, hb, hc⟩ := h (by rw [List.length_append]; omega)
  refine ⟨b, off, hA, hb, fun k hk => ?_⟩
  rw [hc k (by rw [List.length_append]; omega), List.getD_eq_getElem?_getD, List.getD_eq_getElem?_getD, List.getElem?_append_left hk]
section
variable {B : Option Addr} {ss : List Sty} {cs : Nat} {A : Option Addr} {c : Nat} {ts : List Prt} {w : World}
set_option maxRecDepth 100000 in
set_option maxHeartbeats 2000000 in
theorem leaf26_yes {j : Nat} {p : Prt} {us : List Int} (hS : Styles w B ss) (hO : StylesOk w ss) (bs : ss.length ≤ 9223372036854775807) (h : PS w A c ts) (T : Tree (nds ts)) (hp : ts[j]? = some p) (hk : p.nd.kind = 3 ∨ p.nd.kind = 5) (hw : Way (nds ts) j (us ++ [p.nd.sym])) :
    Calls Tryz.prog 28 #[.slice B ss.length cs, .slice A ts.length c, .int .i64 j] w fun e w' => e = .returned (.int .i64 (styleF ss p.nd.sym us)) ∧ Ext w w' := by
  have HS := Lib.hid hS
  have HO := Lib.hid hO
  have S := Lib.hid h
  have HT := Lib.hid T
  have HW := Lib.hid hw
  have hl := h.few.len
  have hjl := (List.getElem?_eq_some_iff.1 hp).1
  have HPP := Lib.hid hp
  have HK := Lib.hid hk
  have CK := Lib.hid (check_ok h T)
  have hwl : us.length + 1 ≤ 1001 := by have := hw.length T; rw [List.length_append] at this; simp at this; omega
  have k3 : p.nd.kind = 3 ∨ (p.nd.kind ≠ 3 ∧ p.nd.kind = 5) := by omega
  clear hS hO h T hw hp hk
  go_enter Tryz.func28, Tryz.ntmps28
  go_upto_region 1 with fail
  go_cut [36] (fun t wx => t = .bool false ∧ Hid (Ext w wx))
  case first =>
    go_wp2_with fail
    refine CK.out.mono ?_
    rintro e w1 ⟨rfl, hx1⟩
    have HX1 := Lib.hid hx1
    obtain ⟨b, off, rfl, hb, hcell⟩ := (S.out.ext hx1).parts (by omega)
    have d1 := (hcell j p HPP.out).2.1
    clear hx1 hcell
    rcases k3 with k | ⟨k, k'⟩
    · have k1 : (p.nd.kind != 3) = false := by simp [k]
      go_wp2_with fail
      go_meet
      exact ⟨by congr 1; simp; omega, HX1⟩
    · have k1 : (p.nd.kind != 3) = true := by simp [k]
      have k2 : (p.nd.kind != 5) = false := by simp [k']
      go_wp2_with fail
      go_meet
      exact ⟨by congr 1; simp; omega, HX1⟩
  case rest =>
    obtain ⟨rfl, HX1⟩ := hcut
    have CP := Lib.hid (Path_yes j _ (S.out.ext HX1.out) HT.out HW.out hjl)
    clear k3
    go_wp2_with fail
    refine CP.out.mono ?_
    rintro e w2 ⟨A2, c2, rfl, ho, hx2⟩
    have HX2 := Lib.hid (HX1.out.trans hx2)
    have O2 := Lib.hid ho
    have hlw : (us ++ [p.nd.sym]).length = us.length + 1 := by simp
    obtain ⟨b, off, rfl, hb, hcell⟩ := (S.out.ext HX2.out).parts (by omega)
    have d0 := (hcell j p HPP.out).1
    rw [hlw]
    clear hx2 ho hcell hlw
    go_upto_region 4 with fail
    have ST := Lib.hid (fun (V : World) (x : Ext w2 V) => style_any B ss cs p.nd.sym A2 us c2 V (HS.out.ext (HX2.out.trans x)) (HO.out.ext (HX2.out.trans x)) bs (O2.out.ints.1.left.ext x) (by have := O2.out.ints.2.1; simp at this; omega) (by have := O2.out.ints.2.2.1; unfold maxLen at this; omega))
    have ol1 : us.length + 1 ≤ c2 := by have := O2.out.ints.2.1; simpa using this
    have ol2 : c2 ≤ 9223372036854775807 := by have := O2.out.ints.2.2.1; unfold maxLen at this; omega
    refine wp_region_ext (by kernel_rfl) (by kernel_rfl) ?_
    repeat (go_big_quiet_step ((go_at_call 26; exact calls_ext (ST.out _ (by repeat (first | exact Ext.refl _ | refine Ext.alloc ?_ _ | refine Ext.more ?_ _ _ | refine Ext.drew ?_ | refine Ext.drewN ?_ _ | refine Ext.setCell ?_ (by simp <;> omega) _))))))
    refine wpQuiet_nil ?_
    intro _ hw'
    obtain ⟨x9, rfl⟩ := hw'
    go_wp2_with fail
    go_ret
    exact ⟨rfl, HX2.out.trans (by repeat (first | exact Ext.refl _ | refine Ext.alloc ?_ _ | refine Ext.more ?_ _ _ | refine Ext.drew ?_ | refine Ext.drewN ?_ _ | refine Ext.setCell ?_ (by simp <;> omega) _))⟩
end
end Go.Proofs.YthpmncdfaggkiaaGreat
