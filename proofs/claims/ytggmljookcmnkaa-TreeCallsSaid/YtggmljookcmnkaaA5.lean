/- A5: 2 texts in one. -/
import Derived.Test.YtggmljookcmnkaaA1
import Derived.Test.YtggmljookcmnkaaTr
import Derived.OwnWalkIn
import Derived.TacticsInMore
import Derived.LoopNIn
import Derived.LoopIn
import Derived.Deep.LoopGhost
import Derived.Laws.EntriesVeiled
import Derived.WalkSpells
import Derived.WalkLawsBesides
import Derived.BigRegion
import Derived.Deep.RegionWith
import Derived.Deep.QuietTactic
import Derived.Deep.DeepCutAuto
import Derived.Deep.RegionHeld3
import Derived.Deep.RegionLaw
import Derived.BigQuiet
import Derived.Lib.Hide
/- The contract of walk: its closures. -/
namespace Go.Proofs.Ytggmljookcmnkaa
open Go.RowKit
attribute [local go_sem] more_drew more_drewN more_size more_cell more_frozen more_setCell drew_more drewN_more lt_add_r lt_add_r2 lt_add_r3 lt_add_r4 lt_add_r5 lt_add_r6 lt_add_r7 lt_add_r8 lt_add_r9 lt_add_r10 lt_self_r lt_self_r2
attribute [local go_sem] Oper.semAt_some

abbrev pt (b : Nat) : Value := .pointer (some ⟨b, 0, none⟩)
/-- what 'down' lies among -/
structure Dn where
  w0 : World
  A : Option Addr
  c : Nat
  ps : List Prt
  B : Nat
  bl : Nat
  bY : Nat
  bd : Nat
  nx : Nat
  lY : Nat
  S : Nat → Prop
  J : Nat → World → Prop
  Jx : Nat → World → Prop
def Dn.Fix (D : Dn) (W : World) : Prop :=
  Below D.w0.heap.size D.w0 W ∧ W.heap[D.bl]? = some (.cells #[.slice D.A D.ps.length D.c] 23) ∧ W.heap[D.bY]? = some (.cells #[.func (.yield D.lY) #[] #[]] 91) ∧
  W.heap[D.bd]? = some (.cells #[.func (.func 133) #[] #[pt D.nx, pt D.bl, pt D.bY, pt D.bd]] 91) ∧ D.B ≤ W.heap.size
structure Dn.Ok (D : Dn) : Prop where
  parts : Prts D.w0 D.A D.ps
  oks : PrtsOk D.w0 D.ps
  len : D.ps.length ≤ 1000000
  w0 : D.w0.heap.size ≤ D.B
  bl : D.w0.heap.size ≤ D.bl ∧ D.bl < D.B ∧ ¬ D.S D.bl
  bY : D.B ≤ D.bY
  bd : D.B ≤ D.bd
  nx : D.B ≤ D.nx ∧ D.nx ≠ D.bY ∧ D.nx ≠ D.bd
  free : ∀ b, b < D.w0.heap.size → ¬ D.S b
  hJ : ∀ j W W', Below D.B W W' → D.J j W → D.J j W'
  hJx : ∀ j W W', Below D.B W W' → D.Jx j W → D.Jx j W'
theorem Dn.Fix.turn {D : Dn} (O : D.Ok) {W W' : World} (h : D.Fix W) (t : Turn (fun b => (D.S b ∧ b < D.B) ∨ b = D.nx) W W') : D.Fix W' := by
  obtain ⟨h1, h2, h3, h4, h5⟩ := h
  have ob := O.bl
  have oy := O.bY
  have od := O.bd
  have on := O.nx
  have o0 := O.w0
  refine ⟨h1.trans (t.below h1.size fun k hk => ?_), (t.block _ (lt_of_heap h2) ?_).trans h2, (t.block _ (lt_of_heap h3) ?_).trans h3, (t.block _ (lt_of_heap h4) ?_).trans h4, Nat.le_trans h5 t.size⟩
  · rcases hk with hk | hk
    · exact Nat.le_of_not_lt fun hlt => O.free k hlt hk.1
    · omega
  · rintro (hk | hk)
    · exact ob.2.2 hk.1
    · omega
  · rintro (hk | hk) <;> omega
  · rintro (hk | hk) <;> omega
theorem Dn.Fix.ext {D : Dn} (O : D.Ok) {W W' : World} (h : D.Fix W) (e : Ext W W') : D.Fix W' := h.turn O (Turn.of_ext e)
/-- the counter -/
def Dn.Nx (D : Dn) (n : Nat) (W : World) : Prop := W.heap[D.nx]? = some (.cells #[.int .i64 (n : Int)] 3)
def Dn.Post (D : Dn) (ok : Bool) (m : Nat) (e : Ending) (W' : World) : Prop :=
  D.Fix W' ∧ ((e = .returned (.bool ok) ∧ D.Nx m W' ∧ D.J m W') ∨ (e = .returned (.bool false) ∧ ∃ j, j ≤ m ∧ D.Jx j W'))
def encI (x : Int) : Array Value := #[.int .i64 x]
theorem Trek.uncons {l : List Nd} {k : Int} {ks : List Int} {n m : Nat} {ok : Bool} (h : Trek l (k :: ks) n ok m) : (ok = false ∧ Trek l [k] n false m) ∨ ∃ m1, Trek l [k] n true m1 ∧ Trek l ks m1 ok m := by
  cases h with
  | bad _ _ _ hb => exact .inl ⟨rfl, .bad k [] n hb⟩
  | sub p _ _ _ hp h1 => exact .inl ⟨rfl, .sub p [] n m hp h1⟩
  | cons p _ _ m1 _ _ hp h1 h2 => exact .inr ⟨m1, .cons p [] n m1 true m1 hp h1 (.nil m1), h2⟩
set_option maxRecDepth 100000 in
set_option maxHeartbeats 3000000 in
theorem down_stop (D : Dn) (n : Nat) (at_ : Int) (ok : Bool) (m : Nat) (W : World) (_ : n ≤ 1000000) (_ : D.ps.length ≤ 1000000) (hs : at_ ≠ (n : Int) ∨ D.ps.length ≤ n) (ht : Trek (nds D.ps) [at_] n ok m) (hF : D.Fix W) (hN : D.Nx n W) (hJ : D.J n W) :
    Calls Try.prog 133 #[.int .i64 at_, pt D.nx, pt D.bl, pt D.bY, pt D.bd] W (D.Post ok m) := by
  obtain ⟨rfl, hmn⟩ := ht.stop (by rw [nds_length]; exact hs)
  obtain rfl : n = m := hmn.symm
  obtain ⟨f1, f2, f3, f4, f5⟩ := hF
  have c1 := cell_of_row _ _ 0 _ _ _ f2
  have c4 := cell_of_row _ _ 0 _ _ _ hN
  simp at c1 c4
  have l1 := lt_of_heap f2
  have l4 := lt_of_heap hN
  have HF : Hid (D.Fix W) := ⟨f1, f2, f3, f4, f5⟩
  have HN := Lib.hid hN
  have HJ := Lib.hid hJ
  clear hN hJ ht f1 f2 f3 f4
  by_cases ha : at_ = (n : Int)
  · subst ha
    have hle : D.ps.length ≤ n := by omega
    clear hs
    go_enter Try.func133, Try.ntmps133
    go_wp2_with fail
    go_ret
    exact ⟨HF.out, .inl ⟨rfl, HN.out, HJ.out⟩⟩
  · have ha1 : (at_ != (n : Int)) = true := by simpa using ha
    clear hs
    go_enter Try.func133, Try.ntmps133
    go_wp2_with fail
    go_ret
    exact ⟨HF.out, .inl ⟨rfl, HN.out, HJ.out⟩⟩
set_option maxRecDepth 100000 in
set_option maxHeartbeats 3000000 in
theorem down_any (D : Dn) (O : D.Ok) (M : Nat)
    (hY : ∀ (j : Nat) (W : World), j < M → D.B ≤ W.heap.size → D.J j W → YieldAt Fence.wide 0 Try.prog D.lY (encI (j : Int)) W fun e W' =>
      (e = .returned (.bool true) ∧ D.J (j + 1) W' ∧ Turn (fun b => D.S b ∧ b < D.B) W W') ∨ (e = .returned (.bool false) ∧ D.Jx (j + 1) W' ∧ Turn (fun b => D.S b ∧ b < D.B) W W')) :
    ∀ (fuel n : Nat) (at_ : Int) (ok : Bool) (m : Nat) (W : World), D.ps.length - n ≤ fuel → n ≤ 1000000 → m ≤ M → Trek (nds D.ps) [at_] n ok m → D.Fix W → D.Nx n W → D.J n W →
      Calls Try.prog 133 #[.int .i64 at_, pt D.nx, pt D.bl, pt D.bY, pt D.bd] W (D.Post ok m) := by
  intro fuel
  induction fuel with
  | zero =>
    intro n at_ ok m W hf hn hm ht hF hN hJ
    exact down_stop D n at_ ok m W hn O.len (.inr (by omega)) ht hF hN hJ
  | succ fuel ih =>
    intro n at_ ok m W hf hn hm ht hF hN hJ
    by_cases hs : at_ ≠ (n : Int) ∨ D.ps.length ≤ n
    · exact down_stop D n at_ ok m W hn O.len hs ht hF hN hJ
    obtain rfl : at_ = (n : Int) := Decidable.byContradiction fun hc => hs (.inl hc)
    have hlt : n < D.ps.length := Nat.lt_of_not_le fun hc => hs (.inr hc)
    obtain ⟨⟨qn, kA, kcap⟩, hq⟩ : ∃ q, D.ps[n]? = some q := ⟨_, List.getElem?_eq_getElem hlt⟩
    have hdec : decide (D.ps.length ≤ n) = false := decide_eq_false (by omega)
    have ht2 := Trek.ofOne (nds_get hq) ht
    have hnm := ht2.le.1
    have hF0 := hF
    obtain ⟨f1, f2, f3, f4, f5⟩ := hF
    have c1 := cell_of_row _ _ 0 _ _ _ f2
    have c2 := cell_of_row _ _ 0 _ _ _ f3
    have c4 := cell_of_row _ _ 0 _ _ _ hN
    simp at c1 c2 c4
    have l1 := lt_of_heap f2
    have l2 := lt_of_heap f3
    have l4 := lt_of_heap hN
    obtain ⟨fn, tmps, assign, body, hy, hRound⟩ := hY n W (by omega) f5 hJ
    unfold encI at hy
    have HF := Lib.hid hF0
    have HN := Lib.hid hN
    have HT := Lib.hid ht2
    have HO := Lib.hid O
    have IH := Lib.hid ih
    have HR := Lib.hid hRound
    have HQ := Lib.hid hq
    have hlen := O.len
    clear hN hJ ht ht2 O hY ih f1 f2 f3 f4 hs hRound hF0 hq
    go_enter Try.func133, Try.ntmps133
    go_upto_region 1 with fail
    refine (wpIn_wide (n := 1)).1 ?_
    gi_wp2
    refine HR.out.mono ?_
    rintro e w8 (⟨rfl, hJ8, t8⟩ | ⟨rfl, hJ8, t8⟩)
    · have t8' : Turn (fun b => (D.S b ∧ b < D.B) ∨ b = D.nx) W w8 := t8.mono fun k _ hk => .inl hk
      have h8 := HF.out.turn HO.out t8'
      have n8 : D.Nx n w8 := (t8.block _ l4 (fun hk => by have := HO.out.nx; omega)).trans HN.out
      have a4 := cell_of_row _ _ 0 _ _ _ n8
      have a1 := cell_of_row _ _ 0 _ _ _ h8.2.1
      simp at a1 a4
      have a5 : w8.frozen? ⟨D.nx, 0, none⟩ = false := by simp [World.frozen?, show w8.heap[D.nx]? = _ from n8]
      have a6 := lt_of_heap n8
      have a7 := lt_of_heap h8.2.1
      have hbn : D.bl ≠ D.nx := by have := HO.out.nx; have := HO.out.bl; omega
      obtain ⟨b, off, hA, hb, hcell⟩ := (HO.out.parts.below h8.1) (by omega)
      have hbw : b < D.w0.heap.size := by
        obtain ⟨b', off', hA', hb', _⟩ := HO.out.parts (by omega)
        rw [hA] at hA'
        injection hA' with hA'
        injection hA' with hA'
        omega
      have hbx : b ≠ D.nx := by have := HO.out.nx; have := HO.out.w0; omega
      obtain ⟨_, _, _, _, _, _, d6, _⟩ := hcell n _ HQ.out
      have hA1 := hA
      rw [hA] at a1
      obtain ⟨w9, hw9⟩ : ∃ w9, w8.setCell ⟨D.nx, 0, none⟩ (.int .i64 ((n : Int) + 1)) = w9 := ⟨_, rfl⟩
      have T9 : Turn (fun b => (D.S b ∧ b < D.B) ∨ b = D.nx) w8 w9 := hw9 ▸ Turn.setCell (S := fun b => (D.S b ∧ b < D.B) ∨ b = D.nx) w8 (p := ⟨D.nx, 0, none⟩) (.inr rfl) _
      have F9 := Lib.hid (h8.turn HO.out T9)
      have N9 : Hid (D.Nx (n + 1) w9) := by
        rw [← hw9]
        show (World.heap _)[D.nx]? = _
        simp [World.setCell, Array.getElem?_modify, show w8.heap[D.nx]? = _ from n8]
      have J9 : Hid (D.J (n + 1) w9) := HO.out.hJ _ _ _ (by
        rw [← hw9]
        exact (Turn.setCell (S := fun b => b = D.nx) w8 (p := ⟨D.nx, 0, none⟩) rfl _).below h8.2.2.2.2 (fun k hk => by have := HO.out.nx; omega)) hJ8
      clear t8 t8' hy HR hcell h8 n8 hJ8 T9
      have KO := Lib.hid (HO.out.oks.get HQ.out)
      have kc1 : qn.kids.length ≤ kcap := KO.out.cap
      have kc2 : kcap ≤ 9223372036854775807 := KO.out.top
      have HW9 := Lib.hid hw9
      clear hw9
      gi_wp2
      go_wp2_with fail
      rw [HW9.out]
      clear HW9 a4 a5 a6 a7 c1 c2 c4 l1 l2 l4 f5 hA hA1 d6
      go_loopg [32] qn.kids.length (fun g s32 wr => ∃ j n2 : Nat, j ≤ qn.kids.length ∧ Hid (g = qn.kids.length - j) ∧ s32 = .int .i64 j ∧ n < n2 ∧ n2 ≤ D.ps.length ∧ Hid (D.Fix wr ∧ D.Nx n2 wr ∧ D.J n2 wr ∧ Trek (nds D.ps) (qn.kids.drop j) n2 ok m))
      case atStart => exact ⟨0, n + 1, Nat.zero_le _, Lib.hid rfl, rfl, by omega, by omega, Lib.hid ⟨F9.out, N9.out, J9.out, HT.out⟩⟩
      case round =>
        obtain ⟨j, n2, hj, hg, rfl, hn2, hn3, hH⟩ := hrel
        by_cases hjl : j < qn.kids.length
        · obtain ⟨k1, k2, k3, k4⟩ := hH.out
          obtain ⟨b, off, hA, hb, hcell⟩ := ((KO.out.below k1.1)).kids (by show 0 < qn.kids.length; omega)
          change kA = _ at hA
          subst hA
          have d1 := hcell j hjl
          generalize hkd : qn.kids.getD j 0 = kid at *
          have hk4 : Trek (nds D.ps) (kid :: qn.kids.drop (j + 1)) n2 ok m := by
            rw [List.drop_eq_getElem_cons hjl] at k4
            have e : qn.kids[j] = kid := by rw [← hkd, List.getD_eq_getElem?_getD, List.getElem?_eq_getElem hjl]; rfl
            rw [e] at k4
            exact k4
          have g3 := cell_of_row _ _ 0 _ _ _ k1.2.2.2.1
          simp at g3
          have g4 := lt_of_heap k1.2.2.2.1
          obtain ⟨ok2, m2, hm2, hT2⟩ : ∃ ok2 m2, m2 ≤ M ∧ Trek (nds D.ps) [kid] n2 ok2 m2 ∧ m2 ≤ m ∧ ((ok2 = false ∧ ok = false ∧ m2 = m) ∨ (ok2 = true ∧ Trek (nds D.ps) (qn.kids.drop (j + 1)) m2 ok m)) := by
            rcases hk4.uncons with ⟨rfl, h⟩ | ⟨m1, h1, h2⟩
            · exact ⟨false, m, hm, h, Nat.le_refl _, .inl ⟨rfl, rfl, rfl⟩⟩
            · have := h2.le.1
              exact ⟨true, m1, by omega, h1, this, .inr ⟨rfl, h2⟩⟩
          have CALL := Lib.hid (IH.out n2 kid ok2 m2 wr (by omega) (by omega) hm2 hT2.1 k1 k2 k3)
          have HT2 := Lib.hid hT2
          have hn4 : n2 ≤ m2 := hT2.1.le.1
          have hn5 : m2 ≤ D.ps.length := by have := hT2.1.le.2 (by rw [nds_length]; omega); rwa [nds_length] at this
          clear hcell hkd k1 k2 k3 k4 hk4 hT2 hH
          go_wp2_with fail
          refine CALL.out.mono ?_
          rintro e w3 ⟨f3, (⟨rfl, n3, j3⟩ | ⟨rfl, jx, x1, x2⟩)⟩
          · obtain ⟨h1, h2, (⟨rfl, rfl, rfl⟩ | ⟨rfl, h3⟩)⟩ := HT2.out
            · go_wp2_with fail
              go_ret
              exact ⟨f3, .inl ⟨rfl, n3, j3⟩⟩
            · have HH : Hid (D.Fix w3 ∧ D.Nx m2 w3 ∧ D.J m2 w3 ∧ Trek (nds D.ps) (qn.kids.drop (j + 1)) m2 ok m) := ⟨f3, n3, j3, h3⟩
              clear f3 n3 j3 h3 h1 HT2 CALL g3
              go_wp2_with fail
              go_roundg (qn.kids.length - (j + 1))
              case measure => have := hg.out; omega
              case rel => exact ⟨j + 1, m2, by omega, Lib.hid rfl, by go_num, by omega, by omega, HH⟩
          · go_wp2_with fail
            go_ret
            exact ⟨f3, .inr ⟨rfl, jx, by have := HT2.out.2.1; omega, x2⟩⟩
        · obtain rfl : j = qn.kids.length := by omega
          obtain ⟨k1, k2, k3, k4⟩ := hH.out
          rw [List.drop_eq_nil_of_le (Nat.le_refl _)] at k4
          cases k4
          go_wp2_with fail
          go_ret
          exact ⟨k1, .inl ⟨rfl, k2, k3⟩⟩
    · have t8' : Turn (fun b => (D.S b ∧ b < D.B) ∨ b = D.nx) W w8 := t8.mono fun k _ hk => .inl hk
      have h8 := HF.out.turn HO.out t8'
      clear t8 t8' hy HR
      gi_wp2
      go_wp2_with fail
      go_ret
      exact ⟨h8, .inr ⟨rfl, n + 1, by omega, hJ8⟩⟩
end Go.Proofs.Ytggmljookcmnkaa

/- The contract of walk: the iterator. -/
namespace Go.Proofs.Ytggmljookcmnkaa
open Go.RowKit
attribute [local go_sem] more_drew more_drewN more_size more_cell more_frozen more_setCell drew_more drewN_more lt_add_r lt_add_r2 lt_add_r3 lt_add_r4 lt_add_r5 lt_add_r6 lt_add_r7 lt_add_r8 lt_add_r9 lt_add_r10 lt_self_r lt_self_r2
attribute [local go_sem] Oper.semAt_some

def places (M : Nat) : List Int := (List.range M).map fun (n : Nat) => (n : Int)
theorem places_get {M j : Nat} {x : Int} (h : (places M)[j]? = some x) : x = (j : Int) ∧ j < M := by
  unfold places at h
  rw [List.getElem?_map] at h
  cases hj : (List.range M)[j]? with
  | none => rw [hj] at h; cases h
  | some k =>
    rw [hj] at h
    injection h with h
    obtain ⟨h1, h2⟩ := List.getElem?_eq_some_iff.1 hj
    rw [List.getElem_range] at h2
    rw [List.length_range] at h1
    subst h2
    exact ⟨h.symm, h1⟩
theorem places_at {M j : Nat} (h : j < M) : (places M)[j]? = some (j : Int) := by
  unfold places
  rw [List.getElem?_map, List.getElem?_range h]
  rfl
theorem places_length (M : Nat) : (places M).length = M := by
  unfold places
  rw [List.length_map, List.length_range]

theorem ext_block {w w' : World} {o : Nat} {ob : Obj} (h : w.heap[o]? = some ob) (e : Ext w w') : w'.heap[o]? = some ob := (e.below.block o (lt_of_heap h)).trans h
theorem walk_make (A : Option Addr) (n c : Nat) (w : World) :
    Calls Try.prog 96 #[.slice A n c, .int .i64 0] w fun e w' => e = .returned (.func (.func 132) #[] #[pt (w.heap.size + 1), pt w.heap.size]) ∧
      w' = (w.alloc (.cells #[.slice A n c] 23)).alloc (.cells #[.int .i64 0] 3) := by
  go_enter Try.func96, Try.ntmps96
  go_wp2_with fail
  go_ret
  exact ⟨rfl, rfl⟩
set_option maxRecDepth 100000 in
set_option maxHeartbeats 3000000 in
theorem walk_iter (A : Option Addr) (c : Nat) (ps : List Prt) (w0 w1 : World) (lb ib : Nat) (S : Nat → Prop) (ok : Bool) (M : Nat) (hP : Prts w0 A ps) (hO : PrtsOk w0 ps) (hlen : ps.length ≤ 1000000)
    (h0 : Below w0.heap.size w0 w1) (hlb : w1.heap[lb]? = some (.cells #[.slice A ps.length c] 23)) (hl0 : w0.heap.size ≤ lb) (hlS : ¬ S lb) (hib : w1.heap[ib]? = some (.cells #[.int .i64 0] 3))
    (hfree : ∀ b, b < w0.heap.size → ¬ S b) (ht : Trek (nds ps) [0] 0 ok M) : IterB Try.prog 132 #[pt ib, pt lb] encI (places M) S w1 := by
  intro l J Jx hJ hJx hY hJ0
  obtain ⟨D, hD⟩ : ∃ D : Dn, D = { w0, A, c, ps, B := w1.heap.size, bl := lb, bY := w1.heap.size, bd := w1.heap.size + 1 + 1, nx := w1.heap.size + 1, lY := l, S, J, Jx } := ⟨_, rfl⟩
  have hlbl := lt_of_heap hlb
  have hibl := lt_of_heap hib
  have c1 := cell_of_row _ _ 0 _ _ _ hib
  simp at c1
  have O : Hid D.Ok := by
    subst hD
    exact ⟨hP, hO, hlen, h0.size, ⟨hl0, hlbl, hlS⟩, Nat.le_refl _, by show w1.heap.size ≤ w1.heap.size + 1 + 1; omega, by show w1.heap.size ≤ w1.heap.size + 1 ∧ w1.heap.size + 1 ≠ w1.heap.size ∧ w1.heap.size + 1 ≠ w1.heap.size + 1 + 1; omega, hfree, hJ, hJx⟩
  have HY : Hid (∀ (j : Nat) (W : World), j < M → D.B ≤ W.heap.size → D.J j W → YieldAt Fence.wide 0 Try.prog D.lY (encI (j : Int)) W fun e W' =>
      (e = .returned (.bool true) ∧ D.J (j + 1) W' ∧ Turn (fun b => D.S b ∧ b < D.B) W W') ∨ (e = .returned (.bool false) ∧ D.Jx (j + 1) W' ∧ Turn (fun b => D.S b ∧ b < D.B) W W')) := by
    subst hD
    exact fun j W hj hB hJj => hY j _ W (places_at hj) hB hJj
  have HD := Lib.hid hD
  have HJ0 := Lib.hid hJ0
  have H0 := Lib.hid h0
  have HT := Lib.hid ht
  have HLB := Lib.hid hlb
  have HJ := Lib.hid hJ
  clear hD hY hJ0 h0 hJ hJx ht hlb hfree hP hO
  simp only [List.append_toArray, List.cons_append, List.nil_append]
  go_enter Try.func132, Try.ntmps132
  go_wp2_with fail
  obtain rfl := HD.out
  obtain ⟨W4, hW4⟩ : ∃ W4, ((w1.alloc (.cells #[.func (.yield l) #[] #[]] 91)).alloc (.cells #[.int .i64 0] 3)).alloc (.cells #[.func (.func 133) #[] #[pt (w1.heap.size + 1), pt lb, pt w1.heap.size, pt (w1.heap.size + 1 + 1)]] 91) = W4 := ⟨_, rfl⟩
  have x4 : Ext w1 W4 := hW4 ▸ (by repeat (first | exact Ext.refl _ | refine Ext.alloc ?_ _ | refine Ext.more ?_ _ _ | refine Ext.drew ?_ | refine Ext.drewN ?_ _ | refine Ext.setCell ?_ (by simp <;> omega) _))
  have s4 : W4.heap.size = w1.heap.size + 3 := by rw [← hW4]; simp
  have g1 : W4.heap[w1.heap.size]? = some (.cells #[.func (.yield l) #[] #[]] 91) := by
    rw [← hW4]
    exact ext_block (heap_alloc_new w1 _) (by repeat (first | exact Ext.refl _ | refine Ext.alloc ?_ _ | refine Ext.more ?_ _ _ | refine Ext.drew ?_ | refine Ext.drewN ?_ _ | refine Ext.setCell ?_ (by simp <;> omega) _))
  have g2 : W4.heap[w1.heap.size + 1]? = some (.cells #[.int .i64 0] 3) := by
    rw [← hW4]
    have := heap_alloc_new (w1.alloc (.cells #[.func (.yield l) #[] #[]] 91)) (.cells #[.int .i64 0] 3)
    rw [World.size_alloc] at this
    exact ext_block this (by repeat (first | exact Ext.refl _ | refine Ext.alloc ?_ _ | refine Ext.more ?_ _ _ | refine Ext.drew ?_ | refine Ext.drewN ?_ _ | refine Ext.setCell ?_ (by simp <;> omega) _))
  have g3 : W4.heap[w1.heap.size + 1 + 1]? = some (.cells #[.func (.func 133) #[] #[pt (w1.heap.size + 1), pt lb, pt w1.heap.size, pt (w1.heap.size + 1 + 1)]] 91) := by
    rw [← hW4]
    have := heap_alloc_new ((w1.alloc (.cells #[.func (.yield l) #[] #[]] 91)).alloc (.cells #[.int .i64 0] 3)) (.cells #[.func (.func 133) #[] #[pt (w1.heap.size + 1), pt lb, pt w1.heap.size, pt (w1.heap.size + 1 + 1)]] 91)
    rw [World.size_alloc, World.size_alloc] at this
    exact this
  rw [hW4]
  refine (down_any _ O.out M HY.out ps.length 0 0 ok M W4 (by show ps.length - 0 ≤ _; omega) (by omega) (Nat.le_refl _) HT.out ⟨H0.out.trans (x4.below.mono H0.out.size), ext_block HLB.out x4, g1, g3, by show w1.heap.size ≤ _; omega⟩ g2 (HJ.out 0 _ _ x4.below HJ0.out)).mono ?_
  rintro e w5 ⟨f5, hp⟩
  have hsz : w1.heap.size ≤ w5.heap.size := f5.2.2.2.2
  rcases hp with ⟨rfl, _, j5⟩ | ⟨rfl, j, hj, j5⟩
  · go_wp2_with fail
    go_end0
    exact ⟨⟨_, rfl⟩, hsz, .inl (by rw [places_length]; exact j5)⟩
  · go_wp2_with fail
    go_end0
    exact ⟨⟨_, rfl⟩, hsz, .inr ⟨j, by rw [places_length]; exact hj, j5⟩⟩
end Go.Proofs.Ytggmljookcmnkaa
