/- The contract of reuse.Take; the chapter's example, lives of chapter 21. -/
import Derived.Test.YtaffaeompdlecaaH5
import Derived.Test.YtaffaeompdlecaaD3
import Derived.Test.YtaffaeompdlecaaB7
import Derived.WalkSpells
import Derived.WalkLawsBesides
import Derived.BigRegion
import Derived.Deep.RegionWith
import Derived.Deep.QuietTactic
import Derived.Deep.DeepCutAuto
import Derived.Deep.RegionHeld3
import Derived.Deep.RegionLaw
import Derived.BigQuiet
import Derived.Lib.Hide
namespace Go.Proofs.Ytaffaeompdlecaa
open Go.RowKit
attribute [local go_sem] more_drew more_drewN more_size more_cell more_frozen more_setCell drew_more drewN_more lt_add_r lt_add_r2 lt_add_r3 lt_add_r4 lt_add_r5 lt_add_r6 lt_add_r7 lt_add_r8 lt_add_r9 lt_add_r10 lt_self_r lt_self_r2

/-- a part that is not stale: nothing in it is -/
theorem StaleOk.inner {l : List Nd} {st : List Bool} (h : StaleOk l st) {k m : Nat} (hp : Part l k m) (hs : st[k]? = some false) : ∀ (j : Nat), k ≤ j → j < m → st[j]? = some false := by
  obtain ⟨p, hpk⟩ : ∃ p, l[k]? = some p := ⟨_, List.getElem?_eq_getElem hp.lt⟩
  have t := Trek.ofOne hpk hp.trek
  have kidOf : ∀ (i : Nat) (q : Nd), l[i]? = some q → st[i]? = some false → ∀ (c : Nat), (c : Int) ∈ q.kids → c < l.length → st[c]? = some false := fun i q hq hi c hc hcl => by
    have e := h.2 i q hq
    rw [hi] at e
    injection e with e
    have e2 := (Bool.or_eq_false_iff.1 e.symm).2
    have := List.any_eq_false.1 e2 (c : Int) hc
    rw [Int.toNat_natCast] at this
    obtain ⟨v, hv⟩ : ∃ v, st[c]? = some v := ⟨_, List.getElem?_eq_getElem (by rw [h.1]; exact hcl)⟩
    rw [hv] at this ⊢
    simpa using this
  intro j
  induction j using Nat.strongRecOn with
  | _ j ih =>
    intro h1 h2
    have hjl : j < l.length := by have := hp.le; omega
    rcases Nat.eq_or_lt_of_le h1 with rfl | hlt
    · exact hs
    · rcases t.whose rfl j hlt h2 with hk | ⟨j', q, a, b, c, d⟩
      · exact kidOf k p hpk hs j hk hjl
      · exact kidOf j' q c (ih j' b (by omega) (by omega)) j d hjl
/-- what Take takes: the part k, up to m -/
def TakeOk (l : List Nd) (sym at_ : Int) (k m : Nat) : Prop :=
  Tree l ∧ (∃ p, l[k]? = some p ∧ findB sym at_ p = true ∧ p.kind = 2) ∧ (∀ i q, i < k → l[i]? = some q → findB sym at_ q = false) ∧ Part l k m ∧ ∃ st, StaleOk l st ∧ st[k]? = some false
theorem TakeOk.det {l : List Nd} {sym at_ : Int} {k m k' m' : Nat} (h : TakeOk l sym at_ k m) (h' : TakeOk l sym at_ k' m') : k' = k ∧ m' = m := by
  obtain ⟨_, ⟨p, h1, h2, _⟩, h3, h4, _⟩ := h
  obtain ⟨_, ⟨p', g1, g2, _⟩, g3, g4, _⟩ := h'
  have : k' = k := by
    rcases Nat.lt_trichotomy k' k with hlt | he | hlt
    · rw [h3 k' p' hlt g1] at g2; cases g2
    · exact he
    · rw [g3 k p hlt h1] at h2; cases h2
  subst this
  exact ⟨rfl, h4.det g4⟩
/-- what Take tells -/
def TakeRet (w : World) (l : List Nd) (sym at_ : Int) (e : Ending) (w' : World) : Prop :=
  (∃ k m A c qs, TakeOk l sym at_ k m ∧ e = .returned (.tuple #[.slice A (qs : List Prt).length c, .bool true]) ∧ nds qs = subF l k m ∧ OwnP w' w.heap.size A c qs ∧ Ext w w') ∨
  ((¬ ∃ k m, TakeOk l sym at_ k m) ∧ e = .returned (.tuple #[.slice none 0 0, .bool false]) ∧ Ext w w')
section
variable {A : Option Addr} {c : Nat} {ps : List Prt} {w : World}
set_option maxRecDepth 100000 in
set_option maxHeartbeats 2000000 in
theorem take_any (sym at_ : Int) (h : PS w A c ps) : Calls Try.prog 64 #[.slice A ps.length c, .int .i64 sym, .int .i64 at_] w (TakeRet w (nds ps) sym at_) := by
  have S := Lib.hid h
  have hps := h.few.len
  have hcap := h.cap
  clear h
  by_cases T : Tree (nds ps)
  · have HT := Lib.hid T
    clear T
    have CF := Lib.hid (Find_yes sym at_ S.out HT.out)
    have HC := Lib.hid (firstF_cases (fun p : Prt => findB sym at_ p.nd) ps 0)
    obtain ⟨r, hr⟩ : ∃ r, firstF (fun p : Prt => findB sym at_ p.nd) 0 ps = r := ⟨_, rfl⟩
    rw [hr] at CF HC
    clear hr
    rcases HC.out with ⟨rfl, hno⟩ | ⟨k, p, rfl, hp, hpt, hbef⟩
    · have NO : Hid (¬ ∃ k m, TakeOk (nds ps) sym at_ k m) := Lib.hid (by
        rintro ⟨k, m, _, ⟨q, h1, h2, _⟩, _⟩
        obtain ⟨p, hp, rfl⟩ := nds_get' h1
        rw [hno p (List.mem_of_getElem? hp)] at h2
        cases h2)
      have e1 : decide ((0 : Int) ≤ -1) = false := rfl
      rw [e1] at CF
      clear hno e1 HC
      go_enter Try.func64, Try.ntmps64
      go_wp2_with fail
      refine CF.out.mono ?_
      rintro e w2 ⟨rfl, hx2⟩
      have HX2 := Lib.hid hx2
      clear hx2
      go_wp2_with fail
      go_ret2
      exact .inr ⟨NO.out, rfl, HX2.out⟩
    · have hkl := (List.getElem?_eq_some_iff.1 hp).1
      have e0 : ((0 + k : Nat) : Int) = (k : Int) := by rw [Nat.zero_add]
      have e1 : decide ((0 : Int) ≤ (k : Int)) = true := decide_eq_true (by omega)
      have e2 : max (0 : Int) (k : Int) = (k : Int) := by omega
      rw [e0, e1, e2] at CF
      obtain ⟨b, off, rfl, hb, hcell⟩ := S.out.parts (by omega)
      have d1 := (hcell k p hp).2.1
      have HPP := Lib.hid hp
      have HPT := Lib.hid hpt
      have HBE : Hid (∀ i q, i < k → (nds ps)[i]? = some q → findB sym at_ q = false) := Lib.hid (fun i q hi hq => by
        obtain ⟨p', hp', rfl⟩ := nds_get' hq
        exact hbef i p' hi hp')
      have D1 := Lib.hid (fun (V : World) (x : Ext w V) => (⟨(x.below.cell (p := ⟨b, off + k * 8 + 1, none⟩) hb).trans d1, Nat.lt_of_lt_of_le hb x.size⟩ : V.cell? ⟨b, off + k * 8 + 1, none⟩ = some (.int .i64 p.nd.kind) ∧ b < V.heap.size))
      clear hp hpt hbef HC e0 e1 e2 hcell d1 hb
      go_enter Try.func64, Try.ntmps64
      go_wp2_with fail
      refine CF.out.mono ?_
      rintro e w2 ⟨rfl, hx2⟩
      obtain ⟨k1, k2⟩ := D1.out w2 hx2
      have HX2 := Lib.hid hx2
      clear hx2
      by_cases hk : p.nd.kind = 2
      · have hk1 : (p.nd.kind != 2) = false := by simp [hk]
        go_wp2_with fail
        refine (stale_any _ c ps w2 (S.out.ext HX2.out) HT.out).mono ?_
        rintro e w3 ⟨st, hst, g, rfl, hM, hgw, hx3⟩
        have hsl : st.length = ps.length := by rw [hst.1, nds_length]
        obtain ⟨v, hv⟩ : ∃ v, st[k]? = some v := ⟨_, List.getElem?_eq_getElem (by omega)⟩
        obtain ⟨f0, f1, f2⟩ := hM.cell hv
        have HX3 := Lib.hid (HX2.out.trans hx3)
        have HST := Lib.hid hst
        have HV := Lib.hid hv
        have HK := Lib.hid hk
        rw [hsl]
        clear hst hM hgw hx3 hsl hv hk f1
        cases v with
        | true =>
          have NO : Hid (¬ ∃ k m, TakeOk (nds ps) sym at_ k m) := Lib.hid (by
            rintro ⟨k', m, _, ⟨q, h1, h2, _⟩, h3, _, st', h4, h5⟩
            have hkk : k' = k := by
              rcases Nat.lt_trichotomy k' k with hlt | he | hlt
              · rw [HBE.out k' q hlt h1] at h2; cases h2
              · exact he
              · have := h3 k p.nd hlt (nds_get HPP.out); rw [HPT.out] at this; cases this
            subst hkk
            rw [StaleOk.one HT.out h4 HST.out, HV.out] at h5
            cases h5)
          go_wp2_with fail
          go_ret2
          exact .inr ⟨NO.out, rfl, HX3.out⟩
        | false =>
          obtain ⟨m, hm⟩ := HT.out.part (i := k) (by rw [nds_length]; exact hkl)
          have TK := Lib.hid (show TakeOk (nds ps) sym at_ k m from ⟨HT.out, ⟨p.nd, nds_get HPP.out, HPT.out, HK.out⟩, HBE.out, hm, st, HST.out, HV.out⟩)
          have CS := Lib.hid (Sub_yes k m (S.out.ext HX3.out) HT.out hm)
          clear hm
          go_wp2_with fail
          refine CS.out.mono ?_
          rintro e w4 ⟨A2, c2, qs, rfl, hn, ho, hx4⟩
          have HN := Lib.hid hn
          have HO := Lib.hid ho
          have HX4 := Lib.hid hx4
          clear hn ho hx4
          go_wp2_with fail
          go_ret2
          exact .inl ⟨k, m, A2, c2, qs, TK.out, rfl, HN.out, HO.out.base HX3.out.size, HX3.out.trans HX4.out⟩
      · have hk1 : (p.nd.kind != 2) = true := by simpa using hk
        have NO : Hid (¬ ∃ k m, TakeOk (nds ps) sym at_ k m) := Lib.hid (by
          rintro ⟨k', m, _, ⟨q, h1, h2, h2k⟩, h3, _⟩
          have hkk : k' = k := by
            rcases Nat.lt_trichotomy k' k with hlt | he | hlt
            · rw [HBE.out k' q hlt h1] at h2; cases h2
            · exact he
            · have := h3 k p.nd hlt (nds_get HPP.out); rw [HPT.out] at this; cases this
          subst hkk
          rw [nds_get HPP.out] at h1
          cases h1
          exact hk h2k)
        clear hk
        go_wp2_with fail
        go_ret2
        exact .inr ⟨NO.out, rfl, HX2.out⟩
  · have CF := Lib.hid (Find_no sym at_ S.out T)
    have NO : Hid (¬ ∃ k m, TakeOk (nds ps) sym at_ k m) := Lib.hid (by
      rintro ⟨k, m, h1, _⟩
      exact T h1)
    clear T
    go_enter Try.func64, Try.ntmps64
    go_wp2_with fail
    refine CF.out.mono ?_
    rintro e w2 ⟨rfl, hx2⟩
    have HX2 := Lib.hid hx2
    clear hx2
    go_wp2_with fail
    go_ret2
    exact .inr ⟨NO.out, rfl, HX2.out⟩
end
/-- the chapter's tree -/
def exM : List Nd := [⟨-3, 1, 0, 0, 2, 1, [1, 3], 0⟩, ⟨1, 2, 0, 0, 2, 3, [2], 0⟩, ⟨0, 3, 0, 0, 2, 4, [], 0⟩, ⟨-2, 6, 2, 2, 2, 3, [], 0⟩]
def exQ (b : Nat) : List Prt := [⟨⟨-3, 1, 0, 0, 2, 1, [1, 3], 0⟩, some ⟨b, 0, none⟩, 2⟩, ⟨⟨1, 2, 0, 0, 2, 3, [2], 0⟩, some ⟨b + 1, 0, none⟩, 1⟩, ⟨⟨0, 3, 0, 0, 2, 4, [], 0⟩, none, 0⟩, ⟨⟨-2, 6, 2, 2, 2, 3, [], 0⟩, none, 0⟩]
theorem exQ_nds (b : Nat) : nds (exQ b) = exM := rfl
theorem exM_kc (j : Nat) : kc exM 0 j ≤ 1000000 := Nat.le_trans (kc_all exM j) (by decide)
theorem exM_part : Part exM 1 3 := ⟨by decide, Trek.one (l := exM) (n := 1) (p := ⟨1, 2, 0, 0, 2, 3, [2], 0⟩) rfl (Trek.one (l := exM) (n := 2) (p := ⟨0, 3, 0, 0, 2, 4, [], 0⟩) rfl (.nil 3)), by decide⟩
theorem exM_tree : Tree exM := by
  refine ⟨fun i p h => ?_, ?_, fun p hp => ?_⟩
  · rcases get4 h with ⟨rfl, rfl⟩ | ⟨rfl, rfl⟩ | ⟨rfl, rfl⟩ | ⟨rfl, rfl⟩ <;> exact ⟨by decide, by decide⟩
  · refine Trek.one (p := ⟨-3, 1, 0, 0, 2, 1, [1, 3], 0⟩) rfl ?_
    refine Trek.cons (l := exM) ⟨1, 2, 0, 0, 2, 3, [2], 0⟩ [3] 1 3 true 4 rfl ?_ ?_
    · exact Trek.one (l := exM) (n := 2) (p := ⟨0, 3, 0, 0, 2, 4, [], 0⟩) rfl (.nil 3)
    · exact Trek.one (l := exM) (n := 3) (p := ⟨-2, 6, 2, 2, 2, 3, [], 0⟩) rfl (.nil 4)
  · have : ∀ p ∈ exM, liesB exM p.hi p.lo p.kids = true := by decide
    exact this p hp
theorem exM_stale : StaleOk exM [false, false, false, false] := by
  refine ⟨rfl, fun j p h => ?_⟩
  rcases get4 h with ⟨rfl, rfl⟩ | ⟨rfl, rfl⟩ | ⟨rfl, rfl⟩ | ⟨rfl, rfl⟩ <;> rfl
theorem exM_gs : GsOk exM [1] := ⟨fun _ => ⟨_, exM_stale, .skip 0 ⟨-3, 1, 0, 0, 2, 1, [1, 3], 0⟩ _ rfl (.inl (by decide)) (.take 1 ⟨1, 2, 0, 0, 2, 3, [2], 0⟩ 3 [] rfl rfl rfl exM_part (.skip 3 ⟨-2, 6, 2, 2, 2, 3, [], 0⟩ _ rfl (.inl (by decide)) (.done 4 (Nat.le_refl _))))⟩, fun h => absurd exM_tree h⟩
def ExRet21 (w : World) (e : Ending) (w' : World) : Prop :=
  e = .returned (.slice (some ⟨w.heap.size + 1 + 1, 0, none⟩) 4 4) ∧ w'.heap[w.heap.size + 1 + 1]? = some (.cells (pv (exQ w.heap.size)).toArray 35) ∧ PS w' (some ⟨w.heap.size + 1 + 1, 0, none⟩) 4 (exQ w.heap.size) ∧ Ext w w'
set_option maxRecDepth 100000 in
set_option maxHeartbeats 2000000 in
theorem example21_any (w : World) : Calls Try.prog 66 #[] w (ExRet21 w) := by
  go_enter Try.func66, Try.ntmps66
  go_wp2_with fail
  go_ret
  have G0 : (((w.alloc (.cells #[.int .i64 1, .int .i64 3] 3)).alloc (.cells #[.int .i64 2] 3)).alloc (.cells (pv (exQ w.heap.size)).toArray 35)).heap[w.heap.size]? = some (.cells #[.int .i64 1, .int .i64 3] 3) := (by simp only [heap_alloc_get, World.size_alloc]; (repeat (split; (first | rfl | (exfalso; omega)))); (try (first | (exfalso; omega) | simp_all)))
  have G1 : (((w.alloc (.cells #[.int .i64 1, .int .i64 3] 3)).alloc (.cells #[.int .i64 2] 3)).alloc (.cells (pv (exQ w.heap.size)).toArray 35)).heap[w.heap.size + 1]? = some (.cells #[.int .i64 2] 3) := (by simp only [heap_alloc_get, World.size_alloc]; (repeat (split; (first | rfl | (exfalso; omega)))); (try (first | (exfalso; omega) | simp_all)))
  have G2 : (((w.alloc (.cells #[.int .i64 1, .int .i64 3] 3)).alloc (.cells #[.int .i64 2] 3)).alloc (.cells (pv (exQ w.heap.size)).toArray 35)).heap[w.heap.size + 1 + 1]? = some (.cells (pv (exQ w.heap.size)).toArray 35) := (by simp only [heap_alloc_get, World.size_alloc]; (repeat (split; (first | rfl | (exfalso; omega)))); (try (first | (exfalso; omega) | simp_all)))
  refine ⟨rfl, G2, ⟨Prts.of_block G2 (by simp), ?_, ⟨Nat.le_of_ble_eq_true rfl, exM_kc⟩, Nat.le_refl _, by omega, nofun⟩, (by repeat (first | exact Ext.refl _ | refine Ext.alloc ?_ _ | refine Ext.more ?_ _ _ | refine Ext.drew ?_ | refine Ext.drewN ?_ _ | refine Ext.setCell ?_ (by simp <;> omega) _))⟩
  · intro p hp
    simp only [exQ, List.mem_cons, List.not_mem_nil, or_false] at hp
    rcases hp with rfl | rfl | rfl | rfl
    · exact PrtOk.lit (Ints.of_block G0 rfl) (Nat.le_of_ble_eq_true rfl) (Nat.le_of_ble_eq_true rfl) nofun rfl
    · exact PrtOk.lit (Ints.of_block G1 rfl) (Nat.le_of_ble_eq_true rfl) (Nat.le_of_ble_eq_true rfl) nofun rfl
    · exact PrtOk.lit Ints.nil (Nat.le_of_ble_eq_true rfl) (Nat.le_of_ble_eq_true rfl) (fun _ => rfl) rfl
    · exact PrtOk.lit Ints.nil (Nat.le_of_ble_eq_true rfl) (Nat.le_of_ble_eq_true rfl) (fun _ => rfl) rfl
set_option maxRecDepth 100000 in
set_option maxHeartbeats 2000000 in
theorem lives21_any (w : World) : Calls Try.prog 60 #[] w fun e w' => e = .returned (.bool true) ∧ Ext w w' := by
  go_enter Try.func60, Try.ntmps60
  go_wp2_with fail
  refine (example21_any _).mono ?_
  rintro e w2 ⟨rfl, _, hp2, hx2⟩
  have HX2 := Lib.hid hx2
  have HP2 := Lib.hid hp2
  clear hx2 hp2
  go_wp2_with fail
  refine (all_any _ 4 (exQ w.heap.size) [1] w2 HP2.out (by rw [exQ_nds]; exact exM_gs) (by decide)).mono ?_
  rintro e w5 ⟨A, c, rfl, ho, hx5⟩
  have HX5 := Lib.hid (HX2.out.trans hx5)
  have HO := Lib.hid ho
  clear hx5 HP2 ho
  go_wp2_with fail
  refine (same_any A _ [1] [1] c 1 _ (HO.out.ints.1.ext (by repeat (first | exact Ext.refl _ | refine Ext.alloc ?_ _ | refine Ext.more ?_ _ _ | refine Ext.drew ?_ | refine Ext.drewN ?_ _ | refine Ext.setCell ?_ (by simp <;> omega) _))) (Ints.of_block (heap_alloc_new w5 _) rfl) (by decide) (by decide)).mono ?_
  rintro e w6 ⟨rfl, hx6⟩
  have HX6 := Lib.hid ((HX5.out.alloc _).trans hx6)
  clear hx6
  go_wp2_with fail
  go_ret
  exact ⟨rfl, HX6.out⟩
end Go.Proofs.Ytaffaeompdlecaa
