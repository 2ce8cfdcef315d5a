/- S1: 2 texts in one. -/
import Derived.Test.YtaffaeompdlecaaR5
import Derived.Test.YtaffaeompdlecaaR4
import Derived.Test.YtaffaeompdlecaaH5
import Derived.Test.YtaffaeompdlecaaH8
import Derived.WalkSpells
import Derived.WalkLawsBesides
import Derived.BigRegion
import Derived.Deep.RegionWith
import Derived.Deep.QuietTactic
import Derived.Deep.DeepCutAuto
import Derived.Deep.RegionHeld3
import Derived.Deep.RegionLaw
import Derived.BigQuiet
import Derived.Lib.Hide
/- The contract of the document's Take (viewportref21). -/
namespace Go.Proofs.Ytaffaeompdlecaa
open Go.RowKit
attribute [local go_sem] more_drew more_drewN more_size more_cell more_frozen more_setCell drew_more drewN_more lt_add_r lt_add_r2 lt_add_r3 lt_add_r4 lt_add_r5 lt_add_r6 lt_add_r7 lt_add_r8 lt_add_r9 lt_add_r10 lt_self_r lt_self_r2

section
variable {A : Option Addr} {c : Nat} {ps : List Prt} {w : World}
set_option maxRecDepth 100000 in
set_option maxHeartbeats 2000000 in
theorem rtake_any (sym at_ : Int) (h : PS w A c ps) : Calls Try.prog 67 #[.slice A ps.length c, .int .i64 sym, .int .i64 at_] w (TakeRet w (nds ps) sym at_) := by
  have S := Lib.hid h
  have hps := h.few.len
  have hcap := h.cap
  clear h
  by_cases T : Tree (nds ps)
  · have HT := Lib.hid T
    clear T
    have CF := Lib.hid (rfind_yes sym at_ S.out HT.out)
    have HC := Lib.hid (firstF_cases (fun p : Prt => findB sym at_ p.nd) ps 0)
    obtain ⟨r, hr⟩ : ∃ r, firstF (fun p : Prt => findB sym at_ p.nd) 0 ps = r := ⟨_, rfl⟩
    rw [hr] at CF HC
    clear hr
    rcases HC.out with ⟨rfl, hno⟩ | ⟨k, p, rfl, hp, hpt, hbef⟩
    · have NO : Hid (¬ ∃ k m, TakeOk (nds ps) sym at_ k m) := Lib.hid (by
        rintro ⟨k, m, _, ⟨q, h1, h2, _⟩, _⟩
        obtain ⟨p, hp, rfl⟩ := nds_get' h1
        rw [hno p (List.mem_of_getElem? hp)] at h2
        cases h2)
      have e1 : decide ((0 : Int) ≤ -1) = false := rfl
      rw [e1] at CF
      clear hno e1 HC
      go_enter Try.func67, Try.ntmps67
      go_wp2_with fail
      refine CF.out.mono ?_
      rintro e w2 ⟨rfl, hx2⟩
      have HX2 := Lib.hid hx2
      clear hx2
      go_wp2_with fail
      go_ret2
      exact .inr ⟨NO.out, rfl, HX2.out⟩
    · have hkl := (List.getElem?_eq_some_iff.1 hp).1
      have e0 : ((0 + k : Nat) : Int) = (k : Int) := by rw [Nat.zero_add]
      have e1 : decide ((0 : Int) ≤ (k : Int)) = true := decide_eq_true (by omega)
      have e2 : max (0 : Int) (k : Int) = (k : Int) := by omega
      rw [e0, e1, e2] at CF
      obtain ⟨b, off, rfl, hb, hcell⟩ := S.out.parts (by omega)
      have d1 := (hcell k p hp).2.1
      have HPP := Lib.hid hp
      have HPT := Lib.hid hpt
      have HBE : Hid (∀ i q, i < k → (nds ps)[i]? = some q → findB sym at_ q = false) := Lib.hid (fun i q hi hq => by
        obtain ⟨p', hp', rfl⟩ := nds_get' hq
        exact hbef i p' hi hp')
      have D1 := Lib.hid (fun (V : World) (x : Ext w V) => (⟨(x.below.cell (p := ⟨b, off + k * 8 + 1, none⟩) hb).trans d1, Nat.lt_of_lt_of_le hb x.size⟩ : V.cell? ⟨b, off + k * 8 + 1, none⟩ = some (.int .i64 p.nd.kind) ∧ b < V.heap.size))
      clear hp hpt hbef HC e0 e1 e2 hcell d1 hb
      go_enter Try.func67, Try.ntmps67
      go_wp2_with fail
      refine CF.out.mono ?_
      rintro e w2 ⟨rfl, hx2⟩
      obtain ⟨k1, k2⟩ := D1.out w2 hx2
      have HX2 := Lib.hid hx2
      clear hx2
      by_cases hk : p.nd.kind = 2
      · have hk1 : (p.nd.kind != 2) = false := by simp [hk]
        go_wp2_with fail
        refine (rstale_any _ c ps w2 (S.out.ext HX2.out) HT.out).mono ?_
        rintro e w3 ⟨st, hst, g, rfl, hM, hgw, hx3⟩
        have hsl : st.length = ps.length := by rw [hst.1, nds_length]
        obtain ⟨v, hv⟩ : ∃ v, st[k]? = some v := ⟨_, List.getElem?_eq_getElem (by omega)⟩
        obtain ⟨f0, f1, f2⟩ := hM.cell hv
        have HX3 := Lib.hid (HX2.out.trans hx3)
        have HST := Lib.hid hst
        have HV := Lib.hid hv
        have HK := Lib.hid hk
        rw [hsl]
        clear hst hM hgw hx3 hsl hv hk f1
        cases v with
        | true =>
          have NO : Hid (¬ ∃ k m, TakeOk (nds ps) sym at_ k m) := Lib.hid (by
            rintro ⟨k', m, _, ⟨q, h1, h2, _⟩, h3, _, st', h4, h5⟩
            have hkk : k' = k := by
              rcases Nat.lt_trichotomy k' k with hlt | he | hlt
              · rw [HBE.out k' q hlt h1] at h2; cases h2
              · exact he
              · have := h3 k p.nd hlt (nds_get HPP.out); rw [HPT.out] at this; cases this
            subst hkk
            rw [StaleOk.one HT.out h4 HST.out, HV.out] at h5
            cases h5)
          go_wp2_with fail
          go_ret2
          exact .inr ⟨NO.out, rfl, HX3.out⟩
        | false =>
          obtain ⟨m, hm⟩ := HT.out.part (i := k) (by rw [nds_length]; exact hkl)
          have TK := Lib.hid (show TakeOk (nds ps) sym at_ k m from ⟨HT.out, ⟨p.nd, nds_get HPP.out, HPT.out, HK.out⟩, HBE.out, hm, st, HST.out, HV.out⟩)
          have CS := Lib.hid (rsub_yes k m (S.out.ext HX3.out) HT.out hm)
          clear hm
          go_wp2_with fail
          refine CS.out.mono ?_
          rintro e w4 ⟨A2, c2, qs, rfl, hn, ho, hx4⟩
          have HN := Lib.hid hn
          have HO := Lib.hid ho
          have HX4 := Lib.hid hx4
          clear hn ho hx4
          go_wp2_with fail
          go_ret2
          exact .inl ⟨k, m, A2, c2, qs, TK.out, rfl, HN.out, HO.out.base HX3.out.size, HX3.out.trans HX4.out⟩
      · have hk1 : (p.nd.kind != 2) = true := by simpa using hk
        have NO : Hid (¬ ∃ k m, TakeOk (nds ps) sym at_ k m) := Lib.hid (by
          rintro ⟨k', m, _, ⟨q, h1, h2, h2k⟩, h3, _⟩
          have hkk : k' = k := by
            rcases Nat.lt_trichotomy k' k with hlt | he | hlt
            · rw [HBE.out k' q hlt h1] at h2; cases h2
            · exact he
            · have := h3 k p.nd hlt (nds_get HPP.out); rw [HPT.out] at this; cases this
          subst hkk
          rw [nds_get HPP.out] at h1
          cases h1
          exact hk h2k)
        clear hk
        go_wp2_with fail
        go_ret2
        exact .inr ⟨NO.out, rfl, HX2.out⟩
  · have CF := Lib.hid (rfind_no sym at_ S.out T)
    have NO : Hid (¬ ∃ k m, TakeOk (nds ps) sym at_ k m) := Lib.hid (by
      rintro ⟨k, m, h1, _⟩
      exact T h1)
    clear T
    go_enter Try.func67, Try.ntmps67
    go_wp2_with fail
    refine CF.out.mono ?_
    rintro e w2 ⟨rfl, hx2⟩
    have HX2 := Lib.hid hx2
    clear hx2
    go_wp2_with fail
    go_ret2
    exact .inr ⟨NO.out, rfl, HX2.out⟩
end
end Go.Proofs.Ytaffaeompdlecaa

/- The contracts of the document's All, Bytes, Look (viewportref21). -/
namespace Go.Proofs.Ytaffaeompdlecaa
open Go.RowKit
attribute [local go_sem] more_drew more_drewN more_size more_cell more_frozen more_setCell drew_more drewN_more lt_add_r lt_add_r2 lt_add_r3 lt_add_r4 lt_add_r5 lt_add_r6 lt_add_r7 lt_add_r8 lt_add_r9 lt_add_r10 lt_self_r lt_self_r2

section
variable {A : Option Addr} {c : Nat} {ps : List Prt} {w : World}
theorem rstale_no (h : PS w A c ps) (T : ¬ Tree (nds ps)) : Calls Try.prog 55 #[.slice A ps.length c] w fun e w' => e = .returned (.slice none 0 0) ∧ Ext w w' := by
  have CH := Lib.hid (rcheck_no h T)
  clear h T
  go_enter Try.func55, Try.ntmps55
  go_wp2_with fail
  refine CH.out.mono ?_
  rintro e w3 ⟨rfl, hx3⟩
  have HX3 := Lib.hid hx3
  clear hx3
  go_wp2_with fail
  go_ret
  exact ⟨rfl, HX3.out⟩
end
theorem Gs.fin {l : List Nd} {st : List Bool} {n : Nat} {zs : List Nat} (h : Gs l st n zs) (hn : l.length ≤ n) : zs = [] := by
  cases h with
  | done _ _ => rfl
  | skip _ p _ hp => rw [List.getElem?_eq_none hn] at hp; cases hp
  | take _ p m _ hp => rw [List.getElem?_eq_none hn] at hp; cases hp
set_option maxRecDepth 100000 in
set_option maxHeartbeats 2000000 in
theorem rall_any (A : Option Addr) (c : Nat) (ps : List Prt) (xs : List Nat) (w : World) (h : PS w A c ps) (hG : GsOk (nds ps) xs) (hl : xs.length ≤ 1000000) : Calls Try.prog 68 #[.slice A ps.length c] w (IntsRet w (asInts xs)) := by
  have hps := h.few.len
  have hcap := h.cap
  have htop := h.top
  have S := Lib.hid h
  by_cases T : Tree (nds ps)
  · obtain ⟨st, hst, hgs⟩ := hG.1 T
    have HST := Lib.hid hst
    have HT := Lib.hid T
    have G0 : Hid (∃ ys zs, xs = ys ++ zs ∧ Gs (nds ps) st 0 zs ∧ ys = []) := Lib.hid ⟨[], xs, rfl, hgs, rfl⟩
    clear h hG T hst hgs
    go_enter Try.func68, Try.ntmps68
    go_wp2_with fail
    refine (rstale_any A c ps w S.out HT.out).mono ?_
    rintro e w5 ⟨st', hst', g, rfl, hM, hgw, hx5⟩
    obtain rfl : st' = st := StaleOk.one HT.out hst' HST.out
    have hsl : st'.length = ps.length := by rw [hst'.1, nds_length]
    have HX5 := Lib.hid hx5
    have MB := Lib.hid hM
    have HSL := Lib.hid hsl
    rw [hsl]
    clear hst' hM hgw hx5 hsl
    go_wp2_with fail
    go_loopw [3, 5] (fun v iv wr => ∃ (n : Nat) (ys zs : List Nat), n ≤ ps.length ∧ iv = .int .i64 n ∧ Hid (xs = ys ++ zs ∧ Gs (nds ps) st' n zs) ∧ Hid (RowI wr w5.heap.size v (asInts ys)) ∧ Hid (Ext w5 wr)) (fun _ iv _ => ps.length - (intOf iv).toNat)
    case atStart =>
      obtain ⟨ys, zs, h1, h2, rfl⟩ := G0.out
      exact ⟨0, [], zs, Nat.zero_le _, rfl, Lib.hid ⟨h1, h2⟩, Lib.hid ⟨none, 0, rfl, OwnI.nil _ _⟩, Lib.hid (Ext.refl _)⟩
    case round =>
      obtain ⟨n, ys, zs, hn, rfl, hq, hr, hx⟩ := hrel
      have HXW := Lib.hid (HX5.out.trans hx.out)
      by_cases hlt : n < ps.length
      · obtain ⟨p, hp⟩ : ∃ p, ps[n]? = some p := ⟨_, List.getElem?_eq_getElem hlt⟩
        obtain ⟨b, off, rfl, hbl, hcell⟩ := (S.out.ext HXW.out).parts (by omega)
        have d1 := (hcell n p hp).2.1
        obtain ⟨v, hv⟩ : ∃ v, st'[n]? = some v := ⟨_, List.getElem?_eq_getElem (by rw [HSL.out]; exact hlt)⟩
        obtain ⟨f0, f1, f2⟩ := (MB.out.ext hx.out).cell hv
        obtain ⟨hq1, hq2⟩ := hq.out
        have HL : Hid ((asInts ys).length ≤ 1000000) := Lib.hid (by rw [asInts_length]; have := congrArg List.length hq1; rw [List.length_append] at this; omega)
        have HPP := Lib.hid (nds_get hp)
        have HV := Lib.hid hv
        have HAI : Hid (asInts (ys ++ [n]) = asInts ys ++ [(n : Int)]) := Lib.hid (by unfold asInts; rw [List.map_append]; rfl)
        clear hcell hp hv f1 hq
        generalize hz : zs = zs' at hq1 hq2
        cases hq2 with
        | done _ hge => exact absurd hge (by rw [nds_length]; omega)
        | skip _ q _ hq' hk hg' =>
          rw [HPP.out] at hq'
          injection hq' with hq'
          subst hq'
          have HQ := Lib.hid hq1
          have HG := Lib.hid hg'
          have HK := Lib.hid hk
          clear hq1 hg' hk hz
          by_cases hk2 : p.nd.kind = 2
          · obtain rfl : v = true := by
              rcases HK.out with h | h
              · exact absurd hk2 h
              · rw [HV.out] at h; injection h
            have k1 : (p.nd.kind == 2) = true := by simp [hk2]
            clear hk2
            go_wp2_with fail
            go_roundw
            case rel => exact ⟨n + 1, ys, _, by omega, by go_num, Lib.hid ⟨HQ.out, HG.out⟩, hr, hx⟩
            case measure => simp [intOf]; omega
          · have k1 : (p.nd.kind == 2) = false := by simpa using hk2
            clear hk2
            go_wp2_with fail
            go_roundw
            case rel => exact ⟨n + 1, ys, _, by omega, by go_num, Lib.hid ⟨HQ.out, HG.out⟩, hr, hx⟩
            case measure => simp [intOf]; omega
        | take _ q m zs2 hq' hk2 hst2 hpm hg' =>
          rw [HPP.out] at hq'
          injection hq' with hq'
          subst hq'
          obtain rfl : v = false := by rw [HV.out] at hst2; injection hst2
          have k1 : (p.nd.kind == 2) = true := by simp [hk2]
          have HQ := Lib.hid hq1
          have HG := Lib.hid hg'
          have HPM := Lib.hid hpm
          clear hq1 hg' hk2 hst2 hpm hz
          go_wp2_with (at_builtin; refine app_int w5 (by rfl) (.tmp 25) (.tmp 27) rfl (hr.out.ext (by repeat (first | exact Ext.refl _ | refine Ext.alloc ?_ _ | refine Ext.more ?_ _ _ | refine Ext.drew ?_ | refine Ext.drewN ?_ _ | refine Ext.setCell ?_ (by simp <;> omega) _))) n wr.heap.size rfl rfl (by simp) (by simp [go_sem]) HL.out (hx.out.trans (by repeat (first | exact Ext.refl _ | refine Ext.alloc ?_ _ | refine Ext.more ?_ _ _ | refine Ext.drew ?_ | refine Ext.drewN ?_ _ | refine Ext.setCell ?_ (by simp <;> omega) _))) ?_; intro v7 w7 hr7 hg7 hx7)
          have HR7 := Lib.hid hr7
          have HX7 := Lib.hid hx7
          clear hr7 hg7 hx7
          refine (rEnd_yes n m (S.out.ext (HX5.out.trans HX7.out)) HT.out HPM.out).mono ?_
          rintro e w8 ⟨rfl, hx8⟩
          have HR8 := Lib.hid (HR7.out.ext hx8)
          have HX8 := Lib.hid (HX7.out.trans hx8)
          have hmn := HPM.out.lt_end
          have hml := HPM.out.le
          rw [nds_length] at hml
          clear hx8
          go_wp2_with fail
          go_roundw
          case rel => exact ⟨m, ys ++ [n], zs2, hml, rfl, Lib.hid ⟨by rw [HQ.out]; simp, HG.out⟩, Lib.hid (by rw [HAI.out]; exact HR8.out), HX8⟩
          case measure => simp [intOf]; omega
      · obtain rfl : n = ps.length := by omega
        obtain ⟨hq1, hq2⟩ := hq.out
        obtain rfl := hq2.fin (Nat.le_of_eq (nds_length _))
        rw [List.append_nil] at hq1
        subst hq1
        obtain ⟨A1, c1, rfl, ho⟩ := hr.out
        have HO := Lib.hid ho
        clear ho hq hq2 hr
        go_wp2_with fail
        go_ret
        exact ⟨A1, c1, rfl, HO.out.base HX5.out.size, HXW.out⟩
  · obtain rfl := hG.2 T
    have CS := Lib.hid (rstale_no S.out T)
    clear h hG T
    go_enter Try.func68, Try.ntmps68
    go_wp2_with fail
    refine CS.out.mono ?_
    rintro e w5 ⟨rfl, hx5⟩
    have HX5 := Lib.hid hx5
    clear hx5
    go_wp2_with fail
    refine wp_loop_rounds 1 ?_
    rw [rounds_succ]
    go_wp2_with fail
    go_ret
    exact ⟨none, 0, rfl, OwnI.nil _ _, HX5.out⟩
set_option maxRecDepth 100000 in
set_option maxHeartbeats 2000000 in
theorem rbytes_any (A : Option Addr) (c : Nat) (ps : List Prt) (xs : List Nat) (w : World) (h : PS w A c ps) (hG : GsOk (nds ps) xs) (hL : LightP 120 ps) (hl : xs.length ≤ 1000) (hx : ∀ x ∈ xs, x < ps.length) :
    Calls Try.prog 69 #[.slice A ps.length c] w fun e w' => e = .returned (.int .i64 (xs.foldl (bytesF (nds ps)) 0)) ∧ Ext w w' := by
  have S := Lib.hid h
  have HG := Lib.hid hG
  have HL := Lib.hid hL
  have HME := Lib.hid hx
  have hps := h.few.len
  clear h hG hL hx
  go_enter Try.func69, Try.ntmps69
  go_wp2_with fail
  refine (rall_any A c ps xs w S.out HG.out (by omega)).mono ?_
  rintro e w4 ⟨A1, c1, rfl, ho, hx4⟩
  rw [asInts_length]
  have HX4 := Lib.hid hx4
  have HOX := Lib.hid ho
  clear ho hx4
  obtain ⟨o1, o2, o3, _⟩ := HOX.out.ints
  rw [asInts_length] at o2
  unfold maxLen at o3
  have HOI := Lib.hid o1
  clear o1
  have hcap := S.out.cap
  have htop := S.out.top
  go_wp2_with fail
  go_loopw [3, 5] (fun nv iv wr => ∃ (n : Nat), n ≤ xs.length ∧ iv = .int .i64 n ∧ nv = .int .i64 ((xs.take n).foldl (bytesF (nds ps)) 0) ∧ Hid (Ext w4 wr)) (fun _ iv _ => xs.length - (intOf iv).toNat)
  case atStart => exact ⟨0, Nat.zero_le _, rfl, rfl, Lib.hid (Ext.refl _)⟩
  case round =>
    obtain ⟨n, hn, rfl, rfl, hx⟩ := hrel
    have HXW := Lib.hid (HX4.out.trans hx.out)
    by_cases hlt : n < xs.length
    · obtain ⟨x, hxn⟩ : ∃ x, xs[n]? = some x := ⟨_, List.getElem?_eq_getElem hlt⟩
      have hxlt := HME.out x (List.mem_of_getElem? hxn)
      obtain ⟨p, hp⟩ : ∃ p, ps[x]? = some p := ⟨_, List.getElem?_eq_getElem hxlt⟩
      obtain ⟨b, off, rfl, hbl, hcell⟩ := (S.out.ext HXW.out).parts (by omega)
      obtain ⟨_, _, d2, _, d4, _, _, _⟩ := hcell x p hp
      obtain ⟨b1, off1, hA1, hb1, hc1⟩ := (HOI.out.ext hx.out) (by rw [asInts_length]; omega)
      have e1 := hc1 n (by rw [asInts_length]; exact hlt)
      have e2 : (asInts xs).getD n 0 = (x : Int) := by
        unfold asInts
        rw [List.getD_eq_getElem?_getD, List.getElem?_map, hxn]
        rfl
      rw [e2] at e1
      have hbd := HL.out.places p (List.mem_of_getElem? hp)
      unfold Lt20 at hbd
      have HFT := Lib.hid (fold_take (f := bytesF (nds ps)) (x0 := 0) hxn)
      have hbb := bytes_bd (ps := ps) (xs := xs.take n) HL.out (by rw [List.length_take]; omega)
      obtain ⟨acc, hacc⟩ : ∃ acc, (xs.take n).foldl (bytesF (nds ps)) 0 = acc := ⟨_, rfl⟩
      rw [hacc] at HFT hbb ⊢
      have HBF : Hid (bytesF (nds ps) acc x = acc + p.nd.hi - p.nd.lo) := Lib.hid (by unfold bytesF; rw [nds_get hp]; rfl)
      have w1' : IntKind.i64.wrap (acc + p.nd.hi) = acc + p.nd.hi := IntWalk.i64_in _ (by omega)
      have w2' : IntKind.i64.wrap (acc + p.nd.hi - p.nd.lo) = acc + p.nd.hi - p.nd.lo := IntWalk.i64_in _ (by omega)
      subst hA1
      clear hcell hp hc1 hbd hbb hacc hxn e2
      go_upto_region 6 with fail
      refine wp_region_ext (by kernel_rfl) (by kernel_rfl) ?_
      repeat (go_big_quiet_step (fail))
      refine wpQuiet_nil ?_
      intro _ hw'
      obtain ⟨x9, rfl⟩ := hw'
      go_wp2_with fail
      go_roundw
      case rel => exact ⟨n + 1, by omega, by go_num, by rw [HFT.out, HBF.out], Lib.hid (hx.out.trans (by repeat (first | exact Ext.refl _ | refine Ext.alloc ?_ _ | refine Ext.more ?_ _ _ | refine Ext.drew ?_ | refine Ext.drewN ?_ _ | refine Ext.setCell ?_ (by simp <;> omega) _)))⟩
      case measure => simp [intOf]; omega
    · obtain rfl : n = xs.length := by omega
      rw [List.take_length]
      obtain ⟨acc, hacc⟩ : ∃ acc, xs.foldl (bytesF (nds ps)) 0 = acc := ⟨_, rfl⟩
      have HACC := Lib.hid hacc
      rw [hacc]
      clear hacc
      go_wp2_with fail
      go_ret
      exact ⟨ret_int HACC.out.symm, HXW.out⟩
set_option maxRecDepth 100000 in
set_option maxHeartbeats 2000000 in
theorem rlook_yes (A : Option Addr) (c : Nat) (ps : List Prt) (w : World) (h : PS w A c ps) (T : Tree (nds ps)) : Calls Try.prog 70 #[.slice A ps.length c] w fun e w' => e = .returned (.int .i64 (ps.foldl (fun n p => max n p.nd.look) 0)) ∧ Ext w w' := by
  have hps := h.few.len
  have hcap := h.cap
  have htop := h.top
  have S := Lib.hid h
  have HT := Lib.hid T
  clear h T
  go_enter Try.func70, Try.ntmps70
  go_wp2_with fail
  go_loopw [3, 4] (fun nv iv wr => ∃ (n : Nat), n ≤ ps.length ∧ iv = .int .i64 n ∧ nv = .int .i64 ((ps.take n).foldl (fun n p => max n p.nd.look) 0) ∧ Hid (Ext w wr)) (fun _ iv _ => ps.length - (intOf iv).toNat)
  case atStart => exact ⟨0, Nat.zero_le _, rfl, rfl, Lib.hid (Ext.refl _)⟩
  case round =>
    obtain ⟨n, hn, rfl, rfl, hx⟩ := hrel
    by_cases hlt : n < ps.length
    · obtain ⟨p, hp⟩ : ∃ p, ps[n]? = some p := ⟨_, List.getElem?_eq_getElem hlt⟩
      have HFT := Lib.hid (fold_take (f := fun (n : Int) (p : Prt) => max n p.nd.look) (x0 := 0) hp)
      obtain ⟨acc, hacc⟩ : ∃ acc, (ps.take n).foldl (fun (n : Int) (p : Prt) => max n p.nd.look) 0 = acc := ⟨_, rfl⟩
      rw [hacc] at HFT ⊢
      have HPP := Lib.hid hp
      clear hp hacc
      go_wp2_with fail
      refine (rcheck_ok (S.out.ext hx.out) HT.out).mono ?_
      rintro e w3 ⟨rfl, hx3⟩
      have HX3 := Lib.hid (hx.out.trans hx3)
      clear hx3
      obtain ⟨b, off, rfl, hbl, hcell⟩ := (S.out.ext HX3.out).parts (by omega)
      have d5 := (hcell n p HPP.out).2.2.2.2.2.1
      obtain ⟨M, hM⟩ : ∃ M, (if acc < p.nd.look then p.nd.look else acc) = M := ⟨_, rfl⟩
      have HM : Hid (M = max acc p.nd.look) := Lib.hid (by rw [← hM]; split <;> omega)
      clear hcell
      go_wp2_with fail
      go_roundw
      case rel => exact ⟨n + 1, by omega, by go_num, by rw [HFT.out, HM.out], HX3⟩
      case measure => simp [intOf]; omega
    · obtain rfl : n = ps.length := by omega
      rw [List.take_length]
      obtain ⟨acc, hacc⟩ : ∃ acc, ps.foldl (fun (n : Int) (p : Prt) => max n p.nd.look) 0 = acc := ⟨_, rfl⟩
      have HACC := Lib.hid hacc
      rw [hacc]
      clear hacc
      go_wp2_with fail
      go_ret
      exact ⟨ret_int HACC.out.symm, hx.out⟩
set_option maxRecDepth 100000 in
set_option maxHeartbeats 2000000 in
theorem rlook_no (A : Option Addr) (c : Nat) (ps : List Prt) (w : World) (h : PS w A c ps) (T : ¬ Tree (nds ps)) : Calls Try.prog 70 #[.slice A ps.length c] w fun e w' => e = .returned (.int .i64 0) ∧ Ext w w' := by
  have hps := h.few.len
  have CH := Lib.hid (rcheck_no h T)
  clear h T
  by_cases h0 : ps.length = 0
  · obtain rfl := List.eq_nil_of_length_eq_zero h0
    simp only [List.length_nil]
    clear h0 CH hps
    go_enter Try.func70, Try.ntmps70
    go_wp2_with fail
    refine wp_loop_rounds 1 ?_
    rw [rounds_succ]
    go_wp2_with fail
    go_ret
    exact ⟨rfl, (by repeat (first | exact Ext.refl _ | refine Ext.alloc ?_ _ | refine Ext.more ?_ _ _ | refine Ext.drew ?_ | refine Ext.drewN ?_ _ | refine Ext.setCell ?_ (by simp <;> omega) _))⟩
  · have h1 : decide (0 < ps.length) = true := decide_eq_true (by omega)
    have H0 := Lib.hid h0
    clear h0
    go_enter Try.func70, Try.ntmps70
    go_wp2_with fail
    refine wp_loop_rounds 1 ?_
    rw [rounds_succ]
    go_wp2_with fail
    refine CH.out.mono ?_
    rintro e w3 ⟨rfl, hx3⟩
    have HX3 := Lib.hid hx3
    clear hx3
    go_wp2_with fail
    go_ret
    exact ⟨rfl, HX3.out⟩
end Go.Proofs.Ytaffaeompdlecaa
