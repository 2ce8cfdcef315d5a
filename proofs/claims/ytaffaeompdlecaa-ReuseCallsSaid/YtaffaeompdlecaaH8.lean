/- ReuseApart: the walk. -/
import Derived.Test.YtaffaeompdlecaaH5
import Derived.Test.YtaffaeompdlecaaR4
import Derived.Test.YtaffaeompdlecaaTk
import Derived.WalkSpells
import Derived.WalkLawsBesides
import Derived.BigRegion
import Derived.Deep.RegionWith
import Derived.Deep.QuietTactic
import Derived.Deep.DeepCutAuto
import Derived.Deep.RegionHeld3
import Derived.Deep.RegionLaw
import Derived.BigQuiet
import Derived.Lib.Hide
namespace Go.Proofs.Ytaffaeompdlecaa
open Go.RowKit
attribute [local go_sem] more_drew more_drewN more_size more_cell more_frozen more_setCell drew_more drewN_more lt_add_r lt_add_r2 lt_add_r3 lt_add_r4 lt_add_r5 lt_add_r6 lt_add_r7 lt_add_r8 lt_add_r9 lt_add_r10 lt_self_r lt_self_r2

theorem Gs.next {l : List Nd} {st : List Bool} {e : Nat} {zs : List Nat} (h : Gs l st e zs) : ∀ {x : Nat} {ys : List Nat}, zs = x :: ys → ∃ m p, e ≤ x ∧ l[x]? = some p ∧ p.kind = 2 ∧ st[x]? = some false ∧ Part l x m ∧ Gs l st m ys := by
  induction h with
  | done i hi => intro x ys h; cases h
  | skip i p xs hp hc _ ih =>
    intro x ys h
    obtain ⟨m, q, h1, h2⟩ := ih h
    exact ⟨m, q, by omega, h2⟩
  | take i p m xs hp hk hs hm hg _ =>
    intro x ys h
    injection h with h1 h2
    subst h1 h2
    exact ⟨m, p, Nat.le_refl _, hp, hk, hs, hm, hg⟩
set_option maxRecDepth 100000 in
set_option maxHeartbeats 2000000 in
theorem apart_any (A : Option Addr) (c : Nat) (ps : List Prt) (i0 : Int) (W : World) (hP : Prts W A ps) (hO : PrtsOk W ps) (hl : ps.length ≤ c) (hc : c ≤ 9223372036854775807) (hA : A = none → c = 0) (hk : KidsLt ps) (hi0 : I64 i0) :
    Calls Try.prog 11 #[.slice A ps.length c, .int .i64 i0] W fun e w' => e = .returned (.bool true) ∧ Ext W w' := by
  have HP := Lib.hid hP
  have HO := Lib.hid hO
  have HK := Lib.hid hk
  have HA := Lib.hid hA
  unfold I64 at hi0
  clear hP hO hk hA
  go_enter Try.func11, Try.ntmps11
  go_wp2_with fail
  refine (lives21_any W).mono ?_
  rintro e w1 ⟨rfl, hx1⟩
  have HX1 := Lib.hid hx1
  clear hx1
  go_wp2_with fail
  refine (lightParts_any 120 A c ps w1 (by decide) (HP.out.ext HX1.out) (by omega) HK.out).mono ?_
  rintro e w2 ⟨b1, rfl, hb, hx2⟩
  have HX2 := Lib.hid (HX1.out.trans hx2)
  clear hx2 HX1
  cases b1 with
  | false =>
    go_wp2_with fail
    go_ret
    exact ⟨rfl, HX2.out⟩
  | true =>
    have hL := hb rfl
    have S : Hid (PS W A c ps) := ⟨HP.out, HO.out, hL.few (by omega), hl, hc, HA.out⟩
    have hlen := hL.len
    have HL := Lib.hid hL
    clear hb hL HP HO HK HA
    by_cases T : Tree (nds ps)
    · have hpos := T.pos
      rw [nds_length] at hpos
      have HT := Lib.hid T
      clear T
      go_wp2_with fail
      refine (rcheck_ok (S.out.ext HX2.out) HT.out).mono ?_
      rintro e w3 ⟨rfl, hx3⟩
      have HX3 := Lib.hid (HX2.out.trans hx3)
      clear hx3 HX2
      go_wp2_with fail
      refine (pick_any i0 (ps.length : Int) w3 (by omega) hi0).mono ?_
      rintro e w3' ⟨rfl, rfl⟩
      have hpb := pickF_bd i0 (ps.length : Int) (by omega)
      obtain ⟨j, hj⟩ : ∃ j : Nat, pickF i0 (ps.length : Int) = (j : Int) := ⟨(pickF i0 (ps.length : Int)).toNat, by omega⟩
      rw [hj] at hpb
      have hjl : j < ps.length := by omega
      rw [hj]
      clear hj hpb
      obtain ⟨st, hst, xs, hgs⟩ : ∃ st, StaleOk (nds ps) st ∧ ∃ xs, Gs (nds ps) st 0 xs ∧ GsOk (nds ps) xs := by
        obtain ⟨xs, hxs⟩ := gsOk_all (nds ps)
        obtain ⟨st, h1, h2⟩ := hxs.1 HT.out
        exact ⟨st, h1, xs, h2, hxs⟩
      have HST := Lib.hid hst
      have HGS := Lib.hid hgs.1
      have HGO := Lib.hid hgs.2
      have hmem := hgs.1.mem
      have hxl : xs.length ≤ ps.length := by
        have key : ∀ (e : Nat) (zs : List Nat), Gs (nds ps) st e zs → zs.length ≤ ps.length - e := by
          intro e zs h
          induction h with
          | done i hi => simp
          | skip i p zs hp hc _ ih => omega
          | take i p m zs hp hk hs hm _ ih =>
            have h1 := hm.lt_end
            have h2 := hm.lt
            rw [nds_length] at h2
            rw [List.length_cons]
            omega
        have := key 0 xs hgs.1
        omega
      have HME := Lib.hid hmem
      have HXL := Lib.hid hxl
      clear hst hgs hmem
      go_wp2_with fail
      refine (all_any A c ps xs w3 (S.out.ext HX3.out) HGO.out (by omega)).mono ?_
      rintro e w4 ⟨A1, c1, rfl, ho, hx4⟩
      rw [asInts_length]
      have HX4 := Lib.hid (HX3.out.trans hx4)
      have HOX := Lib.hid ho
      clear ho hx4 HX3
      go_wp2_with fail
      refine (rstale_any A c ps w4 (S.out.ext HX4.out) HT.out).mono ?_
      rintro e w5 ⟨st', hst', g, rfl, hM, hgw, hx5⟩
      obtain rfl : st' = st := StaleOk.one HT.out hst' HST.out
      have hsl : st'.length = ps.length := by rw [hst'.1, nds_length]
      have HX5 := Lib.hid (HX4.out.trans hx5)
      have HOX5 := Lib.hid (HOX.out.ext hx5)
      have MB := Lib.hid hM
      have HSL := Lib.hid hsl
      rw [hsl]
      clear hst' hM hgw hx5 hsl HX4 HOX
      obtain ⟨o1, o2, o3, _⟩ := HOX5.out.ints
      rw [asInts_length] at o2
      unfold maxLen at o3
      have HOI := Lib.hid o1
      clear o1
      have hcap := S.out.cap
      go_wp2_with fail
      go_loopw [7, 8, 9, 10] (fun ev bv iv kv wr => ∃ (n e : Nat) (inb : Bool), n ≤ xs.length ∧ kv = .int .i64 n ∧ ev = .int .i64 e ∧ bv = .int .i64 ((xs.take n).foldl (bytesF (nds ps)) 0) ∧ iv = .bool inb ∧ Hid (Gs (nds ps) st' e (xs.drop n)) ∧
        Hid (inb = true ↔ ∃ x m, x ∈ xs.take n ∧ Part (nds ps) x m ∧ x ≤ j ∧ j < m) ∧ Hid (Ext w5 wr)) (fun _ _ _ kv _ => xs.length - (intOf kv).toNat)
      case atStart => exact ⟨0, 0, false, Nat.zero_le _, rfl, rfl, rfl, rfl, HGS, Lib.hid ⟨fun h => (by cases h), fun ⟨x, m, hx, _⟩ => (by simp at hx)⟩, Lib.hid (Ext.refl _)⟩
      case round =>
        obtain ⟨n, e, inb, hn, rfl, rfl, rfl, rfl, hg, hin, hx⟩ := hrel
        have HXW := Lib.hid (HX5.out.trans hx.out)
        by_cases hlt : n < xs.length
        · obtain ⟨x, hxn⟩ : ∃ x, xs[n]? = some x := ⟨_, List.getElem?_eq_getElem hlt⟩
          have hdr : xs.drop n = x :: xs.drop (n + 1) := by
            rw [List.drop_eq_getElem_cons hlt]
            congr 1
            rw [List.getElem?_eq_getElem hlt] at hxn
            injection hxn
          obtain ⟨m, q, hex, hq, hqk, hqs, hpm, hg2⟩ := hg.out.next hdr
          obtain ⟨p, hp, hpq⟩ := nds_get' hq
          have hxlt := (List.getElem?_eq_some_iff.1 hp).1
          obtain ⟨b, off, rfl, hbl, hcell⟩ := (S.out.ext HXW.out).parts (by omega)
          obtain ⟨_, d1, d2, _, d4, _, _, _⟩ := hcell x p hp
          rw [hpq, hqk] at d1
          obtain ⟨f0, f1, f2⟩ := (MB.out.ext hx.out).cell hqs
          obtain ⟨b1, off1, hA1, hb1, hc1⟩ := (HOI.out.ext hx.out) (by rw [asInts_length]; omega)
          have e1 := hc1 n (by rw [asInts_length]; exact hlt)
          have e2 : (asInts xs).getD n 0 = (x : Int) := by
            unfold asInts
            rw [List.getD_eq_getElem?_getD, List.getElem?_map, hxn]
            rfl
          rw [e2] at e1
          have g1 : decide (x < e) = false := decide_eq_false (by omega)
          have g2 : decide (ps.length ≤ x) = false := decide_eq_false (by omega)
          have hbd := HL.out.places p (List.mem_of_getElem? hp)
          unfold Lt20 at hbd
          have HFT := Lib.hid (fold_take (f := bytesF (nds ps)) (x0 := 0) hxn)
          have hbb := bytes_bd (ps := ps) (xs := xs.take n) HL.out (by rw [List.length_take]; omega)
          obtain ⟨acc, hacc⟩ : ∃ acc, (xs.take n).foldl (bytesF (nds ps)) 0 = acc := ⟨_, rfl⟩
          rw [hacc] at HFT hbb ⊢
          have HBF : Hid (bytesF (nds ps) acc x = acc + p.nd.hi - p.nd.lo) := Lib.hid (by unfold bytesF; rw [nds_get hp]; rfl)
          have w1' : IntKind.i64.wrap (acc + p.nd.hi) = acc + p.nd.hi := IntWalk.i64_in _ (by omega)
          have w2' : IntKind.i64.wrap (acc + p.nd.hi - p.nd.lo) = acc + p.nd.hi - p.nd.lo := IntWalk.i64_in _ (by omega)
          have CE := Lib.hid (rEnd_yes x m (S.out.ext HXW.out) HT.out hpm)
          have HPM := Lib.hid hpm
          have HG2 := Lib.hid hg2
          have HXN := Lib.hid hxn
          have CELLS := Lib.hid (fun (V : World) (y : Ext wr V) => (⟨(y.below.cell (p := ⟨b, off + x * 8 + 2, none⟩) hbl).trans d2, (y.below.cell (p := ⟨b, off + x * 8 + 4, none⟩) hbl).trans d4, (y.below.cell (p := ⟨b1, off1 + n, none⟩) hb1).trans e1, Nat.lt_of_lt_of_le hbl y.size, Nat.lt_of_lt_of_le hb1 y.size⟩ :
            V.cell? ⟨b, off + x * 8 + 2, none⟩ = some (.int .i64 p.nd.lo) ∧ V.cell? ⟨b, off + x * 8 + 4, none⟩ = some (.int .i64 p.nd.hi) ∧ V.cell? ⟨b1, off1 + n, none⟩ = some (.int .i64 x) ∧ b < V.heap.size ∧ b1 < V.heap.size))
          obtain ⟨c1b, hc1b⟩ : ∃ y, decide (x ≤ j) = y := ⟨_, rfl⟩
          obtain ⟨c2b, hc2b⟩ : ∃ y, decide (j < m) = y := ⟨_, rfl⟩
          have HIN : Hid ((inb || (c1b && c2b)) = true ↔ ∃ x m, x ∈ xs.take (n + 1) ∧ Part (nds ps) x m ∧ x ≤ j ∧ j < m) := Lib.hid (by
            have htk : xs.take (n + 1) = xs.take n ++ [x] := by
              obtain ⟨hl', hx'⟩ := List.getElem?_eq_some_iff.1 hxn
              rw [List.take_succ_eq_append_getElem hl', hx']
            rw [Bool.or_eq_true, hin.out, Bool.and_eq_true, ← hc1b, ← hc2b, decide_eq_true_iff, decide_eq_true_iff, htk]
            constructor
            · rintro (⟨y, m', h1, h2⟩ | ⟨h1, h2⟩)
              · exact ⟨y, m', List.mem_append_left _ h1, h2⟩
              · exact ⟨x, m, List.mem_append_right _ (List.mem_singleton.2 rfl), hpm, h1, h2⟩
            · rintro ⟨y, m', h1, h2, h3, h4⟩
              rcases List.mem_append.1 h1 with h1 | h1
              · exact .inl ⟨y, m', h1, h2, h3, h4⟩
              · obtain rfl := List.mem_singleton.1 h1
                have := hpm.det h2
                subst this
                exact .inr ⟨h3, h4⟩)
          subst hA1
          clear hcell hp hpq hq hqk hqs hpm hg hg2 hdr hc1 hex hbd hbb hacc hxn hin e2 f1
          go_wp2_with fail
          refine CE.out.mono ?_
          rintro e' w6 ⟨rfl, hx6⟩
          obtain ⟨k2, k4, ke, kb, kb1⟩ := CELLS.out w6 hx6
          have HX6 := Lib.hid (hx.out.trans hx6)
          clear hx6 d1 d2 d4 e1 f0 f2 hbl hb1
          go_wp2_with fail
          refine wp_region_ext (by kernel_rfl) (by kernel_rfl) ?_
          repeat (go_big_quiet_step (fail))
          refine wpQuiet_nil ?_
          intro _ hw'
          obtain ⟨x9, rfl⟩ := hw'
          cases inb with
          | true =>
            go_wp2_with fail
            go_roundw
            case rel => exact ⟨n + 1, m, true, by omega, by go_num, rfl, by rw [HFT.out, HBF.out], rfl, HG2, Lib.hid (by have := HIN.out; rwa [Bool.true_or] at this), Lib.hid (HX6.out.trans (by repeat (first | exact Ext.refl _ | refine Ext.alloc ?_ _ | refine Ext.more ?_ _ _ | refine Ext.drew ?_ | refine Ext.drewN ?_ _ | refine Ext.setCell ?_ (by simp <;> omega) _)))⟩
            case measure => simp [intOf]; omega
          | false =>
            cases c1b with
            | false =>
              go_wp2_with fail
              go_roundw
              case rel => exact ⟨n + 1, m, false, by omega, by go_num, rfl, by rw [HFT.out, HBF.out], rfl, HG2, Lib.hid (by have := HIN.out; rwa [Bool.false_or, Bool.false_and] at this), Lib.hid (HX6.out.trans (by repeat (first | exact Ext.refl _ | refine Ext.alloc ?_ _ | refine Ext.more ?_ _ _ | refine Ext.drew ?_ | refine Ext.drewN ?_ _ | refine Ext.setCell ?_ (by simp <;> omega) _)))⟩
              case measure => simp [intOf]; omega
            | true =>
              go_wp2_with fail
              go_roundw
              case rel => exact ⟨n + 1, m, c2b, by omega, by go_num, rfl, by rw [HFT.out, HBF.out], rfl, HG2, Lib.hid (by have := HIN.out; rwa [Bool.false_or, Bool.true_and] at this), Lib.hid (HX6.out.trans (by repeat (first | exact Ext.refl _ | refine Ext.alloc ?_ _ | refine Ext.more ?_ _ _ | refine Ext.drew ?_ | refine Ext.drewN ?_ _ | refine Ext.setCell ?_ (by simp <;> omega) _)))⟩
              case measure => simp [intOf]; omega
        · obtain rfl : n = xs.length := by omega
          rw [List.take_length] at hin ⊢
          obtain ⟨p, hp⟩ : ∃ p, ps[j]? = some p := ⟨_, List.getElem?_eq_getElem hjl⟩
          obtain ⟨v, hv⟩ : ∃ v, st'[j]? = some v := ⟨_, List.getElem?_eq_getElem (by rw [HSL.out]; exact hjl)⟩
          obtain ⟨b, off, rfl, hbl, hcell⟩ := (S.out.ext HXW.out).parts (by omega)
          have d1 := (hcell j p hp).2.1
          obtain ⟨f0, f1, f2⟩ := (MB.out.ext hx.out).cell hv
          have HCV : Hid (p.nd.kind = 2 → v = false → inb = true) := Lib.hid (fun h1 h2 => hin.out.2 (by
            obtain ⟨x, m, h3, h4, h5, h6⟩ := HGS.out.covers j p.nd (Nat.zero_le _) (nds_get hp) h1 (by rw [hv, h2])
            exact ⟨x, m, h3, h4, h5, h6⟩))
          have CB := Lib.hid (bytes_any _ c ps xs wr (S.out.ext HXW.out) HGO.out HL.out (by omega) (fun x hxx => by have := (HME.out x hxx).2.1; rwa [nds_length] at this))
          obtain ⟨acc, hacc⟩ : ∃ acc, xs.foldl (bytesF (nds ps)) 0 = acc := ⟨_, rfl⟩
          rw [hacc] at CB ⊢
          clear hcell hp hv hin f1 hacc hg
          obtain ⟨kb, hkb⟩ : ∃ y, (p.nd.kind == 2) = y := ⟨_, rfl⟩
          have HFIN : kb = true → v = false → inb = true := fun h1 h2 => HCV.out (by simpa using hkb.trans h1) h2
          cases kb with
          | false =>
            go_wp2_with fail
            refine CB.out.mono ?_
            rintro e w9 ⟨rfl, hx9⟩
            have HX9 := Lib.hid (HXW.out.trans hx9)
            clear hx9
            go_wp2_with fail
            go_ret
            exact ⟨ret_bool (by simp), HX9.out⟩
          | true =>
            cases v with
            | true =>
              go_wp2_with fail
              refine CB.out.mono ?_
              rintro e w9 ⟨rfl, hx9⟩
              have HX9 := Lib.hid (HXW.out.trans hx9)
              clear hx9
              go_wp2_with fail
              go_ret
              exact ⟨ret_bool (by simp), HX9.out⟩
            | false =>
              obtain rfl := HFIN rfl rfl
              go_wp2_with fail
              refine CB.out.mono ?_
              rintro e w9 ⟨rfl, hx9⟩
              have HX9 := Lib.hid (HXW.out.trans hx9)
              clear hx9
              go_wp2_with fail
              go_ret
              exact ⟨ret_bool (by simp), HX9.out⟩
    · go_wp2_with fail
      refine (rcheck_no (S.out.ext HX2.out) T).mono ?_
      rintro e w3 ⟨rfl, hx3⟩
      have HX3 := Lib.hid (HX2.out.trans hx3)
      clear hx3 T
      go_wp2_with fail
      go_ret
      exact ⟨rfl, HX3.out⟩
end Go.Proofs.Ytaffaeompdlecaa
