/- JobsServed: the walk. -/
import Derived.Test.YtmgpofdmfmeljaaJr
import Derived.Test.YtmgpofdmfmeljaaLd
import Derived.WalkSpells
import Derived.WalkLawsBesides
import Derived.BigRegion
import Derived.Deep.RegionWith
import Derived.Deep.QuietTactic
import Derived.Deep.DeepCutAuto
import Derived.Deep.RegionHeld3
import Derived.Deep.RegionLaw
import Derived.BigQuiet
import Derived.Lib.Hide
namespace Go.Proofs.Ytmgpofdmfmeljaa
open Go.RowKit Go.Maps
attribute [local go_sem] more_drew more_drewN more_size more_cell more_frozen more_setCell drew_more drewN_more lt_add_r lt_add_r2 lt_add_r3 lt_add_r4 lt_add_r5 lt_add_r6 lt_add_r7 lt_add_r8 lt_add_r9 lt_add_r10 lt_self_r lt_self_r2

set_option maxRecDepth 100000 in
set_option maxHeartbeats 2000000 in
theorem pick_any (n m : Int) (w : World) (h0 : 1 ≤ m) (h1 : m ≤ 1000) (hn : -9223372036854775808 ≤ n) (hn2 : n ≤ 9223372036854775807) : Calls Try.prog 9 #[.int .i64 n, .int .i64 m] w fun e w' => e = .returned (.int .i64 (n % m)) ∧ w' = w := by
  have em : m ≠ 0 := by omega
  have hr1 := Int.emod_nonneg n em
  have hr2 := Int.emod_lt_of_pos n (show 0 < m by omega)
  have ht1 : Int.tmod n m = if 0 ≤ n ∨ m ∣ n then n % m else n % m - m := by
    rw [Int.tmod_eq_emod]
    split
    · simp
    · rw [show (m.natAbs : Int) = m by omega]
  obtain ⟨t, ht⟩ : ∃ t, Int.tmod n m = t := ⟨_, rfl⟩
  obtain ⟨r, hr⟩ : ∃ r, n % m = r := ⟨_, rfl⟩
  rw [ht, hr] at ht1
  rw [hr] at hr1 hr2 ⊢
  have hb : -1000 ≤ t ∧ t ≤ 1000 := by split at ht1 <;> omega
  have hwt : wrap64 t = t := IntWalk.wrap64_in _ (by omega)
  have q1 : decide (m < 1) = false := decide_eq_false (by omega)
  have HE : Hid ((t < 0 → t + m = r) ∧ (¬ t < 0 → t = r)) := Lib.hid (by
    split at ht1
    · exact ⟨fun h => by omega, fun _ => by omega⟩
    · exact ⟨fun _ => by omega, fun h => by omega⟩)
  have e1 : wrap64 (t + m) = t + m := IntWalk.wrap64_in _ (by omega)
  clear ht1 hr1 hr2 hr
  by_cases hlt : t < 0
  · have q2 : decide (t < 0) = true := decide_eq_true hlt
    have E2 := Lib.hid (HE.out.1 hlt)
    clear hlt HE
    go_enter Try.func9, Try.ntmps9
    go_wp2_with fail
    go_ret
    exact ⟨ret_int E2.out, rfl⟩
  · have q2 : decide (t < 0) = false := decide_eq_false hlt
    have E2 := Lib.hid (HE.out.2 hlt)
    clear hlt HE
    go_enter Try.func9, Try.ntmps9
    go_wp2_with fail
    go_ret
    exact ⟨ret_int E2.out, rfl⟩
def zeroD (d : Dt) : Dt := { d with age := 0 }
theorem own_ne_map {w : World} {base c b n : Nat} {A : Option Addr} {ds : List Dt} {f : Int → Int} (h : OwnD w base A c ds) (hm : MapI w b n f) : ∀ g, A = some ⟨g, 0, none⟩ → g ≠ b := fun g hg hgb => by
  subst hg hgb
  obtain ⟨D, ⟨es, cl, h1, _⟩, _⟩ := hm
  rcases h.2 with ⟨h2, _⟩ | ⟨g', cap, cur, h2, h3, h4, _⟩
  · cases h2
  · injection h2 with a1
    injection a1 with a1
    injection a1 with a1
    subst a1
    rw [h1] at h4
    cases h4
theorem OwnD.keep {w w' : World} {base c : Nat} {A : Option Addr} {ds : List Dt} {S : Nat → Prop} (h : OwnD w base A c ds) (t : Turn S w w') (hS : ∀ g, A = some ⟨g, 0, none⟩ → ¬ S g) : OwnD w' base A c ds :=
  own_keep h fun g hg => t.block g (own_old h g hg) (by
    rcases h.2 with ⟨h2, _⟩ | ⟨g', cap, cur, h2, h3, h4, _⟩
    · injection h2 with a1
      subst a1
      cases hg
    · injection h2 with a1
      subst a1
      injection hg with hg
      exact hS g (by rw [← hg]))
set_option maxRecDepth 100000 in
set_option maxHeartbeats 4000000 in
theorem jobsServed_any (A : Option Addr) (c : Nat) (ds : List Dt) (B : Option Addr) (e : Nat) (ss : List Sn) (n2 : Int) (w : World) (h : Jobs w A ds) (hl : ds.length ≤ c) (hc : c ≤ 9223372036854775807) (hn : A = none → c = 0)
    (hS : Spns w B ss) (sl : ss.length ≤ e) (se : e ≤ 9223372036854775807) (hb : I64 n2) :
    Calls Try.prog 3 #[.slice A ds.length c, .slice B ss.length e, .int .i64 n2] w fun e w' => e = .returned (.bool true) ∧ Ext w w' := by
  have H := Lib.hid h
  have HN := Lib.hid hn
  have HS := Lib.hid hS
  have HB2 := Lib.hid hb
  have hl2 : ds.length ≤ 9223372036854775807 := by omega
  have hs2 : ss.length ≤ 9223372036854775807 := by omega
  clear h hn hS hl hc sl se hb
  go_enter Try.func3, Try.ntmps3
  go_wp2_with fail
  refine (lives24_any w).mono ?_
  rintro e w1 ⟨rfl, hx1⟩
  have HX1 := Lib.hid hx1
  clear hx1
  by_cases h20 : 20 < ds.length
  · go_wp2_with fail
    go_ret
    exact ⟨rfl, HX1.out⟩
  · by_cases h0 : ds.length = 0
    · have q0 : ((ds.length : Int) == 0) = true := by simp [h0]
      clear h0
      go_wp2_with fail
      go_ret
      exact ⟨rfl, HX1.out⟩
    · have q0 : ((ds.length : Int) == 0) = false := by simpa using h0
      have H0 : Hid (0 < ds.length) := Lib.hid (by omega)
      clear h0
      go_wp2_with fail
      refine (rcheck_any A _ ds w1 (H.out.ext HX1.out) hl2).mono ?_
      rintro e w2 ⟨n, rfl, hn, hx2⟩
      have HX2 := Lib.hid (HX1.out.trans hx2)
      have HNC := Lib.hid hn
      clear hx2 hn HX1
      by_cases hz : n = 0
      · subst hz
        have HC := Lib.hid (HNC.out rfl)
        clear HNC
        by_cases hv0 : ss.length = 0
        · have q1 : ((ss.length : Int) == 0) = true := by simp [hv0]
          clear hv0
          go_wp2_with fail
          go_ret
          exact ⟨rfl, HX2.out⟩
        · have q1 : ((ss.length : Int) == 0) = false := by simpa using hv0
          by_cases hv2 : 200 < ss.length
          · clear hv0
            go_wp2_with fail
            go_ret
            exact ⟨rfl, HX2.out⟩
          · have HV : Hid (0 < ss.length ∧ ss.length ≤ 200) := Lib.hid (by omega)
            clear hv0
            go_wp2_with fail
            refine (ownj_any A _ ds w2 (H.out.ext HX2.out) HN.out (by omega)).mono ?_
            rintro e w3 ⟨A1, c1, rfl, ho, hx3⟩
            have HO := Lib.hid (ho.base (base' := w.heap.size) HX2.out.size)
            have HX3 := Lib.hid (HX2.out.trans hx3)
            clear ho hx3 HX2 H HN hv2 h20
            go_wp2_with fail
            go_loopw [7] (fun i wr => ∃ k : Nat, k ≤ ds.length ∧ i = .int .i64 k ∧ Hid (OwnD wr w.heap.size A1 c1 (upTo zeroD ds k)) ∧ Hid (Ext w wr)) (fun i _ => ds.length - (intOf i).toNat)
            case atStart => exact ⟨0, Nat.zero_le _, rfl, Lib.hid (by rw [upTo_zero]; exact HO.out), HX3⟩
            case round =>
              obtain ⟨k, hk, rfl, ho, hx⟩ := hrel
              clear HO HX3
              by_cases hlt : k < ds.length
              · obtain ⟨g, rfl, hg1, hg2, hg3⟩ := ho.out.at (by rw [upTo_length]; omega)
                obtain ⟨b, off, hA, _, hcl⟩ := ho.out.jobs.1 (by rw [upTo_length]; omega)
                injection hA with hA
                injection hA with ha1 ha2
                subst ha1 ha2
                obtain ⟨x0, x1, x2, x3, x4⟩ := hcl k (by rw [upTo_length]; omega)
                rw [upTo_get _ hlt] at x3
                have hf := hg3 (k * 5 + 3)
                have hul : k < (upTo zeroD ds k).length := by rw [upTo_length]; omega
                have HSet := Lib.hid (ho.out.age hul 0)
                rw [upTo_get _ hlt] at HSet
                have HK := Lib.hid (upTo_step zeroD hlt)
                obtain ⟨d, hd⟩ : ∃ d, ds.getD k d0 = d := ⟨_, rfl⟩
                rw [hd] at x3 HSet HK
                simp only [Nat.zero_add] at x3
                have HG1 := Lib.hid hg1
                clear hcl hul hg3 hg1 hd x0 x1 x2 x4
                go_wp2_with fail
                go_roundw
                case rel => exact ⟨k + 1, by omega, by go_num, Lib.hid (by rw [← HK.out]; exact HSet.out), Lib.hid (hx.out.setCell HG1.out _)⟩
                case measure => simp [intOf]; omega
              · obtain rfl : k = ds.length := by omega
                have h0 := ho.out
                rw [upTo_all] at h0
                have HO := Lib.hid h0
                clear ho h0
                go_wp2_with fail
                refine (pick_any n2 30 wr (by omega) (by omega) HB2.out.1 HB2.out.2).mono ?_
                rintro e w4 ⟨rfl, rfl⟩
                obtain ⟨wt, hwt⟩ : ∃ wt : Nat, (wt : Int) = 1 + n2 % 30 := ⟨(1 + n2 % 30).toNat, by omega⟩
                have hwt2 : 1 ≤ wt ∧ wt ≤ 30 := by omega
                have HWT := Lib.hid hwt2
                have HW := Lib.hid hwt.symm
                clear hwt hwt2
                have hmm := @run_makeMap Try.prog
                go_wp2_with fail
                simp only [HW.out]
                obtain ⟨b, hb⟩ : ∃ b, w4.heap.size = b := ⟨_, rfl⟩
                obtain ⟨W1, hW1⟩ : ∃ W1, w4.alloc (.map #[] 0) = W1 := ⟨_, rfl⟩
                have M1 : Hid (MapI W1 b 0 (fun _ => 0)) := Lib.hid (by rw [← hW1, ← hb]; exact MapI.made w4)
                have X1 : Hid (Ext w W1) := Lib.hid (by rw [← hW1]; exact hx.out.alloc _)
                have HB : Hid (w.heap.size ≤ b) := Lib.hid (by have := hx.out.size; omega)
                have HOz : Hid (OwnD W1 w.heap.size A1 c1 (ds.map zeroD)) := Lib.hid (by rw [← hW1]; exact HO.out.ext (by repeat (first | exact Ext.refl _ | refine Ext.alloc ?_ _ | refine Ext.more ?_ _ _ | refine Ext.drew ?_ | refine Ext.drewN ?_ _ | refine Ext.setCell ?_ (by simp <;> omega) _)))
                have ST : Hid (StD ds.length wt 0 (ds.map zeroD) (fun _ => 0)) := Lib.hid (by
                  rcases StD.start (wt := wt) HC.out with h | h
                  · exact h
                  · have := HWT.out; omega)
                have hJ : ds.length ≤ 20 ∧ 1 ≤ ds.length := ⟨by omega, H0.out⟩
                obtain ⟨J, hJJ⟩ : ∃ J, ds.length = J := ⟨_, rfl⟩
                have HZL : Hid ((ds.map zeroD).length = J) := Lib.hid (by rw [List.length_map, hJJ])
                rw [hJJ] at hJ ST ⊢
                obtain ⟨LM, hLM⟩ : ∃ LM : Nat, LM = 3 * (wt + J) := ⟨_, rfl⟩
                have e2 : wrap64 ((wt : Int) + (J : Int)) = ((wt + J : Nat) : Int) := IntWalk.wrap64_in _ (by have := HWT.out; omega)
                have e3 : wrap64 (3 * ((wt + J : Nat) : Int)) = (LM : Int) := by rw [IntWalk.wrap64_in _ (by have := HWT.out; omega)]; omega
                have HLM : Hid (LM ≤ 150) := Lib.hid (by have := HWT.out; omega)
                obtain ⟨SJ, hSJ⟩ : ∃ SJ, wt + J = SJ := ⟨_, rfl⟩
                rw [hSJ] at e2 e3
                have HSJ := Lib.hid hSJ
                simp only [hb, hW1]
                clear hW1 hmm hb hJJ HO hLM hSJ hk hlt H0
                go_loopw [0, 9] (fun v0 v9 wr => ∃ (N n : Nat) (A' : Option Addr) (c' : Nat) (es : List Dt) (last : Int → Int), Hid (N = n + 1) ∧ N ≤ LM + 1 ∧ v9 = .int .i64 N ∧ v0 = .slice A' J c' ∧ Hid (es.length = J) ∧ Hid (StD J wt n es last) ∧ Hid (MapI wr b n last) ∧
                  Hid (OwnD wr w.heap.size A' c' es) ∧ Hid (Ext w wr)) (fun _ v9 _ => LM + 1 - (intOf v9).toNat)
                case atStart => exact ⟨1, 0, A1, c1, ds.map zeroD, fun _ => 0, Lib.hid rfl, by omega, rfl, rfl, HZL, ST, M1, HOz, X1⟩
                case round =>
                  clear X1 M1 HOz ST HZL
                  obtain ⟨N, n, A', c', es, last, hNn, hN, rfl, rfl, hel, st, hm, ho, hx⟩ := hrel
                  by_cases hlt : N ≤ LM
                  · obtain ⟨vb, vo, rfl, hvb, hvc⟩ := HS.out HV.out.1
                    obtain ⟨M, hM⟩ : ∃ M : Nat, M = min N ss.length := ⟨_, rfl⟩
                    have hM1 : 1 ≤ M ∧ M ≤ ss.length := by have := HV.out; have := hNn.out; omega
                    have q2 : (if (ss.length : Int) < (N : Int) then (ss.length : Int) else (N : Int)) = (M : Int) := by split <;> omega
                    have q3 : (if ss.length < N then (ss.length : Int) else (N : Int)) = (M : Int) := by split <;> omega
                    have hmv : M - 1 < ss.length := by omega
                    obtain ⟨va, hva⟩ : ∃ va, ss[M - 1]? = some va := ⟨_, List.getElem?_eq_getElem hmv⟩
                    obtain ⟨y0, y1⟩ := hvc (M - 1) va hva
                    have hvb2 := Nat.lt_of_lt_of_le hvb hx.out.size
                    have z0 := ext_cell y0 hvb hx.out
                    have z1 := ext_cell y1 hvb hx.out
                    have CN := next_any ⟨va.1, va.2, wt⟩ A' c' es wr ho.out.jobs.1 st.out.check
                    rw [hel.out, show (decide (0 < J)) = true from decide_eq_true (by omega)] at CN
                    obtain ⟨s, hs⟩ : ∃ s, (topD ⟨va.1, va.2, wt⟩ es).slot = s := ⟨_, rfl⟩
                    rw [show ((qR ⟨va.1, va.2, (wt : Int)⟩ es).getD 0 z6).2.slot = s from hs] at CN
                    have hsb : 0 ≤ s ∧ s < 64 := by
                      have h1 := st.out.check.mem (topD_mem (k := ⟨va.1, va.2, wt⟩) (ds := es) (by rw [hel.out]; omega))
                      rw [hs] at h1
                      omega
                    have HCN := Lib.hid CN
                    have ST2 := Lib.hid (st.out.step ⟨va.1, va.2, wt⟩ rfl HWT.out.1 (by omega))
                    rw [hs, ← hNn.out] at ST2
                    have STK := Lib.hid (fun (d : Dt) (hd : d ∈ es) => st.out.ok s hd)
                    rw [show (n : Int) + 1 = (N : Int) by have := hNn.out; omega, show (wt : Int) + (J : Int) = (SJ : Int) by have := HSJ.out; omega] at STK
                    have HSB := Lib.hid hsb
                    have HM1 := Lib.hid hM1
                    clear CN hvc hva y0 y1 hM hs hsb hmv
                    go_wp2_with fail
                    refine HCN.out.mono ?_
                    rintro e w5 ⟨rfl, hx5⟩
                    have HX5 := Lib.hid (hx.out.trans hx5)
                    have HM5 := Lib.hid (hm.out.ext hx5)
                    have HO5 := Lib.hid (ho.out.ext hx5)
                    clear hx5 HCN
                    go_wp2_with (at_mapUpdate; refine put_map rfl _ _ _ rfl b n last rfl HM5.out (by have := hNn.out; have := HLM.out; omega) s N rfl rfl (by have := HSB.out; omega) (by have := HSB.out; omega) (by omega) (by have := HLM.out; omega) w HX5.out HB.out ?_; intro w6 hm6 ht6 hx6)
                    have HO6 := Lib.hid (HO5.out.keep ht6 (own_ne_map HO5.out HM5.out))
                    have HX6 := Lib.hid hx6
                    rw [← hNn.out] at hm6
                    have HM6 := Lib.hid hm6
                    clear hm6 ht6 hx6 HX5 HM5 HO5 q2 q3 z0 z1 hvb2 HM1 hM1
                    obtain ⟨f, hf⟩ : ∃ f : Int → Int, (fun y => if y = s then (N : Int) else last y) = f := ⟨_, rfl⟩
                    have HFf : Hid (∀ y, (if y = s then (N : Int) else last y) = f y) := Lib.hid (fun y => by rw [← hf])
                    rw [hf] at HM6 ST2
                    clear hf
                    go_wp2_with fail
                    go_loopw [12] (fun i wr => ∃ k : Nat, k ≤ J ∧ i = .int .i64 k ∧ wr = w6) (fun i _ => J - (intOf i).toNat)
                    case atStart => exact ⟨0, Nat.zero_le _, rfl, rfl⟩
                    case round =>
                      obtain ⟨k, hk, rfl, rfl⟩ := hrel
                      by_cases hlk : k < J
                      · have hlk2 : k < es.length := by rw [hel.out]; exact hlk
                        obtain ⟨g, off, rfl, hg, hcl⟩ := HO6.out.jobs.1 (by omega)
                        obtain ⟨x0, _, _, _, _⟩ := hcl k hlk2
                        obtain ⟨d, hd⟩ : ∃ d, es.getD k d0 = d := ⟨_, rfl⟩
                        rw [hd] at x0
                        have hdm : d ∈ es := by rw [← hd, getD_at hlk2]; exact List.getElem_mem hlk2
                        have h1 := STK.out d hdm
                        rw [HFf.out] at h1
                        have h2 := st.out.check.mem hdm
                        obtain ⟨y, hy⟩ : ∃ y, f d.slot = y := ⟨_, rfl⟩
                        rw [hy] at h1
                        obtain ⟨z, hz⟩ : ∃ z, (N : Int) - y = z := ⟨_, rfl⟩
                        rw [hz] at h1
                        have e5 : wrap64 ((N : Int) - y) = z := by rw [IntWalk.wrap64_in _ (by have := HSJ.out; have := HWT.out; omega)]; exact hz
                        have q5 : decide ((SJ : Int) < z) = false := decide_eq_false (by omega)
                        have HY := Lib.hid hy
                        have HH2 := Lib.hid h2
                        clear hcl hd hdm hlk2 h1 h2 hy hz
                        go_wp2_with (at_lookup; refine look_map rfl _ _ rfl b N f rfl HM6.out d.slot rfl (by have := HH2.out; omega) (by have := HH2.out; omega) ?_; rw [HY.out])
                        go_roundw
                        case rel => exact ⟨k + 1, by omega, by go_num, trivial⟩
                        case measure => simp [intOf]; omega
                      · have CS := serve_any A' c' es s wr HO6.out.jobs.1 HO6.out.jobs.2.2.2 (by rw [hel.out]; omega)
                        rw [hel.out] at CS
                        go_wp2_with fail
                        refine CS.mono ?_
                        rintro e w7 ⟨A7, c7, rfl, ho7, hx7⟩
                        rw [show (es.map (serveF s)).length = J by rw [List.length_map, hel.out]]
                        have HO7 := Lib.hid ho7
                        have HX7 := Lib.hid (HX6.out.trans hx7)
                        have HM7 := Lib.hid (HM6.out.ext hx7)
                        have hl7 : (es.map (serveF s)).length = J := by rw [List.length_map, hel.out]
                        have HL7 := Lib.hid hl7
                        clear ho7 hx7 CS hl7
                        have I8 : Ints (w7.alloc (.cells #[.int .i64 s] 3)) (some ⟨w7.heap.size, 0, none⟩) [s] := by
                          have h : OwnI (w7.alloc (.cells #[.int .i64 s] 3)) w7.heap.size (some ⟨w7.heap.size, 0, none⟩) 1 [s] := own_lit w7 w7.heap.size _ 1 _ 1 _ rfl (Nat.le_refl _) rfl (by unfold maxLen; omega)
                          exact h.ints.1
                        have X8 : Ext w7 (w7.alloc (.cells #[.int .i64 s] 3)) := (by repeat (first | exact Ext.refl _ | refine Ext.alloc ?_ _ | refine Ext.more ?_ _ _ | refine Ext.drew ?_ | refine Ext.drewN ?_ _ | refine Ext.setCell ?_ (by simp <;> omega) _))
                        have CT := ticked_any A7 (some ⟨w7.heap.size, 0, none⟩) c7 1 (es.map (serveF s)) [s] _ (HO7.out.jobs.1.ext X8) HO7.out.jobs.2.2.2 (by rw [HL7.out]; omega) I8 (by simp) (fun d hd => by
                          obtain ⟨d', hd', rfl⟩ := List.mem_map.1 hd
                          have h1 := st.out.check.mem hd'
                          unfold serveF
                          split
                          · exact ⟨by show _ ≤ d'.slot; omega, by show d'.slot ≤ _; omega, by show _ ≤ (0 : Int); omega⟩
                          · omega) (fun x hx => by
                          obtain rfl := List.mem_singleton.1 hx
                          have := HSB.out
                          omega)
                        rw [List.map_map, show es.map ((tickF fun y => decide (y ∈ [s])) ∘ serveF s) = es.map (nextD s) from List.map_congr_left fun d hd => nextD_eq s d (by have := st.out.age_le hd; have := HWT.out; omega), HL7.out] at CT
                        have HCT := Lib.hid CT
                        have HX8 := Lib.hid (HX7.out.trans X8)
                        have HM8 := Lib.hid (HM7.out.ext X8)
                        clear CT X8 I8
                        go_wp2_with fail
                        refine HCT.out.mono ?_
                        rintro e w9 ⟨A9, c9, rfl, ho9, hx9⟩
                        rw [show (es.map (nextD s)).length = J by rw [List.length_map, hel.out]]
                        have HL9 : Hid ((es.map (nextD s)).length = J) := Lib.hid (by rw [List.length_map, hel.out])
                        have HO9 := Lib.hid (ho9.base (base' := w.heap.size) HX8.out.size)
                        have HX9 := Lib.hid (HX8.out.trans hx9)
                        have HM9 := Lib.hid (HM8.out.ext hx9)
                        have hLMb := HLM.out
                        clear ho9 hx9 HCT
                        go_wp2_with fail
                        go_roundw
                        case rel => exact ⟨N + 1, N, A9, c9, es.map (nextD s), f, Lib.hid rfl, by omega, by go_num, rfl, HL9, ST2, HM9, HO9, HX9⟩
                        case measure => simp [intOf]; omega
                  · go_wp2_with fail
                    go_ret
                    exact ⟨rfl, hx.out⟩
      · have qz : (n == 0) = false := by simpa using hz
        have qz2 : (n != 0) = true := by simpa using hz
        clear hz
        go_wp2_with fail
        go_ret
        exact ⟨rfl, HX2.out⟩
end Go.Proofs.Ytmgpofdmfmeljaa
