/- The iterator of reuse.greatest. -/
import Derived.Test.YtggmljookcmnkaaH1
import Derived.Test.YtggmljookcmnkaaTw
import Derived.Test.YtggmljookcmnkaaG6
import Derived.WalkSpells
import Derived.WalkLawsBesides
import Derived.BigRegion
import Derived.Deep.RegionWith
import Derived.Deep.QuietTactic
import Derived.Deep.DeepCutAuto
import Derived.Deep.RegionHeld3
import Derived.Deep.RegionLaw
import Derived.BigQuiet
import Derived.Lib.Hide
namespace Go.Proofs.Ytggmljookcmnkaa
open Go.RowKit
attribute [local go_sem] more_drew more_drewN more_size more_cell more_frozen more_setCell drew_more drewN_more lt_add_r lt_add_r2 lt_add_r3 lt_add_r4 lt_add_r5 lt_add_r6 lt_add_r7 lt_add_r8 lt_add_r9 lt_add_r10 lt_self_r lt_self_r2
attribute [local go_sem] Oper.semAt_some

/-- the places that are gone through: none where no tree is -/
def GsOk (l : List Nd) (xs : List Nat) : Prop := (Tree l → ∃ st, StaleOk l st ∧ Gs l st 0 xs) ∧ (¬ Tree l → xs = [])
theorem gsOk_all (l : List Nd) : ∃ xs, GsOk l xs := by
  by_cases T : Tree l
  · by_cases h : ∃ st, StaleOk l st
    · obtain ⟨st, hs⟩ := h
      obtain ⟨xs, hx⟩ := gs_all T hs.1 l.length 0 (by omega)
      exact ⟨xs, fun _ => ⟨st, hs, hx⟩, fun h => absurd T h⟩
    · exfalso
      apply h
      have : ∀ n k, l.length - k ≤ n → ∃ bs : List Bool, bs.length = l.length ∧ ∀ (j : Nat) (p : Nd), l[j]? = some p → k ≤ j → bs[j]? = some (decide (p.met ≠ 0) || p.kids.any fun x => (bs[x.toNat]?).getD false) := by
        intro n
        induction n with
        | zero => intro k hk; exact ⟨List.replicate l.length false, List.length_replicate .., fun j p hp hj => by have := lt_of_get hp; omega⟩
        | succ n ih =>
          intro k hk
          obtain ⟨bs, h1, h2⟩ := ih (k + 1) (by omega)
          rcases Nat.lt_or_ge k l.length with hlt | hge
          · obtain ⟨p, hp⟩ : ∃ p, l[k]? = some p := ⟨_, List.getElem?_eq_getElem hlt⟩
            have := StaleTo.step T ⟨h1, h2⟩ hp
            exact ⟨_, this.len, this.behind⟩
          · exact ⟨bs, h1, fun j p hp hj => by have := lt_of_get hp; omega⟩
      obtain ⟨bs, h1, h2⟩ := this l.length 0 (by omega)
      exact ⟨bs, h1, fun j p hp => h2 j p hp (Nat.zero_le _)⟩
  · exact ⟨[], fun h => absurd h T, fun _ => rfl⟩
def encN (x : Nat) : Array Value := #[.int .i64 (x : Int)]
theorem greatest_make (A : Option Addr) (n c : Nat) (w : World) :
    Calls Try.prog 77 #[.slice A n c] w fun e w' => e = .returned (.func (.func 120) #[] #[pt w.heap.size]) ∧ w' = w.alloc (.cells #[.slice A n c] 23) := by
  go_enter Try.func77, Try.ntmps77
  go_wp2_with fail
  go_ret
  exact ⟨rfl, rfl⟩
set_option maxRecDepth 100000 in
set_option maxHeartbeats 2000000 in
theorem greatest_iter (A : Option Addr) (c : Nat) (ps : List Prt) (xs : List Nat) (w0 w1 : World) (fb : Nat) (S : Nat → Prop) (hS : PS w0 A c ps) (hG : GsOk (nds ps) xs)
    (h0 : Below w0.heap.size w0 w1) (hfb : w1.heap[fb]? = some (.cells #[.slice A ps.length c] 23)) (hfS : ¬ S fb) (hfree : ∀ b, b < w0.heap.size → ¬ S b) :
    IterG Try.prog 120 #[pt fb] encN xs S (fun _ _ => True) w1 := by
  intro l J Jx K0 hSl hlw hK0 hJ hJx hR hY hJ0
  have hlen := hS.few.len
  have SP := Lib.hid hS
  have HG := Lib.hid hG
  have HFR := Lib.hid hfree
  have HFS := Lib.hid hfS
  have HY := Lib.hid hY
  have HJ := Lib.hid hJ
  have c0 := cell_of_row _ _ 0 _ _ _ hfb
  simp at c0
  have l0 := lt_of_heap hfb
  have HFB := Lib.hid hfb
  have HFBL := Lib.hid l0
  have HB0 := Lib.hid h0
  have HB0S := Lib.hid h0.size
  have HJ0 := Lib.hid hJ0
  have HSL2 := Lib.hid hSl
  have HLW := Lib.hid hlw
  have HKS := Lib.hid hK0
  clear hR hSl hlw hK0
  clear hS hG hfree hfS hY hJ hJx hJ0 h0 hfb
  simp only [List.append_toArray, List.cons_append, List.nil_append]
  by_cases T : Tree (nds ps)
  · have HT := Lib.hid T
    obtain ⟨st0, hst0, hgs⟩ := HG.out.1 T
    have HST0 := Lib.hid hst0
    have HGS := Lib.hid hgs
    clear hst0 hgs T
    go_enter Try.func120, Try.ntmps120
    go_wp2_with fail
    refine (stale_any A c ps _ (SP.out.below HB0.out) HT.out).mono ?_
    rintro e w2 ⟨st, hst, g, rfl, hM, hgw, hx2⟩
    obtain rfl : st = st0 := StaleOk.one HT.out hst HST0.out
    have hsl : st.length = ps.length := by rw [hst.1, nds_length]
    have S0 : Hid (Below w0.heap.size w0 w2 ∧ w2.heap[fb]? = some (.cells #[.slice A ps.length c] 23) ∧ w1.heap.size ≤ w2.heap.size ∧ MadeB w2 g st ∧ J 0 K0 w2 ∧ ¬ K0 g ∧ ∀ b, K0 b → S b ∨ w1.heap.size ≤ b) :=
      Lib.hid ⟨HB0.out.trans (hx2.below.mono HB0.out.size), ext_block HFB.out hx2, hx2.size, hM, HJ.out _ _ _ _ hx2 HJ0.out, fun h => by have := (HKS.out g h).2; omega, fun b hb => .inl (HKS.out b hb).1⟩
    have HGW : Hid (w1.heap.size ≤ g) := Lib.hid hgw
    have HSL := Lib.hid hsl
    rw [hsl]
    clear hst hM hgw hx2 hsl c0 l0 HB0 HFB HJ0
    go_wp2_with fail
    go_loopw [4] (fun v wr => ∃ (i j : Nat) (K : Nat → Prop), v = .int .i64 i ∧ Hid (Gs (nds ps) st i (xs.drop j)) ∧ i ≤ ps.length ∧ j ≤ xs.length ∧ Hid (Below w0.heap.size w0 wr ∧ wr.heap[fb]? = some (.cells #[.slice A ps.length c] 23) ∧ w1.heap.size ≤ wr.heap.size ∧ MadeB wr g st ∧ J j K wr ∧ ¬ K g ∧ ∀ b, K b → S b ∨ w1.heap.size ≤ b)) (fun v _ => ps.length - (intOf v).toNat)
    case atStart => exact ⟨0, 0, K0, rfl, HGS, Nat.zero_le _, Nat.zero_le _, S0⟩
    case round =>
      obtain ⟨i, j, K, rfl, hg, hil, hjl, hs⟩ := hrel
      by_cases hlt : i < ps.length
      · obtain ⟨p, hp⟩ : ∃ p, ps[i]? = some p := ⟨_, List.getElem?_eq_getElem hlt⟩
        obtain ⟨v, hv⟩ : ∃ v, st[i]? = some v := ⟨_, List.getElem?_eq_getElem (by rw [HSL.out]; exact hlt)⟩
        obtain ⟨s1, s2, s3, s4, s5, s6, s7⟩ := hs.out
        obtain ⟨b, off, hA, hb, hcell⟩ := (SP.out.below s1).parts (by omega)
        have d1 := (hcell i p hp).2.1
        obtain ⟨f0, f1, f2⟩ := s4.cell hv
        have k0 := cell_of_row _ _ 0 _ _ _ s2
        simp at k0
        have l0 := lt_of_heap s2
        have hcap := SP.out.cap
        have hgs := hg.out
        have HPP := Lib.hid hp
        have HVV := Lib.hid hv
        have HA := Lib.hid hA
        rw [hA] at k0
        clear hcell hp hv s1 s2 s3 s4 s5 s6 s7 hA f1
        by_cases htk : p.nd.kind = 2 ∧ v = false
        · obtain ⟨hk, rfl⟩ := htk
          have hk1 : (p.nd.kind != 2) = false := by simp [hk]
          obtain ⟨m, hm⟩ := HT.out.part (i := i) (by rw [nds_length]; exact hlt)
          -- the next one to be told
          have hnext : ∃ ys, xs.drop j = i :: ys ∧ Gs (nds ps) st m ys := by
            generalize xs.drop j = zs at hgs ⊢
            cases hgs with
            | done _ hd => rw [nds_length] at hd; omega
            | skip _ q _ hq hc _ =>
              rw [nds_get HPP.out] at hq
              cases hq
              rcases hc with hc | hc
              · exact absurd hk hc
              · rw [HVV.out] at hc; cases hc
            | take _ q m' ys hq _ _ hm' h2 =>
              have := hm.det hm'
              subst this
              exact ⟨ys, rfl, h2⟩
          obtain ⟨ys, hys, hgs2⟩ := hnext
          have hjx : xs[j]? = some i := by
            have : (xs.drop j)[0]? = some i := by rw [hys]; rfl
            rwa [List.getElem?_drop, Nat.add_zero] at this
          have hyd : xs.drop (j + 1) = ys := by
            have : (xs.drop j).drop 1 = ys := by rw [hys]; rfl
            rwa [List.drop_drop] at this
          have hjlt := (List.getElem?_eq_some_iff.1 hjx).1
          obtain ⟨fn, tmps, assign, body, hy, hRound⟩ := HY.out j i K wr hjx hs.out.2.2.1 hs.out.2.2.2.2.1
          unfold encN at hy
          have HR := Lib.hid hRound
          have HM := Lib.hid hm
          have HG2 : Hid (Gs (nds ps) st m (xs.drop (j + 1))) := Lib.hid (by rw [hyd]; exact hgs2)
          have hmi := hm.lt_end
          have hml := hm.le
          rw [nds_length] at hml
          clear hRound hm hys hjx hyd hgs hgs2 hk
          go_upto_region 5 with fail
          refine (wpIn_wide (n := 1)).1 ?_
          gi_wp2
          refine HR.out.mono ?_
          rintro e w8 ⟨t8, (⟨rfl, K', hK', hJ8⟩ | ⟨rfl, hJ8⟩)⟩
          · obtain ⟨s1, s2, s3, s4, s5, s6, s7⟩ := hs.out
            have n1 := s1.trans (t8.below s1.size fun k hk => Nat.le_of_not_lt fun h => by
              rcases hk with hk | rfl
              · rcases s7 k hk with hk | hk
                · exact HFR.out k h hk
                · have := HB0S.out; omega
              · exact HFR.out k h HSL2.out)
            have n2 := (t8.block _ l0 (fun hk => by
              rcases hk with hk | hk
              · rcases s7 fb hk with hk | hk
                · exact HFS.out hk
                · have := HFBL.out; omega
              · exact HFS.out (hk ▸ HSL2.out))).trans s2
            have n3 := Nat.le_trans s3 t8.size
            have n4 : MadeB w8 g st := (t8.block _ (lt_of_heap s4) (fun hk => by
              rcases hk with hk | hk
              · exact s6 hk
              · have := HGW.out; have := HLW.out; omega)).trans s4
            have n6 : ¬ K' g := fun hk => by
              rcases hK' g hk with hk | hk
              · exact s6 hk
              · have := lt_of_heap s4; omega
            have n7 : ∀ b, K' b → S b ∨ w1.heap.size ≤ b := fun b hb => by
              rcases hK' b hb with hk | hk
              · exact s7 b hk
              · exact .inr (by omega)
            have q0 := cell_of_row _ _ 0 _ _ _ n2
            simp at q0
            have lq := lt_of_heap n2
            have CE := Lib.hid (End_yes i m (SP.out.below n1) HT.out HM.out)
            have N8 := Lib.hid (show Below w0.heap.size w0 w8 ∧ w8.heap[fb]? = some (.cells #[.slice A ps.length c] 23) ∧ w1.heap.size ≤ w8.heap.size ∧ MadeB w8 g st ∧ J (j + 1) K' w8 ∧ ¬ K' g ∧ ∀ b, K' b → S b ∨ w1.heap.size ≤ b from ⟨n1, n2, n3, n4, hJ8, n6, n7⟩)
            clear n1 n2 n3 n4 n6 n7 hK' t8 hJ8 hs s1 s2 s3 s4 s5 s6 s7 k0 d1 f0 f2 hb
            gi_wp2
            go_wp2_with fail
            refine CE.out.mono ?_
            rintro e w9 ⟨rfl, hx9⟩
            obtain ⟨s1, s2, s3, s4, s5, s6, s7⟩ := N8.out
            have N9 := Lib.hid (show Below w0.heap.size w0 w9 ∧ w9.heap[fb]? = some (.cells #[.slice A ps.length c] 23) ∧ w1.heap.size ≤ w9.heap.size ∧ MadeB w9 g st ∧ J (j + 1) K' w9 ∧ ¬ K' g ∧ ∀ b, K' b → S b ∨ w1.heap.size ≤ b from
              ⟨s1.trans (hx9.below.mono s1.size), ext_block s2 hx9, Nat.le_trans s3 hx9.size, s4.ext hx9, HJ.out _ _ _ _ hx9 s5, s6, s7⟩)
            clear s1 s2 s3 s4 s5 s6 s7 hx9 N8
            go_wp2_with fail
            go_roundw
            case rel => exact ⟨m, j + 1, K', rfl, HG2, hml, by omega, N9⟩
            case measure => simp [intOf]; omega
          · have n3 := Nat.le_trans hs.out.2.2.1 t8.size
            clear t8 hs
            gi_wp2
            go_wp2_with fail
            refine bodyPost_ret (results_none rfl _ _ _) rfl ?_
            exact ⟨⟨_, rfl⟩, n3, .inr ⟨j + 1, by omega, hJ8⟩⟩
        · have hnext : Gs (nds ps) st (i + 1) (xs.drop j) := by
            generalize hxs : xs.drop j = zs at hgs
            cases hgs with
            | done _ hd => rw [nds_length] at hd; omega
            | skip _ q _ hq hc h2 => exact h2
            | take _ q m' ys hq hk hs' hm' h2 =>
              rw [nds_get HPP.out] at hq
              cases hq
              rw [HVV.out] at hs'
              injection hs' with hs'
              exact absurd ⟨hk, hs'⟩ htk
          have HN := Lib.hid hnext
          have hw1 : wrap64 ((i : Int) + 1) = ((i + 1 : Nat) : Int) := by
            rw [show ((i : Int) + 1) = ((i + 1 : Nat) : Int) by omega]
            exact IntWalk.wrap64_in _ (by omega)
          have hcs : (p.nd.kind != 2) = true ∨ ((p.nd.kind != 2) = false ∧ v = true) := by
            by_cases hk : p.nd.kind = 2
            · refine .inr ⟨by simp [hk], ?_⟩
              cases v with
              | true => rfl
              | false => exact absurd ⟨hk, rfl⟩ htk
            · exact .inl (by simpa using hk)
          clear htk hgs hnext
          rcases hcs with hk1 | ⟨hk1, rfl⟩
          all_goals
            go_wp2_with fail
            go_roundw
            case rel => exact ⟨i + 1, j, K, by go_num, HN, by omega, hjl, hs⟩
            case measure => simp [intOf]; omega
      · obtain rfl : i = ps.length := by omega
        have hnil : xs.drop j = [] := by
          have := hg.out
          generalize hxs : xs.drop j = zs at this
          cases this with
          | done _ _ => rfl
          | skip _ q _ hq _ _ => have := lt_of_get hq; rw [nds_length] at this; omega
          | take _ q _ _ hq _ _ _ _ => have := lt_of_get hq; rw [nds_length] at this; omega
        have hj : j = xs.length := by
          have := congrArg List.length hnil
          rw [List.length_drop, List.length_nil] at this
          omega
        go_wp2_with fail
        go_end0
        exact ⟨⟨_, rfl⟩, hs.out.2.2.1, .inl ⟨K, by rw [← hj]; exact hs.out.2.2.2.2.1⟩⟩
  · have hx := HG.out.2 T
    subst hx
    have HT := Lib.hid T
    clear T
    go_enter Try.func120, Try.ntmps120
    go_wp2_with fail
    refine (stale_no (SP.out.below HB0.out) HT.out).mono ?_
    rintro e w2 ⟨rfl, hx2⟩
    have HX2 := Lib.hid hx2
    clear hx2
    go_wp2_with fail
    go_loopw [4] (fun v wr => v = .int .i64 0 ∧ Hid (Ext w1 wr)) (fun v _ => 0)
    case atStart => exact ⟨rfl, HX2⟩
    case round =>
      obtain ⟨rfl, hs⟩ := hrel
      go_wp2_with fail
      go_end0
      exact ⟨⟨_, rfl⟩, hs.out.size, .inl ⟨K0, HJ.out _ _ _ _ hs.out HJ0.out⟩⟩
end Go.Proofs.Ytggmljookcmnkaa
