/- LinesCut: the walk. -/
import Derived.Test.YtfjkghbnlmhcnaaLk
import Derived.WalkSpells
import Derived.WalkLawsBesides
import Derived.BigRegion
import Derived.Deep.RegionWith
import Derived.Deep.QuietTactic
import Derived.Deep.DeepCutAuto
import Derived.Deep.RegionHeld3
import Derived.Deep.RegionLaw
import Derived.BigQuiet
import Derived.Lib.Hide
namespace Go.Proofs.Ytfjkghbnlmhcnaa
open Go.RowKit
attribute [local go_sem] more_drew more_drewN more_size more_cell more_frozen more_setCell drew_more drewN_more lt_add_r lt_add_r2 lt_add_r3 lt_add_r4 lt_add_r5 lt_add_r6 lt_add_r7 lt_add_r8 lt_add_r9 lt_add_r10 lt_self_r lt_self_r2

theorem bytes_ext {p q : ByteArray} (h : p.data.toList = q.data.toList) : p = q := by
  cases p; cases q
  congr 1
  exact Array.toList_inj.1 h
theorem extract_list (s : ByteArray) (x y : Nat) : (s.extract x y).data.toList = (s.data.toList.take y).drop x := by
  simp [ByteArray.data_extract, Array.toList_extract, List.extract, List.drop_take]
/-- where the line behind begins, or the text's end -/
def endL (xs : List Int) (n : Nat) (i : Nat) : Nat := ((xs[i]?).getD n).toNat
theorem endL_at {xs : List Int} {n i : Nat} {x : Int} (h : xs[i]? = some x) (h0 : 0 ≤ x) : (endL xs n i : Int) = x := by
  unfold endL
  rw [h]
  show ((x.toNat : Nat) : Int) = x
  omega
theorem endL_end {xs : List Int} {n i : Nat} (h : xs.length ≤ i) : endL xs n i = n := by
  unfold endL
  rw [List.getElem?_eq_none h]
  exact Int.toNat_natCast n
/-- a line's bytes: a line feed stands at the end of each but the last one -/
theorem cut_feed (l : List UInt8) {i a p : Nat} (hi : (startsF l)[i]? = some (a : Int)) (h1 : a ≤ p) (h2 : p < endL (startsF l) l.length (i + 1)) : l[p]? = some 10 ↔ (i + 1 < (startsF l).length ∧ p + 1 = endL (startsF l) l.length (i + 1)) := by
  have R := starts_rise l
  constructor
  · intro hp
    have hm : ((p : Int) + 1) ∈ startsF l := List.mem_cons_of_mem _ (behF_mem.2 ⟨p, hp, by omega⟩)
    obtain ⟨j, hj⟩ := List.getElem?_of_mem hm
    have hij : i < j := by
      rcases Nat.lt_trichotomy i j with h | h | h
      · exact h
      · rw [← h, hi] at hj
        have := Option.some.inj hj
        omega
      · have := R j i _ _ h hj hi
        omega
    have hjl := (List.getElem?_eq_some_iff.1 hj).1
    obtain ⟨y, hy⟩ : ∃ y, (startsF l)[i + 1]? = some y := ⟨_, List.getElem?_eq_getElem (by omega)⟩
    have hy0 := (starts_within l y (List.mem_of_getElem? hy)).1
    have e := endL_at (n := l.length) hy hy0
    have := R.mono (i + 1) j y _ (by omega) hy hj
    exact ⟨by omega, by omega⟩
  · rintro ⟨hl, he⟩
    obtain ⟨y, hy⟩ : ∃ y, (startsF l)[i + 1]? = some y := ⟨_, List.getElem?_eq_getElem hl⟩
    have hy0 := (starts_within l y (List.mem_of_getElem? hy)).1
    have e := endL_at (n := l.length) hy hy0
    have hyb : y ∈ behF 0 l := List.mem_of_getElem? (by simpa [startsF] using hy)
    obtain ⟨k, hk, hyk⟩ := behF_mem.1 hyb
    obtain rfl : k = p := by omega
    exact hk
theorem cut_bd (l : List UInt8) {i a : Nat} (hi : (startsF l)[i]? = some (a : Int)) : a ≤ endL (startsF l) l.length (i + 1) ∧ endL (startsF l) l.length (i + 1) ≤ l.length := by
  have ha := starts_within l a (List.mem_of_getElem? hi)
  rcases Nat.lt_or_ge (i + 1) (startsF l).length with h | h
  · obtain ⟨y, hy⟩ : ∃ y, (startsF l)[i + 1]? = some y := ⟨_, List.getElem?_eq_getElem h⟩
    have hw := starts_within l y (List.mem_of_getElem? hy)
    have e := endL_at (n := l.length) hy hw.1
    have := (starts_rise l) i (i + 1) _ _ (by omega) hi hy
    omega
  · rw [endL_end h]
    omega
set_option maxRecDepth 100000 in
set_option maxHeartbeats 2000000 in
theorem linesCut_any (s : ByteArray) (W : World) (hs : s.size ≤ 9223372036854775807) : Calls Try.prog 4 #[.string s] W fun e w' => e = .returned (.bool true) ∧ Ext W w' := by
  have HLN : Hid (s.data.toList.length = s.size) := Lib.hid (by rw [Array.length_toList]; rfl)
  go_enter Try.func4, Try.ntmps4
  go_wp2_with fail
  refine (lives09_any W).mono ?_
  rintro e w1 ⟨rfl, hx1⟩
  have HX1 := Lib.hid hx1
  clear hx1
  by_cases hs2 : s.size ≤ 200
  · go_wp2_with fail
    refine (new_any s w1 (by omega)).mono ?_
    rintro e w2 ⟨g, rfl, hi2, hx2⟩
    have HI2 := Lib.hid hi2
    have HX2 := Lib.hid (HX1.out.trans hx2)
    obtain ⟨l, hl⟩ : ∃ l, s.data.toList = l := ⟨_, rfl⟩
    rw [hl] at HI2 HLN
    have HL := Lib.hid hl
    obtain ⟨xs, hxs⟩ : ∃ xs, startsF l = xs := ⟨_, rfl⟩
    have hxl : xs.length ≤ 201 := by have := starts_length l; have := cntF_le l l.length; have := HLN.out; rw [← hxs]; omega
    have hxp : 0 < xs.length := by rw [← hxs]; exact Nat.succ_pos _
    rw [hxs] at HI2
    have HXS := Lib.hid hxs
    clear hi2 hx2 hl hxs
    have q0 : ((s.size : Int) != (s.size : Int)) = false := by simp
    go_wp2_with fail
    refine (bytes_any HI2.out).mono ?_
    rintro e w3 ⟨rfl, rfl⟩
    go_wp2_with fail
    refine (starts_any HI2.out (by omega) hxp).mono ?_
    rintro e w4 ⟨A4, c4, rfl, ho4, hx4⟩
    have HO4 := Lib.hid ho4
    have HX4 := Lib.hid hx4
    clear ho4 hx4 q0
    go_wp2_with fail
    go_loopw [6, 7] (fun o v wr => ∃ (i : Nat) (ob : ByteArray), i ≤ xs.length ∧ v = .int .i64 i ∧ o = .string ob ∧ Hid (ob.data.toList = l.take (endL xs s.size i)) ∧ Hid (Ext w4 wr)) (fun _ v _ => xs.length - (intOf v).toNat)
    case atStart => exact ⟨0, ⟨#[]⟩, Nat.zero_le _, rfl, rfl, Lib.hid (by rw [← HXS.out]; rfl), Lib.hid (Ext.refl _)⟩
    case round =>
      obtain ⟨i, ob, hi, rfl, rfl, hob, hx⟩ := hrel
      by_cases hlt : i < xs.length
      · obtain ⟨x, hxi⟩ : ∃ x, xs[i]? = some x := ⟨_, List.getElem?_eq_getElem hlt⟩
        have hw := starts_within l x (List.mem_of_getElem? (HXS.out ▸ hxi))
        rw [HLN.out] at hw
        obtain ⟨a, rfl⟩ : ∃ a : Nat, x = (a : Int) := ⟨x.toNat, by omega⟩
        have hea : endL xs s.size i = a := by have := endL_at (n := s.size) hxi hw.1; omega
        have hbd := cut_bd l (i := i) (a := a) (HXS.out.symm ▸ hxi)
        have hfe := fun p h1 h2 => cut_feed l (i := i) (a := a) (p := p) (HXS.out.symm ▸ hxi) h1 h2
        rw [HXS.out, HLN.out] at hbd hfe
        obtain ⟨te, hto⟩ : ∃ te, endL xs s.size (i + 1) = te := ⟨_, rfl⟩
        rw [hto] at hbd hfe
        rw [hea] at hob
        have hobs : ob.size ≤ 200 := by
          have h1 := congrArg List.length hob.out
          rw [Array.length_toList, List.length_take, HLN.out] at h1
          have h2 : ob.data.size = ob.size := rfl
          omega
        obtain ⟨hb1, hb2⟩ := hbd
        have HFE := Lib.hid hfe
        have HTO := Lib.hid hto
        have HXI := Lib.hid hxi
        have CST := Lib.hid (start_yes i (a : Int) ((HI2.out.ext HX4.out).ext hx.out) hxi)
        obtain ⟨b4, o4, rfl, hb4, hc4⟩ := (HO4.out.ext hx.out).ints.1 (by omega)
        have oc1 := (HO4.out.ext hx.out).ints.2.1
        have oc2 := (HO4.out.ext hx.out).ints.2.2.1
        unfold maxLen at oc2
        have d0 := hc4 i hlt
        rw [List.getD_eq_getElem?_getD, hxi] at d0
        dsimp only [Option.getD_some] at d0
        have HC4 := Lib.hid hc4
        clear hxi hea hfe hc4 hw
        have q1 : ((a : Int) != (a : Int)) = false := by simp
        have REST : Hid (i + 1 < xs.length → wr.cell? ⟨b4, o4 + (i + 1), none⟩ = some (.int .i64 te)) := Lib.hid fun h => by
          obtain ⟨y, hy⟩ : ∃ y, xs[i + 1]? = some y := ⟨_, List.getElem?_eq_getElem h⟩
          have := HC4.out (i + 1) h
          rw [List.getD_eq_getElem?_getD, hy] at this
          have hw := starts_within l y (List.mem_of_getElem? (HXS.out ▸ hy))
          have e := endL_at (n := s.size) hy hw.1
          rw [HTO.out] at e
          rw [e]
          exact this
        have LAST : Hid (¬ i + 1 < xs.length → te = s.size) := Lib.hid fun h => by rw [← HTO.out]; exact endL_end (by omega)
        by_cases hil : i + 1 < xs.length
        · have d1 := REST.out hil
          go_wp2_with fail
          refine CST.out.mono ?_
          rintro e w3 ⟨rfl, rfl⟩
          go_upto_region 20 with fail
          obtain ⟨t, ht⟩ : ∃ t, s.extract a te = t := ⟨_, rfl⟩
          have hts : t.data.toList = (l.take te).drop a := by rw [← ht, extract_list, HL.out]
          have htl : t.data.toList.length = t.size := by rw [Array.length_toList]; rfl
          have hsz : t.size = te - a := by rw [← htl, hts, List.length_drop, List.length_take, HLN.out]; omega
          rw [ht]
          have HTS := Lib.hid hts
          have HTL := Lib.hid htl
          have HSZ := Lib.hid hsz
          have htb : t.size ≤ 200 := by omega
          clear ht hts htl hsz d0 CST d1
          go_wp2_with fail
          go_loop [12] (fun v => ∃ k : Nat, k ≤ t.size ∧ v = .int .i64 k) (fun v => t.size - (intOf v).toNat)
          case atStart => exact ⟨0, Nat.zero_le _, rfl⟩
          case round =>
            obtain ⟨k, hk, rfl⟩ := hrel
            by_cases hkt : k < t.size
            · have hgl : l[a + k]? = some (t[k]'hkt) := by
                have h1 : t.data.toList[k]? = some (t[k]'hkt) := (List.getElem?_eq_getElem (by rw [HTL.out]; exact hkt)).trans rfl
                rw [HTS.out, List.getElem?_drop, List.getElem?_take_of_lt (by have := HSZ.out; omega)] at h1
                exact h1
              have hff := HFE.out (a + k) (by omega) (by have := HSZ.out; omega)
              rw [hgl] at hff
              obtain ⟨b, hb⟩ : ∃ b, (((t[k]'hkt).toNat : Int) == 10) = b := ⟨_, rfl⟩
              have h10 : (t[k]'hkt = 10) ↔ b = true := by
                rw [← hb, beq_iff_eq]
                exact ⟨fun h => by rw [h]; rfl, fun h => UInt8.toNat_inj.1 (by show (t[k]'hkt).toNat = 10; omega)⟩
              have hsz := HSZ.out
              by_cases hke : k + 1 = t.size
              · have hbf : b = true := h10.1 (Option.some.inj (hff.2 ⟨hil, by omega⟩))
                have hq : ((k : Int) == (t.size : Int) - 1) = true := by rw [beq_iff_eq]; omega
                rw [hbf] at hb
                clear hff h10 hgl hbf hsz hke
                go_wp2_with fail
                go_round
                case rel => exact ⟨k + 1, by omega, by go_num⟩
                case measure => simp [intOf]; omega
              · have hbf : b = false := by
                  cases b with
                  | false => rfl
                  | true =>
                    have := (hff.1 (congrArg some (h10.2 rfl))).2
                    omega
                have hq : ((k : Int) == (t.size : Int) - 1) = false := by rw [beq_eq_false_iff_ne]; omega
                rw [hbf] at hb
                clear hff h10 hgl hbf hsz hke
                go_wp2_with fail
                go_round
                case rel => exact ⟨k + 1, by omega, by go_num⟩
                case measure => simp [intOf]; omega
            · obtain rfl : k = t.size := by omega
              have HOB2 : Hid ((ob ++ t).data.toList = l.take (endL xs s.size (i + 1))) := Lib.hid (by
                rw [ByteArray.data_append, Array.toList_append, hob.out, HTS.out, HTO.out]
                have : l.take a = (l.take te).take a := by rw [List.take_take, Nat.min_eq_left hb1]
                rw [this, List.take_append_drop])
              go_wp2_with fail
              go_roundw
              case rel => exact ⟨i + 1, ob ++ t, by omega, by go_num, rfl, HOB2, hx⟩
              case measure => simp [intOf]; omega
        · obtain rfl : te = s.size := LAST.out hil
          go_wp2_with fail
          refine CST.out.mono ?_
          rintro e w3 ⟨rfl, rfl⟩
          go_upto_region 20 with fail
          obtain ⟨t, ht⟩ : ∃ t, s.extract a s.size = t := ⟨_, rfl⟩
          have hts : t.data.toList = (l.take s.size).drop a := by rw [← ht, extract_list, HL.out]
          have htl : t.data.toList.length = t.size := by rw [Array.length_toList]; rfl
          have hsz : t.size = s.size - a := by rw [← htl, hts, List.length_drop, List.length_take, HLN.out]; omega
          rw [ht]
          have HTS := Lib.hid hts
          have HTL := Lib.hid htl
          have HSZ := Lib.hid hsz
          have htb : t.size ≤ 200 := by omega
          clear ht hts htl hsz d0 CST
          go_wp2_with fail
          go_loop [12] (fun v => ∃ k : Nat, k ≤ t.size ∧ v = .int .i64 k) (fun v => t.size - (intOf v).toNat)
          case atStart => exact ⟨0, Nat.zero_le _, rfl⟩
          case round =>
            obtain ⟨k, hk, rfl⟩ := hrel
            by_cases hkt : k < t.size
            · have hgl : l[a + k]? = some (t[k]'hkt) := by
                have h1 : t.data.toList[k]? = some (t[k]'hkt) := (List.getElem?_eq_getElem (by rw [HTL.out]; exact hkt)).trans rfl
                rw [HTS.out, List.getElem?_drop, List.getElem?_take_of_lt (by have := HSZ.out; omega)] at h1
                exact h1
              have hff := HFE.out (a + k) (by omega) (by have := HSZ.out; omega)
              rw [hgl] at hff
              obtain ⟨b, hb⟩ : ∃ b, (((t[k]'hkt).toNat : Int) == 10) = b := ⟨_, rfl⟩
              have h10 : (t[k]'hkt = 10) ↔ b = true := by
                rw [← hb, beq_iff_eq]
                exact ⟨fun h => by rw [h]; rfl, fun h => UInt8.toNat_inj.1 (by show (t[k]'hkt).toNat = 10; omega)⟩
              have hsz := HSZ.out
              have hbf : b = false := by
                cases b with
                | false => rfl
                | true => exact absurd (hff.1 (congrArg some (h10.2 rfl))).1 hil
              rw [hbf] at hb
              clear hff h10 hgl hbf hsz
              go_wp2_with fail
              go_round
              case rel => exact ⟨k + 1, by omega, by go_num⟩
              case measure => simp [intOf]; omega
            · obtain rfl : k = t.size := by omega
              have HOB2 : Hid ((ob ++ t).data.toList = l.take (endL xs s.size (i + 1))) := Lib.hid (by
                rw [ByteArray.data_append, Array.toList_append, hob.out, HTS.out, HTO.out]
                have : l.take a = (l.take s.size).take a := by rw [List.take_take, Nat.min_eq_left hb1]
                rw [this, List.take_append_drop])
              go_wp2_with fail
              go_roundw
              case rel => exact ⟨i + 1, ob ++ t, by omega, by go_num, rfl, HOB2, hx⟩
              case measure => simp [intOf]; omega
      · obtain rfl : i = xs.length := by omega
        have hoe : ob = s := bytes_ext (by rw [hob.out, endL_end (Nat.le_refl _), HL.out, List.take_of_length_le (by rw [HLN.out]; exact Nat.le_refl _)])
        have q2 : ob.toList = s.toList := by rw [hoe]
        have q3 : ((xs.length : Int) == (xs.length : Int)) = true := by simp
        clear hoe
        go_wp2_with fail
        refine (len_any ((HI2.out.ext HX4.out).ext hx.out)).mono ?_
        rintro e w3 ⟨rfl, rfl⟩
        go_wp2_with fail
        go_ret
        exact ⟨rfl, HX2.out.trans (HX4.out.trans hx.out)⟩
  · go_wp2_with fail
    go_ret
    exact ⟨rfl, HX1.out⟩
end Go.Proofs.Ytfjkghbnlmhcnaa
