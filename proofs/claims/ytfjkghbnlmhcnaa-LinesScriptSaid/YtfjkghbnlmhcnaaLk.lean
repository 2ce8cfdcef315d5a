/- Where lines begin: plain facts; LinesBack: the walk. -/
import Derived.Test.YtfjkghbnlmhcnaaLv
import Derived.WalkSpells
import Derived.WalkLawsBesides
import Derived.BigRegion
import Derived.Deep.RegionWith
import Derived.Deep.QuietTactic
import Derived.Deep.DeepCutAuto
import Derived.Deep.RegionHeld3
import Derived.Deep.RegionLaw
import Derived.BigQuiet
import Derived.Lib.Hide
namespace Go.Proofs.Ytfjkghbnlmhcnaa
open Go.RowKit
attribute [local go_sem] more_drew more_drewN more_size more_cell more_frozen more_setCell drew_more drewN_more lt_add_r lt_add_r2 lt_add_r3 lt_add_r4 lt_add_r5 lt_add_r6 lt_add_r7 lt_add_r8 lt_add_r9 lt_add_r10 lt_self_r lt_self_r2

theorem behF_app (b : Int) : ∀ (l l' : List UInt8), behF b (l ++ l') = behF b l ++ behF (b + l.length) l'
  | [], l' => by simp [behF]
  | x :: l, l' => by
    have ih := behF_app (b + 1) l l'
    have e : b + 1 + (l.length : Int) = b + ((x :: l).length : Nat) := by simp; omega
    rw [e] at ih
    simp only [List.cons_append, behF]
    split
    · rw [ih, List.cons_append]
    · exact ih
theorem behF_mem {y : Int} : ∀ {l : List UInt8} {b : Int}, y ∈ behF b l ↔ ∃ k : Nat, l[k]? = some 10 ∧ y = b + k + 1
  | [], b => by simp [behF]
  | x :: l, b => by
    have ih := behF_mem (y := y) (l := l) (b := b + 1)
    have next : (∃ k : Nat, l[k]? = some 10 ∧ y = b + 1 + k + 1) ↔ ∃ k : Nat, (x :: l)[k + 1]? = some 10 ∧ y = b + (k + 1 : Nat) + 1 := by
      constructor
      · rintro ⟨k, h1, h2⟩; exact ⟨k, by simpa using h1, by omega⟩
      · rintro ⟨k, h1, h2⟩; exact ⟨k, by simpa using h1, by omega⟩
    simp only [behF]
    constructor
    · intro h
      split at h
      · rename_i hx
        rcases List.mem_cons.1 h with rfl | h
        · exact ⟨0, by rw [hx]; rfl, by omega⟩
        · obtain ⟨k, h1, h2⟩ := next.1 (ih.1 h)
          exact ⟨k + 1, h1, h2⟩
      · obtain ⟨k, h1, h2⟩ := next.1 (ih.1 h)
        exact ⟨k + 1, h1, h2⟩
    · rintro ⟨k, h1, h2⟩
      cases k with
      | zero =>
        have hx : x = 10 := by simpa using h1
        rw [if_pos hx]
        exact List.mem_cons.2 (.inl (by omega))
      | succ k =>
        have h := ih.2 (next.2 ⟨k, h1, h2⟩)
        split
        · exact List.mem_cons_of_mem _ h
        · exact h
theorem behF_bd {y : Int} {l : List UInt8} {b : Int} (h : y ∈ behF b l) : b + 1 ≤ y ∧ y ≤ b + l.length := by
  obtain ⟨k, h1, h2⟩ := behF_mem.1 h
  have := (List.getElem?_eq_some_iff.1 h1).1
  omega
theorem behF_rise : ∀ (l : List UInt8) (b : Int), (behF b l).Pairwise (· < ·)
  | [], b => by simp [behF]
  | x :: l, b => by
    have ih := behF_rise l (b + 1)
    simp only [behF]
    split
    · exact List.pairwise_cons.2 ⟨fun y hy => by have := behF_bd hy; omega, ih⟩
    · exact ih
theorem starts_rise (l : List UInt8) : Rise (startsF l) := fun a b x y hab hx hy => by
  have hp : (startsF l).Pairwise (· < ·) := List.pairwise_cons.2 ⟨fun y hy => by have := behF_bd hy; omega, behF_rise l 0⟩
  obtain ⟨h1, rfl⟩ := List.getElem?_eq_some_iff.1 hx
  obtain ⟨h2, rfl⟩ := List.getElem?_eq_some_iff.1 hy
  exact List.pairwise_iff_getElem.1 hp a b h1 h2 hab
theorem starts_within (l : List UInt8) : Within (startsF l) l.length := fun x hx => by
  rcases List.mem_cons.1 hx with rfl | hx
  · omega
  · have := behF_bd hx; omega
/-- line feeds ahead of a place -/
def cntF (l : List UInt8) (k : Nat) : Nat := (behF 0 (l.take k)).length
theorem cntF_zero (l : List UInt8) : cntF l 0 = 0 := by simp [cntF, behF]
theorem cntF_succ {l : List UInt8} {k : Nat} {x : UInt8} (h : l[k]? = some x) : cntF l (k + 1) = cntF l k + if x = 10 then 1 else 0 := by
  obtain ⟨h1, h2⟩ := List.getElem?_eq_some_iff.1 h
  unfold cntF
  rw [List.take_succ_eq_append_getElem h1, h2, behF_snoc, List.length_append]
  split <;> rfl
theorem cntF_le (l : List UInt8) (k : Nat) : cntF l k ≤ k := by
  have := behF_length (l.take k) 0
  rw [List.length_take] at this
  unfold cntF
  omega
theorem starts_length (l : List UInt8) : (startsF l).length = cntF l l.length + 1 := by simp [startsF, cntF]
theorem starts_line (l : List UInt8) (t : Nat) (ht : t ≤ l.length) : ∃ x, LineAt (startsF l) t (cntF l t) x := by
  have e : startsF l = (0 :: behF 0 (l.take t)) ++ behF t (l.drop t) := by
    have := behF_app 0 (l.take t) (l.drop t)
    rw [List.take_append_drop, List.length_take, Nat.min_eq_left ht] at this
    unfold startsF
    rw [this, Int.zero_add]
    rfl
  have hlen : (0 :: behF 0 (l.take t)).length = cntF l t + 1 := rfl
  have hle : ∀ y ∈ (0 :: behF 0 (l.take t)), y ≤ (t : Int) := fun y hy => by
    rcases List.mem_cons.1 hy with rfl | hy
    · omega
    · have := behF_bd hy
      rw [List.length_take] at this
      omega
  obtain ⟨x, hx⟩ : ∃ x, (0 :: behF 0 (l.take t))[cntF l t]? = some x := ⟨_, List.getElem?_eq_getElem (by rw [hlen]; omega)⟩
  refine ⟨x, ?_, hle x (List.mem_of_getElem? hx), fun k y hk => ?_⟩
  · rw [e, List.getElem?_append_left (by rw [hlen]; omega)]
    exact hx
  · rw [e] at hk
    rcases Nat.lt_or_ge k (cntF l t + 1) with h1 | h1
    · rw [List.getElem?_append_left (by rw [hlen]; exact h1)] at hk
      exact ⟨fun _ => hle y (List.mem_of_getElem? hk), fun _ => by omega⟩
    · rw [List.getElem?_append_right (by rw [hlen]; exact h1)] at hk
      have := behF_bd (List.mem_of_getElem? hk)
      exact ⟨fun h => by omega, fun h => by omega⟩
theorem line_place {xs : List Int} {n t i : Nat} {x : Int} (h : LineAt xs t i x) (ht : t ≤ n) : PlaceOk xs n i (t - x) t :=
  ⟨i, x, rfl, h.1, by have := h.2.1; omega, by omega, fun y hy => by
    have h1 := h.2.2 (i + 1) y hy
    rcases Int.lt_or_le (x + ((t : Int) - x)) y with h2 | h2
    · exact h2
    · have := h1.2 (by omega); omega, by omega⟩
set_option maxRecDepth 100000 in
set_option maxHeartbeats 2000000 in
theorem linesBack_any (s : ByteArray) (W : World) (hs : s.size ≤ 9223372036854775807) : Calls Try.prog 5 #[.string s] W fun e w' => e = .returned (.bool true) ∧ Ext W w' := by
  have HLN : Hid (s.data.toList.length = s.size) := Lib.hid (by rw [Array.length_toList]; rfl)
  go_enter Try.func5, Try.ntmps5
  go_wp2_with fail
  refine (lives09_any W).mono ?_
  rintro e w1 ⟨rfl, hx1⟩
  have HX1 := Lib.hid hx1
  clear hx1
  by_cases hs2 : s.size ≤ 200
  · go_wp2_with fail
    refine (new_any s w1 (by omega)).mono ?_
    rintro e w2 ⟨g, rfl, hi2, hx2⟩
    have HI2 := Lib.hid hi2
    have HX2 := Lib.hid (HX1.out.trans hx2)
    obtain ⟨l, hl⟩ : ∃ l, s.data.toList = l := ⟨_, rfl⟩
    rw [hl] at HI2 HLN
    have HL := Lib.hid hl
    have HR := Lib.hid (starts_rise l)
    have HW : Hid (Within (startsF l) s.size) := Lib.hid (by have := starts_within l; rwa [HLN.out] at this)
    have HSL : Hid ((startsF l).length ≤ 1000000) := Lib.hid (by have := starts_length l; have := cntF_le l l.length; have := HLN.out; omega)
    clear hi2 hx2 hl
    go_wp2_with fail
    go_loopw [5, 6] (fun c v wr => ∃ k : Nat, k ≤ s.size + 1 ∧ v = .int .i64 k ∧ c = .int .i64 (cntF l (k - 1)) ∧ Hid (Ext w2 wr)) (fun _ v _ => s.size + 1 - (intOf v).toNat)
    case atStart => exact ⟨0, Nat.zero_le _, rfl, by rw [cntF_zero]; rfl, Lib.hid (Ext.refl _)⟩
    case round =>
      obtain ⟨k, hk, rfl, rfl, hx⟩ := hrel
      by_cases hlt : k ≤ s.size
      · obtain ⟨x, hla⟩ := starts_line l k (by rw [HLN.out]; exact hlt)
        have HLA := Lib.hid hla
        have hck := cntF_le l k
        have hxk := hla.2.1
        have HI3 := Lib.hid (HI2.out.ext hx.out)
        have w1' : wrap64 (x + ((k : Int) - x)) = k := (IntWalk.wrap64_in _ (by omega)).trans (by omega)
        clear hla
        have CL := Lib.hid (fun (V : World) (y : Ext w2 V) => line_yes k (HI2.out.ext y) hlt (by omega) HSL.out rfl HR.out)
        have CST := Lib.hid (fun (V : World) (y : Ext w2 V) => start_yes (cntF l k) x (HI2.out.ext y) HLA.out.1)
        have CP := Lib.hid (fun (V : World) (y : Ext w2 V) => place_yes (cntF l k) (k - x) k (HI2.out.ext y) (by omega) HW.out HSL.out (line_place HLA.out hlt))
        rcases Nat.eq_zero_or_pos k with h0 | h0
        · have hk1 : k - 1 = k := by omega
          have g0 : ¬ 0 < k := by omega
          rw [hk1]
          clear hk1 h0
          go_wp2_with fail
          refine (CL.out _ hx.out).mono ?_
          rintro e w3 ⟨i', x', rfl, hla', hx3⟩
          obtain ⟨rfl, rfl⟩ := HLA.out.det hla'
          have HX3 := Lib.hid (hx.out.trans hx3)
          clear hla' hx3
          go_wp2_with fail
          refine (CST.out _ HX3.out).mono ?_
          rintro e w4 ⟨rfl, rfl⟩
          go_wp2_with fail
          refine (CP.out _ HX3.out).mono ?_
          rintro e w4 ⟨rfl, rfl⟩
          go_wp2_with fail
          go_roundw
          case rel => exact ⟨k + 1, by omega, by go_num, rfl, HX3⟩
          case measure => simp [intOf]; omega
        · obtain ⟨k, rfl⟩ : ∃ j, k = j + 1 := ⟨k - 1, by omega⟩
          have hks : k < s.size := by omega
          have hgl : l[k]? = some (s[k]'hks) := by
            rw [← HL.out]
            exact (List.getElem?_eq_getElem (by rw [HL.out, HLN.out]; exact hks)).trans rfl
          have hcs := cntF_succ hgl
          have hck2 := cntF_le l k
          have w2' : wrap64 ((cntF l k : Int) + 1) = ((cntF l k + 1 : Nat) : Int) := (IntWalk.wrap64_in _ (by omega)).trans (by omega)
          obtain ⟨b, hb⟩ : ∃ b, (((s[k]'hks).toNat : Int) == 10) = b := ⟨_, rfl⟩
          cases b with
          | true =>
            have h10 : s[k]'hks = 10 := UInt8.toNat_inj.1 (by have := beq_iff_eq.1 hb; show (s[k]'hks).toNat = 10; omega)
            rw [if_pos h10] at hcs
            have ec : ((cntF l (k + 1) : Nat) : Int) = (cntF l k : Int) + 1 := by omega
            rw [ec] at CST CP
            have HEC := Lib.hid ec
            clear hcs hgl h10 ec hck w2'
            go_wp2_with fail
            refine (CL.out _ hx.out).mono ?_
            rintro e w3 ⟨i', x', rfl, hla', hx3⟩
            obtain ⟨rfl, rfl⟩ := HLA.out.det hla'
            rw [HEC.out]
            have HX3 := Lib.hid (hx.out.trans hx3)
            clear hla' hx3
            go_wp2_with fail
            refine (CST.out _ HX3.out).mono ?_
            rintro e w4 ⟨rfl, rfl⟩
            go_wp2_with fail
            refine (CP.out _ HX3.out).mono ?_
            rintro e w4 ⟨rfl, rfl⟩
            go_wp2_with fail
            go_roundw
            case rel => exact ⟨(k + 1) + 1, by omega, by go_num, by show _ = Value.int .i64 ((cntF l (k + 1) : Nat) : Int); rw [HEC.out], HX3⟩
            case measure => simp [intOf]; omega
          | false =>
            have h10 : s[k]'hks ≠ 10 := fun h => by rw [h] at hb; cases hb
            rw [if_neg h10] at hcs
            replace hcs : cntF l (k + 1) = cntF l k := hcs
            have HCS := Lib.hid hcs
            rw [hcs] at CST CP
            have HEC := Lib.hid (show ((cntF l (k + 1) : Nat) : Int) = (cntF l k : Int) by rw [hcs])
            clear hgl h10 w2' hcs hck
            go_wp2_with fail
            refine (CL.out _ hx.out).mono ?_
            rintro e w3 ⟨i', x', rfl, hla', hx3⟩
            obtain ⟨rfl, rfl⟩ := HLA.out.det hla'
            rw [HEC.out]
            have HX3 := Lib.hid (hx.out.trans hx3)
            clear hla' hx3
            go_wp2_with fail
            refine (CST.out _ HX3.out).mono ?_
            rintro e w4 ⟨rfl, rfl⟩
            go_wp2_with fail
            refine (CP.out _ HX3.out).mono ?_
            rintro e w4 ⟨rfl, rfl⟩
            go_wp2_with fail
            go_roundw
            case rel => exact ⟨(k + 1) + 1, by omega, by go_num, by show _ = Value.int .i64 ((cntF l (k + 1) : Nat) : Int); rw [HEC.out], HX3⟩
            case measure => simp [intOf]; omega
      · obtain rfl : k = s.size + 1 := by omega
        have hcl := cntF_le l s.size
        have hsl : (startsF l).length = cntF l s.size + 1 := by rw [starts_length, HLN.out]
        have HI3 := Lib.hid (HI2.out.ext hx.out)
        have CL := Lib.hid (line_no ((s.size : Int) + 1) HI3.out (.inr (by omega)))
        have CST := Lib.hid (start_no ((cntF l s.size : Int) + 1) HI3.out (.inr (by omega)))
        have CN := len_any HI3.out
        rw [hsl] at CN
        have e3 : ((cntF l s.size + 1 : Nat) : Int) = (cntF l s.size : Int) + 1 := by omega
        rw [e3] at CN
        have HCN := Lib.hid CN
        have q1 : ((cntF l s.size : Int) + 1 == (cntF l s.size : Int) + 1) = true := by simp
        have e4 : s.size + 1 - 1 = s.size := by omega
        rw [e4]
        clear CN hsl e3 e4
        go_wp2_with fail
        refine CL.out.mono ?_
        rintro e w3 ⟨rfl, rfl⟩
        go_wp2_with fail
        refine CST.out.mono ?_
        rintro e w3 ⟨rfl, rfl⟩
        go_wp2_with fail
        refine HCN.out.mono ?_
        rintro e w3 ⟨rfl, rfl⟩
        go_wp2_with fail
        go_ret
        exact ⟨rfl, HX2.out.trans hx.out⟩
  · go_wp2_with fail
    go_ret
    exact ⟨rfl, HX1.out⟩
end Go.Proofs.Ytfjkghbnlmhcnaa
