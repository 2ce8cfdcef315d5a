/- Vc: 4 texts in one. -/
import Derived.Test.YtaffaeompdlecaaV3
import Derived.Test.YtaffaeompdlecaaU3
import Derived.Test.YtaffaeompdlecaaV4
import Derived.Test.YtaffaeompdlecaaR5
import Derived.Test.YtaffaeompdlecaaU4
import Derived.Test.YtaffaeompdlecaaD5
import Derived.Test.YtaffaeompdlecaaR8
import Derived.WalkSpells
import Derived.WalkLawsBesides
import Derived.BigRegion
import Derived.Deep.RegionWith
import Derived.Deep.QuietTactic
import Derived.Deep.DeepCutAuto
import Derived.Deep.RegionHeld3
import Derived.Deep.RegionLaw
import Derived.BigQuiet
import Derived.Lib.Hide
/- The contracts of the document's bits, Fits, Clear, Give (viewportref20). -/
namespace Go.Proofs.Ytaffaeompdlecaa
open Go.RowKit
attribute [local go_sem] more_drew more_drewN more_size more_cell more_frozen more_setCell drew_more drewN_more lt_add_r lt_add_r2 lt_add_r3 lt_add_r4 lt_add_r5 lt_add_r6 lt_add_r7 lt_add_r8 lt_add_r9 lt_add_r10 lt_self_r lt_self_r2

theorem rslot_any (n : Int) (w : World) : Calls Try.prog 142 #[.int .i64 n] w fun e w' => e = .returned (.bool (decide (0 ≤ n ∧ n < 64))) ∧ w = w' := by
  by_cases h1 : 0 ≤ n
  · by_cases h2 : n ≤ 63
    · go_enter Try.func142, Try.ntmps142
      go_wp2_with fail
      go_ret
      exact ⟨ret_bool (by simp; omega), rfl⟩
    · go_enter Try.func142, Try.ntmps142
      go_wp2_with fail
      go_ret
      exact ⟨ret_bool (by simp; omega), rfl⟩
  · go_enter Try.func142, Try.ntmps142
    go_wp2_with fail
    go_ret
    exact ⟨ret_bool (by simp; omega), rfl⟩
set_option maxRecDepth 100000 in
set_option maxHeartbeats 1000000 in
theorem rbitsP_any (A : Option Addr) (c : Nat) (ps : List Prt) (w : World) (hP : Prts w A ps) (hl : ps.length ≤ 1000000) : Calls Try.prog 141 #[.slice A ps.length c] w fun e w' => e = .returned (.int .u64 (bitsF (nds ps))) ∧ Ext w w' := by
  have HP := Lib.hid hP
  clear hP
  go_enter Try.func141, Try.ntmps141
  go_wp2_with fail
  go_loopw [3, 4] (fun v i wr => ∃ (j : Nat) (x : Int), j ≤ ps.length ∧ i = .int .i64 j ∧ v = .int .u64 x ∧ Hid (x = bitsF ((nds ps).take j)) ∧ Hid (Ext w wr)) (fun _ i _ => ps.length - (intOf i).toNat)
  case atStart => exact ⟨0, 0, Nat.zero_le _, rfl, rfl, Lib.hid rfl, Lib.hid (Ext.refl _)⟩
  case round =>
    obtain ⟨j, x, hj, rfl, rfl, hxd, hx⟩ := hrel
    by_cases hlt : j < ps.length
    · obtain ⟨p, hp⟩ : ∃ p, ps[j]? = some p := ⟨_, List.getElem?_eq_getElem hlt⟩
      obtain ⟨b, off, rfl, hb, hcell⟩ := (HP.out.ext hx.out) (by omega)
      have d7 := (hcell j _ hp).2.2.2.2.2.2.2
      have HS : Hid (bits .or .u64 x p.nd.met = bitsF ((nds ps).take (j + 1))) := Lib.hid (by
        have h1 := nds_get hp
        rw [List.getElem?_eq_getElem (by rw [nds_length]; exact hlt)] at h1
        injection h1 with h1
        rw [List.take_succ_eq_append_getElem (by rw [nds_length]; exact hlt), h1, hxd.out]
        unfold bitsF
        rw [List.foldl_append]
        rfl)
      clear hcell hp
      go_wp2_with fail
      go_roundw
      case rel => exact ⟨j + 1, _, by omega, by go_num, rfl, HS, hx⟩
      case measure => simp [intOf]; omega
    · obtain rfl : j = ps.length := by omega
      rw [List.take_of_length_le (by rw [nds_length]; omega)] at hxd
      obtain rfl := hxd.out
      go_wp2_with fail
      go_ret
      exact ⟨rfl, hx.out⟩
section
variable {A B : Option Addr} {c d : Nat} {ps ss : List Prt} {w : World}
set_option maxRecDepth 100000 in
set_option maxHeartbeats 1000000 in
theorem rBits_yes (h : PS w A c ps) (T : Tree (nds ps)) : Calls Try.prog 86 #[.slice A ps.length c] w fun e w' => e = .returned (.int .u64 (bitsF (nds ps))) ∧ Ext w w' := by
  have CK := Lib.hid (rcheck_ok h T)
  have S := Lib.hid h
  clear h T
  go_enter Try.func86, Try.ntmps86
  go_wp2_with fail
  refine CK.out.mono ?_
  rintro e w1 ⟨rfl, hx1⟩
  have HX1 := Lib.hid hx1
  clear hx1
  go_wp2_with fail
  refine (rbitsP_any A c ps w1 (S.out.ext HX1.out).parts (by have := S.out.few.len; omega)).mono ?_
  rintro e w2 ⟨rfl, hx2⟩
  have HX2 := Lib.hid (HX1.out.trans hx2)
  clear hx2
  go_wp2_with fail
  go_ret
  exact ⟨rfl, HX2.out⟩
theorem rBits_no (h : PS w A c ps) (T : ¬ Tree (nds ps)) : Calls Try.prog 86 #[.slice A ps.length c] w fun e w' => e = .returned (.int .u64 0) ∧ Ext w w' := by
  have CK := Lib.hid (rcheck_no h T)
  clear h T
  go_enter Try.func86, Try.ntmps86
  go_wp2_with fail
  refine CK.out.mono ?_
  rintro e w1 ⟨rfl, hx1⟩
  have HX1 := Lib.hid hx1
  clear hx1
  go_wp2_with fail
  go_ret
  exact ⟨rfl, HX1.out⟩
set_option maxRecDepth 100000 in
set_option maxHeartbeats 2000000 in
theorem rfits_any (i : Int) (h : PS w A c ps) (hs : PS w B d ss) : Calls Try.prog 83 #[.slice A ps.length c, .int .i64 i, .slice B ss.length d] w (TellsB w (FitsT (nds ps) (nds ss) i)) := by
  have HLN := h.few.len
  have hcp := h.cap
  have htp := h.top
  have S := Lib.hid h
  have SS := Lib.hid hs
  have hdp := hs.cap
  have hdt := hs.top
  clear h hs
  by_cases T : Tree (nds ps)
  · have HT := Lib.hid T
    clear T
    by_cases T2 : Tree (nds ss)
    · have hs0 := T2.pos
      rw [nds_length] at hs0
      have HT2 := Lib.hid T2
      clear T2
      by_cases h0 : i < 0
      · have NO : Hid (¬ FitsT (nds ps) (nds ss) i) := Lib.hid (fun ⟨_, _, h⟩ => by have := h.in; omega)
        have g0 : decide (0 ≤ i) = false := decide_eq_false (by omega)
        clear h0
        go_enter Try.func83, Try.ntmps83
        go_upto_region 1 with fail
        try simp only [List.append_eq, List.cons_append, List.nil_append]
        refine wp_region_ext (by kernel_rfl) (by kernel_rfl) ?_
        repeat (go_big_quiet_step ((first | (go_at_call 45; exact calls_ext (rcheck_ok (S.out.ext ⟨_, _, rfl⟩) HT.out)) | (go_at_call 45; exact calls_ext (rcheck_ok (SS.out.ext ⟨_, _, rfl⟩) HT2.out)))))
        refine wpQuiet_nil ?_
        intro _ hw'
        obtain ⟨x9, rfl⟩ := hw'
        go_wp2_with fail
        go_ret
        exact ⟨false, rfl, ⟨nofun, fun h => absurd h NO.out⟩, ⟨_, _, rfl⟩⟩
      · by_cases h1 : i < (ps.length : Int)
        · obtain ⟨j, rfl⟩ : ∃ j : Nat, i = (j : Int) := ⟨i.toNat, by omega⟩
          have hjl : j < ps.length := by omega
          obtain ⟨p, hp⟩ : ∃ p, ps[j]? = some p := ⟨_, List.getElem?_eq_getElem hjl⟩
          obtain ⟨q, hq⟩ : ∃ q, ss[0]? = some q := ⟨_, List.getElem?_eq_getElem hs0⟩
          have IFF := Lib.hid (headF_iff (nds_get hp) (nds_get hq))
          obtain ⟨b, off, rfl, hb, hcell⟩ := S.out.parts (by omega)
          obtain ⟨d0, d1, d2, d3, d4, d5, d6, d7⟩ := hcell j _ hp
          obtain ⟨b', off', rfl, hb', hcell'⟩ := SS.out.parts hs0
          obtain ⟨e0, e1, e2, e3, e4, e5, e6, e7⟩ := hcell' 0 _ hq
          simp only [Nat.zero_mul, Nat.add_zero] at e0 e1 e2 e3 e4 e5 e6 e7
          have g0 : decide (0 ≤ (j : Int)) = true := decide_eq_true (by omega)
          have g1 : decide (j < ps.length) = true := decide_eq_true hjl
          clear hcell hcell' h0 h1 hp hq
          go_enter Try.func83, Try.ntmps83
          go_upto_region 1 with fail
          obtain ⟨a1, ha1⟩ : ∃ a, (p.nd.sym == q.nd.sym) = a := ⟨_, rfl⟩
          obtain ⟨a2, ha2⟩ : ∃ a, (p.nd.kind == q.nd.kind) = a := ⟨_, rfl⟩
          obtain ⟨a3, ha3⟩ : ∃ a, (p.nd.lo == q.nd.lo) = a := ⟨_, rfl⟩
          obtain ⟨a4, ha4⟩ : ∃ a, (p.nd.hi == q.nd.hi) = a := ⟨_, rfl⟩
          have HH : Hid (headF p.nd q.nd = (a1 && a2 && a3 && a4)) := Lib.hid (by unfold headF; rw [ha1, ha2, ha3, ha4])
          have FI : Hid (headF p.nd q.nd = true ↔ FitsT (nds ps) (nds ss) (j : Int)) := Lib.hid (Iff.trans IFF.out ⟨fun h => ⟨HT.out, HT2.out, h⟩, fun h => h.2.2⟩)
          rw [HH.out] at FI
          clear HH IFF
          cases a1 <;> cases a2 <;> cases a3 <;> cases a4
          all_goals
            try simp only [List.append_eq, List.cons_append, List.nil_append]
            refine wp_region_ext (by kernel_rfl) (by kernel_rfl) ?_
            repeat (go_big_quiet_step ((first | (go_at_call 45; exact calls_ext (rcheck_ok (S.out.ext ⟨_, _, rfl⟩) HT.out)) | (go_at_call 45; exact calls_ext (rcheck_ok (SS.out.ext ⟨_, _, rfl⟩) HT2.out)))))
            refine wpQuiet_nil ?_
            intro _ hw'
            obtain ⟨x9, rfl⟩ := hw'
            go_wp2_with fail
            go_ret
            exact ⟨_, rfl, FI.out, ⟨_, _, rfl⟩⟩
        · have NO : Hid (¬ FitsT (nds ps) (nds ss) i) := Lib.hid (fun ⟨_, _, h⟩ => by have := h.in; rw [nds_length] at this; omega)
          have g0 : decide (0 ≤ i) = true := decide_eq_true (by omega)
          have g1 : decide (i < (ps.length : Int)) = false := decide_eq_false h1
          clear h0 h1
          go_enter Try.func83, Try.ntmps83
          go_upto_region 1 with fail
          try simp only [List.append_eq, List.cons_append, List.nil_append]
          refine wp_region_ext (by kernel_rfl) (by kernel_rfl) ?_
          repeat (go_big_quiet_step ((first | (go_at_call 45; exact calls_ext (rcheck_ok (S.out.ext ⟨_, _, rfl⟩) HT.out)) | (go_at_call 45; exact calls_ext (rcheck_ok (SS.out.ext ⟨_, _, rfl⟩) HT2.out)))))
          refine wpQuiet_nil ?_
          intro _ hw'
          obtain ⟨x9, rfl⟩ := hw'
          go_wp2_with fail
          go_ret
          exact ⟨false, rfl, ⟨nofun, fun h => absurd h NO.out⟩, ⟨_, _, rfl⟩⟩
    · have NO : Hid (¬ FitsT (nds ps) (nds ss) i) := Lib.hid (fun ⟨_, h, _⟩ => T2 h)
      have HT2 := Lib.hid T2
      clear T2
      go_enter Try.func83, Try.ntmps83
      go_upto_region 1 with fail
      try simp only [List.append_eq, List.cons_append, List.nil_append]
      refine wp_region_ext (by kernel_rfl) (by kernel_rfl) ?_
      repeat (go_big_quiet_step ((first | (go_at_call 45; exact calls_ext (rcheck_ok (S.out.ext ⟨_, _, rfl⟩) HT.out)) | (go_at_call 45; exact calls_ext (rcheck_no (SS.out.ext ⟨_, _, rfl⟩) HT2.out)))))
      refine wpQuiet_nil ?_
      intro _ hw'
      obtain ⟨x9, rfl⟩ := hw'
      go_wp2_with fail
      go_ret
      exact ⟨false, rfl, ⟨nofun, fun h => absurd h NO.out⟩, ⟨_, _, rfl⟩⟩
  · have NO : Hid (¬ FitsT (nds ps) (nds ss) i) := Lib.hid (fun ⟨h, _, _⟩ => T h)
    have HT := Lib.hid T
    clear T
    go_enter Try.func83, Try.ntmps83
    go_upto_region 1 with fail
    try simp only [List.append_eq, List.cons_append, List.nil_append]
    refine wp_region_ext (by kernel_rfl) (by kernel_rfl) ?_
    repeat (go_big_quiet_step ((first | (go_at_call 45; exact calls_ext (rcheck_no (S.out.ext ⟨_, _, rfl⟩) HT.out)))))
    refine wpQuiet_nil ?_
    intro _ hw'
    obtain ⟨x9, rfl⟩ := hw'
    go_wp2_with fail
    go_ret
    exact ⟨false, rfl, ⟨nofun, fun h => absurd h NO.out⟩, ⟨_, _, rfl⟩⟩
theorem set_same {α : Type} {l : List α} {j : Nat} {q : α} (h : l[j]? = some q) : l.set j q = l := by
  apply List.ext_getElem?
  intro i
  rw [List.getElem?_set]
  split
  · rename_i e
    subst e
    rw [h, if_pos (List.getElem?_eq_some_iff.1 h).1]
  · rfl
theorem mets_id {f : Int → Int} {l : List Nd} (h : ∀ x, f x = x) : l.map (Nd.mets f) = l := by
  refine (List.map_congr_left (g := id) fun p _ => ?_).trans (List.map_id _)
  unfold Nd.mets
  rw [h]
  rfl
set_option maxRecDepth 100000 in
set_option maxHeartbeats 2000000 in
theorem rclear_any (n : Int) (h : PS w A c ps) : Calls Try.prog 84 #[.slice A ps.length c, .int .i64 n] w (PartsRet w ((nds ps).map (Nd.mets (clearF n)))) := by
  have hl := h.few.len
  have S := Lib.hid h
  clear h
  go_enter Try.func84, Try.ntmps84
  go_wp2_with fail
  refine (rcopy_any S.out).mono ?_
  rintro e w2 ⟨A2, c2, qs, rfl, hn, ho, hx⟩
  have hql : qs.length = ps.length := by rw [← nds_length, hn, nds_length]
  have HN := Lib.hid hn
  have HO : Hid (OwnP w2 w.heap.size A2 c2 (metTo (clearF n) qs 0)) := Lib.hid (by unfold metTo; simpa using ho)
  have HX2 := Lib.hid hx
  have HQL := Lib.hid hql
  have hcp := ho.cells.2.1
  rw [hql] at hcp ⊢
  clear hn ho hx hql
  by_cases hs : SlotN n
  · have HS := Lib.hid hs
    obtain ⟨s0, s1⟩ := hs
    go_wp2_with fail
    go_loopw [6] (fun i wr => ∃ j : Nat, j ≤ ps.length ∧ i = .int .i64 j ∧ Hid (OwnP wr w.heap.size A2 c2 (metTo (clearF n) qs j)) ∧ Hid (Ext w wr)) (fun i _ => ps.length - (intOf i).toNat)
    case atStart => exact ⟨0, Nat.zero_le _, rfl, HO, HX2⟩
    case round =>
      obtain ⟨j, hj, rfl, ho, hx⟩ := hrel
      by_cases hlt : j < ps.length
      · obtain ⟨q, hq⟩ : ∃ q, qs[j]? = some q := ⟨_, List.getElem?_eq_getElem (by rw [HQL.out]; exact hlt)⟩
        have hget := metTo_get (f := clearF n) hq
        obtain ⟨g, rfl, hg1, hg2⟩ := row_block ho.out.row (by rw [metTo_length, HQL.out]; omega)
        have hat := ho.out.at hget.1
        have d7 := hat.met
        have f7 := hat.frozen (j * 8 + 7)
        have l7 := hat.lt
        have HG := Lib.hid hget
        have EQ : Hid (clearF n q.nd.met = bits .andNot .u64 q.nd.met (IntKind.u64.wrap (2 ^ n.toNat))) := Lib.hid (by rw [clearF, if_pos HS.out]; rfl)
        have HGB := Lib.hid hg1
        clear hget hat hq hg2
        go_wp2_with fail
        refine (rslot_any n _).mono ?_
        rintro e w3 ⟨rfl, rfl⟩
        rw [decide_eq_true (show 0 ≤ n ∧ n < 64 from HS.out)]
        go_wp2_with fail
        go_roundw
        case rel =>
          refine ⟨j + 1, by omega, by go_num, Lib.hid ?_, Lib.hid (hx.out.setCell HGB.out _)⟩
          rw [← HG.out.2]
          have f := ho.out.fine q (List.mem_of_getElem? HG.out.1)
          rw [← EQ.out]
          exact ho.out.put HG.out.1 (by omega) rfl ⟨rfl, rfl, rfl⟩ ⟨f.sym, f.kind, f.lo, f.inn, f.hi, f.look, clearF_u64 f.met, f.ks⟩
        case measure => simp [intOf]; omega
      · obtain rfl : j = ps.length := by omega
        go_wp2_with fail
        go_ret
        refine ⟨A2, c2, metTo (clearF n) qs ps.length, by rw [metTo_length, HQL.out]; rfl, ?_, ho.out, hx.out⟩
        rw [← HQL.out, metTo_all, HN.out]
  · have HS := Lib.hid hs
    clear hs
    go_wp2_with fail
    go_loopw [6] (fun i wr => i = .int .i64 0 ∧ wr = w2) (fun _ _ => 0)
    case atStart => exact ⟨rfl, rfl⟩
    case round =>
      obtain ⟨rfl, rfl⟩ := hrel
      by_cases hlt : 0 < ps.length
      · go_wp2_with fail
        refine (rslot_any n _).mono ?_
        rintro e w3 ⟨rfl, rfl⟩
        rw [decide_eq_false (show ¬ (0 ≤ n ∧ n < 64) from HS.out)]
        go_wp2_with fail
        go_ret
        refine ⟨A2, c2, metTo (clearF n) qs 0, by rw [metTo_length, HQL.out]; rfl, ?_, HO.out, HX2.out⟩
        rw [mets_id (f := clearF n) (fun x => by rw [clearF, if_neg HS.out]), ← HN.out]
        unfold metTo
        simp
      · go_wp2_with fail
        go_ret
        refine ⟨A2, c2, metTo (clearF n) qs 0, by rw [metTo_length, HQL.out]; rfl, ?_, HO.out, HX2.out⟩
        rw [mets_id (f := clearF n) (fun x => by rw [clearF, if_neg HS.out]), ← HN.out]
        unfold metTo
        simp
set_option maxRecDepth 100000 in
set_option maxHeartbeats 2000000 in
theorem rgive_any (n m : Int) (h : PS w A c ps) : Calls Try.prog 85 #[.slice A ps.length c, .int .i64 n, .int .i64 m] w (PartsRet w ((nds ps).map (Nd.mets (giveF n m)))) := by
  have hl := h.few.len
  have S := Lib.hid h
  clear h
  go_enter Try.func85, Try.ntmps85
  go_wp2_with fail
  refine (rcopy_any S.out).mono ?_
  rintro e w2 ⟨A2, c2, qs, rfl, hn, ho, hx⟩
  have hql : qs.length = ps.length := by rw [← nds_length, hn, nds_length]
  have HN := Lib.hid hn
  have HO : Hid (OwnP w2 w.heap.size A2 c2 (metTo (giveF n m) qs 0)) := Lib.hid (by unfold metTo; simpa using ho)
  have HX2 := Lib.hid hx
  have HQL := Lib.hid hql
  have hcp := ho.cells.2.1
  rw [hql] at hcp ⊢
  clear hn ho hx hql
  by_cases hs : SlotN n
  · have HS := Lib.hid hs
    obtain ⟨s0, s1⟩ := hs
    by_cases hs2 : SlotN m
    · have HS2 := Lib.hid hs2
      obtain ⟨s2, s3⟩ := hs2
      go_wp2_with fail
      go_loopw [8] (fun i wr => ∃ j : Nat, j ≤ ps.length ∧ i = .int .i64 j ∧ Hid (OwnP wr w.heap.size A2 c2 (metTo (giveF n m) qs j)) ∧ Hid (Ext w wr)) (fun i _ => ps.length - (intOf i).toNat)
      case atStart => exact ⟨0, Nat.zero_le _, rfl, HO, HX2⟩
      case round =>
        obtain ⟨j, hj, rfl, ho, hx⟩ := hrel
        by_cases hlt : j < ps.length
        · obtain ⟨q, hq⟩ : ∃ q, qs[j]? = some q := ⟨_, List.getElem?_eq_getElem (by rw [HQL.out]; exact hlt)⟩
          have hget := metTo_get (f := giveF n m) hq
          obtain ⟨g, rfl, hg1, hg2⟩ := row_block ho.out.row (by rw [metTo_length, HQL.out]; omega)
          have hat := ho.out.at hget.1
          have d7 := hat.met
          have f7 := hat.frozen (j * 8 + 7)
          have l7 := hat.lt
          have HG := Lib.hid hget
          have HGB := Lib.hid hg1
          have HF := Lib.hid (ho.out.fine q (List.mem_of_getElem? hget.1))
          have hz := last_bit HF.out.met n.toNat
          clear hget hat hq hg2
          cases ht : tb q.nd.met n.toNat with
          | true =>
            have EQ : Hid (giveF n m q.nd.met = bits .or .u64 (bits .andNot .u64 q.nd.met (IntKind.u64.wrap (2 ^ n.toNat))) (IntKind.u64.wrap (2 ^ m.toNat))) := Lib.hid (by rw [giveF, if_pos ⟨HS.out, HS2.out, ht⟩]; rfl)
            rw [ht, if_pos rfl] at hz
            clear ht
            go_wp2_with fail
            refine (rslot_any n _).mono ?_
            rintro e w3 ⟨rfl, rfl⟩
            rw [decide_eq_true (show 0 ≤ n ∧ n < 64 from HS.out)]
            go_wp2_with fail
            refine (rslot_any m _).mono ?_
            rintro e w3 ⟨rfl, rfl⟩
            rw [decide_eq_true (show 0 ≤ m ∧ m < 64 from HS2.out)]
            go_wp2_with fail
            go_roundw
            case rel =>
              refine ⟨j + 1, by omega, by go_num, Lib.hid ?_, Lib.hid (hx.out.setCell HGB.out _)⟩
              rw [← HG.out.2, ← EQ.out]
              have f := HF.out
              exact ho.out.put HG.out.1 (by omega) rfl ⟨rfl, rfl, rfl⟩ ⟨f.sym, f.kind, f.lo, f.inn, f.hi, f.look, giveF_u64 f.met, f.ks⟩
            case measure => simp [intOf]; omega
          | false =>
            have EQ : Hid (giveF n m q.nd.met = q.nd.met) := Lib.hid (by rw [giveF, if_neg (fun h => by rw [ht] at h; cases h.2.2)])
            rw [ht, if_neg Bool.false_ne_true] at hz
            clear ht
            go_wp2_with fail
            refine (rslot_any n _).mono ?_
            rintro e w3 ⟨rfl, rfl⟩
            rw [decide_eq_true (show 0 ≤ n ∧ n < 64 from HS.out)]
            go_wp2_with fail
            refine (rslot_any m _).mono ?_
            rintro e w3 ⟨rfl, rfl⟩
            rw [decide_eq_true (show 0 ≤ m ∧ m < 64 from HS2.out)]
            go_wp2_with fail
            go_roundw
            case rel =>
              refine ⟨j + 1, by omega, by go_num, Lib.hid ?_, hx⟩
              rw [← HG.out.2]
              have e : q.mets (giveF n m) = q := by unfold Prt.mets; rw [EQ.out]
              rw [e, set_same HG.out.1]
              exact ho.out
            case measure => simp [intOf]; omega
        · obtain rfl : j = ps.length := by omega
          go_wp2_with fail
          go_ret
          refine ⟨A2, c2, metTo (giveF n m) qs ps.length, by rw [metTo_length, HQL.out]; rfl, ?_, ho.out, hx.out⟩
          rw [← HQL.out, metTo_all, HN.out]
    · have HS2 := Lib.hid hs2
      clear hs2
      go_wp2_with fail
      go_loopw [8] (fun i wr => i = .int .i64 0 ∧ wr = w2) (fun _ _ => 0)
      case atStart => exact ⟨rfl, rfl⟩
      case round =>
        obtain ⟨rfl, rfl⟩ := hrel
        by_cases hlt : 0 < ps.length
        · go_wp2_with fail
          refine (rslot_any n _).mono ?_
          rintro e w3 ⟨rfl, rfl⟩
          rw [decide_eq_true (show 0 ≤ n ∧ n < 64 from HS.out)]
          go_wp2_with fail
          refine (rslot_any m _).mono ?_
          rintro e w3 ⟨rfl, rfl⟩
          rw [decide_eq_false (show ¬ (0 ≤ m ∧ m < 64) from HS2.out)]
          go_wp2_with fail
          go_ret
          refine ⟨A2, c2, metTo (giveF n m) qs 0, by rw [metTo_length, HQL.out]; rfl, ?_, HO.out, HX2.out⟩
          rw [mets_id (f := giveF n m) (fun x => by rw [giveF, if_neg fun h => HS2.out h.2.1]), ← HN.out]
          unfold metTo
          simp
        · go_wp2_with fail
          go_ret
          refine ⟨A2, c2, metTo (giveF n m) qs 0, by rw [metTo_length, HQL.out]; rfl, ?_, HO.out, HX2.out⟩
          rw [mets_id (f := giveF n m) (fun x => by rw [giveF, if_neg fun h => HS2.out h.2.1]), ← HN.out]
          unfold metTo
          simp
  · have HS := Lib.hid hs
    clear hs
    go_wp2_with fail
    go_loopw [8] (fun i wr => i = .int .i64 0 ∧ wr = w2) (fun _ _ => 0)
    case atStart => exact ⟨rfl, rfl⟩
    case round =>
      obtain ⟨rfl, rfl⟩ := hrel
      by_cases hlt : 0 < ps.length
      · go_wp2_with fail
        refine (rslot_any n _).mono ?_
        rintro e w3 ⟨rfl, rfl⟩
        rw [decide_eq_false (show ¬ (0 ≤ n ∧ n < 64) from HS.out)]
        go_wp2_with fail
        go_ret
        refine ⟨A2, c2, metTo (giveF n m) qs 0, by rw [metTo_length, HQL.out]; rfl, ?_, HO.out, HX2.out⟩
        rw [mets_id (f := giveF n m) (fun x => by rw [giveF, if_neg fun h => HS.out h.1]), ← HN.out]
        unfold metTo
        simp
      · go_wp2_with fail
        go_ret
        refine ⟨A2, c2, metTo (giveF n m) qs 0, by rw [metTo_length, HQL.out]; rfl, ?_, HO.out, HX2.out⟩
        rw [mets_id (f := giveF n m) (fun x => by rw [giveF, if_neg fun h => HS.out h.1]), ← HN.out]
        unfold metTo
        simp
end
end Go.Proofs.Ytaffaeompdlecaa

/- The contract of the document's Done (viewportref20). -/
namespace Go.Proofs.Ytaffaeompdlecaa
open Go.RowKit
attribute [local go_sem] more_drew more_drewN more_size more_cell more_frozen more_setCell drew_more drewN_more lt_add_r lt_add_r2 lt_add_r3 lt_add_r4 lt_add_r5 lt_add_r6 lt_add_r7 lt_add_r8 lt_add_r9 lt_add_r10 lt_self_r lt_self_r2

section
variable {A : Option Addr} {c : Nat} {ps : List Prt} {w : World}
set_option maxRecDepth 100000 in
set_option maxHeartbeats 3000000 in
theorem rdone_any (i : Int) (d : Dty) (h : PS w A c ps) : Calls Try.prog 82 #[.slice A ps.length c, .int .i64 i, dyV d] w (TellsB w (DoneOk (nds ps) i d)) := by
  have HL := h.few.len
  have hcp := h.cap
  have htp := h.top
  have S := Lib.hid h
  clear h
  obtain ⟨slot, lo, hi', age, level⟩ := d
  unfold dyV
  dsimp only
  go_enter Try.func82, Try.ntmps82
  go_upto_region 1 with fail
  obtain ⟨b, hb⟩ : ∃ b, w.heap.size = b := ⟨_, rfl⟩
  obtain ⟨W1, hW1⟩ : ∃ W1, w.alloc (.cells #[.int .i64 slot, .int .i64 lo, .int .i64 hi', .int .i64 age, .int .i64 level] 82) = W1 := ⟨_, rfl⟩
  have X1 : Hid (Ext w W1) := Lib.hid (by rw [← hW1]; exact (by repeat (first | exact Ext.refl _ | refine Ext.alloc ?_ _ | refine Ext.more ?_ _ _ | refine Ext.drew ?_ | refine Ext.drewN ?_ _ | refine Ext.setCell ?_ (by simp <;> omega) _)))
  have G1 : W1.heap[b]? = some (.cells #[.int .i64 slot, .int .i64 lo, .int .i64 hi', .int .i64 age, .int .i64 level] 82) := by rw [← hW1, ← hb]; exact heap_alloc_new _ _
  rw [hW1, hb]
  have k0 := cell_of_row _ _ 0 _ _ _ G1
  have k1 := cell_of_row _ _ 1 _ _ _ G1
  have k2 := cell_of_row _ _ 2 _ _ _ G1
  simp at k0 k1 k2
  have l0 := lt_of_heap G1
  have HG := Lib.hid G1
  have S1 : Hid (PS W1 A c ps) := Lib.hid (S.out.ext X1.out)
  clear hW1 hb G1
  by_cases T : Tree (nds ps)
  · have HT := Lib.hid T
    clear T
    by_cases h0 : i < 0
    · have NO : Hid (¬ DoneOk (nds ps) i ⟨slot, lo, hi', age, level⟩) := Lib.hid (fun ⟨_, _, _, k, m, p, e, _⟩ => by omega)
      have g0 : decide (i < 0) = true := decide_eq_true h0
      clear h0
      try simp only [List.append_eq, List.cons_append, List.nil_append]
      refine wp_region_ext (by kernel_rfl) (by kernel_rfl) ?_
      repeat (go_big_quiet_step ((first | (go_at_call 45; exact calls_ext (rcheck_ok (S1.out.ext ⟨_, _, rfl⟩) HT.out)))))
      refine wpQuiet_nil ?_
      intro _ hw'
      obtain ⟨x9, rfl⟩ := hw'
      go_wp2_with fail
      go_ret
      exact ⟨false, rfl, ⟨nofun, fun h => absurd h NO.out⟩, X1.out.trans ⟨_, _, rfl⟩⟩
    · by_cases h1 : i < (ps.length : Int)
      · obtain ⟨j, rfl⟩ : ∃ j : Nat, i = (j : Int) := ⟨i.toNat, by omega⟩
        have hjl : j < ps.length := by omega
        have g0 : decide ((j : Int) < 0) = false := decide_eq_false h0
        have g1 : decide (ps.length ≤ j) = false := decide_eq_false (by omega)
        clear h0 h1
        by_cases hs : SlotN slot
        · have h12 : 0 ≤ slot ∧ slot < 64 := hs
          have HS := Lib.hid hs
          have CSL := Lib.hid (fun (V : World) => by
            have := rslot_any slot V
            rw [decide_eq_true h12] at this
            exact this)
          obtain ⟨p, hp⟩ : ∃ p, ps[j]? = some p := ⟨_, List.getElem?_eq_getElem hjl⟩
          obtain ⟨bA, off, rfl, hbA, hcell⟩ := S1.out.parts (by omega)
          have d2 := (hcell j p hp).2.2.1
          have d4 := (hcell j p hp).2.2.2.2.1
          have HPP := Lib.hid hp
          clear hs h12 hcell hp
          by_cases c2 : lo < p.nd.lo
          · have NO : Hid (¬ DoneOk (nds ps) (j : Int) ⟨slot, lo, hi', age, level⟩) := Lib.hid (fun ⟨_, _, _, k', m', p', e, hp', _, h, _⟩ => by
              obtain rfl : j = k' := by omega
              rw [nds_get HPP.out] at hp'
              cases hp'
              dsimp only at h
              omega)
            have g2 : decide (lo < p.nd.lo) = true := decide_eq_true c2
            clear c2
            try simp only [List.append_eq, List.cons_append, List.nil_append]
            refine wp_region_ext (by kernel_rfl) (by kernel_rfl) ?_
            repeat (go_big_quiet_step ((first | (go_at_call 45; exact calls_ext (rcheck_ok (S1.out.ext ⟨_, _, rfl⟩) HT.out)) | (go_at_call 142; exact calls_ext_same (CSL.out _)))))
            refine wpQuiet_nil ?_
            intro _ hw'
            obtain ⟨x9, rfl⟩ := hw'
            go_wp2_with fail
            go_ret
            exact ⟨false, rfl, ⟨nofun, fun h => absurd h NO.out⟩, X1.out.trans ⟨_, _, rfl⟩⟩
          · have g2 : decide (lo < p.nd.lo) = false := decide_eq_false c2
            by_cases c3 : p.nd.hi < hi'
            · have NO : Hid (¬ DoneOk (nds ps) (j : Int) ⟨slot, lo, hi', age, level⟩) := Lib.hid (fun ⟨_, _, _, k', m', p', e, hp', _, _, h, _⟩ => by
                obtain rfl : j = k' := by omega
                rw [nds_get HPP.out] at hp'
                cases hp'
                dsimp only at h
                omega)
              have g3 : decide (p.nd.hi < hi') = true := decide_eq_true c3
              clear c2 c3
              try simp only [List.append_eq, List.cons_append, List.nil_append]
              refine wp_region_ext (by kernel_rfl) (by kernel_rfl) ?_
              repeat (go_big_quiet_step ((first | (go_at_call 45; exact calls_ext (rcheck_ok (S1.out.ext ⟨_, _, rfl⟩) HT.out)) | (go_at_call 142; exact calls_ext_same (CSL.out _)))))
              refine wpQuiet_nil ?_
              intro _ hw'
              obtain ⟨x9, rfl⟩ := hw'
              go_wp2_with fail
              go_ret
              exact ⟨false, rfl, ⟨nofun, fun h => absurd h NO.out⟩, X1.out.trans ⟨_, _, rfl⟩⟩
            · have g3 : decide (p.nd.hi < hi') = false := decide_eq_false c3
              by_cases c1 : hi' < lo
              · have NO : Hid (¬ DoneOk (nds ps) (j : Int) ⟨slot, lo, hi', age, level⟩) := Lib.hid (fun ⟨_, _, h, _⟩ => by dsimp only at h; omega)
                have g4 : decide (hi' < lo) = true := decide_eq_true c1
                clear c1 c2 c3
                try simp only [List.append_eq, List.cons_append, List.nil_append]
                refine wp_region_ext (by kernel_rfl) (by kernel_rfl) ?_
                repeat (go_big_quiet_step ((first | (go_at_call 45; exact calls_ext (rcheck_ok (S1.out.ext ⟨_, _, rfl⟩) HT.out)) | (go_at_call 142; exact calls_ext_same (CSL.out _)))))
                refine wpQuiet_nil ?_
                intro _ hw'
                obtain ⟨x9, rfl⟩ := hw'
                go_wp2_with fail
                go_ret
                exact ⟨false, rfl, ⟨nofun, fun h => absurd h NO.out⟩, X1.out.trans ⟨_, _, rfl⟩⟩
              · have g4 : decide (hi' < lo) = false := decide_eq_false c1
                have HC : Hid (lo ≤ hi' ∧ p.nd.lo ≤ lo ∧ hi' ≤ p.nd.hi) := Lib.hid ⟨by omega, by omega, by omega⟩
                obtain ⟨m, hpart⟩ := HT.out.part (i := j) (by rw [nds_length]; exact hjl)
                have HPT := Lib.hid hpart
                have hme := hpart.le
                rw [nds_length] at hme
                have YES : Hid ((∀ (n : Nat) (q : Nd), (nds ps)[n]? = some q → tb q.met slot.toNat = true → j ≤ n ∧ n < m) ↔ DoneOk (nds ps) (j : Int) ⟨slot, lo, hi', age, level⟩) := Lib.hid ⟨fun h => ⟨HT.out, HS.out, HC.out.1, j, m, p.nd, rfl, nds_get HPP.out, HPT.out, HC.out.2.1, HC.out.2.2, h⟩, fun ⟨_, _, _, k', m', p', e, hp', hm', _, _, h⟩ => by
                  obtain rfl : j = k' := by omega
                  obtain rfl := HPT.out.det hm'
                  exact h⟩
                clear c1 c2 c3 hpart
                try simp only [List.append_eq, List.cons_append, List.nil_append]
                refine wp_region_ext (by kernel_rfl) (by kernel_rfl) ?_
                repeat (go_big_quiet_step ((first | (go_at_call 45; exact calls_ext (rcheck_ok (S1.out.ext ⟨_, _, rfl⟩) HT.out)) | (go_at_call 142; exact calls_ext_same (CSL.out _)))))
                refine wpQuiet_nil ?_
                intro _ hw'
                obtain ⟨x9, rfl⟩ := hw'
                have HX2 : Hid (Ext W1 (more W1 x9.os x9.k)) := Lib.hid ⟨_, _, rfl⟩
                obtain ⟨W2, hW2⟩ : ∃ W2, more W1 x9.os x9.k = W2 := ⟨_, rfl⟩
                rw [hW2] at HX2 ⊢
                clear hW2 d2 d4 g0 g1 g2 g3 g4 k0 k1 k2 l0 hbA
                go_wp2_with fail
                refine (rEnd_yes j m (S1.out.ext HX2.out) HT.out HPT.out).mono ?_
                rintro e w3 ⟨rfl, hx3⟩
                have HX3 := Lib.hid (HX2.out.trans hx3)
                clear hx3
                go_wp2_with fail
                go_loopw [8] (fun v wr => ∃ n : Nat, n ≤ ps.length ∧ v = .int .i64 n ∧ Hid (∀ (k : Nat) (q : Nd), k < n → (nds ps)[k]? = some q → tb q.met slot.toNat = true → j ≤ k ∧ k < m) ∧ Hid (Ext W1 wr)) (fun v _ => ps.length - (intOf v).toNat)
                case atStart => exact ⟨0, Nat.zero_le _, rfl, Lib.hid (fun k q hk => by omega), HX3⟩
                case round =>
                  obtain ⟨n, hn, rfl, hI, hx⟩ := hrel
                  have HGR := ext_block HG.out hx.out
                  have y0 := cell_of_row _ _ 0 _ _ _ HGR
                  simp at y0
                  have ly := lt_of_heap HGR
                  clear HGR
                  by_cases hlt : n < ps.length
                  · obtain ⟨q, hq⟩ : ∃ q, ps[n]? = some q := ⟨_, List.getElem?_eq_getElem hlt⟩
                    obtain ⟨b', off', hA', hb', hcell⟩ := (S1.out.ext hx.out).parts (by omega)
                    injection hA' with hA'
                    injection hA' with ea eb
                    subst ea eb
                    have d7 := (hcell n q hq).2.2.2.2.2.2.2
                    have hmu : U64 q.nd.met := (S.out.oks.get hq).met
                    have hz := last_bit hmu slot.toNat
                    have HQ := Lib.hid (nds_get hq)
                    obtain ⟨s1, s2⟩ := HS.out
                    have FOK : Hid (((j ≤ n ∧ n < m) ∨ tb q.nd.met slot.toNat = false) → ∀ (k : Nat) (q : Nd), k < n + 1 → (nds ps)[k]? = some q → tb q.met slot.toNat = true → j ≤ k ∧ k < m) := Lib.hid fun h k q2 hk hq2 ht => by
                      rcases (show k < n ∨ k = n by omega) with h1 | rfl
                      · exact hI.out k q2 h1 hq2 ht
                      · rw [HQ.out] at hq2
                        cases hq2
                        rcases h with h | h
                        · exact h
                        · rw [h] at ht; cases ht
                    clear hcell hq hmu
                    cases ht : tb q.nd.met slot.toNat with
                    | true =>
                      rw [ht, if_pos rfl] at hz
                      by_cases a1 : n < j
                      · have NO : Hid (¬ DoneOk (nds ps) (j : Int) ⟨slot, lo, hi', age, level⟩) := Lib.hid (fun h => by have := YES.out.2 h n q.nd HQ.out ht; omega)
                        have g3 : decide (n < j) = true := decide_eq_true a1
                        clear ht a1
                        go_upto_region 7 with fail
                        try simp only [List.append_eq, List.cons_append, List.nil_append]
                        refine wp_region_bt (21) (softs_bt [0, 1, 2, 3, 4, 5, 6, 7, 8, 9, 10, 11, 12, 13, 14, 15, 16, 17, 18, 19, 20] .fin) (by kernel_rfl) (by kernel_rfl) ?_
                        (refine bt_softs _ fun K hK => ?_); (simp only [pick, nthC]); (repeat (go_big_quiet_step (fail))); (refine wpQuiet_nil (hK _ ?_)); (clear hK K)
                        (refine bt_fin ?_)
                        go_wp2_with fail
                        go_ret
                        exact ⟨false, rfl, ⟨nofun, fun h => absurd h NO.out⟩, (X1.out.trans hx.out).drew⟩
                      · have g3 : decide (n < j) = false := decide_eq_false a1
                        by_cases a2 : m ≤ n
                        · have NO : Hid (¬ DoneOk (nds ps) (j : Int) ⟨slot, lo, hi', age, level⟩) := Lib.hid (fun h => by have := YES.out.2 h n q.nd HQ.out ht; omega)
                          have g4 : decide (m ≤ n) = true := decide_eq_true a2
                          clear ht a1 a2
                          go_upto_region 7 with fail
                          try simp only [List.append_eq, List.cons_append, List.nil_append]
                          refine wp_region_bt (21) (softs_bt [0, 1, 2, 3, 4, 5, 6, 7, 8, 9, 10, 11, 12, 13, 14, 15, 16, 17, 18, 19, 20] .fin) (by kernel_rfl) (by kernel_rfl) ?_
                          (refine bt_softs _ fun K hK => ?_); (simp only [pick, nthC]); (repeat (go_big_quiet_step (fail))); (refine wpQuiet_nil (hK _ ?_)); (clear hK K)
                          (refine bt_fin ?_)
                          go_wp2_with fail
                          go_ret
                          exact ⟨false, rfl, ⟨nofun, fun h => absurd h NO.out⟩, (X1.out.trans hx.out).drew⟩
                        · have g4 : decide (m ≤ n) = false := decide_eq_false a2
                          have R := Lib.hid (FOK.out (.inl ⟨by omega, by omega⟩))
                          clear ht a1 a2
                          go_upto_region 7 with fail
                          try simp only [List.append_eq, List.cons_append, List.nil_append]
                          refine wp_region_bt (21) (softs_bt [0, 1, 2, 3, 4, 5, 6, 7, 8, 9, 10, 11, 12, 13, 14, 15, 16, 17, 18, 19, 20] .fin) (by kernel_rfl) (by kernel_rfl) ?_
                          (refine bt_softs _ fun K hK => ?_); (simp only [pick, nthC]); (repeat (go_big_quiet_step (fail))); (refine wpQuiet_nil (hK _ ?_)); (clear hK K)
                          (refine bt_fin ?_)
                          go_wp2_with fail
                          go_roundw
                          case rel => exact ⟨n + 1, by omega, by go_num, R, Lib.hid hx.out.drew⟩
                          case measure => simp [intOf]; omega
                    | false =>
                      rw [ht, if_neg Bool.false_ne_true] at hz
                      have R := Lib.hid (FOK.out (.inr ht))
                      clear ht
                      go_upto_region 7 with fail
                      try simp only [List.append_eq, List.cons_append, List.nil_append]
                      refine wp_region_bt (21) (softs_bt [0, 1, 2, 3, 4, 5, 6, 7, 8, 9, 10, 11, 12, 13, 14, 15, 16, 17, 18, 19, 20] .fin) (by kernel_rfl) (by kernel_rfl) ?_
                      (refine bt_softs _ fun K hK => ?_); (simp only [pick, nthC]); (repeat (go_big_quiet_step (fail))); (refine wpQuiet_nil (hK _ ?_)); (clear hK K)
                      (refine bt_fin ?_)
                      go_wp2_with fail
                      go_roundw
                      case rel => exact ⟨n + 1, by omega, by go_num, R, Lib.hid hx.out.drew⟩
                      case measure => simp [intOf]; omega
                  · obtain rfl : n = ps.length := by omega
                    have D0 := Lib.hid (YES.out.1 fun k q hq ht => hI.out k q (by have := (List.getElem?_eq_some_iff.1 hq).1; rwa [nds_length] at this) hq ht)
                    go_wp2_with fail
                    go_ret
                    exact ⟨true, rfl, ⟨fun _ => D0.out, fun _ => rfl⟩, X1.out.trans hx.out⟩
        · have NO : Hid (¬ DoneOk (nds ps) (j : Int) ⟨slot, lo, hi', age, level⟩) := Lib.hid (fun ⟨_, h, _⟩ => hs h)
          have h12 : ¬ (0 ≤ slot ∧ slot < 64) := hs
          have CSL := Lib.hid (fun (V : World) => by
            have := rslot_any slot V
            rw [decide_eq_false h12] at this
            exact this)
          clear hs h12
          try simp only [List.append_eq, List.cons_append, List.nil_append]
          refine wp_region_ext (by kernel_rfl) (by kernel_rfl) ?_
          repeat (go_big_quiet_step ((first | (go_at_call 45; exact calls_ext (rcheck_ok (S1.out.ext ⟨_, _, rfl⟩) HT.out)) | (go_at_call 142; exact calls_ext_same (CSL.out _)))))
          refine wpQuiet_nil ?_
          intro _ hw'
          obtain ⟨x9, rfl⟩ := hw'
          go_wp2_with fail
          go_ret
          exact ⟨false, rfl, ⟨nofun, fun h => absurd h NO.out⟩, X1.out.trans ⟨_, _, rfl⟩⟩
      · have NO : Hid (¬ DoneOk (nds ps) i ⟨slot, lo, hi', age, level⟩) := Lib.hid (fun ⟨_, _, _, k, m, p, e, hk, _⟩ => by have := (List.getElem?_eq_some_iff.1 hk).1; rw [nds_length] at this; omega)
        have g0 : decide (i < 0) = false := decide_eq_false h0
        have g1 : decide ((ps.length : Int) ≤ i) = true := decide_eq_true (by omega)
        clear h0 h1
        try simp only [List.append_eq, List.cons_append, List.nil_append]
        refine wp_region_ext (by kernel_rfl) (by kernel_rfl) ?_
        repeat (go_big_quiet_step ((first | (go_at_call 45; exact calls_ext (rcheck_ok (S1.out.ext ⟨_, _, rfl⟩) HT.out)))))
        refine wpQuiet_nil ?_
        intro _ hw'
        obtain ⟨x9, rfl⟩ := hw'
        go_wp2_with fail
        go_ret
        exact ⟨false, rfl, ⟨nofun, fun h => absurd h NO.out⟩, X1.out.trans ⟨_, _, rfl⟩⟩
  · have NO : Hid (¬ DoneOk (nds ps) i ⟨slot, lo, hi', age, level⟩) := Lib.hid (fun ⟨h, _⟩ => T h)
    have HT := Lib.hid T
    clear T
    try simp only [List.append_eq, List.cons_append, List.nil_append]
    refine wp_region_ext (by kernel_rfl) (by kernel_rfl) ?_
    repeat (go_big_quiet_step ((first | (go_at_call 45; exact calls_ext (rcheck_no (S1.out.ext ⟨_, _, rfl⟩) HT.out)))))
    refine wpQuiet_nil ?_
    intro _ hw'
    obtain ⟨x9, rfl⟩ := hw'
    go_wp2_with fail
    go_ret
    exact ⟨false, rfl, ⟨nofun, fun h => absurd h NO.out⟩, X1.out.trans ⟨_, _, rfl⟩⟩
end
end Go.Proofs.Ytaffaeompdlecaa

/- The contract of the document's Put (viewportref16). -/
namespace Go.Proofs.Ytaffaeompdlecaa
open Go.RowKit
attribute [local go_sem] more_drew more_drewN more_size more_cell more_frozen more_setCell drew_more drewN_more lt_add_r lt_add_r2 lt_add_r3 lt_add_r4 lt_add_r5 lt_add_r6 lt_add_r7 lt_add_r8 lt_add_r9 lt_add_r10 lt_self_r lt_self_r2

section
variable {A B : Option Addr} {c d : Nat} {ps ss : List Prt} {w : World}
set_option maxRecDepth 100000 in
set_option maxHeartbeats 1000000 in
theorem rPut_no1 (i : Int) (h : PS w A c ps) (T : ¬ Tree (nds ps)) (v : Value) : Calls Try.prog 43 #[.slice A ps.length c, .int .i64 i, v] w fun e w' => e = .returned (.tuple #[.slice none 0 0, .int .i64 2]) ∧ Ext w w' := by
  have CH := Lib.hid (rcheck_no h T)
  clear h T
  go_enter Try.func43, Try.ntmps43
  go_wp2_with fail
  refine CH.out.mono ?_
  rintro e w3 ⟨rfl, hx3⟩
  have HX3 := Lib.hid hx3
  clear hx3
  go_wp2_with fail
  go_ret2
  exact ⟨rfl, HX3.out⟩
set_option maxRecDepth 100000 in
set_option maxHeartbeats 1000000 in
theorem rPut_no2 (i : Int) (h : PS w A c ps) (T : Tree (nds ps)) (hs : PS w B d ss) (T2 : ¬ Tree (nds ss)) : Calls Try.prog 43 #[.slice A ps.length c, .int .i64 i, .slice B ss.length d] w fun e w' => e = .returned (.tuple #[.slice none 0 0, .int .i64 2]) ∧ Ext w w' := by
  have CH := Lib.hid (rcheck_ok h T)
  have CS := Lib.hid (fun w1 (x : Ext w w1) => rcheck_no (hs.ext x) T2)
  clear h T hs T2
  go_enter Try.func43, Try.ntmps43
  go_wp2_with fail
  refine CH.out.mono ?_
  rintro e w3 ⟨rfl, hx3⟩
  have HX3 := Lib.hid hx3
  clear hx3
  go_wp2_with fail
  refine (CS.out _ HX3.out).mono ?_
  rintro e w4 ⟨rfl, hx4⟩
  have HX4 : Hid (Ext w w4) := Lib.hid (HX3.out.trans hx4)
  clear hx4
  go_wp2_with fail
  go_ret2
  exact ⟨rfl, HX4.out⟩
set_option maxRecDepth 100000 in
set_option maxHeartbeats 2000000 in
theorem rPut_bad (i : Int) (h : PS w A c ps) (T : Tree (nds ps)) (hs : PS w B d ss) (T2 : Tree (nds ss)) (hn : ¬ FitsP (nds ps) (nds ss) i) : Calls Try.prog 43 #[.slice A ps.length c, .int .i64 i, .slice B ss.length d] w fun e w' => e = .returned (.tuple #[.slice none 0 0, .int .i64 2]) ∧ Ext w w' := by
  have CH := Lib.hid (rcheck_ok h T)
  have CS := Lib.hid (fun w1 (x : Ext w w1) => rcheck_ok (hs.ext x) T2)
  have HL := h.few.len
  have hs0 := T2.pos
  rw [nds_length] at hs0
  have HS := Lib.hid hs
  have H := Lib.hid h
  have HN := Lib.hid hn
  have hcp := h.cap
  have htp := h.top
  have hdp := hs.cap
  have hdt := hs.top
  clear h T hs T2 hn
  go_enter Try.func43, Try.ntmps43
  go_wp2_with fail
  refine CH.out.mono ?_
  rintro e w3 ⟨rfl, hx3⟩
  have HX3 := Lib.hid hx3
  clear hx3
  go_wp2_with fail
  refine (CS.out _ HX3.out).mono ?_
  rintro e w4 ⟨rfl, hx4⟩
  have HX4 : Hid (Ext w w4) := Lib.hid (HX3.out.trans hx4)
  clear hx4
  go_upto_region 6 with fail
  go_cut [80] (fun t wx => t = .bool true ∧ Hid (Ext w4 wx))
  case first =>
    rcases Int.lt_or_le i 0 with hi0 | hi0
    · have g0 : decide (i < 0) = true := decide_eq_true hi0
      clear hi0
      go_quiet (fail)
      go_wp2_with fail
      go_meet
      exact ⟨rfl, Lib.hid (by repeat (first | exact Ext.refl _ | refine Ext.alloc ?_ _ | refine Ext.more ?_ _ _ | refine Ext.drew ?_ | refine Ext.drewN ?_ _ | refine Ext.setCell ?_ (by simp <;> omega) _))⟩
    · have g0 : decide (i < 0) = false := decide_eq_false (by omega)
      rcases Int.lt_or_le i (ps.length : Int) with hi1 | hi1
      · obtain ⟨j, rfl⟩ : ∃ j : Nat, i = (j : Int) := ⟨i.toNat, by omega⟩
        have hjl : j < ps.length := by omega
        have g1 : decide (ps.length ≤ j) = false := decide_eq_false (by omega)
        obtain ⟨p, hp⟩ : ∃ p, ps[j]? = some p := ⟨_, List.getElem?_eq_getElem hjl⟩
        obtain ⟨q, hq⟩ : ∃ q, ss[0]? = some q := ⟨_, List.getElem?_eq_getElem hs0⟩
        obtain ⟨b1, o1, rfl, hb1, hc1⟩ := (H.out.ext HX4.out).parts (by omega)
        obtain ⟨b2, o2, rfl, hb2, hc2⟩ := (HS.out.ext HX4.out).parts (by omega)
        obtain ⟨x0, x1, x2, _, x4, _⟩ := hc1 j p hp
        obtain ⟨y0, y1, y2, _, y4, _⟩ := hc2 0 q hq
        simp only [Nat.zero_mul, Nat.add_zero] at y0 y1 y2 y4
        have HF := Lib.hid (fun (a : p.nd.sym = q.nd.sym) (b : p.nd.kind = q.nd.kind) (cc : p.nd.lo = q.nd.lo) (dd : p.nd.hi = q.nd.hi) => HN.out ⟨j, p.nd, q.nd, rfl, nds_get hp, nds_get hq, a, b, cc, dd⟩)
        clear hc1 hc2 hp hq hi0 hi1
        by_cases a1 : p.nd.sym = q.nd.sym
        · have k1 : (p.nd.sym != q.nd.sym) = false := by simp [a1]
          have A1 := Lib.hid a1
          clear a1
          by_cases a2 : p.nd.kind = q.nd.kind
          · have k2 : (p.nd.kind != q.nd.kind) = false := by simp [a2]
            have A2 := Lib.hid a2
            clear a2
            by_cases a3 : p.nd.lo = q.nd.lo
            · have k3 : (p.nd.lo != q.nd.lo) = false := by simp [a3]
              have A3 := Lib.hid a3
              clear a3
              by_cases a4 : p.nd.hi = q.nd.hi
              · exact absurd a4 (fun a4 => HF.out A1.out A2.out A3.out a4)
              · have k4 : (p.nd.hi != q.nd.hi) = true := by simp [a4]
                clear a4
                go_quiet (fail)
                go_wp2_with fail
                go_meet
                exact ⟨rfl, Lib.hid (by repeat (first | exact Ext.refl _ | refine Ext.alloc ?_ _ | refine Ext.more ?_ _ _ | refine Ext.drew ?_ | refine Ext.drewN ?_ _ | refine Ext.setCell ?_ (by simp <;> omega) _))⟩
            · have k3 : (p.nd.lo != q.nd.lo) = true := by simp [a3]
              clear a3
              go_quiet (fail)
              go_wp2_with fail
              go_meet
              exact ⟨rfl, Lib.hid (by repeat (first | exact Ext.refl _ | refine Ext.alloc ?_ _ | refine Ext.more ?_ _ _ | refine Ext.drew ?_ | refine Ext.drewN ?_ _ | refine Ext.setCell ?_ (by simp <;> omega) _))⟩
          · have k2 : (p.nd.kind != q.nd.kind) = true := by simp [a2]
            clear a2
            go_quiet (fail)
            go_wp2_with fail
            go_meet
            exact ⟨rfl, Lib.hid (by repeat (first | exact Ext.refl _ | refine Ext.alloc ?_ _ | refine Ext.more ?_ _ _ | refine Ext.drew ?_ | refine Ext.drewN ?_ _ | refine Ext.setCell ?_ (by simp <;> omega) _))⟩
        · have k1 : (p.nd.sym != q.nd.sym) = true := by simp [a1]
          clear a1
          go_quiet (fail)
          go_wp2_with fail
          go_meet
          exact ⟨rfl, Lib.hid (by repeat (first | exact Ext.refl _ | refine Ext.alloc ?_ _ | refine Ext.more ?_ _ _ | refine Ext.drew ?_ | refine Ext.drewN ?_ _ | refine Ext.setCell ?_ (by simp <;> omega) _))⟩
      · have g1 : decide ((ps.length : Int) ≤ i) = true := decide_eq_true hi1
        clear hi0 hi1
        go_quiet (fail)
        go_wp2_with fail
        go_meet
        exact ⟨rfl, Lib.hid (by repeat (first | exact Ext.refl _ | refine Ext.alloc ?_ _ | refine Ext.more ?_ _ _ | refine Ext.drew ?_ | refine Ext.drewN ?_ _ | refine Ext.setCell ?_ (by simp <;> omega) _))⟩
  case rest =>
    obtain ⟨rfl, hx5⟩ := hcut
    go_wp2_with fail
    go_ret2
    exact ⟨rfl, HX4.out.trans hx5.out⟩

/-- where a part's kids are copied, each by a function -/
structure MvF (w : World) (m : Nat) (v : Value) (qs : List Prt) (p : Prt) (f : Int → Int) (k : Nat) (A : Option Addr) (c : Nat) (W : World) : Prop where
  low : Low m W (fun U => RowP U w.heap.size v qs ∧ Below w.heap.size w U)
  part : W.heap[m]? = some (.cells (prtCells ⟨{ p.nd with kids := (p.nd.kids.take k).map f }, A, c⟩).toArray 35)
  own : OwnI W m A c ((p.nd.kids.take k).map f)
theorem MvF.rowP {m : Nat} {v : Value} {qs : List Prt} {p : Prt} {f : Int → Int} {k : Nat} {W : World} (h : MvF w m v qs p f k A c W) : RowP W w.heap.size v qs :=
  Low.up (Φ := fun U => RowP U w.heap.size v qs) (h.low.imp fun _ h => h.1) fun _ h e => h.below e
theorem MvF.below {m : Nat} {v : Value} {qs : List Prt} {p : Prt} {f : Int → Int} {k : Nat} {W : World} (h : MvF w m v qs p f k A c W) : Below w.heap.size w W :=
  Low.up (Φ := Below w.heap.size w) (h.low.imp fun _ h => h.2) fun _ h e => h.trans (e.mono h.size)
theorem MvF.step {wr w8 : World} {m : Nat} {v v' : Value} {qs : List Prt} {p : Prt} {f : Int → Int} {k : Nat} {x y : Int} (h : MvF w m v qs p f k A c wr) (hk : p.nd.kids[k]? = some x) (hy : f x = y)
    (hr : RowI w8 m v' ((p.nd.kids.take k).map f ++ [y])) (hg : (wr.alloc (.cells #[.int .i64 y] 3)).grownBy w8 (Value.slice A ((p.nd.kids.take k).map f).length c).ownBlock) :
    ∃ A' ln c', v' = .slice A' ln c' ∧ w8.frozen? ⟨m, 6, none⟩ = false ∧ m < w8.heap.size ∧ (∃ z, w8.cell? ⟨m, 6, none⟩ = some z) ∧ MvF w m v qs p f (k + 1) A' c' (w8.setCell ⟨m, 6, none⟩ (.slice A' ln c')) := by
  have HTK : (p.nd.kids.take (k + 1)).map f = (p.nd.kids.take k).map f ++ [y] := by
    obtain ⟨hl', hx'⟩ := List.getElem?_eq_some_iff.1 hk
    rw [List.take_succ_eq_append_getElem hl', List.map_append, hx', List.map_cons, hy]
    rfl
  have HL := h.low
  have HP := h.part
  have HO := h.own
  obtain ⟨xs, hxs⟩ : ∃ xs, (p.nd.kids.take k).map f = xs := ⟨_, rfl⟩
  rw [hxs] at HTK HP HO hr hg
  obtain ⟨A', c', hv', ho'⟩ := hr
  have hbn : some m ≠ (Value.slice A xs.length c).ownBlock := fun he => by
    obtain ⟨cur, h2⟩ := own_obj HO m he.symm
    rw [HP] at h2
    injection h2 with h2
    injection h2 with _ h2
    exact absurd h2 (by decide)
  have hm0 := lt_of_heap HP
  have hm1 : w8.heap[m]? = some (.cells (prtCells ⟨{ p.nd with kids := xs }, A, c⟩).toArray 35) := (hg.block m (by simp; omega) hbn).trans (ext_block HP (by repeat (first | exact Ext.refl _ | refine Ext.alloc ?_ _ | refine Ext.more ?_ _ _ | refine Ext.drew ?_ | refine Ext.drewN ?_ _ | refine Ext.setCell ?_ (by simp <;> omega) _)))
  have hown : ∀ g, (Value.slice A' (xs ++ [y]).length c').ownBlock = some g → g ≠ m := fun g hg he => by
    obtain ⟨cur, h2⟩ := own_obj ho' g hg
    rw [he, hm1] at h2
    injection h2 with h2
    injection h2 with _ h2
    exact absurd h2 (by decide)
  have fm : w8.frozen? ⟨m, 6, none⟩ = false := by simp [World.frozen?, hm1]
  have km := cell_of_row _ _ 6 _ _ _ hm1
  simp [prtCells] at km
  have T0 : Turn (fun k => m ≤ k) wr (wr.alloc (.cells #[.int .i64 y] 3)) := Turn.of_ext (by repeat (first | exact Ext.refl _ | refine Ext.alloc ?_ _ | refine Ext.more ?_ _ _ | refine Ext.drew ?_ | refine Ext.drewN ?_ _ | refine Ext.setCell ?_ (by simp <;> omega) _))
  have T1 : Turn (fun k => m ≤ k) (wr.alloc (.cells #[.int .i64 y] 3)) w8 := Turn.grown hg fun k hk _ => own_block HO k hk
  have T2 : Turn (fun k => m ≤ k) w8 (w8.setCell ⟨m, 6, none⟩ (.slice A' (xs ++ [y]).length c')) := Turn.setCell w8 (p := ⟨m, 6, none⟩) (Nat.le_refl m) _
  have TT := (T0.trans T1).trans T2
  refine ⟨A', (xs ++ [y]).length, c', hv', fm, lt_of_heap hm1, ⟨_, km⟩, HL.below (TT.below (by omega) fun k hk => hk), ?_, ?_⟩
  · rw [HTK]
    simp [World.setCell, Array.getElem?_modify, hm1, prtCells]
  · rw [HTK]
    refine own_keep ho' fun g hg => ?_
    have := hown g hg
    simp [World.setCell, Array.getElem?_modify, Ne.symm this]
theorem RowP.rowQ {base kb : Nat} {v : Value} {qs : List Prt} (h : RowP w base v qs) (hb : kb ≤ base) : RowQ w base kb v qs := by
  obtain ⟨A, c, hv, ho⟩ := h
  exact ⟨A, c, hv, ho.row, fun q hq => (ho.kids q hq).base hb, ho.fine⟩
set_option maxRecDepth 100000 in
set_option maxHeartbeats 4000000 in
theorem rPut_ok (i m : Nat) (h : PS w A c ps) (T : Tree (nds ps)) (hs : PS w B d ss) (T2 : Tree (nds ss)) (hf : FitsP (nds ps) (nds ss) i) (hp : Part (nds ps) i m) :
    Calls Try.prog 43 #[.slice A ps.length c, .int .i64 i, .slice B ss.length d] w (PartsErr w (putF (nds ps) i m (nds ss)) 0) := by
  have CH := Lib.hid (rcheck_ok h T)
  have CS := Lib.hid (fun w1 (x : Ext w w1) => rcheck_ok (hs.ext x) T2)
  have HL := h.few.len
  have HL2 := hs.few.len
  have hs0 := T2.pos
  rw [nds_length] at hs0
  have hjl := hp.lt
  have hme := hp.lt_end
  have hml := hp.le
  rw [nds_length] at hjl hml
  have HS := Lib.hid hs
  have H := Lib.hid h
  have hcp := h.cap
  have htp := h.top
  have hdp := hs.cap
  have hdt := hs.top
  have HP := Lib.hid hp
  have HT := Lib.hid T
  have HT2 := Lib.hid T2
  obtain ⟨i', p, q, hi', hpi, hq0, f1, f2, f3, f4⟩ := hf
  obtain rfl : i = i' := by omega
  obtain ⟨pp, hpp, rfl⟩ := nds_get' hpi
  obtain ⟨qq, hqq, rfl⟩ := nds_get' hq0
  have CE := Lib.hid (fun (V : World) (x : Ext w V) => by
    obtain ⟨ok, m', ht⟩ := trek_all (nds ps) ps.length pp.nd.kids (i + 1) (by rw [nds_length]; omega)
    have := rend_any A c ps ps.length i m' ok pp V (h.ext x) (by omega) hpp ht
    rw [endR_tree T (nds_get hpp) hp ht] at this
    exact this)
  obtain ⟨b1, o1, rfl, hb1, hc1⟩ := h.parts (by omega)
  obtain ⟨b2, o2, rfl, hb2, hc2⟩ := hs.parts (by omega)
  obtain ⟨x0, x1, x2, _, x4, _⟩ := hc1 i pp hpp
  obtain ⟨y0, y1, y2, _, y4, _⟩ := hc2 0 qq hqq
  simp only [Nat.zero_mul, Nat.add_zero] at y0 y1 y2 y4
  rw [f1] at x0
  rw [f2] at x1
  rw [f3] at x2
  rw [f4] at x4
  clear h T hs T2 hp hc1 hc2 hi' hpi hq0 hpp hqq f1 f2 f3 f4
  go_enter Try.func43, Try.ntmps43
  go_wp2_with fail
  refine CH.out.mono ?_
  rintro e w3 ⟨rfl, hx3⟩
  have HX3 := Lib.hid hx3
  clear hx3
  go_wp2_with fail
  refine (CS.out _ HX3.out).mono ?_
  rintro e w4 ⟨rfl, hx4⟩
  have HX4 : Hid (Ext w w4) := Lib.hid (HX3.out.trans hx4)
  have z0 := (HX4.out.below.cell (p := ⟨b1, o1 + i * 8, none⟩) hb1).trans x0
  have z1 := (HX4.out.below.cell (p := ⟨b1, o1 + i * 8 + 1, none⟩) hb1).trans x1
  have z2 := (HX4.out.below.cell (p := ⟨b1, o1 + i * 8 + 2, none⟩) hb1).trans x2
  have z4 := (HX4.out.below.cell (p := ⟨b1, o1 + i * 8 + 4, none⟩) hb1).trans x4
  have u0 := (HX4.out.below.cell (p := ⟨b2, o2, none⟩) hb2).trans y0
  have u1 := (HX4.out.below.cell (p := ⟨b2, o2 + 1, none⟩) hb2).trans y1
  have u2 := (HX4.out.below.cell (p := ⟨b2, o2 + 2, none⟩) hb2).trans y2
  have u4 := (HX4.out.below.cell (p := ⟨b2, o2 + 4, none⟩) hb2).trans y4
  have hbw1 := Nat.lt_of_lt_of_le hb1 HX4.out.size
  have hbw2 := Nat.lt_of_lt_of_le hb2 HX4.out.size
  have g0 : decide ((i : Int) < 0) = false := decide_eq_false (by omega)
  have g1 : decide (ps.length ≤ i) = false := decide_eq_false (by omega)
  clear hx4 x0 x1 x2 x4 y0 y1 y2 y4 HX3 CH CS
  go_upto_region 6 with fail
  go_quiet (fail)
  clear z0 z1 z2 z4 u0 u1 u2 u4 g0 g1 hbw1 hbw2
  have X5 : Hid (Ext w (w4.drewN nq)) := Lib.hid (HX4.out.trans (by repeat (first | exact Ext.refl _ | refine Ext.alloc ?_ _ | refine Ext.more ?_ _ _ | refine Ext.drew ?_ | refine Ext.drewN ?_ _ | refine Ext.setCell ?_ (by simp <;> omega) _)))
  go_wp2_with fail
  refine (CE.out _ X5.out).mono ?_
  rintro e w6 ⟨rfl, hx6⟩
  have X6 : Hid (Ext w w6) := Lib.hid (X5.out.trans hx6)
  clear hx6 X5 HX4 CE
  obtain ⟨By, hBy⟩ : ∃ By : Int, (ss.length : Int) - ((m : Int) - (i : Int)) = By := ⟨_, rfl⟩
  have hByb : -1000 ≤ By ∧ By ≤ 1000 := by omega
  have HBy := Lib.hid hBy
  go_upto_region 12 with fail
  clear hBy
  have AH : Hid (∀ p ∈ ps, ∀ x ∈ p.nd.kids, I64 (aheadK (i : Int) By x) ∧ IntKind.i64.wrap (x + By) = x + By ∧ wrap64 (x + By) = x + By) := Lib.hid (by
    intro p hp x hx
    obtain ⟨k, rfl, hk⟩ := HT.out.kidsOk p hp x hx
    refine ⟨by unfold aheadK I64; split <;> omega, IntWalk.i64_in _ (by omega), IntWalk.wrap64_in _ (by omega)⟩)
  go_wp2_with fail
  go_loopw [11, 12] (fun v i' wr => ∃ (j : Nat) (qs : List Prt), j ≤ i ∧ i' = .int .i64 j ∧ Hid (qs.length = j ∧ nds qs = ((nds ps).take j).map (Nd.by (aheadK (i : Int) By))) ∧ Hid (RowP wr w.heap.size v qs) ∧ Hid (Ext w wr)) (fun _ x _ => i - (intOf x).toNat)
  case atStart => exact ⟨0, [], Nat.zero_le _, rfl, Lib.hid ⟨rfl, rfl⟩, Lib.hid ⟨none, 0, rfl, OwnP.nil _ _⟩, X6⟩
  case round =>
    obtain ⟨j, qs, hj, rfl, hq, hr, hx⟩ := hrel
    by_cases hlt : j < i
    · obtain ⟨p, hp⟩ : ∃ p, ps[j]? = some p := ⟨_, List.getElem?_eq_getElem (by omega)⟩
      obtain ⟨b', off', hA', hb, hcell⟩ := (H.out.ext hx.out).parts (by omega)
      injection hA' with hA'
      injection hA' with ea eb
      subst ea eb
      obtain ⟨d0, d1, d2, d3, d4, d5, d6, d7⟩ := hcell j _ hp
      have hpo := H.out.oks.get hp
      have hkn := H.out.few.kids_le (List.mem_of_getElem? hp)
      have HSS : Hid (((nds ps).take (j + 1)).map (Nd.by (aheadK (i : Int) By)) = ((nds ps).take j).map (Nd.by (aheadK (i : Int) By)) ++ [p.nd.by (aheadK (i : Int) By)]) := Lib.hid (by
        have h1 := nds_get hp
        rw [List.getElem?_eq_getElem (by rw [nds_length]; omega)] at h1
        injection h1 with h1
        rw [List.take_succ_eq_append_getElem (by rw [nds_length]; omega), h1, List.map_append]
        rfl)
      have HPO := Lib.hid hpo
      have HPP := Lib.hid hp
      have HFK := Lib.hid (AH.out p (List.mem_of_getElem? hp))
      clear hcell hp hpo
      go_upto_region 18 with fail
      obtain ⟨m2, hm2⟩ : ∃ m2, wr.heap.size = m2 := ⟨_, rfl⟩
      obtain ⟨W4, hW4⟩ : ∃ W4, wr.alloc (.cells #[.int .i64 p.nd.sym, .int .i64 p.nd.kind, .int .i64 p.nd.lo, .int .i64 p.nd.inn, .int .i64 p.nd.hi, .int .i64 p.nd.look, .slice none 0 0, .int .u64 p.nd.met] 35) = W4 := ⟨_, rfl⟩
      have X4 : Ext wr W4 := by rw [← hW4]; exact (by repeat (first | exact Ext.refl _ | refine Ext.alloc ?_ _ | refine Ext.more ?_ _ _ | refine Ext.drew ?_ | refine Ext.drewN ?_ _ | refine Ext.setCell ?_ (by simp <;> omega) _))
      have P4 : W4.heap[m2]? = some (.cells (prtCells ⟨{ p.nd with kids := (p.nd.kids.take 0).map (aheadK (i : Int) By) }, none, 0⟩).toArray 35) := by
        rw [← hW4, ← hm2]
        exact heap_alloc_new _ _
      have MV0 : Hid (MvF w m2 u11 qs p (aheadK (i : Int) By) 0 none 0 W4) := Lib.hid ⟨⟨wr, hm2, (X4.below).mono (by omega), hr.out, hx.out.below⟩, P4, World.ownsRow_nil _ _ _ _⟩
      have HWM : Hid (w.heap.size ≤ m2) := Lib.hid (by have := hx.out.size; omega)
      obtain ⟨wr0, hwr0⟩ : ∃ wr0 : World, wr0.heap.size = m2 := ⟨wr, hm2⟩
      have HWR := Lib.hid hwr0
      rw [hm2, hW4]
      clear hW4 X4 P4 d0 d1 d2 d3 d4 d5 d6 d7 hwr0 hm2
      go_wp2_with fail
      go_loopw [14, 15] (fun v _ wr2 => ∃ (k : Nat) (A2 : Option Addr) (c2 : Nat), k ≤ p.nd.kids.length ∧ v = .int .i64 k ∧ Hid (MvF w m2 u11 qs p (aheadK (i : Int) By) k A2 c2 wr2)) (fun v _ _ => p.nd.kids.length - (intOf v).toNat)
      case atStart => exact ⟨0, none, 0, Nat.zero_le _, rfl, MV0⟩
      case round =>
        obtain ⟨k, A2, c2, hk, rfl, hmv⟩ := hrel
        obtain ⟨b', off', hA', hb', hcell⟩ := (H.out.parts.below hmv.out.below) (by omega)
        injection hA' with hA'
        injection hA' with ea eb
        subst ea eb
        have d6 := (hcell j p HPP.out).2.2.2.2.2.2.1
        obtain ⟨ly, y0, y1, y2, y3, y4, y5, y6, y7⟩ := part_cells hmv.out.part
        have f6 : wr.frozen? ⟨m2, 6, none⟩ = false := by simp [World.frozen?, hmv.out.part]
        have ko1 := HPO.out.cap
        have ko2 := HPO.out.top
        clear hcell
        by_cases hkl : k < p.nd.kids.length
        · obtain ⟨x, hxk⟩ : ∃ x, p.nd.kids[k]? = some x := ⟨_, List.getElem?_eq_getElem hkl⟩
          obtain ⟨bk, offk, hkA, hbk, hck⟩ := (HPO.out.below hmv.out.below).kids (by omega)
          have e1 := hck k hkl
          rw [List.getD_eq_getElem?_getD, hxk] at e1
          dsimp only [Option.getD_some] at e1
          obtain ⟨y, hy⟩ : ∃ y, aheadK (i : Int) By x = y := ⟨_, rfl⟩
          obtain ⟨_, w1, w2⟩ := HFK.out x (List.mem_of_getElem? hxk)
          have HC : ((i : Int) < x ∧ wrap64 (x + By) = y) ∨ (¬ (i : Int) < x ∧ y = x) := by
            unfold aheadK at hy
            split at hy
            · rename_i h; exact .inl ⟨h, w2.trans hy⟩
            · rename_i h; exact .inr ⟨h, hy.symm⟩
          obtain ⟨xs, hxs⟩ : ∃ xs, (p.nd.kids.take k).map (aheadK (i : Int) By) = xs := ⟨_, rfl⟩
          have hxl : xs.length = k := by rw [← hxs, List.length_map, List.length_take]; omega
          have HK := Lib.hid (fun (v' : Value) (w8 : World) (hr : RowI w8 wr0.heap.size v' (xs ++ [y])) (hg : (wr.alloc (.cells #[.int .i64 y] 3)).grownBy w8 (Value.slice A2 xs.length c2).ownBlock) => hmv.out.step hxk hy (v' := v') (w8 := w8) (by rw [hxs, ← HWR.out]; exact hr) (by rw [hxs]; exact hg))
          have HR2 := Lib.hid (show RowI (wr.alloc (.cells #[.int .i64 y] 3)) wr0.heap.size (.slice A2 xs.length c2) xs from ⟨A2, c2, rfl, by rw [HWR.out, ← hxs]; exact hmv.out.own.ext (by repeat (first | exact Ext.refl _ | refine Ext.alloc ?_ _ | refine Ext.more ?_ _ _ | refine Ext.drew ?_ | refine Ext.drewN ?_ _ | refine Ext.setCell ?_ (by simp <;> omega) _))⟩)
          have HBS : Hid (wr0.heap.size ≤ (wr.alloc (.cells #[.int .i64 y] 3)).heap.size) := Lib.hid (by rw [HWR.out, World.size_alloc]; omega)
          have HXL : Hid (xs.length ≤ 1000000) := Lib.hid (by omega)
          change wr.cell? ⟨m2, 6, none⟩ = some (.slice A2 ((p.nd.kids.take k).map (aheadK (i : Int) By)).length c2) at y6
          rw [hxs] at y6
          rw [hkA] at d6
          clear hck hxk hkA hxs hxl hmv y0 y1 y2 y3 y4 y5 y7 hy w1 w2
          rcases HC with ⟨hc1, hc2⟩ | ⟨hc1, rfl⟩
          all_goals
            go_upto_region 24 with fail
            go_wp2_with (at_builtin; refine app_intO wr0 (by rfl) (.tmp 130) (.tmp 132) rfl HR2.out y wr.heap.size rfl rfl (by simp) (by simp [go_sem]) HXL.out HBS.out ?_; intro v8 w8 hr8 hg8 hb8; obtain ⟨A8, ln8, c8, rfl, q1, q2, ⟨z, q3⟩, hmv8⟩ := HK.out v8 w8 hr8 hg8; have HMV := Lib.hid hmv8; clear hr8 hg8 hb8 hmv8)
            go_roundw
            case rel => exact ⟨k + 1, A8, c8, by omega, by go_num, HMV⟩
            case measure => simp [intOf]; omega
        · obtain rfl : k = p.nd.kids.length := by omega
          have HR2 := Lib.hid hmv.out.rowP
          have HX2 : Hid (Ext w wr) := Lib.hid (Ext.of_below hmv.out.below)
          have hkk : (p.nd.kids.take p.nd.kids.length).map (aheadK (i : Int) By) = (p.nd.by (aheadK (i : Int) By)).kids := by rw [List.take_of_length_le (Nat.le_refl _)]; rfl
          have HO2 : Hid (OwnI wr w.heap.size A2 c2 (p.nd.by (aheadK (i : Int) By)).kids) := Lib.hid (hkk ▸ hmv.out.own.base HWM.out)
          have HPM : Hid (wr.heap[m2]? = some (.cells (prtCells ⟨p.nd.by (aheadK (i : Int) By), A2, c2⟩).toArray 35)) := Lib.hid (by have := hmv.out.part; rw [hkk] at this; exact this)
          have HLQ : Hid (qs.length ≤ 1000000) := Lib.hid (by have := hq.out.1; omega)
          have HFN : Hid (FineP ⟨p.nd.by (aheadK (i : Int) By), A2, c2⟩) := by
            have hf := HPO.out.fine
            exact ⟨hf.sym, hf.kind, hf.lo, hf.inn, hf.hi, hf.look, hf.met, fun k hk => by
              obtain ⟨x, hx, rfl⟩ := List.mem_map.1 hk
              exact (HFK.out x hx).1⟩
          clear hkk hmv y0 y1 y2 y3 y4 y5 y6 y7 f6
          obtain ⟨_, y0, y1, y2, y3, y4, y5, y6, y7⟩ := part_cells HPM.out
          go_wp2_with (at_builtin; refine app_part w (by rfl) (.tmp 135) (.tmp 137) rfl (HR2.out.ext (by repeat (first | exact Ext.refl _ | refine Ext.alloc ?_ _ | refine Ext.more ?_ _ _ | refine Ext.drew ?_ | refine Ext.drewN ?_ _ | refine Ext.setCell ?_ (by simp <;> omega) _))) ⟨p.nd.by (aheadK (i : Int) By), A2, c2⟩ wr.heap.size rfl rfl (cells_lit _ _ _ _ _ rfl (by simp [prtCells, Nd.by])) (HO2.out.ext (by repeat (first | exact Ext.refl _ | refine Ext.alloc ?_ _ | refine Ext.more ?_ _ _ | refine Ext.drew ?_ | refine Ext.drewN ?_ _ | refine Ext.setCell ?_ (by simp <;> omega) _))) HFN.out HLQ.out (HX2.out.trans (by repeat (first | exact Ext.refl _ | refine Ext.alloc ?_ _ | refine Ext.more ?_ _ _ | refine Ext.drew ?_ | refine Ext.drewN ?_ _ | refine Ext.setCell ?_ (by simp <;> omega) _))) ?_; intro v7 w7 hr7 hx7)
          have HR7 := Lib.hid hr7
          have HX7 := Lib.hid hx7
          clear hr7 hx7
          go_roundw
          case rel => exact ⟨j + 1, _, by omega, by go_num, Lib.hid ⟨by rw [List.length_append, hq.out.1]; rfl, by rw [HSS.out, ← hq.out.2]; simp [nds]⟩, HR7, HX7⟩
          case measure => simp [intOf]; omega
    · obtain rfl : j = i := by omega
      have KS : Hid (∀ p ∈ ss, ∀ x ∈ p.nd.kids, I64 (x + (j : Int))) := Lib.hid (by
        intro p hp x hx
        obtain ⟨k, rfl, hk⟩ := HT2.out.kidsOk p hp x hx
        unfold I64
        omega)
      have KB : Hid (∀ p ∈ (ps.drop m).take (ps.length - m), ∀ x ∈ p.nd.kids, I64 (x + By)) := Lib.hid (by
        intro p hp x hx
        obtain ⟨k, rfl, hk⟩ := HT.out.kidsOk p (List.mem_of_mem_drop (List.mem_of_mem_take hp)) x hx
        unfold I64
        omega)
      have HRQ : Hid (RowQ wr w.heap.size w.heap.size u11 qs) := Lib.hid (hr.out.rowQ (Nat.le_refl _))
      have HQL : Hid (qs.length = j) := Lib.hid hq.out.1
      have CM1 := Lib.hid (rmoved_any (j : Int) (some ⟨b2, o2, none⟩) d ss wr (HS.out.parts.ext hx.out) (HS.out.oks.ext hx.out) HS.out.few hdp KS.out)
      obtain ⟨A9, hA9⟩ : ∃ A9 : Option Addr, (if c = m then (some ⟨b1, o1, none⟩ : Option Addr) else some ⟨b1, o1 + m * 8, none⟩) = A9 := ⟨_, rfl⟩
      have P9 : Hid (Prts w A9 ((ps.drop m).take (ps.length - m))) := Lib.hid (by
        rw [← hA9]
        split
        · rename_i hcm
          have : (ps.drop m).take (ps.length - m) = [] := by rw [List.drop_eq_nil_of_le (by omega), List.take_nil]
          rw [this]
          exact Prts.nil
        · exact H.out.parts.slice m (ps.length - m))
      go_wp2_with fail
      refine CM1.out.mono ?_
      rintro e w7 ⟨A7, c7, q7, rfl, hn7, ho7, hx7⟩
      have HR7 := Lib.hid (HRQ.out.ext hx7)
      have HX7 := Lib.hid (hx.out.trans hx7)
      have HN7 := Lib.hid hn7
      have HO7 := Lib.hid (ho7.base hx.out.size)
      have l7 : q7.length = ss.length := by have := congrArg List.length hn7; simpa [nds_length] using this
      have HL7 : Hid (qs.length + q7.length ≤ 1000000) := Lib.hid (by rw [HQL.out, l7]; omega)
      have HLL := Lib.hid l7
      clear hn7 ho7 hx7 l7 CM1
      go_wp2_with (at_builtin; refine app_parts w w.heap.size (by rfl) (.tmp 139) (.tmp 142) rfl HR7.out q7 A7 c7 rfl rfl HO7.out.cells.2.2.2 HO7.out.cells.1 HO7.out.kids HO7.out.fine HL7.out HX7.out ?_; intro v8 w8 hr8 hx8; have HR8 := Lib.hid hr8; have HX8 := Lib.hid hx8; clear hr8 hx8)
      have CM2 := rmoved_any By A9 (c - m) ((ps.drop m).take (ps.length - m)) w8 (P9.out.ext HX8.out) ((H.out.oks.slice m (ps.length - m)).ext HX8.out) (H.out.few.slice m (ps.length - m)) (by rw [List.length_take, List.length_drop]; omega) KB.out
      rw [show ((ps.drop m).take (ps.length - m)).length = ps.length - m by rw [List.length_take, List.length_drop]; omega] at CM2
      have HCM2 := Lib.hid CM2
      clear CM2
      refine HCM2.out.mono ?_
      rintro e w9 ⟨A10, c10, q10, rfl, hn10, ho10, hx10⟩
      have HR10 := Lib.hid (HR8.out.ext hx10)
      have HX10 := Lib.hid (HX8.out.trans hx10)
      have HN10 := Lib.hid hn10
      have HO10 := Lib.hid (ho10.base HX8.out.size)
      have l10 : q10.length = ps.length - m := by have := congrArg List.length hn10; simp [nds_length] at this; omega
      have HL10 : Hid ((qs ++ q7).length + q10.length ≤ 1000000) := Lib.hid (by rw [List.length_append, HQL.out, HLL.out, l10]; omega)
      clear hn10 ho10 hx10 l10 HCM2
      go_wp2_with (at_builtin; refine app_parts w w.heap.size (by rfl) (.tmp 144) (.tmp 149) rfl HR10.out q10 A10 c10 rfl rfl HO10.out.cells.2.2.2 HO10.out.cells.1 HO10.out.kids HO10.out.fine HL10.out HX10.out ?_; intro v11 w11 hr11 hx11; have HR11 := Lib.hid hr11; have HX11 := Lib.hid hx11; clear hr11 hx11)
      obtain ⟨A12, c12, hv12, r1, r2, r3⟩ := HR11.out
      subst hv12
      go_ret2
      refine ⟨A12, c12, _, rfl, ?_, ⟨r1, r2, r3⟩, HX11.out⟩
      have e1 : nds (qs ++ q7 ++ q10) = nds qs ++ (nds q7 ++ nds q10) := by simp [nds]
      rw [e1, hq.out.2, HN7.out, HN10.out]
      unfold putF movedF
      rw [nds_length, HBy.out, nds_take, nds_drop, List.take_of_length_le (l := (nds ps).drop m) (by rw [List.length_drop, nds_length]; omega)]
end
end Go.Proofs.Ytaffaeompdlecaa

/- The contract of the document's Splice (viewportref20). -/
namespace Go.Proofs.Ytaffaeompdlecaa
open Go.RowKit
attribute [local go_sem] more_drew more_drewN more_size more_cell more_frozen more_setCell drew_more drewN_more lt_add_r lt_add_r2 lt_add_r3 lt_add_r4 lt_add_r5 lt_add_r6 lt_add_r7 lt_add_r8 lt_add_r9 lt_add_r10 lt_self_r lt_self_r2

theorem bitsF_moved (d : Int) (l : List Nd) : bitsF (movedF d l) = bitsF l := by
  unfold bitsF movedF
  rw [List.foldl_map]
  rfl
section
variable {A B : Option Addr} {c d : Nat} {ps ss : List Prt} {w : World}
set_option maxRecDepth 100000 in
set_option maxHeartbeats 1000000 in
theorem rsplice_no (i : Int) (v : Value) (h : PS w A c ps) (hs : PS w B d ss) (hn : ¬ FitsT (nds ps) (nds ss) i) :
    Calls Try.prog 81 #[.slice A ps.length c, .int .i64 i, .slice B ss.length d, v] w fun e w' => e = .returned (.tuple #[.slice none 0 0, .slice none 0 0, .int .i64 2]) ∧ Ext w w' := by
  have S := Lib.hid h
  have SS := Lib.hid hs
  have HN := Lib.hid hn
  clear h hs hn
  go_enter Try.func81, Try.ntmps81
  by_cases T : Tree (nds ps)
  · have CH := Lib.hid (rcheck_ok S.out T)
    clear T
    go_wp2_with fail
    refine CH.out.mono ?_
    rintro e w1 ⟨rfl, hx1⟩
    have HX1 := Lib.hid hx1
    clear hx1 CH
    by_cases T2 : Tree (nds ss)
    · have CS := Lib.hid (rcheck_ok (SS.out.ext HX1.out) T2)
      clear T2
      go_wp2_with fail
      refine CS.out.mono ?_
      rintro e w2 ⟨rfl, hx2⟩
      have HX2 := Lib.hid (HX1.out.trans hx2)
      clear hx2 CS
      go_wp2_with fail
      refine (rfits_any i (S.out.ext HX2.out) (SS.out.ext HX2.out)).mono ?_
      rintro e w3 ⟨b, rfl, hb, hx3⟩
      obtain rfl : b = false := by
        cases b with
        | false => rfl
        | true => exact absurd (hb.1 rfl) HN.out
      have HX3 := Lib.hid (HX2.out.trans hx3)
      clear hb hx3
      go_wp2_with fail
      go_ret3
      exact ⟨rfl, HX3.out⟩
    · have CS := Lib.hid (rcheck_no (SS.out.ext HX1.out) T2)
      clear T2
      go_wp2_with fail
      refine CS.out.mono ?_
      rintro e w2 ⟨rfl, hx2⟩
      have HX2 := Lib.hid (HX1.out.trans hx2)
      clear hx2 CS
      go_wp2_with fail
      go_ret3
      exact ⟨rfl, HX2.out⟩
  · have CH := Lib.hid (rcheck_no S.out T)
    clear T
    go_wp2_with fail
    refine CH.out.mono ?_
    rintro e w1 ⟨rfl, hx1⟩
    have HX1 := Lib.hid hx1
    clear hx1 CH
    go_wp2_with fail
    go_ret3
    exact ⟨rfl, HX1.out⟩
set_option maxRecDepth 100000 in
set_option maxHeartbeats 4000000 in
theorem rsplice_yes (i : Int) (J : Option Addr) (cj : Nat) (js : List Dty) (h : PS w A c ps) (hs : PS w B d ss) (hf : FitsT (nds ps) (nds ss) i) (hj : JobsAt w J js) (hjl : js.length ≤ 1000) (_ : js.length ≤ cj) :
    Calls Try.prog 81 #[.slice A ps.length c, .int .i64 i, .slice B ss.length d, .slice J js.length cj] w (SpliceRet w (nds ps) (nds ss) i js) := by
  have HLN := h.few.len
  have S := Lib.hid h
  have SS := Lib.hid hs
  have HJ := Lib.hid hj
  have HF := Lib.hid hf
  obtain ⟨T, T2, hf0⟩ := hf
  have hin := hf0.in
  rw [nds_length] at hin
  obtain ⟨k, rfl⟩ : ∃ k : Nat, i = (k : Int) := ⟨i.toNat, by omega⟩
  have hkl : k < ps.length := by omega
  obtain ⟨m, hpart⟩ := T.part (i := k) (by rw [nds_length]; exact hkl)
  have hme := hpart.le
  have hmk := hpart.lt_end
  rw [nds_length] at hme
  have HT := Lib.hid T
  have HT2 := Lib.hid T2
  have HPT := Lib.hid hpart
  have HFP := Lib.hid hf0
  have hcap := S.out.cap
  have htop := S.out.top
  clear h hs hj T T2 hf0 hpart hin
  go_enter Try.func81, Try.ntmps81
  go_wp2_with fail
  refine (rcheck_ok S.out HT.out).mono ?_
  rintro e w1 ⟨rfl, hx1⟩
  have HX1 := Lib.hid hx1
  clear hx1
  go_wp2_with fail
  refine (rcheck_ok (SS.out.ext HX1.out) HT2.out).mono ?_
  rintro e w2 ⟨rfl, hx2⟩
  have HX2 := Lib.hid (HX1.out.trans hx2)
  clear hx2 HX1
  go_wp2_with fail
  refine (rfits_any (k : Int) (S.out.ext HX2.out) (SS.out.ext HX2.out)).mono ?_
  rintro e w3 ⟨b, rfl, hb, hx3⟩
  obtain rfl := hb.2 HF.out
  have HX3 := Lib.hid (HX2.out.trans hx3)
  clear hb hx3 HX2
  go_wp2_with fail
  refine (rsub_yes k m (S.out.ext HX3.out) HT.out HPT.out).mono ?_
  rintro e w4 ⟨A4, c4, rs, rfl, hn4, ho4, hx4⟩
  have HX4 := Lib.hid (HX3.out.trans hx4)
  have hrl : rs.length ≤ 1000000 := by rw [← nds_length, hn4, len_sub HPT.out.le]; omega
  have CB := rbitsP_any A4 c4 rs w4 ho4.cells.1 hrl
  obtain ⟨B0, hB0⟩ : ∃ B0, bitsF (((nds ps).drop k).take (m - k)) = B0 := ⟨_, rfl⟩
  rw [hn4, show bitsF (subF (nds ps) k m) = B0 by unfold subF; rw [bitsF_moved, hB0]] at CB
  have HCB := Lib.hid CB
  have HB0 := Lib.hid hB0
  clear CB hB0 hn4 ho4 hx4 hrl HX3
  go_wp2_with fail
  refine HCB.out.mono ?_
  rintro e w5 ⟨rfl, hx5⟩
  have HX5 := Lib.hid (HX4.out.trans hx5)
  clear hx5 HX4 HCB
  go_wp2_with fail
  go_loopw [12, 13, 14] (fun x v i wr => ∃ (j : Nat) (fs : List Bool) (L : Int), j ≤ js.length ∧ i = .int .i64 j ∧ x = .int .u64 L ∧ Hid (L = leftL (js.take j) fs B0) ∧ Hid (FlagsOk (nds ps) (k : Int) (js.take j) fs) ∧ Hid (RowI wr w.heap.size v (doneL (js.take j) fs)) ∧ Hid (Ext w wr)) (fun _ _ i _ => js.length - (intOf i).toNat)
  case atStart => exact ⟨0, [], B0, Nat.zero_le _, rfl, rfl, Lib.hid rfl, Lib.hid ⟨rfl, fun k d f h => by simp at h⟩, Lib.hid ⟨none, 0, rfl, OwnI.nil _ _⟩, HX5⟩
  case round =>
    obtain ⟨j, fs, L, hj, rfl, rfl, hL, hF, hr, hx⟩ := hrel
    by_cases hlt : j < js.length
    · obtain ⟨dd, hd⟩ : ∃ d, js[j]? = some d := ⟨_, List.getElem?_eq_getElem hlt⟩
      obtain ⟨b, off2, rfl, hb, hcell⟩ := (HJ.out.ext hx.out) (by omega)
      obtain ⟨d0, d1, d2, d3, d4⟩ := hcell j dd hd
      have HTK : Hid (js.take (j + 1) = js.take j ++ [dd]) := Lib.hid (by
        obtain ⟨h1, h2⟩ := List.getElem?_eq_some_iff.1 hd
        rw [List.take_succ_eq_append_getElem h1, h2])
      have hfl : fs.length = j := by have := hF.out.1; rw [List.length_take] at this; omega
      have HD := Lib.hid hd
      have HSN : Hid (∀ f : Bool, (f = true ↔ DoneOk (nds ps) (k : Int) dd) → FlagsOk (nds ps) (k : Int) (js.take (j + 1)) (fs ++ [f])) := Lib.hid fun f hf => by
        rw [HTK.out]
        have hjl : (js.take j).length = j := by rw [List.length_take]; omega
        refine ⟨by simp [hfl, hjl], fun n d' f' h1 h2 => ?_⟩
        rcases Nat.lt_trichotomy n j with h | rfl | h
        · rw [List.getElem?_append_left (by omega)] at h1 h2
          exact hF.out.2 n d' f' h1 h2
        · rw [List.getElem?_append_right (by omega)] at h1 h2
          rw [hjl, Nat.sub_self] at h1
          rw [hfl, Nat.sub_self] at h2
          simp at h1 h2
          subst h1 h2
          exact hf
        · rw [List.getElem?_append_right (by omega), hjl] at h1
          rw [List.getElem?_eq_none (by simp; omega)] at h1
          cases h1
      have HFL := Lib.hid (show fs.length = (js.take j).length by rw [List.length_take]; omega)
      have HDL : Hid ((doneL (js.take j) fs).length ≤ 1000000) := Lib.hid (by have := doneL_length (js.take j) fs; rw [List.length_take] at this; omega)
      have CD := rdone_any (k : Int) dd (S.out.ext hx.out)
      unfold dyV at CD
      have HCD := Lib.hid CD
      have HJA := Lib.hid (fun (V : World) (x : Ext w V) => (HJ.out.ext x))
      clear hcell hd hfl CD
      go_wp2_with fail
      refine HCD.out.mono ?_
      rintro e w7 ⟨f, rfl, hf, hx7⟩
      have HR7 := Lib.hid (hr.out.ext hx7)
      have HX7 := Lib.hid (hx.out.trans hx7)
      have HFN := Lib.hid (HSN.out f hf)
      have k0 := (hx7.below.cell (p := ⟨b, off2 + j * 5, none⟩) hb).trans d0
      have l7 := Nat.lt_of_lt_of_le hb hx7.size
      clear d0 d1 d2 d3 d4 hb hx7 HCD
      cases f with
      | true =>
        obtain ⟨sl1, sl2⟩ := (hf.1 rfl).2.1
        have HDN : Hid (doneL (js.take (j + 1)) (fs ++ [true]) = doneL (js.take j) fs ++ [dd.slot]) := Lib.hid (by rw [HTK.out, doneL_snoc _ _ _ _ HFL.out]; rfl)
        have HLN2 : Hid (leftL (js.take (j + 1)) (fs ++ [true]) B0 = bits .andNot .u64 L (IntKind.u64.wrap (2 ^ dd.slot.toNat))) := Lib.hid (by rw [HTK.out, leftL_snoc _ _ _ _ _ HFL.out, hL.out]; rfl)
        have HK8 : Hid (∀ W8 : World, Ext w W8 → W8.cell? ⟨b, off2 + j * 5, none⟩ = some (.int .i64 dd.slot) ∧ b < W8.heap.size) := Lib.hid fun W8 hx8 => by
          obtain ⟨b', off', hA', hb', hc'⟩ := HJA.out W8 hx8 (by omega)
          injection hA' with hA'
          injection hA' with ea eb
          subst ea eb
          exact ⟨(hc' j dd HD.out).1, hb'⟩
        clear hf
        go_wp2_with (at_builtin; refine app_int w (by rfl) (.tmp 48) (.tmp 54) rfl (HR7.out.ext (by repeat (first | exact Ext.refl _ | refine Ext.alloc ?_ _ | refine Ext.more ?_ _ _ | refine Ext.drew ?_ | refine Ext.drewN ?_ _ | refine Ext.setCell ?_ (by simp <;> omega) _))) dd.slot w7.heap.size rfl rfl (by simp) (by simp [go_sem]) HDL.out (HX7.out.trans (by repeat (first | exact Ext.refl _ | refine Ext.alloc ?_ _ | refine Ext.more ?_ _ _ | refine Ext.drew ?_ | refine Ext.drewN ?_ _ | refine Ext.setCell ?_ (by simp <;> omega) _))) ?_; intro v8 w8 hr8 hg8 hx8; obtain ⟨k8, l8⟩ := HK8.out w8 hx8; have HR8 := Lib.hid hr8; have HX8 := Lib.hid hx8; clear hr8 hx8 hg8)
        go_roundw
        case rel => exact ⟨j + 1, fs ++ [true], _, by omega, by go_num, rfl, Lib.hid HLN2.out.symm, HFN, by rw [HDN.out]; exact HR8, HX8⟩
        case measure => simp [intOf]; omega
      | false =>
        have HDN : Hid (doneL (js.take (j + 1)) (fs ++ [false]) = doneL (js.take j) fs) := Lib.hid (by rw [HTK.out, doneL_snoc _ _ _ _ HFL.out]; simp)
        have HLN2 : Hid (leftL (js.take (j + 1)) (fs ++ [false]) B0 = L) := Lib.hid (by rw [HTK.out, leftL_snoc _ _ _ _ _ HFL.out, hL.out]; rfl)
        clear hf
        go_wp2_with fail
        go_roundw
        case rel => exact ⟨j + 1, fs ++ [false], L, by omega, by go_num, rfl, Lib.hid HLN2.out.symm, HFN, by rw [HDN.out]; exact HR7, HX7⟩
        case measure => simp [intOf]; omega
    · obtain rfl : j = js.length := by omega
      rw [List.take_length] at hL hF hr
      obtain ⟨D9, c9, rfl, ho9⟩ := hr.out
      have HO9 := Lib.hid ho9
      have HDL : Hid ((doneL js fs).length ≤ 1000000) := Lib.hid (by have := doneL_length js fs; omega)
      clear ho9 hr
      go_wp2_with fail
      refine (rParents_yes (S.out.ext hx.out) HT.out).mono ?_
      rintro e w8 ⟨us, hus, A3, c3, rfl, ho3, hx8⟩
      have HX8 := Lib.hid (hx.out.trans hx8)
      have hul : us.length = ps.length := by rw [hus.1, nds_length]
      obtain ⟨u, hu⟩ : ∃ u, us[k]? = some u := ⟨_, List.getElem?_eq_getElem (by omega)⟩
      obtain ⟨bU, offU, hA3, hbU, hcU⟩ := ho3.ints.1 (by omega)
      have oc1 := ho3.ints.2.1
      have oc2 := ho3.ints.2.2.1
      unfold maxLen at oc2
      have e1 := hcU k (by omega)
      rw [List.getD_eq_getElem?_getD, hu] at e1
      dsimp only [Option.getD_some] at e1
      subst hA3
      rw [hul] at oc1 ⊢
      have HUS := Lib.hid hus
      have HU := Lib.hid hu
      have HI8 := Lib.hid (HO9.out.ext hx8)
      clear hul hcU ho3 hx8
      go_wp2_with fail
      refine (rPut_ok k m (S.out.ext HX8.out) HT.out (SS.out.ext HX8.out) HT2.out HFP.out HPT.out).mono ?_
      rintro e w7 ⟨A2, c2, qs, rfl, hn, ho, hx7⟩
      have HX7 := Lib.hid (HX8.out.trans hx7)
      have HI7 := Lib.hid (HI8.out.ext hx7)
      have HO := Lib.hid (ho.base HX8.out.size)
      have HN := Lib.hid hn
      clear hn ho hx7 e1 hbU oc1 oc2
      by_cases hk0 : k = 0
      · obtain rfl : u = -1 := by
          have := HUS.out.2.1
          rw [← hk0, HU.out] at this
          exact Option.some.inj this
        have HNN : Hid (nds qs = orAt (putF (nds ps) k m (nds ss)) (-1) (leftL js fs (bitsF (((nds ps).drop k).take (m - k))))) := Lib.hid (by rw [orAt, if_neg (by omega)]; exact HN.out)
        clear hk0
        go_wp2_with fail
        go_ret3
        exact ⟨k, m, us, -1, fs, A2, c2, qs, D9, c9, rfl, HPT.out, HUS.out, HU.out, hF.out, rfl, HNN.out, HO.out, HI7.out, HX7.out⟩
      · obtain ⟨j', hup, hj'⟩ := HT.out.up' (i := k) (by omega) (by rw [nds_length]; exact hkl)
        obtain rfl : u = (j' : Int) := by
          have := HUS.out.2.2 k j' hup
          rw [HU.out] at this
          exact Option.some.inj this
        have hql : k ≤ qs.length := by
          have := congrArg List.length HN.out
          rw [nds_length] at this
          rw [this]
          unfold putF
          rw [List.length_append, List.length_map, List.length_take, nds_length]
          omega
        obtain ⟨q, hq⟩ : ∃ q, qs[j']? = some q := ⟨_, List.getElem?_eq_getElem (by omega)⟩
        obtain ⟨g, rfl, hg1, hg2⟩ := row_block HO.out.row (by omega)
        have hat := HO.out.at hq
        have d7 := hat.met
        have f7 := hat.frozen (j' * 8 + 7)
        have lg := hat.lt
        have qc1 := HO.out.cells.2.1
        have qc2 := HO.out.cells.2.2.1
        unfold maxLen at qc2
        have HQ := Lib.hid hq
        have hjq : j' < qs.length := by omega
        have HNN : Hid (nds (qs.set j' ⟨{ q.nd with met := bits .or .u64 q.nd.met L }, q.kA, q.kc⟩) = orAt (putF (nds ps) k m (nds ss)) (j' : Int) (leftL js fs (bitsF (((nds ps).drop k).take (m - k))))) := Lib.hid (by
          rw [← HN.out, orAt_set _ (nds_get hq), nds_put, HB0.out, ← hL.out])
        have HFQ := Lib.hid (HO.out.fine q (List.mem_of_getElem? hq))
        clear hat hq hup hk0
        go_wp2_with fail
        go_ret3
        have f0 := HFQ.out
        exact ⟨k, m, us, j', fs, _, c2, qs.set j' ⟨{ q.nd with met := bits .or .u64 q.nd.met L }, q.kA, q.kc⟩, D9, c9, rfl, HPT.out, HUS.out, HU.out, hF.out, by rw [List.length_set]; rfl, HNN.out,
          HO.out.put HQ.out (by omega) rfl ⟨rfl, rfl, rfl⟩ ⟨f0.sym, f0.kind, f0.lo, f0.inn, f0.hi, f0.look, bits_u64 .or q.nd.met L, f0.ks⟩, setCell_keep HI7.out HO.out.row, HX7.out.setCell (by show w.heap.size ≤ g; omega) _⟩
end
end Go.Proofs.Ytaffaeompdlecaa
