/- Own, Serve, Ticked of jobs. -/
import Derived.Test.YtmgpofdmfmeljaaJp
import Derived.WalkSpells
import Derived.WalkLawsBesides
import Derived.BigRegion
import Derived.Deep.RegionWith
import Derived.Deep.QuietTactic
import Derived.Deep.DeepCutAuto
import Derived.Deep.RegionHeld3
import Derived.Deep.RegionLaw
import Derived.BigQuiet
import Derived.Lib.Hide
namespace Go.Proofs.Ytmgpofdmfmeljaa
open Go.RowKit Go.Maps
attribute [local go_sem] more_drew more_drewN more_size more_cell more_frozen more_setCell drew_more drewN_more lt_add_r lt_add_r2 lt_add_r3 lt_add_r4 lt_add_r5 lt_add_r6 lt_add_r7 lt_add_r8 lt_add_r9 lt_add_r10 lt_self_r lt_self_r2

set_option maxRecDepth 100000 in
set_option maxHeartbeats 2000000 in
theorem ownj_any (A : Option Addr) (c : Nat) (ds : List Dt) (w : World) (h : Jobs w A ds) (hn : A = none → c = 0) (hl : ds.length ≤ 100000) :
    Calls Try.prog 8 #[.slice A ds.length c] w (JobsRet w ds) := by
  have HC : Hid (CellsAt w A (dv ds)) := Lib.hid h.cells
  have HN := Lib.hid hn
  have HE : Hid (OwnD (w.alloc (.cells #[] 31)) w.heap.size (some ⟨w.heap.size, 0, none⟩) 0 []) := Lib.hid (own_lit w w.heap.size _ 5 _ 0 _ rfl (Nat.le_refl _) rfl (by unfold maxLen; omega))
  clear h hn
  go_enter Try.func8, Try.ntmps8
  go_wp2_with (at_builtin; refine app_job w (by rfl) (.tmp 3) (.tmp 4) rfl (ds := []) ⟨_, 0, rfl, HE.out⟩ _ _ c ds rfl rfl rfl HN.out (HC.out.ext (by repeat (first | exact Ext.refl _ | refine Ext.alloc ?_ _ | refine Ext.more ?_ _ _ | refine Ext.drew ?_ | refine Ext.drewN ?_ _ | refine Ext.setCell ?_ (by simp <;> omega) _))) (by simp; omega) (by repeat (first | exact Ext.refl _ | refine Ext.alloc ?_ _ | refine Ext.more ?_ _ _ | refine Ext.drew ?_ | refine Ext.drewN ?_ _ | refine Ext.setCell ?_ (by simp <;> omega) _)) ?_; intro v7 w7 hr7 hx7)
  obtain ⟨A7, c7, rfl, ho7⟩ := hr7
  have HO7 := Lib.hid ho7
  clear ho7
  simp only [List.nil_append] at HO7
  go_ret
  exact ⟨A7, c7, rfl, HO7.out, hx7⟩
def serveF (n : Int) (d : Dt) : Dt := if d.slot = n then { d with age := 0 } else d
def tickF (S : Int → Bool) (d : Dt) : Dt := if S d.slot then { d with age := 0 } else if d.age < 1000000 then { d with age := d.age + 1 } else d
set_option maxRecDepth 100000 in
set_option maxHeartbeats 2000000 in
theorem serve_any (A : Option Addr) (c : Nat) (ds : List Dt) (n : Int) (w : World) (h : Jobs w A ds) (hn : A = none → c = 0) (hl : ds.length ≤ 100000) :
    Calls Try.prog 12 #[.slice A ds.length c, .int .i64 n] w (JobsRet w (ds.map (serveF n))) := by
  have CC := Lib.hid (clonej_any A c ds w h hn hl)
  clear h hn
  go_enter Try.func12, Try.ntmps12
  go_wp2_with fail
  refine CC.out.mono ?_
  rintro e w1 ⟨A1, c1, rfl, ho, hx⟩
  have HO := Lib.hid ho
  have HX := Lib.hid hx
  clear ho hx CC
  go_wp2_with fail
  go_loopw [6, 11] (fun _ i wr => ∃ k : Nat, k ≤ ds.length ∧ i = .int .i64 k ∧ Hid (OwnD wr w.heap.size A1 c1 (upTo (serveF n) ds k)) ∧ Hid (Ext w wr)) (fun _ i _ => ds.length - (intOf i).toNat)
  case atStart => exact ⟨0, Nat.zero_le _, rfl, Lib.hid (by rw [upTo_zero]; exact HO.out), HX⟩
  case round =>
    obtain ⟨k, hk, rfl, ho, hx⟩ := hrel
    clear HO HX
    by_cases hlt : k < ds.length
    · obtain ⟨g, rfl, hg1, hg2, hg3⟩ := ho.out.at (by rw [upTo_length]; omega)
      obtain ⟨b, off, hA, _, hcl⟩ := ho.out.jobs.1 (by rw [upTo_length]; omega)
      injection hA with hA
      injection hA with ha1 ha2
      subst ha1 ha2
      obtain ⟨x0, x1, x2, x3, x4⟩ := hcl k (by rw [upTo_length]; omega)
      rw [upTo_get _ hlt] at x0 x1 x2 x3 x4
      obtain ⟨d, hd⟩ : ∃ d, ds.getD k d0 = d := ⟨_, rfl⟩
      rw [hd] at x0 x1 x2 x3 x4
      have hf := hg3 (k * 5 + 3)
      have hul : k < (upTo (serveF n) ds k).length := by rw [upTo_length]; omega
      have HSet := Lib.hid (ho.out.age hul 0)
      rw [upTo_get _ hlt, hd] at HSet
      simp only [Nat.zero_add] at x0 x1 x2 x3 x4
      have HG1 := Lib.hid hg1
      by_cases hn : d.slot = n
      · have q : (d.slot == n) = true := by simp [hn]
        have HK := Lib.hid (upTo_step (serveF n) hlt)
        have HF : Hid (serveF n d = { d with age := 0 }) := Lib.hid (if_pos hn)
        rw [hd, HF.out] at HK
        clear hcl hd hn hul hg3 HF hg1
        go_wp2_with fail
        go_roundw
        case rel => exact ⟨k + 1, by omega, by go_num, Lib.hid (by rw [← HK.out]; exact HSet.out), Lib.hid (hx.out.setCell HG1.out _)⟩
        case measure => simp [intOf]; omega
      · have q : (d.slot == n) = false := by simp [hn]
        have HK := Lib.hid (upTo_same (serveF n) hlt (by rw [hd]; exact if_neg hn))
        clear hcl hd hn hul hg3 HSet hg1
        go_wp2_with fail
        go_roundw
        case rel => exact ⟨k + 1, by omega, by go_num, Lib.hid (by rw [HK.out]; exact ho.out), hx⟩
        case measure => simp [intOf]; omega
    · obtain rfl : k = ds.length := by omega
      have h0 := ho.out
      rw [upTo_all] at h0
      have hl2 : (ds.map (serveF n)).length = ds.length := List.length_map _
      have HO := Lib.hid h0
      have HL := Lib.hid hl2
      clear ho h0 hl2
      go_wp2_with fail
      go_ret
      exact ⟨A1, c1, by rw [HL.out]; rfl, HO.out, hx.out⟩
def servedF (xs : List Int) (y : Int) : Int := if y ∈ xs then 1 else 0
theorem servedF_snoc (xs : List Int) (x : Int) : (fun y => if y = x then 1 else servedF xs y) = servedF (xs ++ [x]) := by
  funext y
  unfold servedF
  by_cases h : y = x
  · simp [h]
  · simp [h]
set_option maxRecDepth 100000 in
set_option maxHeartbeats 4000000 in
theorem ticked_any (A B : Option Addr) (c e : Nat) (ds : List Dt) (xs : List Int) (w : World) (h : Jobs w A ds) (hn : A = none → c = 0) (hl : ds.length ≤ 100000) (hx : Ints w B xs) (hxl : xs.length ≤ 100000)
    (hd : ∀ d ∈ ds, -9223372036854775808 ≤ d.slot ∧ d.slot ≤ 9223372036854775807 ∧ -9223372036854775808 ≤ d.age) (hxb : ∀ x ∈ xs, -9223372036854775808 ≤ x ∧ x ≤ 9223372036854775807) :
    Calls Try.prog 11 #[.slice A ds.length c, .slice B xs.length e] w (JobsRet w (ds.map (tickF fun y => decide (y ∈ xs)))) := by
  have CC := Lib.hid (fun W hE => clonej_any A c ds W (h.ext hE) hn hl)
  have HX := Lib.hid hx
  have HD := Lib.hid hd
  have HXB := Lib.hid hxb
  clear h hn hx hd hxb
  have hmm := @run_makeMap Try.prog
  go_enter Try.func11, Try.ntmps11
  go_wp2_with fail
  obtain ⟨b, hb⟩ : ∃ b, w.heap.size = b := ⟨_, rfl⟩
  obtain ⟨W1, hW1⟩ : ∃ W1, w.alloc (.map #[] 0) = W1 := ⟨_, rfl⟩
  have M1 : Hid (MapI W1 b 0 (servedF [])) := Lib.hid (by rw [← hW1, ← hb]; exact MapI.made w)
  have X1 : Hid (Ext w W1) := Lib.hid (by rw [← hW1]; exact (by repeat (first | exact Ext.refl _ | refine Ext.alloc ?_ _ | refine Ext.more ?_ _ _ | refine Ext.drew ?_ | refine Ext.drewN ?_ _ | refine Ext.setCell ?_ (by simp <;> omega) _)))
  have HB : Hid (w.heap.size ≤ b) := Lib.hid (by omega)
  simp only [hb, hW1]
  clear hW1 hmm hb
  go_loopw [7, 14] (fun _ i wr => ∃ k : Nat, k ≤ xs.length ∧ i = .int .i64 k ∧ Hid (MapI wr b k (servedF (xs.take k))) ∧ Hid (Ext w wr)) (fun _ i _ => xs.length - (intOf i).toNat)
  case atStart => exact ⟨0, Nat.zero_le _, rfl, M1, X1⟩
  case round =>
    obtain ⟨k, hk, rfl, hm, hx⟩ := hrel
    clear M1 X1
    by_cases hlt : k < xs.length
    · obtain ⟨bo, oo, rfl, hbo, hco⟩ := (HX.out.ext hx.out) (by omega)
      have x0 := hco k hlt
      obtain ⟨x, hxx⟩ : ∃ x, xs.getD k 0 = x := ⟨_, rfl⟩
      rw [hxx] at x0
      have hxm : x ∈ xs := by
        rw [← hxx, List.getD_eq_getElem?_getD, List.getElem?_eq_getElem hlt]
        exact List.getElem_mem hlt
      have HXM := Lib.hid (HXB.out x hxm)
      have HS : Hid (∀ W, MapI W b (k + 1) (fun y => if y = x then 1 else servedF (xs.take k) y) → MapI W b (k + 1) (servedF (xs.take (k + 1)))) := Lib.hid (fun W h => by
        rw [take_next hlt, hxx, ← servedF_snoc]
        exact h)
      clear hco hxx hxm
      go_wp2_with (at_mapUpdate; refine put_map rfl _ _ _ rfl b k _ rfl hm.out (by omega) x 1 rfl rfl HXM.out.1 HXM.out.2 (by omega) (by omega) w hx.out HB.out ?_; intro w5 hm5 ht5 hx5)
      have HM5 := Lib.hid (HS.out w5 hm5)
      have HX5 := Lib.hid hx5
      clear hm5 ht5 hx5
      go_roundw
      case rel => exact ⟨k + 1, by omega, by go_num, HM5, HX5⟩
      case measure => simp [intOf]; omega
    · obtain rfl : k = xs.length := by omega
      have hm0 := hm.out
      rw [List.take_length] at hm0
      have HM := Lib.hid hm0
      clear hm hm0 HX
      go_wp2_with fail
      refine (CC.out wr hx.out).mono ?_
      rintro e w1 ⟨A1, c1, rfl, ho, hx1⟩
      have HO := Lib.hid (ho.base (base' := w.heap.size) hx.out.size)
      have HX1 := Lib.hid (hx.out.trans hx1)
      have HM1 := Lib.hid (HM.out.ext hx1)
      have HBlt := Lib.hid HM.out.lt
      have HOW : Hid (∀ g, A1 = some ⟨g, 0, none⟩ → g ≠ b) := Lib.hid (fun g hg hgb => by
        subst hg hgb
        have h2 := own_old ho g rfl
        have h3 := HM.out.lt
        have h4 := own_block ho g rfl
        omega)
      clear ho hx1 CC HM hx
      go_wp2_with fail
      go_loopw [9, 10, 25] (fun _ _ i wr => ∃ k : Nat, k ≤ ds.length ∧ i = .int .i64 k ∧ Hid (MapI wr b xs.length (servedF xs)) ∧ Hid (OwnD wr w.heap.size A1 c1 (upTo (tickF fun y => decide (y ∈ xs)) ds k)) ∧ Hid (Ext w wr)) (fun _ _ i _ => ds.length - (intOf i).toNat)
      case atStart => exact ⟨0, Nat.zero_le _, rfl, HM1, Lib.hid (by rw [upTo_zero]; exact HO.out), HX1⟩
      case round =>
        obtain ⟨k, hk, rfl, hm, ho, hx⟩ := hrel
        clear HO HX1 HM1
        by_cases hlt : k < ds.length
        · obtain ⟨g, rfl, hg1, hg2, hg3⟩ := ho.out.at (by rw [upTo_length]; omega)
          obtain ⟨b1, off, hA, _, hcl⟩ := ho.out.jobs.1 (by rw [upTo_length]; omega)
          injection hA with hA
          injection hA with ha1 ha2
          subst ha1 ha2
          obtain ⟨x0, x1, x2, x3, x4⟩ := hcl k (by rw [upTo_length]; omega)
          rw [upTo_get _ hlt] at x0 x1 x2 x3 x4
          obtain ⟨d, hd⟩ : ∃ d, ds.getD k d0 = d := ⟨_, rfl⟩
          rw [hd] at x0 x1 x2 x3 x4
          have hf := hg3 (k * 5 + 3)
          have hul : k < (upTo (tickF fun y => decide (y ∈ xs)) ds k).length := by rw [upTo_length]; omega
          have HSet := Lib.hid (fun a => ho.out.age hul a)
          have HKS := Lib.hid (upTo_step (tickF fun y => decide (y ∈ xs)) hlt)
          rw [upTo_get _ hlt, hd] at HSet
          rw [hd] at HKS
          have HK0 := Lib.hid (fun hF => upTo_same (tickF fun y => decide (y ∈ xs)) hlt hF)
          rw [hd] at HK0
          simp only [Nat.zero_add] at x0 x1 x2 x3 x4
          have HG1 := Lib.hid hg1
          have hdm : d ∈ ds := by rw [← hd, getD_at hlt]; exact List.getElem_mem hlt
          have hdb := HD.out d hdm
          have HDB := Lib.hid hdb
          have HGB := Lib.hid (HOW.out g rfl)
          have HMk : Hid (∀ p u, MapI (wr.setCell ⟨g, p, none⟩ u) b xs.length (servedF xs)) := Lib.hid (fun p u => hm.out.keep (Turn.setCell (S := fun i => i = g) wr (p := ⟨g, p, none⟩) rfl u) (fun hc => HGB.out hc.symm))
          clear hcl hd hul hg3 hg1 hdm hdb
          obtain ⟨s, hs⟩ : ∃ s, servedF xs d.slot = s := ⟨_, rfl⟩
          by_cases hin : d.slot ∈ xs
          · have hs1 : s = 1 := by rw [← hs]; exact if_pos hin
            subst hs1
            have HF : Hid (tickF (fun y => decide (y ∈ xs)) d = { d with age := 0 }) := Lib.hid (by unfold tickF; rw [if_pos (by simpa using hin)])
            rw [HF.out] at HKS
            clear hin HF HK0
            go_wp2_with (at_lookup; refine look_map rfl _ _ rfl b xs.length _ rfl hm.out d.slot rfl HDB.out.1 HDB.out.2.1 ?_; rw [hs])
            go_roundw
            case rel => exact ⟨k + 1, by omega, by go_num, HMk.out _ _, Lib.hid (by rw [← HKS.out]; exact HSet.out 0), Lib.hid (hx.out.setCell HG1.out _)⟩
            case measure => simp [intOf]; omega
          · have hs1 : s = 0 := by rw [← hs]; exact if_neg hin
            subst hs1
            by_cases hage : d.age < 1000000
            · have HF : Hid (tickF (fun y => decide (y ∈ xs)) d = { d with age := d.age + 1 }) := Lib.hid (by unfold tickF; rw [if_neg (by simpa using hin), if_pos hage])
              rw [HF.out] at HKS
              have q : decide (d.age < 1000000) = true := decide_eq_true hage
              have e1 : wrap64 (d.age + 1) = d.age + 1 := IntWalk.wrap64_in _ (by have := HDB.out; omega)
              clear hin HF HK0 hage
              go_wp2_with (at_lookup; refine look_map rfl _ _ rfl b xs.length _ rfl hm.out d.slot rfl HDB.out.1 HDB.out.2.1 ?_; rw [hs])
              go_roundw
              case rel => exact ⟨k + 1, by omega, by go_num, HMk.out _ _, Lib.hid (by rw [← HKS.out]; exact HSet.out _), Lib.hid (hx.out.setCell HG1.out _)⟩
              case measure => simp [intOf]; omega
            · have HF : Hid (tickF (fun y => decide (y ∈ xs)) d = d) := Lib.hid (by unfold tickF; rw [if_neg (by simpa using hin), if_neg hage])
              have HK := Lib.hid (HK0.out HF.out)
              have q : decide (d.age < 1000000) = false := decide_eq_false hage
              clear hin HF HK0 hage HKS HSet
              go_wp2_with (at_lookup; refine look_map rfl _ _ rfl b xs.length _ rfl hm.out d.slot rfl HDB.out.1 HDB.out.2.1 ?_; rw [hs])
              go_roundw
              case rel => exact ⟨k + 1, by omega, by go_num, hm, Lib.hid (by rw [HK.out]; exact ho.out), hx⟩
              case measure => simp [intOf]; omega
        · obtain rfl : k = ds.length := by omega
          have h0 := ho.out
          rw [upTo_all] at h0
          have hl2 : (ds.map (tickF fun y => decide (y ∈ xs))).length = ds.length := List.length_map _
          have HO := Lib.hid h0
          have HL := Lib.hid hl2
          clear ho h0 hl2
          go_wp2_with fail
          go_ret
          exact ⟨A1, c1, by rw [HL.out]; rfl, HO.out, hx.out⟩
end Go.Proofs.Ytmgpofdmfmeljaa
