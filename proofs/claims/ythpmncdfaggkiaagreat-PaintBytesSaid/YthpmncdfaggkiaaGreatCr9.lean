/- Cr: texts that the proof rests on, part 9. -/
import Derived.Test.YthpmncdfaggkiaaGreatCr1
import Derived.Test.YthpmncdfaggkiaaGreatCr2
import Derived.Test.YthpmncdfaggkiaaGreatCr3
import Derived.Test.YthpmncdfaggkiaaGreatCr5
import Derived.Test.YthpmncdfaggkiaaGreatCr6
import Derived.Test.YthpmncdfaggkiaaGreatCr7
import Derived.Test.YthpmncdfaggkiaaGreatCr8
namespace Go.Proofs.YthpmncdfaggkiaaGreat
open Go.RowKit
def wordT (n : Nat) : Option Nat :=
 if n % 256 = 32 then (if n / 256 = 0 ∨ n / 256 = 1 then some 1 else none)
 else if 97 ≤ n % 256 ∧ n % 256 ≤ 122 then (if n / 256 = 0 ∨ n / 256 = 2 then some 2 else none)
 else none
theorem goF_three (z1 z2 : Cl) (ys : List Int) (b : Nat) (h0 : (0 : Int) ∉ ys) : goF [Cl.zero, z1, z2] ys b 3 = (if (1 : Int) ∈ ys ∧ hasF z1 b then [1] else []) ++ (if (2 : Int) ∈ ys ∧ hasF z2 b then [2] else []) := by
 have e : List.range 3 = [0, 1, 2] := rfl
 unfold goF
 rw [e]
 have k0 : hitF [Cl.zero, z1, z2] ys b 0 = false := by
  unfold hitF
  have : decide (((0 : Nat) : Int) ∈ ys) = false := decide_eq_false h0
  rw [this]
  rfl
 have k1 : hitF [Cl.zero, z1, z2] ys b 1 = decide ((1 : Int) ∈ ys ∧ hasF z1 b) := by
  unfold hitF
  show (decide ((1 : Int) ∈ ys) && hasF z1 b) = _
  rw [Bool.decide_and, Bool.decide_coe]
 have k2 : hitF [Cl.zero, z1, z2] ys b 2 = decide ((2 : Int) ∈ ys ∧ hasF z2 b) := by
  unfold hitF
  show (decide ((2 : Int) ∈ ys) && hasF z2 b) = _
  rw [Bool.decide_and, Bool.decide_coe]
 rw [List.filter_cons, List.filter_cons, List.filter_cons, k0, k1, k2]
 by_cases h1 : (1 : Int) ∈ ys ∧ hasF z1 b <;> by_cases h2 : (2 : Int) ∈ ys ∧ hasF z2 b <;> simp [h1, h2]
theorem found_words (z1 z2 : Cl) (h1 : ∀ b, b < 256 → hasF z1 b = decide (97 ≤ b ∧ b ≤ 122)) (h2 : ∀ b, b < 256 → hasF z2 b = decide (b = 32)) (o1 : z1.ok) (o2 : z2.ok) :
 Found [Cl.zero, z1, z2] [[1, 2], [1], [2]] [-1, 0, 1] [-1, 1, 0] [0, 2, 1] wordT := by
 have key : ∀ (i b : Nat), b < 256 → (256 * i + b) / 256 = i ∧ (256 * i + b) % 256 = b := fun i b hb => by omega
 refine ⟨rfl, by decide, fun i t ht => ?_, rfl, fun n k hn hk => ?_, fun n k p hn hk hp hs => ?_, fun i h1 h2 => ?_, fun i j s t hi hj he => ?_, fun j => ?_⟩
 ·have hi : i = 0 ∨ i = 1 ∨ i = 2 := by
   have := (List.getElem?_eq_some_iff.1 ht).1
   simp at this
   omega
  rcases hi with rfl | rfl | rfl
  ·obtain rfl : 0 = t := by simpa using ht
   refine ⟨by omega, -1, [1, 2], rfl, rfl, by omega, rfl, by simp, by simp, fun b hb => ?_⟩
   show goF _ _ _ 3 = _
   rw [goF_three _ _ _ _ (by simp), h1 b hb, h2 b hb]
   unfold wordT
   rw [(key 0 b hb).1, (key 0 b hb).2]
   by_cases k1 : b = 32
   ·subst k1; simp
   ·by_cases k2 : 97 ≤ b ∧ b ≤ 122
    ·simp [k1, k2]
    ·simp [k1, k2]
  ·obtain rfl : 2 = t := by simpa using ht
   refine ⟨by omega, 1, [2], rfl, rfl, by omega, rfl, by simp, by simp, fun b hb => ?_⟩
   show goF _ _ _ 3 = _
   rw [goF_three _ _ _ _ (by simp), h1 b hb, h2 b hb]
   unfold wordT
   rw [(key 1 b hb).1, (key 1 b hb).2]
   by_cases k1 : b = 32
   ·subst k1; simp
   ·by_cases k2 : 97 ≤ b ∧ b ≤ 122
    ·simp [k1, k2]
    ·simp [k1, k2]
  ·obtain rfl : 1 = t := by simpa using ht
   refine ⟨by omega, 0, [1], rfl, rfl, by omega, rfl, by simp, by simp, fun b hb => ?_⟩
   show goF _ _ _ 3 = _
   rw [goF_three _ _ _ _ (by simp), h1 b hb, h2 b hb]
   unfold wordT
   rw [(key 2 b hb).1, (key 2 b hb).2]
   by_cases k1 : b = 32
   ·subst k1; simp
   ·by_cases k2 : 97 ≤ b ∧ b ≤ 122
    ·simp [k1, k2]
    ·simp [k1, k2]
 ·show k < 3
  unfold wordT at hk
  repeat' split at hk
  all_goals first | (injection hk with hk; omega) | cases hk
 ·by_cases hk1 : k = 1
  ·omega
  ·have hk2 : k = 2 := by
    unfold wordT at hk
    repeat' split at hk
    all_goals first | (injection hk with hk; omega) | cases hk
   subst hk2
   have h32 : 32 < n := by
    unfold wordT at hk
    repeat' split at hk
    all_goals first | (injection hk with hk; omega) | cases hk
   have := hs 32 1 h32 rfl
   omega
 ·have hi : i = 1 ∨ i = 2 := by simp at h2; omega
  rcases hi with rfl | rfl
  ·exact ⟨32, by omega, rfl⟩
  ·exact ⟨97, by omega, rfl⟩
 ·have hi' : i = 0 ∨ i = 1 ∨ i = 2 := by
   have := (List.getElem?_eq_some_iff.1 hi).1
   simp at this
   omega
  have hj' : j = 0 ∨ j = 1 ∨ j = 2 := by
   have := (List.getElem?_eq_some_iff.1 hj).1
   simp at this
   omega
  rcases hi' with rfl | rfl | rfl <;> rcases hj' with rfl | rfl | rfl
  all_goals first
   | rfl
   | (exfalso
      simp at hi hj
      subst hi hj
      revert he
      decide)
 ·match j with
  | 0 => exact Cl.zero_ok
  | 1 => exact o1
  | 2 => exact o2
  | j + 3 => exact Cl.zero_ok
theorem ok_words (z1 z2 : Cl) : NfaOk [Cl.zero, z1, z2] [[1, 2], [1], [2]] [-1, 0, 1] := by
 refine ⟨by simp, by simp, rfl, ?_, ?_, ?_, ?_⟩
 all_goals simp
end Go.Proofs.YthpmncdfaggkiaaGreat
namespace Go.Proofs.YthpmncdfaggkiaaGreat
open Go.RowKit
attribute [local go_sem] more_drew more_drewN more_size more_cell more_frozen more_setCell drew_more drewN_more lt_add_r lt_add_r2 lt_add_r3 lt_add_r4 lt_add_r5 lt_add_r6 lt_add_r7 lt_add_r8 lt_add_r9 lt_add_r10 lt_self_r lt_self_r2
def toF (nl : List Int) (m i b : Nat) : Nat := if i = m then m else if nl.getD (256 * i + b) 0 < 0 then m else (nl.getD (256 * i + b) 0).toNat
theorem toF_le {nl rl : List Int} (hO : DfaOk nl rl) {i b : Nat} (hi : i ≤ rl.length) (hb : b < 256) : toF nl rl.length i b ≤ rl.length := by
 unfold toF
 split
 ·omega
 ·split
  ·omega
  ·have hlt : 256 * i + b < nl.length := by rw [hO.len]; omega
   have := hO.next (nl.getD (256 * i + b) 0) (by rw [List.getD_eq_getElem?_getD, List.getElem?_eq_getElem hlt]; exact List.getElem_mem hlt)
   omega
set_option maxRecDepth 100000 in
set_option maxHeartbeats 4000000 in
theorem to_any (nv rv : Value) (nl rl : List Int) (i b : Nat) (w : World) (hN : DfaRd w nv rv nl rl) (hO : DfaOk nl rl) (hi : i ≤ rl.length) (hb : b < 256) :
 Calls Tryz.prog 152 #[.agg #[nv, rv], .int .i64 i, .int .i64 b] w fun e w' => e = .returned (.int .i64 (toF nl rl.length i b)) ∧ Ext w w' := by
 obtain ⟨W, hW⟩ : ∃ W, w.alloc (.cells #[nv, rv] 94) = W := ⟨_, rfl⟩
 obtain ⟨g0, hg0⟩ : ∃ b, w.heap.size = b := ⟨_, rfl⟩
 have X1 : Ext w W := by rw [← hW]; exact (by repeat first | exact xr _ | refine xa ?_ _ | refine xm ?_ _ _ | refine xd ?_ | refine xn ?_ _ | refine xs ?_ (by simp <;> omega) _)
 have B1 : W.heap[g0]? = some (.cells #[nv, rv] 94) := by rw [← hW, ← hg0]; exact heap_alloc_new _ _
 obtain ⟨⟨A, c, hnv, hA, _⟩, B, d, hrv, hB, _⟩ := hN
 have h2 := hO.most
 obtain ⟨ga, oa, rfl, lga, hac⟩ := (hA.ext X1).get (by rw [hO.len]; have := hO.one; omega)
 obtain ⟨m, hmm⟩ : ∃ m, rl.length = m := ⟨_, rfl⟩
 have b0 := cell_of_row _ _ 0 _ _ _ B1
 have b1 := cell_of_row _ _ 1 _ _ _ B1
 have lb := lt_of_heap B1
 rw [hnv, hO.len, hmm] at b0
 rw [hrv, hmm] at b1
 simp at b0 b1
 have HX := zh X1
 have HNL : Hid (nl.length = 256 * m) := zh (by rw [hO.len, hmm])
 have HAC := zh hac
 have HNX := zh hO.next
 have HM := zh hmm
 rw [hmm] at hi h2
 simp only [hmm]
 clear hO hnv hrv hA hB hac hmm B1 X1
 by_cases him : i = m
 ·subst him
  have HR : Hid (toF nl i i b = i) := zh (by unfold toF; rw [if_pos rfl])
  go_enter Tryz.func152, Tryz.ntmps152
  go_wp2_with fail
  go_ret
  exact ⟨ret_int (by rw [HR.out]), HX.out.trans (by repeat first | exact xr _ | refine xa ?_ _ | refine xm ?_ _ _ | refine xd ?_ | refine xn ?_ _ | refine xs ?_ (by simp <;> omega) _)⟩
 ·have hlt : 256 * i + b < nl.length := by rw [HNL.out]; omega
  obtain ⟨x, hx⟩ : ∃ x, nl[256 * i + b]? = some x := ⟨_, List.getElem?_eq_getElem hlt⟩
  have x0 := HAC.out _ x hx
  have hgd : nl.getD (256 * i + b) 0 = x := by rw [List.getD_eq_getElem?_getD, hx]; rfl
  have hxn := HNX.out x (List.mem_of_getElem? hx)
  have HR : Hid (toF nl m i b = if x < 0 then m else x.toNat) := zh (by unfold toF; rw [if_neg him, hgd])
  have q0 : ((i : Int) == m) = false := by simp; omega
  have q1 : decide ((i : Int) = m) = false := by simp; omega
  have q3 : decide (i = m) = false := by simp; omega
  clear hgd hx
  by_cases h0 : x < 0
  ·go_enter Tryz.func152, Tryz.ntmps152
   go_wp2_with fail
   go_ret
   exact ⟨ret_int (by rw [HR.out, if_pos h0]), HX.out.trans (by repeat first | exact xr _ | refine xa ?_ _ | refine xm ?_ _ _ | refine xd ?_ | refine xn ?_ _ | refine xs ?_ (by simp <;> omega) _)⟩
  ·go_enter Tryz.func152, Tryz.ntmps152
   go_wp2_with fail
   go_ret
   exact ⟨ret_int (by rw [HR.out, if_neg (by omega)]; omega), HX.out.trans (by repeat first | exact xr _ | refine xa ?_ _ | refine xm ?_ _ _ | refine xd ?_ | refine xn ?_ _ | refine xs ?_ (by simp <;> omega) _)⟩
def alikeF (nl : List Int) (m : Nat) (ps : List Int) (i k : Nat) : Prop := ps.getD i 0 = ps.getD k 0 ∧ ∀ b, b < 256 → ps.getD (toF nl m i b) 0 = ps.getD (toF nl m k b) 0
set_option maxRecDepth 100000 in
set_option maxHeartbeats 4000000 in
theorem alike_any (nv rv : Value) (nl rl ps : List Int) (P : Option Addr) (pc i k : Nat) (r : Bool) (w : World) (hN : DfaRd w nv rv nl rl) (hO : DfaOk nl rl) (hP : Ints w P ps) (hp : ps.length = rl.length + 1) (hi : i ≤ rl.length) (hk : k ≤ rl.length) (hr : r = true ↔ alikeF nl rl.length ps i k) :
 Calls Tryz.prog 183 #[.agg #[nv, rv], .slice P ps.length pc, .int .i64 i, .int .i64 k] w fun e w' => e = .returned (.bool r) ∧ Ext w w' := by
 obtain ⟨W, hW⟩ : ∃ W, w.alloc (.cells #[nv, rv] 94) = W := ⟨_, rfl⟩
 obtain ⟨g0, hg0⟩ : ∃ b, w.heap.size = b := ⟨_, rfl⟩
 have X1 : Ext w W := by rw [← hW]; exact (by repeat first | exact xr _ | refine xa ?_ _ | refine xm ?_ _ _ | refine xd ?_ | refine xn ?_ _ | refine xs ?_ (by simp <;> omega) _)
 have B1 : W.heap[g0]? = some (.cells #[nv, rv] 94) := by rw [← hW, ← hg0]; exact heap_alloc_new _ _
 obtain ⟨gp, op, rfl, lgp, hpc⟩ := (hP.ext X1) (by omega)
 obtain ⟨m, hmm⟩ : ∃ m, rl.length = m := ⟨_, rfl⟩
 have h2 := hO.most
 rw [hmm] at hi hk hp h2 hr
 have p0 := hpc i (by omega)
 have p1 := hpc k (by omega)
 have HP : Hid (∀ wr, Ext W wr → ∀ j, j ≤ m → wr.cell? ⟨gp, op + j, none⟩ = some (.int .i64 (ps.getD j 0))) := zh (fun wr e j hj => ext_cell (hpc j (by omega)) lgp e)
 have HE : Hid (∀ wr, Ext W wr → wr.cell? ⟨g0, 0, none⟩ = some nv ∧ wr.cell? ⟨g0, 1, none⟩ = some rv ∧ g0 < wr.heap.size ∧ gp < wr.heap.size) := zh (fun wr e => by
  have := ext_block B1 e
  have b0 := cell_of_row _ _ 0 _ _ _ this
  have b1 := cell_of_row _ _ 1 _ _ _ this
  simp at b0 b1
  exact ⟨b0, b1, lt_of_heap this, Nat.lt_of_lt_of_le lgp e.size⟩)
 have HT : Hid (∀ wr, Ext W wr → ∀ j b, j ≤ m → b < 256 → toF nl m j b ≤ m ∧ Calls Tryz.prog 152 #[.agg #[nv, rv], .int .i64 j, .int .i64 b] wr fun e w' => e = .returned (.int .i64 (toF nl m j b)) ∧ Ext wr w') := zh (fun wr e j b hj hb => by
  have h1 := to_any nv rv nl rl j b wr (hN.ext (X1.trans e)) hO (by omega) hb
  have h3 := toF_le hO (i := j) (b := b) (by omega) hb
  rw [hmm] at h1 h3
  exact ⟨h3, h1⟩)
 have HX := zh X1
 have HRR := zh hr
 rw [hp]
 clear hN hO hP hp hmm B1 X1 hpc hr
 obtain ⟨x, hx⟩ : ∃ x, ps.getD i 0 = x := ⟨_, rfl⟩
 obtain ⟨y, hy⟩ : ∃ y, ps.getD k 0 = y := ⟨_, rfl⟩
 rw [hx] at p0
 rw [hy] at p1
 have HX0 := zh hx
 have HY0 := zh hy
 clear hx hy
 go_enter Tryz.func183, Tryz.ntmps183
 go_upto_region 1 with fail
 refine wp_region_bt (9) (pures_bt [0, 1, 2, 4, 5, 6] (softs_bt [3, 7, 8] .fin)) (by kernel_rfl) (by kernel_rfl) ?_
 refine bt_pures _ fun K hK => ?_; simp only [pick, nthC]; (repeat go_big_quiet_step (fail)); refine wpQuiet_nil (hK _ ?_); clear hK K
 refine bt_softs _ fun K hK => ?_; simp only [pick, nthC]; (repeat go_big_quiet_step (fail)); refine wpQuiet_nil (hK _ ?_); clear hK K
 (refine bt_fin ?_)
 try simp only [hg0]
 by_cases hxy : x = y
 ·subst hxy
  simp only [bne_self_eq_false]
  go_wp2_with fail
  clear p0 p1 hW hg0 lgp
  go_loopw [9] (fun i' wr => ∃ b : Nat, b ≤ 256 ∧ i' = .int .i64 b ∧ Hid (Ext W wr) ∧ Hid (∀ c, c < b → ps.getD (toF nl m i c) 0 = ps.getD (toF nl m k c) 0)) (fun b _ => 256 - (intOf b).toNat)
  case atStart => exact ⟨0, Nat.zero_le _, rfl, zh (by repeat first | exact xr _ | refine xa ?_ _ | refine xm ?_ _ _ | refine xd ?_ | refine xn ?_ _ | refine xs ?_ (by simp <;> omega) _), zh (fun c hc => by omega)⟩
  case round =>
   obtain ⟨b, hb, rfl, hx1, hs⟩ := hrel
   by_cases hlt : b < 256
   ·obtain ⟨e0, e1, l0, lp⟩ := HE.out _ hx1.out
    obtain ⟨t1, C1⟩ := HT.out _ (hx1.out.trans ((by repeat first | exact xr _ | refine xa ?_ _ | refine xm ?_ _ _ | refine xd ?_ | refine xn ?_ _ | refine xs ?_ (by simp <;> omega) _) : Ext wr wr.drew)) i b hi hlt
    have HC1 := zh C1
    clear C1
    go_upto_region 6 with fail
    refine wp_region_bt (15) (pures_bt [0, 2, 3, 7, 9, 10] (softs_bt [1, 8] (.step 4 (pures_bt [5] (softs_bt [6] (.step 11 (pures_bt [12] (softs_bt [13, 14] .fin)))))))) (by kernel_rfl) (by kernel_rfl) ?_
    refine bt_pures _ fun K hK => ?_; simp only [pick, nthC]; (repeat go_big_quiet_step (fail)); refine wpQuiet_nil (hK _ ?_); clear hK K
    refine bt_softs _ fun K hK => ?_; simp only [pick, nthC]; (repeat go_big_quiet_step (fail)); refine wpQuiet_nil (hK _ ?_); clear hK K
    refine bt_step fun next hn => ?_; simp only [pick, nthC]
    go_wp2_with fail
    refine HC1.out.mono ?_
    rintro e w2 ⟨rfl, hx2⟩
    have HY2 : Hid (Ext wr w2) := zh (Ext.trans (by repeat first | exact xr _ | refine xa ?_ _ | refine xm ?_ _ _ | refine xd ?_ | refine xn ?_ _ | refine xs ?_ (by simp <;> omega) _) hx2)
    have r1 := HP.out _ hx1.out _ t1
    obtain ⟨t2, C2⟩ := HT.out _ (hx1.out.trans HY2.out) k b hk hlt
    have HC2 := zh C2
    obtain ⟨ta, hta⟩ : ∃ ta, toF nl m i b = ta := ⟨_, rfl⟩
    obtain ⟨tb, htb⟩ : ∃ tb, toF nl m k b = tb := ⟨_, rfl⟩
    rw [hta] at r1 t1
    rw [htb] at t2 HC2
    simp only [hta]
    obtain ⟨x1, hx1v⟩ : ∃ x1, ps.getD ta 0 = x1 := ⟨_, rfl⟩
    rw [hx1v] at r1
    have HA := zh (And.intro hta hx1v)
    clear hx2 C2 HC1 hta hx1v e0 e1
    go_wp2_with fail
    refine segQ_mk (fun _ => laid HY2.out) (hn _ _ ?_)
    clear hn next
    refine bt_pures _ fun K hK => ?_; simp only [pick, nthC]; (repeat go_big_quiet_step (fail)); refine wpQuiet_nil (hK _ ?_); clear hK K
    refine bt_softs _ fun K hK => ?_; simp only [pick, nthC]; (repeat go_big_quiet_step (fail)); refine wpQuiet_nil (hK _ ?_); clear hK K
    refine bt_step fun next hn => ?_; simp only [pick, nthC]
    go_wp2_with fail
    refine HC2.out.mono ?_
    rintro e w3 ⟨rfl, hx3⟩
    have HY3 : Hid (Ext wr w3) := zh (HY2.out.trans hx3)
    have r2 := HP.out _ hx1.out _ t2
    obtain ⟨x2, hx2v⟩ : ∃ x2, ps.getD tb 0 = x2 := ⟨_, rfl⟩
    rw [hx2v] at r2
    have HB := zh (And.intro htb hx2v)
    clear hx3 HC2 htb hx2v r1
    go_wp2_with fail
    refine segQ_mk (fun _ => laid HY3.out) (hn _ _ ?_)
    clear hn next
    refine bt_pures _ fun K hK => ?_; simp only [pick, nthC]; (repeat go_big_quiet_step (fail)); refine wpQuiet_nil (hK _ ?_); clear hK K
    refine bt_softs _ fun K hK => ?_; simp only [pick, nthC]; (repeat go_big_quiet_step (fail)); refine wpQuiet_nil (hK _ ?_); clear hK K
    (refine bt_fin ?_)
    by_cases h12 : x1 = x2
    ·have HS2 : Hid (∀ c, c < b + 1 → ps.getD (toF nl m i c) 0 = ps.getD (toF nl m k c) 0) := zh (fun c hc => by
      rcases Nat.lt_or_ge c b with h | h
      ·exact hs.out c h
      ·obtain rfl : c = b := by omega
       rw [HA.out.1, HB.out.1, HA.out.2, HB.out.2, h12])
     subst h12
     go_wp2_with fail
     go_roundw
     case rel => exact ⟨b + 1, by omega, by go_num, zh (hx1.out.trans HY3.out), HS2⟩
     case measure => simp [intOf]; omega
    ·have hrf : Hid (r = false) := zh (by
      cases hr : r with
      | false => rfl
      | true => exact absurd ((HRR.out.1 hr).2 b hlt) (by rw [HA.out.1, HB.out.1, HA.out.2, HB.out.2]; exact h12))
     have q : (x1 != x2) = true := by simp [h12]
     go_wp2_with fail
     go_ret
     exact ⟨ret_bool hrf.out.symm, HX.out.trans (hx1.out.trans (HY3.out.trans (by repeat first | exact xr _ | refine xa ?_ _ | refine xm ?_ _ _ | refine xd ?_ | refine xn ?_ _ | refine xs ?_ (by simp <;> omega) _)))⟩
   ·obtain rfl : b = 256 := by omega
    have hrt : Hid (r = true) := zh (HRR.out.2 ⟨HX0.out.trans HY0.out.symm, hs.out⟩)
    go_wp2_with fail
    go_ret
    exact ⟨ret_bool hrt.out.symm, HX.out.trans hx1.out⟩
 ·have hrf : Hid (r = false) := zh (by
   cases hr : r with
   | false => rfl
   | true => exact absurd (HRR.out.1 hr).1 (by rw [HX0.out, HY0.out]; exact hxy))
  have q : (x != y) = true := by simp [hxy]
  go_wp2_with fail
  go_ret
  exact ⟨ret_bool hrf.out.symm, HX.out.trans (by repeat first | exact xr _ | refine xa ?_ _ | refine xm ?_ _ _ | refine xd ?_ | refine xn ?_ _ | refine xs ?_ (by simp <;> omega) _)⟩
def fillF (f : Nat → Int) (k n : Nat) : List Int := (List.range n).map fun j => if j < k then f j else 0
theorem fillF_length (f : Nat → Int) (k n : Nat) : (fillF f k n).length = n := by simp [fillF]
theorem fillF_get (f : Nat → Int) {k n j : Nat} (h : j < n) : (fillF f k n)[j]? = some (if j < k then f j else 0) := by simp [fillF, h]
theorem fillF_zero (f : Nat → Int) (n : Nat) : madeCells #[.int .i64 0] n = (iv (fillF f 0 n)).toArray := by
 apply Array.toList_inj.1
 rw [toList_madeCells_one]
 apply List.ext_getElem
 ·simp [fillF, iv]
 ·intro i h1 h2
  simp [fillF, iv]
theorem fillF_set (f : Nat → Int) {k n : Nat} (h : k < n) : (iv (fillF f k n)).set k (.int .i64 (f k)) = iv (fillF f (k + 1) n) := by
 apply List.ext_getElem?
 intro j
 by_cases hj : j < n
 ·by_cases hk : k = j
  ·subst hk
   rw [List.getElem?_set_self (by rw [iv_length, fillF_length]; exact h)]
   unfold iv
   rw [List.getElem?_map, fillF_get f hj, if_pos (by omega)]
   rfl
  ·rw [List.getElem?_set_ne hk]
   unfold iv
   rw [List.getElem?_map, List.getElem?_map, fillF_get f hj, fillF_get f hj]
   congr 2
   by_cases hjk : j < k
   ·rw [if_pos hjk, if_pos (by omega)]
   ·rw [if_neg hjk, if_neg (by omega)]
 ·rw [List.getElem?_eq_none (by rw [List.length_set, iv_length, fillF_length]; omega), List.getElem?_eq_none (by rw [iv_length, fillF_length]; omega)]
theorem block_ints {w : World} {g : Nat} {xs : List Int} {cs : Array Value} (h : w.heap[g]? = some (.cells cs 3)) (hc : cs = (iv xs).toArray) : Ints w (some ⟨g, 0, none⟩) xs := fun _ => ⟨g, 0, rfl, lt_of_heap h, fun k hk => by
 rw [Nat.zero_add, cell_of_row _ _ k _ _ _ h, hc, List.getElem?_toArray]
 exact iv_get hk⟩
theorem block_set {w : World} {g k n : Nat} {f : Nat → Int} (h : w.heap[g]? = some (.cells (iv (fillF f k n)).toArray 3)) (hk : k < n) : (w.setCell ⟨g, k, none⟩ (.int .i64 (f k))).heap[g]? = some (.cells (iv (fillF f (k + 1) n)).toArray 3) := by
 have := setCell_row (k := k) h (.int .i64 (f k))
 rwa [List.setIfInBounds_toArray, fillF_set f hk] at this
def ps0 (rl : List Int) : List Int := fillF (fun j => rl.getD j 0 + 1) rl.length (rl.length + 1)
def idF (n : Nat) : List Int := fillF (fun j => (j : Int)) n n
def idK (k : Nat) : List Int := (List.range k).map Int.ofNat
theorem idK_succ (k : Nat) : idK (k + 1) = idK k ++ [(k : Int)] := by simp [idK, List.range_succ]
theorem idK_length (k : Nat) : (idK k).length = k := by simp [idK]
theorem idK_get {k j : Nat} (h : j < k) : (idK k)[j]? = some (j : Int) := by simp [idK, h]
theorem idF_get {n j : Nat} (h : j < n) : (idF n).getD j 0 = j := by
 unfold idF
 rw [List.getD_eq_getElem?_getD, fillF_get _ h, if_pos h]
 rfl
set_option maxRecDepth 100000 in
set_option maxHeartbeats 4000000 in
theorem parts_apart (nv rv : Value) (nl rl : List Int) (w : World) (hN : DfaRd w nv rv nl rl) (hO : DfaOk nl rl) (hA : ∀ i k, i ≤ rl.length → k < i → ¬ alikeF nl rl.length (ps0 rl) i k) :
 Calls Tryz.prog 151 #[.agg #[nv, rv]] w fun e w' => ∃ A c, e = .returned (.slice A (rl.length + 1) c) ∧ Ints w' A (idF (rl.length + 1)) ∧ Ext w w' := by
 obtain ⟨W, hW⟩ : ∃ W, w.alloc (.cells #[nv, rv] 94) = W := ⟨_, rfl⟩
 obtain ⟨g0, hg0⟩ : ∃ b, w.heap.size = b := ⟨_, rfl⟩
 have X1 : Ext w W := by rw [← hW]; exact (by repeat first | exact xr _ | refine xa ?_ _ | refine xm ?_ _ _ | refine xd ?_ | refine xn ?_ _ | refine xs ?_ (by simp <;> omega) _)
 have B1 : W.heap[g0]? = some (.cells #[nv, rv] 94) := by rw [← hW, ← hg0]; exact heap_alloc_new _ _
 obtain ⟨m, hmm⟩ : ∃ m, rl.length = m := ⟨_, rfl⟩
 have h2 := hO.most
 have h1 := hO.one
 obtain ⟨B, d, hrv, hB, _⟩ := hN.2
 obtain ⟨gr, orr, rfl, lgr, hrc⟩ := (hB.ext X1) h1
 have b1 := cell_of_row _ _ 1 _ _ _ B1
 have lb := lt_of_heap B1
 rw [hrv, hmm] at b1
 simp at b1
 have HX := zh X1
 have HB1 := zh B1
 have HG0 := zh hg0
 have HM := zh hmm
 have HPL : Hid ((ps0 rl).length = m + 1) := zh (by rw [← hmm]; exact fillF_length _ _ _)
 have HIL : Hid ((idF (m + 1)).length = m + 1) := zh (fillF_length _ _ _)
 have HE : Hid (∀ wr, Ext W wr → wr.cell? ⟨g0, 0, none⟩ = some nv ∧ wr.cell? ⟨g0, 1, none⟩ = some rv ∧ g0 < wr.heap.size) := zh (fun wr e => by
  have := ext_block B1 e
  have b0 := cell_of_row _ _ 0 _ _ _ this
  have b1 := cell_of_row _ _ 1 _ _ _ this
  simp at b0 b1
  exact ⟨b0, b1, lt_of_heap this⟩)
 have HRV : Hid (rv = .slice (some ⟨gr, orr, none⟩) m d) := zh (by rw [hrv, hmm])
 have HR : Hid (∀ wr, Ext W wr → ∀ i, i < m → wr.cell? ⟨gr, orr + i, none⟩ = some (.int .i64 (rl.getD i 0)) ∧ gr < wr.heap.size ∧ -1 ≤ rl.getD i 0 ∧ rl.getD i 0 < 16) := zh (fun wr e i hi => by
  have hlt : i < rl.length := by omega
  have h3 := hO.rule rl[i] (List.getElem_mem hlt)
  have h4 : rl.getD i 0 = rl[i] := by rw [List.getD_eq_getElem?_getD, List.getElem?_eq_getElem hlt]; rfl
  rw [h4]
  have := ext_cell (hrc i hlt) lgr e
  rw [h4] at this
  exact ⟨this, Nat.lt_of_lt_of_le lgr e.size, h3.1, h3.2⟩)
 have HAL : Hid (∀ (wr : World) (P : Option Addr) (pc i k : Nat) (ps : List Int), Ext W wr → Ints wr P ps → (ps = ps0 rl ∨ ps = idF (m + 1)) → i ≤ m → k < i → Calls Tryz.prog 183 #[.agg #[nv, rv], .slice P (m + 1) pc, .int .i64 i, .int .i64 k] wr fun e w' => e = .returned (.bool false) ∧ Ext wr w') := zh (fun wr P pc i k ps e hi hps him hki => by
  have hpl : ps.length = rl.length + 1 := by
   rcases hps with rfl | rfl
   ·exact fillF_length _ _ _
   ·rw [hmm]; exact fillF_length _ _ _
  have h := alike_any nv rv nl rl ps P pc i k false wr (hN.ext (X1.trans e)) hO hi hpl (by omega) (by omega) ⟨fun h => by (cases h), fun h => by
   exfalso
   rcases hps with rfl | rfl
   ·exact hA i k (by omega) hki h
   ·have := h.1
    rw [idF_get (by omega), idF_get (by omega)] at this
    omega⟩
  rw [hpl, hmm] at h
  exact h)
 have hmk := fun w (n : Nat) (hn : n ≤ 1000000) => mk_ints w n n rfl hn
 have hmk1 := fun w => mk_ints w (m + 1) ((m : Int) + 1) (by omega) (by omega)
 rw [hmm] at h1 h2
 simp only [hmm]
 clear hN hO hA hrv hB hrc hmm B1 X1 hmk
 go_enter Tryz.func151, Tryz.ntmps151
 go_wp2_with fail
 obtain ⟨pb, hpb⟩ : ∃ pb, W.heap.size = pb := ⟨_, rfl⟩
 obtain ⟨W1, hW1⟩ : ∃ W1, W.alloc (.cells (madeCells #[.int .i64 0] (m + 1)) 3) = W1 := ⟨_, rfl⟩
 have X2 : Ext W W1 := by rw [← hW1]; exact (by repeat first | exact xr _ | refine xa ?_ _ | refine xm ?_ _ _ | refine xd ?_ | refine xn ?_ _ | refine xs ?_ (by simp <;> omega) _)
 have HP1 : Hid (W1.heap[pb]? = some (.cells (iv (fillF (fun j => rl.getD j 0 + 1) 0 (m + 1))).toArray 3)) := zh (by rw [← hW1, ← hpb, ← fillF_zero]; exact heap_alloc_new _ _)
 have HX2 := zh X2
 have HPB := zh hpb
 simp only [hW1, hpb]
 clear hW1 hpb X2 b1 lb lgr hW hg0
 go_loopw [5] (fun i wr => ∃ k : Nat, k ≤ m ∧ i = .int .i64 k ∧ Hid (wr.heap[pb]? = some (.cells (iv (fillF (fun j => rl.getD j 0 + 1) k (m + 1))).toArray 3)) ∧ Hid (Ext W wr)) (fun i _ => m - (intOf i).toNat)
 case atStart => exact ⟨0, Nat.zero_le _, rfl, HP1, HX2⟩
 case round =>
  clear HP1 HX2
  obtain ⟨k, hk, rfl, hp, hx1⟩ := hrel
  by_cases hlt : k < m
  ·obtain ⟨_, e1, l0⟩ := HE.out _ hx1.out
   rw [HRV.out] at e1
   obtain ⟨r0, lr, hr1, hr2⟩ := HR.out _ hx1.out k hlt
   have hp2 := block_set hp.out (show k < m + 1 by omega)
   have q0 : wr.cell? ⟨pb, k, none⟩ = some (.int .i64 0) := by
    rw [cell_of_row _ _ k _ _ _ hp.out, List.getElem?_toArray]
    unfold iv
    rw [List.getElem?_map, fillF_get _ (by omega), if_neg (by omega)]
    rfl
   have f0 := row_frozen hp.out k
   have lp := lt_of_heap hp.out
   have hxx2 : Ext W (wr.setCell ⟨pb, k, none⟩ (.int .i64 (rl.getD k 0 + 1))) := hx1.out.setCell (by show _ ≤ pb; have := HPB.out; omega) _
   obtain ⟨x, hx⟩ : ∃ x, rl.getD k 0 = x := ⟨_, rfl⟩
   rw [hx] at r0 hr1 hr2 hxx2
   obtain ⟨W2, hW2⟩ : ∃ W2, wr.setCell ⟨pb, k, none⟩ (.int .i64 (x + 1)) = W2 := ⟨_, rfl⟩
   simp only [hx] at hp2
   rw [hW2] at hp2 hxx2
   have HP2 := zh hp2
   have HX2 := zh hxx2
   clear hp2 hxx2 hx
   go_wp2_with fail
   clear hW2 q0 f0
   go_roundw
   case rel => exact ⟨k + 1, by omega, by go_num, HP2, HX2⟩
   case measure => simp [intOf]; omega
  ·obtain rfl : k = m := by omega
   have HP0 : Hid (Ints wr (some ⟨pb, 0, none⟩) (ps0 rl)) := zh (by
    unfold ps0
    rw [HM.out]
    exact block_ints hp.out rfl)
   have HXW := zh hx1.out
   go_wp2_with fail
   clear hp hx1
   go_loopw [4, 6] (fun pv cnt wr => ∃ (P : Option Addr) (pc : Nat) (ps : List Int) (c : Nat), pv = .slice P (k + 1) pc ∧ cnt = .int .i64 c ∧ Hid (Ints wr P ps) ∧ (c = 0 ∧ ps = ps0 rl ∨ c = k + 1 ∧ ps = idF (k + 1)) ∧ Hid (Ext W wr)) (fun _ c _ => k + 1 - (intOf c).toNat)
   case atStart => exact ⟨_, _, _, 0, rfl, rfl, HP0, .inl ⟨rfl, rfl⟩, HXW⟩
   case round =>
    clear HP0 HXW
    obtain ⟨P, pc, ps, c, rfl, rfl, hps, hcc, hx1⟩ := hrel
    go_wp2_with fail
    obtain ⟨nb, hnb⟩ : ∃ nb, wr.heap.size = nb := ⟨_, rfl⟩
    obtain ⟨W3, hW3⟩ : ∃ W3, wr.alloc (.cells (madeCells #[.int .i64 0] (k + 1)) 3) = W3 := ⟨_, rfl⟩
    have HN3 : Hid (W3.heap[nb]? = some (.cells (iv (fillF (fun j => (j : Int)) 0 (k + 1))).toArray 3)) := zh (by rw [← hW3, ← hnb, ← fillF_zero]; exact heap_alloc_new _ _)
    have X3 : Ext wr W3 := by rw [← hW3]; exact (by repeat first | exact xr _ | refine xa ?_ _ | refine xm ?_ _ _ | refine xd ?_ | refine xn ?_ _ | refine xs ?_ (by simp <;> omega) _)
    have HX3 := zh (hx1.out.trans X3)
    have HPP : Hid (∀ b off, P = some ⟨b, off, none⟩ → b < nb) := zh (fun b off hP => by
     have hl : 0 < ps.length := by
      rcases hcc with ⟨_, rfl⟩ | ⟨_, rfl⟩
      ·rw [HPL.out]; omega
      ·rw [HIL.out]; omega
     obtain ⟨b', off', h1, h2, _⟩ := hps.out hl
     rw [hP] at h1
     injection h1 with h1
     injection h1 with h1
     omega)
    have HPS := zh (hps.out.ext X3)
    have HL3 : Hid (nb < W3.heap.size ∧ W.heap.size ≤ nb) := zh ⟨lt_of_heap HN3.out, by rw [← hnb]; exact hx1.out.size⟩
    simp only [hW3, hnb]
    clear hW3 hnb X3 hx1 hps
    go_loopw [8, 9] (fun fv iv' wr => ∃ i : Nat, i ≤ k + 1 ∧ iv' = .int .i64 i ∧ Hid (wr.heap[nb]? = some (.cells (iv (fillF (fun j => (j : Int)) i (k + 1))).toArray 3)) ∧ Hid (RowI wr W3.heap.size fv (idK i)) ∧ Hid (Ints wr P ps) ∧ Hid (Ext W wr) ∧ Hid (W3.heap.size ≤ wr.heap.size)) (fun _ i _ => k + 1 - (intOf i).toNat)
    case atStart => exact ⟨0, Nat.zero_le _, rfl, HN3, zh ⟨none, 0, rfl, OwnI.nil _ _⟩, HPS, HX3, zh (Nat.le_refl _)⟩
    case round =>
     clear HN3 HPS HX3
     obtain ⟨i, hi, rfl, hn, hf, hps, hx, hsz⟩ := hrel
     obtain ⟨FA, fc, rfl, hFA⟩ := hf.out
     rw [idK_length]
     by_cases hlt : i < k + 1
     ·have hik : i ≤ k := by omega
      have dik : decide (i ≤ k) = true := decide_eq_true hik
      have hn2 := block_set hn.out hlt
      have q0 : wr.cell? ⟨nb, i, none⟩ = some (.int .i64 0) := by
       rw [cell_of_row _ _ i _ _ _ hn.out, List.getElem?_toArray]
       unfold iv
       rw [List.getElem?_map, fillF_get _ hlt, if_neg (by omega)]
       rfl
      have f0 := row_frozen hn.out i
      have ln := lt_of_heap hn.out
      obtain ⟨W4, hW4⟩ : ∃ W4, wr.setCell ⟨nb, i, none⟩ (.int .i64 i) = W4 := ⟨_, rfl⟩
      have T4 : Turn (fun j => j = nb) wr (wr.setCell ⟨nb, i, none⟩ (.int .i64 i)) := Turn.set1 _ _ _
      rw [hW4] at hn2 T4
      have HN4 := zh hn2
      have HX4 := zh (T4.ext hx.out (fun j hj => by have := HL3.out.2; omega))
      have HF4 : Hid (OwnI W4 W3.heap.size FA fc (idK i)) := zh (own_keep hFA fun g hg => T4.block g (own_old hFA g hg) (by have := own_block hFA g hg; have := HL3.out.1; omega))
      have HP4 : Hid (Ints W4 P ps) := zh (fun h0 => by
       obtain ⟨b, off, hP, hb, hc⟩ := hps.out h0
       have hk := T4.block b hb (by have := HPP.out b off hP; omega)
       exact ⟨b, off, hP, Nat.lt_of_lt_of_le hb T4.size, fun j hj => (World.cell?_of_block (w := wr) (a := ⟨b, off + j, none⟩) hk).trans (hc j hj)⟩)
      have HS4 : Hid (W3.heap.size ≤ W4.heap.size) := zh (Nat.le_trans hsz.out T4.size)
      clear hn2 T4 hn hf hFA hps hx hsz
      go_wp2_with fail
      clear hW4 q0 f0 ln
      go_loopw [10] (fun kv w5 => ∃ j : Nat, j ≤ i ∧ kv = .int .i64 ((j : Int) - 1) ∧ Hid (Ext W4 w5)) (fun kv _ => (intOf kv + 1).toNat)
      case atStart => exact ⟨i, Nat.le_refl _, by go_num, zh (by repeat first | exact xr _ | refine xa ?_ _ | refine xm ?_ _ _ | refine xd ?_ | refine xn ?_ _ | refine xs ?_ (by simp <;> omega) _)⟩
      case round =>
       obtain ⟨j, hj, rfl, hx5⟩ := hrel
       obtain ⟨e0, e1, l0⟩ := HE.out _ (HX4.out.trans hx5.out)
       rcases Nat.eq_zero_or_pos j with rfl | h0
       ·have e3 : ((0 : Nat) : Int) - 1 = -1 := by omega
        simp only [e3]
        have HN5 := zh (ext_block HN4.out hx5.out)
        have n5 : wr.cell? ⟨nb, i, none⟩ = some (.int .i64 i) := by
         rw [cell_of_row _ _ i _ _ _ HN5.out, List.getElem?_toArray]
         unfold iv
         rw [List.getElem?_map, fillF_get _ hlt, if_pos (by omega)]
         rfl
        have l5 := lt_of_heap HN5.out
        have HF5 : Hid (RowI wr W3.heap.size (.slice FA i fc) (idK i)) := zh ⟨FA, fc, by rw [idK_length], own_ext HF4.out hx5.out⟩
        have HKL : Hid ((idK i).length ≤ 1000000) := zh (by rw [idK_length]; omega)
        have HSZ5 : Hid (W3.heap.size ≤ wr.heap.size) := zh (Nat.le_trans HS4.out hx5.out.size)
        go_wp2_with (at_builtin; refine app_intO W3 (by rfl) (.tmp 70) (.tmp 72) rfl (HF5.out.ext (by repeat first | exact xr _ | refine xa ?_ _ | refine xm ?_ _ _ | refine xd ?_ | refine xn ?_ _ | refine xs ?_ (by simp <;> omega) _)) (i : Int) wr.heap.size rfl rfl (by simp) (by rw [cell_of_row _ _ 0 _ _ _ (heap_alloc_new wr (.cells #[.int .i64 (i : Int)] 3))]; rfl) HKL.out (by have := HSZ5.out; simp <;> omega) ?_; intro v6 w6 hr6 hg6 hat6)
        have T6 : Turn (fun g => (Value.slice FA i fc).ownBlock = some g) (wr.alloc (.cells #[.int .i64 (i : Int)] 3)) w6 := Turn.grown hg6 (fun g hg _ => hg)
        have hlow : ∀ g, (Value.slice FA i fc).ownBlock = some g → W3.heap.size ≤ g := fun g hg => by
         have := HF4.out
         unfold OwnI at this
         rw [idK_length] at this
         exact own_block this g hg
        have HN6 := zh (T6.keep (ext_block HN5.out (by repeat first | exact xr _ | refine xa ?_ _ | refine xm ?_ _ _ | refine xd ?_ | refine xn ?_ _ | refine xs ?_ (by simp <;> omega) _)) (fun hh => by have := hlow _ hh; have := HL3.out.1; omega))
        have HX6 := zh (T6.ext ((HX4.out.trans hx5.out).trans ((by repeat first | exact xr _ | refine xa ?_ _ | refine xm ?_ _ _ | refine xd ?_ | refine xn ?_ _ | refine xs ?_ (by simp <;> omega) _) : Ext wr (wr.alloc (.cells #[.int .i64 (i : Int)] 3)))) (fun g hg => by have := hlow _ hg; have := HL3.out; omega))
        have HP6 : Hid (Ints w6 P ps) := zh (fun h0 => by
         obtain ⟨b, off, hP, hb, hc⟩ := (HP4.out.ext (hx5.out.trans ((by repeat first | exact xr _ | refine xa ?_ _ | refine xm ?_ _ _ | refine xd ?_ | refine xn ?_ _ | refine xs ?_ (by simp <;> omega) _) : Ext wr (wr.alloc (.cells #[.int .i64 (i : Int)] 3))))) h0
         have hk := T6.block b hb (fun hh => by have := hlow _ hh; have := HPP.out b off hP; have := HL3.out.1; omega)
         exact ⟨b, off, hP, Nat.lt_of_lt_of_le hb T6.size, fun j hj => (World.cell?_of_block (w := wr.alloc (.cells #[.int .i64 (i : Int)] 3)) (a := ⟨b, off + j, none⟩) hk).trans (hc j hj)⟩)
        have HS6 : Hid (W3.heap.size ≤ w6.heap.size) := zh (by have h1 := T6.size; have h2 := HSZ5.out; simp at h1; omega)
        go_roundw
        case rel => exact ⟨i + 1, by omega, by go_num, HN6, zh (by rw [idK_succ]; exact hr6), HP6, HX6, HS6⟩
        case measure => simp [intOf]; omega
       ·obtain ⟨j', rfl⟩ : ∃ j', j = j' + 1 := ⟨j - 1, by omega⟩
        have e3 : ((j' + 1 : Nat) : Int) - 1 = (j' : Int) := by omega
        simp only [e3]
        have hF5 := (OwnI.ext HF4.out hx5.out).ints.1
        obtain ⟨gf, of_, rfl, lf, hfc⟩ := hF5.get (by rw [idK_length]; omega)
        have f0 := hfc j' _ (idK_get (by omega))
        have HC := zh (HAL.out wr.drew P pc i j' ps ((HX4.out.trans hx5.out).trans (by repeat first | exact xr _ | refine xa ?_ _ | refine xm ?_ _ _ | refine xd ?_ | refine xn ?_ _ | refine xs ?_ (by simp <;> omega) _)) ((HP4.out.ext hx5.out).ext (by repeat first | exact xr _ | refine xa ?_ _ | refine xm ?_ _ _ | refine xd ?_ | refine xn ?_ _ | refine xs ?_ (by simp <;> omega) _)) (hcc.imp And.right And.right) (by omega) (by omega))
        clear hF5 hfc
        go_upto_region 17 with fail
        refine wp_region_bt (8) (pures_bt [1, 2, 3, 4, 5] (softs_bt [0, 6] (.step 7 .fin))) (by kernel_rfl) (by kernel_rfl) ?_
        refine bt_pures _ fun K hK => ?_; simp only [pick, nthC]; (repeat go_big_quiet_step (fail)); refine wpQuiet_nil (hK _ ?_); clear hK K
        refine bt_softs _ fun K hK => ?_; simp only [pick, nthC]; (repeat go_big_quiet_step (fail)); refine wpQuiet_nil (hK _ ?_); clear hK K
        refine bt_step fun next hn => ?_; simp only [pick, nthC]
        go_wp2_with fail
        refine HC.out.mono ?_
        rintro e w6 ⟨rfl, hx6⟩
        have HY6 : Hid (Ext wr w6) := zh (Ext.trans (by repeat first | exact xr _ | refine xa ?_ _ | refine xm ?_ _ _ | refine xd ?_ | refine xn ?_ _ | refine xs ?_ (by simp <;> omega) _) hx6)
        clear hx6 HC
        go_wp2_with fail
        refine segQ_mk (fun _ => laid HY6.out) (hn _ _ ?_)
        clear hn next
        (refine bt_fin ?_)
        go_wp2_with fail
        go_roundw
        case rel => exact ⟨j', by omega, by go_num, zh (hx5.out.trans HY6.out)⟩
        case measure => simp [intOf]; try omega
     ·obtain rfl : i = k + 1 := by omega
      have hid : Ints wr (some ⟨nb, 0, none⟩) (idF (k + 1)) := block_ints hn.out rfl
      have HID := zh hid
      rcases hcc with ⟨rfl, rfl⟩ | ⟨rfl, rfl⟩
      ·go_wp2_with fail
       go_roundw
       case rel => exact ⟨_, _, _, k + 1, rfl, by go_num, HID, .inr ⟨rfl, rfl⟩, hx⟩
       case measure => simp [intOf]; try omega
      ·go_wp2_with fail
       go_ret
       exact ⟨_, _, rfl, HID.out, HX.out.trans hx.out⟩
end Go.Proofs.YthpmncdfaggkiaaGreat
namespace Go.Proofs.YthpmncdfaggkiaaGreat
open Go.RowKit
def wordN : List Int := tlF wordT 768
def wordR : List Int := [-1, 1, 0]
theorem tv_word (n : Nat) : -1 ≤ tv (wordT n) ∧ tv (wordT n) < 3 := by
 unfold wordT
 repeat' split
 all_goals simp [tv]
theorem wordN_get {n : Nat} (h : n < 768) : wordN.getD n 0 = tv (wordT n) := by
 unfold wordN tlF
 rw [List.getD_eq_getElem?_getD, List.getElem?_map, List.getElem?_range h]
 rfl
theorem dfaok_words : DfaOk wordN wordR := by
 refine ⟨by simp [wordR], by simp [wordR], by unfold wordN; rw [tlF_length]; rfl, by simp [wordR], fun x hx => ?_⟩
 unfold wordN tlF at hx
 obtain ⟨n, _, rfl⟩ := List.mem_map.1 hx
 have := tv_word n
 exact ⟨this.1, this.2⟩
theorem apart_words : ∀ i k, i ≤ wordR.length → k < i → ¬ alikeF wordN wordR.length (ps0 wordR) i k := by
 intro i k hi hk ⟨h1, h2⟩
 have hp : ps0 wordR = [0, 2, 1, 0] := by decide
 rw [hp] at h1 h2
 have hi' : i ≤ 3 := hi
 have hc : (i = 1 ∧ k = 0) ∨ (i = 2 ∧ k = 0) ∨ (i = 2 ∧ k = 1) ∨ (i = 3 ∧ k = 0) ∨ (i = 3 ∧ k = 1) ∨ (i = 3 ∧ k = 2) := by omega
 rcases hc with ⟨rfl, rfl⟩ | ⟨rfl, rfl⟩ | ⟨rfl, rfl⟩ | ⟨rfl, rfl⟩ | ⟨rfl, rfl⟩ | ⟨rfl, rfl⟩
 all_goals first
  | (exact absurd h1 (by decide))
  | (have h3 := h2 32 (by omega)
     have e3 : toF wordN wordR.length 3 32 = 3 := by unfold toF; rw [if_pos (by decide)]; rfl
     have e0 : toF wordN wordR.length 0 32 = 1 := by
      unfold toF
      rw [if_neg (by decide), wordN_get (by omega)]
      decide
     rw [e3, e0] at h3
     exact absurd h3 (by decide))
def zWord : Cl := unionF Cl.zero (rangeL 97 26)
def zGap : Cl := unionF Cl.zero (rangeL 32 1)
theorem zWord_all : (List.range 256).all (fun b => hasF zWord b == decide (97 ≤ b ∧ b ≤ 122)) = true := by kernel_rfl
theorem zGap_all : (List.range 256).all (fun b => hasF zGap b == decide (b = 32)) = true := by kernel_rfl
theorem zWord_has (b : Nat) (h : b < 256) : hasF zWord b = decide (97 ≤ b ∧ b ≤ 122) := by
 have := List.all_eq_true.1 zWord_all b (List.mem_range.2 h)
 simpa using this
theorem zGap_has (b : Nat) (h : b < 256) : hasF zGap b = decide (b = 32) := by
 have := List.all_eq_true.1 zGap_all b (List.mem_range.2 h)
 simpa using this
theorem zWord_ok : zWord.ok := by
 unfold Cl.ok U64
 decide
theorem zGap_ok : zGap.ok := by
 unfold Cl.ok U64
 decide
theorem wordFound : Found [Cl.zero, zWord, zGap] [[1, 2], [1], [2]] [-1, 0, 1] [-1, 1, 0] [0, 2, 1] wordT := found_words zWord zGap zWord_has zGap_has zWord_ok zGap_ok
end Go.Proofs.YthpmncdfaggkiaaGreat
namespace Go.Proofs.YthpmncdfaggkiaaGreat
open Go.RowKit Go.Maps
attribute [local go_sem] more_drew more_drewN more_size more_cell more_frozen more_setCell drew_more drewN_more lt_add_r lt_add_r2 lt_add_r3 lt_add_r4 lt_add_r5 lt_add_r6 lt_add_r7 lt_add_r8 lt_add_r9 lt_add_r10 lt_self_r lt_self_r2
theorem law_int : Keyed Tryz.prog 3 := int_keyed Tryz.underlying3
def MapN (w : World) (b n : Nat) (f : Int → Option Int) : Prop :=
 ∃ D : DataW Unit, w.ownsMap Tryz.prog 3 (plainElem Tryz.prog 3) b n D ∧ IsMap D ∧ ∀ x : Int, has D (.int .i64 x) = (f x).isSome ∧ D.atKey (.int .i64 x) (.lit (.int .i64 0)) = .lit (.int .i64 ((f x).getD 0))
theorem MapN.made (w : World) : MapN (w.alloc (.map #[] 0)) w.heap.size 0 fun _ => none := ⟨.map [], World.ownsMap_made _ _ _ _, isMap_empty, fun _ => ⟨rfl, rfl⟩⟩
theorem MapN.keep {w w' : World} {b n : Nat} {f : Int → Option Int} {S : Nat → Prop} (h : MapN w b n f) (t : Turn S w w') (hS : ¬ S b) : MapN w' b n f := by
 obtain ⟨D, ⟨es, cl, h1, h3⟩, h2⟩ := h
 exact ⟨D, ⟨es, cl, (t.block b (lt_of_heap h1) hS).trans h1, h3⟩, h2⟩
theorem MapN.ext {w w' : World} {b n : Nat} {f : Int → Option Int} (h : MapN w b n f) (e : Ext w w') : MapN w' b n f := by
 obtain ⟨D, ⟨es, cl, h1, h3⟩, h2⟩ := h
 exact ⟨D, ⟨es, cl, ext_block h1 e, h3⟩, h2⟩
theorem MapN.obj {w : World} {b n : Nat} {f : Int → Option Int} (h : MapN w b n f) : ∃ es cl, w.heap[b]? = some (.map es cl) := by
 obtain ⟨D, ⟨es, cl, h1, h3⟩, h2⟩ := h
 exact ⟨es, cl, h1⟩
theorem MapN.ne {w : World} {b n g : Nat} {f : Int → Option Int} {cs : Array Value} {T : TypeId} (h : MapN w b n f) (hg : w.heap[g]? = some (.cells cs T)) : b ≠ g := by
 obtain ⟨es, cl, h1⟩ := h.obj
 rintro rfl
 rw [h1] at hg
 cases hg
set_option maxRecDepth 100000 in
theorem MapN.look {w : World} {b n : Nat} {f : Int → Option Int} (h : MapN w b n f) (k : Int) (h1 : -9223372036854775808 ≤ k) (h2 : k ≤ 9223372036854775807) :
 (Instr.lookup 205 (.map (some b)) (.int .i64 k) true).run Tryz.prog w = .ok (.tuple #[.int .i64 ((f k).getD 0), .bool (f k).isSome]) w := by
 obtain ⟨D, h3, _, h4⟩ := h
 obtain ⟨v, ps, hrun, hv⟩ := h3.look_ok law_int Tryz.underlying205 (zero_int w) (plainElem_int Tryz.underlying3 (wf_int (by omega) (by omega))) (keyOf_int_mk (P := Tryz.prog) Tryz.underlying3 (wf_int h1 h2))
 obtain ⟨c, rfl, hc, hwc⟩ := plainElem_int_inv Tryz.underlying3 hv
 simp only [Prod.mk.injEq] at hc
 have h5 := hc.1
 rw [(h4 _).2] at h5
 injection h5 with h5
 injection h5 with _ h5
 rw [hrun, h5, (h4 _).1]
set_option maxRecDepth 100000 in
theorem MapN.put {w : World} {b n : Nat} {f : Int → Option Int} (h : MapN w b n f) (hn : n ≤ 1000000000) (k u : Int) (hk1 : -9223372036854775808 ≤ k) (hk2 : k ≤ 9223372036854775807) (h1 : -9223372036854775808 ≤ u) (h2 : u ≤ 9223372036854775807) :
 ∃ w', (Instr.mapUpdate 205 (.map (some b)) (.int .i64 k) (.int .i64 u)).run Tryz.prog w = .ok () w' ∧ MapN w' b (n + 1) (fun y => if y = k then some u else f y) ∧ Turn (fun i => i = b) w w' := by
 obtain ⟨D, h5, h6, h7⟩ := h
 have hn2 : n < maxLen := Nat.lt_of_le_of_lt hn (by unfold maxLen; decide)
 obtain ⟨w', hrun, ho, hgr⟩ := h5.update law_int Tryz.underlying205 hn2 (keyOf_int_mk (P := Tryz.prog) Tryz.underlying3 (wf_int hk1 hk2)) (plainElem_int Tryz.underlying3 (wf_int h1 h2))
 refine ⟨w', hrun, ⟨_, ho, h6.put _ _, fun y => ?_⟩, Turn.grown hgr fun i hi _ => by injection hi with hi; exact hi.symm⟩
 dsimp only
 by_cases hy : y = k
 ·subst hy
  rw [if_pos rfl]
  exact ⟨(has_put_same h6 (by trivial) _).trans rfl, atKey_put_same h6 (by trivial) _ _⟩
 ·rw [if_neg hy]
  exact ⟨(has_put_other (fun he => hy (by injection he)) _).trans (h7 y).1, (atKey_put_other (fun he => hy (by injection he)) _ _).trans (h7 y).2⟩
def Apart (x y : Value) : Prop := ∀ g, x.ownBlock = some g → y.ownBlock ≠ some g
theorem Apart.symm {x y : Value} (h : Apart x y) : Apart y x := fun g h1 h2 => h g h2 h1
theorem RowI.own {w : World} {base : Nat} {v : Value} {xs : List Int} (h : RowI w base v xs) : w.ownsRow base 3 1 v xs.length (iv xs) := by
 obtain ⟨A, c, rfl, h⟩ := h
 exact h
theorem RowI.keepT {w w' : World} {base : Nat} {x : Value} {xs : List Int} {S : Nat → Prop} (h : RowI w base x xs) (t : Turn S w w') (hS : ∀ g, x.ownBlock = some g → ¬ S g) : RowI w' base x xs := by
 have hx := h.own
 obtain ⟨A, c, rfl, h⟩ := h
 exact ⟨A, c, rfl, own_keep h fun k hk => t.block k (own_old hx k hk) (hS k hk)⟩
theorem RowI.obj {w : World} {base : Nat} {x : Value} {xs : List Int} (h : RowI w base x xs) : ∀ g, x.ownBlock = some g → ∃ cur, w.heap[g]? = some (.cells cur 3) := own_obj h.own
theorem Apart.grown {w : World} {base : Nat} {v v' x : Value} {xs : List Int} (h : Apart v x) (hx : RowI w base x xs) (hat : v'.ownBlock = v.ownBlock ∨ v'.ownBlock = some w.heap.size) : Apart v' x := fun g h1 h2 => by
 rcases hat with h3 | h3
 ·exact h g (h3 ▸ h1) h2
 ·rw [h3] at h1; injection h1 with h1; have := own_old hx.own g h2; omega
structure Ls (w0 w : World) (db mb : Nat) (nv rv sv : Value) (nl rl sl : List Int) (f : Int → Option Int) : Prop where
 blk : w.heap[db]? = some (.cells #[nv, rv] 94)
 low : w0.heap.size ≤ db
 nxt : RowI w w0.heap.size nv nl
 rul : RowI w w0.heap.size rv rl
 sts : RowI w w0.heap.size sv sl
 a1 : Apart nv rv
 a2 : Apart nv sv
 a3 : Apart rv sv
 map : ∃ q, q ≤ sl.length ∧ MapN w mb q f
 mlow : w0.heap.size ≤ mb
 ext : Ext w0 w
section
variable {w0 w w2 : World} {db mb : Nat} {nv rv sv v' : Value} {nl rl sl : List Int} {f : Int → Option Int} {y : Int}
theorem Ls.toExt (h : Ls w0 w db mb nv rv sv nl rl sl f) (e : Ext w w2) : Ls w0 w2 db mb nv rv sv nl rl sl f := by
 obtain ⟨q, h1, h2⟩ := h.map
 exact ⟨ext_block h.blk e, h.low, h.nxt.ext e, h.rul.ext e, h.sts.ext e, h.a1, h.a2, h.a3, ⟨q, h1, h2.ext e⟩, h.mlow, h.ext.trans e⟩
theorem Ls.stepN (h : Ls w0 w db mb nv rv sv nl rl sl f) (hr : RowI w2 w0.heap.size v' (nl ++ [y])) (hg : w.grownBy w2 nv.ownBlock) (hat : v'.ownBlock = nv.ownBlock ∨ v'.ownBlock = some w.heap.size) : ∃ A l c, v' = .slice A l c ∧ w2.heap[db]? = some (.cells #[nv, rv] 94) ∧ Ls w0 (w2.setCell ⟨db, 0, none⟩ v') db mb v' rv sv (nl ++ [y]) rl sl f := by
 obtain ⟨q, h1, h2⟩ := h.map
 have T : Turn (fun g => nv.ownBlock = some g) w w2 := Turn.grown hg (fun g hg _ => hg)
 have hb2 : w2.heap[db]? = some (.cells #[nv, rv] 94) := grown_other h.nxt.own hg (Ext.refl _) h.blk (by decide)
 have T2 : Turn (fun k => k = db) w2 (w2.setCell ⟨db, 0, none⟩ v') := Turn.set1 _ _ _
 have nd : ∀ {x : Value} {xs : List Int}, RowI w2 w0.heap.size x xs → ∀ g, x.ownBlock = some g → ¬ g = db := fun hx g hg he => by
  obtain ⟨cur, hcur⟩ := hx.obj g hg
  subst he
  rw [hb2] at hcur
  cases hcur
 have nm : ¬ nv.ownBlock = some mb := fun hh => by
  obtain ⟨cur, hcur⟩ := h.nxt.obj _ hh
  exact h2.ne hcur rfl
 have r2 := h.rul.keepT T (fun g hg hn => h.a1 g hn hg)
 have s2 := h.sts.keepT T (fun g hg hn => h.a2 g hn hg)
 have m2 := h2.keep T nm
 obtain ⟨A, c, hv, _⟩ := id hr
 refine ⟨A, _, c, hv, hb2, setCell_row hb2 v', h.low, hr.keepT T2 (nd hr), r2.keepT T2 (nd r2), s2.keepT T2 (nd s2), h.a1.grown h.rul hat, h.a2.grown h.sts hat, h.a3, ⟨q, h1, m2.keep T2 (m2.ne hb2)⟩, h.mlow, ?_⟩
 exact T2.ext (T.ext h.ext (fun k hk => own_block h.nxt.own k hk)) (fun k hk => by have := h.low; omega)
theorem Ls.stepR (h : Ls w0 w db mb nv rv sv nl rl sl f) (hr : RowI w2 w0.heap.size v' (rl ++ [y])) (hg : w.grownBy w2 rv.ownBlock) (hat : v'.ownBlock = rv.ownBlock ∨ v'.ownBlock = some w.heap.size) : ∃ A l c, v' = .slice A l c ∧ w2.heap[db]? = some (.cells #[nv, rv] 94) ∧ (∀ g, g < w0.heap.size → w2.heap[g]? = w.heap[g]?) ∧ (∀ g, sv.ownBlock = some g → w2.heap[g]? = w.heap[g]?) ∧ Ls w0 (w2.setCell ⟨db, 1, none⟩ v') db mb nv v' sv nl (rl ++ [y]) sl f := by
 obtain ⟨q, h1, h2⟩ := h.map
 have T : Turn (fun g => rv.ownBlock = some g) w w2 := Turn.grown hg (fun g hg _ => hg)
 have hb2 : w2.heap[db]? = some (.cells #[nv, rv] 94) := grown_other h.rul.own hg (Ext.refl _) h.blk (by decide)
 have T2 : Turn (fun k => k = db) w2 (w2.setCell ⟨db, 1, none⟩ v') := Turn.set1 _ _ _
 have nd : ∀ {x : Value} {xs : List Int}, RowI w2 w0.heap.size x xs → ∀ g, x.ownBlock = some g → ¬ g = db := fun hx g hg he => by
  obtain ⟨cur, hcur⟩ := hx.obj g hg
  subst he
  rw [hb2] at hcur
  cases hcur
 have nm : ¬ rv.ownBlock = some mb := fun hh => by
  obtain ⟨cur, hcur⟩ := h.rul.obj _ hh
  exact h2.ne hcur rfl
 have r2 := h.nxt.keepT T (fun g hg hn => h.a1 g hg hn)
 have s2 := h.sts.keepT T (fun g hg hn => h.a3 g hn hg)
 have m2 := h2.keep T nm
 obtain ⟨A, c, hv, _⟩ := id hr
 refine ⟨A, _, c, hv, hb2, fun g hg => ?_, fun g hg => ?_, setCell_row hb2 v', h.low, r2.keepT T2 (nd r2), hr.keepT T2 (nd hr), s2.keepT T2 (nd s2), (h.a1.symm.grown h.nxt hat).symm, h.a2, h.a3.grown h.sts hat, ⟨q, h1, m2.keep T2 (m2.ne hb2)⟩, h.mlow, ?_⟩
 ·exact T.block g (Nat.lt_of_lt_of_le hg h.ext.size) (fun hh => by have := own_block h.rul.own g hh; omega)
 ·exact T.block g (own_old h.sts.own g hg) (fun hh => h.a3 g hh hg)
 ·exact T2.ext (T.ext h.ext (fun k hk => own_block h.rul.own k hk)) (fun k hk => by have := h.low; omega)
theorem Ls.stepS (h : Ls w0 w db mb nv rv sv nl rl sl f) (hr : RowI w2 w0.heap.size v' (sl ++ [y])) (hg : w.grownBy w2 sv.ownBlock) (hat : v'.ownBlock = sv.ownBlock ∨ v'.ownBlock = some w.heap.size) : Ls w0 w2 db mb nv rv v' nl rl (sl ++ [y]) f ∧ ∀ q, MapN w mb q f → MapN w2 mb q f := by
 obtain ⟨q, h1, h2⟩ := h.map
 have T : Turn (fun g => sv.ownBlock = some g) w w2 := Turn.grown hg (fun g hg _ => hg)
 have hb2 : w2.heap[db]? = some (.cells #[nv, rv] 94) := grown_other h.sts.own hg (Ext.refl _) h.blk (by decide)
 have nm : ¬ sv.ownBlock = some mb := fun hh => by
  obtain ⟨cur, hcur⟩ := h.sts.obj _ hh
  exact h2.ne hcur rfl
 exact ⟨⟨hb2, h.low, h.nxt.keepT T (fun g hg hn => h.a2 g hg hn), h.rul.keepT T (fun g hg hn => h.a3 g hg hn), hr, h.a1, (h.a2.symm.grown h.nxt hat).symm, (h.a3.symm.grown h.rul hat).symm, ⟨q, by simp; omega, h2.keep T nm⟩, h.mlow, T.ext h.ext (fun k hk => own_block h.sts.own k hk)⟩, fun q hq => hq.keep T nm⟩
theorem Ls.put {q : Nat} (h : Ls w0 w db mb nv rv sv nl rl (sl ++ [y]) f) (hm : MapN w mb q f) (hq : q ≤ sl.length) {w' : World} {g : Int → Option Int} (hm' : MapN w' mb (q + 1) g) (t : Turn (fun i => i = mb) w w') : Ls w0 w' db mb nv rv sv nl rl (sl ++ [y]) g := by
 have nd : ∀ {x : Value} {xs : List Int}, RowI w w0.heap.size x xs → ∀ g, x.ownBlock = some g → ¬ g = mb := fun hx g hg he => by
  obtain ⟨cur, hcur⟩ := hx.obj g hg
  exact hm.ne hcur he.symm
 exact ⟨t.keep h.blk (Ne.symm (hm.ne h.blk)), h.low, h.nxt.keepT t (nd h.nxt), h.rul.keepT t (nd h.rul), h.sts.keepT t (nd h.sts), h.a1, h.a2, h.a3, ⟨q + 1, by simp; omega, hm'⟩, h.mlow, t.ext h.ext (fun k hk => by have := h.mlow; omega)⟩
end
structure Bfs (T : Nat → Option Nat) (m : Nat) : Prop where
 known : ∀ n k, n < 256 * m → T n = some k → k < m
 next : ∀ n k p, n < 256 * m → T n = some k → 1 ≤ p → (∀ j i, j < n → T j = some i → i < p) → k ≤ p
 all : ∀ i, 1 ≤ i → i < m → ∃ n, n < 256 * i ∧ T n = some i
theorem tlF_get (T : Nat → Option Nat) {n k : Nat} (h : k < n) : (tlF T n).getD k 0 = tv (T k) := by
 unfold tlF
 rw [List.getD_eq_getElem?_getD, List.getElem?_map, List.getElem?_range h]
 rfl
theorem toF_none {T : Nat → Option Nat} {m i b : Nat} (hi : i < m) (hb : b < 256) (h : T (256 * i + b) = none) : toF (tlF T (256 * m)) m i b = m := by
 unfold toF
 rw [if_neg (by omega), tlF_get T (by omega), h, if_pos (by decide)]
theorem toF_some {T : Nat → Option Nat} {m i b k : Nat} (hi : i < m) (hb : b < 256) (h : T (256 * i + b) = some k) : toF (tlF T (256 * m)) m i b = k := by
 unfold toF
 rw [if_neg (by omega), tlF_get T (by omega), h, if_neg (by simp [tv])]
 rfl
def LsI (w0 w : World) (db mb m p n i : Nat) (T : Nat → Option Nat) (R : List Int) (sv : Value) : Prop :=
 (∃ nv rv f, Ls w0 w db mb nv rv sv (tlF T n) (R.take i) (idK p) f ∧ ∀ j : Nat, f j = if j < p then some (j : Int) else none) ∧ 1 ≤ p ∧ p ≤ m ∧ ∀ j k, j < n → T j = some k → k < p
set_option maxRecDepth 100000 in
set_option maxHeartbeats 1500000 in
theorem least_any (nv rv : Value) (T : Nat → Option Nat) (R : List Int) (w : World) (hN : DfaRd w nv rv (tlF T (256 * R.length)) R) (hO : DfaOk (tlF T (256 * R.length)) R) (hA : ∀ i k, i ≤ R.length → k < i → ¬ alikeF (tlF T (256 * R.length)) R.length (ps0 R) i k) (hF : Bfs T R.length) :
 Calls Tryz.prog 99 #[.agg #[nv, rv]] w fun e w' => ∃ nv' rv', e = .returned (.tuple #[.agg #[nv', rv'], .int .i64 0]) ∧ DfaRd w' nv' rv' (tlF T (256 * R.length)) R ∧ Ext w w' := by
 obtain ⟨g0, hg0⟩ : ∃ b, w.heap.size = b := ⟨_, rfl⟩
 obtain ⟨W, hW⟩ : ∃ W, (w.alloc (.cells #[nv, rv] 94)).alloc (.cells #[nil0, nil0] 94) = W := ⟨_, rfl⟩
 have X1 : Ext w W := by rw [← hW]; exact (by repeat first | exact xr _ | refine xa ?_ _ | refine xm ?_ _ _ | refine xd ?_ | refine xn ?_ _ | refine xs ?_ (by simp <;> omega) _)
 have B1 : W.heap[g0]? = some (.cells #[nv, rv] 94) := by rw [← hW, ← hg0]; exact (by simp only [heap_alloc_get, World.size_alloc]; (repeat (split; (first | rfl | (exfalso; omega)))); (try (first | (exfalso; omega) | simp_all)))
 have R1 : W.heap[g0 + 1]? = some (.cells #[nil0, nil0] 94) := by rw [← hW, ← hg0]; exact (by simp only [heap_alloc_get, World.size_alloc]; (repeat (split; (first | rfl | (exfalso; omega)))); (try (first | (exfalso; omega) | simp_all)))
 obtain ⟨m, hmm⟩ : ∃ m, R.length = m := ⟨_, rfl⟩
 have hm1 := hO.one
 have hm2 := hO.most
 have HCK := zh (check_dfa nv rv _ R W (hN.ext X1) hO)
 have HPA := zh (fun w1 (e : Ext W w1) => parts_apart nv rv _ R w1 (hN.ext (X1.trans e)) hO hA)
 have HTO := zh (fun w1 (e : Ext W w1) i b hi hb => to_any nv rv _ R i b w1 (hN.ext (X1.trans e)) hO hi hb)
 obtain ⟨B, d, hrv, hB, hBd⟩ := hN.2
 obtain ⟨gr, orr, rfl, lgr, hrc⟩ := (hB.ext X1) hm1
 rw [hmm] at hF hm1 hm2 hrv
 simp only [hmm] at HCK HPA HTO ⊢
 have b0 := cell_of_row _ _ 0 _ _ _ B1
 have b1 := cell_of_row _ _ 1 _ _ _ B1
 have lb := lt_of_heap B1
 simp at b0 b1
 have HB1 := zh B1
 have HR1 := zh R1
 have HRV := zh hrv
 have HF := zh hF
 have HM := zh hmm
 have HX1 := zh X1
 have HG0 := zh hg0
 have HRC : Hid (∀ i, i < m → ∃ r, R[i]? = some r ∧ W.cell? ⟨gr, orr + i, none⟩ = some (.int .i64 r)) := zh (fun i hi => ⟨R[i]'(by omega), List.getElem?_eq_getElem (by omega), by have := hrc i (by omega); rwa [List.getD_eq_getElem?_getD, List.getElem?_eq_getElem (by omega)] at this⟩)
 clear hN hO hA hB hrc hF hmm B1 R1 X1 hBd hrv
 go_enter Tryz.func99, Tryz.ntmps99
 go_wp2_with fail
 try simp only [hg0]
 refine HCK.out.mono ?_
 rintro e W2 ⟨rfl, hx2⟩
 have HX2 := zh hx2
 have c0 := ext_cell b0 lb hx2
 have c1 := ext_cell b1 lb hx2
 have lb2 := Nat.lt_of_lt_of_le lb hx2.size
 rw [HRV.out] at c1
 clear b0 b1 lb hx2 hW hg0 HCK
 go_upto_region 4 with fail
 refine wp_region_bt (7) (pures_bt [2] (softs_bt [0, 3, 4] (.step 1 (pures_bt [5, 6] .fin)))) (by kernel_rfl) (by kernel_rfl) ?_
 refine bt_pures _ fun K hK => ?_; simp only [pick, nthC]; (repeat go_big_quiet_step (fail)); refine wpQuiet_nil (hK _ ?_); clear hK K
 refine bt_softs _ fun K hK => ?_; simp only [pick, nthC]; (repeat go_big_quiet_step (fail)); refine wpQuiet_nil (hK _ ?_); clear hK K
 refine bt_step fun next hn => ?_; simp only [pick, nthC]
 go_wp2_with fail
 rw [← HRV.out]
 refine (HPA.out _ (HX2.out.trans (by repeat first | exact xr _ | refine xa ?_ _ | refine xm ?_ _ _ | refine xd ?_ | refine xn ?_ _ | refine xs ?_ (by simp <;> omega) _))).mono ?_
 rintro e W3 ⟨PA, pc, rfl, hP, hx3⟩
 have HX3 := zh (Ext.trans ((by repeat first | exact xr _ | refine xa ?_ _ | refine xm ?_ _ _ | refine xd ?_ | refine xn ?_ _ | refine xs ?_ (by simp <;> omega) _) : Ext W2 W2.drew) hx3)
 obtain ⟨gp, op, rfl, lgp, hpc⟩ := hP (by rw [idF, fillF_length]; omega)
 have HPC : Hid (∀ w1, Ext W3 w1 → ∀ j : Nat, j ≤ m → w1.cell? ⟨gp, op + j, none⟩ = some (.int .i64 j) ∧ gp < w1.heap.size) := zh (fun w1 e j hj => ⟨by
  have := hpc j (by rw [idF, fillF_length]; omega)
  rw [idF_get (by omega)] at this
  exact ext_cell this lgp e, Nat.lt_of_lt_of_le lgp e.size⟩)
 clear hP hx3 hpc lgp HPA
 go_wp2_with fail
 refine segQ_mk (fun _ => laid HX3.out) (hn _ _ ?_)
 clear hn next
 refine bt_pures _ fun K hK => ?_; simp only [pick, nthC]; (repeat go_big_quiet_step (fail)); refine wpQuiet_nil (hK _ ?_); clear hK K
 (refine bt_fin ?_)
 have HX4 := zh (HX2.out.trans HX3.out)
 have HE : Hid (∀ w1, Ext W3 w1 → w1.cell? ⟨g0, 0, none⟩ = some nv ∧ w1.cell? ⟨g0, 1, none⟩ = some (.slice (some ⟨gr, orr, none⟩) m d) ∧ g0 < w1.heap.size ∧ w1.heap[g0 + 1]? = some (.cells #[nil0, nil0] 94) ∧ gr < w1.heap.size ∧ ∀ i, i < m → ∃ r, R[i]? = some r ∧ w1.cell? ⟨gr, orr + i, none⟩ = some (.int .i64 r)) := zh (fun w1 e => by
  have e' := HX4.out.trans e
  have b := ext_block HB1.out e'
  have b0 := cell_of_row _ _ 0 _ _ _ b
  have b1 := cell_of_row _ _ 1 _ _ _ b
  simp at b0 b1
  rw [HRV.out] at b1
  refine ⟨b0, b1, lt_of_heap b, ext_block HR1.out e', Nat.lt_of_lt_of_le lgr e'.size, fun i hi => ?_⟩
  obtain ⟨r, h1, h2⟩ := HRC.out i hi
  exact ⟨r, h1, ext_cell h2 lgr e'⟩)
 have HT : Hid (∀ w1, Ext W3 w1 → ∀ (i b : Nat), i ≤ m → b < 256 → Calls Tryz.prog 152 #[.agg #[nv, .slice (some ⟨gr, orr, none⟩) m d], .int .i64 i, .int .i64 b] w1 fun e w' => e = .returned (.int .i64 (toF (tlF T (256 * m)) m i b)) ∧ Ext w1 w') := zh (fun w1 e i b hi hb => by
  have := HTO.out w1 (HX4.out.trans e) i b hi hb
  rwa [HRV.out] at this)
 clear HX2 HX3 HTO HRC c0 c1 lb2 HB1 HR1
 have hmk := @run_makeMap Tryz.prog
 obtain ⟨q0, lq⟩ := HPC.out ((W3.alloc (.cells #[.int .i64 0] 3)).alloc (.map #[] 0)) (by repeat first | exact xr _ | refine xa ?_ _ | refine xm ?_ _ _ | refine xd ?_ | refine xn ?_ _ | refine xs ?_ (by simp <;> omega) _) 0 (by omega)
 obtain ⟨qm, lqm⟩ := HPC.out W3 (Ext.refl _) m (by omega)
 rw [Nat.add_zero] at q0
 simp only [Int.cast_ofNat_Int] at q0
 obtain ⟨a0, ha0⟩ : ∃ a0, W3.heap.size = a0 := ⟨_, rfl⟩
 have M4 : MapN ((W3.alloc (.cells #[.int .i64 0] 3)).alloc (.map #[] 0)) (a0 + 1) 0 fun _ => none := by
  have := MapN.made (W3.alloc (.cells #[.int .i64 0] 3))
  rwa [show (W3.alloc (.cells #[.int .i64 0] 3)).heap.size = a0 + 1 from by rw [← ha0]; simp] at this
 have S4 : ((W3.alloc (.cells #[.int .i64 0] 3)).alloc (.map #[] 0)).heap[a0]? = some (.cells #[.int .i64 0] 3) := by rw [← ha0]; exact (by simp only [heap_alloc_get, World.size_alloc]; (repeat (split; (first | rfl | (exfalso; omega)))); (try (first | (exfalso; omega) | simp_all)))
 obtain ⟨W5, hrun, hM5, hT5⟩ := M4.put (by omega) 0 0 (by omega) (by omega) (by omega) (by omega)
 have HS5 := zh (hT5.keep S4 (Ne.symm (M4.ne S4)))
 have HX5 : Hid (Ext W3 W5) := zh (hT5.ext ((by repeat first | exact xr _ | refine xa ?_ _ | refine xm ?_ _ _ | refine xd ?_ | refine xn ?_ _ | refine xs ?_ (by simp <;> omega) _) : Ext W3 ((W3.alloc (.cells #[.int .i64 0] 3)).alloc (.map #[] 0))) (fun k hk => by omega))
 have HM5 := zh hM5
 clear M4 S4 hM5 hT5
 obtain ⟨db, hdb⟩ : ∃ db, W5.heap.size = db := ⟨_, rfl⟩
 obtain ⟨W5b, hW5b⟩ : ∃ W6, W5.alloc (.cells #[nil0, nil0] 94) = W6 := ⟨_, rfl⟩
 have D5 : W5b.heap[db]? = some (.cells #[nil0, nil0] 94) := by rw [← hW5b, ← hdb]; exact heap_alloc_new _ _
 have X5 : Ext W5 W5b := by rw [← hW5b]; exact (by repeat first | exact xr _ | refine xa ?_ _ | refine xm ?_ _ _ | refine xd ?_ | refine xn ?_ _ | refine xs ?_ (by simp <;> omega) _)
 obtain ⟨W6, hW6⟩ : ∃ W6, put2 W5b db nil0 nil0 = W6 := ⟨_, rfl⟩
 have D6 : W6.heap[db]? = some (.cells #[nil0, nil0] 94) := by rw [← hW6]; exact put2_at D5 _ _
 have X6 : Ext W5 W6 := by rw [← hW6]; exact (put2_turn (S := fun k => k = db) rfl _ _).ext X5 (fun k hk => by omega)
 obtain ⟨mb, hmb⟩ : ∃ mb, a0 + 1 = mb := ⟨_, rfl⟩
 rw [hmb] at hrun
 have HI6 : Hid (LsI W3 W6 db mb m 1 0 0 T R (.slice (some ⟨a0, 0, none⟩) 1 1)) := zh ⟨⟨nil0, nil0, _, ⟨D6, by have := HX5.out.size; omega, ⟨none, 0, rfl, OwnI.nil _ _⟩, ⟨none, 0, rfl, OwnI.nil _ _⟩, ⟨some ⟨a0, 0, none⟩, 1, rfl, ⟨rfl, .inr ⟨a0, 1, _, rfl, by omega, ext_block HS5.out X6, Nat.le_refl _, by unfold maxLen; omega, rfl, rfl⟩⟩⟩, fun g hg => (by cases hg), fun g hg => (by cases hg), fun g hg => (by cases hg), ⟨1, Nat.le_refl _, by rw [← hmb]; exact HM5.out.ext X6⟩, by omega, HX5.out.trans X6⟩, fun j => by
  by_cases h : j < 1
  ·obtain rfl : j = 0 := by omega
   rfl
  ·rw [if_neg h, if_neg (by omega)]⟩, Nat.le_refl _, hm1, fun j k hj => by omega⟩
 have HDB : Hid (db ≠ g0 + 1 ∧ W3.heap.size ≤ db) := zh ⟨by have := lt_of_heap (HE.out _ HX5.out).2.2.2.1; omega, by have := HX5.out.size; omega⟩
 have r0 := cell_of_row _ _ 0 _ _ _ D5
 have r1 := cell_of_row _ _ 1 _ _ _ D5
 have ff := fun k => row_frozen D5 k
 have lr := lt_of_heap D5
 simp at r0 r1
 unfold put2 at hW6
 clear X5 D5 D6 X6 HS5 HM5
 go_wp2_with fail
 clear hW6 hrun hdb hW5b r0 r1 ff lr q0 lq qm lqm hmk ha0 hmb
 go_loopw [8, 11] (fun sv iv wr => ∃ i p : Nat, iv = .int .i64 i ∧ i ≤ m ∧ Hid (LsI W3 wr db mb m p (256 * i) i T R sv)) (fun _ i _ => m - (intOf i).toNat)
 case atStart => exact ⟨0, 1, rfl, Nat.zero_le _, HI6⟩
 case round =>
  clear HI6
  obtain ⟨i, p, rfl, hi, hI⟩ := hrel
  obtain ⟨⟨nv1, rv1, f, hl, hf⟩, hp1, hpm, hseen⟩ := hI.out
  have HSEEN := zh hseen
  have HL := zh hl
  have HFF := zh hf
  obtain ⟨SA, sc, rfl, hSA⟩ := hl.sts
  simp only [idK_length] at *
  by_cases hlt : i < p
  ·have him : i < m := by omega
   obtain ⟨gs, os, rfl, lgs, hsc⟩ := hSA.ints.1 (by rw [idK_length]; omega)
   have s0 := hsc i (by rw [idK_length]; omega)
   rw [show (idK p).getD i 0 = (i : Int) from by rw [List.getD_eq_getElem?_getD, idK_get hlt]; rfl] at s0
   have HGS : Hid ((Value.slice (some ⟨gs, os, none⟩) p sc).ownBlock = some gs) := zh rfl
   obtain ⟨n0, n1, ln, _, lgr2, hrr⟩ := HE.out _ hl.ext
   obtain ⟨r, hRi, rr0⟩ := hrr i him
   have HRI := zh hRi
   have d1 := cell_of_row _ _ 1 _ _ _ hl.blk
   have ld := lt_of_heap hl.blk
   simp at d1
   clear hsc hSA hl hf hseen hrr hRi
   have kx1 : ∀ x : EdL wr [g0, db, gs, gr], x.V.cell? ⟨g0, 1, none⟩ = some (.slice (some ⟨gr, orr, none⟩) m d) := fun x => x.cell (by simp) n1
   have kx3 : ∀ x : EdL wr [g0, db, gs, gr], x.V.cell? ⟨db, 1, none⟩ = some rv1 := fun x => x.cell (by simp) d1
   have kx4 : ∀ x : EdL wr [g0, db, gs, gr], x.V.cell? ⟨gs, os + i, none⟩ = some (.int .i64 i) := fun x => x.cell (by simp) s0
   have kx2 : ∀ x : EdL wr [g0, db, gs, gr], x.V.cell? ⟨gr, orr + i, none⟩ = some (.int .i64 r) := fun x => x.cell (by simp) rr0
   have kx5 : ∀ x : EdL wr [g0, db, gs, gr], g0 < x.V.heap.size := fun x => x.lt (by simp) ln
   have kx6 : ∀ x : EdL wr [g0, db, gs, gr], db < x.V.heap.size := fun x => x.lt (by simp) ld
   have kx7 : ∀ x : EdL wr [g0, db, gs, gr], gs < x.V.heap.size := fun x => x.lt (by simp) lgs
   have kx8 : ∀ x : EdL wr [g0, db, gs, gr], gr < x.V.heap.size := fun x => x.lt (by simp) lgr2
   have HLT : Hid (∀ k ∈ [g0, db, gs, gr], k < wr.heap.size) := zh (by simp; exact ⟨ln, ld, lgs, lgr2⟩)
   have HLW : Hid (g0 < W3.heap.size ∧ gr < W3.heap.size) := zh ⟨(HE.out _ (Ext.refl _)).2.2.1, (HE.out _ (Ext.refl _)).2.2.2.2.1⟩
   go_upto_region 12 with fail
   refine wp_region_btC (T := EdL wr [g0, db, gs, gr]) EdL.V (13) (pures_bt [0, 2, 4, 5, 6] (softs_bt [1, 3, 7, 8, 9] (.step 10 (.step 11 (pures_bt [12] (.step 13 .fin)))))) (by kernel_rfl) (by kernel_rfl) ⟨⟨wr.drew, fun _ _ => rfl⟩, rfl⟩ ?_
   refine bt_pures _ fun K hK => ?_; simp only [pick, nthC]; (repeat go_big_quiet_step (fail)); refine wpQuiet_nil (hK _ ?_); clear hK K
   refine bt_softs _ fun K hK => ?_; simp only [pick, nthC]; (repeat go_big_quiet_step (fail)); refine wpQuiet_nil (hK _ ?_); clear hK K
   clear kx1 kx2 kx3 kx4 kx5 kx6 kx7 kx8 n0 n1 s0 rr0 d1
   refine bt_step fun next hn => ?_; simp only [pick, nthC]
   go_wp2_with fail
   refine segQ_mk (fun _ => edL_ext (fun _ _ => rfl) ((by repeat first | exact xr _ | refine xa ?_ _ | refine xm ?_ _ _ | refine xd ?_ | refine xn ?_ _ | refine xs ?_ (by simp <;> omega) _) : Ext wr _) HLT.out) (hn _ _ ?_)
   clear hn next
   obtain ⟨b3, hb3⟩ : ∃ b3, wr.heap.size = b3 := ⟨_, rfl⟩
   obtain ⟨V3, hV3⟩ : ∃ W3, (wr.alloc (.cells #[.int .i64 r] 3)).drew = W3 := ⟨_, rfl⟩
   have X3 : Ext wr V3 := by rw [← hV3]; exact (by repeat first | exact xr _ | refine xa ?_ _ | refine xm ?_ _ _ | refine xd ?_ | refine xn ?_ _ | refine xs ?_ (by simp <;> omega) _)
   have HL3 := zh (HL.out.toExt X3)
   have l3 : b3 < V3.heap.size := by rw [← hV3, ← hb3]; simp
   have a3 : V3.cell? ⟨b3, 0, none⟩ = some (.int .i64 r) := by rw [← hV3, ← hb3]; exact (cell_of_row _ _ 0 _ _ _ (show (wr.alloc (.cells #[.int .i64 r] 3)).drew.heap[wr.heap.size]? = _ from heap_alloc_new wr (.cells #[.int .i64 r] 3))).trans (by simp)
   have HSA : Hid (∀ k ∈ [g0, db, gs, gr], V3.heap[k]? = wr.heap[k]?) := zh (fun k hk => X3.below.block k (HLT.out k hk))
   try simp only [hV3, hb3]
   clear hV3 hb3 X3
   have HRL : Hid ((R.take i).length ≤ 1000000) := zh (by rw [List.length_take]; omega)
   refine bt_step fun next hn => ?_; simp only [pick, nthC]
   go_wp2_with (at_builtin; refine app_intO W3 (by rfl) (.tmp 45) (.tmp 54) rfl HL3.out.rul r b3 rfl rfl l3 a3 HRL.out (by have := HL3.out.ext.size; omega) ?_; intro v4 w4 hr4 hg4 hat4)
   obtain ⟨A4, l4, c4, rfl, D4, hs1, hs2, HL5⟩ := HL3.out.stepR hr4 hg4 hat4
   rw [show R.take i ++ [r] = R.take (i + 1) from by rw [List.take_add_one, HRI.out]; rfl] at HL5
   have hsame : ∀ k ∈ [g0, db, gs, gr], w4.heap[k]? = wr.heap[k]? := by
    intro k hk
    refine Eq.trans ?_ (HSA.out k hk)
    simp at hk
    rcases hk with rfl | rfl | rfl | rfl
    ·exact hs1 _ HLW.out.1
    ·exact D4.trans HL3.out.blk.symm
    ·exact hs2 _ HGS.out
    ·exact hs1 _ HLW.out.2
   refine segQ_mk (fun _ => ⟨⟨w4, hsame⟩, rfl⟩) (hn _ _ ?_)
   clear hn next hsame hs1 hs2
   have d4 := cell_of_row _ _ 1 _ _ _ D4
   simp at d4
   have f4 := row_frozen D4 1
   obtain ⟨W5, hW5⟩ : ∃ W5, w4.setCell ⟨db, 1, none⟩ (.slice A4 l4 c4) = W5 := ⟨_, rfl⟩
   rw [hW5] at HL5
   have HL5 := zh HL5
   clear D4 hr4 hg4 hat4 a3 l3
   refine bt_pures _ fun K hK => ?_; simp only [pick, nthC]; (repeat go_big_quiet_step (fail)); refine wpQuiet_nil (hK _ ?_); clear hK K
   refine bt_step fun next hn => ?_; simp only [pick, nthC]
   go_wp2_with fail
   refine segQ_mk (fun h => absurd rfl h) (hn _ _ ?_)
   clear hn next
   (refine bt_fin ?_)
   clear hW5 d4 f4 HL3
   go_wp2_with fail
   clear hI lgs ld ln lgr2
   go_loopw [8, 12] (fun sv bv wr => ∃ b p : Nat, bv = .int .i64 b ∧ b ≤ 256 ∧ i < p ∧ Hid (LsI W3 wr db mb m p (256 * i + b) (i + 1) T R sv)) (fun _ b _ => 256 - (intOf b).toNat)
   case atStart => exact ⟨0, p, rfl, by omega, hlt, zh ⟨⟨_, _, f, HL5.out, HFF.out⟩, hp1, hpm, HSEEN.out⟩⟩
   case round =>
    clear HL5 HL HFF HSEEN hp1 hpm hlt HLT HGS HSA HRI HRL
    obtain ⟨b, p, rfl, hb, hip, hI⟩ := hrel
    obtain ⟨⟨nv1, rv1, f, hl, hf⟩, hp1, hpm, hseen⟩ := hI.out
    have HSEEN := zh hseen
    have HL := zh hl
    have HFF := zh hf
    obtain ⟨SA, sc, rfl, hSA⟩ := hl.sts
    simp only [idK_length] at *
    by_cases hlt : b < 256
    ·obtain ⟨gs, os, rfl, lgs, hsc⟩ := hSA.ints.1 (by rw [idK_length]; omega)
     have s0 := hsc i (by rw [idK_length]; omega)
     rw [show (idK p).getD i 0 = (i : Int) from by rw [List.getD_eq_getElem?_getD, idK_get hip]; rfl] at s0
     obtain ⟨n0, n1, ln, _, _, _⟩ := HE.out _ hl.ext
     have C := HT.out _ (hl.ext.trans ((by repeat first | exact xr _ | refine xa ?_ _ | refine xm ?_ _ _ | refine xd ?_ | refine xn ?_ _ | refine xs ?_ (by simp <;> omega) _) : Ext wr wr.drew)) i b (by omega) hlt
     have hnl : (tlF T (256 * i + b)).length ≤ 1000000 := by rw [tlF_length]; omega
     have HNL := zh hnl
     clear hsc hSA hl hf hseen hI hnl
     have TO : ∃ t : Nat, toF (tlF T (256 * m)) m i b = t ∧ t ≤ m ∧ (T (256 * i + b) = none ∧ t = m ∨ T (256 * i + b) = some t ∧ t < m) := by
      cases hT : T (256 * i + b) with
      | none => exact ⟨m, toF_none him hlt hT, Nat.le_refl _, .inl ⟨rfl, rfl⟩⟩
      | some k =>
       have := HF.out.known (256 * i + b) k (by omega) hT
       exact ⟨k, toF_some him hlt hT, by omega, .inr ⟨rfl, this⟩⟩
     obtain ⟨t, ht, htm, hcase⟩ := TO
     rw [ht] at C
     have HC := zh C
     clear C ht
     go_upto_region 16 with fail
     refine wp_region_bt (8) (pures_bt [1, 2, 3, 5] (softs_bt [0, 4] (.step 6 (pures_bt [7] .fin)))) (by kernel_rfl) (by kernel_rfl) ?_
     refine bt_pures _ fun K hK => ?_; simp only [pick, nthC]; (repeat go_big_quiet_step (fail)); refine wpQuiet_nil (hK _ ?_); clear hK K
     refine bt_softs _ fun K hK => ?_; simp only [pick, nthC]; (repeat go_big_quiet_step (fail)); refine wpQuiet_nil (hK _ ?_); clear hK K
     clear n0 n1 s0
     refine bt_step fun next hn => ?_; simp only [pick, nthC]
     go_wp2_with fail
     refine HC.out.mono ?_
     rintro e w2 ⟨rfl, hx2'⟩
     have HY2 : Hid (Ext wr w2) := zh (Ext.trans (by repeat first | exact xr _ | refine xa ?_ _ | refine xm ?_ _ _ | refine xd ?_ | refine xn ?_ _ | refine xs ?_ (by simp <;> omega) _) hx2')
     clear hx2'
     go_wp2_with fail
     refine segQ_mk (fun _ => laid HY2.out) (hn _ _ ?_)
     clear hn next HC
     refine bt_pures _ fun K hK => ?_; simp only [pick, nthC]; (repeat go_big_quiet_step (fail)); refine wpQuiet_nil (hK _ ?_); clear hK K
     (refine bt_fin ?_)
     have HL2 := zh (HL.out.toExt HY2.out)
     clear HL HY2
     obtain ⟨qt, lqt⟩ := HPC.out _ HL2.out.ext t htm
     have d0 := cell_of_row _ _ 0 _ _ _ HL2.out.blk
     simp at d0
     have ld := lt_of_heap HL2.out.blk
     have hnl := HNL.out
     rcases hcase with ⟨hT, rfl⟩ | ⟨hT, htm2⟩
     ·have HTN := zh hT
      clear hT
      go_wp2_with (at_builtin; refine app_intO W3 (by rfl) (.tmp 75) (.tmp 76) rfl (HL2.out.toExt (by repeat first | exact xr _ | refine xa ?_ _ | refine xm ?_ _ _ | refine xd ?_ | refine xn ?_ _ | refine xs ?_ (by simp <;> omega) _)).nxt (-1) w2.heap.size rfl rfl (by simp) (by rw [cell_of_row _ _ 0 _ _ _ (heap_alloc_new w2 (.cells #[.int .i64 (-1)] 3))]; rfl) hnl (by have := HL2.out.ext.size; simp <;> omega) ?_; intro v4 w4 hr4 hg4 hat4; obtain ⟨A4, l4, c4, rfl, D4, HB5⟩ := (HL2.out.toExt (by repeat first | exact xr _ | refine xa ?_ _ | refine xm ?_ _ _ | refine xd ?_ | refine xn ?_ _ | refine xs ?_ (by simp <;> omega) _)).stepN hr4 hg4 hat4; have d4 := cell_of_row _ _ 0 _ _ _ D4; simp at d4; have f4 := row_frozen D4 0; obtain ⟨W5, hW5⟩ : ∃ W5, w4.setCell ⟨db, 0, none⟩ (.slice A4 l4 c4) = W5 := ⟨_, rfl⟩; rw [hW5] at HB5; clear D4 hr4 hg4 hat4 d0 ld hnl)
      clear hW5 d4 f4
      go_roundw
      case rel => exact ⟨b + 1, p, by go_num, by omega, by omega, zh ⟨⟨_, _, _, by rw [show tlF T (256 * i + (b + 1)) = tlF T (256 * i + b) ++ [-1] from by rw [← Nat.add_assoc, tlF_succ, HTN.out]; rfl]; exact HB5, HFF.out⟩, hp1, hpm, fun j k hj hk => by
       rcases Nat.lt_or_ge j (256 * i + b) with h | h
       ·exact HSEEN.out j k h hk
       ·obtain rfl : j = 256 * i + b := by omega
        rw [HTN.out] at hk; cases hk⟩⟩
      case measure => simp [intOf]; omega
     ·have HTN := zh hT
      have htp : t ≤ p := HF.out.next _ t p (by omega) HTN.out hp1 HSEEN.out
      have q1 : ((t : Int) == m) = false := by simp; omega
      have q2 : decide ((t : Int) = m) = false := by simp; omega
      have q3 : decide (t = m) = false := by simp; omega
      obtain ⟨q, hq, hm⟩ := HL2.out.map
      have hrun := hm.look (t : Int) (by omega) (by omega)
      rw [HFF.out t] at hrun
      have HM := zh (And.intro hq hm)
      clear hT hm hq
      rcases Nat.lt_or_ge t p with hlk | hgk
      ·rw [if_pos hlk] at hrun
       have hrun' : (Instr.lookup 205 (.map (some mb)) (.int .i64 t) true).run Tryz.prog w2 = .ok (.tuple #[.int .i64 t, .bool true]) w2 := hrun
       clear hrun
       go_wp2_with (at_builtin; refine app_intO W3 (by rfl) (.tmp 103) (.tmp 105) rfl (HL2.out.toExt (by repeat first | exact xr _ | refine xa ?_ _ | refine xm ?_ _ _ | refine xd ?_ | refine xn ?_ _ | refine xs ?_ (by simp <;> omega) _)).nxt (t : Int) w2.heap.size rfl rfl (by simp) (by rw [cell_of_row _ _ 0 _ _ _ (heap_alloc_new w2 (.cells #[.int .i64 (t : Int)] 3))]; rfl) hnl (by have := HL2.out.ext.size; simp <;> omega) ?_; intro v4 w4 hr4 hg4 hat4; obtain ⟨A4, l4, c4, rfl, D4, HB5⟩ := (HL2.out.toExt (by repeat first | exact xr _ | refine xa ?_ _ | refine xm ?_ _ _ | refine xd ?_ | refine xn ?_ _ | refine xs ?_ (by simp <;> omega) _)).stepN hr4 hg4 hat4; have d4 := cell_of_row _ _ 0 _ _ _ D4; simp at d4; have f4 := row_frozen D4 0; obtain ⟨W5, hW5⟩ : ∃ W5, w4.setCell ⟨db, 0, none⟩ (.slice A4 l4 c4) = W5 := ⟨_, rfl⟩; rw [hW5] at HB5; clear D4 hr4 hg4 hat4 d0 ld hnl)
       clear hW5 d4 f4
       go_roundw
       case rel => exact ⟨b + 1, p, by go_num, by omega, by omega, zh ⟨⟨_, _, _, by rw [show tlF T (256 * i + (b + 1)) = tlF T (256 * i + b) ++ [(t : Int)] from by rw [← Nat.add_assoc, tlF_succ, HTN.out]; rfl]; exact HB5, HFF.out⟩, hp1, hpm, fun j k hj hk => by
        rcases Nat.lt_or_ge j (256 * i + b) with h | h
        ·exact HSEEN.out j k h hk
        ·obtain rfl : j = 256 * i + b := by omega
         rw [HTN.out] at hk; injection hk with hk; omega⟩⟩
       case measure => simp [intOf]; omega
      ·obtain rfl : t = p := by omega
       rw [if_neg (by omega)] at hrun
       have hrun' : (Instr.lookup 205 (.map (some mb)) (.int .i64 t) true).run Tryz.prog w2 = .ok (.tuple #[.int .i64 0, .bool false]) w2 := hrun
       clear hrun
       have hsl : (idK t).length ≤ 1000000 := by rw [idK_length]; omega
       go_upto_region 23 with (at_builtin; refine app_intO W3 (by rfl) (.tmp 92) (.tmp 94) rfl (xs := idK t) ((by have h := HL2.out.sts; exact h.ext (by repeat first | exact xr _ | refine xa ?_ _ | refine xm ?_ _ _ | refine xd ?_ | refine xn ?_ _ | refine xs ?_ (by simp <;> omega) _))) (t : Int) w2.heap.size rfl rfl (by simp) (by rw [cell_of_row _ _ 0 _ _ _ (heap_alloc_new w2 (.cells #[.int .i64 ((t : Int))] 3))]; rfl) hsl (by have := HL2.out.ext.size; simp <;> omega) ?_; intro v4 w4 hr4 hg4 hat4)
       obtain ⟨HS4, HK4⟩ := (HL2.out.toExt ((by repeat first | exact xr _ | refine xa ?_ _ | refine xm ?_ _ _ | refine xd ?_ | refine xn ?_ _ | refine xs ?_ (by simp <;> omega) _) : Ext w2 (w2.alloc (.cells #[.int .i64 ((t : Int))] 3)))).stepS hr4 hg4 hat4
       have hm4 := HK4 q (HM.out.2.ext (by repeat first | exact xr _ | refine xa ?_ _ | refine xm ?_ _ _ | refine xd ?_ | refine xn ?_ _ | refine xs ?_ (by simp <;> omega) _))
       obtain ⟨A4, c4, rfl, _⟩ := id hr4
       obtain ⟨qt4, lqt4⟩ := HPC.out _ HS4.ext t htm
       obtain ⟨w7, hrun7, hm7, hT7⟩ := hm4.put (by have := HM.out.1; rw [idK_length] at this; omega) (t : Int) (t : Int) (by omega) (by omega) (by omega) (by omega)
       have h7 := HS4.put hm4 HM.out.1 hm7 hT7
       rw [← idK_succ] at h7
       have hlen : (idK t ++ [(t : Int)]).length = t + 1 := by simp [idK_length]
       have HL7 := zh h7
       have HF7 : Hid (∀ j : Nat, (if (j : Int) = t then some (t : Int) else f j) = if j < t + 1 then some (j : Int) else none) := zh (fun j => by
        by_cases hj : j = t
        ·subst hj
         rw [if_pos rfl, if_pos (by omega)]
        ·rw [if_neg (by omega), HFF.out j]
         by_cases hlt2 : j < t
         ·rw [if_pos hlt2, if_pos (by omega)]
         ·rw [if_neg hlt2, if_neg (by omega)])
       clear h7 hm7 hT7 hm4 HK4 HS4 hr4 hg4 hat4 HM d0 ld hsl
       have d0 := cell_of_row _ _ 0 _ _ _ HL7.out.blk
       simp at d0
       have ld := lt_of_heap HL7.out.blk
       go_wp2_with (at_builtin; refine app_intO W3 (by rfl) (.tmp 103) (.tmp 105) rfl (HL7.out.toExt (by repeat first | exact xr _ | refine xa ?_ _ | refine xm ?_ _ _ | refine xd ?_ | refine xn ?_ _ | refine xs ?_ (by simp <;> omega) _)).nxt (t : Int) w7.heap.size rfl rfl (by simp) (by rw [cell_of_row _ _ 0 _ _ _ (heap_alloc_new w7 (.cells #[.int .i64 (t : Int)] 3))]; rfl) hnl (by have := HL7.out.ext.size; simp <;> omega) ?_; intro v4 w4 hr4 hg4 hat4; obtain ⟨A4, l4, c4, rfl, D4, HB5⟩ := (HL7.out.toExt (by repeat first | exact xr _ | refine xa ?_ _ | refine xm ?_ _ _ | refine xd ?_ | refine xn ?_ _ | refine xs ?_ (by simp <;> omega) _)).stepN hr4 hg4 hat4; have d4 := cell_of_row _ _ 0 _ _ _ D4; simp at d4; have f4 := row_frozen D4 0; obtain ⟨W5, hW5⟩ : ∃ W5, w4.setCell ⟨db, 0, none⟩ (.slice A4 l4 c4) = W5 := ⟨_, rfl⟩; rw [hW5] at HB5; clear D4 hr4 hg4 hat4 d0 ld hnl)
       clear hW5 d4 f4
       rw [idK_length] at HB5
       go_roundw
       case rel => exact ⟨b + 1, t + 1, by go_num, by omega, by omega, zh ⟨⟨_, _, _, by rw [show tlF T (256 * i + (b + 1)) = tlF T (256 * i + b) ++ [(t : Int)] from by rw [← Nat.add_assoc, tlF_succ, HTN.out]; rfl]; exact HB5, HF7.out⟩, by omega, by omega, fun j k hj hk => by
        rcases Nat.lt_or_ge j (256 * i + b) with h | h
        ·have := HSEEN.out j k h hk; omega
        ·obtain rfl : j = 256 * i + b := by omega
         rw [HTN.out] at hk; injection hk with hk; omega⟩⟩
       case measure => simp [intOf]; omega
    ·obtain rfl : b = 256 := by omega
     go_wp2_with fail
     go_roundw
     case rel => exact ⟨i + 1, p, by go_num, by omega, hI⟩
     case measure => simp [intOf]; omega
  ·have hiN : i = m := by
    rcases Nat.lt_or_ge i m with h | h
    ·obtain ⟨n, hn, hT⟩ := HF.out.all i (by omega) h
     have := hseen n i hn hT
     omega
    ·omega
   subst hiN
   have hRR : R.take i = R := List.take_of_length_le (by have := HM.out; omega)
   rw [hRR] at hl
   obtain ⟨NA, nc, rfl, hNA⟩ := hl.nxt
   obtain ⟨QA, qc, rfl, hQA⟩ := hl.rul
   have R0 := (HE.out _ hl.ext).2.2.2.1
   have D0 := hl.blk
   have T6 : ∀ v1 v2, Turn (fun k => k = g0 + 1) wr (put2 wr (g0 + 1) v1 v2) := fun v1 v2 => put2_turn (S := fun k => k = g0 + 1) rfl _ _
   have HX6 : Hid (∀ v1 v2, Ext w (put2 wr (g0 + 1) v1 v2)) := zh (fun v1 v2 => (T6 v1 v2).ext (HX1.out.trans (HX4.out.trans hl.ext)) (fun k hk => by have := HG0.out; omega))
   have HD6 : Hid (∀ v1 v2, DfaRd (put2 wr (g0 + 1) v1 v2) (.slice NA (tlF T (256 * i)).length nc) (.slice QA R.length qc) (tlF T (256 * i)) R) := zh (fun v1 v2 => by
    have h1 : OwnI (put2 wr (g0 + 1) v1 v2) W3.heap.size NA nc (tlF T (256 * i)) := row_keepD R0 (T6 v1 v2) hNA (by decide)
    have h2 : OwnI (put2 wr (g0 + 1) v1 v2) W3.heap.size QA qc R := row_keepD R0 (T6 v1 v2) hQA (by decide)
    exact ⟨⟨NA, nc, rfl, h1.ints.1, h1.ints.2.1⟩, QA, qc, rfl, h2.ints.1, h2.ints.2.1⟩)
   obtain ⟨n1, hn1⟩ : ∃ n1, (tlF T (256 * i)).length = n1 := ⟨_, rfl⟩
   obtain ⟨n2, hn2⟩ : ∃ n2, R.length = n2 := ⟨_, rfl⟩
   rw [hn1, hn2] at D0 HD6
   obtain ⟨W6, hW6⟩ : ∃ W6, put2 wr (g0 + 1) (.slice NA n1 nc) (.slice QA n2 qc) = W6 := ⟨_, rfl⟩
   have hx6 := HX6.out (.slice NA n1 nc) (.slice QA n2 qc)
   have hd6 := HD6.out (.slice NA n1 nc) (.slice QA n2 qc)
   have P6 := put2_at R0 (.slice NA n1 nc) (.slice QA n2 qc)
   rw [hW6] at hx6 hd6 P6
   have HXX := zh hx6
   have HDD := zh hd6
   have e0 := cell_of_row _ _ 0 _ _ _ P6
   have e1 := cell_of_row _ _ 1 _ _ _ P6
   have d0 := cell_of_row _ _ 0 _ _ _ D0
   have d1 := cell_of_row _ _ 1 _ _ _ D0
   have r0 := cell_of_row _ _ 0 _ _ _ R0
   have r1 := cell_of_row _ _ 1 _ _ _ R0
   have ff := fun k => row_frozen R0 k
   simp at e0 e1 d0 d1 r0 r1
   have lr := lt_of_heap R0
   have ld := lt_of_heap D0
   unfold put2 at hW6
   clear hx6 hd6 P6 R0 D0 T6 HX6 HD6 hNA hQA hn1 hn2 hseen hI hl HSEEN HFF HL
   go_wp2_with fail
   exact bodyPost_ret (v := .tuple #[.agg #[.slice NA n1 nc, .slice QA n2 qc], .int .i64 0]) (by simp [results, Tryz.results99, go_sem, *]) rfl
    ⟨_, _, rfl, HDD.out, HXX.out⟩
end Go.Proofs.YthpmncdfaggkiaaGreat
namespace Go.Proofs.YthpmncdfaggkiaaGreat
open Go.RowKit
attribute [local go_sem] more_drew more_drewN more_size more_cell more_frozen more_setCell drew_more drewN_more lt_add_r lt_add_r2 lt_add_r3 lt_add_r4 lt_add_r5 lt_add_r6 lt_add_r7 lt_add_r8 lt_add_r9 lt_add_r10 lt_self_r lt_self_r2
def R2B (w : World) (lo hi : Nat) (A : Option Addr) (z : Cl) : Prop := ∃ g gk, A = some ⟨g, 0, none⟩ ∧ lo ≤ g ∧ g < hi ∧ lo ≤ gk ∧ gk < hi ∧ hi ≤ w.heap.size ∧ CellsAt w A (r2C z gk) ∧ w.cell? ⟨gk, 0, none⟩ = some (.int .i64 0)
section
variable {w w' : World} {lo hi : Nat} {A : Option Addr} {z : Cl}
theorem R2B.r2 (h : R2B w lo hi A z) : R2 w A z := by
 obtain ⟨g, gk, h1, h2, h3, h4, h5, h6, h7, h8⟩ := h
 exact ⟨g, gk, h1, by omega, by omega, h7, h8⟩
theorem R2B.turn {S : Nat → Prop} (h : R2B w lo hi A z) (t : Turn S w w') (hS : ∀ k, lo ≤ k → k < hi → ¬ S k) : R2B w' lo hi A z := by
 obtain ⟨g, gk, h1, h2, h3, h4, h5, h6, h7, h8⟩ := h
 refine ⟨g, gk, h1, h2, h3, h4, h5, Nat.le_trans h6 t.size, fun h0 => ?_, ?_⟩
 ·obtain ⟨b, off, k1, k2, k3⟩ := h7 h0
  rw [h1] at k1
  injection k1 with k1
  injection k1 with k1 k4
  subst k1 k4
  have hk := t.block g k2 (hS g h2 h3)
  exact ⟨g, 0, h1, Nat.lt_of_lt_of_le k2 t.size, fun k v hv => (World.cell?_of_block (w := w) (a := ⟨g, 0 + k, none⟩) hk).trans (k3 k v hv)⟩
 ·exact (World.cell?_of_block (w := w) (a := ⟨gk, 0, none⟩) (t.block gk (by omega) (hS gk h4 h5))).trans h8
theorem R2B.ext (h : R2B w lo hi A z) (e : Ext w w') : R2B w' lo hi A z := h.turn (Turn.of_ext (S := fun _ => False) e) (fun _ _ _ h => h)
theorem R2B.wide (h : R2B w lo hi A z) (hh : hi ≤ w.heap.size) : R2B w lo w.heap.size A z := by
 obtain ⟨g, gk, h1, h2, h3, h4, h5, h6, h7, h8⟩ := h
 exact ⟨g, gk, h1, h2, by omega, h4, by omega, Nat.le_refl _, h7, h8⟩
end
set_option maxRecDepth 100000 in
set_option maxHeartbeats 2000000 in
theorem read_f (s : ByteArray) (n : Nat) (z : Cl) (w : World) (T : TxG s n z) :
 Calls Tryz.prog 95 #[.string s] w fun e w' => ∃ A c, e = .returned (.tuple #[.slice A 2 c, .int .i64 s.size, .int .i64 0]) ∧ R2B w' w.heap.size w'.heap.size A z ∧ 2 ≤ c ∧ c ≤ maxLen ∧ Ext w w' := by
 have HT := zh T
 have hsz := T.sz
 have hn2 := T.n2
 clear T
 go_enter Tryz.func95, Tryz.ntmps95
 go_wp2_with fail
 have X1 : Ext w (w.alloc (.cells #[.string s, .int .i64 0, .slice none 0 0, .int .i64 0] 186)) := (by repeat first | exact xr _ | refine xa ?_ _ | refine xm ?_ _ _ | refine xd ?_ | refine xn ?_ _ | refine xs ?_ (by simp <;> omega) _)
 refine (alt_g w.heap.size w.heap.size s n z _ HT.out (heap_alloc_new w _) X1.size).mono ?_
 rintro e w3 ⟨v3, gk, rfl, h3, ho3, hk3, hl3, hg3, t3⟩
 have X3 : Hid (Ext w w3) := zh (t3.ext X1 fun k hk => by omega)
 have H3 := zh h3
 have R3 : Hid (∃ A c, v3 = .slice A 2 c ∧ R2B w3 w.heap.size w3.heap.size A z ∧ 2 ≤ c ∧ c ≤ maxLen) := zh (by
  obtain ⟨A, c, rfl, hc, h1, h2, _⟩ := own_cells ho3
  obtain ⟨g, off, rfl, hg, _⟩ := hc (by simp [r2C, nodC])
  obtain ⟨g', hgg⟩ : ∃ g', off = 0 ∧ g' = g := by
   rcases ho3.2 with ⟨_, h⟩ | ⟨g'', cap, cur, h, _⟩
   ·omega
   ·injection h with h
    injection h with h
    injection h with h h'
    exact ⟨g, h', rfl⟩
  obtain ⟨rfl, _⟩ := hgg
  exact ⟨_, c, rfl, ⟨g, gk, rfl, own_block ho3 g rfl, hg, hg3, hl3, Nat.le_refl _, hc, hk3⟩, h1, h2⟩)
 clear h3 ho3 hk3 hl3 hg3 t3 X1
 go_wp2_with fail
 refine (more_no _ s (n + 1) v3 _ H3.out (by omega)).mono ?_
 rintro e w4 ⟨rfl, h4, x4⟩
 have X4 := zh (X3.out.trans x4)
 obtain ⟨A, c, rfl, hr, hc1, hc2⟩ := R3.out
 have HR4 := zh ((hr.ext x4).wide x4.size)
 obtain ⟨c0, c1, c2, c3⟩ := h4.cells
 have lb := h4.lt
 have HC := zh (And.intro hc1 hc2)
 clear x4 hr h4 X3 R3 H3 hc1 hc2
 go_wp2_with fail
 exact bodyPost_ret (v := .tuple #[.slice A 2 c, .int .i64 s.size, .int .i64 0]) (by simp [results, Tryz.results95, go_sem, hsz]) rfl ⟨A, c, rfl, HR4.out, HC.out.1, HC.out.2, X4.out⟩
theorem infoRx : (Tryz.prog.info? 141).map (fun i => (i.zero, i.size, i.bytes)) = some (some (.slice none 0 0), 1, 24) := by kernel_rfl
structure LbI (w0 w : World) (base lb : Nat) (d0 d1 kv : Value) (kn : Int) (kl : List Int) : Prop where
 blk : w.heap[lb]? = some (.cells #[d0, d1, kv, .int .i64 kn] 96)
 low : w0.heap.size ≤ lb
 row : RowI w base kv kl
 bas : w0.heap.size ≤ base
 ext : Ext w0 w
section
variable {w0 w w2 : World} {base lb : Nat} {d0 d1 kv v' : Value} {kn y : Int} {kl : List Int}
theorem LbI.to (h : LbI w0 w base lb d0 d1 kv kn kl) (e : Ext w w2) : LbI w0 w2 base lb d0 d1 kv kn kl := ⟨ext_block h.blk e, h.low, h.row.ext e, h.bas, h.ext.trans e⟩
theorem LbI.ne (h : LbI w0 w base lb d0 d1 kv kn kl) : ∀ g, kv.ownBlock = some g → ¬ g = lb := fun g hg he => by
 obtain ⟨cur, hcur⟩ := h.row.obj g hg
 subst he
 rw [h.blk] at hcur
 cases hcur
theorem LbI.set (h : LbI w0 w base lb d0 d1 kv kn kl) {k : Nat} {u e0 e1 : Value} {m : Int} (hc : (#[d0, d1, kv, .int .i64 kn] : Array Value).setIfInBounds k u = #[e0, e1, kv, .int .i64 m]) : LbI w0 (w.setCell ⟨lb, k, none⟩ u) base lb e0 e1 kv m kl := by
 refine ⟨by rw [← hc]; exact setCell_row h.blk u, h.low, h.row.keepT (Turn.set1 _ _ _) h.ne, h.bas, h.ext.setCell h.low u⟩
theorem LbI.app (h : LbI w0 w base lb d0 d1 kv kn kl) (hr : RowI w2 base v' (kl ++ [y])) (hg : w.grownBy w2 kv.ownBlock) : w2.heap[lb]? = some (.cells #[d0, d1, kv, .int .i64 kn] 96) ∧ Turn (fun g => kv.ownBlock = some g ∨ g = lb) w (w2.setCell ⟨lb, 2, none⟩ v') ∧ LbI w0 (w2.setCell ⟨lb, 2, none⟩ v') base lb d0 d1 v' kn (kl ++ [y]) := by
 have T : Turn (fun g => kv.ownBlock = some g) w w2 := Turn.grown hg (fun g hg _ => hg)
 have hb2 := T.keep h.blk (fun hh => h.ne lb hh rfl)
 have T2 : Turn (fun k => k = lb) w2 (w2.setCell ⟨lb, 2, none⟩ v') := Turn.set1 _ _ _
 refine ⟨hb2, ⟨T2.os.trans T.os, T2.tape.trans T.tape, T2.output.trans T.output, Nat.le_trans T.size T2.size, fun k hk hS => (T2.block k (Nat.lt_of_lt_of_le hk T.size) (fun he => hS (.inr he))).trans (T.block k hk (fun he => hS (.inl he)))⟩, setCell_row hb2 v', h.low, hr.keepT T2 (fun g hg he => ?_), h.bas, T2.ext (T.ext h.ext (fun k hk => Nat.le_trans h.bas (own_block h.row.own k hk))) (fun k hk => by have := h.low; omega)⟩
 obtain ⟨cur, hcur⟩ := hr.obj g hg
 subst he
 rw [hb2] at hcur
 cases hcur
end
theorem ints_lex {w : World} {lb g off : Nat} {x : Value} {n1 n2 n3 c1 c2 c3 : Nat} {A1 A2 A3 : Option Addr} {a b : Int} {T : TypeId} (hb : w.heap[lb]? = some (.cells #[.slice A1 n1 c1, .slice A2 n2 c2, .slice A3 n3 c3, x] T)) (h0 : w.cell? ⟨g, off, none⟩ = some (.int .i64 a)) (h1 : w.cell? ⟨g, off + 1, none⟩ = some (.int .i64 b)) : g ≠ lb := by
 rintro rfl
 rw [cell_of_row _ _ _ _ _ _ hb] at h0 h1
 match off with
 | 0 => simp at h0
 | 1 => simp at h0
 | 2 => simp at h0
 | n + 3 => simp at h1
theorem Ints.lex {w w' : World} {lb : Nat} {A : Option Addr} {xs : List Int} {n1 n2 n3 c1 c2 c3 : Nat} {A1 A2 A3 : Option Addr} {x : Value} {T : TypeId} (h : Ints w A xs) (h2 : 2 ≤ xs.length) (hb : w.heap[lb]? = some (.cells #[.slice A1 n1 c1, .slice A2 n2 c2, .slice A3 n3 c3, x] T)) (t : Turn (fun k => k = lb) w w') : Ints w' A xs := fun h0 => by
 obtain ⟨b, off, hA, hb1, hc⟩ := h h0
 have hne : ¬ b = lb := ints_lex hb (by simpa using hc 0 (by omega)) (hc 1 (by omega))
 exact ⟨b, off, hA, Nat.lt_of_lt_of_le hb1 t.size, fun k hk => (World.cell?_of_block (w := w) (a := ⟨b, off + k, none⟩) (t.block b hb1 hne)).trans (hc k hk)⟩
theorem DfaRd.lex {w w' : World} {lb : Nat} {nv rv : Value} {nl rl : List Int} {n1 n2 n3 c1 c2 c3 : Nat} {A1 A2 A3 : Option Addr} {x : Value} {T : TypeId} (h : DfaRd w nv rv nl rl) (h1 : 2 ≤ nl.length) (h2 : 2 ≤ rl.length) (hb : w.heap[lb]? = some (.cells #[.slice A1 n1 c1, .slice A2 n2 c2, .slice A3 n3 c3, x] T)) (t : Turn (fun k => k = lb) w w') : DfaRd w' nv rv nl rl := by
 obtain ⟨⟨A, c, k1, k2, k3⟩, B, d, k4, k5, k6⟩ := h
 exact ⟨⟨A, c, k1, k2.lex h1 hb t, k3⟩, B, d, k4, k5.lex h2 hb t, k6⟩
end Go.Proofs.YthpmncdfaggkiaaGreat
