/- Jobs: their order. -/
import Derived.Test.YtmgpofdmfmeljaaRi
import Derived.Test.YtmgpofdmfmeljaaTz
import Derived.WalkSpells
import Derived.WalkLawsBesides
import Derived.BigRegion
import Derived.Deep.RegionWith
import Derived.Deep.QuietTactic
import Derived.Deep.DeepCutAuto
import Derived.Deep.RegionHeld3
import Derived.Deep.RegionLaw
import Derived.BigQuiet
import Derived.Lib.Hide
namespace Go.Proofs.Ytmgpofdmfmeljaa
open Go.RowKit
attribute [local go_sem] more_drew more_drewN more_size more_cell more_frozen more_setCell drew_more drewN_more lt_add_r lt_add_r2 lt_add_r3 lt_add_r4 lt_add_r5 lt_add_r6 lt_add_r7 lt_add_r8 lt_add_r9 lt_add_r10 lt_self_r lt_self_r2

def clamp (a : Int) : Int := min (max a (-1099511627776)) 1099511627776
theorem clamp_bd (a : Int) : -1099511627776 ≤ clamp a ∧ clamp a ≤ 1099511627776 := by unfold clamp; omega

set_option maxHeartbeats 400000 in
theorem within_any (n : Int) (w : World) :
    Calls Try.prog 42 #[.int .i64 n, .int .i64 (-1099511627776), .int .i64 1099511627776] w fun e w' => e = .returned (.int .i64 (clamp n)) ∧ w = w' := by
  go_enter Try.func42, Try.ntmps42
  go_wp2
  all_goals go_ret
  all_goals exact ⟨ret_int (by unfold clamp; omega), rfl⟩
theorem span_any (a d : Int) (w : World) :
    Calls Try.prog 39 #[.agg #[.int .i64 a, .int .i64 d]] w fun e w' => e = .returned (.agg #[.int .i64 (clamp a), .int .i64 (clamp d)]) ∧ Ext w w' := by
  go_enter Try.func39, Try.ntmps39
  go_wp2_with (first | (go_at_call 42; refine (within_any _ _).mono ?_; rintro e w' ⟨rfl, rfl⟩) | go_in)
  refine wp_loop_rounds 3 ?_
  iterate 3
    rw [rounds_succ]
    go_wp2_with (first | (go_at_call 42; refine (within_any _ _).mono ?_; rintro e w' ⟨rfl, rfl⟩) | go_in)
  go_returns
  exact ⟨rfl, (((Ext.refl _).alloc _).alloc _).alloc _⟩

def farF (a b c d : Int) : Int := if clamp b < clamp c then clamp c - clamp b else if clamp d < clamp a then clamp a - clamp d else 0
set_option maxHeartbeats 400000 in
theorem far_any (a b c d : Int) (w : World) :
    Calls Try.prog 34 #[.agg #[.int .i64 a, .int .i64 b], .agg #[.int .i64 c, .int .i64 d]] w fun e w' => e = .returned (.int .i64 (farF a b c d)) ∧ Ext w w' := by
  have ha := clamp_bd a
  have hb := clamp_bd b
  have hc := clamp_bd c
  have hd := clamp_bd d
  go_enter Try.func34, Try.ntmps34
  go_wp2_with fail
  go_upto_region 1 with fail
  go_cut [] (fun wx => Ext ((w.alloc (.cells #[.int .i64 (clamp a), .int .i64 (clamp b)] 29)).alloc (.cells #[.int .i64 (clamp c), .int .i64 (clamp d)] 29)) wx)
  case first =>
    go_region_with (first | (go_at_call_of 39 (Value.agg #[Value.int IntKind.i64 a, Value.int IntKind.i64 b]); refine (span_any _ _ _).mono ?_; rintro e w1 ⟨rfl, os1, k1, rfl⟩) | (go_at_call_of 39 (Value.agg #[Value.int IntKind.i64 c, Value.int IntKind.i64 d]); refine (span_any _ _ _).mono ?_; rintro e w2 ⟨rfl, os2, k2, rfl⟩))
    all_goals (go_wp2_with fail; go_meet; exact (by repeat (first | exact Ext.refl _ | refine Ext.alloc ?_ _ | refine Ext.more ?_ _ _ | refine Ext.drew ?_ | refine Ext.drewN ?_ _)))
  case rest =>
    obtain ⟨os, k, rfl⟩ := hcut
    go_wp2
    all_goals go_ret
    all_goals exact ⟨ret_int (by unfold farF; repeat (first | omega | split)), by repeat (first | exact Ext.refl _ | refine Ext.alloc ?_ _ | refine Ext.more ?_ _ _ | refine Ext.drew ?_ | refine Ext.drewN ?_ _)⟩
def cmpI (a b : Int) : Int := if a < b then -1 else if b < a then 1 else 0
set_option maxHeartbeats 400000 in
theorem compare_any (a b : Int) (w : World) : Calls Try.prog 32 #[.int .i64 a, .int .i64 b] w fun e w' => e = .returned (.int .i64 (cmpI a b)) ∧ Ext w w' := by
  go_enter Try.func32, Try.ntmps32
  go_wp2_with (go_in)
  all_goals go_ret
  all_goals exact ⟨ret_int (by unfold cmpI; repeat (first | omega | split)), (by repeat (first | exact Ext.refl _ | refine Ext.alloc ?_ _ | refine Ext.more ?_ _ _ | refine Ext.drew ?_ | refine Ext.drewN ?_ _ | refine Ext.setCell ?_ (by simp <;> omega) _))⟩
theorem ints_lit {w : World} {g : Nat} {xs : List Int} {T : TypeId} (h : w.heap[g]? = some (.cells (iv xs).toArray T)) : Ints w (some ⟨g, 0, none⟩) xs := fun _ =>
  ⟨g, 0, rfl, lt_of_heap h, fun k hk => by
    rw [Nat.zero_add, cell_of_row _ _ k _ _ (0, 0) h]
    simp only [List.getElem?_toArray]
    rw [iv_get hk]⟩
/-- the first number that is none -/
def orF : List Int → Int
  | [] => 0
  | x :: l => if x = 0 then orF l else x
theorem orF_drop {xs : List Int} {k : Nat} (h : k < xs.length) : orF (xs.drop k) = if xs.getD k 0 = 0 then orF (xs.drop (k + 1)) else xs.getD k 0 := by
  rw [List.drop_eq_getElem_cons h, List.getD_eq_getElem?_getD, List.getElem?_eq_getElem h]
  rfl
set_option maxHeartbeats 1000000 in
theorem or_any (A : Option Addr) (c : Nat) (xs : List Int) (w : World) (h : Ints w A xs) (hl : xs.length ≤ 1000000) : Calls Try.prog 33 #[.slice A xs.length c] w fun e w' => e = .returned (.int .i64 (orF xs)) ∧ Ext w w' := by
  have H := Lib.hid h
  clear h
  go_enter Try.func33, Try.ntmps33
  go_wp2_with fail
  go_loopw [8] (fun i wr => ∃ k : Nat, k ≤ xs.length ∧ i = .int .i64 k ∧ Hid (orF (xs.drop k) = orF xs) ∧ Hid (Ext w wr)) (fun i _ => xs.length - (intOf i).toNat)
  case atStart => exact ⟨0, Nat.zero_le _, rfl, Lib.hid rfl, Lib.hid (Ext.refl _)⟩
  case round =>
    obtain ⟨k, hk, rfl, ho, hx⟩ := hrel
    by_cases hlt : k < xs.length
    · obtain ⟨b, off, rfl, hb, hc⟩ := (H.out.ext hx.out) (by omega)
      have x0 := hc k hlt
      obtain ⟨x, hx0⟩ : ∃ x, xs.getD k 0 = x := ⟨_, rfl⟩
      rw [hx0] at x0
      have HO := Lib.hid (orF_drop hlt)
      have HX0 := Lib.hid hx0
      clear hc hx0
      by_cases hz : x = 0
      · have HZ := Lib.hid hz
        have qz : (x == 0) = true := by simp [hz]
        clear hz
        go_wp2_with fail
        go_roundw
        case rel => exact ⟨k + 1, by omega, by go_num, Lib.hid (by have := HO.out; rw [HX0.out, if_pos HZ.out] at this; rw [← this]; exact ho.out), hx⟩
        case measure => simp [intOf]; omega
      · have HZ := Lib.hid hz
        have qz : (x == 0) = false := by simp [hz]
        clear hz
        go_wp2_with fail
        go_ret
        exact ⟨ret_int (by have := HO.out; rw [HX0.out, if_neg HZ.out] at this; rw [← ho.out, this]), hx.out⟩
    · obtain rfl : k = xs.length := by omega
      have h0 := ho.out
      rw [List.drop_length] at h0
      have HH := Lib.hid h0
      clear h0 hlt hk
      go_wp2_with fail
      go_ret
      exact ⟨ret_int HH.out, hx.out⟩
/-- a job: its slot, its span, its age, its level -/
structure Dt where
  slot : Int
  lo : Int
  hi : Int
  age : Int
  lev : Int
/-- a view, a wait -/
structure Kv where
  lo : Int
  hi : Int
  wait : Int
def dCells (d : Dt) : List Value := [.int .i64 d.slot, .int .i64 d.lo, .int .i64 d.hi, .int .i64 d.age, .int .i64 d.lev]
def agD (d : Dt) : Value := .agg #[.int .i64 d.slot, .int .i64 d.lo, .int .i64 d.hi, .int .i64 d.age, .int .i64 d.lev]
def lateF (k : Kv) (d : Dt) : Int := if k.wait ≤ d.age then 0 else 1
set_option maxHeartbeats 1000000 in
theorem late_any (k : Kv) (d : Dt) (bw : Nat) (w : World) (h : w.heap[bw]? = some (.cells #[.int .i64 k.wait] 3)) :
    Calls Try.prog 30 #[agD d, .pointer (some ⟨bw, 0, none⟩)] w fun e w' => e = .returned (.int .i64 (lateF k d)) ∧ Ext w w' := by
  have h0 := cell_of_row _ _ 0 _ _ _ h
  have hb := lt_of_heap h
  simp at h0
  clear h
  unfold agD
  by_cases hq : k.wait ≤ d.age
  · have HQ := Lib.hid hq
    go_enter Try.func30, Try.ntmps30
    go_wp2_with fail
    go_ret
    exact ⟨ret_int (by unfold lateF; rw [if_pos HQ.out]), (by repeat (first | exact Ext.refl _ | refine Ext.alloc ?_ _ | refine Ext.more ?_ _ _ | refine Ext.drew ?_ | refine Ext.drewN ?_ _ | refine Ext.setCell ?_ (by simp <;> omega) _))⟩
  · have HQ := Lib.hid hq
    have hq2 : decide (k.wait ≤ d.age) = false := decide_eq_false hq
    clear hq
    go_enter Try.func30, Try.ntmps30
    go_wp2_with fail
    go_ret
    exact ⟨ret_int (by unfold lateF; rw [if_neg (by have := HQ.out; omega)]), (by repeat (first | exact Ext.refl _ | refine Ext.alloc ?_ _ | refine Ext.more ?_ _ _ | refine Ext.drew ?_ | refine Ext.drewN ?_ _ | refine Ext.setCell ?_ (by simp <;> omega) _))⟩
/-- the order as a value, and what it holds -/
structure OrdAt (w : World) (bl bv bw : Nat) (k : Kv) : Prop where
  late : w.heap[bl]? = some (.cells #[.func (.func 30) #[] #[.pointer (some ⟨bw, 0, none⟩)]] 66)
  view : w.heap[bv]? = some (.cells #[.int .i64 k.lo, .int .i64 k.hi] 29)
  wait : w.heap[bw]? = some (.cells #[.int .i64 k.wait] 3)
def ordV (bl bv : Nat) : Value := .func (.func 31) #[] #[.pointer (some ⟨bl, 0, none⟩), .pointer (some ⟨bv, 0, none⟩)]
theorem OrdAt.ext {w w' : World} {bl bv bw : Nat} {k : Kv} (h : OrdAt w bl bv bw k) (e : Ext w w') : OrdAt w' bl bv bw k := ⟨ext_block h.late e, ext_block h.view e, ext_block h.wait e⟩
def farD (k : Kv) (d : Dt) : Int := farF d.lo d.hi k.lo k.hi
/-- the order's answer -/
def cmpD (k : Kv) (a b : Dt) : Int :=
  if lateF k a < lateF k b then -1 else if lateF k b < lateF k a then 1 else
  if lateF k a = 0 then orF [cmpI b.age a.age, cmpI a.slot b.slot] else orF [cmpI (farD k a) (farD k b), cmpI a.lo b.lo, cmpI a.slot b.slot]
theorem late01 (k : Kv) (d : Dt) : (k.wait ≤ d.age ∧ lateF k d = 0) ∨ (¬ k.wait ≤ d.age ∧ lateF k d = 1) := by
  unfold lateF
  by_cases h : k.wait ≤ d.age
  · exact .inl ⟨h, if_pos h⟩
  · exact .inr ⟨h, if_neg h⟩
set_option maxRecDepth 100000 in
set_option maxHeartbeats 2000000 in
theorem cmpD_any (k : Kv) (a b : Dt) (bl bv bw : Nat) (w : World) (h : OrdAt w bl bv bw k) :
    Calls Try.prog 31 #[agD a, agD b, .pointer (some ⟨bl, 0, none⟩), .pointer (some ⟨bv, 0, none⟩)] w fun e w' => e = .returned (.int .i64 (cmpD k a b)) ∧ Ext w w' := by
  obtain ⟨W2, hW2⟩ : ∃ W2, (w.alloc (.cells #[.int .i64 a.slot, .int .i64 a.lo, .int .i64 a.hi, .int .i64 a.age, .int .i64 a.lev] 31)).alloc (.cells #[.int .i64 b.slot, .int .i64 b.lo, .int .i64 b.hi, .int .i64 b.age, .int .i64 b.lev] 31) = W2 := ⟨_, rfl⟩
  obtain ⟨n, hn⟩ : ∃ n, w.heap.size = n := ⟨_, rfl⟩
  have X2 : Hid (Ext w W2) := Lib.hid (by rw [← hW2]; exact (by repeat (first | exact Ext.refl _ | refine Ext.alloc ?_ _ | refine Ext.more ?_ _ _ | refine Ext.drew ?_ | refine Ext.drewN ?_ _ | refine Ext.setCell ?_ (by simp <;> omega) _)))
  have G0 : W2.heap[n]? = some (.cells #[.int .i64 a.slot, .int .i64 a.lo, .int .i64 a.hi, .int .i64 a.age, .int .i64 a.lev] 31) := by rw [← hW2, ← hn]; exact (by simp only [heap_alloc_get, World.size_alloc]; (repeat (split; (first | rfl | (exfalso; omega)))); (try (first | (exfalso; omega) | simp_all)))
  have G1 : W2.heap[n + 1]? = some (.cells #[.int .i64 b.slot, .int .i64 b.lo, .int .i64 b.hi, .int .i64 b.age, .int .i64 b.lev] 31) := by rw [← hW2, ← hn]; exact (by simp only [heap_alloc_get, World.size_alloc]; (repeat (split; (first | rfl | (exfalso; omega)))); (try (first | (exfalso; omega) | simp_all)))
  have HD := Lib.hid (h.ext X2.out)
  have HG0 := Lib.hid G0
  have HG1 := Lib.hid G1
  have CA := fun V (x : Ext W2 V) => late_any k a bw V (HD.out.ext x).wait
  have CB := fun V (x : Ext W2 V) => late_any k b bw V (HD.out.ext x).wait
  clear h G0 G1
  have hcase : ∃ x y : Int, lateF k a = x ∧ lateF k b = y ∧ ((x = 0 ∧ y = 0) ∨ (x = 0 ∧ y = 1) ∨ (x = 1 ∧ y = 0) ∨ (x = 1 ∧ y = 1)) := by
    rcases late01 k a with ⟨_, e1⟩ | ⟨_, e1⟩ <;> rcases late01 k b with ⟨_, e2⟩ | ⟨_, e2⟩ <;> exact ⟨_, _, rfl, rfl, by omega⟩
  obtain ⟨x, y, e1, e2, hxy⟩ := hcase
  rw [e1] at CA
  rw [e2] at CB
  have HE1 := Lib.hid e1
  have HE2 := Lib.hid e2
  have HCA := Lib.hid CA
  have HCB := Lib.hid CB
  obtain ⟨z, hz⟩ : ∃ z, cmpI x y = z := ⟨_, rfl⟩
  have CC := fun V => compare_any x y V
  rw [hz] at CC
  have HCC := Lib.hid CC
  have HZ := Lib.hid hz
  have HXY := Lib.hid hxy
  clear CA CB CC e1 e2 hxy hz
  unfold agD at HCA HCB ⊢
  go_enter Try.func31, Try.ntmps31
  go_upto_region 1 with fail
  clear hW2 hn
  have hl := cell_of_row _ _ 0 _ _ _ HD.out.late
  have hbl := lt_of_heap HD.out.late
  have a0 := cell_of_row _ _ 0 _ _ _ HG0.out
  have a1 := cell_of_row _ _ 1 _ _ _ HG0.out
  have a2 := cell_of_row _ _ 2 _ _ _ HG0.out
  have a3 := cell_of_row _ _ 3 _ _ _ HG0.out
  have a4 := cell_of_row _ _ 4 _ _ _ HG0.out
  have ha := lt_of_heap HG0.out
  have b0 := cell_of_row _ _ 0 _ _ _ HG1.out
  have b1 := cell_of_row _ _ 1 _ _ _ HG1.out
  have b2 := cell_of_row _ _ 2 _ _ _ HG1.out
  have b3 := cell_of_row _ _ 3 _ _ _ HG1.out
  have b4 := cell_of_row _ _ 4 _ _ _ HG1.out
  have hb := lt_of_heap HG1.out
  simp at hl a0 a1 a2 a3 a4 b0 b1 b2 b3 b4
  refine wp_region_bt (8) (softs_bt [0, 1, 3, 4] (.step 2 (.step 5 (.step 6 (softs_bt [7] .fin))))) (by kernel_rfl) (by kernel_rfl) ?_
  (refine bt_softs _ fun K hK => ?_); (simp only [pick, nthC]); (repeat (go_big_quiet_step (fail))); (refine wpQuiet_nil (hK _ ?_)); (clear hK K)
  (refine bt_step fun next hn => ?_); (simp only [pick, nthC])
  go_wp2_with fail
  refine (HCA.out _ (by repeat (first | exact Ext.refl _ | refine Ext.alloc ?_ _ | refine Ext.more ?_ _ _ | refine Ext.drew ?_ | refine Ext.drewN ?_ _ | refine Ext.setCell ?_ (by simp <;> omega) _))).mono ?_
  rintro e V1 ⟨rfl, hv1⟩
  have Y1 : Hid (Ext W2 V1) := Lib.hid (Ext.trans (by repeat (first | exact Ext.refl _ | refine Ext.alloc ?_ _ | refine Ext.more ?_ _ _ | refine Ext.drew ?_ | refine Ext.drewN ?_ _ | refine Ext.setCell ?_ (by simp <;> omega) _)) hv1)
  clear hv1
  go_wp2_with fail
  refine segQ_mk (fun _ => laid Y1.out) (hn _ _ ?_)
  clear hn next
  (refine bt_step fun next hn => ?_); (simp only [pick, nthC])
  go_wp2_with fail
  refine (HCB.out _ Y1.out).mono ?_
  rintro e V2 ⟨rfl, hv2⟩
  have Y2 : Hid (Ext W2 V2) := Lib.hid (Y1.out.trans hv2)
  clear hv2 Y1
  go_wp2_with fail
  refine segQ_mk (fun _ => laid Y2.out) (hn _ _ ?_)
  clear hn next
  (refine bt_step fun next hn => ?_); (simp only [pick, nthC])
  go_wp2_with fail
  refine (HCC.out _).mono ?_
  rintro e V3 ⟨rfl, hv3⟩
  have Y3 : Hid (Ext W2 V3) := Lib.hid (Y2.out.trans hv3)
  clear hv3 Y2
  go_wp2_with fail
  refine segQ_mk (fun _ => laid Y3.out) (hn _ _ ?_)
  clear hn next
  (refine bt_softs _ fun K hK => ?_); (simp only [pick, nthC]); (repeat (go_big_quiet_step (fail))); (refine wpQuiet_nil (hK _ ?_)); (clear hK K)
  (refine bt_fin ?_)
  clear hl hbl a0 a1 a2 a3 a4 ha b0 b1 b2 b3 b4 hb
  have hl := cell_of_row _ _ 0 _ _ _ (HD.out.ext Y3.out).late
  have hbl := lt_of_heap (HD.out.ext Y3.out).late
  have a0 := cell_of_row _ _ 0 _ _ _ (ext_block HG0.out Y3.out)
  have a1 := cell_of_row _ _ 1 _ _ _ (ext_block HG0.out Y3.out)
  have a2 := cell_of_row _ _ 2 _ _ _ (ext_block HG0.out Y3.out)
  have a3 := cell_of_row _ _ 3 _ _ _ (ext_block HG0.out Y3.out)
  have a4 := cell_of_row _ _ 4 _ _ _ (ext_block HG0.out Y3.out)
  have ha := lt_of_heap (ext_block HG0.out Y3.out)
  simp at hl a0 a1 a2 a3 a4
  rcases HXY.out with ⟨rfl, rfl⟩ | ⟨rfl, rfl⟩ | ⟨rfl, rfl⟩ | ⟨rfl, rfl⟩
  · obtain rfl : z = 0 := by rw [← HZ.out]; rfl
    go_wp2_with fail
    refine (HCA.out _ Y3.out).mono ?_
    rintro e V4 ⟨rfl, hv4⟩
    have Y4 : Hid (Ext W2 V4) := Lib.hid (Y3.out.trans hv4)
    clear hv4 hl hbl a0 a1 a2 a3 a4 ha
    have a0 := cell_of_row _ _ 0 _ _ _ (ext_block HG0.out Y4.out)
    have a1 := cell_of_row _ _ 1 _ _ _ (ext_block HG0.out Y4.out)
    have a2 := cell_of_row _ _ 2 _ _ _ (ext_block HG0.out Y4.out)
    have a3 := cell_of_row _ _ 3 _ _ _ (ext_block HG0.out Y4.out)
    have a4 := cell_of_row _ _ 4 _ _ _ (ext_block HG0.out Y4.out)
    have b0 := cell_of_row _ _ 0 _ _ _ (ext_block HG1.out Y4.out)
    have b1 := cell_of_row _ _ 1 _ _ _ (ext_block HG1.out Y4.out)
    have b2 := cell_of_row _ _ 2 _ _ _ (ext_block HG1.out Y4.out)
    have b3 := cell_of_row _ _ 3 _ _ _ (ext_block HG1.out Y4.out)
    have b4 := cell_of_row _ _ 4 _ _ _ (ext_block HG1.out Y4.out)
    have ha := lt_of_heap (ext_block HG0.out Y4.out)
    have hb := lt_of_heap (ext_block HG1.out Y4.out)
    simp at a0 a1 a2 a3 a4 b0 b1 b2 b3 b4
    go_upto_region 5 with fail
    refine wp_region_bt (13) (softs_bt [0, 1, 2, 3, 5, 6, 7, 8] (.step 4 (.step 9 (.step 10 (.step 11 (softs_bt [12] .fin)))))) (by kernel_rfl) (by kernel_rfl) ?_
    (refine bt_softs _ fun K hK => ?_); (simp only [pick, nthC]); (repeat (go_big_quiet_step (fail))); (refine wpQuiet_nil (hK _ ?_)); (clear hK K)
    (refine bt_step fun next hn => ?_); (simp only [pick, nthC])
    go_wp2_with fail
    refine (compare_any b.age a.age _).mono ?_
    rintro e V5 ⟨rfl, hv5⟩
    have Y5 : Hid (Ext V4 V5) := Lib.hid (Ext.trans (by repeat (first | exact Ext.refl _ | refine Ext.alloc ?_ _ | refine Ext.more ?_ _ _ | refine Ext.drew ?_ | refine Ext.drewN ?_ _ | refine Ext.setCell ?_ (by simp <;> omega) _)) hv5)
    clear hv5
    go_wp2_with fail
    refine segQ_mk (fun _ => laid Y5.out) (hn _ _ ?_)
    clear hn next
    (refine bt_step fun next hn => ?_); (simp only [pick, nthC])
    go_wp2_with fail
    refine (compare_any a.slot b.slot _).mono ?_
    rintro e V6 ⟨rfl, hv6⟩
    have Y6 : Hid (Ext V4 V6) := Lib.hid (Y5.out.trans hv6)
    clear hv6
    go_wp2_with fail
    refine segQ_mk (fun _ => laid Y6.out) (hn _ _ ?_)
    clear hn next
    (refine bt_step fun next hn => ?_); (simp only [pick, nthC])
    go_wp2_with fail
    refine segQ_mk (fun _ => laid (Y6.out.alloc _)) (hn _ _ ?_)
    clear hn next
    (refine bt_step fun next hn => ?_); (simp only [pick, nthC])
    go_wp2_with fail
    refine (or_any _ 2 [cmpI b.age a.age, cmpI a.slot b.slot] _ (ints_lit (heap_alloc_new V6 _)) (by simp)).mono ?_
    rintro e V7 ⟨rfl, hv7⟩
    have Y7 : Hid (Ext V4 V7) := Lib.hid ((Y6.out.alloc _).trans hv7)
    clear hv7
    go_wp2_with fail
    refine segQ_mk (fun _ => laid Y7.out) (hn _ _ ?_)
    clear hn next
    (refine bt_softs _ fun K hK => ?_); (simp only [pick, nthC]); (repeat (go_big_quiet_step (fail))); (refine wpQuiet_nil (hK _ ?_)); (clear hK K)
    (refine bt_fin ?_)
    go_wp2_with fail
    go_ret
    exact ⟨ret_int (by unfold cmpD; rw [HE1.out, HE2.out]; rfl), (X2.out.trans Y4.out).trans Y7.out⟩
  · obtain rfl : z = -1 := by rw [← HZ.out]; rfl
    go_wp2_with fail
    go_ret
    exact ⟨ret_int (by unfold cmpD; rw [HE1.out, HE2.out]; rfl), X2.out.trans Y3.out⟩
  · obtain rfl : z = 1 := by rw [← HZ.out]; rfl
    go_wp2_with fail
    go_ret
    exact ⟨ret_int (by unfold cmpD; rw [HE1.out, HE2.out]; rfl), X2.out.trans Y3.out⟩
  · obtain rfl : z = 0 := by rw [← HZ.out]; rfl
    go_wp2_with fail
    refine (HCA.out _ Y3.out).mono ?_
    rintro e V4 ⟨rfl, hv4⟩
    have Y4 : Hid (Ext W2 V4) := Lib.hid (Y3.out.trans hv4)
    clear hv4 hl hbl a0 a1 a2 a3 a4 ha
    have a0 := cell_of_row _ _ 0 _ _ _ (ext_block HG0.out Y4.out)
    have a1 := cell_of_row _ _ 1 _ _ _ (ext_block HG0.out Y4.out)
    have a2 := cell_of_row _ _ 2 _ _ _ (ext_block HG0.out Y4.out)
    have a3 := cell_of_row _ _ 3 _ _ _ (ext_block HG0.out Y4.out)
    have a4 := cell_of_row _ _ 4 _ _ _ (ext_block HG0.out Y4.out)
    have b0 := cell_of_row _ _ 0 _ _ _ (ext_block HG1.out Y4.out)
    have b1 := cell_of_row _ _ 1 _ _ _ (ext_block HG1.out Y4.out)
    have b2 := cell_of_row _ _ 2 _ _ _ (ext_block HG1.out Y4.out)
    have b3 := cell_of_row _ _ 3 _ _ _ (ext_block HG1.out Y4.out)
    have b4 := cell_of_row _ _ 4 _ _ _ (ext_block HG1.out Y4.out)
    have ha := lt_of_heap (ext_block HG0.out Y4.out)
    have hb := lt_of_heap (ext_block HG1.out Y4.out)
    simp at a0 a1 a2 a3 a4 b0 b1 b2 b3 b4
    have v0 := cell_of_row _ _ 0 _ _ _ (HD.out.ext Y4.out).view
    have v1 := cell_of_row _ _ 1 _ _ _ (HD.out.ext Y4.out).view
    have hbv := lt_of_heap (HD.out.ext Y4.out).view
    simp at v0 v1
    go_upto_region 6 with fail
    refine wp_region_bt (24) (softs_bt [0, 1, 2, 4, 5, 6, 9, 10, 11, 12, 13, 14, 16, 17, 18, 19] (.step 3 (.step 7 (.step 8 (.step 15 (.step 20 (.step 21 (.step 22 (softs_bt [23] .fin))))))))) (by kernel_rfl) (by kernel_rfl) ?_
    (refine bt_softs _ fun K hK => ?_); (simp only [pick, nthC]); (repeat (go_big_quiet_step (fail))); (refine wpQuiet_nil (hK _ ?_)); (clear hK K)
    (refine bt_step fun next hn => ?_); (simp only [pick, nthC])
    go_wp2_with fail
    refine (far_any a.lo a.hi k.lo k.hi _).mono ?_
    rintro e V5 ⟨rfl, hv5⟩
    have Y5 : Hid (Ext V4 V5) := Lib.hid (Ext.trans (by repeat (first | exact Ext.refl _ | refine Ext.alloc ?_ _ | refine Ext.more ?_ _ _ | refine Ext.drew ?_ | refine Ext.drewN ?_ _ | refine Ext.setCell ?_ (by simp <;> omega) _)) hv5)
    clear hv5
    go_wp2_with fail
    refine segQ_mk (fun _ => laid Y5.out) (hn _ _ ?_)
    clear hn next
    (refine bt_step fun next hn => ?_); (simp only [pick, nthC])
    go_wp2_with fail
    refine (far_any b.lo b.hi k.lo k.hi _).mono ?_
    rintro e V6 ⟨rfl, hv6⟩
    have Y6 : Hid (Ext V4 V6) := Lib.hid (Y5.out.trans hv6)
    clear hv6 Y5
    go_wp2_with fail
    refine segQ_mk (fun _ => laid Y6.out) (hn _ _ ?_)
    clear hn next
    (refine bt_step fun next hn => ?_); (simp only [pick, nthC])
    go_wp2_with fail
    refine (compare_any (farF a.lo a.hi k.lo k.hi) (farF b.lo b.hi k.lo k.hi) _).mono ?_
    rintro e V7 ⟨rfl, hv7⟩
    have Y7 : Hid (Ext V4 V7) := Lib.hid (Y6.out.trans hv7)
    clear hv7 Y6
    go_wp2_with fail
    refine segQ_mk (fun _ => laid Y7.out) (hn _ _ ?_)
    clear hn next
    (refine bt_step fun next hn => ?_); (simp only [pick, nthC])
    go_wp2_with fail
    refine (compare_any a.lo b.lo _).mono ?_
    rintro e V8 ⟨rfl, hv8⟩
    have Y8 : Hid (Ext V4 V8) := Lib.hid (Y7.out.trans hv8)
    clear hv8 Y7
    go_wp2_with fail
    refine segQ_mk (fun _ => laid Y8.out) (hn _ _ ?_)
    clear hn next
    (refine bt_step fun next hn => ?_); (simp only [pick, nthC])
    go_wp2_with fail
    refine (compare_any a.slot b.slot _).mono ?_
    rintro e V9 ⟨rfl, hv9⟩
    have Y9 : Hid (Ext V4 V9) := Lib.hid (Y8.out.trans hv9)
    clear hv9 Y8
    go_wp2_with fail
    refine segQ_mk (fun _ => laid Y9.out) (hn _ _ ?_)
    clear hn next
    (refine bt_step fun next hn => ?_); (simp only [pick, nthC])
    go_wp2_with fail
    refine segQ_mk (fun _ => laid (Y9.out.alloc _)) (hn _ _ ?_)
    clear hn next
    (refine bt_step fun next hn => ?_); (simp only [pick, nthC])
    go_wp2_with fail
    refine (or_any _ 3 [cmpI (farF a.lo a.hi k.lo k.hi) (farF b.lo b.hi k.lo k.hi), cmpI a.lo b.lo, cmpI a.slot b.slot] _ (ints_lit (heap_alloc_new V9 _)) (by simp)).mono ?_
    rintro e Va ⟨rfl, hva⟩
    have Ya : Hid (Ext V4 Va) := Lib.hid ((Y9.out.alloc _).trans hva)
    clear hva
    go_wp2_with fail
    refine segQ_mk (fun _ => laid Ya.out) (hn _ _ ?_)
    clear hn next
    (refine bt_softs _ fun K hK => ?_); (simp only [pick, nthC]); (repeat (go_big_quiet_step (fail))); (refine wpQuiet_nil (hK _ ?_)); (clear hK K)
    (refine bt_fin ?_)
    go_wp2_with fail
    go_ret
    exact ⟨ret_int (by unfold cmpD farD; rw [HE1.out, HE2.out]; rfl), (X2.out.trans Y4.out).trans Ya.out⟩
end Go.Proofs.Ytmgpofdmfmeljaa
