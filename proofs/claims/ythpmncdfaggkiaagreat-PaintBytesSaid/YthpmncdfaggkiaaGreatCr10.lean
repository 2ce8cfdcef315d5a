/- Cr: texts that the proof rests on, part 10. -/
import Derived.Test.YthpmncdfaggkiaaGreatCr1
import Derived.Test.YthpmncdfaggkiaaGreatCr2
import Derived.Test.YthpmncdfaggkiaaGreatCr3
import Derived.Test.YthpmncdfaggkiaaGreatCr5
import Derived.Test.YthpmncdfaggkiaaGreatCr6
import Derived.Test.YthpmncdfaggkiaaGreatCr7
import Derived.Test.YthpmncdfaggkiaaGreatCr8
import Derived.Test.YthpmncdfaggkiaaGreatCr9
namespace Go.Proofs.YthpmncdfaggkiaaGreat
open Go.RowKit
attribute [local go_sem] more_drew more_drewN more_size more_cell more_frozen more_setCell drew_more drewN_more lt_add_r lt_add_r2 lt_add_r3 lt_add_r4 lt_add_r5 lt_add_r6 lt_add_r7 lt_add_r8 lt_add_r9 lt_add_r10 lt_self_r lt_self_r2
abbrev sW : ByteArray := ⟨#[119, 111, 114, 100]⟩
abbrev sG : ByteArray := ⟨#[103, 97, 112]⟩
abbrev rW : ByteArray := ⟨#[91, 97, 45, 122, 93, 43]⟩
abbrev rG : ByteArray := ⟨#[91, 32, 93, 43]⟩
structure RulesRd (w : World) (rb : Nat) : Prop where
 r0 : w.cell? ⟨rb, 0, none⟩ = some (.string sW)
 r1 : w.cell? ⟨rb, 1, none⟩ = some (.string rW)
 r2 : w.cell? ⟨rb, 2, none⟩ = some (.bool false)
 r3 : w.cell? ⟨rb, 3, none⟩ = some (.string sG)
 r4 : w.cell? ⟨rb, 4, none⟩ = some (.string rG)
 r5 : w.cell? ⟨rb, 5, none⟩ = some (.bool true)
 rl : rb < w.heap.size
theorem RulesRd.ext {w w' : World} {rb : Nat} (h : RulesRd w rb) (e : Ext w w') : RulesRd w' rb := ⟨ext_cell h.r0 h.rl e, ext_cell h.r1 h.rl e, ext_cell h.r2 h.rl e, ext_cell h.r3 h.rl e, ext_cell h.r4 h.rl e, ext_cell h.r5 h.rl e, Nat.lt_of_lt_of_le h.rl e.size⟩
theorem txW : TxG rW 5 zWord := TxR.g (lo := 97) (hi := 122) ⟨rfl, rfl, rfl, rfl, rfl, rfl, rfl, by decide, by decide, by decide, by decide, by decide, by decide⟩
theorem txGap : TxG rG 3 zGap := TxC.g (c := 32) ⟨rfl, rfl, rfl, rfl, rfl, by decide, by decide, by decide⟩
theorem own_keepS {w w' : World} {base : Nat} {e : TypeId} {size n : Nat} {v : Value} {xs : List Value} {S : Nat → Prop} (h : w.ownsRow base e size v n xs) (t : Turn S w w') (hS : ∀ g, v.ownBlock = some g → ¬ S g) : w'.ownsRow base e size v n xs := own_keep h fun g hg => t.block g (own_old h g hg) (hS g hg)
theorem own_ne {w : World} {base : Nat} {e : TypeId} {size n : Nat} {v : Value} {xs : List Value} {b : Nat} {cs : Array Value} {T : TypeId} (h : w.ownsRow base e size v n xs) (hb : w.heap[b]? = some (.cells cs T)) (hT : T ≠ e) : v.ownBlock ≠ some b := fun hh => by
 obtain ⟨cur, hcur⟩ := own_obj h b hh
 exact ne_type hb hcur hT rfl
theorem bfsWord : Bfs wordT 3 := ⟨wordFound.known, wordFound.next, wordFound.all⟩
theorem least_words (nv rv : Value) (w : World) (hN : DfaRd w nv rv wordN wordR) : Calls Tryz.prog 99 #[.agg #[nv, rv]] w fun e w' => ∃ nv' rv', e = .returned (.tuple #[.agg #[nv', rv'], .int .i64 0]) ∧ DfaRd w' nv' rv' wordN wordR ∧ Ext w w' := least_any nv rv wordT wordR w hN dfaok_words apart_words bfsWord
set_option maxRecDepth 100000 in
theorem table_words (cv nv rv : Value) (w : World) (hN : NfaRd w cv nv rv [Cl.zero, zWord, zGap] [[1, 2], [1], [2]] [-1, 0, 1]) : Calls Tryz.prog 98 #[.agg #[cv, nv, rv], .int .i64 512] w fun e w' => ∃ nv' rv', e = .returned (.tuple #[.agg #[nv', rv'], .int .i64 0]) ∧ DfaRd w' nv' rv' wordN wordR ∧ Ext w w' := by
 have h := build_table cv nv rv _ _ _ _ _ _ w hN (ok_words zWord zGap) wordFound
 rw [show 256 * ([0, 2, 1] : List Nat).length = 768 from rfl] at h
 exact h
theorem wordN_length : wordN.length = 768 := tlF_length _ _
theorem lex_store {w : World} {lb : Nat} {nv rv v0 v1 : Value} {A0 A1 A2 : Option Addr} {n0 n1 n2 c0 c1 c2 : Nat} {x : Value} (hb : w.heap[lb]? = some (.cells #[.slice A0 n0 c0, .slice A1 n1 c1, .slice A2 n2 c2, x] 96)) (h : DfaRd w nv rv wordN wordR) : DfaRd (put2 w lb v0 v1) nv rv wordN wordR ∧ (put2 w lb v0 v1).heap[lb]? = some (.cells #[v0, v1, .slice A2 n2 c2, x] 96) := by
 refine ⟨h.lex (by rw [wordN_length]; omega) (by decide) hb (put2_turn (S := fun k => k = lb) rfl _ _), ?_⟩
 exact setCell_row (setCell_row hb _) _
set_option maxRecDepth 100000 in
set_option maxHeartbeats 2000000 in
theorem build07_words (rb rc : Nat) (w : World) (h : RulesRd w rb) : Calls Tryz.prog 57 #[.slice (some ⟨rb, 0, none⟩) 2 rc] w fun e w' => ∃ nv rv kv, e = .returned (.tuple #[lexV nv rv kv 1, .int .i64 2, .int .i64 0]) ∧ LexRd w' nv rv kv wordN wordR [0, -1] ∧ Ext w w' := by
 obtain ⟨qb, hqb⟩ : ∃ b, w.heap.size = b := ⟨_, rfl⟩
 obtain ⟨W, hW⟩ : ∃ W, w.alloc (.cells #[nil0, nil0, nil0, .int .i64 0] 96) = W := ⟨_, rfl⟩
 have hQ : W.heap[qb]? = some (.cells #[nil0, nil0, nil0, .int .i64 0] 96) := by rw [← hW, ← hqb]; exact heap_alloc_new _ _
 have X1 : Ext w W := by rw [← hW]; exact (by repeat first | exact xr _ | refine xa ?_ _ | refine xm ?_ _ _ | refine xd ?_ | refine xn ?_ _ | refine xs ?_ (by simp <;> omega) _)
 obtain ⟨lb, hlb⟩ : ∃ b, W.heap.size = b := ⟨_, rfl⟩
 obtain ⟨W1, hW1⟩ : ∃ V, W.alloc (.cells #[nil0, nil0, nil0, .int .i64 0] 96) = V := ⟨_, rfl⟩
 have hL1 : W1.heap[lb]? = some (.cells #[nil0, nil0, nil0, .int .i64 0] 96) := by rw [← hW1, ← hlb]; exact heap_alloc_new _ _
 obtain ⟨W2, hW2⟩ : ∃ V, put4 W1 lb nil0 nil0 nil0 (.int .i64 0) = V := ⟨_, rfl⟩
 have hL2 : W2.heap[lb]? = some (.cells #[nil0, nil0, nil0, .int .i64 0] 96) := by rw [← hW2]; exact put4_at hL1 _ _ _ _
 have X12 : Ext W W2 := by rw [← hW2]; exact (put4_turn (S := fun k => k = lb) rfl _ _ _ _).ext (show Ext W W1 from by rw [← hW1]; exact (by repeat first | exact xr _ | refine xa ?_ _ | refine xm ?_ _ _ | refine xd ?_ | refine xn ?_ _ | refine xs ?_ (by simp <;> omega) _)) (fun k hk => by omega)
 have HX2 := zh (X1.trans X12)
 have HQ2 := zh hQ
 have HL2 := zh hL2
 have HLW : Hid (w.heap.size ≤ lb ∧ lb < W2.heap.size ∧ W.heap.size ≤ lb ∧ w.heap.size ≤ qb ∧ qb < W.heap.size) := zh ⟨by have := X1.size; omega, lt_of_heap hL2, by omega, by omega, lt_of_heap hQ⟩
 have HX1 := zh X1
 have HXW := zh X12
 have HR := zh h
 have z0 := cell_of_row _ _ 0 _ _ _ hL1
 have z1 := cell_of_row _ _ 1 _ _ _ hL1
 have z2 := cell_of_row _ _ 2 _ _ _ hL1
 have z3 := cell_of_row _ _ 3 _ _ _ hL1
 have zl := lt_of_heap hL1
 have zf := fun k => row_frozen hL1 k
 simp at z0 z1 z2 z3
 unfold put4 put3 put2 at hW2
 clear h X1 X12 hQ hL1 hL2
 go_enter Tryz.func57, Tryz.ntmps57
 go_upto_region 6 with fail
 try simp only [hqb]
 try simp only [hW]
 try simp only [hlb]
 try simp only [hW1]
 try simp only [hW2]
 clear hqb hW hlb hW1 hW2 z0 z1 z2 z3 zl zf
 go_wp2_with fail
 refine wp_loop_rounds 3 ?_
 rw [rounds_succ]
 obtain ⟨r0, r1, r2, r3, r4, r5, rl⟩ := HR.out.ext HX2.out
 go_wp2_with fail
 refine wp_loop_rounds 1 ?_
 rw [rounds_succ]
 have HRD := zh (read_f rW 5 zWord W2 txW)
 go_wp2_with fail
 refine HRD.out.mono ?_
 rintro e W3 ⟨A1, c1, rfl, hr1, _, _, hx3⟩
 clear HRD r0 r1 r2 r3 r4 r5 rl
 have HX3 := zh hx3
 have HA1 := zh hr1
 have HNU := zh (fun w1 (e1 : Ext W3 w1) => nullable_r2 A1 c1 zWord w1 (hr1.ext e1).r2)
 clear hx3 hr1
 go_wp2_with fail
 refine (HNU.out _ (Ext.refl _)).mono ?_
 rintro e W4 ⟨rfl, hx4⟩
 have HX4 := zh hx4
 clear hx4 HNU
 go_upto_region 22 with fail
 obtain ⟨i6, hi6, hz0, hz1, hz2⟩ := info_parts infoRx
 have HC := zh (cells_lit W4 141 W4.heap.size #[.slice A1 2 c1] [.slice A1 2 c1] rfl rfl)
 have HB0 : Hid (W3.heap.size ≤ W4.heap.size) := zh HX4.out.size
 go_upto_region 23 with (at_builtin; refine wpList_append_cells _ (by rfl) (.tmp 76) (.tmp 78) 139 rfl W3.heap.size 141 i6 _ 1 24 Tryz.underlying139 hi6 hz0 hz1 hz2 rfl (by omega) nil0 0 [] rfl (World.ownsRow_nil _ _ _ _) (some ⟨W4.heap.size, 0, none⟩) 1 1 [.slice A1 2 c1] rfl (by intro h; cases h) rfl HC.out (by intro u hu; obtain rfl := List.mem_singleton.1 hu; rfl) (by unfold maxLen; omega) (by omega) (by have := HB0.out; simp <;> omega) ?_; intro v5 w5 ho5 hg5 hat5)
 obtain ⟨L5, c5, rfl, _⟩ := own_cells ho5
 have X5 : Ext W4 w5 := ((by repeat first | exact xr _ | refine xa ?_ _ | refine xm ?_ _ _ | refine xd ?_ | refine xn ?_ _ | refine xs ?_ (by simp <;> omega) _) : Ext W4 (W4.alloc (.cells #[.slice A1 2 c1] 141))).grown hg5 (fun g hg => by cases hg)
 have HX5 := zh (HX3.out.trans (HX4.out.trans X5))
 have HBS : Hid (W3.heap.size ≤ w5.heap.size) := zh (Nat.le_trans HX4.out.size X5.size)
 have HA5 := zh (HA1.out.ext (HX4.out.trans X5))
 have HO5 := zh ho5
 have HI5 : Hid (LbI W w5 W3.heap.size lb nil0 nil0 nil0 0 []) := zh ⟨ext_block HL2.out HX5.out, HLW.out.2.2.1, ⟨none, 0, rfl, OwnI.nil _ _⟩, Nat.le_trans HXW.out.size HX3.out.size, HXW.out.trans HX5.out⟩
 have HZ0 := zh hz0
 have HZ1 := zh hz1
 have HZ2 := zh hz2
 have HI6 := zh hi6
 clear hi6 hz0 hz1 hz2 ho5 hg5 hat5 X5 HC
 obtain ⟨r0, r1, r2, r3, r4, r5, rl⟩ := HR.out.ext (HX2.out.trans HX5.out)
 have d2 := cell_of_row _ _ 2 _ _ _ HI5.out.blk
 have d3 := cell_of_row _ _ 3 _ _ _ HI5.out.blk
 have dl := lt_of_heap HI5.out.blk
 simp at d2 d3
 go_upto_region 26 with (at_builtin; refine app_intO W3 (by rfl) (.tmp 91) (.tmp 94) rfl (xs := []) (HI5.out.to (by repeat first | exact xr _ | refine xa ?_ _ | refine xm ?_ _ _ | refine xd ?_ | refine xn ?_ _ | refine xs ?_ (by simp <;> omega) _)).row 0 w5.heap.size rfl rfl (by simp) (by rw [cell_of_row _ _ 0 _ _ _ (heap_alloc_new w5 (.cells #[.int .i64 0] 3))]; rfl) (by simp) (by have := HBS.out; simp <;> omega) ?_; intro v6 w6 hr6 hg6 hat6; obtain ⟨hb6, ht6, HL6⟩ := (HI5.out.to (by repeat first | exact xr _ | refine xa ?_ _ | refine xm ?_ _ _ | refine xd ?_ | refine xn ?_ _ | refine xs ?_ (by simp <;> omega) _)).app hr6 hg6; obtain ⟨K6, kc6, rfl, _⟩ := id hr6; have e2 := cell_of_row _ _ 2 _ _ _ hb6; simp at e2; have e2f := row_frozen hb6 2; have e2l := lt_of_heap hb6; obtain ⟨W6, hW6⟩ : ∃ V, w6.setCell ⟨lb, 2, none⟩ (.slice K6 1 kc6) = V := ⟨_, rfl⟩; have HL6 : LbI W W6 W3.heap.size lb nil0 nil0 (.slice K6 1 kc6) 0 [0] := hW6 ▸ HL6; have ht6 : Turn (fun g => (nil0 : Value).ownBlock = some g ∨ g = lb) (w5.alloc (.cells #[.int .i64 0] 3)) W6 := hW6 ▸ ht6; clear hb6 hr6 hg6 hat6 d2 d3 dl)
 have T56 : Turn (fun g => g = lb) w5 W6 := by
  have h := (Turn.of_ext (S := fun g => (nil0 : Value).ownBlock = some g ∨ g = lb) ((by repeat first | exact xr _ | refine xa ?_ _ | refine xm ?_ _ _ | refine xd ?_ | refine xn ?_ _ | refine xs ?_ (by simp <;> omega) _) : Ext w5 (w5.alloc (.cells #[.int .i64 0] 3)))).trans ht6
  exact ⟨h.os, h.tape, h.output, h.size, fun k hk hS => h.block k hk (fun he => by
   rcases he with he | he
   ·cases he
   ·exact hS he)⟩
 obtain ⟨W7, hW7⟩ : ∃ V, W6.setCell ⟨lb, 3, none⟩ (.int .i64 1) = V := ⟨_, rfl⟩
 have T67 : Turn (fun g => g = lb) W6 W7 := by rw [← hW7]; exact Turn.set1 _ _ _
 have HL7 : Hid (LbI W W7 W3.heap.size lb nil0 nil0 (.slice K6 1 kc6) 1 [0]) := zh (by rw [← hW7]; exact HL6.set (k := 3) rfl)
 have T57 := T56.trans T67
 have HA7 := zh (HA5.out.turn T57 (fun k h1 h2 he => by have := HLW.out.2.1; omega))
 have HO7 := zh (own_keepS HO5.out T57 (fun g hg he => own_ne HO5.out HI5.out.blk (by decide) (he ▸ hg)))
 have d2 := cell_of_row _ _ 2 _ _ _ HL6.blk
 have d3 := cell_of_row _ _ 3 _ _ _ HL6.blk
 have dl := lt_of_heap HL6.blk
 have df := row_frozen HL6.blk 3
 simp at d2 d3
 clear ht6 T56 T67 T57 HL6 hW6 e2 e2f e2l r0 r1 r2 r3 r4 r5 rl
 go_upto_region 9 with fail
 clear d2 d3 dl df hW7 HI5 HO5 HA5 HA1
 have HXR := zh (HX1.out.trans HL7.out.ext)
 go_wp2_with fail
 rw [rounds_succ]
 obtain ⟨r0, r1, r2, r3, r4, r5, rl⟩ := HR.out.ext HXR.out
 go_wp2_with fail
 refine wp_loop_rounds 2 ?_
 rw [rounds_succ]
 have q1 : (sW.toList == sG.toList) = false := by
  cases hb : (sW.toList == sG.toList) with
  | false => rfl
  | true => exact absurd ((Lib.bytes_beq_iff sW sG).1 hb) (by decide)
 have q2 : (sW == sG) = false := by rw [beq_toListBytes]; exact q1
 go_upto_region 15 with fail; refine wp_region_bt (11) (pures_bt [0, 1, 2, 3, 5, 6, 7, 8] (softs_bt [4, 9, 10] .fin)) (by kernel_rfl) (by kernel_rfl) ?_; refine bt_pures _ fun K hK => ?_; simp only [pick, nthC]; (repeat go_big_quiet_step (fail)); refine wpQuiet_nil (hK _ ?_); clear hK K; refine bt_softs _ fun K hK => ?_; simp only [pick, nthC]; (repeat go_big_quiet_step (fail)); refine wpQuiet_nil (hK _ ?_); clear hK K; (refine bt_fin ?_)
 clear q1 q2
 obtain ⟨V7, hV7⟩ : ∃ V, W7.drew = V := ⟨_, rfl⟩
 have X7 : Ext W7 V7 := by rw [← hV7]; exact (by repeat first | exact xr _ | refine xa ?_ _ | refine xm ?_ _ _ | refine xd ?_ | refine xn ?_ _ | refine xs ?_ (by simp <;> omega) _)
 have HX7 := zh X7
 try simp only [hV7]
 clear hV7 X7 r0 r1 r2 r3 r4 r5 rl
 obtain ⟨r0, r1, r2, r3, r4, r5, rl⟩ := HR.out.ext (HXR.out.trans HX7.out)
 go_wp2_with fail
 rw [rounds_succ]
 have HRD := zh (read_f rG 3 zGap V7 txGap)
 go_wp2_with fail
 refine HRD.out.mono ?_
 rintro e W8 ⟨A2, c2, rfl, hr2, _, _, hx8⟩
 clear HRD r0 r1 r2 r3 r4 r5 rl
 have HX8 := zh (HX7.out.trans hx8)
 have HA2 := zh hr2
 have HNU := zh (fun w1 (e1 : Ext W8 w1) => nullable_r2 A2 c2 zGap w1 (hr2.ext e1).r2)
 have HV7 : Hid (W7.heap.size ≤ V7.heap.size) := zh HX7.out.size
 clear hx8 hr2
 go_wp2_with fail
 refine (HNU.out _ (Ext.refl _)).mono ?_
 rintro e W9 ⟨rfl, hx9⟩
 have HX9 := zh (HX8.out.trans hx9)
 have HB2 := zh (HA2.out.ext hx9)
 clear hx9 HNU
 have HL9 := zh (HL7.out.to HX9.out)
 have HA9 := zh (HA7.out.ext HX9.out)
 have HO9 := zh (own_ext HO7.out HX9.out)
 have HS9 : Hid (∀ g, (Value.slice L5 1 c5).ownBlock = some g → W3.heap.size ≤ g ∧ g < V7.heap.size) := zh (fun g hg => ⟨own_block HO7.out g hg, by have := own_old HO7.out g hg; have := HV7.out; omega⟩)
 have HK9 : Hid (∀ g, (Value.slice K6 1 kc6).ownBlock = some g → W3.heap.size ≤ g ∧ g < V7.heap.size) := zh (fun g hg => ⟨own_block HL7.out.row.own g hg, by have := own_old HL7.out.row.own g hg; have := HV7.out; omega⟩)
 have HM9 : Hid (W3.heap.size ≤ W9.heap.size ∧ lb < W2.heap.size ∧ W2.heap.size ≤ V7.heap.size) := zh (by
  have h1 := HX9.out.size
  have h2 := HLW.out.2.1
  have h3 := HV7.out
  obtain ⟨g, gk, _, a1, a2, a3, a4, a5, _⟩ := HA7.out
  refine ⟨by omega, h2, by omega⟩)
 go_upto_region 22 with fail
 have HC := zh (cells_lit W9 141 W9.heap.size #[.slice A2 2 c2] [.slice A2 2 c2] rfl rfl)
 go_upto_region 23 with (at_builtin; refine wpList_append_cells _ (by rfl) (.tmp 76) (.tmp 78) 139 rfl W3.heap.size 141 i6 _ 1 24 Tryz.underlying139 HI6.out HZ0.out HZ1.out HZ2.out rfl (by omega) (.slice L5 1 c5) 1 [.slice A1 2 c1] rfl (own_ext HO9.out (by repeat first | exact xr _ | refine xa ?_ _ | refine xm ?_ _ _ | refine xd ?_ | refine xn ?_ _ | refine xs ?_ (by simp <;> omega) _)) (some ⟨W9.heap.size, 0, none⟩) 1 1 [.slice A2 2 c2] rfl (by intro h; cases h) rfl HC.out (by intro u hu; obtain rfl := List.mem_singleton.1 hu; rfl) (by unfold maxLen; omega) (by omega) (by have := HM9.out.1; simp <;> omega) ?_; intro v5 w10 ho5 hg5 hat5)
 obtain ⟨L10, c10, rfl, _⟩ := own_cells ho5
 have T10 : Turn (fun g => (Value.slice L5 1 c5).ownBlock = some g) W9 w10 := (Turn.of_ext ((by repeat first | exact xr _ | refine xa ?_ _ | refine xm ?_ _ _ | refine xd ?_ | refine xn ?_ _ | refine xs ?_ (by simp <;> omega) _) : Ext W9 (W9.alloc (.cells #[.slice A2 2 c2] 141)))).trans (Turn.grown hg5 (fun g hg _ => hg))
 have HAa := zh (HA9.out.turn T10 (fun k h1 h2 he => by have := (HS9.out k he).1; omega))
 have HBa := zh (HB2.out.turn T10 (fun k h1 h2 he => by have := (HS9.out k he).2; omega))
 have HOa := zh ho5
 have hba := T10.keep HL9.out.blk (fun hh => own_ne HO9.out HL9.out.blk (by decide) hh)
 have HLa : Hid (LbI W w10 W3.heap.size lb nil0 nil0 (.slice K6 1 kc6) 1 [0]) := zh ⟨hba, HL9.out.low, HL9.out.row.keepT T10 (fun g hg he => by
  obtain ⟨cur, hcur⟩ := HL9.out.row.obj g hg
  exact own_ne HO9.out hcur (by decide) he), HL9.out.bas, T10.ext HL9.out.ext (fun k hk => Nat.le_trans HL9.out.bas (own_block HO9.out k hk))⟩
 clear ho5 hg5 hat5 T10 hba HC HL9 HA9 HO9 HA2 HB2 HL7 HA7 HO7
 obtain ⟨r0, r1, r2, r3, r4, r5, rl⟩ := HR.out.ext (HX1.out.trans HLa.out.ext)
 have d2 := cell_of_row _ _ 2 _ _ _ HLa.out.blk
 have dl := lt_of_heap HLa.out.blk
 simp at d2
 have HBS2 : Hid (W3.heap.size ≤ w10.heap.size) := zh (Nat.le_trans (by
  obtain ⟨g, gk, _, a1, a2, a3, a4, a5, _⟩ := HAa.out
  exact a5) (Nat.le_refl _))
 go_upto_region 9 with (at_builtin; refine app_intO W3 (by rfl) (.tmp 86) (.tmp 87) rfl (xs := [0]) (HLa.out.to (by repeat first | exact xr _ | refine xa ?_ _ | refine xm ?_ _ _ | refine xd ?_ | refine xn ?_ _ | refine xs ?_ (by simp <;> omega) _)).row (-1) w10.heap.size rfl rfl (by simp) (by rw [cell_of_row _ _ 0 _ _ _ (heap_alloc_new w10 (.cells #[.int .i64 (-1)] 3))]; rfl) (by simp) (by have := HBS2.out; simp <;> omega) ?_; intro v6 w11 hr6 hg6 hat6; obtain ⟨hb6, ht6, HL6⟩ := (HLa.out.to (by repeat first | exact xr _ | refine xa ?_ _ | refine xm ?_ _ _ | refine xd ?_ | refine xn ?_ _ | refine xs ?_ (by simp <;> omega) _)).app hr6 hg6; obtain ⟨Kb, kcb, rfl, _⟩ := id hr6; have e2 := cell_of_row _ _ 2 _ _ _ hb6; simp at e2; have e2f := row_frozen hb6 2; have e2l := lt_of_heap hb6; obtain ⟨W12, hW12⟩ : ∃ V, w11.setCell ⟨lb, 2, none⟩ (.slice Kb 2 kcb) = V := ⟨_, rfl⟩; have HL6 : LbI W W12 W3.heap.size lb nil0 nil0 (.slice Kb 2 kcb) 1 [0, -1] := hW12 ▸ HL6; have ht6 : Turn (fun g => (Value.slice K6 1 kc6).ownBlock = some g ∨ g = lb) (w10.alloc (.cells #[.int .i64 (-1)] 3)) W12 := hW12 ▸ ht6; clear hb6 hr6 hg6 hat6 d2 dl)
 have T12 : Turn (fun g => (Value.slice K6 1 kc6).ownBlock = some g ∨ g = lb) w10 W12 := (Turn.of_ext ((by repeat first | exact xr _ | refine xa ?_ _ | refine xm ?_ _ _ | refine xd ?_ | refine xn ?_ _ | refine xs ?_ (by simp <;> omega) _) : Ext w10 (w10.alloc (.cells #[.int .i64 (-1)] 3)))).trans ht6
 have HAc := zh (HAa.out.turn T12 (fun k h1 h2 he => by
  rcases he with he | he
  ·have := (HK9.out k he).1; omega
  ·have := HM9.out; omega))
 have HBc := zh (HBa.out.turn T12 (fun k h1 h2 he => by
  rcases he with he | he
  ·have := (HK9.out k he).2; omega
  ·have := HM9.out; omega))
 have HOc := zh (own_keepS HOa.out T12 (fun g hg he => by
  rcases he with he | he
  ·obtain ⟨cur, hcur⟩ := HLa.out.row.obj g he
   exact own_ne HOa.out hcur (by decide) hg
  ·exact own_ne HOa.out HLa.out.blk (by decide) (he ▸ hg)))
 have HLc := zh HL6
 have HRX : Hid (Rx2 W12 L10 zWord zGap) := zh (by
  obtain ⟨A, c, hA, hc, _⟩ := own_cells HOc.out
  injection hA with hA
  subst hA
  obtain ⟨g, off, rfl, hg, hcc⟩ := hc (by simp)
  exact ⟨g, off, A1, c1, A2, c2, rfl, hg, hcc 0 _ rfl, hcc 1 _ rfl, HAc.out.r2, HBc.out.r2⟩)
 have HNF := zh (nfa_two L10 c10 zWord zGap W12 HRX.out)
 clear ht6 T12 HL6 hW12 e2 e2f e2l r0 r1 r2 r3 r4 r5 rl HAa HBa HOa HLa HAc HBc HOc HRX HS9 HK9
 go_wp2_with fail
 rw [rounds_succ]
 go_wp2_with fail
 refine HNF.out.mono ?_
 rintro e W13 ⟨cv, nv, rv, rfl, hn, hx13⟩
 clear HNF
 obtain ⟨NA0, nd0, rfl⟩ : ∃ A c, cv = .slice A 3 c := by
  obtain ⟨A, c, h, _⟩ := hn.cls
  exact ⟨A, c, h⟩
 obtain ⟨NA1, nd1, rfl⟩ : ∃ A c, nv = .slice A 3 c := by
  obtain ⟨A, c, vs, h, _⟩ := hn.nxt
  exact ⟨A, c, h⟩
 obtain ⟨NA2, nd2, rfl⟩ : ∃ A c, rv = .slice A 3 c := by
  obtain ⟨A, c, h, _⟩ := hn.rul
  exact ⟨A, c, h⟩
 obtain ⟨nb, hnb⟩ : ∃ b, W13.heap.size = b := ⟨_, rfl⟩
 obtain ⟨W14a, hW14a⟩ : ∃ V, W13.alloc (.cells #[nil0, nil0, nil0] 148) = V := ⟨_, rfl⟩
 have hN14 : W14a.heap[nb]? = some (.cells #[nil0, nil0, nil0] 148) := by rw [← hW14a, ← hnb]; exact heap_alloc_new _ _
 obtain ⟨W14, hW14⟩ : ∃ V, put3 W14a nb (.slice NA0 3 nd0) (.slice NA1 3 nd1) (.slice NA2 3 nd2) = V := ⟨_, rfl⟩
 have hP14 : W14.heap[nb]? = some (.cells #[.slice NA0 3 nd0, .slice NA1 3 nd1, .slice NA2 3 nd2] 148) := by rw [← hW14]; exact put3_at hN14 _ _ _
 have X14 : Ext W13 W14 := by rw [← hW14]; exact (put3_turn (S := fun k => k = nb) rfl _ _ _).ext (show Ext W13 W14a from by rw [← hW14a]; exact (by repeat first | exact xr _ | refine xa ?_ _ | refine xm ?_ _ _ | refine xd ?_ | refine xn ?_ _ | refine xs ?_ (by simp <;> omega) _)) (fun k hk => by omega)
 have HX14 := zh (hx13.trans X14)
 have HTB := zh (table_words _ _ _ W14 (hn.ext X14))
 have HP := zh hP14
 have z0 := cell_of_row _ _ 0 _ _ _ hN14
 have z1 := cell_of_row _ _ 1 _ _ _ hN14
 have z2 := cell_of_row _ _ 2 _ _ _ hN14
 have zl := lt_of_heap hN14
 have zf := fun k => row_frozen hN14 k
 simp at z0 z1 z2
 unfold put3 put2 at hW14
 clear hn hx13 hN14 X14 hP14
 go_upto_region 28 with fail
 try simp only [hnb]
 try simp only [hW14a]
 try simp only [hW14]
 clear hnb hW14a hW14 z0 z1 z2 zl zf
 have y0 := cell_of_row _ _ 0 _ _ _ HP.out
 have y1 := cell_of_row _ _ 1 _ _ _ HP.out
 have y2 := cell_of_row _ _ 2 _ _ _ HP.out
 have yl := lt_of_heap HP.out
 simp at y0 y1 y2
 go_wp2_with fail
 refine HTB.out.mono ?_
 rintro e W15 ⟨nv2, rv2, rfl, hd, hx15⟩
 clear y0 y1 y2 yl HTB
 have HX15 := zh (HX14.out.trans hx15)
 have HL15 := zh (HLc.out.to HX15.out)
 have HD15 := zh hd
 obtain ⟨⟨N2, nc2, hnv2, _⟩, R2', rc2, hrv2, _⟩ := id hd
 rw [wordN_length] at hnv2
 have hrv2 : rv2 = .slice R2' 3 rc2 := hrv2
 subst hnv2 hrv2
 clear hd hx15
 obtain ⟨hd16, hb16⟩ := lex_store (v0 := .slice N2 768 nc2) (v1 := .slice R2' 3 rc2) HL15.out.blk HD15.out
 obtain ⟨W16, hW16⟩ : ∃ V, put2 W15 lb (.slice N2 768 nc2) (.slice R2' 3 rc2) = V := ⟨_, rfl⟩
 have T16 : Turn (fun k => k = lb) W15 W16 := by rw [← hW16]; exact put2_turn (S := fun k => k = lb) rfl _ _
 rw [hW16] at hd16 hb16
 have HD16 := zh hd16
 have HL16 : Hid (LbI W W16 W3.heap.size lb (.slice N2 768 nc2) (.slice R2' 3 rc2) (.slice Kb 2 kcb) 1 [0, -1]) := zh ⟨hb16, HL15.out.low, HL15.out.row.keepT T16 HL15.out.ne, HL15.out.bas, T16.ext HL15.out.ext (fun k hk => by have := HL15.out.low; omega)⟩
 have HLS := zh (least_words _ _ W16 hd16)
 have d0 := cell_of_row _ _ 0 _ _ _ HL15.out.blk
 have d1 := cell_of_row _ _ 1 _ _ _ HL15.out.blk
 have dl := lt_of_heap HL15.out.blk
 have df := fun k => row_frozen HL15.out.blk k
 simp at d0 d1
 unfold put2 at hW16
 clear hd16 hb16 T16
 go_upto_region 30 with fail
 try simp only [hW16]
 clear hW16 d0 d1 dl df
 have d0 := cell_of_row _ _ 0 _ _ _ HL16.out.blk
 have d1 := cell_of_row _ _ 1 _ _ _ HL16.out.blk
 have dl := lt_of_heap HL16.out.blk
 simp at d0 d1
 go_wp2_with fail
 refine HLS.out.mono ?_
 rintro e W17 ⟨nv3, rv3, rfl, hd, hx17⟩
 clear d0 d1 dl HLS HD16 HL15 HD15
 have HL17 := zh (HL16.out.to hx17)
 have HD17 := zh hd
 obtain ⟨⟨N3, nc3, hnv3, _⟩, R3', rc3, hrv3, _⟩ := id hd
 rw [wordN_length] at hnv3
 have hrv3 : rv3 = .slice R3' 3 rc3 := hrv3
 subst hnv3 hrv3
 clear hd hx17 HL16
 obtain ⟨hd18, hb18⟩ := lex_store (v0 := .slice N3 768 nc3) (v1 := .slice R3' 3 rc3) HL17.out.blk HD17.out
 obtain ⟨W18, hW18⟩ : ∃ V, put2 W17 lb (.slice N3 768 nc3) (.slice R3' 3 rc3) = V := ⟨_, rfl⟩
 have T18 : Turn (fun k => k = lb) W17 W18 := by rw [← hW18]; exact put2_turn (S := fun k => k = lb) rfl _ _
 rw [hW18] at hd18 hb18
 have HD18 := zh hd18
 have HL18 : Hid (LbI W W18 W3.heap.size lb (.slice N3 768 nc3) (.slice R3' 3 rc3) (.slice Kb 2 kcb) 1 [0, -1]) := zh ⟨hb18, HL17.out.low, HL17.out.row.keepT T18 HL17.out.ne, HL17.out.bas, T18.ext HL17.out.ext (fun k hk => by have := HL17.out.low; omega)⟩
 have d0 := cell_of_row _ _ 0 _ _ _ HL17.out.blk
 have d1 := cell_of_row _ _ 1 _ _ _ HL17.out.blk
 have dl := lt_of_heap HL17.out.blk
 have df := fun k => row_frozen HL17.out.blk k
 simp at d0 d1
 unfold put2 at hW18
 clear hd18 hb18 T18
 go_upto_region 33 with fail
 try simp only [hW18]
 clear hW18 d0 d1 dl df HL17 HD17
 have hQ18 := ext_block HQ2.out HL18.out.ext
 obtain ⟨W19, hW19⟩ : ∃ V, put4 W18 qb (.slice N3 768 nc3) (.slice R3' 3 rc3) (.slice Kb 2 kcb) (.int .i64 1) = V := ⟨_, rfl⟩
 have T19 : Turn (fun k => k = qb) W18 W19 := by rw [← hW19]; exact put4_turn (S := fun k => k = qb) rfl _ _ _ _
 have hQ19 : W19.heap[qb]? = some (.cells #[.slice N3 768 nc3, .slice R3' 3 rc3, .slice Kb 2 kcb, .int .i64 1] 96) := by rw [← hW19]; exact put4_at hQ18 _ _ _ _
 have HX19 : Hid (Ext w W19) := zh (T19.ext (HX1.out.trans HL18.out.ext) (fun k hk => by have := HLW.out.2.2.2.1; omega))
 have HLR : Hid (LexRd W19 (.slice N3 768 nc3) (.slice R3' 3 rc3) (.slice Kb 2 kcb) wordN wordR [0, -1]) := zh (by
  refine ⟨HD18.out.lex (by rw [wordN_length]; omega) (by decide) hQ18 T19, Kb, kcb, rfl, ?_⟩
  have hr := HL18.out.row.keepT T19 (fun g hg he => by
   obtain ⟨cur, hcur⟩ := HL18.out.row.obj g hg
   subst he
   rw [hQ18] at hcur
   cases hcur)
  obtain ⟨A, c, hA, ho⟩ := hr
  injection hA with hA
  subst hA
  exact ho.ints.1)
 have d0 := cell_of_row _ _ 0 _ _ _ HL18.out.blk
 have d1 := cell_of_row _ _ 1 _ _ _ HL18.out.blk
 have d2 := cell_of_row _ _ 2 _ _ _ HL18.out.blk
 have d3 := cell_of_row _ _ 3 _ _ _ HL18.out.blk
 have dl := lt_of_heap HL18.out.blk
 have q0 := cell_of_row _ _ 0 _ _ _ hQ18
 have q1 := cell_of_row _ _ 1 _ _ _ hQ18
 have q2 := cell_of_row _ _ 2 _ _ _ hQ18
 have q3 := cell_of_row _ _ 3 _ _ _ hQ18
 have ql := lt_of_heap hQ18
 have qf := fun k => row_frozen hQ18 k
 have e0 := cell_of_row _ _ 0 _ _ _ hQ19
 have e1 := cell_of_row _ _ 1 _ _ _ hQ19
 have e2 := cell_of_row _ _ 2 _ _ _ hQ19
 have e3 := cell_of_row _ _ 3 _ _ _ hQ19
 have el := lt_of_heap hQ19
 simp at d0 d1 d2 d3 q0 q1 q2 q3 e0 e1 e2 e3
 unfold put4 put3 put2 at hW19
 clear hQ18 hQ19 T19 HL18 HD18
 go_wp2_with fail
 exact bodyPost_ret (v := .tuple #[.agg #[.slice N3 768 nc3, .slice R3' 3 rc3, .slice Kb 2 kcb, .int .i64 1], .int .i64 2, .int .i64 0]) (by simp [results, Tryz.results57, go_sem, *]) rfl ⟨_, _, _, rfl, HLR.out, HX19.out⟩
theorem infoProd : (Tryz.prog.info? 92).map (fun i => (i.zero, i.size, i.bytes)) = some (some (.agg #[.int .i64 0, .slice none 0 0]), 2, 32) := by kernel_rfl
set_option maxRecDepth 100000 in
set_option maxHeartbeats 4000000 in
theorem grammar_copy (a b : Nat) (C : Option Addr) (c d e : Nat) (w : World) (h : GrRd w a b C d e) (hC : C = none → e = 0) : Calls Tryz.prog 62 #[gramV a c] w fun e w' => ∃ a' b' C' c' d' e', e = .returned (gramV a' c') ∧ GrRd w' a' b' C' d' e' ∧ Ext w w' := by
 obtain ⟨g0, W, hg0, hW, X1, hat⟩ := gr_enter w c h
 have hgs : W.heap.size = g0 + 1 := by rw [← hW, ← hg0]; simp
 obtain ⟨W1, hW1⟩ : ∃ V, W.alloc (.cells #[.int .i64 0, .int .i64 0, .int .i64 0, nil0] 46) = V := ⟨_, rfl⟩
 have X01 : Ext W W1 := by rw [← hW1]; exact (by repeat first | exact xr _ | refine xa ?_ _ | refine xm ?_ _ _ | refine xd ?_ | refine xn ?_ _ | refine xs ?_ (by simp <;> omega) _)
 have hB1 : W1.heap[g0 + 1]? = some (.cells #[.int .i64 0, .int .i64 0, .int .i64 0, nil0] 46) := by rw [← hW1, ← hgs]; exact heap_alloc_new _ _
 have HG := zh (hat.ext X01)
 have HGB : Hid (W1.heap[g0]? = some (.cells #[.int .i64 1, .int .i64 1, .int .i64 1, .slice (some ⟨a, 0, none⟩) 2 c] 46)) := zh (ext_block (by rw [← hW, ← hg0]; exact heap_alloc_new _ _) X01)
 have HB := zh hB1
 have HX := zh (X1.trans X01)
 have HL : Hid (w.heap.size = g0) := zh hg0
 have HCN : Hid (C = none → e = 0) := zh hC
 clear h X1 hat X01 hB1 hC
 unfold gramV
 go_enter Tryz.func62, Tryz.ntmps62
 go_upto_region 1 with fail
 try simp only [hg0]
 try simp only [hW]
 try simp only [hgs]
 try simp only [hW1]
 clear hW hg0 hgs hW1
 obtain ⟨k0, k1, k2, k3, lg, p0, p1, p2, p3, lp, r0, r1, lr⟩ := HG.out
 go_wp2_with fail
 refine wp_loop_rounds 3 ?_
 obtain ⟨i6, hi6, hz0, hz1, hz2⟩ := info_parts infoProd
 have HI := zh hi6
 have HZ0 := zh hz0
 have HZ1 := zh hz1
 have HZ2 := zh hz2
 clear hi6 hz0 hz1 hz2
 rw [rounds_succ]
 have HS0 : Hid (Ext W1 W1) := zh (Ext.refl _)
 obtain ⟨k0, k1, k2, k3, lg, p0, p1, p2, p3, lp, r0, r1, lr⟩ := HG.out.ext HS0.out
 go_upto_region 5 with fail
 refine wp_region_bt (17) (pures_bt [0, 1, 3, 8, 10] (softs_bt [2, 4, 5, 6, 9, 11, 12, 13] (.step 7 (.step 14 (pures_bt [15] (.step 16 (.step 17 (pures_bt [18] .fin)))))))) (by kernel_rfl) (by kernel_rfl) ?_
 refine bt_pures _ fun K hK => ?_; simp only [pick, nthC]; (repeat go_big_quiet_step (fail)); refine wpQuiet_nil (hK _ ?_); clear hK K
 refine bt_softs _ fun K hK => ?_; simp only [pick, nthC]; (repeat go_big_quiet_step (fail)); refine wpQuiet_nil (hK _ ?_); clear hK K
 refine bt_step fun next hn => ?_; simp only [pick, nthC]
 go_wp2_with fail
 refine segQ_mk (fun _ => laid ((by repeat first | exact xr _ | refine xa ?_ _ | refine xm ?_ _ _ | refine xd ?_ | refine xn ?_ _ | refine xs ?_ (by simp <;> omega) _) : Ext W1 _)) (hn _ _ ?_)
 clear hn next k0 k1 k2 k3 lg p0 p1 p2 p3 lp r0 r1 lr
 have hr0 := ownI_empty W1 W1.heap.size HS0.out.size
 obtain ⟨nb, hnb⟩ : ∃ nb, W1.heap.size = nb := ⟨_, rfl⟩
 obtain ⟨V0, hV⟩ : ∃ V, (W1.alloc (.cells #[] 3)).drew = V := ⟨_, rfl⟩
 have hx0 : Ext W1 V0 := by rw [← hV]; exact (by repeat first | exact xr _ | refine xa ?_ _ | refine xm ?_ _ _ | refine xd ?_ | refine xn ?_ _ | refine xs ?_ (by simp <;> omega) _)
 have hr1 : RowI V0 W1.heap.size (.slice (some ⟨nb, 0, none⟩) 0 0) [] := by rw [← hV, ← hnb]; exact hr0.ext ((by repeat first | exact xr _ | refine xa ?_ _ | refine xm ?_ _ _ | refine xd ?_ | refine xn ?_ _ | refine xs ?_ (by simp <;> omega) _) : Ext (W1.alloc (.cells #[] 3)) (W1.alloc (.cells #[] 3)).drew)
 have HV0 := zh hx0
 have HR0 := zh hr1
 have HI0 : Hid (Ints V0 (some ⟨b, 0, none⟩) [0, 1]) := zh (by
  have h := (HG.out.ext (HS0.out.trans hx0)).rd
  exact fun _ => ⟨b, 0, rfl, h.lr, fun k hk => by (match k with | 0 => exact h.r0 | 1 => exact h.r1 | k + 2 => exact absurd hk (by simp))⟩)
 have HNB0 : Hid (W1.heap.size ≤ nb) := zh (Nat.le_of_eq hnb)
 try simp only [hV, hnb]
 clear hr0 hr1 hx0 hV hnb
 refine bt_step fun next hn => ?_; simp only [pick, nthC]
 go_wp2_with (at_builtin; refine app_ints W1 (by rfl) (.tmp 19) (.tmp 25) rfl HR0.out [0, 1] (some ⟨b, 0, none⟩) d rfl rfl (fun h => by cases h) HI0.out (by simp) (HS0.out.trans HV0.out) ?_; intro v4 w4 hr4 hg4 hx4)
 obtain ⟨B0, bc0, rfl, hb4⟩ := hr4
 have HK0 : Hid (RowI w4 W1.heap.size (.slice B0 2 bc0) [0, 1]) := zh ⟨B0, bc0, rfl, hb4⟩
 have HN0 : Hid (Ext W1 w4) := zh (by
  refine HV0.out.grown hg4 (fun g hg => ?_)
  have : nb = g := by simpa [Value.ownBlock] using hg
  subst this
  exact HNB0.out)
 clear hb4 hg4 hx4 HV0 HR0 HI0
 refine segQ_mk (fun _ => laid HN0.out) (hn _ _ ?_)
 clear hn next
 refine bt_pures _ fun K hK => ?_; simp only [pick, nthC]; (repeat go_big_quiet_step (fail)); refine wpQuiet_nil (hK _ ?_); clear hK K
 refine bt_step fun next hn => ?_; simp only [pick, nthC]
 go_wp2_with fail
 refine segQ_mk (fun _ => laid (HN0.out.trans ((by repeat first | exact xr _ | refine xa ?_ _ | refine xm ?_ _ _ | refine xd ?_ | refine xn ?_ _ | refine xs ?_ (by simp <;> omega) _) : Ext w4 _))) (hn _ _ ?_)
 clear hn next
 have HC0 := cells_lit w4 92 w4.heap.size #[.int .i64 0, .slice B0 2 bc0] [.int .i64 0, .slice B0 2 bc0] rfl rfl
 obtain ⟨nb, hnb⟩ : ∃ nb, w4.heap.size = nb := ⟨_, rfl⟩
 obtain ⟨U0, hU⟩ : ∃ V, w4.alloc (.cells #[.int .i64 0, .slice B0 2 bc0] 92) = V := ⟨_, rfl⟩
 rw [hU, hnb] at HC0
 have HC := zh HC0
 have HXU : Hid (Ext w4 U0) := zh (by rw [← hU]; exact (by repeat first | exact xr _ | refine xa ?_ _ | refine xm ?_ _ _ | refine xd ?_ | refine xn ?_ _ | refine xs ?_ (by simp <;> omega) _))
 try simp only [hU, hnb]
 clear hU hnb HC0
 have HSU : Hid (Ext W1 U0) := zh (HS0.out.trans (HN0.out.trans HXU.out))
 refine bt_step fun next hn => ?_; simp only [pick, nthC]
 go_wp2_with (at_builtin; refine wpList_append_cells _ (by rfl) (.tmp 12) (.tmp 28) 44 rfl W1.heap.size 92 i6 _ 2 32 Tryz.underlying44 HI.out HZ0.out HZ1.out HZ2.out rfl (by omega) nil0 0 [] rfl (World.ownsRow_nil _ _ _ _) (some ⟨nb, 0, none⟩) 1 1 [.int .i64 0, .slice B0 2 bc0] rfl (by intro h; cases h) rfl HC.out (by intro u hu; simp only [List.mem_cons, List.not_mem_nil, or_false] at hu; rcases hu with rfl | rfl <;> rfl) (by unfold maxLen; omega) (by omega) HSU.out.size ?_; intro v6 w6 ho6 hg6 hat6)
 obtain ⟨L0, lc0, rfl, _⟩ := own_cells ho6
 have T6 : Turn (fun g => (nil0 : Value).ownBlock = some g) U0 w6 := Turn.grown hg6 (fun g hg _ => hg)
 have HE1 : Hid (Ext W1 w6) := zh (T6.ext HSU.out (fun g hg => (by cases hg)))
 have HO1 : Hid (w6.ownsRow W1.heap.size 92 2 (.slice L0 1 lc0) 1 [.int .i64 0, .slice B0 2 bc0]) := zh ho6
 have HK0b0 : Hid (RowI w6 W1.heap.size (.slice B0 2 bc0) [0, 1]) := zh (((HK0.out).ext HXU.out).keepT T6 (fun g hg he => by
  cases he))
 clear ho6 hg6 hat6 T6 HN0 HXU HSU HC HS0 HNB0 
 refine segQ_mk (fun h => absurd rfl h) (hn _ _ ?_)
 clear hn next
 refine bt_pures _ fun K hK => ?_; simp only [pick, nthC]; (repeat go_big_quiet_step (fail)); refine wpQuiet_nil (hK _ ?_); clear hK K
 (refine bt_fin ?_)
 obtain ⟨S1, hS⟩ : ∃ V, w6 = V := ⟨_, rfl⟩
 subst hS
 go_wp2_with fail
 rw [rounds_succ]
 have HS1 : Hid (Ext W1 w6) := zh HE1.out
 obtain ⟨k0, k1, k2, k3, lg, p0, p1, p2, p3, lp, r0, r1, lr⟩ := HG.out.ext HS1.out
 go_upto_region 5 with fail
 refine wp_region_bt (17) (pures_bt [0, 1, 3, 8, 10] (softs_bt [2, 4, 5, 6, 9, 11, 12, 13] (.step 7 (.step 14 (pures_bt [15] (.step 16 (.step 17 (pures_bt [18] .fin)))))))) (by kernel_rfl) (by kernel_rfl) ?_
 refine bt_pures _ fun K hK => ?_; simp only [pick, nthC]; (repeat go_big_quiet_step (fail)); refine wpQuiet_nil (hK _ ?_); clear hK K
 refine bt_softs _ fun K hK => ?_; simp only [pick, nthC]; (repeat go_big_quiet_step (fail)); refine wpQuiet_nil (hK _ ?_); clear hK K
 refine bt_step fun next hn => ?_; simp only [pick, nthC]
 go_wp2_with fail
 refine segQ_mk (fun _ => laid ((by repeat first | exact xr _ | refine xa ?_ _ | refine xm ?_ _ _ | refine xd ?_ | refine xn ?_ _ | refine xs ?_ (by simp <;> omega) _) : Ext w6 _)) (hn _ _ ?_)
 clear hn next k0 k1 k2 k3 lg p0 p1 p2 p3 lp r0 r1 lr
 have hr0 := ownI_empty w6 W1.heap.size HS1.out.size
 obtain ⟨nb, hnb⟩ : ∃ nb, w6.heap.size = nb := ⟨_, rfl⟩
 obtain ⟨V1, hV⟩ : ∃ V, (w6.alloc (.cells #[] 3)).drew = V := ⟨_, rfl⟩
 have hx0 : Ext w6 V1 := by rw [← hV]; exact (by repeat first | exact xr _ | refine xa ?_ _ | refine xm ?_ _ _ | refine xd ?_ | refine xn ?_ _ | refine xs ?_ (by simp <;> omega) _)
 have hr1 : RowI V1 W1.heap.size (.slice (some ⟨nb, 0, none⟩) 0 0) [] := by rw [← hV, ← hnb]; exact hr0.ext ((by repeat first | exact xr _ | refine xa ?_ _ | refine xm ?_ _ _ | refine xd ?_ | refine xn ?_ _ | refine xs ?_ (by simp <;> omega) _) : Ext (w6.alloc (.cells #[] 3)) (w6.alloc (.cells #[] 3)).drew)
 have HV1 := zh hx0
 have HR1 := zh hr1
 have HI1 : Hid (Ints V1 C []) := zh (by
  have h := (HG.out.ext (HS1.out.trans hx0)).rd
  exact fun h0 => absurd h0 (by simp))
 have HNB1 : Hid (w6.heap.size ≤ nb) := zh (Nat.le_of_eq hnb)
 try simp only [hV, hnb]
 clear hr0 hr1 hx0 hV hnb
 refine bt_step fun next hn => ?_; simp only [pick, nthC]
 go_wp2_with (at_builtin; refine app_ints W1 (by rfl) (.tmp 19) (.tmp 25) rfl HR1.out [] C e rfl rfl HCN.out HI1.out (by simp) (HS1.out.trans HV1.out) ?_; intro v4 w4 hr4 hg4 hx4)
 obtain ⟨B1, bc1, rfl, hb4⟩ := hr4
 have HK1 : Hid (RowI w4 W1.heap.size (.slice B1 0 bc1) []) := zh ⟨B1, bc1, rfl, hb4⟩
 have HN1 : Hid (Ext w6 w4) := zh (by
  refine HV1.out.grown hg4 (fun g hg => ?_)
  have : nb = g := by simpa [Value.ownBlock] using hg
  subst this
  exact HNB1.out)
 clear hb4 hg4 hx4 HV1 HR1 HI1
 refine segQ_mk (fun _ => laid HN1.out) (hn _ _ ?_)
 clear hn next
 refine bt_pures _ fun K hK => ?_; simp only [pick, nthC]; (repeat go_big_quiet_step (fail)); refine wpQuiet_nil (hK _ ?_); clear hK K
 refine bt_step fun next hn => ?_; simp only [pick, nthC]
 go_wp2_with fail
 refine segQ_mk (fun _ => laid (HN1.out.trans ((by repeat first | exact xr _ | refine xa ?_ _ | refine xm ?_ _ _ | refine xd ?_ | refine xn ?_ _ | refine xs ?_ (by simp <;> omega) _) : Ext w4 _))) (hn _ _ ?_)
 clear hn next
 have HC0 := cells_lit w4 92 w4.heap.size #[.int .i64 0, .slice B1 0 bc1] [.int .i64 0, .slice B1 0 bc1] rfl rfl
 obtain ⟨nb, hnb⟩ : ∃ nb, w4.heap.size = nb := ⟨_, rfl⟩
 obtain ⟨U1, hU⟩ : ∃ V, w4.alloc (.cells #[.int .i64 0, .slice B1 0 bc1] 92) = V := ⟨_, rfl⟩
 rw [hU, hnb] at HC0
 have HC := zh HC0
 have HXU : Hid (Ext w4 U1) := zh (by rw [← hU]; exact (by repeat first | exact xr _ | refine xa ?_ _ | refine xm ?_ _ _ | refine xd ?_ | refine xn ?_ _ | refine xs ?_ (by simp <;> omega) _))
 try simp only [hU, hnb]
 clear hU hnb HC0
 have HSU : Hid (Ext W1 U1) := zh (HS1.out.trans (HN1.out.trans HXU.out))
 refine bt_step fun next hn => ?_; simp only [pick, nthC]
 go_wp2_with (at_builtin; refine wpList_append_cells _ (by rfl) (.tmp 12) (.tmp 28) 44 rfl W1.heap.size 92 i6 _ 2 32 Tryz.underlying44 HI.out HZ0.out HZ1.out HZ2.out rfl (by omega) (.slice L0 1 lc0) 1 [.int .i64 0, .slice B0 2 bc0] rfl (own_ext HO1.out (HN1.out.trans HXU.out)) (some ⟨nb, 0, none⟩) 1 1 [.int .i64 0, .slice B1 0 bc1] rfl (by intro h; cases h) rfl HC.out (by intro u hu; simp only [List.mem_cons, List.not_mem_nil, or_false] at hu; rcases hu with rfl | rfl <;> rfl) (by unfold maxLen; omega) (by omega) HSU.out.size ?_; intro v6 w6 ho6 hg6 hat6)
 obtain ⟨L1, lc1, rfl, _⟩ := own_cells ho6
 have T6 : Turn (fun g => ((.slice L0 1 lc0) : Value).ownBlock = some g) U1 w6 := Turn.grown hg6 (fun g hg _ => hg)
 have HE2 : Hid (Ext W1 w6) := zh (T6.ext HSU.out (fun g hg => own_block HO1.out g hg))
 have HO2 : Hid (w6.ownsRow W1.heap.size 92 2 (.slice L1 2 lc1) 2 [.int .i64 0, .slice B0 2 bc0, .int .i64 0, .slice B1 0 bc1]) := zh ho6
 have HK0b1 : Hid (RowI w6 W1.heap.size (.slice B0 2 bc0) [0, 1]) := zh (((HK0b0.out.ext HN1.out).ext HXU.out).keepT T6 (fun g hg he => by
  obtain ⟨cur, hcur⟩ := ((HK0b0.out.ext HN1.out).ext HXU.out).obj g hg
  exact own_ne (own_ext HO1.out (HN1.out.trans HXU.out)) hcur (by decide) he))
 have HK1b1 : Hid (RowI w6 W1.heap.size (.slice B1 0 bc1) []) := zh (((HK1.out).ext HXU.out).keepT T6 (fun g hg he => by
  obtain ⟨cur, hcur⟩ := ((HK1.out).ext HXU.out).obj g hg
  exact own_ne (own_ext HO1.out (HN1.out.trans HXU.out)) hcur (by decide) he))
 clear ho6 hg6 hat6 T6 HN1 HXU HSU HC HS1 HNB1 HO1 HE1
 refine segQ_mk (fun h => absurd rfl h) (hn _ _ ?_)
 clear hn next
 refine bt_pures _ fun K hK => ?_; simp only [pick, nthC]; (repeat go_big_quiet_step (fail)); refine wpQuiet_nil (hK _ ?_); clear hK K
 (refine bt_fin ?_)
 obtain ⟨S2, hS⟩ : ∃ V, w6 = V := ⟨_, rfl⟩
 subst hS
 go_wp2_with fail
 rw [rounds_succ]
 obtain ⟨ga, rfl, hga, _⟩ := row_block HO2.out (by omega)
 obtain ⟨B, bc, hB, hBo⟩ := HK0b1.out
 injection hB with hB1 hB2 hB3
 subst hB1 hB3
 obtain ⟨gb, rfl, hgb, _⟩ := row_block hBo (by simp)
 obtain ⟨k0, k1, k2, k3, lg, p0, p1, p2, p3, lp, r0, r1, lr⟩ := HG.out.ext HE2.out
 have hb6 := ext_block HGB.out HE2.out
 have hc6 := ext_block HB.out HE2.out
 have hb7 := setCell_row (k := 3) hb6 (.slice (some ⟨ga, 0, none⟩) 2 lc1)
 have hc7 := setCell_row_other (k := 3) (g := g0) hc6 (by omega) (.slice (some ⟨ga, 0, none⟩) 2 lc1)
 have T7 : Turn (fun k => k = g0 ∨ k = g0 + 1) w6 (w6.setCell ⟨g0, 3, none⟩ (.slice (some ⟨ga, 0, none⟩) 2 lc1)) := Turn.setCell _ (p := ⟨g0, 3, none⟩) (.inl rfl) _
 have bf := row_frozen hb6 3
 obtain ⟨W7, hW7⟩ : ∃ V, w6.setCell ⟨g0, 3, none⟩ (.slice (some ⟨ga, 0, none⟩) 2 lc1) = V := ⟨_, rfl⟩
 rw [hW7] at hb7 hc7 T7
 go_upto_region 7 with fail
 try simp only [hW7]
 clear hW7 bf k0 k1 k2 k3 lg p0 p1 p2 p3 lp r0 r1 lr
 have T8 : Turn (fun k => k = g0 ∨ k = g0 + 1) W7 (put4 W7 (g0 + 1) (.int .i64 1) (.int .i64 1) (.int .i64 1) (.slice (some ⟨ga, 0, none⟩) 2 lc1)) := put4_turn (S := fun k => k = g0 ∨ k = g0 + 1) (.inr rfl) _ _ _ _
 have P8 := put4_at hc7 (.int .i64 1) (.int .i64 1) (.int .i64 1) (.slice (some ⟨ga, 0, none⟩) 2 lc1)
 obtain ⟨W8, hW8⟩ : ∃ V, put4 W7 (g0 + 1) (.int .i64 1) (.int .i64 1) (.int .i64 1) (.slice (some ⟨ga, 0, none⟩) 2 lc1) = V := ⟨_, rfl⟩
 rw [hW8] at P8 T8
 have T := T7.trans T8
 have HX8 : Hid (Ext w W8) := zh (T.ext (HX.out.trans HE2.out) (fun k hk => by have := HL.out; omega))
 have HRD : Hid (GrRd W8 ga gb B1 bc0 bc1) := zh (by
  have ho := own_keepS HO2.out T (fun g hg he => by
   rcases he with he | he
   ·exact own_ne HO2.out hb6 (by decide) (he ▸ hg)
   ·exact own_ne HO2.out hc6 (by decide) (he ▸ hg))
  have hk := own_keepS hBo T (fun g hg he => by
   rcases he with he | he
   ·exact own_ne hBo hb6 (by decide) (he ▸ hg)
   ·exact own_ne hBo hc6 (by decide) (he ▸ hg))
  obtain ⟨A, c', hA, hc, _⟩ := own_cells ho
  injection hA with hA
  subst hA
  obtain ⟨g, off, hgo, hg, hcc⟩ := hc (by simp)
  injection hgo with hgo
  injection hgo with h1 h2
  subst h1 h2
  obtain ⟨g, off, hgo, hg2, hcc2⟩ := OwnI.ints hk |>.1 (by simp)
  injection hgo with hgo
  injection hgo with h1 h2
  subst h1 h2
  exact ⟨by simpa using hcc 0 _ rfl, by simpa using hcc 1 _ rfl, by simpa using hcc 2 _ rfl, by simpa using hcc 3 _ rfl, hg, by simpa using hcc2 0 (by simp), by simpa using hcc2 1 (by simp), hg2⟩)
 have k0 := cell_of_row _ _ 0 _ _ _ hb7
 have k1 := cell_of_row _ _ 1 _ _ _ hb7
 have k2 := cell_of_row _ _ 2 _ _ _ hb7
 have k3 := cell_of_row _ _ 3 _ _ _ hb7
 have kl := lt_of_heap hb7
 have c0 := cell_of_row _ _ 0 _ _ _ hc7
 have c1 := cell_of_row _ _ 1 _ _ _ hc7
 have c2 := cell_of_row _ _ 2 _ _ _ hc7
 have c3 := cell_of_row _ _ 3 _ _ _ hc7
 have cl := lt_of_heap hc7
 have cf := fun k => row_frozen hc7 k
 have e0 := cell_of_row _ _ 0 _ _ _ P8
 have e1 := cell_of_row _ _ 1 _ _ _ P8
 have e2 := cell_of_row _ _ 2 _ _ _ P8
 have e3 := cell_of_row _ _ 3 _ _ _ P8
 simp at k0 k1 k2 k3 c0 c1 c2 c3 e0 e1 e2 e3
 unfold put4 put3 put2 at hW8
 clear hb6 hc6 hb7 hc7 T7 T8 T P8 hBo HO2 HK0b1 HK1b1
 go_wp2_with fail
 exact bodyPost_ret (v := .agg #[.int .i64 1, .int .i64 1, .int .i64 1, .slice (some ⟨ga, 0, none⟩) 2 lc1]) (by simp [results, Tryz.results62, go_sem, *]) rfl ⟨ga, gb, _, lc1, _, _, rfl, HRD.out, HX8.out⟩
set_option maxRecDepth 100000 in
set_option maxHeartbeats 4000000 in
theorem tok_Next (nv rv kv : Value) (nl rl kl : List Int) (kinds : Int) (s : ByteArray) (p : Nat) (w : World) (hN : LexRd w nv rv kv nl rl kl) (hO : LexOk nl rl kl kinds) (hp : p ≤ s.size) (hs : s.size ≤ 1000000) :
 Calls Tryz.prog 66 #[lexV nv rv kv kinds, .string s, .int .i64 p] w fun e w' => e = .returned (.tuple #[tokV p (nextF nl rl kl s p), .int .i64 0]) ∧ Ext w w' := by
 obtain ⟨g0, hg0⟩ : ∃ b, w.heap.size = b := ⟨_, rfl⟩
 obtain ⟨W, hW⟩ : ∃ W, (w.alloc (.cells #[nv, rv, kv, .int .i64 kinds] 96)).alloc (.cells #[.int .i64 0, .int .i64 0, .int .i64 0, .int .i64 0, .int .i64 0] 116) = W := ⟨_, rfl⟩
 have X1 : Ext w W := by rw [← hW]; exact (by repeat first | exact xr _ | refine xa ?_ _ | refine xm ?_ _ _ | refine xd ?_ | refine xn ?_ _ | refine xs ?_ (by simp <;> omega) _)
 have B1 : W.heap[g0]? = some (.cells #[nv, rv, kv, .int .i64 kinds] 96) := by rw [← hW, ← hg0]; exact (by simp only [heap_alloc_get, World.size_alloc]; (repeat (split; (first | rfl | (exfalso; omega)))); (try (first | (exfalso; omega) | simp_all)))
 have R1 : W.heap[g0 + 1]? = some (.cells #[.int .i64 0, .int .i64 0, .int .i64 0, .int .i64 0, .int .i64 0] 116) := by rw [← hW, ← hg0]; exact (by simp only [heap_alloc_get, World.size_alloc]; (repeat (split; (first | rfl | (exfalso; omega)))); (try (first | (exfalso; omega) | simp_all)))
 have b0 := cell_of_row _ _ 0 _ _ _ B1
 have b1 := cell_of_row _ _ 1 _ _ _ B1
 have b2 := cell_of_row _ _ 2 _ _ _ B1
 have b3 := cell_of_row _ _ 3 _ _ _ B1
 have lb := lt_of_heap B1
 simp at b0 b1 b2 b3
 have HCK := zh (check_lex nv rv kv nl rl kl kinds W (hN.ext X1) hO)
 have HNX := zh (fun W' (e : Ext W W') => tok_next nv rv kv nl rl kl kinds s p W' ((hN.ext X1).ext e) hO hp hs)
 have HX := zh X1
 have HB1 := zh B1
 have HR1 := zh R1
 have HG0 := zh hg0
 have q0 : decide ((p : Int) < 0) = false := by simp
 have q1 : decide ((s.size : Int) < p) = false := by simp; omega
 have q2 : decide (s.size < p) = false := by simp; omega
 clear hN hO X1 B1 R1
 unfold lexV at HCK HNX ⊢
 go_enter Tryz.func66, Tryz.ntmps66
 go_wp2_with fail
 try simp only [hW]
 refine HCK.out.mono ?_
 rintro e W2 ⟨rfl, hx2⟩
 have hb2 := ext_block HB1.out hx2
 have b0 := cell_of_row _ _ 0 _ _ _ hb2
 have b1 := cell_of_row _ _ 1 _ _ _ hb2
 have b2 := cell_of_row _ _ 2 _ _ _ hb2
 have b3 := cell_of_row _ _ 3 _ _ _ hb2
 have lb := lt_of_heap hb2
 simp at b0 b1 b2 b3
 have HX2 := zh hx2
 clear hb2 hx2
 go_wp2_with fail
 refine (HNX.out _ HX2.out).mono ?_
 rintro e W3 ⟨rfl, hx3⟩
 obtain ⟨t, ht⟩ : ∃ t, nextF nl rl kl s p = t := ⟨_, rfl⟩
 rw [ht]
 obtain ⟨t0, t1, t2, t3⟩ := t
 have HTT := zh ht
 clear ht
 unfold tokV
 dsimp only
 have R3 := ext_block HR1.out (HX2.out.trans hx3)
 have P4 := put5_at R3 (.int .i64 t0) (.int .i64 p) (.int .i64 t1) (.int .i64 t2) (.int .i64 t3)
 obtain ⟨W4, hW4⟩ : ∃ W4, put5 W3 (g0 + 1) (.int .i64 t0) (.int .i64 p) (.int .i64 t1) (.int .i64 t2) (.int .i64 t3) = W4 := ⟨_, rfl⟩
 have HX4 : Hid (Ext w W4) := zh (by rw [← hW4]; exact (put5_turn (S := fun k => k = g0 + 1) rfl _ _ _ _ _).ext (HX.out.trans (HX2.out.trans hx3)) (fun k hk => by have := HG0.out; omega))
 rw [hW4] at P4
 have r0 := cell_of_row _ _ 0 _ _ _ R3
 have r1 := cell_of_row _ _ 1 _ _ _ R3
 have r2 := cell_of_row _ _ 2 _ _ _ R3
 have r3 := cell_of_row _ _ 3 _ _ _ R3
 have r4 := cell_of_row _ _ 4 _ _ _ R3
 have ff := fun k => row_frozen R3 k
 have e0 := cell_of_row _ _ 0 _ _ _ P4
 have e1 := cell_of_row _ _ 1 _ _ _ P4
 have e2 := cell_of_row _ _ 2 _ _ _ P4
 have e3 := cell_of_row _ _ 3 _ _ _ P4
 have e4 := cell_of_row _ _ 4 _ _ _ P4
 simp at r0 r1 r2 r3 r4 e0 e1 e2 e3 e4
 unfold put5 put4 put3 put2 at hW4
 clear R3 P4 hx3 b0 b1 b2 b3 lb hW hg0
 go_wp2_with fail
 exact bodyPost_ret (v := .tuple #[.agg #[.int .i64 t0, .int .i64 p, .int .i64 t1, .int .i64 t2, .int .i64 t3], .int .i64 0]) (by simp [results, Tryz.results66, go_sem, *]) rfl ⟨by rw [HTT.out]; rfl, HX4.out⟩
def rowF (k : Int) : ByteArray := if k = -2 then tx 255 else if k = -1 then tx 254 else tx 0
theorem strN255 : strOfNums [255] = tx 255 := rfl
theorem strN254 : strOfNums [254] = tx 254 := rfl
theorem strN0 : strOfNums [0] = tx 0 := rfl
set_option maxRecDepth 100000 in
set_option maxHeartbeats 2000000 in
theorem window_one (nv rv kv : Value) (nl rl kl : List Int) (kinds : Int) (s : ByteArray) (p : Nat) (q : Int × Int × Int × Int) (w : World) (hN : LexRd w nv rv kv nl rl kl) (hO : LexOk nl rl kl kinds) (hp : p ≤ s.size) (hs : s.size ≤ 1000000) (hq : nextF nl rl kl s p = q) (hk : q.1 = -2 ∨ q.1 = -1 ∨ q.1 = 0) :
 Calls Tryz.prog 108 #[lexV nv rv kv kinds, .string s, .int .i64 p, .int .i64 1] w fun e w' => e = .returned (.tuple #[.string (rowF q.1), .int .i64 (max (p : Int) q.2.2.2), .int .i64 0]) ∧ Ext w w' := by
 obtain ⟨t0, t1, t2, t3⟩ := q
 obtain ⟨g0, hg0⟩ : ∃ b, w.heap.size = b := ⟨_, rfl⟩
 obtain ⟨W, hW⟩ : ∃ W, w.alloc (.cells #[nv, rv, kv, .int .i64 kinds] 96) = W := ⟨_, rfl⟩
 have X1 : Ext w W := by rw [← hW]; exact (by repeat first | exact xr _ | refine xa ?_ _ | refine xm ?_ _ _ | refine xd ?_ | refine xn ?_ _ | refine xs ?_ (by simp <;> omega) _)
 have B1 : W.heap[g0]? = some (.cells #[nv, rv, kv, .int .i64 kinds] 96) := by rw [← hW, ← hg0]; exact heap_alloc_new _ _
 have HB : Hid (∀ w1, Ext W w1 → w1.cell? ⟨g0, 0, none⟩ = some nv ∧ w1.cell? ⟨g0, 1, none⟩ = some rv ∧ w1.cell? ⟨g0, 2, none⟩ = some kv ∧ w1.cell? ⟨g0, 3, none⟩ = some (.int .i64 kinds) ∧ g0 < w1.heap.size) := zh (fun w1 e => by
  have B2 := ext_block B1 e
  have b0 := cell_of_row _ _ 0 _ _ _ B2
  have b1 := cell_of_row _ _ 1 _ _ _ B2
  have b2 := cell_of_row _ _ 2 _ _ _ B2
  have b3 := cell_of_row _ _ 3 _ _ _ B2
  simp at b0 b1 b2 b3
  exact ⟨b0, b1, b2, b3, lt_of_heap B2⟩)
 have HTN := zh (tok_Next nv rv kv nl rl kl kinds s p W (hN.ext X1) hO hp hs)
 have HTT := zh (fun w1 (e : Ext W w1) => tok_next nv rv kv nl rl kl kinds s p w1 ((hN.ext X1).ext e) hO hp hs)
 rw [hq] at HTN HTT
 have HX := zh X1
 have HK := zh hk
 obtain ⟨mx, hmx⟩ : ∃ m : Int, max (p : Int) t3 = m := ⟨_, rfl⟩
 have hm1 : (if (p : Int) < t3 then t3 else (p : Int)) = mx := by rw [← hmx]; omega
 simp only [hmx]
 have HM := zh hm1
 clear hN hO hq hk X1 B1 hmx hm1
 unfold TokRet at HTT
 unfold lexV tokV at HTN HTT
 unfold lexV
 dsimp only at HTN HTT
 go_enter Tryz.func108, Tryz.ntmps108
 go_upto_region 1 with fail
 try simp only [hg0]
 try simp only [hW]
 clear hW hg0
 obtain ⟨b0, b1, b2, b3, lb⟩ := HB.out W (Ext.refl _)
 go_wp2_with fail
 refine HTN.out.mono ?_
 rintro e' W2 ⟨rfl, hx2⟩
 have HX2 := zh hx2
 clear b0 b1 b2 b3 lb HTN
 obtain ⟨kb, hkb⟩ : ∃ b, W2.heap.size = b := ⟨_, rfl⟩
 obtain ⟨W3a, hW3a⟩ : ∃ W, W2.alloc (.cells #[.int .i64 0, .int .i64 0, .int .i64 0, .int .i64 0, .int .i64 0] 116) = W := ⟨_, rfl⟩
 have hR : W3a.heap[kb]? = some (.cells #[.int .i64 0, .int .i64 0, .int .i64 0, .int .i64 0, .int .i64 0] 116) := by rw [← hW3a, ← hkb]; exact heap_alloc_new _ _
 obtain ⟨W3, hW3⟩ : ∃ W, put5 W3a kb (.int .i64 t0) (.int .i64 p) (.int .i64 t1) (.int .i64 t2) (.int .i64 t3) = W := ⟨_, rfl⟩
 have X3 : Ext W2 W3 := by rw [← hW3]; exact (put5_turn (S := fun k => k = kb) rfl _ _ _ _ _).ext (show Ext W2 W3a from by rw [← hW3a]; exact (by repeat first | exact xr _ | refine xa ?_ _ | refine xm ?_ _ _ | refine xd ?_ | refine xn ?_ _ | refine xs ?_ (by simp <;> omega) _)) (fun k hk => by omega)
 have HX3 := zh (hx2.trans X3)
 have z0 := cell_of_row _ _ 0 _ _ _ hR
 have z1 := cell_of_row _ _ 1 _ _ _ hR
 have z2 := cell_of_row _ _ 2 _ _ _ hR
 have z3 := cell_of_row _ _ 3 _ _ _ hR
 have z4 := cell_of_row _ _ 4 _ _ _ hR
 have zf := fun k => row_frozen hR k
 have zl := lt_of_heap hR
 simp at z0 z1 z2 z3 z4
 unfold put5 put4 put3 put2 at hW3
 clear hx2 hR X3
 go_upto_region 2 with fail
 try simp only [hkb]
 try simp only [hW3a]
 try simp only [hW3]
 clear hkb hW3a hW3 z0 z1 z2 z3 z4 zf zl
 go_wp2_with fail
 refine wp_loop_rounds 2 ?_
 rw [rounds_succ]
 obtain ⟨b0, b1, b2, b3, lb⟩ := HB.out W3 HX3.out
 go_wp2_with fail
 refine (HTT.out _ HX3.out).mono ?_
 rintro e' W4 ⟨rfl, hx4⟩
 clear b0 b1 b2 b3 lb HTT
 obtain ⟨kb, hkb⟩ : ∃ b, W4.heap.size = b := ⟨_, rfl⟩
 obtain ⟨W5a, hW5a⟩ : ∃ W, W4.alloc (.cells #[.int .i64 0, .int .i64 0, .int .i64 0, .int .i64 0, .int .i64 0] 116) = W := ⟨_, rfl⟩
 have hR : W5a.heap[kb]? = some (.cells #[.int .i64 0, .int .i64 0, .int .i64 0, .int .i64 0, .int .i64 0] 116) := by rw [← hW5a, ← hkb]; exact heap_alloc_new _ _
 obtain ⟨W5, hW5⟩ : ∃ W, put5 W5a kb (.int .i64 t0) (.int .i64 p) (.int .i64 t1) (.int .i64 t2) (.int .i64 t3) = W := ⟨_, rfl⟩
 have X5 : Ext W4 W5 := by rw [← hW5]; exact (put5_turn (S := fun k => k = kb) rfl _ _ _ _ _).ext (show Ext W4 W5a from by rw [← hW5a]; exact (by repeat first | exact xr _ | refine xa ?_ _ | refine xm ?_ _ _ | refine xd ?_ | refine xn ?_ _ | refine xs ?_ (by simp <;> omega) _)) (fun k hk => by omega)
 have HX5 := zh (HX3.out.trans (hx4.trans X5))
 have z0 := cell_of_row _ _ 0 _ _ _ hR
 have z1 := cell_of_row _ _ 1 _ _ _ hR
 have z2 := cell_of_row _ _ 2 _ _ _ hR
 have z3 := cell_of_row _ _ 3 _ _ _ hR
 have z4 := cell_of_row _ _ 4 _ _ _ hR
 have zf := fun k => row_frozen hR k
 have zl := lt_of_heap hR
 simp at z0 z1 z2 z3 z4
 have hR5 : W5.heap[kb]? = some (.cells #[.int .i64 t0, .int .i64 p, .int .i64 t1, .int .i64 t2, .int .i64 t3] 116) := by rw [← hW5]; exact put5_at hR _ _ _ _ _
 have HR5 := zh hR5
 unfold put5 put4 put3 put2 at hW5
 clear hx4 hR X5 hR5
 go_upto_region 10 with fail
 try simp only [hkb]
 try simp only [hW5a]
 try simp only [hW5]
 clear hkb hW5a hW5 z0 z1 z2 z3 z4 zf zl
 have y0 := cell_of_row _ _ 0 _ _ _ HR5.out
 have y3 := cell_of_row _ _ 3 _ _ _ HR5.out
 have y4 := cell_of_row _ _ 4 _ _ _ HR5.out
 have yl := lt_of_heap HR5.out
 simp at y0 y3 y4
 have hm := HM.out
 refine wp_region_bt (8) (pures_bt [0, 1, 4] (softs_bt [2, 3, 5, 6, 7] .fin)) (by kernel_rfl) (by kernel_rfl) ?_
 refine bt_pures _ fun K hK => ?_; simp only [pick, nthC]; (repeat go_big_quiet_step (fail)); refine wpQuiet_nil (hK _ ?_); clear hK K
 refine bt_softs _ fun K hK => ?_; simp only [pick, nthC]; (repeat go_big_quiet_step (fail)); refine wpQuiet_nil (hK _ ?_); clear hK K
 (refine bt_fin ?_)
 clear hm y0 y3 y4 yl
 obtain ⟨W6, hW6⟩ : ∃ V, W5.drew = V := ⟨_, rfl⟩
 have X56 : Ext W5 W6 := by rw [← hW6]; exact (by repeat first | exact xr _ | refine xa ?_ _ | refine xm ?_ _ _ | refine xd ?_ | refine xn ?_ _ | refine xs ?_ (by simp <;> omega) _)
 have HX6 := zh (HX5.out.trans X56)
 have hR6 := ext_block HR5.out X56
 have y0 := cell_of_row _ _ 0 _ _ _ hR6
 have yl := lt_of_heap hR6
 simp at y0
 try simp only [hW6]
 clear hW6 X56 hR6
 obtain ⟨i6, hi, hz0, hz1, hz2⟩ := info_parts infoByte
 rcases HK.out with h | h | h
 ·have h : t0 = -2 := h
  subst h
  go_upto_region 14 with fail
  have HC : Hid (CellsAt (W6.alloc (.cells #[.int .u8 255] 5)) (some ⟨W6.heap.size, 0, none⟩) [.int .u8 255]) := zh (cells_lit W6 5 W6.heap.size #[.int .u8 255] [.int .u8 255] rfl rfl)
  go_wp2_with (at_builtin; refine wpList_append_cells _ (by rfl) (.tmp 53) (.tmp 54) 212 rfl W6.heap.size 5 i6 _ 1 1 Tryz.underlying212 hi hz0 hz1 hz2 rfl (by omega) nil0 0 [] rfl (World.ownsRow_nil _ _ _ _) (some ⟨W6.heap.size, 0, none⟩) 1 1 [.int .u8 255] rfl (by intro h; cases h) rfl HC.out (by intro u hu; obtain rfl := List.mem_singleton.1 hu; rfl) (by unfold maxLen; omega) (by omega) (by simp) ?_; intro v7 w7 ho7 hg7 hat7; have X7 : Ext W6 w7 := ((by repeat first | exact xr _ | refine xa ?_ _ | refine xm ?_ _ _ | refine xd ?_ | refine xn ?_ _ | refine xs ?_ (by simp <;> omega) _) : Ext W6 (W6.alloc (.cells #[.int .u8 255] 5))).grown hg7 (by intro g hg; cases hg); have HX7 := zh (HX6.out.trans X7); obtain ⟨A7, c7, rfl, hc7, _⟩ := own_cells ho7; obtain ⟨b7, o7, rfl, lb7, hcc⟩ := hc7 (by simp); have hcv := run_convert_bytes_arg (P := Tryz.prog) w7 212 5 Tryz.underlying212 Tryz.underlying5 b7 o7 1 c7 [255] rfl (fun i hi => by
   obtain rfl : i = 0 := by omega
   exact hcc 0 _ rfl) 9 Tryz.underlying9; rw [strN255] at hcv; clear X7 ho7 hg7 hat7 hcc hc7 lb7)
  exact bodyPost_ret (v := .tuple #[.string (tx 255), .int .i64 mx, .int .i64 0]) (by simp [results, Tryz.results108, go_sem, *]) rfl ⟨rfl, HX.out.trans HX7.out⟩
 ·have h : t0 = -1 := h
  subst h
  go_upto_region 16 with fail
  have HC : Hid (CellsAt (W6.alloc (.cells #[.int .u8 254] 5)) (some ⟨W6.heap.size, 0, none⟩) [.int .u8 254]) := zh (cells_lit W6 5 W6.heap.size #[.int .u8 254] [.int .u8 254] rfl rfl)
  go_wp2_with (at_builtin; refine wpList_append_cells _ (by rfl) (.tmp 60) (.tmp 61) 212 rfl W6.heap.size 5 i6 _ 1 1 Tryz.underlying212 hi hz0 hz1 hz2 rfl (by omega) nil0 0 [] rfl (World.ownsRow_nil _ _ _ _) (some ⟨W6.heap.size, 0, none⟩) 1 1 [.int .u8 254] rfl (by intro h; cases h) rfl HC.out (by intro u hu; obtain rfl := List.mem_singleton.1 hu; rfl) (by unfold maxLen; omega) (by omega) (by simp) ?_; intro v7 w7 ho7 hg7 hat7; have X7 : Ext W6 w7 := ((by repeat first | exact xr _ | refine xa ?_ _ | refine xm ?_ _ _ | refine xd ?_ | refine xn ?_ _ | refine xs ?_ (by simp <;> omega) _) : Ext W6 (W6.alloc (.cells #[.int .u8 254] 5))).grown hg7 (by intro g hg; cases hg); have HX7 := zh (HX6.out.trans X7); obtain ⟨A7, c7, rfl, hc7, _⟩ := own_cells ho7; obtain ⟨b7, o7, rfl, lb7, hcc⟩ := hc7 (by simp); have hcv := run_convert_bytes_arg (P := Tryz.prog) w7 212 5 Tryz.underlying212 Tryz.underlying5 b7 o7 1 c7 [254] rfl (fun i hi => by
   obtain rfl : i = 0 := by omega
   exact hcc 0 _ rfl) 9 Tryz.underlying9; rw [strN254] at hcv; clear X7 ho7 hg7 hat7 hcc hc7 lb7)
  rw [rounds_succ]
  go_wp2_with fail
  exact bodyPost_ret (v := .tuple #[.string (tx 254), .int .i64 mx, .int .i64 0]) (by simp [results, Tryz.results108, go_sem, *]) rfl ⟨rfl, HX.out.trans HX7.out⟩
 ·have h : t0 = 0 := h
  subst h
  go_upto_region 12 with fail
  have HC : Hid (CellsAt (W6.alloc (.cells #[.int .u8 0] 5)) (some ⟨W6.heap.size, 0, none⟩) [.int .u8 0]) := zh (cells_lit W6 5 W6.heap.size #[.int .u8 0] [.int .u8 0] rfl rfl)
  go_wp2_with (at_builtin; refine wpList_append_cells _ (by rfl) (.tmp 45) (.tmp 49) 212 rfl W6.heap.size 5 i6 _ 1 1 Tryz.underlying212 hi hz0 hz1 hz2 rfl (by omega) nil0 0 [] rfl (World.ownsRow_nil _ _ _ _) (some ⟨W6.heap.size, 0, none⟩) 1 1 [.int .u8 0] rfl (by intro h; cases h) rfl HC.out (by intro u hu; obtain rfl := List.mem_singleton.1 hu; rfl) (by unfold maxLen; omega) (by omega) (by simp) ?_; intro v7 w7 ho7 hg7 hat7; have X7 : Ext W6 w7 := ((by repeat first | exact xr _ | refine xa ?_ _ | refine xm ?_ _ _ | refine xd ?_ | refine xn ?_ _ | refine xs ?_ (by simp <;> omega) _) : Ext W6 (W6.alloc (.cells #[.int .u8 0] 5))).grown hg7 (by intro g hg; cases hg); have HX7 := zh (HX6.out.trans X7); obtain ⟨A7, c7, rfl, hc7, _⟩ := own_cells ho7; obtain ⟨b7, o7, rfl, lb7, hcc⟩ := hc7 (by simp); have hcv := run_convert_bytes_arg (P := Tryz.prog) w7 212 5 Tryz.underlying212 Tryz.underlying5 b7 o7 1 c7 [0] rfl (fun i hi => by
   obtain rfl : i = 0 := by omega
   exact hcc 0 _ rfl) 9 Tryz.underlying9; rw [strN0] at hcv; clear X7 ho7 hg7 hat7 hcc hc7 lb7)
  rw [rounds_succ]
  go_wp2_with fail
  exact bodyPost_ret (v := .tuple #[.string (tx 0), .int .i64 mx, .int .i64 0]) (by simp [results, Tryz.results108, go_sem, *]) rfl ⟨rfl, HX.out.trans HX7.out⟩
def predF (x : ByteArray) : Int := if x = tx 0 then 0 else if x = tx 255 then 1 else -1
set_option maxRecDepth 100000 in
set_option maxHeartbeats 2000000 in
theorem predict_gram (a b : Nat) (C : Option Addr) (c d e : Nat) (tv : Value) (x : ByteArray) (w : World) (h : GrRd w a b C d e) (ht : TabRd w tv) : Calls Tryz.prog 162 #[gramV a c, .agg #[tv], .int .i64 0, .string x] w fun e w' => e = .returned (.int .i64 (predF x)) ∧ Ext w w' := by
 obtain ⟨g0, W, hg0, hW, X1, hat⟩ := gr_enter w c h
 obtain ⟨g, og, tc, a0, o0, c0, a1, o1, c1, rfl, lt, x0, x1, _, _, _, _, hs0, hs1⟩ := tab_open (ht.ext X1)
 obtain ⟨tb, htb⟩ : ∃ ob, W.heap.size = ob := ⟨_, rfl⟩
 obtain ⟨W1, hW1⟩ : ∃ V, W.alloc (.cells #[.slice (some ⟨g, og, none⟩) 2 tc] 103) = V := ⟨_, rfl⟩
 have hB1 : W1.heap[tb]? = some (.cells #[.slice (some ⟨g, og, none⟩) 2 tc] 103) := by rw [← hW1, ← htb]; exact heap_alloc_new _ _
 have X01 : Ext W W1 := by rw [← hW1]; exact (by repeat first | exact xr _ | refine xa ?_ _ | refine xm ?_ _ _ | refine xd ?_ | refine xn ?_ _ | refine xs ?_ (by simp <;> omega) _)
 have HG := zh (hat.ext X01)
 have HB := zh hB1
 have HX := zh (X1.trans X01)
 have HT : Hid (∀ w1, Ext W1 w1 → w1.cell? ⟨g, og, none⟩ = some (.slice (some ⟨a0, o0, none⟩) 1 c0) ∧ w1.cell? ⟨g, og + 1, none⟩ = some (.slice (some ⟨a1, o1, none⟩) 1 c1) ∧ g < w1.heap.size ∧ w1.cell? ⟨tb, 0, none⟩ = some (.slice (some ⟨g, og, none⟩) 2 tc) ∧ tb < w1.heap.size) := zh (fun w1 e1 => by
  have b0 := cell_of_row _ _ 0 _ _ _ (ext_block hB1 e1)
  simp at b0
  exact ⟨ext_cell x0 lt (X01.trans e1), ext_cell x1 lt (X01.trans e1), Nat.lt_of_lt_of_le lt (X01.trans e1).size, b0, lt_of_heap (ext_block hB1 e1)⟩)
 have HCK := zh (check_gram a b C c d e W1 (hat.ext X01).rd)
 have HH0 := zh (fun w1 (e1 : Ext W1 w1) => hasRow_any (some ⟨a0, o0, none⟩) c0 [tx 0] x w1 ((hs0.ext X01).ext e1) (by simp) (decide (x = tx 0)) (by simp))
 have HH1 := zh (fun w1 (e1 : Ext W1 w1) => hasRow_any (some ⟨a1, o1, none⟩) c1 [tx 255] x w1 ((hs1.ext X01).ext e1) (by simp) (decide (x = tx 255)) (by simp))
 clear h X1 hat ht X01 hB1 hs0 hs1 x0 x1 lt
 unfold gramV at HCK ⊢
 go_enter Tryz.func162, Tryz.ntmps162
 go_upto_region 1 with fail
 try simp only [hg0]
 try simp only [hW]
 try simp only [htb]
 try simp only [hW1]
 clear hW hg0 htb hW1
 obtain ⟨k0, k1, k2, k3, lg, p0, p1, p2, p3, lp, r0, r1, lr⟩ := HG.out
 obtain ⟨x0, x1, lt, b0, bl⟩ := HT.out W1 (Ext.refl _)
 go_wp2_with fail
 refine HCK.out.mono ?_
 rintro e' W2 ⟨rfl, hx2⟩
 have HX2 := zh hx2
 clear HCK k0 k1 k2 k3 lg p0 p1 p2 p3 lp r0 r1 lr hx2 x0 x1 lt b0 bl
 obtain ⟨k0, k1, k2, k3, lg, p0, p1, p2, p3, lp, r0, r1, lr⟩ := HG.out.ext HX2.out
 obtain ⟨x0, x1, lt, b0, bl⟩ := HT.out W2 HX2.out
 go_wp2_with fail
 refine wp_loop_rounds 3 ?_
 rw [rounds_succ]
 go_wp2_with fail
 refine (HH0.out _ HX2.out).mono ?_
 rintro e' W3 ⟨rfl, hx3⟩
 have HX3 := zh (HX2.out.trans hx3)
 clear k0 k1 k2 k3 lg p0 p1 p2 p3 lp r0 r1 lr hx3 x0 x1 lt b0 bl HH0
 by_cases h0 : x = tx 0
 ·have HP : Hid (predF x = 0) := zh (by unfold predF; rw [if_pos h0])
  rw [decide_eq_true h0]
  clear h0
  go_wp2_with fail
  go_ret
  exact ⟨ret_int (by rw [HP.out]), HX.out.trans HX3.out⟩
 ·rw [decide_eq_false h0]
  have HN0 := zh h0
  clear h0
  obtain ⟨k0, k1, k2, k3, lg, p0, p1, p2, p3, lp, r0, r1, lr⟩ := HG.out.ext HX3.out
  obtain ⟨x0, x1, lt, b0, bl⟩ := HT.out W3 HX3.out
  go_wp2_with fail
  rw [rounds_succ]
  go_wp2_with fail
  refine (HH1.out _ HX3.out).mono ?_
  rintro e' W4 ⟨rfl, hx4⟩
  have HX4 := zh (HX3.out.trans hx4)
  clear k0 k1 k2 k3 lg p0 p1 p2 p3 lp r0 r1 lr hx4 x0 x1 lt b0 bl HH1
  by_cases h1 : x = tx 255
  ·have HP : Hid (predF x = 1) := zh (by unfold predF; rw [if_neg HN0.out, if_pos h1])
   rw [decide_eq_true h1]
   clear h1
   go_wp2_with fail
   go_ret
   exact ⟨ret_int (by rw [HP.out]), HX.out.trans HX4.out⟩
  ·have HP : Hid (predF x = -1) := zh (by unfold predF; rw [if_neg HN0.out, if_neg h1])
   rw [decide_eq_false h1]
   clear h1
   obtain ⟨k0, k1, k2, k3, lg, p0, p1, p2, p3, lp, r0, r1, lr⟩ := HG.out.ext HX4.out
   go_wp2_with fail
   rw [rounds_succ]
   go_wp2_with fail
   go_ret
   exact ⟨ret_int (by rw [HP.out]), HX.out.trans HX4.out⟩
set_option maxRecDepth 100000 in
set_option maxHeartbeats 1000000 in
theorem words_run (w : World) : Calls Tryz.prog 20 #[] w fun e w' => ∃ rb a b, e = .returned (.tuple #[.slice (some ⟨rb, 0, none⟩) 2 2, gramV a 2]) ∧ RulesRd w' rb ∧ GrRd w' a b none 2 0 ∧ Ext w w' := by
 obtain ⟨gb, hgb⟩ : ∃ b, w.heap.size = b := ⟨_, rfl⟩
 obtain ⟨W1, hW1⟩ : ∃ V, w.alloc (.cells #[.int .i64 0, .int .i64 0, .int .i64 0, nil0] 46) = V := ⟨_, rfl⟩
 have h1 : W1.heap[gb]? = some (.cells #[.int .i64 0, .int .i64 0, .int .i64 0, nil0] 46) := by rw [← hW1, ← hgb]; exact heap_alloc_new _ _
 have s1 : W1.heap.size = gb + 1 := by rw [← hW1, ← hgb]; simp
 obtain ⟨W2, hW2⟩ : ∃ V, W1.alloc (.cells #[.string sW, .string rW, .bool false, .string sG, .string rG, .bool true] 90) = V := ⟨_, rfl⟩
 have h2 : W2.heap[gb + 1]? = some (.cells #[.string sW, .string rW, .bool false, .string sG, .string rG, .bool true] 90) := by rw [← hW2, ← s1]; exact heap_alloc_new _ _
 have s2 : W2.heap.size = gb + 2 := by rw [← hW2]; simp; omega
 obtain ⟨W3, hW3⟩ : ∃ V, W2.alloc (.cells #[.int .i64 0, .int .i64 1] 3) = V := ⟨_, rfl⟩
 have h3 : W3.heap[gb + 2]? = some (.cells #[.int .i64 0, .int .i64 1] 3) := by rw [← hW3, ← s2]; exact heap_alloc_new _ _
 have s3 : W3.heap.size = gb + 3 := by rw [← hW3]; simp; omega
 obtain ⟨W4, hW4⟩ : ∃ V, W3.alloc (.cells #[.int .i64 0, .slice (some ⟨gb + 2, 0, none⟩) 2 2, .int .i64 0, nil0] 92) = V := ⟨_, rfl⟩
 have h4 : W4.heap[gb + 3]? = some (.cells #[.int .i64 0, .slice (some ⟨gb + 2, 0, none⟩) 2 2, .int .i64 0, nil0] 92) := by rw [← hW4, ← s3]; exact heap_alloc_new _ _
 have x1 : Ext w W1 := by rw [← hW1]; exact (by repeat first | exact xr _ | refine xa ?_ _ | refine xm ?_ _ _ | refine xd ?_ | refine xn ?_ _ | refine xs ?_ (by simp <;> omega) _)
 have x2 : Ext W1 W2 := by rw [← hW2]; exact (by repeat first | exact xr _ | refine xa ?_ _ | refine xm ?_ _ _ | refine xd ?_ | refine xn ?_ _ | refine xs ?_ (by simp <;> omega) _)
 have x3 : Ext W2 W3 := by rw [← hW3]; exact (by repeat first | exact xr _ | refine xa ?_ _ | refine xm ?_ _ _ | refine xd ?_ | refine xn ?_ _ | refine xs ?_ (by simp <;> omega) _)
 have x4 : Ext W3 W4 := by rw [← hW4]; exact (by repeat first | exact xr _ | refine xa ?_ _ | refine xm ?_ _ _ | refine xd ?_ | refine xn ?_ _ | refine xs ?_ (by simp <;> omega) _)
 have h14 := ext_block h1 (x2.trans (x3.trans x4))
 obtain ⟨W5, hW5⟩ : ∃ V, put4 W4 gb (.int .i64 1) (.int .i64 1) (.int .i64 1) (.slice (some ⟨gb + 3, 0, none⟩) 2 2) = V := ⟨_, rfl⟩
 have T5 : Turn (fun k => k = gb) W4 W5 := by rw [← hW5]; exact put4_turn (S := fun k => k = gb) rfl _ _ _ _
 have P5 : W5.heap[gb]? = some (.cells #[.int .i64 1, .int .i64 1, .int .i64 1, .slice (some ⟨gb + 3, 0, none⟩) 2 2] 46) := by rw [← hW5]; exact put4_at h14 _ _ _ _
 have HX5 : Hid (Ext w W5) := zh (T5.ext (x1.trans (x2.trans (x3.trans x4))) (fun k hk => by omega))
 have h25 := T5.keep (ext_block h2 (x3.trans x4)) (by omega)
 have h35 := T5.keep (ext_block h3 x4) (by omega)
 have h45 := T5.keep h4 (by omega)
 have HR : Hid (RulesRd W5 (gb + 1)) := zh ⟨cell_of_row _ _ 0 _ _ _ h25, cell_of_row _ _ 1 _ _ _ h25, cell_of_row _ _ 2 _ _ _ h25, cell_of_row _ _ 3 _ _ _ h25, cell_of_row _ _ 4 _ _ _ h25, cell_of_row _ _ 5 _ _ _ h25, lt_of_heap h25⟩
 have HG : Hid (GrRd W5 (gb + 3) (gb + 2) none 2 0) := zh ⟨cell_of_row _ _ 0 _ _ _ h45, cell_of_row _ _ 1 _ _ _ h45, cell_of_row _ _ 2 _ _ _ h45, cell_of_row _ _ 3 _ _ _ h45, lt_of_heap h45, cell_of_row _ _ 0 _ _ _ h35, cell_of_row _ _ 1 _ _ _ h35, lt_of_heap h35⟩
 have z0 := cell_of_row _ _ 0 _ _ _ h14
 have z1 := cell_of_row _ _ 1 _ _ _ h14
 have z2 := cell_of_row _ _ 2 _ _ _ h14
 have z3 := cell_of_row _ _ 3 _ _ _ h14
 have zl := lt_of_heap h14
 have zf := fun k => row_frozen h14 k
 have e0 := cell_of_row _ _ 0 _ _ _ P5
 have e1 := cell_of_row _ _ 1 _ _ _ P5
 have e2 := cell_of_row _ _ 2 _ _ _ P5
 have e3 := cell_of_row _ _ 3 _ _ _ P5
 simp at z0 z1 z2 z3 e0 e1 e2 e3
 unfold put4 put3 put2 at hW5
 clear h1 h2 h3 h4 x1 x2 x3 x4 h14 T5 P5 h25 h35 h45
 go_enter Tryz.func20, Tryz.ntmps20
 go_wp2_with fail
 exact bodyPost_ret (v := .tuple #[.slice (some ⟨gb + 1, 0, none⟩) 2 2, .agg #[.int .i64 1, .int .i64 1, .int .i64 1, .slice (some ⟨gb + 3, 0, none⟩) 2 2]]) (by simp [results, Tryz.results20, go_sem, *]) rfl ⟨gb + 1, gb + 3, gb + 2, rfl, HR.out, HG.out, HX5.out⟩
def LangRd (w : World) (lb : Nat) : Prop := ∃ nv rv kv a b C c d e tv xv g og nb nc cl, w.heap[lb]? = some (.cells #[nv, rv, kv, .int .i64 1, .int .i64 1, .int .i64 1, .int .i64 1, .slice (some ⟨a, 0, none⟩) 2 c, tv, xv, .int .i64 37448] 112) ∧ LexRd w nv rv kv wordN wordR [0, -1] ∧ GrRd w a b C d e ∧ TabRd w tv ∧ NextRd w xv g og nb nc cl
theorem NextRd.ext {w w' : World} {v : Value} {g og lb c cl : Nat} (h : NextRd w v g og lb c cl) (e : Ext w w') : NextRd w' v g og lb c cl := ⟨h.val, Nat.lt_of_lt_of_le h.lg e.size, ext_cell h.row h.lg e, Nat.lt_of_lt_of_le h.ll e.size, ext_cell h.b0 h.ll e, ext_cell h.b1 h.ll e⟩
theorem LangRd.ext {w w' : World} {lb : Nat} (h : LangRd w lb) (x : Ext w w') : LangRd w' lb := by
 obtain ⟨nv, rv, kv, a, b, C, c, d, e, tv, xv, g, og, nb, nc, cl, h1, h2, h3, h4, h5⟩ := h
 exact ⟨nv, rv, kv, a, b, C, c, d, e, tv, xv, g, og, nb, nc, cl, ext_block h1 x, h2.ext x, h3.ext x, h4.ext x, h5.ext x⟩
theorem lex_slices {w : World} {nv rv kv : Value} (h : LexRd w nv rv kv wordN wordR [0, -1]) : ∃ A0 c0 A1 c1 A2 c2, nv = .slice A0 768 c0 ∧ rv = .slice A1 3 c1 ∧ kv = .slice A2 2 c2 := by
 obtain ⟨⟨⟨A, c, h1, _⟩, B, d, h2, _⟩, K, kc, h3, _⟩ := h
 rw [wordN_length] at h1
 exact ⟨A, c, B, d, K, kc, h1, h2, h3⟩
set_option maxRecDepth 100000 in
set_option maxHeartbeats 2000000 in
theorem build17_words (rb rc a b c : Nat) (w : World) (hr : RulesRd w rb) (h : GrRd w a b none 2 0) : Calls Tryz.prog 21 #[.slice (some ⟨rb, 0, none⟩) 2 rc, gramV a c] w fun e w' => ∃ lb, e = .returned (.tuple #[.pointer (some ⟨lb, 0, none⟩), .int .i64 0]) ∧ LangRd w' lb ∧ Ext w w' := by
 obtain ⟨g0, W, hg0, hW, X1, hat⟩ := gr_enter w c h
 have HX := zh X1
 have HG := zh hat
 have HLB := zh (build07_words rb rc W (hr.ext X1))
 have HAC := zh (fun w1 (e1 : Ext W w1) => accept_gram a b none c 2 0 w1 (hat.rd.ext e1) rfl)
 have HCN := zh (fun w1 (e1 : Ext W w1) => const_gram a b none c 2 0 w1 (hat.rd.ext e1) rfl)
 have HCO := zh (fun w1 (e1 : Ext W w1) => cost_gram a b none c 2 0 w1 (hat.rd.ext e1) rfl)
 have HBU := zh (fun w1 (e1 : Ext W w1) => build14_gram a b none c 2 0 w1 (hat.rd.ext e1) rfl)
 have HGC := zh (fun w1 (e1 : Ext W w1) => grammar_copy a b none c 2 0 w1 (hat.rd.ext e1) (fun _ => rfl))
 have HNX := zh (fun w1 (e1 : Ext W w1) => next_gram a b none c 2 0 w1 (hat.rd.ext e1) rfl)
 clear h X1 hr
 obtain ⟨k0, k1, k2, k3, lg, p0, p1, p2, p3, lp, r0, r1, lr⟩ := hat
 unfold gramV at HAC HCN HCO HBU HGC HNX ⊢
 unfold confV at HBU
 unfold lexV at HLB
 go_enter Tryz.func21, Tryz.ntmps21
 go_upto_region 1 with fail
 try simp only [hg0]
 try simp only [hW]
 clear hg0 hW
 go_wp2_with fail
 refine HLB.out.mono ?_
 rintro e' W2 ⟨nv, rv, kv, rfl, hlx, hx2⟩
 clear HLB k0 k1 k2 k3 lg p0 p1 p2 p3 lp r0 r1 lr
 obtain ⟨N0, nc0, N1, nc1, N2, nc2, rfl, rfl, rfl⟩ := lex_slices hlx
 obtain ⟨xb, hxb⟩ : ∃ b, W2.heap.size = b := ⟨_, rfl⟩
 obtain ⟨W3a, hW3a⟩ : ∃ V, W2.alloc (.cells #[nil0, nil0, nil0, .int .i64 0] 96) = V := ⟨_, rfl⟩
 have hB3 : W3a.heap[xb]? = some (.cells #[nil0, nil0, nil0, .int .i64 0] 96) := by rw [← hW3a, ← hxb]; exact heap_alloc_new _ _
 obtain ⟨W3, hW3⟩ : ∃ V, put4 W3a xb (.slice N0 768 nc0) (.slice N1 3 nc1) (.slice N2 2 nc2) (.int .i64 1) = V := ⟨_, rfl⟩
 have P3 : W3.heap[xb]? = some (.cells #[.slice N0 768 nc0, .slice N1 3 nc1, .slice N2 2 nc2, .int .i64 1] 96) := by rw [← hW3]; exact put4_at hB3 _ _ _ _
 have X23 : Ext W2 W3 := by rw [← hW3]; exact (put4_turn (S := fun k => k = xb) rfl _ _ _ _).ext (show Ext W2 W3a from by rw [← hW3a]; exact (by repeat first | exact xr _ | refine xa ?_ _ | refine xm ?_ _ _ | refine xd ?_ | refine xn ?_ _ | refine xs ?_ (by simp <;> omega) _)) (fun k hk => by omega)
 have HX3 := zh (hx2.trans X23)
 have HLX := zh (hlx.ext X23)
 have HP3 := zh P3
 have z0 := cell_of_row _ _ 0 _ _ _ hB3
 have z1 := cell_of_row _ _ 1 _ _ _ hB3
 have z2 := cell_of_row _ _ 2 _ _ _ hB3
 have z3 := cell_of_row _ _ 3 _ _ _ hB3
 have zl := lt_of_heap hB3
 have zf := fun k => row_frozen hB3 k
 simp at z0 z1 z2 z3
 unfold put4 put3 put2 at hW3
 clear hx2 hlx hB3 P3 X23
 go_upto_region 2 with fail
 try simp only [hxb]
 try simp only [hW3a]
 try simp only [hW3]
 clear hxb hW3a hW3 z0 z1 z2 z3 zl zf
 obtain ⟨k0, k1, k2, k3, lg, p0, p1, p2, p3, lp, r0, r1, lr⟩ := HG.out.ext HX3.out
 go_wp2_with fail
 refine (HAC.out _ HX3.out).mono ?_
 rintro e' W4 ⟨rfl, hx4⟩
 have HX4 := zh (HX3.out.trans hx4)
 have HP4 := zh (ext_block HP3.out hx4)
 have HLX4 := zh (HLX.out.ext hx4)
 clear k0 k1 k2 k3 lg p0 p1 p2 p3 lp r0 r1 lr hx4 HAC HP3 HLX HX3
 obtain ⟨k0, k1, k2, k3, lg, p0, p1, p2, p3, lp, r0, r1, lr⟩ := HG.out.ext HX4.out
 have y3 := cell_of_row _ _ 3 _ _ _ HP4.out
 have yl := lt_of_heap HP4.out
 simp at y3
 go_wp2_with fail
 refine (HCN.out _ HX4.out).mono ?_
 rintro e' W5 ⟨rfl, hx5⟩
 have HX5 := zh (HX4.out.trans hx5)
 have HP5 := zh (ext_block HP4.out hx5)
 have HLX5 := zh (HLX4.out.ext hx5)
 clear k0 k1 k2 k3 lg p0 p1 p2 p3 lp r0 r1 lr hx5 HCN HP4 HLX4 HX4 y3 yl
 obtain ⟨k0, k1, k2, k3, lg, p0, p1, p2, p3, lp, r0, r1, lr⟩ := HG.out.ext HX5.out
 go_wp2_with fail
 refine (HCO.out _ HX5.out).mono ?_
 rintro e' W6 ⟨rfl, hx6⟩
 have HX6 := zh (HX5.out.trans hx6)
 have HP6 := zh (ext_block HP5.out hx6)
 have HLX6 := zh (HLX5.out.ext hx6)
 clear k0 k1 k2 k3 lg p0 p1 p2 p3 lp r0 r1 lr hx6 HP5 HLX5 HX5
 obtain ⟨k0, k1, k2, k3, lg, p0, p1, p2, p3, lp, r0, r1, lr⟩ := HG.out.ext HX6.out
 go_wp2_with fail
 refine (HBU.out _ HX6.out).mono ?_
 rintro e' W7 ⟨tv, rfl, ht, hx7⟩
 obtain ⟨tg, tog, tc, tv0, tv1, tcs, rfl, _⟩ := id ht
 have HX7 := zh (HX6.out.trans hx7)
 have hp7 := ext_block HP6.out hx7
 have hl7 := HLX6.out.ext hx7
 clear k0 k1 k2 k3 lg p0 p1 p2 p3 lp r0 r1 lr hx7 HBU HP6 HLX6 HX6
 obtain ⟨tb, htb⟩ : ∃ b, W7.heap.size = b := ⟨_, rfl⟩
 obtain ⟨V1, hV1⟩ : ∃ V, W7.alloc (.cells #[nil0] 103) = V := ⟨_, rfl⟩
 have hT1 : V1.heap[tb]? = some (.cells #[nil0] 103) := by rw [← hV1, ← htb]; exact heap_alloc_new _ _
 have htb2 : V1.heap.size = tb + 1 := by rw [← hV1, ← htb]; simp
 obtain ⟨V2, hV2⟩ : ∃ V, V1.alloc (.cells #[.int .i64 0, .int .i64 0, .int .i64 0, .string ⟨#[]⟩] 105) = V := ⟨_, rfl⟩
 have hC2 : V2.heap[tb + 1]? = some (.cells #[.int .i64 0, .int .i64 0, .int .i64 0, .string ⟨#[]⟩] 105) := by rw [← hV2, ← htb2]; exact heap_alloc_new _ _
 have x12 : Ext V1 V2 := by rw [← hV2]; exact (by repeat first | exact xr _ | refine xa ?_ _ | refine xm ?_ _ _ | refine xd ?_ | refine xn ?_ _ | refine xs ?_ (by simp <;> omega) _)
 have hT2 := ext_block hT1 x12
 obtain ⟨V3, hV3⟩ : ∃ V, V2.setCell ⟨tb, 0, none⟩ (.slice (some ⟨tg, tog, none⟩) 2 tc) = V := ⟨_, rfl⟩
 have hT3 : V3.heap[tb]? = some (.cells #[.slice (some ⟨tg, tog, none⟩) 2 tc] 103) := by rw [← hV3]; exact setCell_row hT2 _
 have hC3 := setCell_row_other (k := 0) (g := tb) hC2 (by omega) (.slice (some ⟨tg, tog, none⟩) 2 tc)
 rw [hV3] at hC3
 obtain ⟨V4, hV4⟩ : ∃ V, put4 V3 (tb + 1) (.int .i64 0) (.int .i64 0) (.int .i64 0) (.string ⟨#[]⟩) = V := ⟨_, rfl⟩
 have T4 : Turn (fun k => k = tb + 1) V3 V4 := by rw [← hV4]; exact put4_turn (S := fun k => k = tb + 1) rfl _ _ _ _
 have hT4 := T4.keep hT3 (by omega)
 have X74 : Ext W7 V4 := T4.ext (show Ext W7 V3 from by rw [← hV3]; exact (show Ext W7 V2 from by rw [← hV2, ← hV1]; exact (by repeat first | exact xr _ | refine xa ?_ _ | refine xm ?_ _ _ | refine xd ?_ | refine xn ?_ _ | refine xs ?_ (by simp <;> omega) _)).setCell (by show _ ≤ tb; omega) _) (fun k hk => by omega)
 have HX8 := zh (HX7.out.trans X74)
 have HP8 := zh (ext_block hp7 X74)
 have HLX8 := zh (hl7.ext X74)
 have HT8 := zh (ht.ext X74)
 have HTB := zh hT4
 have t0 := cell_of_row _ _ 0 _ _ _ hT2
 have tl := lt_of_heap hT2
 have tf := row_frozen hT2 0
 have c0 := cell_of_row _ _ 0 _ _ _ hC3
 have c1 := cell_of_row _ _ 1 _ _ _ hC3
 have c2 := cell_of_row _ _ 2 _ _ _ hC3
 have c3 := cell_of_row _ _ 3 _ _ _ hC3
 have cl := lt_of_heap hC3
 have cf := fun k => row_frozen hC3 k
 simp at t0 c0 c1 c2 c3
 unfold put4 put3 put2 at hV4
 clear hp7 hl7 hT1 hC2 x12 hT2 hT3 hC3 T4 hT4 X74 ht HX7
 go_upto_region 12 with fail
 try simp only [htb]
 try simp only [hV1]
 try simp only [htb2]
 try simp only [hV2]
 try simp only [hV3]
 try simp only [hV4]
 clear htb hV1 htb2 hV2 hV3 hV4 t0 tl tf c0 c1 c2 c3 cl cf
 obtain ⟨k0, k1, k2, k3, lg, p0, p1, p2, p3, lp, r0, r1, lr⟩ := HG.out.ext HX8.out
 have t0 := cell_of_row _ _ 0 _ _ _ HTB.out
 have tl := lt_of_heap HTB.out
 have y0 := cell_of_row _ _ 0 _ _ _ HP8.out
 have y1 := cell_of_row _ _ 1 _ _ _ HP8.out
 have y2 := cell_of_row _ _ 2 _ _ _ HP8.out
 have y3 := cell_of_row _ _ 3 _ _ _ HP8.out
 have yl := lt_of_heap HP8.out
 simp at t0 y0 y1 y2 y3
 refine wp_region_bt (15) (softs_bt [0, 1, 3, 4, 6] (.step 2 (.step 5 (.step 7 (pures_bt [8, 9, 10, 11] (.step 12 (pures_bt [13, 14] .fin))))))) (by kernel_rfl) (by kernel_rfl) ?_
 refine bt_softs _ fun K hK => ?_; simp only [pick, nthC]; (repeat go_big_quiet_step (fail)); refine wpQuiet_nil (hK _ ?_); clear hK K
 refine bt_step fun next hn => ?_; simp only [pick, nthC]
 go_wp2_with fail
 refine (HGC.out _ (HX8.out.trans (by repeat first | exact xr _ | refine xa ?_ _ | refine xm ?_ _ _ | refine xd ?_ | refine xn ?_ _ | refine xs ?_ (by simp <;> omega) _))).mono ?_
 rintro e' U1 ⟨a', b', C', c', d', e'', rfl, hg', hu1⟩
 have HU1 : Hid (Ext V4 U1) := zh (Ext.trans (by repeat first | exact xr _ | refine xa ?_ _ | refine xm ?_ _ _ | refine xd ?_ | refine xn ?_ _ | refine xs ?_ (by simp <;> omega) _) hu1)
 have HG1 := zh hg'
 clear hu1 hg' HGC
 go_wp2_with fail
 refine segQ_mk (fun _ => laid HU1.out) (hn _ _ ?_)
 clear hn next
 refine bt_step fun next hn => ?_; simp only [pick, nthC]
 go_wp2_with fail
 refine (HNX.out _ (HX8.out.trans HU1.out)).mono ?_
 rintro e' U2 ⟨xv, xg, xog, xlb, xc, xcl, rfl, hxv, hu2⟩
 have HU2 : Hid (Ext V4 U2) := zh (HU1.out.trans hu2)
 have HG2 := zh (HG1.out.ext hu2)
 have HN2 := zh hxv
 obtain rfl := hxv.val
 clear hu2 HNX HG1 HU1
 go_wp2_with fail
 refine segQ_mk (fun _ => laid HU2.out) (hn _ _ ?_)
 clear hn next
 refine bt_step fun next hn => ?_; simp only [pick, nthC]
 go_wp2_with fail
 refine (HCO.out _ (HX8.out.trans HU2.out)).mono ?_
 rintro e' U3 ⟨rfl, hu3⟩
 have HU3 : Hid (Ext V4 U3) := zh (HU2.out.trans hu3)
 have HG3 := zh (HG2.out.ext hu3)
 have HN3 := zh (HN2.out.ext hu3)
 clear hu3 HCO HG2 HN2 HU2 hxv
 go_wp2_with fail
 refine segQ_mk (fun _ => laid HU3.out) (hn _ _ ?_)
 clear hn next k0 k1 k2 k3 lg p0 p1 p2 p3 lp r0 r1 lr t0 tl y0 y1 y2 y3 yl
 refine bt_pures _ fun K hK => ?_; simp only [pick, nthC]; (repeat go_big_quiet_step (fail)); refine wpQuiet_nil (hK _ ?_); clear hK K
 refine bt_step fun next hn => ?_; simp only [pick, nthC]
 go_wp2_with fail
 refine segQ_mk (fun _ => laid (HU3.out.trans ((by repeat first | exact xr _ | refine xa ?_ _ | refine xm ?_ _ _ | refine xd ?_ | refine xn ?_ _ | refine xs ?_ (by simp <;> omega) _) : Ext U3 _))) (hn _ _ ?_)
 clear hn next
 have X4 : Ext U3 (U3.alloc (.cells #[.slice N0 768 nc0, .slice N1 3 nc1, .slice N2 2 nc2, .int .i64 1, .int .i64 1, .int .i64 1, .int .i64 1, .slice (some ⟨a', 0, none⟩) 2 c', .slice (some ⟨tg, tog, none⟩) 2 tc, .slice (some ⟨xg, xog, none⟩) 1 xc, .int .i64 37448] 112)) := (by repeat first | exact xr _ | refine xa ?_ _ | refine xm ?_ _ _ | refine xd ?_ | refine xn ?_ _ | refine xs ?_ (by simp <;> omega) _)
 have HLR : Hid (LangRd (U3.alloc (.cells #[.slice N0 768 nc0, .slice N1 3 nc1, .slice N2 2 nc2, .int .i64 1, .int .i64 1, .int .i64 1, .int .i64 1, .slice (some ⟨a', 0, none⟩) 2 c', .slice (some ⟨tg, tog, none⟩) 2 tc, .slice (some ⟨xg, xog, none⟩) 1 xc, .int .i64 37448] 112)) U3.heap.size) := zh ⟨_, _, _, _, _, _, _, _, _, _, _, _, _, _, _, _, heap_alloc_new _ _, HLX8.out.ext (HU3.out.trans X4), HG3.out.ext X4, HT8.out.ext (HU3.out.trans X4), HN3.out.ext X4⟩
 have HXF : Hid (Ext w (U3.alloc (.cells #[.slice N0 768 nc0, .slice N1 3 nc1, .slice N2 2 nc2, .int .i64 1, .int .i64 1, .int .i64 1, .int .i64 1, .slice (some ⟨a', 0, none⟩) 2 c', .slice (some ⟨tg, tog, none⟩) 2 tc, .slice (some ⟨xg, xog, none⟩) 1 xc, .int .i64 37448] 112))) := zh (HX.out.trans (HX8.out.trans (HU3.out.trans X4)))
 clear X4
 obtain ⟨lb, hlb⟩ : ∃ b, U3.heap.size = b := ⟨_, rfl⟩
 obtain ⟨U4, hU4⟩ : ∃ V, U3.alloc (.cells #[.slice N0 768 nc0, .slice N1 3 nc1, .slice N2 2 nc2, .int .i64 1, .int .i64 1, .int .i64 1, .int .i64 1, .slice (some ⟨a', 0, none⟩) 2 c', .slice (some ⟨tg, tog, none⟩) 2 tc, .slice (some ⟨xg, xog, none⟩) 1 xc, .int .i64 37448] 112) = V := ⟨_, rfl⟩
 rw [hU4, hlb] at HLR
 rw [hU4] at HXF
 try simp only [hU4, hlb]
 clear hU4 hlb
 refine bt_pures _ fun K hK => ?_; simp only [pick, nthC]; (repeat go_big_quiet_step (fail)); refine wpQuiet_nil (hK _ ?_); clear hK K
 (refine bt_fin ?_)
 go_wp2_with fail
 exact bodyPost_ret (v := .tuple #[.pointer (some ⟨lb, 0, none⟩), .int .i64 0]) (by simp [results, Tryz.results21, go_sem, *]) rfl ⟨lb, rfl, HLR.out, HXF.out⟩
def put8 (w : World) (b : Nat) (v0 v1 v2 v3 v4 v5 v6 v7 : Value) : World := (((put5 w b v0 v1 v2 v3 v4).setCell ⟨b, 5, none⟩ v5).setCell ⟨b, 6, none⟩ v6).setCell ⟨b, 7, none⟩ v7
theorem put8_turn {S : Nat → Prop} {w : World} {b : Nat} (hb : S b) (v0 v1 v2 v3 v4 v5 v6 v7 : Value) : Turn S w (put8 w b v0 v1 v2 v3 v4 v5 v6 v7) := (((put5_turn hb v0 v1 v2 v3 v4).trans (Turn.setCell _ (p := ⟨b, 5, none⟩) hb v5)).trans (Turn.setCell _ (p := ⟨b, 6, none⟩) hb v6)).trans (Turn.setCell _ (p := ⟨b, 7, none⟩) hb v7)
theorem put8_at {w : World} {b : Nat} {T : TypeId} {a0 a1 a2 a3 a4 a5 a6 a7 : Value} (h : w.heap[b]? = some (.cells #[a0, a1, a2, a3, a4, a5, a6, a7] T)) (v0 v1 v2 v3 v4 v5 v6 v7 : Value) : (put8 w b v0 v1 v2 v3 v4 v5 v6 v7).heap[b]? = some (.cells #[v0, v1, v2, v3, v4, v5, v6, v7] T) := by
 have h0 := setCell_row (k := 0) h v0
 rw [show (#[a0, a1, a2, a3, a4, a5, a6, a7] : Array Value).setIfInBounds 0 v0 = #[v0, a1, a2, a3, a4, a5, a6, a7] from rfl] at h0
 have h1 := setCell_row (k := 1) h0 v1
 rw [show (#[v0, a1, a2, a3, a4, a5, a6, a7] : Array Value).setIfInBounds 1 v1 = #[v0, v1, a2, a3, a4, a5, a6, a7] from rfl] at h1
 have h2 := setCell_row (k := 2) h1 v2
 rw [show (#[v0, v1, a2, a3, a4, a5, a6, a7] : Array Value).setIfInBounds 2 v2 = #[v0, v1, v2, a3, a4, a5, a6, a7] from rfl] at h2
 have h3 := setCell_row (k := 3) h2 v3
 rw [show (#[v0, v1, v2, a3, a4, a5, a6, a7] : Array Value).setIfInBounds 3 v3 = #[v0, v1, v2, v3, a4, a5, a6, a7] from rfl] at h3
 have h4 := setCell_row (k := 4) h3 v4
 rw [show (#[v0, v1, v2, v3, a4, a5, a6, a7] : Array Value).setIfInBounds 4 v4 = #[v0, v1, v2, v3, v4, a5, a6, a7] from rfl] at h4
 have h5 := setCell_row (k := 5) h4 v5
 rw [show (#[v0, v1, v2, v3, v4, a5, a6, a7] : Array Value).setIfInBounds 5 v5 = #[v0, v1, v2, v3, v4, v5, a6, a7] from rfl] at h5
 have h6 := setCell_row (k := 6) h5 v6
 rw [show (#[v0, v1, v2, v3, v4, v5, a6, a7] : Array Value).setIfInBounds 6 v6 = #[v0, v1, v2, v3, v4, v5, v6, a7] from rfl] at h6
 have h7 := setCell_row (k := 7) h6 v7
 rw [show (#[v0, v1, v2, v3, v4, v5, v6, a7] : Array Value).setIfInBounds 7 v7 = #[v0, v1, v2, v3, v4, v5, v6, v7] from rfl] at h7
 unfold put8 put5 put4 put3 put2
 exact h7
def leafV (kind : Int) (p : Int) (q : Int × Int × Int × Int) : Value := .agg #[.int .i64 q.1, .int .i64 kind, .int .i64 p, .int .i64 q.2.1, .int .i64 q.2.2.1, .int .i64 q.2.2.2, nil0, .int .u64 0]
set_option maxRecDepth 100000 in
set_option maxHeartbeats 4000000 in
theorem leaf_of (kind p : Int) (q : Int × Int × Int × Int) (w : World) : Calls Tryz.prog 67 #[.int .i64 kind, tokV p q] w fun e w' => e = .returned (leafV kind p q) ∧ Ext w w' := by
 obtain ⟨t0, t1, t2, t3⟩ := q
 obtain ⟨g0, hg0⟩ : ∃ b, w.heap.size = b := ⟨_, rfl⟩
 obtain ⟨W, hW⟩ : ∃ W, (w.alloc (.cells #[.int .i64 t0, .int .i64 p, .int .i64 t1, .int .i64 t2, .int .i64 t3] 116)).alloc (.cells #[.int .i64 0, .int .i64 0, .int .i64 0, .int .i64 0, .int .i64 0, .int .i64 0, nil0, .int .u64 0] 34) = W := ⟨_, rfl⟩
 have X1 : Ext w W := by rw [← hW]; exact (by repeat first | exact xr _ | refine xa ?_ _ | refine xm ?_ _ _ | refine xd ?_ | refine xn ?_ _ | refine xs ?_ (by simp <;> omega) _)
 have B1 : W.heap[g0]? = some (.cells #[.int .i64 t0, .int .i64 p, .int .i64 t1, .int .i64 t2, .int .i64 t3] 116) := by rw [← hW, ← hg0]; exact (by simp only [heap_alloc_get, World.size_alloc]; (repeat (split; (first | rfl | (exfalso; omega)))); (try (first | (exfalso; omega) | simp_all)))
 have R1 : W.heap[g0 + 1]? = some (.cells #[.int .i64 0, .int .i64 0, .int .i64 0, .int .i64 0, .int .i64 0, .int .i64 0, nil0, .int .u64 0] 34) := by rw [← hW, ← hg0]; exact (by simp only [heap_alloc_get, World.size_alloc]; (repeat (split; (first | rfl | (exfalso; omega)))); (try (first | (exfalso; omega) | simp_all)))
 have P4 := put8_at R1 (.int .i64 t0) (.int .i64 kind) (.int .i64 p) (.int .i64 t1) (.int .i64 t2) (.int .i64 t3) nil0 (.int .u64 0)
 obtain ⟨W4, hW4⟩ : ∃ W4, put8 W (g0 + 1) (.int .i64 t0) (.int .i64 kind) (.int .i64 p) (.int .i64 t1) (.int .i64 t2) (.int .i64 t3) nil0 (.int .u64 0) = W4 := ⟨_, rfl⟩
 have HX4 : Hid (Ext w W4) := zh (by rw [← hW4]; exact (put8_turn (S := fun k => k = g0 + 1) rfl _ _ _ _ _ _ _ _).ext X1 (fun k hk => by omega))
 rw [hW4] at P4
 have b0 := cell_of_row _ _ 0 _ _ _ B1
 have b1 := cell_of_row _ _ 1 _ _ _ B1
 have b2 := cell_of_row _ _ 2 _ _ _ B1
 have b3 := cell_of_row _ _ 3 _ _ _ B1
 have b4 := cell_of_row _ _ 4 _ _ _ B1
 have lb := lt_of_heap B1
 have r0 := cell_of_row _ _ 0 _ _ _ R1
 have r1 := cell_of_row _ _ 1 _ _ _ R1
 have r2 := cell_of_row _ _ 2 _ _ _ R1
 have r3 := cell_of_row _ _ 3 _ _ _ R1
 have r4 := cell_of_row _ _ 4 _ _ _ R1
 have r5 := cell_of_row _ _ 5 _ _ _ R1
 have r6 := cell_of_row _ _ 6 _ _ _ R1
 have r7 := cell_of_row _ _ 7 _ _ _ R1
 have ff := fun k => row_frozen R1 k
 have e0 := cell_of_row _ _ 0 _ _ _ P4
 have e1 := cell_of_row _ _ 1 _ _ _ P4
 have e2 := cell_of_row _ _ 2 _ _ _ P4
 have e3 := cell_of_row _ _ 3 _ _ _ P4
 have e4 := cell_of_row _ _ 4 _ _ _ P4
 have e5 := cell_of_row _ _ 5 _ _ _ P4
 have e6 := cell_of_row _ _ 6 _ _ _ P4
 have e7 := cell_of_row _ _ 7 _ _ _ P4
 simp at b0 b1 b2 b3 b4 r0 r1 r2 r3 r4 r5 r6 r7 e0 e1 e2 e3 e4 e5 e6 e7
 unfold put8 put5 put4 put3 put2 at hW4
 clear B1 R1 P4 X1
 unfold tokV leafV
 dsimp only
 go_enter Tryz.func67, Tryz.ntmps67
 go_upto_region 1 with fail
 try simp only [hg0]
 try clear hW
 go_wp2_with fail
 exact bodyPost_ret (v := .agg #[.int .i64 t0, .int .i64 kind, .int .i64 p, .int .i64 t1, .int .i64 t2, .int .i64 t3, nil0, .int .u64 0]) (by simp [results, Tryz.results67, go_sem, *]) rfl ⟨rfl, HX4.out⟩
structure Sh where
 sym : Int
 kind : Int
 lo : Int
 inn : Int
 hi : Int
 look : Int
 ks : List Int
structure Pt where
 nd : Sh
 kA : Option Addr
 kc : Nat
def ptC (p : Pt) : List Value := [.int .i64 p.nd.sym, .int .i64 p.nd.kind, .int .i64 p.nd.lo, .int .i64 p.nd.inn, .int .i64 p.nd.hi, .int .i64 p.nd.look, .slice p.kA p.nd.ks.length p.kc, .int .u64 0]
def pw (ps : List Pt) : List Value := ps.flatMap ptC
theorem pw_length (ps : List Pt) : (pw ps).length = ps.length * 8 := by
 induction ps with
 | nil => rfl
 | cons p ps ih => simp only [pw, List.flatMap_cons, List.length_append, List.length_cons] at *; rw [ih]; simp [ptC]; omega
theorem pw_append (ps qs : List Pt) : pw (ps ++ qs) = pw ps ++ pw qs := List.flatMap_append
theorem pw_get : ∀ {ps : List Pt} {k : Nat} {p : Pt} (r : Nat), ps[k]? = some p → r < 8 → (pw ps)[k * 8 + r]? = (ptC p)[r]?
 | [], k, p, r, h, _ => by simp at h
 | q :: ps, 0, p, r, h, hr => by
  simp at h
  subst h
  simp only [pw, List.flatMap_cons, Nat.zero_mul, Nat.zero_add]
  rw [List.getElem?_append_left (by simp [ptC]; omega)]
 | q :: ps, k + 1, p, r, h, hr => by
  simp only [pw, List.flatMap_cons]
  rw [List.getElem?_append_right (by simp [ptC]; omega)]
  have := pw_get (ps := ps) (k := k) r (by simpa using h) hr
  rw [← this]
  congr 1
  simp [ptC]
  omega
theorem pw_one (ps : List Pt) : ∀ u ∈ pw ps, u.oneCell' = true := by
 intro u hu
 obtain ⟨x, _, hx⟩ := List.mem_flatMap.1 hu
 simp only [ptC, List.mem_cons, List.not_mem_nil, or_false] at hx
 rcases hx with rfl | rfl | rfl | rfl | rfl | rfl | rfl | rfl <;> rfl
theorem pw_set : ∀ {qs : List Pt} {i : Nat} {q q' : Pt} {r : Nat} {u : Value}, qs[i]? = some q → r < 8 → ptC q' = (ptC q).set r u → pw (qs.set i q') = (pw qs).set (i * 8 + r) u
 | [], i, q, q', r, u, h, _, _ => by simp at h
 | p :: qs, 0, q, q', r, u, h, hr, hc => by
  simp at h
  subst h
  simp only [List.set_cons_zero, pw, List.flatMap_cons, Nat.zero_mul, Nat.zero_add]
  rw [hc, List.set_append_left _ _ (by simp [ptC]; omega)]
 | p :: qs, i + 1, q, q', r, u, h, hr, hc => by
  have ih := pw_set (qs := qs) (i := i) (q := q) (q' := q') (r := r) (u := u) (by simpa using h) hr hc
  simp only [List.set_cons_succ]
  have e : pw (p :: qs.set i q') = ptC p ++ pw (qs.set i q') := by simp [pw]
  have e2 : pw (p :: qs) = ptC p ++ pw qs := by simp [pw]
  rw [e, e2, ih, List.set_append_right _ _ (by simp [ptC]; omega)]
  congr 2
  simp [ptC]
  omega
theorem rowP_store {w : World} {base g c n : Nat} {qs : List Pt} (h : w.ownsRow base 34 8 (.slice (some ⟨g, 0, none⟩) n c) n (pw qs)) {i : Nat} {q q' : Pt} {r : Nat} {u : Value} (hi : qs[i]? = some q) (hr : r < 8) (hc : ptC q' = (ptC q).set r u) :
 (w.setCell ⟨g, i * 8 + r, none⟩ u).ownsRow base 34 8 (.slice (some ⟨g, 0, none⟩) n c) n (pw (qs.set i q')) := by
 obtain ⟨h1, h2⟩ := h
 rw [pw_set hi hr hc]
 rcases h2 with ⟨h2, _⟩ | ⟨g', cap, cur, h2, h3, h4, h5, h6, h7, h8⟩
 ·cases h2
 ·injection h2 with a1 a2 a3
  injection a1 with a1
  injection a1 with a1
  subst a1 a3
  refine ⟨by rw [List.length_set]; exact h1, .inr ⟨g, c, cur.setIfInBounds (i * 8 + r) u, rfl, h3, by simp [World.setCell, Array.getElem?_modify, h4], h5, h6, by rw [Array.size_setIfInBounds]; exact h7, ?_⟩⟩
  rw [Array.toList_setIfInBounds, List.take_set, h8]
structure KidsAt (w : World) (p : Pt) : Prop where
 ints : Ints w p.kA p.nd.ks
 cap : p.nd.ks.length ≤ p.kc
 top : p.kc ≤ maxLen
 nil : p.kA = none → p.kc = 0
 typ : ∀ g off s, p.kA = some ⟨g, off, s⟩ → ∃ cs, w.heap[g]? = some (.cells cs 3)
theorem KidsAt.turn {w w' : World} {p : Pt} {S : Nat → Prop} (h : KidsAt w p) (t : Turn S w w') (hS : ∀ g cs, w.heap[g]? = some (.cells cs 3) → ¬ S g) : KidsAt w' p := by
 refine ⟨fun h0 => ?_, h.cap, h.top, h.nil, fun g off s hA => ?_⟩
 ·obtain ⟨b, off, k1, k2, k3⟩ := h.ints h0
  obtain ⟨cs, hcs⟩ := h.typ b off _ k1
  exact ⟨b, off, k1, Nat.lt_of_lt_of_le k2 t.size, fun k hk => (World.cell?_of_block (w := w) (a := ⟨b, off + k, none⟩) (t.block b k2 (hS b cs hcs))).trans (k3 k hk)⟩
 ·obtain ⟨cs, hcs⟩ := h.typ g off s hA
  exact ⟨cs, t.keep hcs (hS g cs hcs)⟩
theorem RowI.kids {w : World} {base : Nat} {A : Option Addr} {c : Nat} {p : Pt} (h : RowI w base (.slice A p.nd.ks.length c) p.nd.ks) (hA : p.kA = A) (hc : p.kc = c) : KidsAt w p := by
 have ho := h.own
 obtain ⟨A', c', hv, hi⟩ := h
 injection hv with h1 _ h3
 subst h1 h3 hA hc
 obtain ⟨k1, k2, k3, k4⟩ := hi.ints
 exact ⟨k1, k2, k3, k4, fun g off s hg => own_obj ho g (by rw [hg]; rfl)⟩
structure RowA (w : World) (base : Nat) (v : Value) (ps : List Pt) : Prop where
 own : w.ownsRow base 34 8 v ps.length (pw ps)
 kids : ∀ p ∈ ps, KidsAt w p
section
variable {w w' : World} {base : Nat} {v : Value} {ps : List Pt}
theorem RowA.turn {S : Nat → Prop} (h : RowA w base v ps) (t : Turn S w w') (h1 : ∀ g, v.ownBlock = some g → ¬ S g) (h2 : ∀ g cs, w.heap[g]? = some (.cells cs 3) → ¬ S g) : RowA w' base v ps :=
 ⟨own_keep h.own fun g hg => t.block g (own_old h.own g hg) (h1 g hg), fun p hp => (h.kids p hp).turn t h2⟩
theorem RowA.ext (h : RowA w base v ps) (e : Ext w w') : RowA w' base v ps := h.turn (Turn.of_ext (S := fun _ => False) e) (fun _ _ h => h) (fun _ _ _ h => h)
structure CellsA (w : World) (b k : Nat) (p : Pt) : Prop where
 sym : w.cell? ⟨b, k, none⟩ = some (.int .i64 p.nd.sym)
 kind : w.cell? ⟨b, k + 1, none⟩ = some (.int .i64 p.nd.kind)
 lo : w.cell? ⟨b, k + 2, none⟩ = some (.int .i64 p.nd.lo)
 inn : w.cell? ⟨b, k + 3, none⟩ = some (.int .i64 p.nd.inn)
 hi : w.cell? ⟨b, k + 4, none⟩ = some (.int .i64 p.nd.hi)
 look : w.cell? ⟨b, k + 5, none⟩ = some (.int .i64 p.nd.look)
 kids : w.cell? ⟨b, k + 6, none⟩ = some (.slice p.kA p.nd.ks.length p.kc)
 met : w.cell? ⟨b, k + 7, none⟩ = some (.int .u64 0)
 lt : b < w.heap.size
 frozen : ∀ j, w.frozen? ⟨b, j, none⟩ = false
theorem RowA.at_ {g c n i : Nat} {p : Pt} (h : RowA w base (.slice (some ⟨g, 0, none⟩) n c) ps) (hn : n = ps.length) (hi : ps[i]? = some p) : CellsA w g (i * 8) p := by
 subst hn
 obtain ⟨A, cap, hv, hc, _⟩ := own_cells h.own
 injection hv with hA _ _
 subst hA
 have hlt := (List.getElem?_eq_some_iff.1 hi).1
 obtain ⟨b, off, he, hb, hcc⟩ := hc (by rw [pw_length]; omega)
 injection he with he
 injection he with he1 he2
 subst he1 he2
 have key : ∀ r v, r < 8 → (ptC p)[r]? = some v → w.cell? ⟨g, i * 8 + r, none⟩ = some v := fun r v hr hv => by
  have := hcc (i * 8 + r) v ((pw_get r hi hr).trans hv)
  rwa [Nat.zero_add] at this
 exact ⟨by have := key 0 _ (by omega) rfl; simpa using this, key 1 _ (by omega) rfl, key 2 _ (by omega) rfl, key 3 _ (by omega) rfl, key 4 _ (by omega) rfl, key 5 _ (by omega) rfl, key 6 _ (by omega) rfl, key 7 _ (by omega) rfl, hb, fun j => World.ownsRow.frozenAt h.own j⟩
theorem RowA.store {g c n i r : Nat} {q q' : Pt} {u : Value} (h : RowA w base (.slice (some ⟨g, 0, none⟩) n c) ps) (hn : n = ps.length) (hi : ps[i]? = some q) (hr : r < 8) (hc : ptC q' = (ptC q).set r u) (hk : KidsAt w q') : RowA (w.setCell ⟨g, i * 8 + r, none⟩ u) base (.slice (some ⟨g, 0, none⟩) n c) (ps.set i q') := by
 subst hn
 obtain ⟨cur, hcur⟩ := own_obj h.own g rfl
 have T : Turn (fun k => k = g) w (w.setCell ⟨g, i * 8 + r, none⟩ u) := Turn.set1 _ _ _
 refine ⟨by rw [List.length_set]; exact rowP_store h.own hi hr hc, fun p hp => ?_⟩
 have hne : ∀ g' cs, w.heap[g']? = some (.cells cs 3) → ¬ g' = g := fun g' cs hg he => ne_type hg hcur (by decide) he
 rcases List.mem_or_eq_of_mem_set hp with hp | rfl
 ·exact (h.kids p hp).turn T hne
 ·exact hk.turn T hne
theorem RowA.len (h : RowA w base v ps) : ∃ A c, v = .slice A ps.length c := by
 obtain ⟨A, c, hv, _⟩ := own_cells h.own
 exact ⟨A, c, hv⟩
theorem RowA.block {A : Option Addr} {n c : Nat} (h : RowA w base (.slice A n c) ps) (h0 : 0 < ps.length) : ∃ g, A = some ⟨g, 0, none⟩ ∧ base ≤ g ∧ g < w.heap.size ∧ ∃ cs, w.heap[g]? = some (.cells cs 34) := by
 have ho := h.own
 obtain ⟨A', c', hv, _⟩ := own_cells ho
 injection hv with h1 h2 h3
 subst h1 h2 h3
 obtain ⟨g, rfl, h4, h5⟩ := row_block ho h0
 exact ⟨g, rfl, h4, h5, own_obj ho g rfl⟩
end
theorem infoPart : (Tryz.prog.info? 34).map (fun i => (i.zero, i.size, i.bytes)) = some (some (.agg #[.int .i64 0, .int .i64 0, .int .i64 0, .int .i64 0, .int .i64 0, .int .i64 0, .slice none 0 0, .int .u64 0]), 8, 80) := by kernel_rfl
theorem app_parts (w0 : World) {w : World} {ops : Array Oper} {rest : List Oper} {o : Oper} {a : Act} {Q : Exit → Act → World → Prop} (hw : Region.wanted o (yielded ops a.tmps) = true) (s x : Operand)
 (ho : o.op = .call { callee := .builtin .append, args := #[s, x], argTypes := #[22, 22] }) {ps qs : List Pt} {v : Value} (hr : RowA w w0.heap.size v ps) {A : Option Addr} {c : Nat}
 (hs : a.eval s = v) (hx : a.eval x = .slice A qs.length c) (hA : A = none → c = 0) (hc : CellsAt w A (pw qs)) (hk : ∀ q ∈ qs, KidsAt w q) (hlen : ps.length ≤ 1000000) (hlen2 : qs.length ≤ 1000000) (hext : Ext w0 w)
 (h : ∀ v' w', RowA w' w0.heap.size v' (ps ++ qs) → w.grownBy w' v.ownBlock → (v'.ownBlock = v.ownBlock ∨ v'.ownBlock = some w.heap.size) → Ext w0 w' → wpList Tryz.prog ops Q rest (a.put o.dst v') w') : wpList Tryz.prog ops Q (o :: rest) a w := by
 obtain ⟨i3, hi, hz0, hz1, hz2⟩ := info_parts infoPart
 refine wpList_append_cells w hw s x 22 ho w0.heap.size 34 i3 _ 8 80 Tryz.underlying22 hi hz0 hz1 hz2 rfl (by omega) v ps.length (pw ps) hs hr.own A qs.length c (pw qs) hx hA (pw_length _)
  hc (pw_one _) (by unfold maxLen; omega) (by omega) hext.size fun v' w' h2 h3 h4 => ?_
 have T : Turn (fun g => v.ownBlock = some g) w w' := Turn.grown h3 (fun g hg _ => hg)
 have hne : ∀ g cs, w.heap[g]? = some (.cells cs 3) → ¬ v.ownBlock = some g := fun g cs hg he => by
  obtain ⟨cur, hcur⟩ := own_obj hr.own g he
  exact ne_type hg hcur (by decide) rfl
 refine h v' w' ⟨by rw [pw_append, List.length_append]; exact h2, fun p hp => ?_⟩ h3 h4 (hext.grown h3 fun g hg => own_block hr.own g hg)
 rcases List.mem_append.1 hp with hp | hp
 ·exact (hr.kids p hp).turn T hne
 ·exact (hk p hp).turn T hne
end Go.Proofs.YthpmncdfaggkiaaGreat
