/- Cr: texts that the proof rests on, part 7. -/
import Derived.Test.YthpmncdfaggkiaaGreatCr1
import Derived.Test.YthpmncdfaggkiaaGreatCr2
import Derived.Test.YthpmncdfaggkiaaGreatCr3
import Derived.Test.YthpmncdfaggkiaaGreatCr5
import Derived.Test.YthpmncdfaggkiaaGreatCr6
import Derived.Lib.SlicesS
import Derived.Laws.StructEq
namespace Go.Proofs.YthpmncdfaggkiaaGreat
open Go.RowKit
attribute [local go_sem] more_drew more_drewN more_size more_cell more_frozen more_setCell drew_more drewN_more lt_add_r lt_add_r2 lt_add_r3 lt_add_r4 lt_add_r5 lt_add_r6 lt_add_r7 lt_add_r8 lt_add_r9 lt_add_r10 lt_self_r lt_self_r2
def tokV (p : Int) (q : Int × Int × Int × Int) : Value := .agg #[.int .i64 q.1, .int .i64 p, .int .i64 q.2.1, .int .i64 q.2.2.1, .int .i64 q.2.2.2]
def TokRet (w : World) (p : Nat) (q : Int × Int × Int × Int) (e : Ending) (w' : World) : Prop := e = .returned (tokV p q) ∧ Ext w w'
theorem put_tok {w : World} {b : Nat} {T : TypeId} {a0 a1 a2 a3 a4 : Value} (h : w.heap[b]? = some (.cells #[a0, a1, a2, a3, a4] T)) (v0 v2 v3 v4 : Value) : ((((w.setCell ⟨b, 0, none⟩ v0).setCell ⟨b, 2, none⟩ v2).setCell ⟨b, 3, none⟩ v3).setCell ⟨b, 4, none⟩ v4).heap[b]? = some (.cells #[v0, a1, v2, v3, v4] T) := setCell_row (setCell_row (setCell_row (setCell_row h _) _) _) _
set_option maxRecDepth 100000 in
set_option maxHeartbeats 4000000 in
theorem tok_next (nv rv kv : Value) (nl rl kl : List Int) (kinds : Int) (s : ByteArray) (p : Nat) (w : World) (hN : LexRd w nv rv kv nl rl kl) (hO : LexOk nl rl kl kinds) (hp : p ≤ s.size) (hs : s.size ≤ 1000000) :
 Calls Tryz.prog 113 #[lexV nv rv kv kinds, .string s, .int .i64 p] w (TokRet w p (nextF nl rl kl s p)) := by
 obtain ⟨g0, hg0⟩ : ∃ b, w.heap.size = b := ⟨_, rfl⟩
 obtain ⟨W, hW⟩ : ∃ W, ((w.alloc (.cells #[nv, rv, kv, .int .i64 kinds] 96)).alloc (.cells #[.int .i64 0, .int .i64 0, .int .i64 0, .int .i64 0, .int .i64 0] 116)).alloc (.cells #[.int .i64 0, .int .i64 0, .int .i64 0, .int .i64 0, .int .i64 0] 116) = W := ⟨_, rfl⟩
 have X1 : Ext w W := by rw [← hW]; exact (by repeat first | exact xr _ | refine xa ?_ _ | refine xm ?_ _ _ | refine xd ?_ | refine xn ?_ _ | refine xs ?_ (by simp <;> omega) _)
 have B1 : W.heap[g0]? = some (.cells #[nv, rv, kv, .int .i64 kinds] 96) := by rw [← hW, ← hg0]; exact (by simp only [heap_alloc_get, World.size_alloc]; (repeat (split; (first | rfl | (exfalso; omega)))); (try (first | (exfalso; omega) | simp_all)))
 have R1 : W.heap[g0 + 1]? = some (.cells #[.int .i64 0, .int .i64 0, .int .i64 0, .int .i64 0, .int .i64 0] 116) := by rw [← hW, ← hg0]; exact (by simp only [heap_alloc_get, World.size_alloc]; (repeat (split; (first | rfl | (exfalso; omega)))); (try (first | (exfalso; omega) | simp_all)))
 have T1 : W.heap[g0 + 2]? = some (.cells #[.int .i64 0, .int .i64 0, .int .i64 0, .int .i64 0, .int .i64 0] 116) := by rw [← hW, ← hg0]; exact (by simp only [heap_alloc_get, World.size_alloc]; (repeat (split; (first | rfl | (exfalso; omega)))); (try (first | (exfalso; omega) | simp_all)))
 obtain ⟨W1, hW1⟩ : ∃ W1, put5 W (g0 + 2) (.int .i64 0) (.int .i64 p) (.int .i64 0) (.int .i64 0) (.int .i64 0) = W1 := ⟨_, rfl⟩
 have HT1 : Hid (W1.heap[g0 + 2]? = some (.cells #[.int .i64 0, .int .i64 p, .int .i64 0, .int .i64 0, .int .i64 0] 116)) := zh (by rw [← hW1]; exact put5_at T1 _ _ _ _ _)
 have TT : Turn (fun k => k = g0 + 2) W W1 := by rw [← hW1]; exact put5_turn (S := fun k => k = g0 + 2) rfl _ _ _ _ _
 have HX1 : Hid (Ext w W1) := zh (TT.ext X1 (fun k hk => by omega))
 have HR1 : Hid (W1.heap[g0 + 1]? = some (.cells #[.int .i64 0, .int .i64 0, .int .i64 0, .int .i64 0, .int .i64 0] 116)) := zh (TT.keep R1 (by omega))
 have HB1 : Hid (W1.heap[g0]? = some (.cells #[nv, rv, kv, .int .i64 kinds] 96)) := zh (TT.keep B1 (by omega))
 have HN := zh hN
 have HO := zh hO
 have HG0 := zh hg0
 have r0 := cell_of_row _ _ 0 _ _ _ T1
 have r1 := cell_of_row _ _ 1 _ _ _ T1
 have r2 := cell_of_row _ _ 2 _ _ _ T1
 have r3 := cell_of_row _ _ 3 _ _ _ T1
 have r4 := cell_of_row _ _ 4 _ _ _ T1
 have ff := fun k => row_frozen T1 k
 simp at r0 r1 r2 r3 r4
 unfold put5 put4 put3 put2 at hW1
 have hz : (1 : Nat) + 1 = 2 := rfl
 clear hN hO X1 B1 R1 T1 TT
 unfold lexV
 go_enter Tryz.func113, Tryz.ntmps113
 go_wp2_with fail
 simp only [show g0 + 1 + 1 = g0 + 2 from rfl]
 clear r0 r1 r2 r3 r4 ff hW1 hW hg0 hz
 go_loopw [2] (fun av wr => ∃ (p' : Nat) (ext : Int), av = .int .i64 p' ∧ p' ≤ s.size ∧ 0 ≤ ext ∧ ext ≤ s.size + 1 ∧ Hid (nxt nl rl kl s (s.size + 1 - p') p' ext = nextF nl rl kl s p) ∧ Hid (wr.heap[g0 + 2]? = some (.cells #[.int .i64 0, .int .i64 p, .int .i64 0, .int .i64 0, .int .i64 ext] 116)) ∧
  Hid (wr.heap[g0 + 1]? = some (.cells #[.int .i64 0, .int .i64 0, .int .i64 0, .int .i64 0, .int .i64 0] 116)) ∧ Hid (wr.heap[g0]? = some (.cells #[nv, rv, kv, .int .i64 kinds] 96)) ∧ Hid (Ext w wr)) (fun a _ => s.size + 1 - (intOf a).toNat)
 case atStart => exact ⟨p, 0, rfl, hp, by omega, by omega, zh rfl, HT1, HR1, HB1, HX1⟩
 case round =>
  obtain ⟨p', ext, rfl, hp', hx0, hx1, hnx, ht, hr, hb, hx⟩ := hrel
  clear HT1 HR1 HB1 HX1
  have b0 := cell_of_row _ _ 0 _ _ _ hb.out
  have b1 := cell_of_row _ _ 1 _ _ _ hb.out
  have lb := lt_of_heap hb.out
  simp at b0 b1
  rcases Nat.lt_or_ge p' s.size with hlt | hge
  ·have HC := zh (next_at nv rv nl rl s p' wr (HN.out.ext hx.out).1 HO.out.dfa hlt hs)
   obtain ⟨m1, m2, m3, m4, m5, m6⟩ := munch_ok (s := s) (p := p') HO.out hlt
   have HST := zh (nxt_step (s := s) HO.out hlt ext (q := munch nl rl s p') rfl)
   obtain ⟨q, hq⟩ : ∃ q, munch nl rl s p' = q := ⟨_, rfl⟩
   rw [hq] at HC HST m1 m2 m3 m4 m5 m6
   obtain ⟨qr, qt, qe⟩ := q
   clear hq
   dsimp only at m1 m2 m3 m4 m5 m6
   go_wp2_with fail
   refine HC.out.mono ?_
   rintro e w2 ⟨rfl, hx2⟩
   dsimp only
   have ht2 := zh (ext_block ht.out hx2)
   have hr2 := zh (ext_block hr.out hx2)
   have hb2 := zh (ext_block hb.out hx2)
   have HX2 := zh (hx.out.trans hx2)
   clear b0 b1 lb hx2 HC
   obtain ⟨xb, hxb⟩ : ∃ xb, w2.heap.size = xb := ⟨_, rfl⟩
   obtain ⟨V3, hV3⟩ : ∃ V3, w2.alloc (.cells #[.int .i64 0, .int .i64 0, .int .i64 0, .int .i64 0] 216) = V3 := ⟨_, rfl⟩
   have D3 : V3.heap[xb]? = some (.cells #[.int .i64 0, .int .i64 0, .int .i64 0, .int .i64 0] 216) := by rw [← hV3, ← hxb]; exact heap_alloc_new _ _
   have X3 : Ext w2 V3 := by rw [← hV3]; exact (by repeat first | exact xr _ | refine xa ?_ _ | refine xm ?_ _ _ | refine xd ?_ | refine xn ?_ _ | refine xs ?_ (by simp <;> omega) _)
   obtain ⟨V4, hV4⟩ : ∃ V4, put4 V3 xb (.int .i64 qr) (.int .i64 p') (.int .i64 qt) (.int .i64 qe) = V4 := ⟨_, rfl⟩
   have hD4 : V4.heap[xb]? = some (.cells #[.int .i64 qr, .int .i64 p', .int .i64 qt, .int .i64 qe] 216) := by rw [← hV4]; exact put4_at D3 _ _ _ _
   have X4 : Ext w2 V4 := by rw [← hV4]; exact (put4_turn (S := fun k => k = xb) rfl _ _ _ _).ext X3 (fun k hk => by omega)
   have HD4 := zh hD4
   have HX4 := zh X4
   have HXB : Hid (w2.heap.size = xb) := zh hxb
   have o0 := cell_of_row _ _ 0 _ _ _ D3
   have o1 := cell_of_row _ _ 1 _ _ _ D3
   have o2 := cell_of_row _ _ 2 _ _ _ D3
   have o3 := cell_of_row _ _ 3 _ _ _ D3
   have fo := fun k => row_frozen D3 k
   simp at o0 o1 o2 o3
   unfold put4 put3 put2 at hV4
   clear hD4 X4 X3 D3
   have ht4 := ext_block ht2.out HX4.out
   have b4 := cell_of_row _ _ 4 _ _ _ ht4
   have fb := fun k => row_frozen ht4 k
   have lt4 := lt_of_heap ht4
   have x0 := cell_of_row _ _ 0 _ _ _ HD4.out
   have x3 := cell_of_row _ _ 3 _ _ _ HD4.out
   have lx := lt_of_heap HD4.out
   simp at b4 x0 x3
   obtain ⟨e1, he1⟩ : ∃ e1, max ext qe = e1 := ⟨_, rfl⟩
   have hmx : (if ext < qe then qe else ext) = e1 := by rw [← he1]; simp only [Int.max_def]; split <;> split <;> omega
   have he1b : 0 ≤ e1 ∧ e1 ≤ s.size + 1 := by omega
   have D5 := setCell_row (k := 4) ht4 (.int .i64 e1)
   have T5 : Turn (fun k => k = g0 + 2) V4 (V4.setCell ⟨g0 + 2, 4, none⟩ (.int .i64 e1)) := Turn.set1 _ _ _
   obtain ⟨V5, hV5⟩ : ∃ V5, V4.setCell ⟨g0 + 2, 4, none⟩ (.int .i64 e1) = V5 := ⟨_, rfl⟩
   rw [hV5] at D5 T5
   have HT5 : Hid (V5.heap[g0 + 2]? = some (.cells #[.int .i64 0, .int .i64 p, .int .i64 0, .int .i64 0, .int .i64 e1] 116)) := zh D5
   have HR5 := zh (T5.keep (ext_block hr2.out HX4.out) (by omega))
   have HB5 := zh (T5.keep (ext_block hb2.out HX4.out) (by omega))
   have HL5 := zh (T5.keep HD4.out (by have := lt_of_heap ht2.out; have := HXB.out; omega))
   have HX5 := zh (T5.ext (HX2.out.trans HX4.out) (fun k hk => by have := HG0.out; omega))
   have HE1 := zh he1
   clear D5 T5 ht4 he1
   go_upto_region 7 with fail
   clear hV3 hV4 hV5 o0 o1 o2 o3 fo fb b4 x0 x3 lx lt4 hmx hxb ht2 hr2 hb2 ht hr hb hx HX2 HX4 HD4
   have x0 := cell_of_row _ _ 0 _ _ _ HL5.out
   have x2 := cell_of_row _ _ 2 _ _ _ HL5.out
   have lx := lt_of_heap HL5.out
   have b2 := cell_of_row _ _ 2 _ _ _ HB5.out
   have lb := lt_of_heap HB5.out
   simp at x0 x2 b2
   by_cases h0 : qr < 0
   ·obtain ⟨Vd, hVd⟩ : ∃ Vd, V5.drew = Vd := ⟨_, rfl⟩
    have XD : Ext V5 Vd := by rw [← hVd]; exact (by repeat first | exact xr _ | refine xa ?_ _ | refine xm ?_ _ _ | refine xd ?_ | refine xn ?_ _ | refine xs ?_ (by simp <;> omega) _)
    have TD := ext_block HT5.out XD
    have LD := ext_block HL5.out XD
    have HBD := zh (ext_block HB5.out XD)
    have HRD := zh (ext_block HR5.out XD)
    have HXD := zh (HX5.out.trans XD)
    have hgx : g0 + 2 ≠ xb := ne_type HT5.out HL5.out (by decide)
    have T6 := setCell_row (k := 0) TD (.int .i64 (-1))
    have T7 := setCell_row (k := 2) T6 (.int .i64 p')
    have T8 := setCell_row (k := 3) T7 (.int .i64 qt)
    have L6 := setCell_row_other LD hgx (k := 0) (.int .i64 (-1))
    have L7 := setCell_row_other L6 hgx (k := 2) (.int .i64 p')
    have L8 := setCell_row_other L7 hgx (k := 3) (.int .i64 qt)
    have U8 : Turn (fun k => k = g0 + 2) Vd (((Vd.setCell ⟨g0 + 2, 0, none⟩ (.int .i64 (-1))).setCell ⟨g0 + 2, 2, none⟩ (.int .i64 p')).setCell ⟨g0 + 2, 3, none⟩ (.int .i64 qt)) := ((Turn.set1 _ _ _).trans (Turn.set1 _ _ _)).trans (Turn.set1 _ _ _)
    obtain ⟨V6, hV6⟩ : ∃ V6, Vd.setCell ⟨g0 + 2, 0, none⟩ (.int .i64 (-1)) = V6 := ⟨_, rfl⟩
    rw [hV6] at T6 T7 T8 L6 L7 L8 U8
    obtain ⟨V7, hV7⟩ : ∃ V7, V6.setCell ⟨g0 + 2, 2, none⟩ (.int .i64 p') = V7 := ⟨_, rfl⟩
    rw [hV7] at T7 T8 L7 L8 U8
    obtain ⟨V8, hV8⟩ : ∃ V8, V7.setCell ⟨g0 + 2, 3, none⟩ (.int .i64 qt) = V8 := ⟨_, rfl⟩
    rw [hV8] at T8 L8 U8
    have HT6 : Hid (V6.heap[g0 + 2]? = some (.cells #[.int .i64 (-1), .int .i64 p, .int .i64 0, .int .i64 0, .int .i64 e1] 116)) := zh T6
    have HT7 : Hid (V7.heap[g0 + 2]? = some (.cells #[.int .i64 (-1), .int .i64 p, .int .i64 p', .int .i64 0, .int .i64 e1] 116)) := zh T7
    have HT8 : Hid (V8.heap[g0 + 2]? = some (.cells #[.int .i64 (-1), .int .i64 p, .int .i64 p', .int .i64 qt, .int .i64 e1] 116)) := zh T8
    have HL8 := zh L8
    have HB8 := zh (U8.keep HBD.out (by omega))
    have HR8 := zh (U8.keep HRD.out (by omega))
    have HX8 := zh (U8.ext HXD.out (fun k hk => by have := HG0.out; omega))
    have HS6 : Hid (∀ k ∈ [xb], V6.heap[k]? = V5.heap[k]?) := zh (fun k hk => by obtain rfl := List.mem_singleton.1 hk; exact L6.trans HL5.out.symm)
    have HS7 : Hid (∀ k ∈ [xb], V7.heap[k]? = V5.heap[k]?) := zh (fun k hk => by obtain rfl := List.mem_singleton.1 hk; exact L7.trans HL5.out.symm)
    have t0 := cell_of_row _ _ 0 _ _ _ TD
    have t2 := cell_of_row _ _ 2 _ _ _ T6
    have t3 := cell_of_row _ _ 3 _ _ _ T7
    have f0 := row_frozen TD 0
    have f2 := row_frozen T6 2
    have f3 := row_frozen T7 3
    have w1 := cell_of_row _ _ 1 _ _ _ HL5.out
    have w2' := cell_of_row _ _ 2 _ _ _ HL5.out
    simp at t0 t2 t3 w1 w2'
    clear XD TD LD T6 T7 T8 L6 L7 L8 U8
    go_upto_region 8 with fail
    have kx0 : ∀ x : EdL V5 [xb], x.V.cell? ⟨xb, 1, none⟩ = some (.int .i64 p') := fun x => x.cell (by simp) w1
    have kx1 : ∀ x : EdL V5 [xb], x.V.cell? ⟨xb, 2, none⟩ = some (.int .i64 qt) := fun x => x.cell (by simp) w2'
    have kx2 : ∀ x : EdL V5 [xb], xb < x.V.heap.size := fun x => x.lt (by simp) lx
    refine wp_region_btC (T := EdL V5 [xb]) EdL.V (9) (pures_bt [0, 2, 4] (softs_bt [1, 3] (.step 5 (pures_bt [6] (.step 7 (pures_bt [8] (.step 9 .fin))))))) (by kernel_rfl) (by kernel_rfl) ⟨⟨V5.drew, fun _ _ => rfl⟩, rfl⟩ ?_
    refine bt_pures _ fun K hK => ?_; simp only [pick, nthC]; (repeat go_big_quiet_step (fail)); refine wpQuiet_nil (hK _ ?_); clear hK K
    refine bt_softs _ fun K hK => ?_; simp only [pick, nthC]; (repeat go_big_quiet_step (fail)); refine wpQuiet_nil (hK _ ?_); clear hK K
    clear kx0 kx1 kx2 w1 w2' x0 x2 b2
    simp only [hVd]
    clear hVd
    refine bt_step fun next hn => ?_; simp only [pick, nthC]
    go_wp2_with fail
    refine segQ_mk (fun _ => ⟨⟨V6, HS6.out⟩, rfl⟩) (hn _ _ ?_)
    clear hn next hV6 t0 f0
    refine bt_pures _ fun K hK => ?_; simp only [pick, nthC]; (repeat go_big_quiet_step (fail)); refine wpQuiet_nil (hK _ ?_); clear hK K
    refine bt_step fun next hn => ?_; simp only [pick, nthC]
    go_wp2_with fail
    refine segQ_mk (fun _ => ⟨⟨V7, HS7.out⟩, rfl⟩) (hn _ _ ?_)
    clear hn next hV7 t2 f2
    refine bt_pures _ fun K hK => ?_; simp only [pick, nthC]; (repeat go_big_quiet_step (fail)); refine wpQuiet_nil (hK _ ?_); clear hK K
    refine bt_step fun next hn => ?_; simp only [pick, nthC]
    go_wp2_with fail
    refine segQ_mk (fun h => absurd rfl h) (hn _ _ ?_)
    clear hn next hV8 t3 f3
    (refine bt_fin ?_)
    have x0 := cell_of_row _ _ 0 _ _ _ HL8.out
    have lx8 := lt_of_heap HL8.out
    simp at x0
    go_upto_region 11 with fail
    clear x0
    obtain ⟨eN, he2⟩ : ∃ eN, max e1 (qt + 1) = eN := ⟨_, rfl⟩
    have hmx : (if e1 < qt + 1 then qt + 1 else e1) = eN := by rw [← he2]; simp only [Int.max_def]; split <;> split <;> omega
    have t3 := cell_of_row _ _ 3 _ _ _ HT8.out
    have t4 := cell_of_row _ _ 4 _ _ _ HT8.out
    have f4 := row_frozen HT8.out 4
    have lt9 := lt_of_heap HT8.out
    simp at t3 t4
    have TA := setCell_row (k := 4) HT8.out (.int .i64 eN)
    have UA : Turn (fun k => k = g0 + 2) V8 (V8.setCell ⟨g0 + 2, 4, none⟩ (.int .i64 eN)) := Turn.set1 _ _ _
    obtain ⟨VA, hVA⟩ : ∃ VA, V8.setCell ⟨g0 + 2, 4, none⟩ (.int .i64 eN) = VA := ⟨_, rfl⟩
    rw [hVA] at TA UA
    have HTA : Hid (VA.heap[g0 + 2]? = some (.cells #[.int .i64 (-1), .int .i64 p, .int .i64 p', .int .i64 qt, .int .i64 eN] 116)) := zh TA
    have HRA := zh (UA.keep HR8.out (by omega))
    have HXA := zh (UA.ext HX8.out (fun k hk => by have := HG0.out; omega))
    have HQ : Hid (nextF nl rl kl s p = ((-1), (p' : Int), qt, eN)) := zh (by
     have hs' := HST.out
     try dsimp only at hs'
     rw [if_pos h0, HE1.out, he2] at hs'
     rw [← hnx.out, hs'])
    clear TA UA he2
    go_upto_region 12 with fail
    clear hVA t3 t4 f4 hmx
    have P9 := put5_at HRA.out (.int .i64 ((-1))) (.int .i64 p) (.int .i64 p') (.int .i64 qt) (.int .i64 eN)
    obtain ⟨W9, hW9⟩ : ∃ W9, put5 VA (g0 + 1) (.int .i64 ((-1))) (.int .i64 p) (.int .i64 p') (.int .i64 qt) (.int .i64 eN) = W9 := ⟨_, rfl⟩
    have HX9 : Hid (Ext w W9) := zh (by rw [← hW9]; exact (put5_turn (S := fun k => k = g0 + 1) rfl _ _ _ _ _).ext HXA.out (fun k hk => by have := HG0.out; omega))
    rw [hW9] at P9
    have a0 := cell_of_row _ _ 0 _ _ _ HTA.out
    have a1 := cell_of_row _ _ 1 _ _ _ HTA.out
    have a2 := cell_of_row _ _ 2 _ _ _ HTA.out
    have a3 := cell_of_row _ _ 3 _ _ _ HTA.out
    have a4 := cell_of_row _ _ 4 _ _ _ HTA.out
    have la := lt_of_heap HTA.out
    have r0 := cell_of_row _ _ 0 _ _ _ HRA.out
    have r1 := cell_of_row _ _ 1 _ _ _ HRA.out
    have r2 := cell_of_row _ _ 2 _ _ _ HRA.out
    have r3 := cell_of_row _ _ 3 _ _ _ HRA.out
    have r4 := cell_of_row _ _ 4 _ _ _ HRA.out
    have ff := fun k => row_frozen HRA.out k
    have lr := lt_of_heap HRA.out
    have e0 := cell_of_row _ _ 0 _ _ _ P9
    have e1 := cell_of_row _ _ 1 _ _ _ P9
    have e2 := cell_of_row _ _ 2 _ _ _ P9
    have e3 := cell_of_row _ _ 3 _ _ _ P9
    have e4 := cell_of_row _ _ 4 _ _ _ P9
    simp at a0 a1 a2 a3 a4 r0 r1 r2 r3 r4 e0 e1 e2 e3 e4
    unfold put5 put4 put3 put2 at hW9
    clear P9
    go_wp2_with fail
    exact bodyPost_ret (v := .agg #[.int .i64 ((-1)), .int .i64 p, .int .i64 p', .int .i64 qt, .int .i64 eN]) (by simp [results, Tryz.results113, go_sem, *]) rfl ⟨by rw [HQ.out]; rfl, HX9.out⟩
   ·obtain ⟨qn, rfl⟩ : ∃ qn : Nat, qr = (qn : Int) := ⟨qr.toNat, by omega⟩
    have hqn : qn < kl.length := by omega
    obtain ⟨K, kc, hkv, hK⟩ := (HN.out.ext HX5.out).2
    obtain ⟨gk, ok, rfl, lk, hkc⟩ := hK (by omega)
    have k0 := hkc qn hqn
    obtain ⟨kd, hkd⟩ : ∃ kd, kl.getD qn 0 = kd := ⟨_, rfl⟩
    rw [hkd] at k0
    rw [hkv] at b2
    obtain ⟨kn, hkn⟩ : ∃ kn, kl.length = kn := ⟨_, rfl⟩
    rw [hkn] at b2
    have hqk : qn < kn := by omega
    have HKN := zh hkn
    have HKD := zh hkd
    clear hK hkc hkd hkv hkn
    by_cases h1 : 0 ≤ kd
    ·have d1 : decide (0 ≤ kd) = true := decide_eq_true h1
     go_upto_region 8 with fail
     obtain ⟨Vd, hVd⟩ : ∃ Vd, V5.drew = Vd := ⟨_, rfl⟩
     have XD : Ext V5 Vd := by rw [← hVd]; exact (by repeat first | exact xr _ | refine xa ?_ _ | refine xm ?_ _ _ | refine xd ?_ | refine xn ?_ _ | refine xs ?_ (by simp <;> omega) _)
     have TD := ext_block HT5.out XD
     have LD := ext_block HL5.out XD
     have HBD := zh (ext_block HB5.out XD)
     have HRD := zh (ext_block HR5.out XD)
     have HXD := zh (HX5.out.trans XD)
     have hgx : g0 + 2 ≠ xb := ne_type HT5.out HL5.out (by decide)
     have T6 := setCell_row (k := 0) TD (.int .i64 (-1))
     have T7 := setCell_row (k := 2) T6 (.int .i64 p')
     have T8 := setCell_row (k := 3) T7 (.int .i64 qt)
     have L6 := setCell_row_other LD hgx (k := 0) (.int .i64 (-1))
     have L7 := setCell_row_other L6 hgx (k := 2) (.int .i64 p')
     have L8 := setCell_row_other L7 hgx (k := 3) (.int .i64 qt)
     have U8 : Turn (fun k => k = g0 + 2) Vd (((Vd.setCell ⟨g0 + 2, 0, none⟩ (.int .i64 (-1))).setCell ⟨g0 + 2, 2, none⟩ (.int .i64 p')).setCell ⟨g0 + 2, 3, none⟩ (.int .i64 qt)) := ((Turn.set1 _ _ _).trans (Turn.set1 _ _ _)).trans (Turn.set1 _ _ _)
     obtain ⟨V6, hV6⟩ : ∃ V6, Vd.setCell ⟨g0 + 2, 0, none⟩ (.int .i64 (-1)) = V6 := ⟨_, rfl⟩
     rw [hV6] at T6 T7 T8 L6 L7 L8 U8
     obtain ⟨V7, hV7⟩ : ∃ V7, V6.setCell ⟨g0 + 2, 2, none⟩ (.int .i64 p') = V7 := ⟨_, rfl⟩
     rw [hV7] at T7 T8 L7 L8 U8
     obtain ⟨V8, hV8⟩ : ∃ V8, V7.setCell ⟨g0 + 2, 3, none⟩ (.int .i64 qt) = V8 := ⟨_, rfl⟩
     rw [hV8] at T8 L8 U8
     have HT6 : Hid (V6.heap[g0 + 2]? = some (.cells #[.int .i64 (-1), .int .i64 p, .int .i64 0, .int .i64 0, .int .i64 e1] 116)) := zh T6
     have HT7 : Hid (V7.heap[g0 + 2]? = some (.cells #[.int .i64 (-1), .int .i64 p, .int .i64 p', .int .i64 0, .int .i64 e1] 116)) := zh T7
     have HT8 : Hid (V8.heap[g0 + 2]? = some (.cells #[.int .i64 (-1), .int .i64 p, .int .i64 p', .int .i64 qt, .int .i64 e1] 116)) := zh T8
     have HL8 := zh L8
     have HB8 := zh (U8.keep HBD.out (by omega))
     have HR8 := zh (U8.keep HRD.out (by omega))
     have HX8 := zh (U8.ext HXD.out (fun k hk => by have := HG0.out; omega))
     have HS6 : Hid (∀ k ∈ [xb], V6.heap[k]? = V5.heap[k]?) := zh (fun k hk => by obtain rfl := List.mem_singleton.1 hk; exact L6.trans HL5.out.symm)
     have HS7 : Hid (∀ k ∈ [xb], V7.heap[k]? = V5.heap[k]?) := zh (fun k hk => by obtain rfl := List.mem_singleton.1 hk; exact L7.trans HL5.out.symm)
     have t0 := cell_of_row _ _ 0 _ _ _ TD
     have t2 := cell_of_row _ _ 2 _ _ _ T6
     have t3 := cell_of_row _ _ 3 _ _ _ T7
     have f0 := row_frozen TD 0
     have f2 := row_frozen T6 2
     have f3 := row_frozen T7 3
     have w1 := cell_of_row _ _ 1 _ _ _ HL5.out
     have w2' := cell_of_row _ _ 2 _ _ _ HL5.out
     simp at t0 t2 t3 w1 w2'
     clear XD TD LD T6 T7 T8 L6 L7 L8 U8
     have kx0 : ∀ x : EdL V5 [xb], x.V.cell? ⟨xb, 1, none⟩ = some (.int .i64 p') := fun x => x.cell (by simp) w1
     have kx1 : ∀ x : EdL V5 [xb], x.V.cell? ⟨xb, 2, none⟩ = some (.int .i64 qt) := fun x => x.cell (by simp) w2'
     have kx2 : ∀ x : EdL V5 [xb], xb < x.V.heap.size := fun x => x.lt (by simp) lx
     refine wp_region_btC (T := EdL V5 [xb]) EdL.V (9) (pures_bt [0, 2, 4] (softs_bt [1, 3] (.step 5 (pures_bt [6] (.step 7 (pures_bt [8] (.step 9 .fin))))))) (by kernel_rfl) (by kernel_rfl) ⟨⟨V5.drew, fun _ _ => rfl⟩, rfl⟩ ?_
     refine bt_pures _ fun K hK => ?_; simp only [pick, nthC]; (repeat go_big_quiet_step (fail)); refine wpQuiet_nil (hK _ ?_); clear hK K
     refine bt_softs _ fun K hK => ?_; simp only [pick, nthC]; (repeat go_big_quiet_step (fail)); refine wpQuiet_nil (hK _ ?_); clear hK K
     clear kx0 kx1 kx2 w1 w2' x0 x2 b2
     simp only [hVd]
     clear hVd
     refine bt_step fun next hn => ?_; simp only [pick, nthC]
     go_wp2_with fail
     refine segQ_mk (fun _ => ⟨⟨V6, HS6.out⟩, rfl⟩) (hn _ _ ?_)
     clear hn next hV6 t0 f0
     refine bt_pures _ fun K hK => ?_; simp only [pick, nthC]; (repeat go_big_quiet_step (fail)); refine wpQuiet_nil (hK _ ?_); clear hK K
     refine bt_step fun next hn => ?_; simp only [pick, nthC]
     go_wp2_with fail
     refine segQ_mk (fun _ => ⟨⟨V7, HS7.out⟩, rfl⟩) (hn _ _ ?_)
     clear hn next hV7 t2 f2
     refine bt_pures _ fun K hK => ?_; simp only [pick, nthC]; (repeat go_big_quiet_step (fail)); refine wpQuiet_nil (hK _ ?_); clear hK K
     refine bt_step fun next hn => ?_; simp only [pick, nthC]
     go_wp2_with fail
     refine segQ_mk (fun h => absurd rfl h) (hn _ _ ?_)
     clear hn next hV8 t3 f3
     (refine bt_fin ?_)
     have x0 := cell_of_row _ _ 0 _ _ _ HL8.out
     have lx8 := lt_of_heap HL8.out
     simp at x0
     have b2 := cell_of_row _ _ 2 _ _ _ HB8.out
     have lb8 := lt_of_heap HB8.out
     simp at b2
     obtain ⟨K, kc, hkv, hK⟩ := (HN.out.ext HX8.out).2
     obtain ⟨gk, ok, rfl, lk, hkc⟩ := hK (by omega)
     have k0 := hkc qn hqn
     rw [HKD.out] at k0
     rw [hkv, HKN.out] at b2
     have t0 := cell_of_row _ _ 0 _ _ _ HT8.out
     have f0 := row_frozen HT8.out 0
     have lt8 := lt_of_heap HT8.out
     simp at t0
     have T9 := setCell_row (k := 0) HT8.out (.int .i64 kd)
     have U9 : Turn (fun k => k = g0 + 2) V8 (V8.setCell ⟨g0 + 2, 0, none⟩ (.int .i64 kd)) := Turn.set1 _ _ _
     obtain ⟨V9, hV9⟩ : ∃ V9, V8.setCell ⟨g0 + 2, 0, none⟩ (.int .i64 kd) = V9 := ⟨_, rfl⟩
     rw [hV9] at T9 U9
     have HT9 : Hid (V9.heap[g0 + 2]? = some (.cells #[.int .i64 kd, .int .i64 p, .int .i64 p', .int .i64 qt, .int .i64 e1] 116)) := zh T9
     have HR9 := zh (U9.keep HR8.out (by omega))
     have HX9' := zh (U9.ext HX8.out (fun k hk => by have := HG0.out; omega))
     clear T9 U9 hK hkc hkv
     go_upto_region 11 with fail
     clear hV9 t0 f0 k0 b2 x0
     obtain ⟨eN, he2⟩ : ∃ eN, max e1 (qt + 1) = eN := ⟨_, rfl⟩
     have hmx : (if e1 < qt + 1 then qt + 1 else e1) = eN := by rw [← he2]; simp only [Int.max_def]; split <;> split <;> omega
     have t3 := cell_of_row _ _ 3 _ _ _ HT9.out
     have t4 := cell_of_row _ _ 4 _ _ _ HT9.out
     have f4 := row_frozen HT9.out 4
     have lt9 := lt_of_heap HT9.out
     simp at t3 t4
     have TA := setCell_row (k := 4) HT9.out (.int .i64 eN)
     have UA : Turn (fun k => k = g0 + 2) V9 (V9.setCell ⟨g0 + 2, 4, none⟩ (.int .i64 eN)) := Turn.set1 _ _ _
     obtain ⟨VA, hVA⟩ : ∃ VA, V9.setCell ⟨g0 + 2, 4, none⟩ (.int .i64 eN) = VA := ⟨_, rfl⟩
     rw [hVA] at TA UA
     have HTA : Hid (VA.heap[g0 + 2]? = some (.cells #[.int .i64 kd, .int .i64 p, .int .i64 p', .int .i64 qt, .int .i64 eN] 116)) := zh TA
     have HRA := zh (UA.keep HR9.out (by omega))
     have HXA := zh (UA.ext HX9'.out (fun k hk => by have := HG0.out; omega))
     have HQ : Hid (nextF nl rl kl s p = (kd, (p' : Int), qt, eN)) := zh (by
      have hs' := HST.out
      try dsimp only at hs'
      rw [if_neg (by omega), Int.toNat_natCast, HKD.out, if_pos h1, HE1.out, he2] at hs'
      rw [← hnx.out, hs'])
     clear TA UA he2
     go_upto_region 12 with fail
     clear hVA t3 t4 f4 hmx
     have P9 := put5_at HRA.out (.int .i64 (kd)) (.int .i64 p) (.int .i64 p') (.int .i64 qt) (.int .i64 eN)
     obtain ⟨W9, hW9⟩ : ∃ W9, put5 VA (g0 + 1) (.int .i64 (kd)) (.int .i64 p) (.int .i64 p') (.int .i64 qt) (.int .i64 eN) = W9 := ⟨_, rfl⟩
     have HX9 : Hid (Ext w W9) := zh (by rw [← hW9]; exact (put5_turn (S := fun k => k = g0 + 1) rfl _ _ _ _ _).ext HXA.out (fun k hk => by have := HG0.out; omega))
     rw [hW9] at P9
     have a0 := cell_of_row _ _ 0 _ _ _ HTA.out
     have a1 := cell_of_row _ _ 1 _ _ _ HTA.out
     have a2 := cell_of_row _ _ 2 _ _ _ HTA.out
     have a3 := cell_of_row _ _ 3 _ _ _ HTA.out
     have a4 := cell_of_row _ _ 4 _ _ _ HTA.out
     have la := lt_of_heap HTA.out
     have r0 := cell_of_row _ _ 0 _ _ _ HRA.out
     have r1 := cell_of_row _ _ 1 _ _ _ HRA.out
     have r2 := cell_of_row _ _ 2 _ _ _ HRA.out
     have r3 := cell_of_row _ _ 3 _ _ _ HRA.out
     have r4 := cell_of_row _ _ 4 _ _ _ HRA.out
     have ff := fun k => row_frozen HRA.out k
     have lr := lt_of_heap HRA.out
     have e0 := cell_of_row _ _ 0 _ _ _ P9
     have e1 := cell_of_row _ _ 1 _ _ _ P9
     have e2 := cell_of_row _ _ 2 _ _ _ P9
     have e3 := cell_of_row _ _ 3 _ _ _ P9
     have e4 := cell_of_row _ _ 4 _ _ _ P9
     simp at a0 a1 a2 a3 a4 r0 r1 r2 r3 r4 e0 e1 e2 e3 e4
     unfold put5 put4 put3 put2 at hW9
     clear P9
     go_wp2_with fail
     exact bodyPost_ret (v := .agg #[.int .i64 (kd), .int .i64 p, .int .i64 p', .int .i64 qt, .int .i64 eN]) (by simp [results, Tryz.results113, go_sem, *]) rfl ⟨by rw [HQ.out]; rfl, HX9.out⟩
    ·have hs' := HST.out
     try dsimp only at hs'
     rw [if_neg (by omega), Int.toNat_natCast, HKD.out, if_neg h1, HE1.out] at hs'
     obtain ⟨qtn, rfl⟩ : ∃ qtn : Nat, qt = (qtn : Int) := ⟨qt.toNat, by omega⟩
     rw [Int.toNat_natCast] at hs'
     have HSS := zh hs'
     clear hs'
     go_wp2_with fail
     go_roundw
     case rel => exact ⟨qtn, e1, rfl, by omega, he1b.1, he1b.2, zh (by rw [← hnx.out, HSS.out]), HT5, HR5, HB5, HX5⟩
     case measure => simp [intOf]; omega
  ·have hpe : p' = s.size := by omega
   have HC := zh (next_end nv rv nl rl s wr (HN.out.ext hx.out).1 HO.out.dfa)
   have HQ : Hid (nextF nl rl kl s p = ((-2 : Int), (s.size : Int), (s.size : Int), (s.size : Int) + 1)) := zh (by rw [← hnx.out, hpe, nxt_end])
   rw [hpe]
   go_wp2_with fail
   refine HC.out.mono ?_
   rintro e w2 ⟨rfl, hx2⟩
   have ht2 := zh (ext_block ht.out hx2)
   have hr2 := zh (ext_block hr.out hx2)
   have HX2 := zh (hx.out.trans hx2)
   clear b0 b1 lb hx2 HC
   obtain ⟨xb, hxb⟩ : ∃ xb, w2.heap.size = xb := ⟨_, rfl⟩
   obtain ⟨V3, hV3⟩ : ∃ V3, w2.alloc (.cells #[.int .i64 0, .int .i64 0, .int .i64 0, .int .i64 0] 216) = V3 := ⟨_, rfl⟩
   have D3 : V3.heap[xb]? = some (.cells #[.int .i64 0, .int .i64 0, .int .i64 0, .int .i64 0] 216) := by rw [← hV3, ← hxb]; exact heap_alloc_new _ _
   have X3 : Ext w2 V3 := by rw [← hV3]; exact (by repeat first | exact xr _ | refine xa ?_ _ | refine xm ?_ _ _ | refine xd ?_ | refine xn ?_ _ | refine xs ?_ (by simp <;> omega) _)
   obtain ⟨V4, hV4⟩ : ∃ V4, put4 V3 xb (.int .i64 0) (.int .i64 0) (.int .i64 0) (.int .i64 0) = V4 := ⟨_, rfl⟩
   have hD4 : V4.heap[xb]? = some (.cells #[.int .i64 0, .int .i64 0, .int .i64 0, .int .i64 0] 216) := by rw [← hV4]; exact put4_at D3 _ _ _ _
   have X4 : Ext w2 V4 := by rw [← hV4]; exact (put4_turn (S := fun k => k = xb) rfl _ _ _ _).ext X3 (fun k hk => by omega)
   have HD4 := zh hD4
   have HX4 := zh X4
   have HXB : Hid (w2.heap.size = xb) := zh hxb
   have o0 := cell_of_row _ _ 0 _ _ _ D3
   have o1 := cell_of_row _ _ 1 _ _ _ D3
   have o2 := cell_of_row _ _ 2 _ _ _ D3
   have o3 := cell_of_row _ _ 3 _ _ _ D3
   have fo := fun k => row_frozen D3 k
   simp at o0 o1 o2 o3
   unfold put4 put3 put2 at hV4
   clear hD4 X4 X3 D3
   have ht4 := ext_block ht2.out HX4.out
   have hr4 := ext_block hr2.out HX4.out
   have b0 := cell_of_row _ _ 0 _ _ _ ht4
   have b2 := cell_of_row _ _ 2 _ _ _ ht4
   have b3 := cell_of_row _ _ 3 _ _ _ ht4
   have b4 := cell_of_row _ _ 4 _ _ _ ht4
   have fb := fun k => row_frozen ht4 k
   simp at b0 b2 b3 b4
   have D5 := put_tok ht4 (.int .i64 (-2)) (.int .i64 s.size) (.int .i64 s.size) (.int .i64 ((s.size : Int) + 1))
   have X5 : Ext w ((((V4.setCell ⟨g0 + 2, 0, none⟩ (.int .i64 (-2))).setCell ⟨g0 + 2, 2, none⟩ (.int .i64 s.size)).setCell ⟨g0 + 2, 3, none⟩ (.int .i64 s.size)).setCell ⟨g0 + 2, 4, none⟩ (.int .i64 ((s.size : Int) + 1))) :=
    ((((HX2.out.trans HX4.out).setCell (p := ⟨g0 + 2, 0, none⟩) (by show _ ≤ g0 + 2; have := HG0.out; omega) _).setCell (p := ⟨g0 + 2, 2, none⟩) (by show _ ≤ g0 + 2; have := HG0.out; omega) _).setCell (p := ⟨g0 + 2, 3, none⟩) (by show _ ≤ g0 + 2; have := HG0.out; omega) _).setCell (p := ⟨g0 + 2, 4, none⟩) (by show _ ≤ g0 + 2; have := HG0.out; omega) _
   have R5 := setCell_row_other (setCell_row_other (setCell_row_other (setCell_row_other hr4 (show g0 + 2 ≠ g0 + 1 by omega) (k := 0) (.int .i64 (-2))) (show g0 + 2 ≠ g0 + 1 by omega) (k := 2) (.int .i64 s.size)) (show g0 + 2 ≠ g0 + 1 by omega) (k := 3) (.int .i64 s.size)) (show g0 + 2 ≠ g0 + 1 by omega) (k := 4) (.int .i64 ((s.size : Int) + 1))
   obtain ⟨V5, hV5⟩ : ∃ V5, ((((V4.setCell ⟨g0 + 2, 0, none⟩ (.int .i64 (-2))).setCell ⟨g0 + 2, 2, none⟩ (.int .i64 s.size)).setCell ⟨g0 + 2, 3, none⟩ (.int .i64 s.size)).setCell ⟨g0 + 2, 4, none⟩ (.int .i64 ((s.size : Int) + 1))) = V5 := ⟨_, rfl⟩
   rw [hV5] at D5 X5 R5
   have HD5 := zh D5
   have HX5 := zh X5
   have HR5 := zh R5
   clear D5 X5 R5 ht4 hr4
   go_upto_region 5 with fail
   clear hV3 hV4 hV5 o0 o1 o2 o3 fo b0 b2 b3 b4 fb hxb
   have P9 := put5_at HR5.out (.int .i64 (-2)) (.int .i64 p) (.int .i64 s.size) (.int .i64 s.size) (.int .i64 ((s.size : Int) + 1))
   obtain ⟨W9, hW9⟩ : ∃ W9, put5 V5 (g0 + 1) (.int .i64 (-2)) (.int .i64 p) (.int .i64 s.size) (.int .i64 s.size) (.int .i64 ((s.size : Int) + 1)) = W9 := ⟨_, rfl⟩
   have HX9 : Hid (Ext w W9) := zh (by rw [← hW9]; exact (put5_turn (S := fun k => k = g0 + 1) rfl _ _ _ _ _).ext HX5.out (fun k hk => by have := HG0.out; omega))
   rw [hW9] at P9
   have a0 := cell_of_row _ _ 0 _ _ _ HD5.out
   have a1 := cell_of_row _ _ 1 _ _ _ HD5.out
   have a2 := cell_of_row _ _ 2 _ _ _ HD5.out
   have a3 := cell_of_row _ _ 3 _ _ _ HD5.out
   have a4 := cell_of_row _ _ 4 _ _ _ HD5.out
   have la := lt_of_heap HD5.out
   have r0 := cell_of_row _ _ 0 _ _ _ HR5.out
   have r1 := cell_of_row _ _ 1 _ _ _ HR5.out
   have r2 := cell_of_row _ _ 2 _ _ _ HR5.out
   have r3 := cell_of_row _ _ 3 _ _ _ HR5.out
   have r4 := cell_of_row _ _ 4 _ _ _ HR5.out
   have ff := fun k => row_frozen HR5.out k
   have lr := lt_of_heap HR5.out
   have e0 := cell_of_row _ _ 0 _ _ _ P9
   have e1 := cell_of_row _ _ 1 _ _ _ P9
   have e2 := cell_of_row _ _ 2 _ _ _ P9
   have e3 := cell_of_row _ _ 3 _ _ _ P9
   have e4 := cell_of_row _ _ 4 _ _ _ P9
   simp at a0 a1 a2 a3 a4 r0 r1 r2 r3 r4 e0 e1 e2 e3 e4
   unfold put5 put4 put3 put2 at hW9
   clear P9
   go_wp2_with fail
   exact bodyPost_ret (v := .agg #[.int .i64 (-2), .int .i64 p, .int .i64 s.size, .int .i64 s.size, .int .i64 ((s.size : Int) + 1)]) (by simp [results, Tryz.results113, go_sem, *]) rfl ⟨by rw [HQ.out]; rfl, HX9.out⟩
def Strs (w : World) (A : Option Addr) (ls : List ByteArray) : Prop := CellsAt w A (ls.map Value.string)
theorem Strs.ext {w w' : World} {A : Option Addr} {ls : List ByteArray} (h : Strs w A ls) (e : Ext w w') : Strs w' A ls := CellsAt.ext h e
set_option maxRecDepth 100000 in
set_option maxHeartbeats 2000000 in
theorem hasRow_any (A : Option Addr) (c : Nat) (ls : List ByteArray) (x : ByteArray) (w : World) (h : Strs w A ls) (hl : ls.length ≤ 1000000) (r : Bool) (hr : r = true ↔ x ∈ ls) : Calls Tryz.prog 160 #[.slice A ls.length c, .string x] w fun e w' => e = .returned (.bool r) ∧ Ext w w' := by
 have H := zh h
 have HR := zh hr
 have HRF : Hid (x ∉ ls → r = false) := zh (fun hx => by cases r with | false => rfl | true => exact absurd (hr.1 rfl) hx)
 clear h hr
 go_enter Tryz.func160, Tryz.ntmps160
 go_wp2_with fail
 go_loopw [5] (fun i wr => ∃ k : Nat, k ≤ ls.length ∧ i = .int .i64 k ∧ Hid (x ∉ ls.take k) ∧ Hid (Ext w wr)) (fun i _ => ls.length - (intOf i).toNat)
 case atStart => exact ⟨0, Nat.zero_le _, rfl, zh (by simp), zh (Ext.refl _)⟩
 case round =>
  obtain ⟨k, hk, rfl, hn, hx⟩ := hrel
  by_cases hlt : k < ls.length
  ·obtain ⟨b, off, rfl, hb, hc⟩ := (H.out.ext hx.out) (by simp; omega)
   obtain ⟨y, hy⟩ : ∃ y, ls[k]? = some y := ⟨_, List.getElem?_eq_getElem hlt⟩
   have x0 := hc k (.string y) (by rw [List.getElem?_map, hy]; rfl)
   have hym : y ∈ ls := List.mem_of_getElem? hy
   have HT : Hid (ls.take (k + 1) = ls.take k ++ [y]) := zh (by rw [List.take_add_one, hy]; rfl)
   clear hc hy
   by_cases hxn : y = x
   ·have HM : Hid (x ∈ ls) := zh (hxn ▸ hym)
    subst hxn
    clear hym
    go_wp2_with fail
    go_ret
    exact ⟨ret_bool (HR.out.2 HM.out).symm, hx.out⟩
   ·have HM : Hid (x ∉ ls.take (k + 1)) := zh (by rw [HT.out, List.mem_append]; rintro (h | h); exact hn.out h; exact hxn (List.mem_singleton.1 h).symm)
    have q1 : (y.toList == x.toList) = false := by
     cases hb : (y.toList == x.toList) with
     | false => rfl
     | true => exact absurd ((Lib.bytes_beq_iff y x).1 hb) hxn
    have q2 : (y == x) = false := by rw [beq_toListBytes]; exact q1
    clear hym
    go_wp2_with fail
    go_roundw
    case rel => exact ⟨k + 1, by omega, by go_num, HM, hx⟩
    case measure => simp [intOf]; omega
  ·obtain rfl : k = ls.length := by omega
   have HM : Hid (x ∉ ls) := zh (by have := hn.out; rwa [List.take_length] at this)
   go_wp2_with fail
   go_ret
   exact ⟨ret_bool (HRF.out HM.out).symm, hx.out⟩
end Go.Proofs.YthpmncdfaggkiaaGreat
namespace Go.Proofs.YthpmncdfaggkiaaGreat
open Go.RowKit Go.Maps
attribute [local go_sem] more_drew more_drewN more_size more_cell more_frozen more_setCell drew_more drewN_more lt_add_r lt_add_r2 lt_add_r3 lt_add_r4 lt_add_r5 lt_add_r6 lt_add_r7 lt_add_r8 lt_add_r9 lt_add_r10 lt_self_r lt_self_r2
theorem infoStr : (Tryz.prog.info? 9).map (fun i => (i.zero, i.size, i.bytes)) = some (some (.string ⟨#[]⟩), 1, 16) := by kernel_rfl
abbrev tx (b : UInt8) : ByteArray := ⟨#[b]⟩
abbrev tz : ByteArray := ⟨#[]⟩
def sv (ls : List ByteArray) : List Value := ls.map Value.string
def RowT (w : World) (base : Nat) (v : Value) (ls : List ByteArray) : Prop := w.ownsRow base 9 1 v ls.length (sv ls)
theorem RowT.ext {w w' : World} {base : Nat} {v : Value} {ls : List ByteArray} (h : RowT w base v ls) (e : Ext w w') : RowT w' base v ls := own_ext h e
def StrV (w : World) (v : Value) (ls : List ByteArray) : Prop := ∃ A c, v = .slice A ls.length c ∧ Strs w A ls ∧ (A = none → c = 0) ∧ ls.length ≤ c ∧ ∀ g off s, A = some ⟨g, off, s⟩ → ∃ cs, w.heap[g]? = some (.cells cs 9)
theorem StrV.turn {w w' : World} {v : Value} {ls : List ByteArray} {S : Nat → Prop} (h : StrV w v ls) (t : Turn S w w') (hS : ∀ g cs, w.heap[g]? = some (.cells cs 9) → ¬ S g) : StrV w' v ls := by
 obtain ⟨A, c, h1, h2, h3, h4, h5⟩ := h
 refine ⟨A, c, h1, fun h0 => ?_, h3, h4, fun g off s hA => ?_⟩
 ·obtain ⟨g, off, k1, k2, k3⟩ := h2 h0
  obtain ⟨cs, hcs⟩ := h5 g off none k1
  have hk := t.block g k2 (hS g cs hcs)
  exact ⟨g, off, k1, Nat.lt_of_lt_of_le k2 t.size, fun k v hv => (World.cell?_of_block (w := w) (a := ⟨g, off + k, none⟩) hk).trans (k3 k v hv)⟩
 ·obtain ⟨cs, hcs⟩ := h5 g off s hA
  exact ⟨cs, t.keep hcs (hS g cs hcs)⟩
theorem StrV.ext {w w' : World} {v : Value} {ls : List ByteArray} (h : StrV w v ls) (e : Ext w w') : StrV w' v ls := h.turn (Turn.of_ext (S := fun _ => False) e) (fun _ _ _ h => h)
theorem strV_nil (w : World) : StrV w nil0 [] := ⟨none, 0, rfl, fun h => absurd h (by simp), fun _ => rfl, Nat.le_refl _, fun g off s h => by cases h⟩
theorem RowT.reads {w : World} {base : Nat} {v : Value} {ls : List ByteArray} (h : RowT w base v ls) : StrV w v ls := by
 obtain ⟨A, c, h1, h2, h3, h4⟩ := own_cells h
 refine ⟨A, c, h1, h2, h4.2, h3, fun g off s hA => own_obj h g (by rw [h1, hA]; rfl)⟩
def MapT (w : World) (b n : Nat) (f : List UInt8 → Bool) : Prop :=
 ∃ D : DataW Unit, w.ownsMap Tryz.prog 9 (plainElem Tryz.prog 4) b n D ∧ IsMap D ∧ ∀ x : List UInt8, D.atKey (.string x) (.lit (.bool false)) = .lit (.bool (f x))
theorem MapT.made (w : World) : MapT (w.alloc (.map #[] 0)) w.heap.size 0 fun _ => false := ⟨.map [], World.ownsMap_made _ _ _ _, isMap_empty, fun _ => rfl⟩
theorem MapT.ext {w w' : World} {b n : Nat} {f : List UInt8 → Bool} (h : MapT w b n f) (e : Ext w w') : MapT w' b n f := by
 obtain ⟨D, ⟨es, cl, h1, h3⟩, h2⟩ := h
 exact ⟨D, ⟨es, cl, ext_block h1 e, h3⟩, h2⟩
theorem MapT.obj {w : World} {b n : Nat} {f : List UInt8 → Bool} (h : MapT w b n f) : ∃ es cl, w.heap[b]? = some (.map es cl) := by
 obtain ⟨D, ⟨es, cl, h1, h3⟩, h2⟩ := h
 exact ⟨es, cl, h1⟩
theorem MapT.keep {w w' : World} {b n : Nat} {f : List UInt8 → Bool} {S : Nat → Prop} (h : MapT w b n f) (t : Turn S w w') (hS : ¬ S b) : MapT w' b n f := by
 obtain ⟨D, ⟨es, cl, h1, h3⟩, h2⟩ := h
 exact ⟨D, ⟨es, cl, (t.block b (lt_of_heap h1) hS).trans h1, h3⟩, h2⟩
theorem zero_bool (w : World) : (zeroValue 4).run Tryz.prog w = .ok (.bool false) w := by kernel_rfl
set_option maxRecDepth 100000 in
theorem plainBool_inv {v : Value} {z : DataW Unit × List MemPlace} (h : plainElem Tryz.prog 4 v = some z) : ∃ a, v = .bool a ∧ z = (.lit (.bool a), []) := by
 unfold plainElem at h
 rw [Tryz.underlying4] at h
 cases v <;> simp at h
 exact ⟨_, rfl, h.symm⟩
set_option maxRecDepth 100000 in
theorem MapT.look {w : World} {b n : Nat} {f : List UInt8 → Bool} (h : MapT w b n f) (s : ByteArray) (hs : s.size ≤ maxLen) :
 (Instr.lookup 238 (.map (some b)) (.string s) false).run Tryz.prog w = .ok (.bool (f s.data.toList)) w := by
 obtain ⟨D, h3, _, h4⟩ := h
 obtain ⟨v, ps, hrun, hv⟩ := h3.lookup law_string Tryz.underlying238 (zero_bool w) (plainElem_bool Tryz.underlying4 false) (WideMaps.keyOf_string_mk (P := Tryz.prog) Tryz.underlying9 hs)
 obtain ⟨c, rfl, hc⟩ := plainBool_inv hv
 simp only [Prod.mk.injEq] at hc
 have h5 := hc.1
 rw [h4] at h5
 injection h5 with h5
 injection h5 with h5
 rw [hrun, h5]
set_option maxRecDepth 100000 in
theorem MapT.put {w : World} {b n : Nat} {f : List UInt8 → Bool} (h : MapT w b n f) (hn : n ≤ 1000000000) (s : ByteArray) (hs : s.size ≤ maxLen) :
 ∃ w', (Instr.mapUpdate 238 (.map (some b)) (.string s) (.bool true)).run Tryz.prog w = .ok () w' ∧ MapT w' b (n + 1) (fun y => if y = s.data.toList then true else f y) ∧ Turn (fun i => i = b) w w' := by
 obtain ⟨D, h5, h6, h7⟩ := h
 have hn2 : n < maxLen := Nat.lt_of_le_of_lt hn (by unfold maxLen; decide)
 obtain ⟨w', hrun, ho, hgr⟩ := h5.update law_string Tryz.underlying238 hn2 (WideMaps.keyOf_string_mk (P := Tryz.prog) Tryz.underlying9 hs) (plainElem_bool Tryz.underlying4 true)
 refine ⟨w', hrun, ⟨_, ho, h6.put _ _, fun y => ?_⟩, Turn.grown hgr fun i hi _ => by injection hi with hi; exact hi.symm⟩
 dsimp only
 by_cases hy : y = s.data.toList
 ·subst hy
  rw [if_pos rfl]
  exact atKey_put_same h6 (by trivial) _ _
 ·rw [if_neg hy]
  exact (atKey_put_other (fun he => hy (by injection he)) _ _).trans (h7 y)
theorem cells_text {w : World} {g : Nat} {ls : List ByteArray} {cs : Array Value} (h : w.heap[g]? = some (.cells cs 9)) (hc : cs = (sv ls).toArray) : CellsAt w (some ⟨g, 0, none⟩) (sv ls) := fun _ => ⟨g, 0, rfl, lt_of_heap h, fun k v hk => by
 rw [Nat.zero_add, cell_of_row _ _ k _ _ _ h, hc, List.getElem?_toArray]
 exact hk⟩
theorem app_texts (w0 : World) {w : World} {ops : Array Oper} {rest : List Oper} {o : Oper} {a : Act} {Q : Exit → Act → World → Prop} (hw : Region.wanted o (yielded ops a.tmps) = true) (s x : Operand)
 (ho : o.op = .call { callee := .builtin .append, args := #[s, x], argTypes := #[161, 161] }) {ls ys : List ByteArray} {v : Value} (hr : RowT w w0.heap.size v ls) {A : Option Addr} {c : Nat}
 (hs : a.eval s = v) (hx : a.eval x = .slice A ys.length c) (hA : A = none → c = 0) (hc : CellsAt w A (sv ys)) (hlen : ls.length ≤ 1000000) (hy : ys.length ≤ 1000000) (hbase : w0.heap.size ≤ w.heap.size)
 (h : ∀ v' w', RowT w' w0.heap.size v' (ls ++ ys) → w.grownBy w' v.ownBlock → (v'.ownBlock = v.ownBlock ∨ v'.ownBlock = some w.heap.size) → wpList Tryz.prog ops Q rest (a.put o.dst v') w') : wpList Tryz.prog ops Q (o :: rest) a w := by
 obtain ⟨i3, hi, hz0, hz1, hz2⟩ := info_parts infoStr
 refine wpList_append_cells w hw s x 161 ho w0.heap.size 9 i3 (.string ⟨#[]⟩) 1 16 Tryz.underlying161 hi hz0 hz1 hz2 rfl (by omega) v ls.length (sv ls) hs hr A ys.length c (sv ys) hx hA (by simp [sv]) hc (fun u hu => ?_) (by unfold maxLen; omega) (by omega) hbase fun v' w' h2 h3 h4 => ?_
 ·unfold sv at hu
  obtain ⟨t, _, rfl⟩ := List.mem_map.1 hu
  rfl
 ·refine h v' w' ?_ h3 h4
  unfold RowT sv
  rw [List.length_append, List.map_append]
  exact h2
def addF (f : List UInt8 → Bool) (ls : List ByteArray) (x : ByteArray) : List ByteArray := if f x.data.toList then ls else ls ++ [x]
def seenF (f : List UInt8 → Bool) (x : ByteArray) : List UInt8 → Bool := fun y => if y = x.data.toList then true else f y
set_option maxRecDepth 100000 in
set_option maxHeartbeats 2000000 in
theorem add_any (w0 : World) (v : Value) (ls : List ByteArray) (mb n : Nat) (f : List UInt8 → Bool) (x : ByteArray) (w : World) (hr : RowT w w0.heap.size v ls) (hm : MapT w mb n f) (hlow : w0.heap.size ≤ mb) (hx : Ext w0 w) (hl : ls.length ≤ 1000) (hn : n ≤ 1000000) (hs : x.size ≤ 1000) :
 Calls Tryz.prog 186 #[v, .map (some mb), .string x] w fun e w' => ∃ v' k, e = .returned v' ∧ RowT w' w0.heap.size v' (addF f ls x) ∧ MapT w' mb k (seenF f x) ∧ k ≤ n + 1 ∧ Ext w0 w' := by
 have hs' : x.size ≤ maxLen := by unfold maxLen; omega
 have hlk := hm.look x hs'
 cases hfx : f x.data.toList with
 | true =>
  rw [hfx] at hlk
  have HR := zh hr
  have HM := zh hm
  have HX := zh hx
  have HF := zh hfx
  clear hr hm hx hfx
  go_enter Tryz.func186, Tryz.ntmps186
  go_wp2_with fail
  go_ret
  refine ⟨v, n, rfl, by unfold addF; rw [HF.out]; exact HR.out, ?_, by omega, HX.out⟩
  have : seenF f x = f := by
   funext y
   unfold seenF
   split
   ·subst y; exact HF.out.symm
   ·rfl
  rw [this]
  exact HM.out
 | false =>
  rw [hfx] at hlk
  obtain ⟨w1, hrun, hm1, ht1⟩ := hm.put (by omega) x hs'
  have hr1 : RowT w1 w0.heap.size v ls := own_keep hr fun k hk => ht1.block k (own_old hr k hk) (fun he => by
   obtain ⟨cur, hcur⟩ := own_obj hr k hk
   obtain ⟨es, cl, ho⟩ := hm.obj
   subst he
   rw [ho] at hcur
   cases hcur)
  have HR := zh hr1
  have HM := zh hm1
  have HX := zh (ht1.ext hx (fun k hk => by omega))
  have HF := zh hfx
  have HL : Hid (ls.length ≤ 1000) := zh hl
  clear hr hm hx hr1 hm1 ht1 hfx
  obtain ⟨A, c, hv, _⟩ := own_cells HR.out
  have HV := zh hv
  clear hv
  go_enter Tryz.func186, Tryz.ntmps186
  go_wp2_with (at_builtin; refine app_texts w0 (by rfl) (.tmp 13) (.tmp 15) rfl (ys := [x]) (HR.out.ext (by repeat first | exact xr _ | refine xa ?_ _ | refine xm ?_ _ _ | refine xd ?_ | refine xn ?_ _ | refine xs ?_ (by simp <;> omega) _)) rfl rfl (fun h => by cases h) (cells_text (ls := [x]) (heap_alloc_new w1 (.cells #[.string x] 9)) rfl) (by have := HL.out; omega) (by simp) (by have := HX.out.size; simp <;> omega) ?_; intro v4 w4 hr4 hg4 hat4)
  go_ret
  refine ⟨v4, n + 1, rfl, by unfold addF; rw [HF.out]; exact hr4, ?_, Nat.le_refl _, (HX.out.trans ((by repeat first | exact xr _ | refine xa ?_ _ | refine xm ?_ _ _ | refine xd ?_ | refine xn ?_ _ | refine xs ?_ (by simp <;> omega) _) : Ext w1 (w1.alloc (.cells #[.string x] 9)))).grown hg4 (fun g hg => own_block HR.out g hg)⟩
  refine (HM.out.ext ((by repeat first | exact xr _ | refine xa ?_ _ | refine xm ?_ _ _ | refine xd ?_ | refine xn ?_ _ | refine xs ?_ (by simp <;> omega) _) : Ext w1 (w1.alloc (.cells #[.string x] 9)))).keep (Turn.grown (S := fun g => v.ownBlock = some g) hg4 (fun g hg _ => hg)) (fun hh => ?_)
  obtain ⟨cur, hcur⟩ := own_obj HR.out mb hh
  obtain ⟨es, cl, ho⟩ := HM.out.obj
  rw [ho] at hcur
  cases hcur
set_option maxRecDepth 100000 in
set_option maxHeartbeats 1000000 in
theorem joined_whole (b : UInt8) (w : World) : Calls Tryz.prog 187 #[.int .i64 1, .string (tx b), .string tz] w fun e w' => e = .returned (.string (tx b)) ∧ Ext w w' := by
 have q : (tx b).size = 1 := rfl
 go_enter Tryz.func187, Tryz.ntmps187
 go_wp2_with fail
 go_ret
 exact ⟨rfl, Ext.refl _⟩
set_option maxRecDepth 100000 in
set_option maxHeartbeats 1000000 in
theorem joined_eps (b : UInt8) (w : World) : Calls Tryz.prog 187 #[.int .i64 1, .string tz, .string (tx b)] w fun e w' => e = .returned (.string (tx b)) ∧ Ext w w' := by
 have q : (tx b).size = 1 := rfl
 have q0 : tz.size = 0 := rfl
 have q1 : tz ++ tx b = tx b := rfl
 go_enter Tryz.func187, Tryz.ntmps187
 go_wp2_with fail
 go_ret
 exact ⟨rfl, Ext.refl _⟩
def StrRet (w : World) (ls : List ByteArray) (e : Ending) (w' : World) : Prop := ∃ v, e = .returned v ∧ StrV w' v ls ∧ Ext w w'
set_option maxRecDepth 100000 in
set_option maxHeartbeats 1000000 in
theorem sorted_few (v : Value) (ls : List ByteArray) (w : World) (h : StrV w v ls) (hl : ls.length < 2) : Calls Tryz.prog 188 #[v] w fun e w' => e = .returned v ∧ Ext w w' := by
 obtain ⟨A, c, rfl, _⟩ := h
 obtain ⟨n, hn⟩ : ∃ n, ls.length = n := ⟨_, rfl⟩
 rw [hn] at hl ⊢
 clear hn
 have q : decide ((n : Int) < 2) = true := by simp; omega
 have q' : decide (n < 2) = true := by simp; omega
 go_enter Tryz.func188, Tryz.ntmps188
 go_wp2_with fail
 go_ret
 exact ⟨rfl, Ext.refl _⟩
set_option maxRecDepth 100000 in
set_option maxHeartbeats 4000000 in
theorem sorted_two (v : Value) (b : UInt8) (w : World) (h : StrV w v [tz, tx b]) : Calls Tryz.prog 188 #[v] w (StrRet w [tz, tx b]) := by
 obtain ⟨A, c, rfl, hA, hn, hc2, hty⟩ := h
 have hc2 : 2 ≤ c := hc2
 obtain ⟨g, og, rfl, hg, hc⟩ := hA (by simp)
 have x0 := hc 0 _ rfl
 have x1 := hc 1 _ rfl
 rw [Nat.add_zero] at x0
 have HA := zh hA
 have S0 : StrV w (.slice (some ⟨g, og, none⟩) 1 c) [tz] := ⟨_, _, rfl, fun _ => ⟨g, og, rfl, hg, fun k u hk => by
  obtain rfl : k = 0 := by
   have := (List.getElem?_eq_some_iff.1 hk).1
   simp at this
   omega
  exact hc 0 u (by simpa using hk)⟩, (fun h => by cases h), (by simp; omega), fun g' off' s' h => by injection h with h; injection h with h; subst h; exact hty g og none rfl⟩
 have S1 : StrV w (.slice (some ⟨g, og + 1, none⟩) 1 (c - 1)) [tx b] := ⟨_, _, rfl, fun _ => ⟨g, og + 1, rfl, hg, fun k u hk => by
  obtain rfl : k = 0 := by
   have := (List.getElem?_eq_some_iff.1 hk).1
   simp at this
   omega
  exact hc 1 u (by simpa using hk)⟩, (fun h => by cases h), (by simp; omega), fun g' off' s' h => by injection h with h; injection h with h; subst h; exact hty g og none rfl⟩
 have z1 := x1
 have lg0 := hg
 have HS0 := zh S0
 have HS1 := zh S1
 have HC0 := zh (fun w1 (e : Ext w w1) => sorted_few _ _ w1 (S0.ext e) (by simp))
 have HC1 := zh (fun w1 (e : Ext w w1) => sorted_few _ _ w1 (S1.ext e) (by simp))
 clear S0 S1 hA hc hn
 go_enter Tryz.func188, Tryz.ntmps188
 go_upto_region 3 with fail
 refine wp_region_bt (14) (pures_bt [0, 1, 2, 3, 4, 6, 7, 8, 9, 10] (.step 5 (.step 11 (pures_bt [12, 13] .fin)))) (by kernel_rfl) (by kernel_rfl) ?_
 refine bt_pures _ fun K hK => ?_; simp only [pick, nthC]; (repeat go_big_quiet_step (fail)); refine wpQuiet_nil (hK _ ?_); clear hK K
 refine bt_step fun next hn => ?_; simp only [pick, nthC]
 go_wp2_with fail
 refine (HC0.out _ (by repeat first | exact xr _ | refine xa ?_ _ | refine xm ?_ _ _ | refine xd ?_ | refine xn ?_ _ | refine xs ?_ (by simp <;> omega) _)).mono ?_
 rintro e w2 ⟨rfl, hx2⟩
 have HX2 : Hid (Ext w w2) := zh (Ext.trans (by repeat first | exact xr _ | refine xa ?_ _ | refine xm ?_ _ _ | refine xd ?_ | refine xn ?_ _ | refine xs ?_ (by simp <;> omega) _) hx2)
 clear hx2
 go_wp2_with fail
 refine segQ_mk (fun _ => laid HX2.out) (hn _ _ ?_)
 clear hn next
 refine bt_step fun next hn => ?_; simp only [pick, nthC]
 go_wp2_with fail
 refine (HC1.out _ HX2.out).mono ?_
 rintro e w3 ⟨rfl, hx3⟩
 have HX3 := zh (HX2.out.trans hx3)
 have y0 := ext_cell x0 hg HX3.out
 have y1 := ext_cell x1 hg HX3.out
 have lg := Nat.lt_of_lt_of_le hg HX3.out.size
 clear hx3 HX2 x0 x1 hg HC0 HC1
 go_wp2_with fail
 refine segQ_mk (fun _ => laid HX3.out) (hn _ _ ?_)
 clear hn next
 refine bt_pures _ fun K hK => ?_; simp only [pick, nthC]; (repeat go_big_quiet_step (fail)); refine wpQuiet_nil (hK _ ?_); clear hK K
 (refine bt_fin ?_)
 go_wp2_with fail
 refine wp_loop_rounds 2 ?_
 rw [rounds_succ]
 go_upto_region 6 with fail
 refine wp_region_bt (7) (pures_bt [0, 1, 3, 4] (softs_bt [2, 5, 6] .fin)) (by kernel_rfl) (by kernel_rfl) ?_
 refine bt_pures _ fun K hK => ?_; simp only [pick, nthC]; (repeat go_big_quiet_step (fail)); refine wpQuiet_nil (hK _ ?_); clear hK K
 refine bt_softs _ fun K hK => ?_; simp only [pick, nthC]; (repeat go_big_quiet_step (fail)); refine wpQuiet_nil (hK _ ?_); clear hK K
 (refine bt_fin ?_)
 have X3 : Ext w w3 := HX3.out
 obtain ⟨V0, hV0⟩ : ∃ V, w3.drew = V := ⟨_, rfl⟩
 have HV0 : Hid (Ext w V0) := zh (by rw [← hV0]; exact HX3.out.trans (by repeat first | exact xr _ | refine xa ?_ _ | refine xm ?_ _ _ | refine xd ?_ | refine xn ?_ _ | refine xs ?_ (by simp <;> omega) _))
 have y0 : V0.cell? ⟨g, og, none⟩ = some (.string tz) := by rw [← hV0]; exact y0
 have y1 : V0.cell? ⟨g, og + 1, none⟩ = some (.string (tx b)) := by rw [← hV0]; exact y1
 have lg : g < V0.heap.size := by rw [← hV0]; exact lg
 try simp only [hV0]
 clear hV0 X3
 go_upto_region 7 with fail
 refine wp_region_bt (10) (pures_bt [0, 1, 2, 6, 7] (softs_bt [3] (.step 4 (.step 5 (pures_bt [8, 9] .fin))))) (by kernel_rfl) (by kernel_rfl) ?_
 refine bt_pures _ fun K hK => ?_; simp only [pick, nthC]; (repeat go_big_quiet_step (fail)); refine wpQuiet_nil (hK _ ?_); clear hK K
 refine bt_softs _ fun K hK => ?_; simp only [pick, nthC]; (repeat go_big_quiet_step (fail)); refine wpQuiet_nil (hK _ ?_); clear hK K
 refine bt_step fun next hn => ?_; simp only [pick, nthC]
 go_wp2_with fail
 refine segQ_mk (fun _ => laid (by repeat first | exact xr _ | refine xa ?_ _ | refine xm ?_ _ _ | refine xd ?_ | refine xn ?_ _ | refine xs ?_ (by simp <;> omega) _)) (hn _ _ ?_)
 clear hn next
 refine bt_step fun next hn => ?_; simp only [pick, nthC]
 go_wp2_with (at_builtin; refine app_texts w (by rfl) (.tmp 37) (.tmp 41) rfl (ls := []) (ys := [tz]) (World.ownsRow_nil _ _ _ _) rfl rfl (fun h => by cases h) (cells_text (ls := [tz]) (w := (V0.alloc (.cells #[.string tz] 9)).drew) (heap_alloc_new V0 (.cells #[.string tz] 9)) rfl) (by simp) (by simp) (by have := HV0.out.size; simp <;> omega) ?_; intro v4 w4 hr4 hg4 hat4)
 have HX4 : Hid (Ext V0 w4) := zh (((by repeat first | exact xr _ | refine xa ?_ _ | refine xm ?_ _ _ | refine xd ?_ | refine xn ?_ _ | refine xs ?_ (by simp <;> omega) _) : Ext V0 (V0.alloc (.cells #[.string tz] 9)).drew).grown hg4 (fun g hg => by cases hg))
 refine segQ_mk (fun _ => laid HX4.out) (hn _ _ ?_)
 clear hn next
 refine bt_pures _ fun K hK => ?_; simp only [pick, nthC]; (repeat go_big_quiet_step (fail)); refine wpQuiet_nil (hK _ ?_); clear hK K
 (refine bt_fin ?_)
 have HR4 : Hid (RowT w4 w.heap.size v4 [tz]) := zh hr4
 clear hr4 hg4 hat4
 go_wp2_with fail
 rw [rounds_succ]
 go_upto_region 9 with fail
 go_wp2_with (first | (at_builtin; refine app_texts w (by rfl) (.tmp 53) (.tmp 54) rfl (ys := []) HR4.out rfl rfl (fun h => by cases h) (fun h => absurd h (by simp [sv])) (by simp) (by simp) (by have := (HV0.out.trans HX4.out).size; omega) ?_; intro v5 w5 hr5 hg5 hat5; have HX5 : Hid (Ext w w5) := zh ((HV0.out.trans HX4.out).grown hg5 (fun g hg => own_block HR4.out g hg)); have HR5 := zh hr5; have HC5 : Hid (CellsAt w5 (some ⟨g, og + 1, none⟩) (sv [tx b])) := zh (fun _ => ⟨g, og + 1, rfl, Nat.lt_of_lt_of_le lg0 HX5.out.size, fun k u hk => (by
  obtain rfl : k = 0 := by
   have := (List.getElem?_eq_some_iff.1 hk).1
   simp [sv] at this
   omega
  have h : some (Value.string (tx b)) = some u := hk
  injection h with h
  subst h
  exact ext_cell z1 lg0 HX5.out)⟩); clear hr5 hg5 hat5) | (at_builtin; refine app_texts w (by rfl) (.tmp 55) (.tmp 56) rfl (ys := [tx b]) HR5.out rfl rfl (fun h => by cases h) HC5.out (by simp) (by simp) (by have := HX5.out.size; omega) ?_; intro v6 w6 hr6 hg6 hat6))
 go_ret
 exact ⟨v6, rfl, hr6.reads, HX5.out.grown hg6 (fun g hg => own_block HR5.out g hg)⟩
theorem strV_one {w : World} {v : Value} {x : ByteArray} (h : StrV w v [x]) : ∃ g og c, v = .slice (some ⟨g, og, none⟩) 1 c ∧ w.cell? ⟨g, og, none⟩ = some (.string x) ∧ g < w.heap.size := by
 obtain ⟨A, c, rfl, hA, _⟩ := h
 obtain ⟨g, og, rfl, hg, hc⟩ := hA (by simp)
 exact ⟨g, og, c, rfl, hc 0 _ rfl, hg⟩
set_option maxRecDepth 100000 in
set_option maxHeartbeats 2000000 in
theorem cat_none (va : Value) (x : ByteArray) (B : Option Addr) (cb : Nat) (w : World) (ha : StrV w va [x]) : Calls Tryz.prog 158 #[.int .i64 1, va, .slice B 0 cb] w (StrRet w []) := by
 obtain ⟨g, og, ca, rfl, x0, lg⟩ := strV_one ha
 have HX : Hid (Ext w (w.alloc (.map #[] 0))) := zh (by repeat first | exact xr _ | refine xa ?_ _ | refine xm ?_ _ _ | refine xd ?_ | refine xn ?_ _ | refine xs ?_ (by simp <;> omega) _)
 have hmm := @run_makeMap Tryz.prog
 have HS := zh (fun w1 (e : Ext w w1) => sorted_few nil0 [] w1 (strV_nil w1) (by simp))
 clear ha
 go_enter Tryz.func158, Tryz.ntmps158
 go_wp2_with fail
 refine wp_loop_rounds 1 ?_
 rw [rounds_succ]
 go_wp2_with fail
 refine (HS.out _ HX.out).mono ?_
 rintro e w2 ⟨rfl, hx2⟩
 have HX2 := zh (HX.out.trans hx2)
 clear hx2
 go_wp2_with fail
 go_ret
 exact ⟨nil0, rfl, strV_nil _, HX2.out⟩
set_option maxRecDepth 100000 in
set_option maxHeartbeats 2000000 in
theorem cat_whole (va : Value) (x : UInt8) (B : Option Addr) (n cb : Nat) (w : World) (ha : StrV w va [tx x]) (hn : 0 < n) : Calls Tryz.prog 158 #[.int .i64 1, va, .slice B n cb] w (StrRet w [tx x]) := by
 obtain ⟨g, og, ca, rfl, x0, lg⟩ := strV_one ha
 obtain ⟨mb, hmb⟩ : ∃ mb, w.heap.size = mb := ⟨_, rfl⟩
 obtain ⟨W1, hW1⟩ : ∃ W, w.alloc (.map #[] 0) = W := ⟨_, rfl⟩
 have X1 : Ext w W1 := by rw [← hW1]; exact (by repeat first | exact xr _ | refine xa ?_ _ | refine xm ?_ _ _ | refine xd ?_ | refine xn ?_ _ | refine xs ?_ (by simp <;> omega) _)
 have M1 : MapT W1 mb 0 fun _ => false := by rw [← hW1, ← hmb]; exact MapT.made w
 have HX := zh X1
 have HA := zh (fun w1 (e : Ext W1 w1) => add_any w nil0 [] mb 0 (fun _ => false) (tx x) w1 (World.ownsRow_nil _ _ _ _) (M1.ext e) (by omega) (X1.trans e) (by simp) (by omega) (by show 1 ≤ _; omega))
 have HJ := zh (joined_whole x W1)
 have hmm := @run_makeMap Tryz.prog
 have q := ((by simp; omega) : decide (0 < (n : Int)) = true)
 have q' := ((by simp; omega) : decide (0 < n) = true)
 have qs : (tx x).size = 1 := rfl
 have y0 := ext_cell x0 lg X1
 have lg1 := Nat.lt_of_lt_of_le lg X1.size
 clear ha M1 X1 x0 lg
 go_enter Tryz.func158, Tryz.ntmps158
 go_wp2_with fail
 try simp only [hW1, hmb]
 clear hW1 hmb hmm
 refine wp_loop_rounds 2 ?_
 rw [rounds_succ]
 go_upto_region 7 with fail
 refine wp_region_bt (29) (pures_bt [0, 1, 2, 5] (softs_bt [3, 4, 6, 7, 8, 9, 10, 11, 12, 13, 14, 15, 16, 17, 18, 19, 20, 21, 22, 23, 24, 25, 26, 27, 28] .fin)) (by kernel_rfl) (by kernel_rfl) ?_
 refine bt_pures _ fun K hK => ?_; simp only [pick, nthC]; (repeat go_big_quiet_step (fail)); refine wpQuiet_nil (hK _ ?_); clear hK K
 refine bt_softs _ fun K hK => ?_; simp only [pick, nthC]; (repeat go_big_quiet_step (fail)); refine wpQuiet_nil (hK _ ?_); clear hK K
 (refine bt_fin ?_)
 have HX2 : Hid (Ext W1 W1.drew) := zh (by repeat first | exact xr _ | refine xa ?_ _ | refine xm ?_ _ _ | refine xd ?_ | refine xn ?_ _ | refine xs ?_ (by simp <;> omega) _)
 obtain ⟨W2, hW2⟩ : ∃ W, W1.drew = W := ⟨_, rfl⟩
 have y0 : W2.cell? ⟨g, og, none⟩ = some (.string (tx x)) := by rw [← hW2]; exact y0
 have lg1 : g < W2.heap.size := by rw [← hW2]; exact lg1
 rw [hW2] at HX2
 have HJ := zh (joined_whole x W2)
 try simp only [hW2]
 clear hW2
 go_wp2_with fail
 refine HJ.out.mono ?_
 rintro e w3 ⟨rfl, hx3⟩
 have HX3 := zh (HX2.out.trans hx3)
 clear hx3
 go_wp2_with fail
 refine (HA.out _ HX3.out).mono ?_
 rintro e w4 ⟨v4, k4, rfl, hr4, hm4, hk4, hx4⟩
 have HR4 : Hid (RowT w4 w.heap.size v4 [tx x]) := zh hr4
 have HX4 := zh hx4
 clear hr4 hm4 hx4 hk4
 go_wp2_with fail
 refine wp_loop_rounds 1 ?_
 rw [rounds_succ]
 go_wp2_with fail
 rw [rounds_succ]
 have HS := zh (sorted_few v4 [tx x] w4 HR4.out.reads (by simp))
 go_wp2_with fail
 refine HS.out.mono ?_
 rintro e w5 ⟨rfl, hx5⟩
 have HX5 := zh hx5
 clear hx5
 go_wp2_with fail
 go_ret
 exact ⟨v4, rfl, HR4.out.reads.ext HX5.out, HX4.out.trans HX5.out⟩
set_option maxRecDepth 100000 in
set_option maxHeartbeats 2000000 in
theorem cat_eps (va vb : Value) (y : UInt8) (w : World) (ha : StrV w va [tz]) (hb : StrV w vb [tx y]) : Calls Tryz.prog 158 #[.int .i64 1, va, vb] w (StrRet w [tx y]) := by
 obtain ⟨g, og, ca, rfl, x0, lg⟩ := strV_one ha
 obtain ⟨h, oh, cb, rfl, z0, lh⟩ := strV_one hb
 obtain ⟨mb, hmb⟩ : ∃ mb, w.heap.size = mb := ⟨_, rfl⟩
 obtain ⟨W1, hW1⟩ : ∃ W, w.alloc (.map #[] 0) = W := ⟨_, rfl⟩
 have X1 : Ext w W1 := by rw [← hW1]; exact (by repeat first | exact xr _ | refine xa ?_ _ | refine xm ?_ _ _ | refine xd ?_ | refine xn ?_ _ | refine xs ?_ (by simp <;> omega) _)
 have M1 : MapT W1 mb 0 fun _ => false := by rw [← hW1, ← hmb]; exact MapT.made w
 have HX := zh X1
 have HA := zh (fun w1 (e : Ext W1 w1) => add_any w nil0 [] mb 0 (fun _ => false) (tx y) w1 (World.ownsRow_nil _ _ _ _) (M1.ext e) (by omega) (X1.trans e) (by simp) (by omega) (by show 1 ≤ _; omega))
 have HJ := zh (fun w1 => joined_eps y w1)
 have hmm := @run_makeMap Tryz.prog
 have qs : tz.size = 0 := rfl
 have qs1 : (tx y).size = 1 := rfl
 have y0 := ext_cell x0 lg X1
 have y1 := ext_cell z0 lh X1
 have lg1 := Nat.lt_of_lt_of_le lg X1.size
 have lh1 := Nat.lt_of_lt_of_le lh X1.size
 clear ha hb M1 X1 x0 lg z0 lh
 go_enter Tryz.func158, Tryz.ntmps158
 go_wp2_with fail
 try simp only [hW1, hmb]
 clear hW1 hmb hmm
 refine wp_loop_rounds 2 ?_
 rw [rounds_succ]
 go_upto_region 7 with fail
 refine wp_region_bt (29) (pures_bt [0, 1, 2, 5] (softs_bt [3, 4, 6, 7, 8, 9, 10, 11, 12, 13, 14, 15, 16, 17, 18, 19, 20, 21, 22, 23, 24, 25, 26, 27, 28] .fin)) (by kernel_rfl) (by kernel_rfl) ?_
 refine bt_pures _ fun K hK => ?_; simp only [pick, nthC]; (repeat go_big_quiet_step (fail)); refine wpQuiet_nil (hK _ ?_); clear hK K
 refine bt_softs _ fun K hK => ?_; simp only [pick, nthC]; (repeat go_big_quiet_step (fail)); refine wpQuiet_nil (hK _ ?_); clear hK K
 (refine bt_fin ?_)
 have HX2 : Hid (Ext W1 W1.drew) := zh (by repeat first | exact xr _ | refine xa ?_ _ | refine xm ?_ _ _ | refine xd ?_ | refine xn ?_ _ | refine xs ?_ (by simp <;> omega) _)
 obtain ⟨W2, hW2⟩ : ∃ W, W1.drew = W := ⟨_, rfl⟩
 have y0 : W2.cell? ⟨g, og, none⟩ = some (.string tz) := by rw [← hW2]; exact y0
 have y1 : W2.cell? ⟨h, oh, none⟩ = some (.string (tx y)) := by rw [← hW2]; exact y1
 have lg1 : g < W2.heap.size := by rw [← hW2]; exact lg1
 have lh1 : h < W2.heap.size := by rw [← hW2]; exact lh1
 rw [hW2] at HX2
 try simp only [hW2]
 clear hW2
 go_wp2_with fail
 refine wp_loop_rounds 2 ?_
 rw [rounds_succ]
 go_upto_region 13 with fail
 refine wp_region_bt (12) (pures_bt [0, 1, 2, 3, 4, 5, 7, 8, 9] (softs_bt [6, 10] (.step 11 (.step 12 (pures_bt [13] .fin))))) (by kernel_rfl) (by kernel_rfl) ?_
 refine bt_pures _ fun K hK => ?_; simp only [pick, nthC]; (repeat go_big_quiet_step (fail)); refine wpQuiet_nil (hK _ ?_); clear hK K
 refine bt_softs _ fun K hK => ?_; simp only [pick, nthC]; (repeat go_big_quiet_step (fail)); refine wpQuiet_nil (hK _ ?_); clear hK K
 refine bt_step fun next hn => ?_; simp only [pick, nthC]
 go_wp2_with fail
 refine (HJ.out _).mono ?_
 rintro e w3 ⟨rfl, hx3⟩
 have HY3 : Hid (Ext W2 w3) := zh (Ext.trans (by repeat first | exact xr _ | refine xa ?_ _ | refine xm ?_ _ _ | refine xd ?_ | refine xn ?_ _ | refine xs ?_ (by simp <;> omega) _) hx3)
 clear hx3
 go_wp2_with fail
 refine segQ_mk (fun _ => laid HY3.out) (hn _ _ ?_)
 clear hn next
 refine bt_step fun next hn => ?_; simp only [pick, nthC]
 go_wp2_with fail
 refine (HA.out _ (HX2.out.trans HY3.out)).mono ?_
 rintro e w4 ⟨v4, k4, rfl, hr4, hm4, hk4, hx4⟩
 have HR4 : Hid (RowT w4 w.heap.size v4 [tx y]) := zh hr4
 have HX4 := zh hx4
 clear hr4 hm4 hx4 hk4
 go_wp2_with fail
 refine segQ_mk (fun h => absurd rfl h) (hn _ _ ?_)
 clear hn next
 refine bt_pures _ fun K hK => ?_; simp only [pick, nthC]; (repeat go_big_quiet_step (fail)); refine wpQuiet_nil (hK _ ?_); clear hK K
 (refine bt_fin ?_)
 go_wp2_with fail
 rw [rounds_succ]
 go_wp2_with fail
 rw [rounds_succ]
 have HS := zh (sorted_few v4 [tx y] w4 HR4.out.reads (by simp))
 go_wp2_with fail
 refine HS.out.mono ?_
 rintro e w5 ⟨rfl, hx5⟩
 have HX5 := zh hx5
 clear hx5
 go_wp2_with fail
 go_ret
 exact ⟨v4, rfl, HR4.out.reads.ext HX5.out, HX4.out.trans HX5.out⟩
def addAll (st : List ByteArray × (List UInt8 → Bool)) (xs : List ByteArray) : List ByteArray × (List UInt8 → Bool) := xs.foldl (fun st x => (addF st.2 st.1 x, seenF st.2 x)) st
theorem addAll_snoc (st : List ByteArray × (List UInt8 → Bool)) (xs : List ByteArray) (x : ByteArray) : addAll st (xs ++ [x]) = (addF (addAll st xs).2 (addAll st xs).1 x, seenF (addAll st xs).2 x) := by simp [addAll]
theorem addAll_len (st : List ByteArray × (List UInt8 → Bool)) (xs : List ByteArray) : (addAll st xs).1.length ≤ st.1.length + xs.length := by
 induction xs generalizing st with
 | nil => exact Nat.le_refl _
 | cons x xs ih =>
  have := ih (addF st.2 st.1 x, seenF st.2 x)
  have h2 : (addF st.2 st.1 x).length ≤ st.1.length + 1 := by
   unfold addF
   split <;> simp
  show (addAll (addF st.2 st.1 x, seenF st.2 x) xs).1.length ≤ _
  simp only [List.length_cons] at *
  omega
theorem addAll_len0 (f : List UInt8 → Bool) (xs : List ByteArray) : (addAll ([], f) xs).1.length ≤ xs.length := by
 have := addAll_len ([], f) xs
 simpa using this
set_option maxRecDepth 100000 in
set_option maxHeartbeats 600000 in
theorem union_texts (va vb : Value) (xs ys zs : List ByteArray) (w : World) (ha : StrV w va xs) (hb : StrV w vb ys) (h1 : xs.length ≤ 100) (h2 : ys.length ≤ 100) (hs : ∀ x ∈ xs ++ ys, x.size ≤ 1000) (hz : (addAll ([], fun _ => false) (xs ++ ys)).1 = zs) (hzz : zs.length < 2 ∨ ∃ b, zs = [tz, tx b]) : Calls Tryz.prog 161 #[va, vb] w (StrRet w zs) := by
 have HA := zh ha
 have HB := zh hb
 obtain ⟨A, ca, rfl, _⟩ := ha
 obtain ⟨B, cb, rfl, _⟩ := hb
 obtain ⟨mb, hmb⟩ : ∃ mb, w.heap.size = mb := ⟨_, rfl⟩
 obtain ⟨W1, hW1⟩ : ∃ W, w.alloc (.map #[] 0) = W := ⟨_, rfl⟩
 have X1 : Ext w W1 := by rw [← hW1]; exact (by repeat first | exact xr _ | refine xa ?_ _ | refine xm ?_ _ _ | refine xd ?_ | refine xn ?_ _ | refine xs ?_ (by simp <;> omega) _)
 have HM1 : Hid (MapT W1 mb 0 fun _ => false) := zh (by rw [← hW1, ← hmb]; exact MapT.made w)
 have HX1 := zh X1
 have HMB : Hid (w.heap.size ≤ mb) := zh (by omega)
 have HS := zh hs
 have HZ := zh hz
 have HZZ := zh hzz
 obtain ⟨n1, hn1⟩ : ∃ n, xs.length = n := ⟨_, rfl⟩
 obtain ⟨n2, hn2⟩ : ∃ n, ys.length = n := ⟨_, rfl⟩
 have HN1 := zh hn1
 have HN2 := zh hn2
 rw [hn1] at h1 ⊢
 rw [hn2] at h2 ⊢
 have hmm := @run_makeMap Tryz.prog
 clear X1 hs hz hzz hn1 hn2
 go_enter Tryz.func161, Tryz.ntmps161
 go_wp2_with fail
 try simp only [hW1, hmb]
 clear hW1 hmb hmm
 go_loopw [6, 7] (fun v i wr => ∃ k m : Nat, i = .int .i64 k ∧ k ≤ n1 ∧ m ≤ k ∧ Hid (RowT wr w.heap.size v (addAll ([], fun _ => false) (xs.take k)).1) ∧ Hid (MapT wr mb m (addAll ([], fun _ => false) (xs.take k)).2) ∧ Hid (Ext w wr)) (fun _ i _ => n1 - (intOf i).toNat)
 case atStart => exact ⟨0, 0, rfl, Nat.zero_le _, Nat.le_refl _, zh (World.ownsRow_nil _ _ _ _), HM1, HX1⟩
 case round =>
  clear HM1 HX1
  obtain ⟨k, m, rfl, hk, hmk, hr, hm, hx⟩ := hrel
  by_cases hlt : k < n1
  ·obtain ⟨x, hxk⟩ : ∃ x, xs[k]? = some x := ⟨_, List.getElem?_eq_getElem (by have := HN1.out; omega)⟩
   obtain ⟨g, og, hA, lg, x0⟩ : ∃ g og, A = some ⟨g, og, none⟩ ∧ g < wr.heap.size ∧ wr.cell? ⟨g, og + k, none⟩ = some (.string x) := by
    obtain ⟨A', c', h1, h2, _⟩ := HA.out.ext hx.out
    injection h1 with h1 _ _
    subst h1
    obtain ⟨g, og, h3, h4, h5⟩ := h2 (by simp; have := HN1.out; omega)
    exact ⟨g, og, h3, h4, h5 k _ (by rw [List.getElem?_map, hxk]; rfl)⟩
   subst hA
   have HC := zh (add_any w _ _ mb m _ x wr hr.out hm.out HMB.out hx.out (by have := addAll_len0 (fun _ => false) (xs.take k); have := List.length_take_le k xs; omega) (by omega) (HS.out x (List.mem_append_left _ (List.mem_of_getElem? hxk))))
   have HT : Hid (xs.take (k + 1) = xs.take k ++ [x]) := zh (by rw [List.take_add_one, hxk]; rfl)
   clear hxk
   go_wp2_with fail
   refine HC.out.mono ?_
   rintro e w2 ⟨v', m', rfl, hr', hm', hmm', hx'⟩
   have HR := zh hr'
   have HM := zh hm'
   have HX := zh hx'
   clear hr' hm' hx' x0 lg
   go_wp2_with fail
   go_roundw
   case rel => exact ⟨k + 1, m', by go_num, by omega, by omega, zh (by rw [HT.out, addAll_snoc]; exact HR.out), zh (by rw [HT.out, addAll_snoc]; exact HM.out), HX⟩
   case measure => simp [intOf]; omega
  ·obtain rfl : k = n1 := by omega
   have HT : Hid (xs.take k = xs) := zh (List.take_of_length_le (by have := HN1.out; omega))
   rw [HT.out] at hr hm
   go_wp2_with fail
   go_loopw [6, 8] (fun v i wr => ∃ j m : Nat, i = .int .i64 j ∧ j ≤ n2 ∧ m ≤ k + j ∧ Hid (RowT wr w.heap.size v (addAll ([], fun _ => false) (xs ++ ys.take j)).1) ∧ Hid (MapT wr mb m (addAll ([], fun _ => false) (xs ++ ys.take j)).2) ∧ Hid (Ext w wr)) (fun _ i _ => n2 - (intOf i).toNat)
   case atStart => exact ⟨0, m, rfl, Nat.zero_le _, by omega, by simpa using hr, by simpa using hm, hx⟩
   case round =>
    clear hr hm hx hmk
    obtain ⟨j, m, rfl, hj, hmk, hr, hm, hx⟩ := hrel
    by_cases hlt : j < n2
    ·obtain ⟨x, hxk⟩ : ∃ x, ys[j]? = some x := ⟨_, List.getElem?_eq_getElem (by have := HN2.out; omega)⟩
     obtain ⟨g, og, hB, lg, x0⟩ : ∃ g og, B = some ⟨g, og, none⟩ ∧ g < wr.heap.size ∧ wr.cell? ⟨g, og + j, none⟩ = some (.string x) := by
      obtain ⟨A', c', h1, h2, _⟩ := HB.out.ext hx.out
      injection h1 with h1 _ _
      subst h1
      obtain ⟨g, og, h3, h4, h5⟩ := h2 (by simp; have := HN2.out; omega)
      exact ⟨g, og, h3, h4, h5 j _ (by rw [List.getElem?_map, hxk]; rfl)⟩
     subst hB
     have HC := zh (add_any w _ _ mb m _ x wr hr.out hm.out HMB.out hx.out (by have h5 := addAll_len0 (fun _ => false) (xs ++ ys.take j); have := List.length_take_le j ys; rw [List.length_append] at h5; have := HN1.out; omega) (by omega) (HS.out x (List.mem_append_right _ (List.mem_of_getElem? hxk))))
     have HT : Hid (xs ++ ys.take (j + 1) = (xs ++ ys.take j) ++ [x]) := zh (by rw [List.take_add_one, hxk, List.append_assoc]; rfl)
     clear hxk
     go_wp2_with fail
     refine HC.out.mono ?_
     rintro e w2 ⟨v', m', rfl, hr', hm', hmm', hx'⟩
     have HR := zh hr'
     have HM := zh hm'
     have HX := zh hx'
     clear hr' hm' hx' x0 lg
     go_wp2_with fail
     go_roundw
     case rel => exact ⟨j + 1, m', by go_num, by omega, by omega, zh (by rw [HT.out, addAll_snoc]; exact HR.out), zh (by rw [HT.out, addAll_snoc]; exact HM.out), HX⟩
     case measure => simp [intOf]; omega
    ·obtain rfl : j = n2 := by omega
     have HT2 : Hid (ys.take j = ys) := zh (List.take_of_length_le (by have := HN2.out; omega))
     rw [HT2.out, HZ.out] at hr
     have HSR : Hid (Calls Tryz.prog 188 #[u6] wr (StrRet wr zs)) := zh (by
      rcases HZZ.out with h | ⟨b, rfl⟩
      ·exact (sorted_few _ zs wr hr.out.reads h).mono (fun e w' ⟨h1, h2⟩ => ⟨_, h1, hr.out.reads.ext h2, h2⟩)
      ·exact sorted_two _ b wr hr.out.reads)
     go_wp2_with fail
     refine HSR.out.mono ?_
     rintro e w5 ⟨v5, rfl, hv5, hx5⟩
     have HV5 := zh hv5
     have HX5 := zh (hx.out.trans hx5)
     clear hx5 hv5
     go_wp2_with fail
     go_ret
     exact ⟨v5, rfl, HV5.out, HX5.out⟩
end Go.Proofs.YthpmncdfaggkiaaGreat
namespace Go.Proofs.YthpmncdfaggkiaaGreat
open Go.RowKit
attribute [local go_sem] more_drew more_drewN more_size more_cell more_frozen more_setCell drew_more drewN_more lt_add_r lt_add_r2 lt_add_r3 lt_add_r4 lt_add_r5 lt_add_r6 lt_add_r7 lt_add_r8 lt_add_r9 lt_add_r10 lt_self_r lt_self_r2
def t0 : ByteArray := tx 0
structure SetRd (w : World) (sb : Nat) (v : Value) (ls : List ByteArray) : Prop where
 cell : w.cell? ⟨sb, 0, none⟩ = some v
 lt : sb < w.heap.size
 str : StrV w v ls
theorem SetRd.ext {w w' : World} {sb : Nat} {v : Value} {ls : List ByteArray} (h : SetRd w sb v ls) (e : Ext w w') : SetRd w' sb v ls := ⟨ext_cell h.cell h.lt e, Nat.lt_of_lt_of_le h.lt e.size, h.str.ext e⟩
theorem lit_text (w : World) (x : ByteArray) : StrV (w.alloc (.cells #[.string x] 9)) (.slice (some ⟨w.heap.size, 0, none⟩) 1 1) [x] := ⟨_, _, rfl, cells_text (ls := [x]) (heap_alloc_new w _) rfl, (fun h => by cases h), Nat.le_refl _, fun g off s h => by injection h with h; injection h with h; subst h; exact ⟨_, heap_alloc_new w _⟩⟩
def ofF (ls : List ByteArray) : List ByteArray := if ls = [] then [] else [tx 0]
set_option maxRecDepth 100000 in
set_option maxHeartbeats 2000000 in
theorem of_nil (a b : Nat) (C : Option Addr) (c d e : Nat) (sv' : Value) (R : Option Addr) (cr : Nat) (w : World) (h : GrRd w a b C d e) : Calls Tryz.prog 185 #[gramV a c, sv', .slice R 0 cr] w (StrRet w [tz]) := by
 obtain ⟨g0, W, hg0, hW, X1, hat⟩ := gr_enter w c h
 have HX := zh X1
 have HS := zh (lit_text W tz)
 clear h X1 hat
 unfold gramV
 go_enter Tryz.func185, Tryz.ntmps185
 go_wp2_with fail
 try simp only [hg0]
 refine wp_loop_rounds 1 ?_
 rw [rounds_succ]
 go_wp2_with fail
 go_ret
 exact ⟨_, rfl, HS.out, HX.out.trans (by repeat first | exact xr _ | refine xa ?_ _ | refine xm ?_ _ _ | refine xd ?_ | refine xn ?_ _ | refine xs ?_ (by simp <;> omega) _)⟩
theorem strNum0 : strOfNums [0] = tx 0 := rfl
set_option maxRecDepth 100000 in
set_option maxHeartbeats 4000000 in
theorem of_two (a b : Nat) (C : Option Addr) (c d e : Nat) (sb : Nat) (vs : Value) (ls : List ByteArray) (cs cr : Nat) (w : World) (h : GrRd w a b C d e) (hs : SetRd w sb vs ls) : Calls Tryz.prog 185 #[gramV a c, .slice (some ⟨sb, 0, none⟩) 1 cs, .slice (some ⟨b, 0, none⟩) 2 cr] w (StrRet w (ofF ls)) := by
 obtain ⟨g0, W, hg0, hW, X1, hat⟩ := gr_enter w c h
 have HX := zh X1
 have HS := zh hs
 obtain ⟨V0, hV0⟩ : ∃ V, W.alloc (.cells #[.string tz] 9) = V := ⟨_, rfl⟩
 obtain ⟨ob, hob⟩ : ∃ ob, W.heap.size = ob := ⟨_, rfl⟩
 have XV : Ext W V0 := by rw [← hV0]; exact (by repeat first | exact xr _ | refine xa ?_ _ | refine xm ?_ _ _ | refine xd ?_ | refine xn ?_ _ | refine xs ?_ (by simp <;> omega) _)
 have HO : Hid (StrV V0 (.slice (some ⟨ob, 0, none⟩) 1 1) [tz]) := zh (by rw [← hV0, ← hob]; exact lit_text W tz)
 have HG := zh (hat.ext XV)
 have HXV := zh XV
 clear h X1 hat hs XV
 unfold gramV
 go_enter Tryz.func185, Tryz.ntmps185
 go_wp2_with fail
 try simp only [hg0, hob, hV0]
 clear hg0 hob hV0 hW
 obtain ⟨k0, k1, k2, k3, lg, p0, p1, p2, p3, lp, r0, r1, lr⟩ := HG.out
 refine wp_loop_rounds 3 ?_
 rw [rounds_succ]
 go_upto_region 5 with fail; refine wp_region_bt (7) (pures_bt [0, 1, 2, 4] (softs_bt [3, 5, 6] .fin)) (by kernel_rfl) (by kernel_rfl) ?_; refine bt_pures _ fun K hK => ?_; simp only [pick, nthC]; (repeat go_big_quiet_step (fail)); refine wpQuiet_nil (hK _ ?_); clear hK K; refine bt_softs _ fun K hK => ?_; simp only [pick, nthC]; (repeat go_big_quiet_step (fail)); refine wpQuiet_nil (hK _ ?_); clear hK K; (refine bt_fin ?_)
 have HX2 : Hid (Ext V0 V0.drew) := zh (by repeat first | exact xr _ | refine xa ?_ _ | refine xm ?_ _ _ | refine xd ?_ | refine xn ?_ _ | refine xs ?_ (by simp <;> omega) _)
 obtain ⟨V1, hV1⟩ : ∃ V, V0.drew = V := ⟨_, rfl⟩
 rw [hV1] at HX2
 try simp only [hV1]
 clear hV1 k0 k1 k2 k3 lg p0 p1 p2 p3 lp r0 r1 lr
 obtain ⟨k0, k1, k2, k3, lg, p0, p1, p2, p3, lp, r0, r1, lr⟩ := HG.out.ext HX2.out
 go_upto_region 6 with fail
 refine wp_region_bt (13) (pures_bt [0, 2, 3, 4, 5] (softs_bt [1, 6, 7] (.step 8 (.step 9 (.step 10 (.step 11 (pures_bt [12] .fin))))))) (by kernel_rfl) (by kernel_rfl) ?_
 refine bt_pures _ fun K hK => ?_; simp only [pick, nthC]; (repeat go_big_quiet_step (fail)); refine wpQuiet_nil (hK _ ?_); clear hK K
 refine bt_softs _ fun K hK => ?_; simp only [pick, nthC]; (repeat go_big_quiet_step (fail)); refine wpQuiet_nil (hK _ ?_); clear hK K
 refine bt_step fun next hn => ?_; simp only [pick, nthC]
 go_wp2_with fail
 refine segQ_mk (fun _ => laid (by repeat first | exact xr _ | refine xa ?_ _ | refine xm ?_ _ _ | refine xd ?_ | refine xn ?_ _ | refine xs ?_ (by simp <;> omega) _)) (hn _ _ ?_)
 clear hn next k0 k1 k2 k3 lg p0 p1 p2 p3 lp r0 r1 lr
 obtain ⟨bb, hbb⟩ : ∃ bb, V1.heap.size = bb := ⟨_, rfl⟩
 have hB := heap_alloc_new V1 (.cells #[.int .u8 0] 5)
 rw [hbb] at hB
 obtain ⟨V2, hV2⟩ : ∃ V, (V1.alloc (.cells #[.int .u8 0] 5)).drew = V := ⟨_, rfl⟩
 have hB2 : V2.heap[bb]? = some (.cells #[.int .u8 0] 5) := by rw [← hV2]; exact hB
 have HX3 : Hid (Ext V1 V2) := zh (by rw [← hV2]; exact (by repeat first | exact xr _ | refine xa ?_ _ | refine xm ?_ _ _ | refine xd ?_ | refine xn ?_ _ | refine xs ?_ (by simp <;> omega) _))
 have hcv := run_convert_bytes_arg (P := Tryz.prog) V2 212 5 Tryz.underlying212 Tryz.underlying5 bb 0 1 1 [0] rfl (fun i hi => by
  obtain rfl : i = 0 := by omega
  exact cell_of_row _ _ 0 _ _ _ hB2) 9 Tryz.underlying9
 rw [strNum0] at hcv
 try simp only [hV2, hbb]
 clear hV2 hbb hB hB2
 refine bt_step fun next hn => ?_; simp only [pick, nthC]
 go_wp2_with fail
 refine segQ_mk (fun _ => laid HX3.out) (hn _ _ ?_)
 clear hn next hcv
 refine bt_step fun next hn => ?_; simp only [pick, nthC]
 go_wp2_with fail
 refine segQ_mk (fun _ => laid (HX3.out.trans (by repeat first | exact xr _ | refine xa ?_ _ | refine xm ?_ _ _ | refine xd ?_ | refine xn ?_ _ | refine xs ?_ (by simp <;> omega) _))) (hn _ _ ?_)
 clear hn next
 have HT := zh (lit_text V2 (tx 0))
 obtain ⟨tb, htb⟩ : ∃ bb, V2.heap.size = bb := ⟨_, rfl⟩
 obtain ⟨V3, hV3⟩ : ∃ V, V2.alloc (.cells #[.string (tx 0)] 9) = V := ⟨_, rfl⟩
 have HX4 : Hid (Ext V1 V3) := zh (by rw [← hV3]; exact HX3.out.trans (by repeat first | exact xr _ | refine xa ?_ _ | refine xm ?_ _ _ | refine xd ?_ | refine xn ?_ _ | refine xs ?_ (by simp <;> omega) _))
 rw [hV3, htb] at HT
 try simp only [hV3, htb]
 clear hV3 htb
 have HC := zh (cat_eps _ _ 0 V3 (HO.out.ext (HX2.out.trans HX4.out)) HT.out)
 refine bt_step fun next hn => ?_; simp only [pick, nthC]
 go_wp2_with fail
 refine HC.out.mono ?_
 rintro e' V4 ⟨v4, rfl, hv4, hx4⟩
 have HX5 := zh (HX4.out.trans hx4)
 have HV4 := zh hv4
 clear hx4 hv4 HC HT
 go_wp2_with fail
 refine segQ_mk (fun _ => laid HX5.out) (hn _ _ ?_)
 clear hn next
 refine bt_pures _ fun K hK => ?_; simp only [pick, nthC]; (repeat go_big_quiet_step (fail)); refine wpQuiet_nil (hK _ ?_); clear hK K
 (refine bt_fin ?_)
 go_wp2_with fail
 rw [rounds_succ]
 obtain ⟨k0, k1, k2, k3, lg, p0, p1, p2, p3, lp, r0, r1, lr⟩ := HG.out.ext (HX2.out.trans HX5.out)
 go_upto_region 5 with fail; refine wp_region_bt (7) (pures_bt [0, 1, 2, 4] (softs_bt [3, 5, 6] .fin)) (by kernel_rfl) (by kernel_rfl) ?_; refine bt_pures _ fun K hK => ?_; simp only [pick, nthC]; (repeat go_big_quiet_step (fail)); refine wpQuiet_nil (hK _ ?_); clear hK K; refine bt_softs _ fun K hK => ?_; simp only [pick, nthC]; (repeat go_big_quiet_step (fail)); refine wpQuiet_nil (hK _ ?_); clear hK K; (refine bt_fin ?_)
 have HX6 : Hid (Ext V4 V4.drew) := zh (by repeat first | exact xr _ | refine xa ?_ _ | refine xm ?_ _ _ | refine xd ?_ | refine xn ?_ _ | refine xs ?_ (by simp <;> omega) _)
 obtain ⟨V5, hV5⟩ : ∃ V, V4.drew = V := ⟨_, rfl⟩
 rw [hV5] at HX6
 try simp only [hV5]
 clear hV5 k0 k1 k2 k3 lg p0 p1 p2 p3 lp r0 r1 lr
 have XX : Ext V0 V5 := HX2.out.trans (HX5.out.trans HX6.out)
 have HXX := zh XX
 obtain ⟨k0, k1, k2, k3, lg, p0, p1, p2, p3, lp, r0, r1, lr⟩ := HG.out.ext XX
 obtain ⟨s0, sl, sstr⟩ := HS.out.ext (HX.out.trans (HXV.out.trans XX))
 have HSS := zh sstr
 have HCC : Hid (∀ w1, Ext V5 w1 → Calls Tryz.prog 158 #[.int .i64 1, v4, vs] w1 (StrRet w1 (ofF ls))) := zh (fun w1 e1 => by
  have h4 := HV4.out.ext (HX6.out.trans e1)
  have hs := HSS.out.ext e1
  unfold ofF
  cases ls with
  | nil =>
   obtain ⟨B, cb, rfl, _⟩ := hs
   exact cat_none v4 (tx 0) B cb w1 h4
  | cons x xs =>
   obtain ⟨B, cb, rfl, _⟩ := hs
   rw [if_neg (by simp)]
   exact cat_whole v4 0 B _ cb w1 h4 (by simp))
 clear XX sstr
 go_upto_region 7 with fail
 refine wp_region_bt (15) (pures_bt [0, 2, 3, 4, 5, 6, 8] (softs_bt [1, 7, 9, 10, 11, 12] (.step 13 (pures_bt [14] .fin)))) (by kernel_rfl) (by kernel_rfl) ?_
 refine bt_pures _ fun K hK => ?_; simp only [pick, nthC]; (repeat go_big_quiet_step (fail)); refine wpQuiet_nil (hK _ ?_); clear hK K
 refine bt_softs _ fun K hK => ?_; simp only [pick, nthC]; (repeat go_big_quiet_step (fail)); refine wpQuiet_nil (hK _ ?_); clear hK K
 refine bt_step fun next hn => ?_; simp only [pick, nthC]
 go_wp2_with fail
 refine (HCC.out _ (by repeat first | exact xr _ | refine xa ?_ _ | refine xm ?_ _ _ | refine xd ?_ | refine xn ?_ _ | refine xs ?_ (by simp <;> omega) _)).mono ?_
 rintro e' V6 ⟨v6, rfl, hv6, hx6⟩
 have HX7 : Hid (Ext V5 V6) := zh (Ext.trans (by repeat first | exact xr _ | refine xa ?_ _ | refine xm ?_ _ _ | refine xd ?_ | refine xn ?_ _ | refine xs ?_ (by simp <;> omega) _) hx6)
 have HV6 := zh hv6
 clear hx6 hv6 HCC
 go_wp2_with fail
 refine segQ_mk (fun _ => laid HX7.out) (hn _ _ ?_)
 clear hn next k0 k1 k2 k3 lg p0 p1 p2 p3 lp r0 r1 lr s0 sl
 refine bt_pures _ fun K hK => ?_; simp only [pick, nthC]; (repeat go_big_quiet_step (fail)); refine wpQuiet_nil (hK _ ?_); clear hK K
 (refine bt_fin ?_)
 go_wp2_with fail
 rw [rounds_succ]
 go_wp2_with fail
 go_ret
 exact ⟨v6, rfl, HV6.out, HX.out.trans (HXV.out.trans (HXX.out.trans HX7.out))⟩
set_option maxRecDepth 100000 in
set_option maxHeartbeats 2000000 in
theorem Of_nil (a b : Nat) (C : Option Addr) (c d e : Nat) (S R : Option Addr) (cs cr : Nat) (w : World) (h : GrRd w a b C d e) : Calls Tryz.prog 159 #[gramV a c, .slice S 1 cs, .slice R 0 cr] w (StrRet w [tz]) := by
 obtain ⟨g0, W, hg0, hW, X1, hat⟩ := gr_enter w c h
 have HX := zh X1
 have HCK := zh (check_gram a b C c d e W (h.ext X1))
 have HO := zh (fun w1 (e1 : Ext W w1) => of_nil a b C c d e (.slice S 1 cs) R cr w1 ((h.ext X1).ext e1))
 have HGW := zh hat
 clear h X1
 obtain ⟨k0, k1, k2, k3, lg, p0, p1, p2, p3, lp, r0, r1, lr⟩ := hat
 unfold gramV at HO ⊢
 go_enter Tryz.func159, Tryz.ntmps159
 go_wp2_with fail
 try simp only [hg0]
 refine HCK.out.mono ?_
 rintro e' W2 ⟨rfl, hx2⟩
 have HG := zh (HGW.out.ext hx2)
 have HX2 := zh hx2
 clear hW hg0 k0 k1 k2 k3 lg p0 p1 p2 p3 lp r0 r1 lr hx2 HCK HGW
 obtain ⟨k0, k1, k2, k3, lg, p0, p1, p2, p3, lp, r0, r1, lr⟩ := HG.out
 go_wp2_with fail
 refine wp_loop_rounds 1 ?_
 rw [rounds_succ]
 go_wp2_with fail
 refine (HO.out _ HX2.out).mono ?_
 rintro e' W3 ⟨v3, rfl, hv3, hx3⟩
 have HV3 := zh hv3
 have HX3 := zh (HX.out.trans (HX2.out.trans hx3))
 clear hv3 hx3 k0 k1 k2 k3 lg p0 p1 p2 p3 lp r0 r1 lr
 go_wp2_with fail
 go_ret
 exact ⟨v3, rfl, HV3.out, HX3.out⟩
set_option maxRecDepth 100000 in
set_option maxHeartbeats 4000000 in
theorem Of_two (a b : Nat) (C : Option Addr) (c d e : Nat) (sb : Nat) (vs : Value) (ls : List ByteArray) (cs cr : Nat) (w : World) (h : GrRd w a b C d e) (hs : SetRd w sb vs ls) : Calls Tryz.prog 159 #[gramV a c, .slice (some ⟨sb, 0, none⟩) 1 cs, .slice (some ⟨b, 0, none⟩) 2 cr] w (StrRet w (ofF ls)) := by
 obtain ⟨g0, W, hg0, hW, X1, hat⟩ := gr_enter w c h
 have HX := zh X1
 have HCK := zh (check_gram a b C c d e W (h.ext X1))
 have HO := zh (fun w1 (e1 : Ext W w1) => of_two a b C c d e sb vs ls cs cr w1 ((h.ext X1).ext e1) ((hs.ext X1).ext e1))
 have HGW := zh hat
 clear h X1 hs
 obtain ⟨k0, k1, k2, k3, lg, p0, p1, p2, p3, lp, r0, r1, lr⟩ := hat
 unfold gramV at HO ⊢
 go_enter Tryz.func159, Tryz.ntmps159
 go_wp2_with fail
 try simp only [hg0]
 refine HCK.out.mono ?_
 rintro e' W2 ⟨rfl, hx2⟩
 have HG := zh (HGW.out.ext hx2)
 have HX2 := zh hx2
 clear hW hg0 k0 k1 k2 k3 lg p0 p1 p2 p3 lp r0 r1 lr hx2 HCK HGW
 obtain ⟨k0, k1, k2, k3, lg, p0, p1, p2, p3, lp, r0, r1, lr⟩ := HG.out
 go_wp2_with fail
 clear k0 k1 k2 k3 lg p0 p1 p2 p3 lp r0 r1 lr
 go_loopw [7] (fun i wr => (i = .int .i64 0 ∨ i = .int .i64 1 ∨ i = .int .i64 2) ∧ Hid (Ext W2 wr)) (fun i _ => 2 - (intOf i).toNat)
 case atStart => exact ⟨.inl rfl, zh (Ext.refl _)⟩
 case round =>
  obtain ⟨hi, hx⟩ := hrel
  obtain ⟨k0, k1, k2, k3, lg, p0, p1, p2, p3, lp, r0, r1, lr⟩ := HG.out.ext hx.out
  rcases hi with rfl | rfl | rfl
  ·go_upto_region 6 with fail; refine wp_region_bt (17) (pures_bt [0, 1, 2] (softs_bt [3, 4, 5, 6, 7, 8, 9, 10, 11, 12, 13, 14, 15, 16] .fin)) (by kernel_rfl) (by kernel_rfl) ?_; refine bt_pures _ fun K hK => ?_; simp only [pick, nthC]; (repeat go_big_quiet_step (fail)); refine wpQuiet_nil (hK _ ?_); clear hK K; refine bt_softs _ fun K hK => ?_; simp only [pick, nthC]; (repeat go_big_quiet_step (fail)); refine wpQuiet_nil (hK _ ?_); clear hK K; (refine bt_fin ?_)
   go_wp2_with fail
   go_roundw
   case rel => exact ⟨.inr (.inl rfl), zh (hx.out.trans (by repeat first | exact xr _ | refine xa ?_ _ | refine xm ?_ _ _ | refine xd ?_ | refine xn ?_ _ | refine xs ?_ (by simp <;> omega) _))⟩
   case measure => simp [intOf]
  ·go_upto_region 6 with fail; refine wp_region_bt (17) (pures_bt [0, 1, 2] (softs_bt [3, 4, 5, 6, 7, 8, 9, 10, 11, 12, 13, 14, 15, 16] .fin)) (by kernel_rfl) (by kernel_rfl) ?_; refine bt_pures _ fun K hK => ?_; simp only [pick, nthC]; (repeat go_big_quiet_step (fail)); refine wpQuiet_nil (hK _ ?_); clear hK K; refine bt_softs _ fun K hK => ?_; simp only [pick, nthC]; (repeat go_big_quiet_step (fail)); refine wpQuiet_nil (hK _ ?_); clear hK K; (refine bt_fin ?_)
   go_wp2_with fail
   go_roundw
   case rel => exact ⟨.inr (.inr rfl), zh (hx.out.trans (by repeat first | exact xr _ | refine xa ?_ _ | refine xm ?_ _ _ | refine xd ?_ | refine xn ?_ _ | refine xs ?_ (by simp <;> omega) _))⟩
   case measure => simp [intOf]
  ·go_wp2_with fail
   refine (HO.out _ (HX2.out.trans hx.out)).mono ?_
   rintro e' W3 ⟨v3, rfl, hv3, hx3⟩
   have HV3 := zh hv3
   have HX3 := zh (HX.out.trans (HX2.out.trans (hx.out.trans hx3)))
   clear hv3 hx3 k0 k1 k2 k3 lg p0 p1 p2 p3 lp r0 r1 lr
   go_wp2_with fail
   go_ret
   exact ⟨v3, rfl, HV3.out, HX3.out⟩
theorem StrV.at {w : World} {v : Value} {ls : List ByteArray} {n : Nat} (h : StrV w v ls) (hn : ls.length = n) : ∃ A c, v = .slice A n c := by
 obtain ⟨A, c, h1, _⟩ := h
 exact ⟨A, c, by rw [← hn]; exact h1⟩
theorem StrV.store {w : World} {v u : Value} {ls : List ByteArray} {ob : Nat} {cs : Array Value} (h : StrV w v ls) (hb : w.heap[ob]? = some (.cells cs 161)) : StrV (w.setCell ⟨ob, 0, none⟩ u) v ls :=
 h.turn (S := fun i => i = ob) (Turn.set1 _ _ _) (fun g cs hg he => ne_type hg hb (by decide) he)
structure SetOwn (w0 w : World) (ob : Nat) (v : Value) (ls : List ByteArray) : Prop where
 own : Own1 w0 w 161 ob v
 str : StrV w v ls
section
variable {w0 w w' W : World} {ob : Nat} {v u : Value} {ls zs : List ByteArray}
theorem SetOwn.to (h : SetOwn w0 w ob v ls) (e : Ext w w') : SetOwn w0 w' ob v ls := ⟨h.own.to e, h.str.ext e⟩
theorem SetOwn.rd (h : SetOwn w0 w ob v ls) : SetRd w ob v ls := ⟨h.own.cell, h.own.lt, h.str⟩
theorem SetOwn.put (h : SetOwn w0 w ob v ls) (hu : StrV w u zs) (hW : w.setCell ⟨ob, 0, none⟩ u = W) : SetOwn w0 W ob u zs := by
 refine ⟨h.own.setX u hW, ?_⟩
 subst hW
 exact hu.store h.own.blk
end
end Go.Proofs.YthpmncdfaggkiaaGreat
