/- LinesScript: the walk. -/
import Derived.Test.YtfjkghbnlmhcnaaLm
import Derived.WalkSpells
import Derived.WalkLawsBesides
import Derived.BigRegion
import Derived.Deep.RegionWith
import Derived.Deep.QuietTactic
import Derived.Deep.DeepCutAuto
import Derived.Deep.RegionHeld3
import Derived.Deep.RegionLaw
import Derived.BigQuiet
import Derived.Lib.Hide
namespace Go.Proofs.Ytfjkghbnlmhcnaa
open Go.RowKit
attribute [local go_sem] more_drew more_drewN more_size more_cell more_frozen more_setCell drew_more drewN_more lt_add_r lt_add_r2 lt_add_r3 lt_add_r4 lt_add_r5 lt_add_r6 lt_add_r7 lt_add_r8 lt_add_r9 lt_add_r10 lt_self_r lt_self_r2

set_option maxRecDepth 100000 in
set_option maxHeartbeats 4000000 in
theorem linesScript_any (s : ByteArray) (J : Option Addr) (c : Nat) (js : List Actn) (line column at0 : Int) (W : World) (hJ : ActsAt W J js) (hl : js.length ≤ c) (hc : c ≤ 9223372036854775807) (hs : s.size ≤ 9223372036854775807) (hB : ∀ d ∈ js, AcB d) :
    Calls Try.prog 7 #[.string s, .slice J js.length c, .int .i64 line, .int .i64 column, .int .i64 at0] W fun e w' => e = .returned (.bool true) ∧ Ext W w' := by
  have HJ := Lib.hid hJ
  have HB := Lib.hid hB
  clear hJ hB
  go_enter Try.func7, Try.ntmps7
  go_wp2_with fail
  refine (lives09_any W).mono ?_
  rintro e w1 ⟨rfl, hx1⟩
  have HX1 := Lib.hid hx1
  have HJ1 := Lib.hid (HJ.out.ext hx1)
  clear hx1
  go_wp2_with fail
  refine (light_any s J c js w1 HJ1.out hl hc hs HB.out).mono ?_
  rintro e w2 ⟨b, rfl, hb, rfl⟩
  cases b with
  | false =>
    go_wp2_with fail
    go_ret
    exact ⟨rfl, HX1.out⟩
  | true =>
    obtain ⟨l1, l2, l3⟩ := hb rfl
    have HL1 := Lib.hid l1
    clear hb l1
    go_wp2_with fail
    refine (new_any s w1 (by omega)).mono ?_
    rintro e w2 ⟨g, rfl, hi2, hx2⟩
    have HI2 := Lib.hid hi2
    have HX2 := Lib.hid hx2
    clear hi2 hx2
    go_wp2_with fail
    refine (rnew_any s w2 (by omega)).mono ?_
    rintro e w3 ⟨go, rfl, ht3, hgo, hx3⟩
    have HI3 := Lib.hid (HI2.out.ext hx3)
    have HT3 := Lib.hid ht3
    have HGO : Hid (w1.heap.size ≤ go) := Lib.hid (by have := HX2.out.size; omega)
    have HX3 := Lib.hid (HX2.out.trans hx3)
    clear ht3 hgo hx3
    go_wp2_with fail
    go_loopw [15] (fun v wr => ∃ (i : Nat) (sb : ByteArray), i ≤ js.length ∧ v = .int .i64 i ∧ sb.size ≤ 200 + 40 * i ∧ Hid (IdxAt wr w1.heap.size g (startsF sb.data.toList) sb.size) ∧ Hid (TxtAt wr go sb) ∧ Hid (Ext w1 wr)) (fun v _ => js.length - (intOf v).toNat)
    case atStart => exact ⟨0, s, Nat.zero_le _, rfl, by omega, HI3, HT3, HX3⟩
    case round =>
      obtain ⟨i, sb, hi, rfl, hsb, hid, htd, hx⟩ := hrel
      by_cases hlt : i < js.length
      · obtain ⟨x, hxi⟩ : ∃ x, js[i]? = some x := ⟨_, List.getElem?_eq_getElem hlt⟩
        have xs40 := HL1.out i x hxi
        obtain ⟨⟨xa1, xa2⟩, ⟨xd1, xd2⟩, _, ⟨xm1, xm2⟩⟩ := HB.out x (List.mem_of_getElem? hxi)
        have hsbl : sb.data.toList.length = sb.size := by rw [Array.length_toList]; rfl
        have HSB := Lib.hid hsbl
        clear hsbl
        obtain ⟨b, off, rfl, hb, hcs⟩ := (HJ1.out.ext hx.out) (by omega)
        obtain ⟨d0, d1, d2, d3⟩ := hcs i x hxi
        have hbx := (HJ1.out (by omega))
        have HBW : Hid (b < w1.heap.size) := Lib.hid (by obtain ⟨b', o', he, hb', _⟩ := hbx; cases he; exact hb')
        clear hcs hxi hbx
        obtain ⟨at_, del, ins, more_⟩ := x
        dsimp only at xs40 xa1 xa2 xd1 xd2 xm1 xm2 d0 d1 d2 d3
        obtain ⟨im, him⟩ : ∃ im, wrap64 ((ins.size : Int) + more_) = im := ⟨_, rfl⟩
        have him2 : IntKind.i64.wrap ((ins.size : Int) + more_) = im := (IntWalk.i64_left _).trans him
        go_upto_region 12 with fail
        refine wp_region_bt (24) (softs_bt [0, 1, 2, 3, 4, 5, 6, 7, 8, 9, 10, 11, 12, 13, 14, 15, 16, 17, 18, 19, 20, 21, 22] (.step 23 (.step 24 .fin))) (by kernel_rfl) (by kernel_rfl) ?_
        (refine bt_softs _ fun K hK => ?_); (simp only [pick, nthC]); (repeat (go_big_quiet_step (fail))); (refine wpQuiet_nil (hK _ ?_)); (clear hK K)
        (refine bt_step fun next hn => ?_); (simp only [pick, nthC])
        go_wp2_with fail
        refine segQ_mk (fun _ => laid (by repeat (first | exact Ext.refl _ | refine Ext.alloc ?_ _ | refine Ext.more ?_ _ _ | refine Ext.drew ?_ | refine Ext.drewN ?_ _ | refine Ext.setCell ?_ (by simp <;> omega) _))) (hn _ _ ?_)
        clear hn next
        (refine bt_step fun next hn => ?_); (simp only [pick, nthC])
        go_wp2_with fail
        refine segQ_mk (fun h => absurd rfl h) (hn _ _ ?_)
        clear hn next
        (refine bt_fin ?_)
        obtain ⟨bx, hbx⟩ : ∃ bx, wr.heap.size = bx := ⟨_, rfl⟩
        obtain ⟨W4, hW4⟩ : ∃ W4, (wr.alloc (.cells #[.int .i64 at_, .int .i64 del, .int .i64 im] 34)).drew = W4 := ⟨_, rfl⟩
        have X4 : Hid (Ext wr W4) := Lib.hid (by rw [← hW4]; exact (by repeat (first | exact Ext.refl _ | refine Ext.alloc ?_ _ | refine Ext.more ?_ _ _ | refine Ext.drew ?_ | refine Ext.drewN ?_ _ | refine Ext.setCell ?_ (by simp <;> omega) _)))
        have B4 : Hid (W4.heap[bx]? = some (.cells #[.int .i64 at_, .int .i64 del, .int .i64 im] 34)) := Lib.hid (by rw [← hW4, ← hbx]; exact heap_alloc_new _ _)
        rw [hW4, hbx]
        have HBX := Lib.hid hbx
        clear hW4 hbx d0 d1 d3 him him2 xm1 xm2
        have K2 : Hid (W4.cell? ⟨b, off + i * 4 + 2, none⟩ = some (.string ins)) := Lib.hid ((World.cell?_of_block (X4.out.below.block b hb)).trans d2)
        have HI4 := Lib.hid (hid.out.ext X4.out)
        have HT4 := Lib.hid (htd.out.ext X4.out)
        have HX4 := Lib.hid (hx.out.trans X4.out)
        have lb : b < W4.heap.size := Nat.lt_of_lt_of_le hb X4.out.size
        have lx := lt_of_heap B4.out
        clear d2 hb
        have KX : Hid (∀ x : EdS W4 b bx, (x.V.cell? ⟨b, off + i * 4 + 2, none⟩ = some (.string ins)) ∧ (x.V.cell? ⟨bx, 0, none⟩ = some (.int .i64 at_)) ∧ (x.V.cell? ⟨bx, 1, none⟩ = some (.int .i64 del)) ∧ (x.V.cell? ⟨bx, 2, none⟩ = some (.int .i64 im)) ∧ b < x.V.heap.size ∧ bx < x.V.heap.size) := Lib.hid fun x => by
          have e0 := cell_of_row _ _ 0 _ _ _ (x.box.trans B4.out)
          have e1 := cell_of_row _ _ 1 _ _ _ (x.box.trans B4.out)
          have e2 := cell_of_row _ _ 2 _ _ _ (x.box.trans B4.out)
          simp at e0 e1 e2
          refine ⟨(World.cell?_of_block x.idx).trans K2.out, e0, e1, e2, ?_, lt_of_heap (x.box.trans B4.out)⟩
          have := x.idx
          rw [Array.getElem?_eq_getElem lb] at this
          exact lt_of_heap this
        have kx0 := fun x => (KX.out x).1
        have kx1 := fun x => (KX.out x).2.1
        have kx2 := fun x => (KX.out x).2.2.1
        have kx3 := fun x => (KX.out x).2.2.2.1
        have kx4 := fun x => (KX.out x).2.2.2.2.1
        have kx5 := fun x => (KX.out x).2.2.2.2.2
        go_upto_region 13 with fail
        refine wp_region_btC (T := EdS W4 b bx) EdS.V (17) (softs_bt [0, 1, 2, 3, 4, 5, 6, 8, 9, 10, 11, 12, 13, 14] (.step 7 (.step 15 (softs_bt [16] .fin)))) (by kernel_rfl) (by kernel_rfl) ⟨⟨W4.drew, rfl, rfl⟩, rfl⟩ ?_
        (refine bt_softs _ fun K hK => ?_); (simp only [pick, nthC]); (repeat (go_big_quiet_step (fail))); (refine wpQuiet_nil (hK _ ?_)); (clear hK K)
        clear kx0 kx1 kx2 kx3 kx4 kx5
        by_cases hok : 0 ≤ at_ ∧ 0 ≤ del ∧ at_ + del ≤ (sb.size : Int) ∧ im = (ins.size : Int)
        · obtain ⟨o1, o2, o3, rfl⟩ := hok
          obtain ⟨a, rfl⟩ : ∃ a : Nat, at_ = a := ⟨at_.toNat, by omega⟩
          obtain ⟨d, rfl⟩ : ∃ d : Nat, del = d := ⟨del.toNat, by omega⟩
          have had : a + d ≤ sb.size := by omega
          (refine bt_step fun next hn => ?_); (simp only [pick, nthC])
          go_wp2_with fail
          refine (edit_yes (w := W4.drew) sb.data.toList a d ins HSB.out.symm (HI4.out.ext (Ext.refl W4).drew) HX4.out.size (by omega) (by omega) had).mono ?_
          intro e w5 hy
          have HX5 : Hid (Ext w1 w5) := Lib.hid (EditYes.ext (w := W4.drew) (W := w1) (HX4.out.trans (Ext.refl W4).drew) (HI4.out.ext (Ext.refl W4).drew) (Nat.le_refl _) HX4.out.size hy)
          obtain ⟨rfl, hi5, ht5⟩ := hy
          have HT5 : Hid (TxtAt w5 go sb) := Lib.hid (TxtAt.keepX (HI4.out.ext (Ext.refl W4).drew) (HT4.out.ext (Ext.refl W4).drew) ht5)
          obtain ⟨A, cc, h1, h2, h3⟩ := hid.out
          have h1' : W4.drew.heap[g]? = _ := ext_block h1 X4.out.drew
          have HBB : Hid (w5.heap[b]? = W4.heap[b]?) := Lib.hid (ht5.block b lb fun hk => by
            have := HBW.out
            rcases hk with hk | hk | hk
            · omega
            · have := own_block h2 b (blk_own (RowAt.of h1' hk)); omega
            · have h9 : W4.heap.size ≤ b := hk
              omega)
          have HBXX : Hid (w5.heap[bx]? = W4.heap[bx]?) := Lib.hid (ht5.block bx lx fun hk => by
            have := HBX.out
            have := lt_of_heap h1
            rcases hk with hk | hk | hk
            · omega
            · have := own_old h2 bx (blk_own (RowAt.of h1' hk)); omega
            · have h9 : W4.heap.size ≤ bx := hk
              omega)
          have HI5 := Lib.hid hi5
          have HSZ5 : Hid (W4.heap.size ≤ w5.heap.size) := Lib.hid ht5.size
          have HGB : Hid (go ≠ bx) := Lib.hid (by have := lt_of_heap (show wr.heap[go]? = _ from htd.out); have := HBX.out; omega)
          have HGB2 : Hid (go ≠ b) := Lib.hid (by have := HGO.out; have := HBW.out; omega)
          clear h1 h2 h3 h1' ht5 hi5 A cc
          go_wp2_with fail
          refine segQ_mk (fun _ => ⟨⟨w5, HBB.out, HBXX.out⟩, rfl⟩) (hn _ _ ?_)
          clear hn next
          (refine bt_step fun next hn => ?_); (simp only [pick, nthC])
          go_wp2_with fail
          refine (redit_yes a d ins HT5.out (by omega) (by omega) had).mono ?_
          intro e w6 hy
          obtain ⟨rfl, ⟨ns, hn6, hnl, hnz⟩, ht6⟩ := hy
          have HI7 : Hid (IdxAt w6 w1.heap.size g (startsF ns.data.toList) ns.size) := Lib.hid (by rw [hnl, hnz]; exact HI5.out.keepR HT5.out ht6)
          have HT7 := Lib.hid hn6
          have HX7 : Hid (Ext w1 w6) := Lib.hid (Ext.of_below ((HX5.out.below).trans (ht6.below HX5.out.size fun k hk => by
            have := HGO.out
            have := HX5.out.size
            rcases hk with hk | hk <;> omega)))
          have HB6 : Hid (w6.heap[b]? = W4.heap[b]?) := Lib.hid ((ht6.block b (by have := HSZ5.out; omega) (by have := HGB2.out; have := HSZ5.out; omega)).trans HBB.out)
          have HBX6 : Hid (w6.heap[bx]? = W4.heap[bx]?) := Lib.hid ((ht6.block bx (by have := HSZ5.out; omega) (by have := HGB.out; have := HSZ5.out; omega)).trans HBXX.out)
          have HNB : Hid (ns.size ≤ 200 + 40 * (i + 1)) := Lib.hid (by omega)
          clear hn6 hnl hnz ht6
          go_wp2_with fail
          refine segQ_mk (fun _ => ⟨⟨w6, HB6.out, HBX6.out⟩, rfl⟩) (hn _ _ ?_)
          clear hn next
          (refine bt_softs _ fun K hK => ?_); (simp only [pick, nthC]); (repeat (go_big_quiet_step (fail))); (refine wpQuiet_nil (hK _ ?_)); (clear hK K)
          (refine bt_fin ?_)
          have hn3 : ns.size ≤ 3000 := by have := HNB.out; omega
          have hyl := starts_len ns.data.toList
          have hnsl : ns.data.toList.length = ns.size := by rw [Array.length_toList]; rfl
          have HWI := Lib.hid (starts_within ns.data.toList)
          rw [hnsl] at hyl HWI
          have hypos : 0 < (startsF ns.data.toList).length := Nat.succ_pos _
          have H0 : Hid ((startsF ns.data.toList)[0]? = some 0) := Lib.hid rfl
          have HRS := Lib.hid (starts_rise ns.data.toList)
          have CR1 := Lib.hid (fun (w : World) (h : TxtAt w go ns) => rstart_all (w := w) line h (by omega))
          have CR2 := Lib.hid (fun (w : World) (h : TxtAt w go ns) => rline_all (w := w) at0 h (by omega))
          have CR3 := Lib.hid (fun (w : World) (h : TxtAt w go ns) => rplace_all (w := w) line column h (by omega))
          have CR4 := Lib.hid (fun (w : World) (h : TxtAt w go ns) => rstarts_any (w := w) h (by omega))
          obtain ⟨ys, hys⟩ : ∃ ys, startsF ns.data.toList = ys := ⟨_, rfl⟩
          have HYS := Lib.hid hys
          rw [hys] at HI7 hyl hypos H0 HRS CR1 CR2 CR3 CR4 HWI
          clear hnsl hys
          go_wp2_with fail
          refine (start_all line HI7.out).mono ?_
          rintro e u1 ⟨v1, k1, rfl, b1, x1⟩
          have X1 := Lib.hid x1
          clear x1
          go_wp2_with fail
          refine (CR1.out _ (HT7.out.ext X1.out)).mono ?_
          rintro e u2 ⟨v2, k2, rfl, b2, x2⟩
          obtain ⟨rfl, rfl⟩ := b1.det b2
          have X2 := Lib.hid (X1.out.trans x2)
          clear x2 b1 b2
          go_wp2_with fail
          refine (line_all at0 (HI7.out.ext X2.out) (by omega) (by omega) H0.out HRS.out).mono ?_
          rintro e u3 ⟨v3, v4, k3, rfl, b1, x3⟩
          have X3 := Lib.hid (X2.out.trans x3)
          clear x3
          go_wp2_with fail
          refine (CR2.out _ (HT7.out.ext X3.out)).mono ?_
          rintro e u4 ⟨v3', v4', k3', rfl, b2, x4⟩
          obtain ⟨rfl, rfl, rfl⟩ := b1.det b2
          have X4 := Lib.hid (X3.out.trans x4)
          clear x4 b1 b2
          go_wp2_with fail
          refine (place_all line column (HI7.out.ext X4.out) (by omega) HWI.out (by omega)).mono ?_
          rintro e u5 ⟨v5, k5, rfl, b1, x5⟩
          have X5 := Lib.hid (X4.out.trans x5)
          clear x5
          go_wp2_with fail
          refine (CR3.out _ (HT7.out.ext X5.out)).mono ?_
          rintro e u6 ⟨v5', k5', rfl, b2, x6⟩
          obtain ⟨rfl, rfl⟩ := b1.det b2
          have X6 := Lib.hid (X5.out.trans x6)
          clear x6 b1 b2
          go_wp2_with fail
          refine (CR4.out _ (HT7.out.ext X6.out)).mono ?_
          rintro e u7 ⟨A7, c7, rfl, ho7, x7⟩
          have X7 := Lib.hid (X6.out.trans x7)
          have HO7 := Lib.hid ho7
          clear x7 ho7
          have q1 : (v2 != v2) = false := by simp
          have q2 : (k2 != k2) = false := by simp
          have q3 : (v3' != v3') = false := by simp
          have q4 : (v4' != v4') = false := by simp
          have q5 : (k3' != k3') = false := by simp
          have q6 : (v5' != v5') = false := by simp
          have q7 : (k5' != k5') = false := by simp
          have HI8 := Lib.hid (HI7.out.ext X7.out)
          have HT8 := Lib.hid (HT7.out.ext X7.out)
          have KT : Hid (∀ x : Lay, (more u7 x.os x.k).cell? ⟨go, 0, none⟩ = some (.string ns) ∧ go < (more u7 x.os x.k).heap.size) := Lib.hid fun x => (HT8.out.ext ⟨x.os, x.k, rfl⟩).cell
          have kt1 := fun x => (KT.out x).1
          have kt2 := fun x => (KT.out x).2
          go_upto_region 22 with fail
          refine wp_region_bt (57) (softs_bt [0, 1, 2, 3, 4, 5, 6, 7, 8, 9, 10, 11, 12, 13, 14, 15, 16, 17, 18, 19, 20, 21, 22, 23, 24, 25, 26, 27, 28, 29, 30, 31, 32, 33, 34, 36] (.step 35 (.step 37 (softs_bt [38, 39, 40, 41, 43, 44] (.step 42 (softs_bt [45, 46, 47, 48, 50, 51, 52, 53, 54] (.step 49 (softs_bt [55, 56] .fin)))))))) (by kernel_rfl) (by kernel_rfl) ?_
          (refine bt_softs _ fun K hK => ?_); (simp only [pick, nthC]); (repeat (go_big_quiet_step (fail))); (refine wpQuiet_nil (hK _ ?_)); (clear hK K)
          (refine bt_step fun next hn => ?_); (simp only [pick, nthC])
          go_wp2_with fail
          refine (starts_any (HI8.out.ext (by repeat (first | exact Ext.refl _ | refine Ext.alloc ?_ _ | refine Ext.more ?_ _ _ | refine Ext.drew ?_ | refine Ext.drewN ?_ _ | refine Ext.setCell ?_ (by simp <;> omega) _))) (by omega) hypos).mono ?_
          rintro e u8 ⟨A8, c8, rfl, ho8, x8⟩
          have X8 : Hid (Ext u7 u8) := Lib.hid (Ext.trans (by repeat (first | exact Ext.refl _ | refine Ext.alloc ?_ _ | refine Ext.more ?_ _ _ | refine Ext.drew ?_ | refine Ext.drewN ?_ _ | refine Ext.setCell ?_ (by simp <;> omega) _)) x8)
          have HO8 := Lib.hid ho8
          clear x8 ho8
          go_wp2_with fail
          refine segQ_mk (fun _ => laid X8.out) (hn _ _ ?_)
          clear hn next
          (refine bt_step fun next hn => ?_); (simp only [pick, nthC])
          go_wp2_with fail
          refine (same_any A8 A7 ys ys c8 c7 u8 HO8.out.ints.1 (HO7.out.ext X8.out).ints.1 (by omega) (by omega)).mono ?_
          rintro e u9 ⟨rfl, x9⟩
          have X9 : Hid (Ext u7 u9) := Lib.hid (X8.out.trans x9)
          have hdt : decide (ys = ys) = true := decide_eq_true rfl
          rw [hdt]
          clear x9 hdt
          go_wp2_with fail
          refine segQ_mk (fun _ => laid X9.out) (hn _ _ ?_)
          clear hn next
          (refine bt_softs _ fun K hK => ?_); (simp only [pick, nthC]); (repeat (go_big_quiet_step (fail))); (refine wpQuiet_nil (hK _ ?_)); (clear hK K)
          (refine bt_step fun next hn => ?_); (simp only [pick, nthC])
          go_wp2_with fail
          refine (len_any (HI8.out.ext X9.out)).mono ?_
          rintro e u10 ⟨rfl, rfl⟩
          go_wp2_with fail
          refine segQ_mk (fun _ => laid X9.out) (hn _ _ ?_)
          clear hn next
          (refine bt_softs _ fun K hK => ?_); (simp only [pick, nthC]); (repeat (go_big_quiet_step (fail))); (refine wpQuiet_nil (hK _ ?_)); (clear hK K)
          (refine bt_step fun next hn => ?_); (simp only [pick, nthC])
          go_wp2_with fail
          refine (bytes_any (HI8.out.ext X9.out)).mono ?_
          rintro e u11 ⟨rfl, rfl⟩
          go_wp2_with fail
          refine segQ_mk (fun _ => laid X9.out) (hn _ _ ?_)
          clear hn next
          (refine bt_softs _ fun K hK => ?_); (simp only [pick, nthC]); (repeat (go_big_quiet_step (fail))); (refine wpQuiet_nil (hK _ ?_)); (clear hK K)
          (refine bt_fin ?_)
          go_wp2_with fail
          go_roundw
          case rel => exact ⟨i + 1, ns, by omega, by go_num, HNB.out, Lib.hid (by rw [HYS.out]; exact HI8.out.ext X9.out), Lib.hid (HT8.out.ext X9.out), Lib.hid (HX7.out.trans (X7.out.trans X9.out))⟩
          case measure => simp [intOf]; omega
        · (refine bt_step fun next hn => ?_); (simp only [pick, nthC])
          go_wp2_with fail
          refine (edit_bad at_ del im ins (HI4.out.ext (by repeat (first | exact Ext.refl _ | refine Ext.alloc ?_ _ | refine Ext.more ?_ _ _ | refine Ext.drew ?_ | refine Ext.drewN ?_ _ | refine Ext.setCell ?_ (by simp <;> omega) _))) (by omega) (by omega)).mono ?_
          rintro e w5 ⟨rfl, hx5⟩
          have X5 : Hid (Ext W4 w5) := Lib.hid (Ext.trans (by repeat (first | exact Ext.refl _ | refine Ext.alloc ?_ _ | refine Ext.more ?_ _ _ | refine Ext.drew ?_ | refine Ext.drewN ?_ _ | refine Ext.setCell ?_ (by simp <;> omega) _)) hx5)
          clear hx5
          go_wp2_with fail
          refine segQ_mk (fun _ => ⟨⟨w5, X5.out.below.block b lb, X5.out.below.block bx lx⟩, rfl⟩) (hn _ _ ?_)
          clear hn next
          (refine bt_step fun next hn => ?_); (simp only [pick, nthC])
          go_wp2_with fail
          refine (redit_bad at_ del im ins sb.size (HT4.out.ext X5.out) rfl (by omega) (by omega)).mono ?_
          rintro e w6 ⟨rfl, hx6⟩
          have X6 : Hid (Ext W4 w6) := Lib.hid (X5.out.trans hx6)
          clear hx6
          go_wp2_with fail
          refine segQ_mk (fun _ => ⟨⟨w6, X6.out.below.block b lb, X6.out.below.block bx lx⟩, rfl⟩) (hn _ _ ?_)
          clear hn next
          (refine bt_softs _ fun K hK => ?_); (simp only [pick, nthC]); (repeat (go_big_quiet_step (fail))); (refine wpQuiet_nil (hK _ ?_)); (clear hK K)
          (refine bt_fin ?_)
          have HI7 := Lib.hid (HI4.out.ext X6.out)
          have HT7 := Lib.hid (HT4.out.ext X6.out)
          have HX7 := Lib.hid (HX4.out.trans X6.out)
          have HNB : Hid (sb.size ≤ 200 + 40 * (i + 1)) := Lib.hid (by omega)
          have hn3 : sb.size ≤ 3000 := by have := HNB.out; omega
          have hyl := starts_len sb.data.toList
          have hnsl : sb.data.toList.length = sb.size := by rw [Array.length_toList]; rfl
          have HWI := Lib.hid (starts_within sb.data.toList)
          rw [hnsl] at hyl HWI
          have hypos : 0 < (startsF sb.data.toList).length := Nat.succ_pos _
          have H0 : Hid ((startsF sb.data.toList)[0]? = some 0) := Lib.hid rfl
          have HRS := Lib.hid (starts_rise sb.data.toList)
          have CR1 := Lib.hid (fun (w : World) (h : TxtAt w go sb) => rstart_all (w := w) line h (by omega))
          have CR2 := Lib.hid (fun (w : World) (h : TxtAt w go sb) => rline_all (w := w) at0 h (by omega))
          have CR3 := Lib.hid (fun (w : World) (h : TxtAt w go sb) => rplace_all (w := w) line column h (by omega))
          have CR4 := Lib.hid (fun (w : World) (h : TxtAt w go sb) => rstarts_any (w := w) h (by omega))
          obtain ⟨ys, hys⟩ : ∃ ys, startsF sb.data.toList = ys := ⟨_, rfl⟩
          have HYS := Lib.hid hys
          rw [hys] at HI7 hyl hypos H0 HRS CR1 CR2 CR3 CR4 HWI
          clear hnsl hys
          go_wp2_with fail
          refine (start_all line HI7.out).mono ?_
          rintro e u1 ⟨v1, k1, rfl, b1, x1⟩
          have X1 := Lib.hid x1
          clear x1
          go_wp2_with fail
          refine (CR1.out _ (HT7.out.ext X1.out)).mono ?_
          rintro e u2 ⟨v2, k2, rfl, b2, x2⟩
          obtain ⟨rfl, rfl⟩ := b1.det b2
          have X2 := Lib.hid (X1.out.trans x2)
          clear x2 b1 b2
          go_wp2_with fail
          refine (line_all at0 (HI7.out.ext X2.out) (by omega) (by omega) H0.out HRS.out).mono ?_
          rintro e u3 ⟨v3, v4, k3, rfl, b1, x3⟩
          have X3 := Lib.hid (X2.out.trans x3)
          clear x3
          go_wp2_with fail
          refine (CR2.out _ (HT7.out.ext X3.out)).mono ?_
          rintro e u4 ⟨v3', v4', k3', rfl, b2, x4⟩
          obtain ⟨rfl, rfl, rfl⟩ := b1.det b2
          have X4 := Lib.hid (X3.out.trans x4)
          clear x4 b1 b2
          go_wp2_with fail
          refine (place_all line column (HI7.out.ext X4.out) (by omega) HWI.out (by omega)).mono ?_
          rintro e u5 ⟨v5, k5, rfl, b1, x5⟩
          have X5 := Lib.hid (X4.out.trans x5)
          clear x5
          go_wp2_with fail
          refine (CR3.out _ (HT7.out.ext X5.out)).mono ?_
          rintro e u6 ⟨v5', k5', rfl, b2, x6⟩
          obtain ⟨rfl, rfl⟩ := b1.det b2
          have X6 := Lib.hid (X5.out.trans x6)
          clear x6 b1 b2
          go_wp2_with fail
          refine (CR4.out _ (HT7.out.ext X6.out)).mono ?_
          rintro e u7 ⟨A7, c7, rfl, ho7, x7⟩
          have X7 := Lib.hid (X6.out.trans x7)
          have HO7 := Lib.hid ho7
          clear x7 ho7
          have q1 : (v2 != v2) = false := by simp
          have q2 : (k2 != k2) = false := by simp
          have q3 : (v3' != v3') = false := by simp
          have q4 : (v4' != v4') = false := by simp
          have q5 : (k3' != k3') = false := by simp
          have q6 : (v5' != v5') = false := by simp
          have q7 : (k5' != k5') = false := by simp
          have HI8 := Lib.hid (HI7.out.ext X7.out)
          have HT8 := Lib.hid (HT7.out.ext X7.out)
          have KT : Hid (∀ x : Lay, (more u7 x.os x.k).cell? ⟨go, 0, none⟩ = some (.string sb) ∧ go < (more u7 x.os x.k).heap.size) := Lib.hid fun x => (HT8.out.ext ⟨x.os, x.k, rfl⟩).cell
          have kt1 := fun x => (KT.out x).1
          have kt2 := fun x => (KT.out x).2
          go_upto_region 22 with fail
          refine wp_region_bt (57) (softs_bt [0, 1, 2, 3, 4, 5, 6, 7, 8, 9, 10, 11, 12, 13, 14, 15, 16, 17, 18, 19, 20, 21, 22, 23, 24, 25, 26, 27, 28, 29, 30, 31, 32, 33, 34, 36] (.step 35 (.step 37 (softs_bt [38, 39, 40, 41, 43, 44] (.step 42 (softs_bt [45, 46, 47, 48, 50, 51, 52, 53, 54] (.step 49 (softs_bt [55, 56] .fin)))))))) (by kernel_rfl) (by kernel_rfl) ?_
          (refine bt_softs _ fun K hK => ?_); (simp only [pick, nthC]); (repeat (go_big_quiet_step (fail))); (refine wpQuiet_nil (hK _ ?_)); (clear hK K)
          (refine bt_step fun next hn => ?_); (simp only [pick, nthC])
          go_wp2_with fail
          refine (starts_any (HI8.out.ext (by repeat (first | exact Ext.refl _ | refine Ext.alloc ?_ _ | refine Ext.more ?_ _ _ | refine Ext.drew ?_ | refine Ext.drewN ?_ _ | refine Ext.setCell ?_ (by simp <;> omega) _))) (by omega) hypos).mono ?_
          rintro e u8 ⟨A8, c8, rfl, ho8, x8⟩
          have X8 : Hid (Ext u7 u8) := Lib.hid (Ext.trans (by repeat (first | exact Ext.refl _ | refine Ext.alloc ?_ _ | refine Ext.more ?_ _ _ | refine Ext.drew ?_ | refine Ext.drewN ?_ _ | refine Ext.setCell ?_ (by simp <;> omega) _)) x8)
          have HO8 := Lib.hid ho8
          clear x8 ho8
          go_wp2_with fail
          refine segQ_mk (fun _ => laid X8.out) (hn _ _ ?_)
          clear hn next
          (refine bt_step fun next hn => ?_); (simp only [pick, nthC])
          go_wp2_with fail
          refine (same_any A8 A7 ys ys c8 c7 u8 HO8.out.ints.1 (HO7.out.ext X8.out).ints.1 (by omega) (by omega)).mono ?_
          rintro e u9 ⟨rfl, x9⟩
          have X9 : Hid (Ext u7 u9) := Lib.hid (X8.out.trans x9)
          have hdt : decide (ys = ys) = true := decide_eq_true rfl
          rw [hdt]
          clear x9 hdt
          go_wp2_with fail
          refine segQ_mk (fun _ => laid X9.out) (hn _ _ ?_)
          clear hn next
          (refine bt_softs _ fun K hK => ?_); (simp only [pick, nthC]); (repeat (go_big_quiet_step (fail))); (refine wpQuiet_nil (hK _ ?_)); (clear hK K)
          (refine bt_step fun next hn => ?_); (simp only [pick, nthC])
          go_wp2_with fail
          refine (len_any (HI8.out.ext X9.out)).mono ?_
          rintro e u10 ⟨rfl, rfl⟩
          go_wp2_with fail
          refine segQ_mk (fun _ => laid X9.out) (hn _ _ ?_)
          clear hn next
          (refine bt_softs _ fun K hK => ?_); (simp only [pick, nthC]); (repeat (go_big_quiet_step (fail))); (refine wpQuiet_nil (hK _ ?_)); (clear hK K)
          (refine bt_step fun next hn => ?_); (simp only [pick, nthC])
          go_wp2_with fail
          refine (bytes_any (HI8.out.ext X9.out)).mono ?_
          rintro e u11 ⟨rfl, rfl⟩
          go_wp2_with fail
          refine segQ_mk (fun _ => laid X9.out) (hn _ _ ?_)
          clear hn next
          (refine bt_softs _ fun K hK => ?_); (simp only [pick, nthC]); (repeat (go_big_quiet_step (fail))); (refine wpQuiet_nil (hK _ ?_)); (clear hK K)
          (refine bt_fin ?_)
          go_wp2_with fail
          go_roundw
          case rel => exact ⟨i + 1, sb, by omega, by go_num, HNB.out, Lib.hid (by rw [HYS.out]; exact HI8.out.ext X9.out), Lib.hid (HT8.out.ext X9.out), Lib.hid (HX7.out.trans (X7.out.trans X9.out))⟩
          case measure => simp [intOf]; omega
      · obtain rfl : i = js.length := by omega
        go_wp2_with fail
        go_ret
        exact ⟨rfl, HX1.out.trans hx.out⟩
end Go.Proofs.Ytfjkghbnlmhcnaa
