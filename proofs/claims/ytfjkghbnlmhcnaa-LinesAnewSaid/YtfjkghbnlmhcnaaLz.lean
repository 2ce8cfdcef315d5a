/- LinesAnew: the walk. -/
import Derived.Test.YtfjkghbnlmhcnaaLg
import Derived.Test.YtfjkghbnlmhcnaaLu
import Derived.WalkSpells
import Derived.WalkLawsBesides
import Derived.BigRegion
import Derived.Deep.RegionWith
import Derived.Deep.QuietTactic
import Derived.Deep.DeepCutAuto
import Derived.Deep.RegionHeld3
import Derived.Deep.RegionLaw
import Derived.BigQuiet
import Derived.Lib.Hide
namespace Go.Proofs.Ytfjkghbnlmhcnaa
open Go.RowKit
attribute [local go_sem] more_drew more_drewN more_size more_cell more_frozen more_setCell drew_more drewN_more lt_add_r lt_add_r2 lt_add_r3 lt_add_r4 lt_add_r5 lt_add_r6 lt_add_r7 lt_add_r8 lt_add_r9 lt_add_r10 lt_self_r lt_self_r2

set_option maxRecDepth 100000 in
set_option maxHeartbeats 2000000 in
theorem linesAnew_any (s : ByteArray) (J : Option Addr) (c : Nat) (js : List Actn) (W : World) (hJ : ActsAt W J js) (hl : js.length ≤ c) (hc : c ≤ 9223372036854775807) (hs : s.size ≤ 9223372036854775807) (hB : ∀ d ∈ js, AcB d) :
    Calls Try.prog 3 #[.string s, .slice J js.length c] W fun e w' => e = .returned (.bool true) ∧ Ext W w' := by
  have HJ := Lib.hid hJ
  have HB := Lib.hid hB
  clear hJ hB
  go_enter Try.func3, Try.ntmps3
  go_wp2_with fail
  refine (lives09_any W).mono ?_
  rintro e w1 ⟨rfl, hx1⟩
  have HX1 := Lib.hid hx1
  have HJ1 := Lib.hid (HJ.out.ext hx1)
  clear hx1
  go_wp2_with fail
  refine (light_any s J c js w1 HJ1.out hl hc hs HB.out).mono ?_
  rintro e w2 ⟨b, rfl, hb, rfl⟩
  cases b with
  | false =>
    go_wp2_with fail
    go_ret
    exact ⟨rfl, HX1.out⟩
  | true =>
    obtain ⟨l1, l2, l3⟩ := hb rfl
    have HL1 := Lib.hid l1
    clear hb l1
    go_wp2_with fail
    refine (new_any s w1 (by omega)).mono ?_
    rintro e w2 ⟨g, rfl, hi2, hx2⟩
    have HI2 := Lib.hid hi2
    have HX2 := Lib.hid hx2
    clear hi2 hx2
    go_wp2_with fail
    go_loopw [0, 7] (fun o v wr => ∃ (i : Nat) (sb : ByteArray), i ≤ js.length ∧ v = .int .i64 i ∧ o = .string sb ∧ sb.size ≤ 200 + 40 * i ∧ Hid (IdxAt wr w1.heap.size g (startsF sb.data.toList) sb.size) ∧ Hid (Ext w1 wr)) (fun _ v _ => js.length - (intOf v).toNat)
    case atStart => exact ⟨0, s, Nat.zero_le _, rfl, rfl, by omega, HI2, HX2⟩
    case round =>
      obtain ⟨i, sb, hi, rfl, rfl, hsb, hid, hx⟩ := hrel
      by_cases hlt : i < js.length
      · obtain ⟨x, hxi⟩ : ∃ x, js[i]? = some x := ⟨_, List.getElem?_eq_getElem hlt⟩
        have xs40 := HL1.out i x hxi
        obtain ⟨⟨xa1, xa2⟩, ⟨xd1, xd2⟩, _, _⟩ := HB.out x (List.mem_of_getElem? hxi)
        have hxl := starts_len sb.data.toList
        have hsbl : sb.data.toList.length = sb.size := by rw [Array.length_toList]; rfl
        rw [hsbl] at hxl
        have HSB := Lib.hid hsbl
        have hpos : 0 < (startsF sb.data.toList).length := Nat.succ_pos _
        obtain ⟨xs, hxs⟩ : ∃ xs, startsF sb.data.toList = xs := ⟨_, rfl⟩
        rw [hxs] at hxl hid hpos
        have HXS := Lib.hid hxs
        clear hsbl hxs
        go_wp2_with fail
        refine (starts_any hid.out (by omega) hpos).mono ?_
        rintro e w3 ⟨A3, c3, rfl, ho3, hx3⟩
        have HO3 := Lib.hid ho3
        have HX3 := Lib.hid (hx.out.trans hx3)
        have HI3 := Lib.hid (hid.out.ext hx3)
        clear ho3 hx3
        obtain ⟨b, off, rfl, hb, hcs⟩ := (HJ1.out.ext HX3.out) (by omega)
        obtain ⟨d0, d1, d2, d3⟩ := hcs i x hxi
        have hbx := (HJ1.out (by omega))
        have HBW : Hid (b < w1.heap.size) := Lib.hid (by obtain ⟨b', o', he, hb', _⟩ := hbx; cases he; exact hb')
        have HCS := Lib.hid hcs
        have HXI := Lib.hid hxi
        clear hcs hxi hbx
        obtain ⟨at_, del, ins, more_⟩ := x
        dsimp only at xs40 xa1 xa2 xd1 xd2 d0 d1 d2 d3
        go_upto_region 12 with fail
        refine wp_region_bt (18) (softs_bt [0, 1, 2, 3, 4, 5, 6, 7, 8, 9, 10, 11, 12, 13, 14, 15, 16] (.step 17 (.step 18 .fin))) (by kernel_rfl) (by kernel_rfl) ?_
        (refine bt_softs _ fun K hK => ?_); (simp only [pick, nthC]); (repeat (go_big_quiet_step (fail))); (refine wpQuiet_nil (hK _ ?_)); (clear hK K)
        (refine bt_step fun next hn => ?_); (simp only [pick, nthC])
        go_wp2_with fail
        refine segQ_mk (fun _ => laid (by repeat (first | exact Ext.refl _ | refine Ext.alloc ?_ _ | refine Ext.more ?_ _ _ | refine Ext.drew ?_ | refine Ext.drewN ?_ _ | refine Ext.setCell ?_ (by simp <;> omega) _))) (hn _ _ ?_)
        clear hn next
        (refine bt_step fun next hn => ?_); (simp only [pick, nthC])
        go_wp2_with fail
        refine segQ_mk (fun h => absurd rfl h) (hn _ _ ?_)
        clear hn next
        (refine bt_fin ?_)
        obtain ⟨bx, hbx⟩ : ∃ bx, w3.heap.size = bx := ⟨_, rfl⟩
        obtain ⟨W4, hW4⟩ : ∃ W4, (w3.alloc (.cells #[.int .i64 at_, .int .i64 del, .int .i64 ins.size] 34)).drew = W4 := ⟨_, rfl⟩
        have X4 : Hid (Ext w3 W4) := Lib.hid (by rw [← hW4]; exact (by repeat (first | exact Ext.refl _ | refine Ext.alloc ?_ _ | refine Ext.more ?_ _ _ | refine Ext.drew ?_ | refine Ext.drewN ?_ _ | refine Ext.setCell ?_ (by simp <;> omega) _)))
        have B4 : Hid (W4.heap[bx]? = some (.cells #[.int .i64 at_, .int .i64 del, .int .i64 ins.size] 34)) := Lib.hid (by rw [← hW4, ← hbx]; exact heap_alloc_new _ _)
        rw [hW4, hbx]
        have HBX := Lib.hid hbx
        clear hW4 hbx d0 d1 d3
        have K2 : Hid (W4.cell? ⟨b, off + i * 4 + 2, none⟩ = some (.string ins)) := Lib.hid ((World.cell?_of_block (X4.out.below.block b hb)).trans d2)
        have HI4 := Lib.hid (HI3.out.ext X4.out)
        have HO4 := Lib.hid (HO3.out.ext X4.out)
        have HX4 := Lib.hid (HX3.out.trans X4.out)
        have lb : b < W4.heap.size := Nat.lt_of_lt_of_le hb X4.out.size
        have lx := lt_of_heap B4.out
        clear d2 hb
        have KX : Hid (∀ x : EdS W4 b bx, (x.V.cell? ⟨b, off + i * 4 + 2, none⟩ = some (.string ins)) ∧ (x.V.cell? ⟨bx, 0, none⟩ = some (.int .i64 at_)) ∧ (x.V.cell? ⟨bx, 1, none⟩ = some (.int .i64 del)) ∧ (x.V.cell? ⟨bx, 2, none⟩ = some (.int .i64 ins.size)) ∧ b < x.V.heap.size ∧ bx < x.V.heap.size) := Lib.hid fun x => by
          have e0 := cell_of_row _ _ 0 _ _ _ (x.box.trans B4.out)
          have e1 := cell_of_row _ _ 1 _ _ _ (x.box.trans B4.out)
          have e2 := cell_of_row _ _ 2 _ _ _ (x.box.trans B4.out)
          simp at e0 e1 e2
          refine ⟨(World.cell?_of_block x.idx).trans K2.out, e0, e1, e2, ?_, lt_of_heap (x.box.trans B4.out)⟩
          have := x.idx
          rw [Array.getElem?_eq_getElem lb] at this
          exact lt_of_heap this
        have kx0 := fun x => (KX.out x).1
        have kx1 := fun x => (KX.out x).2.1
        have kx2 := fun x => (KX.out x).2.2.1
        have kx3 := fun x => (KX.out x).2.2.2.1
        have kx4 := fun x => (KX.out x).2.2.2.2.1
        have kx5 := fun x => (KX.out x).2.2.2.2.2
        go_upto_region 13 with fail
        refine wp_region_btC (T := EdS W4 b bx) EdS.V (9) (softs_bt [0, 1, 2, 3, 4, 5, 6] (.step 7 (softs_bt [8] .fin))) (by kernel_rfl) (by kernel_rfl) ⟨⟨W4.drew, rfl, rfl⟩, rfl⟩ ?_
        (refine bt_softs _ fun K hK => ?_); (simp only [pick, nthC]); (repeat (go_big_quiet_step (fail))); (refine wpQuiet_nil (hK _ ?_)); (clear hK K)
        clear kx0 kx1 kx2 kx3 kx4 kx5
        by_cases hok : 0 ≤ at_ ∧ 0 ≤ del ∧ at_ + del ≤ (sb.size : Int)
        · obtain ⟨o1, o2, o3⟩ := hok
          obtain ⟨a, rfl⟩ : ∃ a : Nat, at_ = a := ⟨at_.toNat, by omega⟩
          obtain ⟨d, rfl⟩ : ∃ d : Nat, del = d := ⟨del.toNat, by omega⟩
          have had : a + d ≤ sb.size := by omega
          (refine bt_step fun next hn => ?_); (simp only [pick, nthC])
          go_wp2_with fail
          have HIL : Hid (IdxAt W4.drew w1.heap.size g (startsF sb.data.toList) sb.size) := Lib.hid (by rw [HXS.out]; exact HI4.out.ext (by repeat (first | exact Ext.refl _ | refine Ext.alloc ?_ _ | refine Ext.more ?_ _ _ | refine Ext.drew ?_ | refine Ext.drewN ?_ _ | refine Ext.setCell ?_ (by simp <;> omega) _)))
          refine (edit_yes sb.data.toList a d ins HSB.out.symm HIL.out HX4.out.size (by omega) (by omega) had).mono ?_
          intro e w5 hy
          have HX5 : Hid (Ext w1 w5) := Lib.hid (EditYes.ext (w := W4.drew) (W := w1) (HX4.out.trans (by repeat (first | exact Ext.refl _ | refine Ext.alloc ?_ _ | refine Ext.more ?_ _ _ | refine Ext.drew ?_ | refine Ext.drewN ?_ _ | refine Ext.setCell ?_ (by simp <;> omega) _))) HIL.out (Nat.le_refl _) HX4.out.size hy)
          obtain ⟨rfl, hi5, ht5⟩ := hy
          obtain ⟨A, cc, h1, h2, h3⟩ := HI3.out
          have h1' : W4.drew.heap[g]? = _ := ext_block h1 X4.out.drew
          have HBB : Hid (w5.heap[b]? = W4.heap[b]?) := Lib.hid (ht5.block b lb fun hk => by
            have := HBW.out
            rcases hk with hk | hk | hk
            · omega
            · have := own_block h2 b (blk_own (RowAt.of h1' hk)); omega
            · have h9 : W4.heap.size ≤ b := hk
              omega)
          have HBXX : Hid (w5.heap[bx]? = W4.heap[bx]?) := Lib.hid (ht5.block bx lx fun hk => by
            have := HBX.out
            have := lt_of_heap h1
            rcases hk with hk | hk | hk
            · omega
            · have := own_old h2 bx (blk_own (RowAt.of h1' hk)); omega
            · have h9 : W4.heap.size ≤ bx := hk
              omega)
          have HI5 := Lib.hid hi5
          clear h1 h2 h3 h1' ht5 hi5 A cc
          go_wp2_with fail
          refine segQ_mk (fun _ => ⟨⟨w5, HBB.out, HBXX.out⟩, rfl⟩) (hn _ _ ?_)
          clear hn next
          (refine bt_softs _ fun K hK => ?_); (simp only [pick, nthC]); (repeat (go_big_quiet_step (fail))); (refine wpQuiet_nil (hK _ ?_)); (clear hK K)
          (refine bt_fin ?_)
          have k2 := (World.cell?_of_block (a := ⟨b, off + i * 4 + 2, none⟩) HBB.out).trans K2.out
          have B5 := HBXX.out.trans B4.out
          have e0 := cell_of_row _ _ 0 _ _ _ B5
          have e1 := cell_of_row _ _ 1 _ _ _ B5
          simp at e0 e1
          have lx5 := lt_of_heap B5
          have lb5 : b < w5.heap.size := Nat.lt_of_lt_of_le HBW.out HX5.out.size
          have w9 : IntKind.i64.wrap ((a : Int) + (d : Int)) = (a : Int) + (d : Int) := IntWalk.i64_in _ (by omega)
          have b1 : (a : Int) ≤ (sb.size : Int) := by omega
          have b2 : (0 : Int) ≤ (a : Int) + (d : Int) := by omega
          have b3 : ((a : Int) + (d : Int)).toNat = a + d := by omega
          have z1 : (sb.extract 0 a).size ≤ 3000 := by rw [ByteArray.size_extract]; omega
          have z3 : (sb.extract 0 a ++ ins).size ≤ 3000 := by rw [ByteArray.size_append, ByteArray.size_extract]; omega
          have z4 : (sb.extract (a + d) sb.size).size ≤ 3000 := by rw [ByteArray.size_extract]; omega
          clear B5
          go_upto_region 16 with fail
          refine wp_region_bt (19) (softs_bt [0, 1, 2, 3, 4, 5, 6, 7, 8, 9, 10, 11, 12, 13, 14, 15, 16, 17, 18] .fin) (by kernel_rfl) (by kernel_rfl) ?_
          (refine bt_softs _ fun K hK => ?_); (simp only [pick, nthC]); (repeat (go_big_quiet_step (fail))); (refine wpQuiet_nil (hK _ ?_)); (clear hK K)
          (refine bt_fin ?_)
          obtain ⟨ns, hns⟩ : ∃ ns, sb.extract 0 a ++ ins ++ sb.extract (a + d) sb.size = ns := ⟨_, rfl⟩
          rw [hns]
          have hnl : ns.data.toList = editL sb.data.toList a d ins.data.toList := by
            rw [← hns, ByteArray.data_append, ByteArray.data_append, Array.toList_append, Array.toList_append, extract_list, extract_list]
            unfold editL
            rw [List.drop_zero, List.take_of_length_le (Nat.le_of_eq HSB.out)]
          have hnz : ns.size = sb.size - d + ins.size := by
            rw [← hns, ByteArray.size_append, ByteArray.size_append, ByteArray.size_extract, ByteArray.size_extract]
            omega
          have HI5' : Hid (IdxAt w5 w1.heap.size g (startsF ns.data.toList) ns.size) := Lib.hid (by rw [hnl, hnz]; exact HI5.out)
          have HNB : Hid (ns.size ≤ 200 + 40 * (i + 1)) := Lib.hid (by omega)
          have hyl := starts_len ns.data.toList
          have hnsl : ns.data.toList.length = ns.size := by rw [Array.length_toList]; rfl
          rw [hnsl] at hyl
          have hypos : 0 < (startsF ns.data.toList).length := Nat.succ_pos _
          have hn3 : ns.size ≤ 3000 := by omega
          obtain ⟨ys, hys⟩ : ∃ ys, startsF ns.data.toList = ys := ⟨_, rfl⟩
          have HYS := Lib.hid hys
          rw [hys] at HI5' hyl hypos
          clear hns hnl hnz hnsl hys z1 z3 z4 k2 e0 e1 lx5 lb5 w9 b1 b2 b3 KX HI5
          go_wp2_with fail
          refine (new_any ns _ (by omega)).mono ?_
          rintro e w6 ⟨g2, rfl, hi6, hx6⟩
          have HX6 : Hid (Ext w5 w6) := Lib.hid (Ext.trans (by repeat (first | exact Ext.refl _ | refine Ext.alloc ?_ _ | refine Ext.more ?_ _ _ | refine Ext.drew ?_ | refine Ext.drewN ?_ _ | refine Ext.setCell ?_ (by simp <;> omega) _)) hx6)
          have HI6 := Lib.hid hi6
          rw [HYS.out] at HI6
          have HI6' := Lib.hid (HI5'.out.ext HX6.out)
          clear hi6 hx6
          go_wp2_with fail
          refine (starts_any HI6'.out (by omega) hypos).mono ?_
          rintro e w7 ⟨A7, c7, rfl, ho7, hx7⟩
          have HO7 := Lib.hid ho7
          have HX7 := Lib.hid hx7
          have HI7 := Lib.hid (HI6.out.ext hx7)
          have HI7' := Lib.hid (HI6'.out.ext hx7)
          clear ho7 hx7
          go_wp2_with fail
          refine (starts_any HI7.out (by omega) hypos).mono ?_
          rintro e w8 ⟨A8, c8, rfl, ho8, hx8⟩
          have HO8 := Lib.hid ho8
          have HX8 := Lib.hid hx8
          have HI8' := Lib.hid (HI7'.out.ext hx8)
          clear ho8 hx8
          go_wp2_with fail
          refine (same_any A7 A8 ys ys c7 c8 w8 (HO7.out.ext HX8.out).ints.1 HO8.out.ints.1 (by omega) (by omega)).mono ?_
          rintro e w9 ⟨rfl, hx9⟩
          have HX9 := Lib.hid hx9
          have hdt : decide (ys = ys) = true := decide_eq_true rfl
          rw [hdt]
          clear hx9 hdt
          go_wp2_with fail
          refine (bytes_any (HI8'.out.ext HX9.out)).mono ?_
          rintro e w10 ⟨rfl, rfl⟩
          go_wp2_with fail
          go_roundw
          case rel => exact ⟨i + 1, ns, by omega, by go_num, rfl, HNB.out, Lib.hid (HYS.out ▸ HI8'.out.ext HX9.out), Lib.hid (HX5.out.trans (HX6.out.trans (HX7.out.trans (HX8.out.trans HX9.out))))⟩
          case measure => simp [intOf]; omega
        · (refine bt_step fun next hn => ?_); (simp only [pick, nthC])
          go_wp2_with fail
          refine (edit_bad at_ del ins.size ins (HI4.out.ext (by repeat (first | exact Ext.refl _ | refine Ext.alloc ?_ _ | refine Ext.more ?_ _ _ | refine Ext.drew ?_ | refine Ext.drewN ?_ _ | refine Ext.setCell ?_ (by simp <;> omega) _))) (by omega) (by omega)).mono ?_
          rintro e w5 ⟨rfl, hx5⟩
          have X5 : Hid (Ext W4 w5) := Lib.hid (Ext.trans (by repeat (first | exact Ext.refl _ | refine Ext.alloc ?_ _ | refine Ext.more ?_ _ _ | refine Ext.drew ?_ | refine Ext.drewN ?_ _ | refine Ext.setCell ?_ (by simp <;> omega) _)) hx5)
          clear hx5
          go_wp2_with fail
          refine segQ_mk (fun _ => ⟨⟨w5, X5.out.below.block b lb, X5.out.below.block bx lx⟩, rfl⟩) (hn _ _ ?_)
          clear hn next
          (refine bt_softs _ fun K hK => ?_); (simp only [pick, nthC]); (repeat (go_big_quiet_step (fail))); (refine wpQuiet_nil (hK _ ?_)); (clear hK K)
          (refine bt_fin ?_)
          have HI5 := Lib.hid (HI4.out.ext X5.out)
          have HO5 := Lib.hid (HO4.out.ext X5.out)
          have HX5 := Lib.hid (HX4.out.trans X5.out)
          go_wp2_with fail
          refine (starts_any HI5.out (by omega) hpos).mono ?_
          rintro e w6 ⟨A6, c6, rfl, ho6, hx6⟩
          have HO6 := Lib.hid ho6
          have HX6 := Lib.hid hx6
          clear ho6 hx6
          go_wp2_with fail
          refine (same_any A6 A3 xs xs c6 c3 w6 HO6.out.ints.1 (HO5.out.ext HX6.out).ints.1 (by omega) (by omega)).mono ?_
          rintro e w7 ⟨rfl, hx7⟩
          have HX7 := Lib.hid (HX6.out.trans hx7)
          have hdt : decide (xs = xs) = true := decide_eq_true rfl
          rw [hdt]
          clear hx7 hdt
          go_wp2_with fail
          refine (bytes_any (HI5.out.ext HX7.out)).mono ?_
          rintro e w8 ⟨rfl, rfl⟩
          go_wp2_with fail
          go_roundw
          case rel => exact ⟨i + 1, sb, by omega, by go_num, rfl, by omega, Lib.hid (HXS.out ▸ HI5.out.ext HX7.out), Lib.hid (HX5.out.trans HX7.out)⟩
          case measure => simp [intOf]; omega
      · obtain rfl : i = js.length := by omega
        go_wp2_with fail
        go_ret
        exact ⟨rfl, HX1.out.trans hx.out⟩
end Go.Proofs.Ytfjkghbnlmhcnaa
