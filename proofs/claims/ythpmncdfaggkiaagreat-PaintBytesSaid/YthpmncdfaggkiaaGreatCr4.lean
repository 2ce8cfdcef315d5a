/- Cr: texts that the proof rests on, part 4. -/
import Derived.Test.YthpmncdfaggkiaaGreatCr1
import Derived.Test.YthpmncdfaggkiaaGreatCr2
import Derived.Test.YthpmncdfaggkiaaGreatCr3
namespace Go.Proofs.YthpmncdfaggkiaaGreat
open Go.RowKit
attribute [local go_sem] more_drew more_drewN more_size more_cell more_frozen more_setCell drew_more drewN_more lt_add_r lt_add_r2 lt_add_r3 lt_add_r4 lt_add_r5 lt_add_r6 lt_add_r7 lt_add_r8 lt_add_r9 lt_add_r10 lt_self_r lt_self_r2
theorem cells_heap {w : World} {g : Nat} {cs : Array Value} {T : TypeId} (h : w.heap[g]? = some (.cells cs T)) : CellsAt w (some ⟨g, 0, none⟩) cs.toList := fun _ =>
 ⟨g, 0, rfl, lt_of_heap h, fun k u hk => by
   simp only [Nat.zero_add]
   exact (cell_of_row _ _ k _ _ (0, 0) h).trans (by simpa using hk)⟩
def NodeRet (w : World) (nb base m : Nat) (cc rc : List Value) (nx : List (List Int)) (cv nv rv : Value) (z : Cl) (e : Ending) (w' : World) : Prop :=
 ∃ f l cv' nv' rv', e = .returned (.agg #[.bool false, .slice (some ⟨f, 0, none⟩) 1 1, .slice (some ⟨l, 0, none⟩) 1 1]) ∧ w.heap.size ≤ f ∧ w.heap.size ≤ l ∧
  w'.heap[f]? = some (.cells #[.int .i64 m] 3) ∧ w'.heap[l]? = some (.cells #[.int .i64 m] 3) ∧ NfaAt w' nb base (m + 1) (cc ++ z.cells) (rc ++ [.int .i64 (-1)]) (nx ++ [[]]) cv' nv' rv' ∧ Turn (nfaS nb cv nv rv) w w' ∧
  rv'.ownBlock ≠ some f ∧ rv'.ownBlock ≠ some l ∧ (∀ g, nfaS nb cv' nv' rv' g → nfaS nb cv nv rv g ∨ w.heap.size ≤ g)
set_option maxRecDepth 100000 in
set_option maxHeartbeats 16000000 in
theorem node_class (A : Option Addr) (c : Nat) (z : Cl) (nb base m : Nat) (cc rc : List Value) (nx : List (List Int)) (cv nv rv : Value) (w : World) (h : R2 w A z) (hN : NfaAt w nb base m cc rc nx cv nv rv) (hm : m ≤ 1000) :
 Calls Tryz.prog 144 #[ptr nb, .slice A 2 c, .int .i64 0] w (NodeRet w nb base m cc rc nx cv nv rv z) := by
 obtain ⟨g, gk, rfl, lg, lk, x0, ⟨x1, x2, x3, x4⟩, x5, _, _, _, _⟩ := h.open_
 obtain ⟨ns0, hns, hnl, hin⟩ := hN.nxt
 obtain ⟨Ac, kc, rfl, hca, hcb, hcd, hce⟩ := own_cells hN.cls
 obtain ⟨An, kn, rfl, _, _, _, _⟩ := own_cells hns
 obtain ⟨Ar, kr, rfl, _, _, _, _⟩ := own_cells hN.rul
 have HN := zh hN
 have HNS := zh hns
 have HIN := zh hin
 have HNL := zh hnl
 have HLE : Hid (base ≤ w.heap.size) := zh (by have := hN.low; have := lt_of_heap hN.blk; omega)
 obtain ⟨xcs, hxcs⟩ : ∃ xcs : Array Value, #[.int .i64 2, .int .u64 z.a, .int .u64 z.b, .int .u64 z.c, .int .u64 z.d, nil0] = xcs := ⟨_, rfl⟩
 have HXC := zh hxcs
 clear h hN hns hnl hin hca hcb hcd hce hxcs
 go_enter Tryz.func144, Tryz.ntmps144
 go_upto_region 2 with fail
 obtain ⟨W, hW⟩ : ∃ W, (w.alloc (.cells #[.bool false, nil0, nil0] 194)).alloc (.cells #[.int .i64 2, .int .u64 z.a, .int .u64 z.b, .int .u64 z.c, .int .u64 z.d, nil0] 232) = W := ⟨_, rfl⟩
 obtain ⟨pb, hpb⟩ : ∃ pb, w.heap.size = pb := ⟨_, rfl⟩
 have X1 : Ext w W := by rw [← hW]; exact (by repeat first | exact xr _ | refine xa ?_ _ | refine xm ?_ _ _ | refine xd ?_ | refine xn ?_ _ | refine xs ?_ (by simp <;> omega) _)
 have P0 : W.heap[pb]? = some (.cells #[.bool false, nil0, nil0] 194) := by rw [← hW, ← hpb]; exact (by simp only [heap_alloc_get, World.size_alloc]; (repeat (split; (first | rfl | (exfalso; omega)))); (try (first | (exfalso; omega) | simp_all)))
 have Q0 : W.heap[pb + 1]? = some (.cells #[.int .i64 2, .int .u64 z.a, .int .u64 z.b, .int .u64 z.c, .int .u64 z.d, nil0] 232) := by rw [← hW, ← hpb]; exact (by simp only [heap_alloc_get, World.size_alloc]; (repeat (split; (first | rfl | (exfalso; omega)))); (try (first | (exfalso; omega) | simp_all)))
 have hsz : W.heap.size = pb + 2 := by rw [← hW, ← hpb]; simp
 have HX1 := zh X1
 have HP0 := zh P0
 have HPB := zh hpb
 have HSZ := zh hsz
 have HN1 := zh (HN.out.ext X1)
 have B0 := zh HN1.out.blk
 have q0 := cell_of_row _ _ 0 _ _ _ Q0
 simp at q0
 have lq := lt_of_heap Q0
 have b0 := cell_of_row _ _ 0 _ _ _ B0.out
 have b1 := cell_of_row _ _ 1 _ _ _ B0.out
 have b2 := cell_of_row _ _ 2 _ _ _ B0.out
 have lb := lt_of_heap B0.out
 simp at b0 b1 b2
 rw [HXC.out] at Q0
 have HQ0 := zh Q0
 clear X1 P0 Q0 hsz x0 x1 x2 x3 x4 x5 lg lk
 simp only [hW, hpb]
 clear hW hpb
 go_upto_region 7 with fail
 go_cut [] (fun wx => ∃ cv' nv' rv', Hid (NfaAt wx nb base (m + 1) (cc ++ z.cells) (rc ++ [.int .i64 (-1)]) (nx ++ [[]]) cv' nv' rv') ∧ Hid (Turn (nfaS nb (.slice Ac m kc) (.slice An m kn) (.slice Ar m kr)) W wx) ∧
  Hid (∀ g, nfaS nb cv' nv' rv' g → nfaS nb (.slice Ac m kc) (.slice An m kn) (.slice Ar m kr) g ∨ W.heap.size ≤ g) ∧ Hid (∀ g, rv'.ownBlock = some g → g < wx.heap.size))
 case first =>
  have KX : Hid (∀ x : EdS W nb (pb + 1), (x.V.cell? ⟨nb, 0, none⟩ = some (.slice Ac m kc)) ∧ (x.V.cell? ⟨nb, 1, none⟩ = some (.slice An m kn)) ∧ (x.V.cell? ⟨nb, 2, none⟩ = some (.slice Ar m kr)) ∧ (x.V.cell? ⟨pb + 1, 1, none⟩ = some (.int .u64 z.a)) ∧
   (x.V.cell? ⟨pb + 1, 2, none⟩ = some (.int .u64 z.b)) ∧ (x.V.cell? ⟨pb + 1, 3, none⟩ = some (.int .u64 z.c)) ∧ (x.V.cell? ⟨pb + 1, 4, none⟩ = some (.int .u64 z.d)) ∧ nb < x.V.heap.size ∧ pb + 1 < x.V.heap.size) := zh fun x => by
   have Q := x.box.trans HQ0.out
   rw [← HXC.out] at Q
   have e0 := cell_of_row _ _ 0 _ _ _ (x.idx.trans B0.out)
   have e1 := cell_of_row _ _ 1 _ _ _ (x.idx.trans B0.out)
   have e2 := cell_of_row _ _ 2 _ _ _ (x.idx.trans B0.out)
   have f1 := cell_of_row _ _ 1 _ _ _ Q
   have f2 := cell_of_row _ _ 2 _ _ _ Q
   have f3 := cell_of_row _ _ 3 _ _ _ Q
   have f4 := cell_of_row _ _ 4 _ _ _ Q
   simp at e0 e1 e2 f1 f2 f3 f4
   exact ⟨e0, e1, e2, f1, f2, f3, f4, lt_of_heap (x.idx.trans B0.out), lt_of_heap Q⟩
  have kx0 := fun x => (KX.out x).1
  have kx1 := fun x => (KX.out x).2.1
  have kx2 := fun x => (KX.out x).2.2.1
  have kx3 := fun x => (KX.out x).2.2.2.1
  have kx4 := fun x => (KX.out x).2.2.2.2.1
  have kx5 := fun x => (KX.out x).2.2.2.2.2.1
  have kx6 := fun x => (KX.out x).2.2.2.2.2.2.1
  have kx7 := fun x => (KX.out x).2.2.2.2.2.2.2.1
  have kx8 := fun x => (KX.out x).2.2.2.2.2.2.2.2
  refine wp_region_btC (T := EdS W nb (pb + 1)) EdS.V (25) (pures_bt [0, 1, 2, 3, 4, 5, 7, 11, 12, 13, 17, 18, 19] (softs_bt [6, 8, 14, 20] (.two (.step 9 (.two (.step 10 (.two (.step 15 (.two (.step 16 (.step 21 (.step 22 (pures_bt [23, 24] (.step 25 (pures_bt [26, 27] (.late 28 (pures_bt [29, 30] (.late 31 .fin))))))))) (.step 21 (.step 16 (.step 22 (pures_bt [23, 24] (.step 25 (pures_bt [26, 27] (.late 28 (pures_bt [29, 30] (.late 31 .fin))))))))))) (.step 21 (.step 15 (.step 16 (.step 22 (pures_bt [23, 24] (.step 25 (pures_bt [26, 27] (.late 28 (pures_bt [29, 30] (.late 31 .fin)))))))))))) (.two (.step 15 (.two (.step 10 (.two (.step 16 (.step 21 (.step 22 (pures_bt [23, 24] (.step 25 (pures_bt [26, 27] (.late 28 (pures_bt [29, 30] (.late 31 .fin))))))))) (.step 21 (.step 16 (.step 22 (pures_bt [23, 24] (.step 25 (pures_bt [26, 27] (.late 28 (pures_bt [29, 30] (.late 31 .fin))))))))))) (.step 21 (.step 10 (.step 16 (.step 22 (pures_bt [23, 24] (.step 25 (pures_bt [26, 27] (.late 28 (pures_bt [29, 30] (.late 31 .fin)))))))))))) (.step 21 (.two (.step 10 (.step 15 (.step 16 (.step 22 (pures_bt [23, 24] (.step 25 (pures_bt [26, 27] (.late 28 (pures_bt [29, 30] (.late 31 .fin)))))))))) (.step 15 (.step 10 (.step 16 (.step 22 (pures_bt [23, 24] (.step 25 (pures_bt [26, 27] (.late 28 (pures_bt [29, 30] (.late 31 .fin))))))))))))))) (.two (.step 15 (.two (.step 9 (.two (.step 10 (.two (.step 16 (.step 21 (.step 22 (pures_bt [23, 24] (.step 25 (pures_bt [26, 27] (.late 28 (pures_bt [29, 30] (.late 31 .fin))))))))) (.step 21 (.step 16 (.step 22 (pures_bt [23, 24] (.step 25 (pures_bt [26, 27] (.late 28 (pures_bt [29, 30] (.late 31 .fin))))))))))) (.step 21 (.step 10 (.step 16 (.step 22 (pures_bt [23, 24] (.step 25 (pures_bt [26, 27] (.late 28 (pures_bt [29, 30] (.late 31 .fin)))))))))))) (.step 21 (.step 9 (.step 10 (.step 16 (.step 22 (pures_bt [23, 24] (.step 25 (pures_bt [26, 27] (.late 28 (pures_bt [29, 30] (.late 31 .fin))))))))))))) (.step 21 (.two (.step 9 (.two (.step 10 (.step 15 (.step 16 (.step 22 (pures_bt [23, 24] (.step 25 (pures_bt [26, 27] (.late 28 (pures_bt [29, 30] (.late 31 .fin)))))))))) (.step 15 (.step 10 (.step 16 (.step 22 (pures_bt [23, 24] (.step 25 (pures_bt [26, 27] (.late 28 (pures_bt [29, 30] (.late 31 .fin)))))))))))) (.step 15 (.step 9 (.step 10 (.step 16 (.step 22 (pures_bt [23, 24] (.step 25 (pures_bt [26, 27] (.late 28 (pures_bt [29, 30] (.late 31 .fin))))))))))))))))) (by kernel_rfl) (by kernel_rfl) ⟨⟨W.drew, rfl, rfl⟩, rfl⟩ ?_
  refine bt_pures _ fun K hK => ?_; simp only [pick, nthC]; (repeat go_big_quiet_step (fail)); refine wpQuiet_nil (hK _ ?_); clear hK K
  refine bt_softs _ fun K hK => ?_; simp only [pick, nthC]; (repeat go_big_quiet_step (fail)); refine wpQuiet_nil (hK _ ?_); clear hK K
  clear kx0 kx1 kx2 kx3 kx4 kx5 kx6 kx7 kx8 q0 lq b0 b1 b2 lb
  obtain ⟨ic, hic, hc0, hc1, hc2⟩ := info_parts infoClass
  obtain ⟨ini, hin, hn0, hn1, hn2⟩ := info_parts infoInts
  obtain ⟨ir, hir, hr0, hr1, hr2⟩ := info_parts infoInt
  have HI := zh (And.intro (And.intro hic (And.intro hc0 (And.intro hc1 hc2))) (And.intro (And.intro hin (And.intro hn0 (And.intro hn1 hn2))) (And.intro hir (And.intro hr0 (And.intro hr1 hr2)))))
  clear hic hc0 hc1 hc2 hin hn0 hn1 hn2 hir hr0 hr1 hr2
  obtain ⟨V0, hV0⟩ : ∃ V0, W.drew = V0 := ⟨_, rfl⟩
  have S0 : Hid (St W base nb (pb + 1) xcs (.slice Ac m kc) (.slice An m kn) (.slice Ar m kr) ns0 nx V0 (.slice Ac m kc) m cc (.slice An m kn) m ns0 (.slice Ar m kr) m rc) := zh (by
   rw [← hV0]
   refine St.ext (V := W) ⟨B0.out, HQ0.out, HN1.out.cls, own_ext HNS.out HX1.out, HN1.out.rul, Turn.refl W, fun k v xs hv hx => (HIN.out k v xs hv hx).keep (Turn.of_ext (S := fun _ => False) HX1.out) (fun _ _ _ _ h => h) _ (fun g hg => .inl hg)⟩ (by repeat first | exact xr _ | refine xa ?_ _ | refine xm ?_ _ _ | refine xd ?_ | refine xn ?_ _ | refine xs ?_ (by simp <;> omega) _))
  have BS : Hid (base ≤ W.heap.size) := zh (Nat.le_trans HLE.out HX1.out.size)
  have HNB : Hid (∀ k, ((Value.slice Ac m kc).ownBlock = some k ∨ (Value.slice An m kn).ownBlock = some k ∨ (Value.slice Ar m kr).ownBlock = some k) → k ≠ nb) := zh (fun k hk he => by
   subst he
   have key : ∀ {T : TypeId} {size n : Nat} {v : Value} {ys : List Value}, W.ownsRow base T size v n ys → v.ownBlock = some k → T = 148 := fun hr hv => by
    obtain ⟨cur, hcur⟩ := own_obj hr k hv
    rw [B0.out] at hcur
    injection hcur with hcur
    injection hcur with _ hcur
    exact hcur.symm
   rcases hk with hk | hk | hk
   ·exact absurd (key HN1.out.cls hk) (by decide)
   ·exact absurd (key (own_ext HNS.out HX1.out) hk) (by decide)
   ·exact absurd (key HN1.out.rul hk) (by decide))
  simp only [hV0]
  clear hV0
  refine ⟨?_, ?_⟩
  ·refine bt_step fun next hn => ?_; simp only [pick, nthC]
   go_wp2_with fail
   obtain ⟨g1, hg1⟩ : ∃ g1, V0.heap.size = g1 := ⟨_, rfl⟩
   obtain ⟨V1, hV1⟩ : ∃ V1, V0.alloc (.cells #[.int .u64 z.a, .int .u64 z.b, .int .u64 z.c, .int .u64 z.d] 191) = V1 := ⟨_, rfl⟩
   have X1 : Ext V0 V1 := by rw [← hV1]; exact (by repeat first | exact xr _ | refine xa ?_ _ | refine xm ?_ _ _ | refine xd ?_ | refine xn ?_ _ | refine xs ?_ (by simp <;> omega) _)
   have L1 : Hid (V1.heap[g1]? = some (.cells #[.int .u64 z.a, .int .u64 z.b, .int .u64 z.c, .int .u64 z.d] 191)) := zh (by rw [← hV1, ← hg1]; exact heap_alloc_new _ _)
   have S1 := zh (S0.out.ext X1)
   simp only [hV1, hg1]
   refine segQ_mk (fun _ => S1.out.eds B0.out HQ0.out) (hn _ _ ?_)
   clear hn next hV1 hg1 X1
   refine ⟨?_, ?_⟩
   ·refine bt_step fun next hn => ?_; simp only [pick, nthC]
    go_wp2_with (at_builtin; refine wpList_append_cells _ (by rfl) (.tmp 38) (.tmp 41) 145 rfl base 191 ic _ 4 32 Tryz.underlying145 HI.out.1.1 HI.out.1.2.1 HI.out.1.2.2.1 HI.out.1.2.2.2 rfl (by omega) (.slice Ac m kc) m cc rfl S1.out.rc (some ⟨g1, 0, none⟩) 1 1 z.cells rfl (by intro h; cases h) rfl (cells_heap L1.out) (by intro u hu; simp only [Cl.cells, List.mem_cons, List.not_mem_nil, or_false] at hu; rcases hu with rfl | rfl | rfl | rfl <;> rfl) (by unfold maxLen; omega) (by omega) (Nat.le_trans BS.out S1.out.kt.size) ?_; intro v2 V2 ho2 hgr2 hat2)
    obtain ⟨A2, k2, rfl, _, _, _⟩ := own_cells ho2
    have S2 := zh (S1.out.appC ho2 hgr2)
    have G2 : Hid ((Value.slice A2 (m + 1) k2).ownBlock = (Value.slice Ac m kc).ownBlock ∨ ∃ g, (Value.slice A2 (m + 1) k2).ownBlock = some g ∧ W.heap.size ≤ g ∧ g < V2.heap.size) := zh (hat2.imp id fun h => ⟨_, h, S1.out.kt.size, own_old ho2 _ h⟩)
    refine segQ_mk (fun _ => S2.out.eds B0.out HQ0.out) (hn _ _ ?_)
    clear hn next ho2 hgr2 hat2
    refine ⟨?_, ?_⟩
    ·refine bt_step fun next hn => ?_; simp only [pick, nthC]
     go_wp2_with fail
     obtain ⟨g3, hg3⟩ : ∃ g3, V2.heap.size = g3 := ⟨_, rfl⟩
     obtain ⟨V3, hV3⟩ : ∃ V3, V2.alloc (.cells #[nil0] 31) = V3 := ⟨_, rfl⟩
     have X3 : Ext V2 V3 := by rw [← hV3]; exact (by repeat first | exact xr _ | refine xa ?_ _ | refine xm ?_ _ _ | refine xd ?_ | refine xn ?_ _ | refine xs ?_ (by simp <;> omega) _)
     have L3 : Hid (V3.heap[g3]? = some (.cells #[nil0] 31)) := zh (by rw [← hV3, ← hg3]; exact heap_alloc_new _ _)
     have S3 := zh (S2.out.ext X3)
     simp only [hV3, hg3]
     refine segQ_mk (fun _ => S3.out.eds B0.out HQ0.out) (hn _ _ ?_)
     clear hn next hV3 hg3 X3
     refine ⟨?_, ?_⟩
     ·refine bt_step fun next hn => ?_; simp only [pick, nthC]
      go_wp2_with (at_builtin; refine wpList_append_cells _ (by rfl) (.tmp 46) (.tmp 47) 146 rfl base 31 ini _ 1 24 Tryz.underlying146 HI.out.2.1.1 HI.out.2.1.2.1 HI.out.2.1.2.2.1 HI.out.2.1.2.2.2 rfl (by omega) (.slice An m kn) m ns0 rfl S3.out.rn (some ⟨g3, 0, none⟩) 1 1 [nil0] rfl (by intro h; cases h) rfl (cells_heap L3.out) (by intro u hu; obtain rfl := List.mem_singleton.1 hu; rfl) (by unfold maxLen; omega) (by omega) (Nat.le_trans BS.out S3.out.kt.size) ?_; intro v4 V4 ho4 hgr4 hat4)
      obtain ⟨A4, k4, rfl, _, _, _⟩ := own_cells ho4
      have S4 := zh (S3.out.appN ho4 hgr4)
      have G4 : Hid ((Value.slice A4 (m + 1) k4).ownBlock = (Value.slice An m kn).ownBlock ∨ ∃ g, (Value.slice A4 (m + 1) k4).ownBlock = some g ∧ W.heap.size ≤ g ∧ g < V4.heap.size) := zh (hat4.imp id fun h => ⟨_, h, S3.out.kt.size, own_old ho4 _ h⟩)
      refine segQ_mk (fun _ => S4.out.eds B0.out HQ0.out) (hn _ _ ?_)
      clear hn next ho4 hgr4 hat4
      refine bt_step fun next hn => ?_; simp only [pick, nthC]
      go_wp2_with fail
      obtain ⟨g5, hg5⟩ : ∃ g5, V4.heap.size = g5 := ⟨_, rfl⟩
      obtain ⟨V5, hV5⟩ : ∃ V5, V4.alloc (.cells #[.int .i64 (-1)] 3) = V5 := ⟨_, rfl⟩
      have X5 : Ext V4 V5 := by rw [← hV5]; exact (by repeat first | exact xr _ | refine xa ?_ _ | refine xm ?_ _ _ | refine xd ?_ | refine xn ?_ _ | refine xs ?_ (by simp <;> omega) _)
      have L5 : Hid (V5.heap[g5]? = some (.cells #[.int .i64 (-1)] 3)) := zh (by rw [← hV5, ← hg5]; exact heap_alloc_new _ _)
      have S5 := zh (S4.out.ext X5)
      simp only [hV5, hg5]
      refine segQ_mk (fun _ => S5.out.eds B0.out HQ0.out) (hn _ _ ?_)
      clear hn next hV5 hg5 X5
      refine bt_step fun next hn => ?_; simp only [pick, nthC]
      go_wp2_with (at_builtin; refine wpList_append_cells _ (by rfl) (.tmp 52) (.tmp 53) 31 rfl base 3 ir _ 1 8 Tryz.underlying31 HI.out.2.2.1 HI.out.2.2.2.1 HI.out.2.2.2.2.1 HI.out.2.2.2.2.2 rfl (by omega) (.slice Ar m kr) m rc rfl S5.out.rr (some ⟨g5, 0, none⟩) 1 1 [.int .i64 (-1)] rfl (by intro h; cases h) rfl (cells_heap L5.out) (by intro u hu; obtain rfl := List.mem_singleton.1 hu; rfl) (by unfold maxLen; omega) (by omega) (Nat.le_trans BS.out S5.out.kt.size) ?_; intro v6 V6 ho6 hgr6 hat6)
      obtain ⟨A6, k6, rfl, _, _, _⟩ := own_cells ho6
      have S6 := zh (S5.out.appR ho6 hgr6 hat6)
      have G6 : Hid ((Value.slice A6 (m + 1) k6).ownBlock = (Value.slice Ar m kr).ownBlock ∨ ∃ g, (Value.slice A6 (m + 1) k6).ownBlock = some g ∧ W.heap.size ≤ g ∧ g < V6.heap.size) := zh (hat6.imp id fun h => ⟨_, h, S5.out.kt.size, own_old ho6 _ h⟩)
      refine segQ_mk (fun _ => S6.out.eds B0.out HQ0.out) (hn _ _ ?_)
      clear hn next ho6 hgr6 hat6
      obtain ⟨Vz, hVz⟩ : ∃ Vz, put3 V6 nb (.slice A2 (m + 1) k2) (.slice A4 (m + 1) k4) (.slice A6 (m + 1) k6) = Vz := ⟨_, rfl⟩
      have HZ := zh (stores7 S6.out B0.out HNB.out HN1.out.low HNL.out G2.out G4.out G6.out)
      have KB := S6.out.kb
      have z0 := cell_of_row _ _ 0 _ _ _ KB
      have y0 := row_frozen KB 0
      have KB1 := setCell_row (k := 0) KB (.slice A2 (m + 1) k2)
      have z1 := cell_of_row _ _ 1 _ _ _ KB1
      have y1 := row_frozen KB1 1
      have KB2 := setCell_row (k := 1) KB1 (.slice A4 (m + 1) k4)
      have z2 := cell_of_row _ _ 2 _ _ _ KB2
      have y2 := row_frozen KB2 2
      simp at z0 z1 z2
      rw [hVz] at HZ
      have HVZ := zh hVz
      clear hVz KB KB1 KB2
      refine bt_pures _ fun K hK => ?_; simp only [pick, nthC]; (repeat go_big_quiet_step (fail)); refine wpQuiet_nil (hK _ ?_); clear hK K
      refine bt_step fun next hn => ?_; simp only [pick, nthC]
      go_wp2_with fail
      refine segQ_mk (fun h => absurd rfl h) (hn _ _ ?_)
      clear hn next
      refine bt_pures _ fun K hK => ?_; simp only [pick, nthC]; (repeat go_big_quiet_step (fail)); refine wpQuiet_nil (hK _ ?_); clear hK K
      refine bt_late fun next hn => ?_; simp only [pick, nthC]
      go_wp2_with fail
      refine segQ_mk (fun _ => trivial) (hn _ _ ?_)
      clear hn next
      refine bt_pures _ fun K hK => ?_; simp only [pick, nthC]; (repeat go_big_quiet_step (fail)); refine wpQuiet_nil (hK _ ?_); clear hK K
      refine bt_late fun next hn => ?_; simp only [pick, nthC]
      go_wp2_with fail
      refine segQ_mk (fun _ => trivial) (hn _ _ ?_)
      clear hn next
      (refine bt_fin ?_)
      have HVZ2 := HVZ.out
      unfold put3 put2 at HVZ2
      simp only [HVZ2]
      go_wp2_with fail
      go_meet
      exact ⟨_, _, _, HZ.out.1, HZ.out.2.1, HZ.out.2.2.1, HZ.out.2.2.2⟩
     ·refine bt_step fun next hn => ?_; simp only [pick, nthC]
      go_wp2_with fail
      obtain ⟨g7, hg7⟩ : ∃ g7, V3.heap.size = g7 := ⟨_, rfl⟩
      obtain ⟨V7, hV7⟩ : ∃ V7, V3.alloc (.cells #[.int .i64 (-1)] 3) = V7 := ⟨_, rfl⟩
      have X7 : Ext V3 V7 := by rw [← hV7]; exact (by repeat first | exact xr _ | refine xa ?_ _ | refine xm ?_ _ _ | refine xd ?_ | refine xn ?_ _ | refine xs ?_ (by simp <;> omega) _)
      have L7 : Hid (V7.heap[g7]? = some (.cells #[.int .i64 (-1)] 3)) := zh (by rw [← hV7, ← hg7]; exact heap_alloc_new _ _)
      have S7 := zh (S3.out.ext X7)
      have M7_15 := zh (ext_block L3.out X7)
      simp only [hV7, hg7]
      refine segQ_mk (fun _ => S7.out.eds B0.out HQ0.out) (hn _ _ ?_)
      clear hn next hV7 hg7 X7
      refine bt_step fun next hn => ?_; simp only [pick, nthC]
      go_wp2_with (at_builtin; refine wpList_append_cells _ (by rfl) (.tmp 46) (.tmp 47) 146 rfl base 31 ini _ 1 24 Tryz.underlying146 HI.out.2.1.1 HI.out.2.1.2.1 HI.out.2.1.2.2.1 HI.out.2.1.2.2.2 rfl (by omega) (.slice An m kn) m ns0 rfl S7.out.rn (some ⟨g3, 0, none⟩) 1 1 [nil0] rfl (by intro h; cases h) rfl (cells_heap M7_15.out) (by intro u hu; obtain rfl := List.mem_singleton.1 hu; rfl) (by unfold maxLen; omega) (by omega) (Nat.le_trans BS.out S7.out.kt.size) ?_; intro v8 V8 ho8 hgr8 hat8)
      obtain ⟨A8, k8, rfl, _, _, _⟩ := own_cells ho8
      have S8 := zh (S7.out.appN ho8 hgr8)
      have G8 : Hid ((Value.slice A8 (m + 1) k8).ownBlock = (Value.slice An m kn).ownBlock ∨ ∃ g, (Value.slice A8 (m + 1) k8).ownBlock = some g ∧ W.heap.size ≤ g ∧ g < V8.heap.size) := zh (hat8.imp id fun h => ⟨_, h, S7.out.kt.size, own_old ho8 _ h⟩)
      have M8_21 := zh (grown_other S7.out.rn hgr8 (Ext.refl _) L7.out (by decide))
      refine segQ_mk (fun _ => S8.out.eds B0.out HQ0.out) (hn _ _ ?_)
      clear hn next ho8 hgr8 hat8
      refine bt_step fun next hn => ?_; simp only [pick, nthC]
      go_wp2_with (at_builtin; refine wpList_append_cells _ (by rfl) (.tmp 52) (.tmp 53) 31 rfl base 3 ir _ 1 8 Tryz.underlying31 HI.out.2.2.1 HI.out.2.2.2.1 HI.out.2.2.2.2.1 HI.out.2.2.2.2.2 rfl (by omega) (.slice Ar m kr) m rc rfl S8.out.rr (some ⟨g7, 0, none⟩) 1 1 [.int .i64 (-1)] rfl (by intro h; cases h) rfl (cells_heap M8_21.out) (by intro u hu; obtain rfl := List.mem_singleton.1 hu; rfl) (by unfold maxLen; omega) (by omega) (Nat.le_trans BS.out S8.out.kt.size) ?_; intro v9 V9 ho9 hgr9 hat9)
      obtain ⟨A9, k9, rfl, _, _, _⟩ := own_cells ho9
      have S9 := zh (S8.out.appR ho9 hgr9 hat9)
      have G9 : Hid ((Value.slice A9 (m + 1) k9).ownBlock = (Value.slice Ar m kr).ownBlock ∨ ∃ g, (Value.slice A9 (m + 1) k9).ownBlock = some g ∧ W.heap.size ≤ g ∧ g < V9.heap.size) := zh (hat9.imp id fun h => ⟨_, h, S8.out.kt.size, own_old ho9 _ h⟩)
      refine segQ_mk (fun _ => S9.out.eds B0.out HQ0.out) (hn _ _ ?_)
      clear hn next ho9 hgr9 hat9
      obtain ⟨Vz, hVz⟩ : ∃ Vz, put3 V9 nb (.slice A2 (m + 1) k2) (.slice A8 (m + 1) k8) (.slice A9 (m + 1) k9) = Vz := ⟨_, rfl⟩
      have HZ := zh (stores7 S9.out B0.out HNB.out HN1.out.low HNL.out G2.out G8.out G9.out)
      have KB := S9.out.kb
      have z0 := cell_of_row _ _ 0 _ _ _ KB
      have y0 := row_frozen KB 0
      have KB1 := setCell_row (k := 0) KB (.slice A2 (m + 1) k2)
      have z1 := cell_of_row _ _ 1 _ _ _ KB1
      have y1 := row_frozen KB1 1
      have KB2 := setCell_row (k := 1) KB1 (.slice A8 (m + 1) k8)
      have z2 := cell_of_row _ _ 2 _ _ _ KB2
      have y2 := row_frozen KB2 2
      simp at z0 z1 z2
      rw [hVz] at HZ
      have HVZ := zh hVz
      clear hVz KB KB1 KB2
      refine bt_pures _ fun K hK => ?_; simp only [pick, nthC]; (repeat go_big_quiet_step (fail)); refine wpQuiet_nil (hK _ ?_); clear hK K
      refine bt_step fun next hn => ?_; simp only [pick, nthC]
      go_wp2_with fail
      refine segQ_mk (fun h => absurd rfl h) (hn _ _ ?_)
      clear hn next
      refine bt_pures _ fun K hK => ?_; simp only [pick, nthC]; (repeat go_big_quiet_step (fail)); refine wpQuiet_nil (hK _ ?_); clear hK K
      refine bt_late fun next hn => ?_; simp only [pick, nthC]
      go_wp2_with fail
      refine segQ_mk (fun _ => trivial) (hn _ _ ?_)
      clear hn next
      refine bt_pures _ fun K hK => ?_; simp only [pick, nthC]; (repeat go_big_quiet_step (fail)); refine wpQuiet_nil (hK _ ?_); clear hK K
      refine bt_late fun next hn => ?_; simp only [pick, nthC]
      go_wp2_with fail
      refine segQ_mk (fun _ => trivial) (hn _ _ ?_)
      clear hn next
      (refine bt_fin ?_)
      have HVZ2 := HVZ.out
      unfold put3 put2 at HVZ2
      simp only [HVZ2]
      go_wp2_with fail
      go_meet
      exact ⟨_, _, _, HZ.out.1, HZ.out.2.1, HZ.out.2.2.1, HZ.out.2.2.2⟩
    ·refine bt_step fun next hn => ?_; simp only [pick, nthC]
     go_wp2_with fail
     obtain ⟨g10, hg10⟩ : ∃ g10, V2.heap.size = g10 := ⟨_, rfl⟩
     obtain ⟨V10, hV10⟩ : ∃ V10, V2.alloc (.cells #[.int .i64 (-1)] 3) = V10 := ⟨_, rfl⟩
     have X10 : Ext V2 V10 := by rw [← hV10]; exact (by repeat first | exact xr _ | refine xa ?_ _ | refine xm ?_ _ _ | refine xd ?_ | refine xn ?_ _ | refine xs ?_ (by simp <;> omega) _)
     have L10 : Hid (V10.heap[g10]? = some (.cells #[.int .i64 (-1)] 3)) := zh (by rw [← hV10, ← hg10]; exact heap_alloc_new _ _)
     have S10 := zh (S2.out.ext X10)
     simp only [hV10, hg10]
     refine segQ_mk (fun _ => S10.out.eds B0.out HQ0.out) (hn _ _ ?_)
     clear hn next hV10 hg10 X10
     refine bt_step fun next hn => ?_; simp only [pick, nthC]
     go_wp2_with fail
     obtain ⟨g11, hg11⟩ : ∃ g11, V10.heap.size = g11 := ⟨_, rfl⟩
     obtain ⟨V11, hV11⟩ : ∃ V11, V10.alloc (.cells #[nil0] 31) = V11 := ⟨_, rfl⟩
     have X11 : Ext V10 V11 := by rw [← hV11]; exact (by repeat first | exact xr _ | refine xa ?_ _ | refine xm ?_ _ _ | refine xd ?_ | refine xn ?_ _ | refine xs ?_ (by simp <;> omega) _)
     have L11 : Hid (V11.heap[g11]? = some (.cells #[nil0] 31)) := zh (by rw [← hV11, ← hg11]; exact heap_alloc_new _ _)
     have S11 := zh (S10.out.ext X11)
     have M11_21 := zh (ext_block L10.out X11)
     simp only [hV11, hg11]
     refine segQ_mk (fun _ => S11.out.eds B0.out HQ0.out) (hn _ _ ?_)
     clear hn next hV11 hg11 X11
     refine bt_step fun next hn => ?_; simp only [pick, nthC]
     go_wp2_with (at_builtin; refine wpList_append_cells _ (by rfl) (.tmp 46) (.tmp 47) 146 rfl base 31 ini _ 1 24 Tryz.underlying146 HI.out.2.1.1 HI.out.2.1.2.1 HI.out.2.1.2.2.1 HI.out.2.1.2.2.2 rfl (by omega) (.slice An m kn) m ns0 rfl S11.out.rn (some ⟨g11, 0, none⟩) 1 1 [nil0] rfl (by intro h; cases h) rfl (cells_heap L11.out) (by intro u hu; obtain rfl := List.mem_singleton.1 hu; rfl) (by unfold maxLen; omega) (by omega) (Nat.le_trans BS.out S11.out.kt.size) ?_; intro v12 V12 ho12 hgr12 hat12)
     obtain ⟨A12, k12, rfl, _, _, _⟩ := own_cells ho12
     have S12 := zh (S11.out.appN ho12 hgr12)
     have G12 : Hid ((Value.slice A12 (m + 1) k12).ownBlock = (Value.slice An m kn).ownBlock ∨ ∃ g, (Value.slice A12 (m + 1) k12).ownBlock = some g ∧ W.heap.size ≤ g ∧ g < V12.heap.size) := zh (hat12.imp id fun h => ⟨_, h, S11.out.kt.size, own_old ho12 _ h⟩)
     have M12_21 := zh (grown_other S11.out.rn hgr12 (Ext.refl _) M11_21.out (by decide))
     refine segQ_mk (fun _ => S12.out.eds B0.out HQ0.out) (hn _ _ ?_)
     clear hn next ho12 hgr12 hat12
     refine bt_step fun next hn => ?_; simp only [pick, nthC]
     go_wp2_with (at_builtin; refine wpList_append_cells _ (by rfl) (.tmp 52) (.tmp 53) 31 rfl base 3 ir _ 1 8 Tryz.underlying31 HI.out.2.2.1 HI.out.2.2.2.1 HI.out.2.2.2.2.1 HI.out.2.2.2.2.2 rfl (by omega) (.slice Ar m kr) m rc rfl S12.out.rr (some ⟨g10, 0, none⟩) 1 1 [.int .i64 (-1)] rfl (by intro h; cases h) rfl (cells_heap M12_21.out) (by intro u hu; obtain rfl := List.mem_singleton.1 hu; rfl) (by unfold maxLen; omega) (by omega) (Nat.le_trans BS.out S12.out.kt.size) ?_; intro v13 V13 ho13 hgr13 hat13)
     obtain ⟨A13, k13, rfl, _, _, _⟩ := own_cells ho13
     have S13 := zh (S12.out.appR ho13 hgr13 hat13)
     have G13 : Hid ((Value.slice A13 (m + 1) k13).ownBlock = (Value.slice Ar m kr).ownBlock ∨ ∃ g, (Value.slice A13 (m + 1) k13).ownBlock = some g ∧ W.heap.size ≤ g ∧ g < V13.heap.size) := zh (hat13.imp id fun h => ⟨_, h, S12.out.kt.size, own_old ho13 _ h⟩)
     refine segQ_mk (fun _ => S13.out.eds B0.out HQ0.out) (hn _ _ ?_)
     clear hn next ho13 hgr13 hat13
     obtain ⟨Vz, hVz⟩ : ∃ Vz, put3 V13 nb (.slice A2 (m + 1) k2) (.slice A12 (m + 1) k12) (.slice A13 (m + 1) k13) = Vz := ⟨_, rfl⟩
     have HZ := zh (stores7 S13.out B0.out HNB.out HN1.out.low HNL.out G2.out G12.out G13.out)
     have KB := S13.out.kb
     have z0 := cell_of_row _ _ 0 _ _ _ KB
     have y0 := row_frozen KB 0
     have KB1 := setCell_row (k := 0) KB (.slice A2 (m + 1) k2)
     have z1 := cell_of_row _ _ 1 _ _ _ KB1
     have y1 := row_frozen KB1 1
     have KB2 := setCell_row (k := 1) KB1 (.slice A12 (m + 1) k12)
     have z2 := cell_of_row _ _ 2 _ _ _ KB2
     have y2 := row_frozen KB2 2
     simp at z0 z1 z2
     rw [hVz] at HZ
     have HVZ := zh hVz
     clear hVz KB KB1 KB2
     refine bt_pures _ fun K hK => ?_; simp only [pick, nthC]; (repeat go_big_quiet_step (fail)); refine wpQuiet_nil (hK _ ?_); clear hK K
     refine bt_step fun next hn => ?_; simp only [pick, nthC]
     go_wp2_with fail
     refine segQ_mk (fun h => absurd rfl h) (hn _ _ ?_)
     clear hn next
     refine bt_pures _ fun K hK => ?_; simp only [pick, nthC]; (repeat go_big_quiet_step (fail)); refine wpQuiet_nil (hK _ ?_); clear hK K
     refine bt_late fun next hn => ?_; simp only [pick, nthC]
     go_wp2_with fail
     refine segQ_mk (fun _ => trivial) (hn _ _ ?_)
     clear hn next
     refine bt_pures _ fun K hK => ?_; simp only [pick, nthC]; (repeat go_big_quiet_step (fail)); refine wpQuiet_nil (hK _ ?_); clear hK K
     refine bt_late fun next hn => ?_; simp only [pick, nthC]
     go_wp2_with fail
     refine segQ_mk (fun _ => trivial) (hn _ _ ?_)
     clear hn next
     (refine bt_fin ?_)
     have HVZ2 := HVZ.out
     unfold put3 put2 at HVZ2
     simp only [HVZ2]
     go_wp2_with fail
     go_meet
     exact ⟨_, _, _, HZ.out.1, HZ.out.2.1, HZ.out.2.2.1, HZ.out.2.2.2⟩
   ·refine ⟨?_, ?_⟩
    ·refine bt_step fun next hn => ?_; simp only [pick, nthC]
     go_wp2_with fail
     obtain ⟨g14, hg14⟩ : ∃ g14, V1.heap.size = g14 := ⟨_, rfl⟩
     obtain ⟨V14, hV14⟩ : ∃ V14, V1.alloc (.cells #[nil0] 31) = V14 := ⟨_, rfl⟩
     have X14 : Ext V1 V14 := by rw [← hV14]; exact (by repeat first | exact xr _ | refine xa ?_ _ | refine xm ?_ _ _ | refine xd ?_ | refine xn ?_ _ | refine xs ?_ (by simp <;> omega) _)
     have L14 : Hid (V14.heap[g14]? = some (.cells #[nil0] 31)) := zh (by rw [← hV14, ← hg14]; exact heap_alloc_new _ _)
     have S14 := zh (S1.out.ext X14)
     have M14_9 := zh (ext_block L1.out X14)
     simp only [hV14, hg14]
     refine segQ_mk (fun _ => S14.out.eds B0.out HQ0.out) (hn _ _ ?_)
     clear hn next hV14 hg14 X14
     refine ⟨?_, ?_⟩
     ·refine bt_step fun next hn => ?_; simp only [pick, nthC]
      go_wp2_with (at_builtin; refine wpList_append_cells _ (by rfl) (.tmp 38) (.tmp 41) 145 rfl base 191 ic _ 4 32 Tryz.underlying145 HI.out.1.1 HI.out.1.2.1 HI.out.1.2.2.1 HI.out.1.2.2.2 rfl (by omega) (.slice Ac m kc) m cc rfl S14.out.rc (some ⟨g1, 0, none⟩) 1 1 z.cells rfl (by intro h; cases h) rfl (cells_heap M14_9.out) (by intro u hu; simp only [Cl.cells, List.mem_cons, List.not_mem_nil, or_false] at hu; rcases hu with rfl | rfl | rfl | rfl <;> rfl) (by unfold maxLen; omega) (by omega) (Nat.le_trans BS.out S14.out.kt.size) ?_; intro v15 V15 ho15 hgr15 hat15)
      obtain ⟨A15, k15, rfl, _, _, _⟩ := own_cells ho15
      have S15 := zh (S14.out.appC ho15 hgr15)
      have G15 : Hid ((Value.slice A15 (m + 1) k15).ownBlock = (Value.slice Ac m kc).ownBlock ∨ ∃ g, (Value.slice A15 (m + 1) k15).ownBlock = some g ∧ W.heap.size ≤ g ∧ g < V15.heap.size) := zh (hat15.imp id fun h => ⟨_, h, S14.out.kt.size, own_old ho15 _ h⟩)
      have M15_15 := zh (grown_other S14.out.rc hgr15 (Ext.refl _) L14.out (by decide))
      refine segQ_mk (fun _ => S15.out.eds B0.out HQ0.out) (hn _ _ ?_)
      clear hn next ho15 hgr15 hat15
      refine ⟨?_, ?_⟩
      ·refine bt_step fun next hn => ?_; simp only [pick, nthC]
       go_wp2_with (at_builtin; refine wpList_append_cells _ (by rfl) (.tmp 46) (.tmp 47) 146 rfl base 31 ini _ 1 24 Tryz.underlying146 HI.out.2.1.1 HI.out.2.1.2.1 HI.out.2.1.2.2.1 HI.out.2.1.2.2.2 rfl (by omega) (.slice An m kn) m ns0 rfl S15.out.rn (some ⟨g14, 0, none⟩) 1 1 [nil0] rfl (by intro h; cases h) rfl (cells_heap M15_15.out) (by intro u hu; obtain rfl := List.mem_singleton.1 hu; rfl) (by unfold maxLen; omega) (by omega) (Nat.le_trans BS.out S15.out.kt.size) ?_; intro v16 V16 ho16 hgr16 hat16)
       obtain ⟨A16, k16, rfl, _, _, _⟩ := own_cells ho16
       have S16 := zh (S15.out.appN ho16 hgr16)
       have G16 : Hid ((Value.slice A16 (m + 1) k16).ownBlock = (Value.slice An m kn).ownBlock ∨ ∃ g, (Value.slice A16 (m + 1) k16).ownBlock = some g ∧ W.heap.size ≤ g ∧ g < V16.heap.size) := zh (hat16.imp id fun h => ⟨_, h, S15.out.kt.size, own_old ho16 _ h⟩)
       refine segQ_mk (fun _ => S16.out.eds B0.out HQ0.out) (hn _ _ ?_)
       clear hn next ho16 hgr16 hat16
       refine bt_step fun next hn => ?_; simp only [pick, nthC]
       go_wp2_with fail
       obtain ⟨g17, hg17⟩ : ∃ g17, V16.heap.size = g17 := ⟨_, rfl⟩
       obtain ⟨V17, hV17⟩ : ∃ V17, V16.alloc (.cells #[.int .i64 (-1)] 3) = V17 := ⟨_, rfl⟩
       have X17 : Ext V16 V17 := by rw [← hV17]; exact (by repeat first | exact xr _ | refine xa ?_ _ | refine xm ?_ _ _ | refine xd ?_ | refine xn ?_ _ | refine xs ?_ (by simp <;> omega) _)
       have L17 : Hid (V17.heap[g17]? = some (.cells #[.int .i64 (-1)] 3)) := zh (by rw [← hV17, ← hg17]; exact heap_alloc_new _ _)
       have S17 := zh (S16.out.ext X17)
       simp only [hV17, hg17]
       refine segQ_mk (fun _ => S17.out.eds B0.out HQ0.out) (hn _ _ ?_)
       clear hn next hV17 hg17 X17
       refine bt_step fun next hn => ?_; simp only [pick, nthC]
       go_wp2_with (at_builtin; refine wpList_append_cells _ (by rfl) (.tmp 52) (.tmp 53) 31 rfl base 3 ir _ 1 8 Tryz.underlying31 HI.out.2.2.1 HI.out.2.2.2.1 HI.out.2.2.2.2.1 HI.out.2.2.2.2.2 rfl (by omega) (.slice Ar m kr) m rc rfl S17.out.rr (some ⟨g17, 0, none⟩) 1 1 [.int .i64 (-1)] rfl (by intro h; cases h) rfl (cells_heap L17.out) (by intro u hu; obtain rfl := List.mem_singleton.1 hu; rfl) (by unfold maxLen; omega) (by omega) (Nat.le_trans BS.out S17.out.kt.size) ?_; intro v18 V18 ho18 hgr18 hat18)
       obtain ⟨A18, k18, rfl, _, _, _⟩ := own_cells ho18
       have S18 := zh (S17.out.appR ho18 hgr18 hat18)
       have G18 : Hid ((Value.slice A18 (m + 1) k18).ownBlock = (Value.slice Ar m kr).ownBlock ∨ ∃ g, (Value.slice A18 (m + 1) k18).ownBlock = some g ∧ W.heap.size ≤ g ∧ g < V18.heap.size) := zh (hat18.imp id fun h => ⟨_, h, S17.out.kt.size, own_old ho18 _ h⟩)
       refine segQ_mk (fun _ => S18.out.eds B0.out HQ0.out) (hn _ _ ?_)
       clear hn next ho18 hgr18 hat18
       obtain ⟨Vz, hVz⟩ : ∃ Vz, put3 V18 nb (.slice A15 (m + 1) k15) (.slice A16 (m + 1) k16) (.slice A18 (m + 1) k18) = Vz := ⟨_, rfl⟩
       have HZ := zh (stores7 S18.out B0.out HNB.out HN1.out.low HNL.out G15.out G16.out G18.out)
       have KB := S18.out.kb
       have z0 := cell_of_row _ _ 0 _ _ _ KB
       have y0 := row_frozen KB 0
       have KB1 := setCell_row (k := 0) KB (.slice A15 (m + 1) k15)
       have z1 := cell_of_row _ _ 1 _ _ _ KB1
       have y1 := row_frozen KB1 1
       have KB2 := setCell_row (k := 1) KB1 (.slice A16 (m + 1) k16)
       have z2 := cell_of_row _ _ 2 _ _ _ KB2
       have y2 := row_frozen KB2 2
       simp at z0 z1 z2
       rw [hVz] at HZ
       have HVZ := zh hVz
       clear hVz KB KB1 KB2
       refine bt_pures _ fun K hK => ?_; simp only [pick, nthC]; (repeat go_big_quiet_step (fail)); refine wpQuiet_nil (hK _ ?_); clear hK K
       refine bt_step fun next hn => ?_; simp only [pick, nthC]
       go_wp2_with fail
       refine segQ_mk (fun h => absurd rfl h) (hn _ _ ?_)
       clear hn next
       refine bt_pures _ fun K hK => ?_; simp only [pick, nthC]; (repeat go_big_quiet_step (fail)); refine wpQuiet_nil (hK _ ?_); clear hK K
       refine bt_late fun next hn => ?_; simp only [pick, nthC]
       go_wp2_with fail
       refine segQ_mk (fun _ => trivial) (hn _ _ ?_)
       clear hn next
       refine bt_pures _ fun K hK => ?_; simp only [pick, nthC]; (repeat go_big_quiet_step (fail)); refine wpQuiet_nil (hK _ ?_); clear hK K
       refine bt_late fun next hn => ?_; simp only [pick, nthC]
       go_wp2_with fail
       refine segQ_mk (fun _ => trivial) (hn _ _ ?_)
       clear hn next
       (refine bt_fin ?_)
       have HVZ2 := HVZ.out
       unfold put3 put2 at HVZ2
       simp only [HVZ2]
       go_wp2_with fail
       go_meet
       exact ⟨_, _, _, HZ.out.1, HZ.out.2.1, HZ.out.2.2.1, HZ.out.2.2.2⟩
      ·refine bt_step fun next hn => ?_; simp only [pick, nthC]
       go_wp2_with fail
       obtain ⟨g19, hg19⟩ : ∃ g19, V15.heap.size = g19 := ⟨_, rfl⟩
       obtain ⟨V19, hV19⟩ : ∃ V19, V15.alloc (.cells #[.int .i64 (-1)] 3) = V19 := ⟨_, rfl⟩
       have X19 : Ext V15 V19 := by rw [← hV19]; exact (by repeat first | exact xr _ | refine xa ?_ _ | refine xm ?_ _ _ | refine xd ?_ | refine xn ?_ _ | refine xs ?_ (by simp <;> omega) _)
       have L19 : Hid (V19.heap[g19]? = some (.cells #[.int .i64 (-1)] 3)) := zh (by rw [← hV19, ← hg19]; exact heap_alloc_new _ _)
       have S19 := zh (S15.out.ext X19)
       have M19_15 := zh (ext_block M15_15.out X19)
       simp only [hV19, hg19]
       refine segQ_mk (fun _ => S19.out.eds B0.out HQ0.out) (hn _ _ ?_)
       clear hn next hV19 hg19 X19
       refine bt_step fun next hn => ?_; simp only [pick, nthC]
       go_wp2_with (at_builtin; refine wpList_append_cells _ (by rfl) (.tmp 46) (.tmp 47) 146 rfl base 31 ini _ 1 24 Tryz.underlying146 HI.out.2.1.1 HI.out.2.1.2.1 HI.out.2.1.2.2.1 HI.out.2.1.2.2.2 rfl (by omega) (.slice An m kn) m ns0 rfl S19.out.rn (some ⟨g14, 0, none⟩) 1 1 [nil0] rfl (by intro h; cases h) rfl (cells_heap M19_15.out) (by intro u hu; obtain rfl := List.mem_singleton.1 hu; rfl) (by unfold maxLen; omega) (by omega) (Nat.le_trans BS.out S19.out.kt.size) ?_; intro v20 V20 ho20 hgr20 hat20)
       obtain ⟨A20, k20, rfl, _, _, _⟩ := own_cells ho20
       have S20 := zh (S19.out.appN ho20 hgr20)
       have G20 : Hid ((Value.slice A20 (m + 1) k20).ownBlock = (Value.slice An m kn).ownBlock ∨ ∃ g, (Value.slice A20 (m + 1) k20).ownBlock = some g ∧ W.heap.size ≤ g ∧ g < V20.heap.size) := zh (hat20.imp id fun h => ⟨_, h, S19.out.kt.size, own_old ho20 _ h⟩)
       have M20_21 := zh (grown_other S19.out.rn hgr20 (Ext.refl _) L19.out (by decide))
       refine segQ_mk (fun _ => S20.out.eds B0.out HQ0.out) (hn _ _ ?_)
       clear hn next ho20 hgr20 hat20
       refine bt_step fun next hn => ?_; simp only [pick, nthC]
       go_wp2_with (at_builtin; refine wpList_append_cells _ (by rfl) (.tmp 52) (.tmp 53) 31 rfl base 3 ir _ 1 8 Tryz.underlying31 HI.out.2.2.1 HI.out.2.2.2.1 HI.out.2.2.2.2.1 HI.out.2.2.2.2.2 rfl (by omega) (.slice Ar m kr) m rc rfl S20.out.rr (some ⟨g19, 0, none⟩) 1 1 [.int .i64 (-1)] rfl (by intro h; cases h) rfl (cells_heap M20_21.out) (by intro u hu; obtain rfl := List.mem_singleton.1 hu; rfl) (by unfold maxLen; omega) (by omega) (Nat.le_trans BS.out S20.out.kt.size) ?_; intro v21 V21 ho21 hgr21 hat21)
       obtain ⟨A21, k21, rfl, _, _, _⟩ := own_cells ho21
       have S21 := zh (S20.out.appR ho21 hgr21 hat21)
       have G21 : Hid ((Value.slice A21 (m + 1) k21).ownBlock = (Value.slice Ar m kr).ownBlock ∨ ∃ g, (Value.slice A21 (m + 1) k21).ownBlock = some g ∧ W.heap.size ≤ g ∧ g < V21.heap.size) := zh (hat21.imp id fun h => ⟨_, h, S20.out.kt.size, own_old ho21 _ h⟩)
       refine segQ_mk (fun _ => S21.out.eds B0.out HQ0.out) (hn _ _ ?_)
       clear hn next ho21 hgr21 hat21
       obtain ⟨Vz, hVz⟩ : ∃ Vz, put3 V21 nb (.slice A15 (m + 1) k15) (.slice A20 (m + 1) k20) (.slice A21 (m + 1) k21) = Vz := ⟨_, rfl⟩
       have HZ := zh (stores7 S21.out B0.out HNB.out HN1.out.low HNL.out G15.out G20.out G21.out)
       have KB := S21.out.kb
       have z0 := cell_of_row _ _ 0 _ _ _ KB
       have y0 := row_frozen KB 0
       have KB1 := setCell_row (k := 0) KB (.slice A15 (m + 1) k15)
       have z1 := cell_of_row _ _ 1 _ _ _ KB1
       have y1 := row_frozen KB1 1
       have KB2 := setCell_row (k := 1) KB1 (.slice A20 (m + 1) k20)
       have z2 := cell_of_row _ _ 2 _ _ _ KB2
       have y2 := row_frozen KB2 2
       simp at z0 z1 z2
       rw [hVz] at HZ
       have HVZ := zh hVz
       clear hVz KB KB1 KB2
       refine bt_pures _ fun K hK => ?_; simp only [pick, nthC]; (repeat go_big_quiet_step (fail)); refine wpQuiet_nil (hK _ ?_); clear hK K
       refine bt_step fun next hn => ?_; simp only [pick, nthC]
       go_wp2_with fail
       refine segQ_mk (fun h => absurd rfl h) (hn _ _ ?_)
       clear hn next
       refine bt_pures _ fun K hK => ?_; simp only [pick, nthC]; (repeat go_big_quiet_step (fail)); refine wpQuiet_nil (hK _ ?_); clear hK K
       refine bt_late fun next hn => ?_; simp only [pick, nthC]
       go_wp2_with fail
       refine segQ_mk (fun _ => trivial) (hn _ _ ?_)
       clear hn next
       refine bt_pures _ fun K hK => ?_; simp only [pick, nthC]; (repeat go_big_quiet_step (fail)); refine wpQuiet_nil (hK _ ?_); clear hK K
       refine bt_late fun next hn => ?_; simp only [pick, nthC]
       go_wp2_with fail
       refine segQ_mk (fun _ => trivial) (hn _ _ ?_)
       clear hn next
       (refine bt_fin ?_)
       have HVZ2 := HVZ.out
       unfold put3 put2 at HVZ2
       simp only [HVZ2]
       go_wp2_with fail
       go_meet
       exact ⟨_, _, _, HZ.out.1, HZ.out.2.1, HZ.out.2.2.1, HZ.out.2.2.2⟩
     ·refine bt_step fun next hn => ?_; simp only [pick, nthC]
      go_wp2_with fail
      obtain ⟨g22, hg22⟩ : ∃ g22, V14.heap.size = g22 := ⟨_, rfl⟩
      obtain ⟨V22, hV22⟩ : ∃ V22, V14.alloc (.cells #[.int .i64 (-1)] 3) = V22 := ⟨_, rfl⟩
      have X22 : Ext V14 V22 := by rw [← hV22]; exact (by repeat first | exact xr _ | refine xa ?_ _ | refine xm ?_ _ _ | refine xd ?_ | refine xn ?_ _ | refine xs ?_ (by simp <;> omega) _)
      have L22 : Hid (V22.heap[g22]? = some (.cells #[.int .i64 (-1)] 3)) := zh (by rw [← hV22, ← hg22]; exact heap_alloc_new _ _)
      have S22 := zh (S14.out.ext X22)
      have M22_9 := zh (ext_block M14_9.out X22)
      have M22_15 := zh (ext_block L14.out X22)
      simp only [hV22, hg22]
      refine segQ_mk (fun _ => S22.out.eds B0.out HQ0.out) (hn _ _ ?_)
      clear hn next hV22 hg22 X22
      refine bt_step fun next hn => ?_; simp only [pick, nthC]
      go_wp2_with (at_builtin; refine wpList_append_cells _ (by rfl) (.tmp 38) (.tmp 41) 145 rfl base 191 ic _ 4 32 Tryz.underlying145 HI.out.1.1 HI.out.1.2.1 HI.out.1.2.2.1 HI.out.1.2.2.2 rfl (by omega) (.slice Ac m kc) m cc rfl S22.out.rc (some ⟨g1, 0, none⟩) 1 1 z.cells rfl (by intro h; cases h) rfl (cells_heap M22_9.out) (by intro u hu; simp only [Cl.cells, List.mem_cons, List.not_mem_nil, or_false] at hu; rcases hu with rfl | rfl | rfl | rfl <;> rfl) (by unfold maxLen; omega) (by omega) (Nat.le_trans BS.out S22.out.kt.size) ?_; intro v23 V23 ho23 hgr23 hat23)
      obtain ⟨A23, k23, rfl, _, _, _⟩ := own_cells ho23
      have S23 := zh (S22.out.appC ho23 hgr23)
      have G23 : Hid ((Value.slice A23 (m + 1) k23).ownBlock = (Value.slice Ac m kc).ownBlock ∨ ∃ g, (Value.slice A23 (m + 1) k23).ownBlock = some g ∧ W.heap.size ≤ g ∧ g < V23.heap.size) := zh (hat23.imp id fun h => ⟨_, h, S22.out.kt.size, own_old ho23 _ h⟩)
      have M23_15 := zh (grown_other S22.out.rc hgr23 (Ext.refl _) M22_15.out (by decide))
      have M23_21 := zh (grown_other S22.out.rc hgr23 (Ext.refl _) L22.out (by decide))
      refine segQ_mk (fun _ => S23.out.eds B0.out HQ0.out) (hn _ _ ?_)
      clear hn next ho23 hgr23 hat23
      refine bt_step fun next hn => ?_; simp only [pick, nthC]
      go_wp2_with (at_builtin; refine wpList_append_cells _ (by rfl) (.tmp 46) (.tmp 47) 146 rfl base 31 ini _ 1 24 Tryz.underlying146 HI.out.2.1.1 HI.out.2.1.2.1 HI.out.2.1.2.2.1 HI.out.2.1.2.2.2 rfl (by omega) (.slice An m kn) m ns0 rfl S23.out.rn (some ⟨g14, 0, none⟩) 1 1 [nil0] rfl (by intro h; cases h) rfl (cells_heap M23_15.out) (by intro u hu; obtain rfl := List.mem_singleton.1 hu; rfl) (by unfold maxLen; omega) (by omega) (Nat.le_trans BS.out S23.out.kt.size) ?_; intro v24 V24 ho24 hgr24 hat24)
      obtain ⟨A24, k24, rfl, _, _, _⟩ := own_cells ho24
      have S24 := zh (S23.out.appN ho24 hgr24)
      have G24 : Hid ((Value.slice A24 (m + 1) k24).ownBlock = (Value.slice An m kn).ownBlock ∨ ∃ g, (Value.slice A24 (m + 1) k24).ownBlock = some g ∧ W.heap.size ≤ g ∧ g < V24.heap.size) := zh (hat24.imp id fun h => ⟨_, h, S23.out.kt.size, own_old ho24 _ h⟩)
      have M24_21 := zh (grown_other S23.out.rn hgr24 (Ext.refl _) M23_21.out (by decide))
      refine segQ_mk (fun _ => S24.out.eds B0.out HQ0.out) (hn _ _ ?_)
      clear hn next ho24 hgr24 hat24
      refine bt_step fun next hn => ?_; simp only [pick, nthC]
      go_wp2_with (at_builtin; refine wpList_append_cells _ (by rfl) (.tmp 52) (.tmp 53) 31 rfl base 3 ir _ 1 8 Tryz.underlying31 HI.out.2.2.1 HI.out.2.2.2.1 HI.out.2.2.2.2.1 HI.out.2.2.2.2.2 rfl (by omega) (.slice Ar m kr) m rc rfl S24.out.rr (some ⟨g22, 0, none⟩) 1 1 [.int .i64 (-1)] rfl (by intro h; cases h) rfl (cells_heap M24_21.out) (by intro u hu; obtain rfl := List.mem_singleton.1 hu; rfl) (by unfold maxLen; omega) (by omega) (Nat.le_trans BS.out S24.out.kt.size) ?_; intro v25 V25 ho25 hgr25 hat25)
      obtain ⟨A25, k25, rfl, _, _, _⟩ := own_cells ho25
      have S25 := zh (S24.out.appR ho25 hgr25 hat25)
      have G25 : Hid ((Value.slice A25 (m + 1) k25).ownBlock = (Value.slice Ar m kr).ownBlock ∨ ∃ g, (Value.slice A25 (m + 1) k25).ownBlock = some g ∧ W.heap.size ≤ g ∧ g < V25.heap.size) := zh (hat25.imp id fun h => ⟨_, h, S24.out.kt.size, own_old ho25 _ h⟩)
      refine segQ_mk (fun _ => S25.out.eds B0.out HQ0.out) (hn _ _ ?_)
      clear hn next ho25 hgr25 hat25
      obtain ⟨Vz, hVz⟩ : ∃ Vz, put3 V25 nb (.slice A23 (m + 1) k23) (.slice A24 (m + 1) k24) (.slice A25 (m + 1) k25) = Vz := ⟨_, rfl⟩
      have HZ := zh (stores7 S25.out B0.out HNB.out HN1.out.low HNL.out G23.out G24.out G25.out)
      have KB := S25.out.kb
      have z0 := cell_of_row _ _ 0 _ _ _ KB
      have y0 := row_frozen KB 0
      have KB1 := setCell_row (k := 0) KB (.slice A23 (m + 1) k23)
      have z1 := cell_of_row _ _ 1 _ _ _ KB1
      have y1 := row_frozen KB1 1
      have KB2 := setCell_row (k := 1) KB1 (.slice A24 (m + 1) k24)
      have z2 := cell_of_row _ _ 2 _ _ _ KB2
      have y2 := row_frozen KB2 2
      simp at z0 z1 z2
      rw [hVz] at HZ
      have HVZ := zh hVz
      clear hVz KB KB1 KB2
      refine bt_pures _ fun K hK => ?_; simp only [pick, nthC]; (repeat go_big_quiet_step (fail)); refine wpQuiet_nil (hK _ ?_); clear hK K
      refine bt_step fun next hn => ?_; simp only [pick, nthC]
      go_wp2_with fail
      refine segQ_mk (fun h => absurd rfl h) (hn _ _ ?_)
      clear hn next
      refine bt_pures _ fun K hK => ?_; simp only [pick, nthC]; (repeat go_big_quiet_step (fail)); refine wpQuiet_nil (hK _ ?_); clear hK K
      refine bt_late fun next hn => ?_; simp only [pick, nthC]
      go_wp2_with fail
      refine segQ_mk (fun _ => trivial) (hn _ _ ?_)
      clear hn next
      refine bt_pures _ fun K hK => ?_; simp only [pick, nthC]; (repeat go_big_quiet_step (fail)); refine wpQuiet_nil (hK _ ?_); clear hK K
      refine bt_late fun next hn => ?_; simp only [pick, nthC]
      go_wp2_with fail
      refine segQ_mk (fun _ => trivial) (hn _ _ ?_)
      clear hn next
      (refine bt_fin ?_)
      have HVZ2 := HVZ.out
      unfold put3 put2 at HVZ2
      simp only [HVZ2]
      go_wp2_with fail
      go_meet
      exact ⟨_, _, _, HZ.out.1, HZ.out.2.1, HZ.out.2.2.1, HZ.out.2.2.2⟩
    ·refine bt_step fun next hn => ?_; simp only [pick, nthC]
     go_wp2_with fail
     obtain ⟨g26, hg26⟩ : ∃ g26, V1.heap.size = g26 := ⟨_, rfl⟩
     obtain ⟨V26, hV26⟩ : ∃ V26, V1.alloc (.cells #[.int .i64 (-1)] 3) = V26 := ⟨_, rfl⟩
     have X26 : Ext V1 V26 := by rw [← hV26]; exact (by repeat first | exact xr _ | refine xa ?_ _ | refine xm ?_ _ _ | refine xd ?_ | refine xn ?_ _ | refine xs ?_ (by simp <;> omega) _)
     have L26 : Hid (V26.heap[g26]? = some (.cells #[.int .i64 (-1)] 3)) := zh (by rw [← hV26, ← hg26]; exact heap_alloc_new _ _)
     have S26 := zh (S1.out.ext X26)
     have M26_9 := zh (ext_block L1.out X26)
     simp only [hV26, hg26]
     refine segQ_mk (fun _ => S26.out.eds B0.out HQ0.out) (hn _ _ ?_)
     clear hn next hV26 hg26 X26
     refine ⟨?_, ?_⟩
     ·refine bt_step fun next hn => ?_; simp only [pick, nthC]
      go_wp2_with (at_builtin; refine wpList_append_cells _ (by rfl) (.tmp 38) (.tmp 41) 145 rfl base 191 ic _ 4 32 Tryz.underlying145 HI.out.1.1 HI.out.1.2.1 HI.out.1.2.2.1 HI.out.1.2.2.2 rfl (by omega) (.slice Ac m kc) m cc rfl S26.out.rc (some ⟨g1, 0, none⟩) 1 1 z.cells rfl (by intro h; cases h) rfl (cells_heap M26_9.out) (by intro u hu; simp only [Cl.cells, List.mem_cons, List.not_mem_nil, or_false] at hu; rcases hu with rfl | rfl | rfl | rfl <;> rfl) (by unfold maxLen; omega) (by omega) (Nat.le_trans BS.out S26.out.kt.size) ?_; intro v27 V27 ho27 hgr27 hat27)
      obtain ⟨A27, k27, rfl, _, _, _⟩ := own_cells ho27
      have S27 := zh (S26.out.appC ho27 hgr27)
      have G27 : Hid ((Value.slice A27 (m + 1) k27).ownBlock = (Value.slice Ac m kc).ownBlock ∨ ∃ g, (Value.slice A27 (m + 1) k27).ownBlock = some g ∧ W.heap.size ≤ g ∧ g < V27.heap.size) := zh (hat27.imp id fun h => ⟨_, h, S26.out.kt.size, own_old ho27 _ h⟩)
      have M27_21 := zh (grown_other S26.out.rc hgr27 (Ext.refl _) L26.out (by decide))
      refine segQ_mk (fun _ => S27.out.eds B0.out HQ0.out) (hn _ _ ?_)
      clear hn next ho27 hgr27 hat27
      refine bt_step fun next hn => ?_; simp only [pick, nthC]
      go_wp2_with fail
      obtain ⟨g28, hg28⟩ : ∃ g28, V27.heap.size = g28 := ⟨_, rfl⟩
      obtain ⟨V28, hV28⟩ : ∃ V28, V27.alloc (.cells #[nil0] 31) = V28 := ⟨_, rfl⟩
      have X28 : Ext V27 V28 := by rw [← hV28]; exact (by repeat first | exact xr _ | refine xa ?_ _ | refine xm ?_ _ _ | refine xd ?_ | refine xn ?_ _ | refine xs ?_ (by simp <;> omega) _)
      have L28 : Hid (V28.heap[g28]? = some (.cells #[nil0] 31)) := zh (by rw [← hV28, ← hg28]; exact heap_alloc_new _ _)
      have S28 := zh (S27.out.ext X28)
      have M28_21 := zh (ext_block M27_21.out X28)
      simp only [hV28, hg28]
      refine segQ_mk (fun _ => S28.out.eds B0.out HQ0.out) (hn _ _ ?_)
      clear hn next hV28 hg28 X28
      refine bt_step fun next hn => ?_; simp only [pick, nthC]
      go_wp2_with (at_builtin; refine wpList_append_cells _ (by rfl) (.tmp 46) (.tmp 47) 146 rfl base 31 ini _ 1 24 Tryz.underlying146 HI.out.2.1.1 HI.out.2.1.2.1 HI.out.2.1.2.2.1 HI.out.2.1.2.2.2 rfl (by omega) (.slice An m kn) m ns0 rfl S28.out.rn (some ⟨g28, 0, none⟩) 1 1 [nil0] rfl (by intro h; cases h) rfl (cells_heap L28.out) (by intro u hu; obtain rfl := List.mem_singleton.1 hu; rfl) (by unfold maxLen; omega) (by omega) (Nat.le_trans BS.out S28.out.kt.size) ?_; intro v29 V29 ho29 hgr29 hat29)
      obtain ⟨A29, k29, rfl, _, _, _⟩ := own_cells ho29
      have S29 := zh (S28.out.appN ho29 hgr29)
      have G29 : Hid ((Value.slice A29 (m + 1) k29).ownBlock = (Value.slice An m kn).ownBlock ∨ ∃ g, (Value.slice A29 (m + 1) k29).ownBlock = some g ∧ W.heap.size ≤ g ∧ g < V29.heap.size) := zh (hat29.imp id fun h => ⟨_, h, S28.out.kt.size, own_old ho29 _ h⟩)
      have M29_21 := zh (grown_other S28.out.rn hgr29 (Ext.refl _) M28_21.out (by decide))
      refine segQ_mk (fun _ => S29.out.eds B0.out HQ0.out) (hn _ _ ?_)
      clear hn next ho29 hgr29 hat29
      refine bt_step fun next hn => ?_; simp only [pick, nthC]
      go_wp2_with (at_builtin; refine wpList_append_cells _ (by rfl) (.tmp 52) (.tmp 53) 31 rfl base 3 ir _ 1 8 Tryz.underlying31 HI.out.2.2.1 HI.out.2.2.2.1 HI.out.2.2.2.2.1 HI.out.2.2.2.2.2 rfl (by omega) (.slice Ar m kr) m rc rfl S29.out.rr (some ⟨g26, 0, none⟩) 1 1 [.int .i64 (-1)] rfl (by intro h; cases h) rfl (cells_heap M29_21.out) (by intro u hu; obtain rfl := List.mem_singleton.1 hu; rfl) (by unfold maxLen; omega) (by omega) (Nat.le_trans BS.out S29.out.kt.size) ?_; intro v30 V30 ho30 hgr30 hat30)
      obtain ⟨A30, k30, rfl, _, _, _⟩ := own_cells ho30
      have S30 := zh (S29.out.appR ho30 hgr30 hat30)
      have G30 : Hid ((Value.slice A30 (m + 1) k30).ownBlock = (Value.slice Ar m kr).ownBlock ∨ ∃ g, (Value.slice A30 (m + 1) k30).ownBlock = some g ∧ W.heap.size ≤ g ∧ g < V30.heap.size) := zh (hat30.imp id fun h => ⟨_, h, S29.out.kt.size, own_old ho30 _ h⟩)
      refine segQ_mk (fun _ => S30.out.eds B0.out HQ0.out) (hn _ _ ?_)
      clear hn next ho30 hgr30 hat30
      obtain ⟨Vz, hVz⟩ : ∃ Vz, put3 V30 nb (.slice A27 (m + 1) k27) (.slice A29 (m + 1) k29) (.slice A30 (m + 1) k30) = Vz := ⟨_, rfl⟩
      have HZ := zh (stores7 S30.out B0.out HNB.out HN1.out.low HNL.out G27.out G29.out G30.out)
      have KB := S30.out.kb
      have z0 := cell_of_row _ _ 0 _ _ _ KB
      have y0 := row_frozen KB 0
      have KB1 := setCell_row (k := 0) KB (.slice A27 (m + 1) k27)
      have z1 := cell_of_row _ _ 1 _ _ _ KB1
      have y1 := row_frozen KB1 1
      have KB2 := setCell_row (k := 1) KB1 (.slice A29 (m + 1) k29)
      have z2 := cell_of_row _ _ 2 _ _ _ KB2
      have y2 := row_frozen KB2 2
      simp at z0 z1 z2
      rw [hVz] at HZ
      have HVZ := zh hVz
      clear hVz KB KB1 KB2
      refine bt_pures _ fun K hK => ?_; simp only [pick, nthC]; (repeat go_big_quiet_step (fail)); refine wpQuiet_nil (hK _ ?_); clear hK K
      refine bt_step fun next hn => ?_; simp only [pick, nthC]
      go_wp2_with fail
      refine segQ_mk (fun h => absurd rfl h) (hn _ _ ?_)
      clear hn next
      refine bt_pures _ fun K hK => ?_; simp only [pick, nthC]; (repeat go_big_quiet_step (fail)); refine wpQuiet_nil (hK _ ?_); clear hK K
      refine bt_late fun next hn => ?_; simp only [pick, nthC]
      go_wp2_with fail
      refine segQ_mk (fun _ => trivial) (hn _ _ ?_)
      clear hn next
      refine bt_pures _ fun K hK => ?_; simp only [pick, nthC]; (repeat go_big_quiet_step (fail)); refine wpQuiet_nil (hK _ ?_); clear hK K
      refine bt_late fun next hn => ?_; simp only [pick, nthC]
      go_wp2_with fail
      refine segQ_mk (fun _ => trivial) (hn _ _ ?_)
      clear hn next
      (refine bt_fin ?_)
      have HVZ2 := HVZ.out
      unfold put3 put2 at HVZ2
      simp only [HVZ2]
      go_wp2_with fail
      go_meet
      exact ⟨_, _, _, HZ.out.1, HZ.out.2.1, HZ.out.2.2.1, HZ.out.2.2.2⟩
     ·refine bt_step fun next hn => ?_; simp only [pick, nthC]
      go_wp2_with fail
      obtain ⟨g31, hg31⟩ : ∃ g31, V26.heap.size = g31 := ⟨_, rfl⟩
      obtain ⟨V31, hV31⟩ : ∃ V31, V26.alloc (.cells #[nil0] 31) = V31 := ⟨_, rfl⟩
      have X31 : Ext V26 V31 := by rw [← hV31]; exact (by repeat first | exact xr _ | refine xa ?_ _ | refine xm ?_ _ _ | refine xd ?_ | refine xn ?_ _ | refine xs ?_ (by simp <;> omega) _)
      have L31 : Hid (V31.heap[g31]? = some (.cells #[nil0] 31)) := zh (by rw [← hV31, ← hg31]; exact heap_alloc_new _ _)
      have S31 := zh (S26.out.ext X31)
      have M31_9 := zh (ext_block M26_9.out X31)
      have M31_21 := zh (ext_block L26.out X31)
      simp only [hV31, hg31]
      refine segQ_mk (fun _ => S31.out.eds B0.out HQ0.out) (hn _ _ ?_)
      clear hn next hV31 hg31 X31
      refine bt_step fun next hn => ?_; simp only [pick, nthC]
      go_wp2_with (at_builtin; refine wpList_append_cells _ (by rfl) (.tmp 38) (.tmp 41) 145 rfl base 191 ic _ 4 32 Tryz.underlying145 HI.out.1.1 HI.out.1.2.1 HI.out.1.2.2.1 HI.out.1.2.2.2 rfl (by omega) (.slice Ac m kc) m cc rfl S31.out.rc (some ⟨g1, 0, none⟩) 1 1 z.cells rfl (by intro h; cases h) rfl (cells_heap M31_9.out) (by intro u hu; simp only [Cl.cells, List.mem_cons, List.not_mem_nil, or_false] at hu; rcases hu with rfl | rfl | rfl | rfl <;> rfl) (by unfold maxLen; omega) (by omega) (Nat.le_trans BS.out S31.out.kt.size) ?_; intro v32 V32 ho32 hgr32 hat32)
      obtain ⟨A32, k32, rfl, _, _, _⟩ := own_cells ho32
      have S32 := zh (S31.out.appC ho32 hgr32)
      have G32 : Hid ((Value.slice A32 (m + 1) k32).ownBlock = (Value.slice Ac m kc).ownBlock ∨ ∃ g, (Value.slice A32 (m + 1) k32).ownBlock = some g ∧ W.heap.size ≤ g ∧ g < V32.heap.size) := zh (hat32.imp id fun h => ⟨_, h, S31.out.kt.size, own_old ho32 _ h⟩)
      have M32_21 := zh (grown_other S31.out.rc hgr32 (Ext.refl _) M31_21.out (by decide))
      have M32_15 := zh (grown_other S31.out.rc hgr32 (Ext.refl _) L31.out (by decide))
      refine segQ_mk (fun _ => S32.out.eds B0.out HQ0.out) (hn _ _ ?_)
      clear hn next ho32 hgr32 hat32
      refine bt_step fun next hn => ?_; simp only [pick, nthC]
      go_wp2_with (at_builtin; refine wpList_append_cells _ (by rfl) (.tmp 46) (.tmp 47) 146 rfl base 31 ini _ 1 24 Tryz.underlying146 HI.out.2.1.1 HI.out.2.1.2.1 HI.out.2.1.2.2.1 HI.out.2.1.2.2.2 rfl (by omega) (.slice An m kn) m ns0 rfl S32.out.rn (some ⟨g31, 0, none⟩) 1 1 [nil0] rfl (by intro h; cases h) rfl (cells_heap M32_15.out) (by intro u hu; obtain rfl := List.mem_singleton.1 hu; rfl) (by unfold maxLen; omega) (by omega) (Nat.le_trans BS.out S32.out.kt.size) ?_; intro v33 V33 ho33 hgr33 hat33)
      obtain ⟨A33, k33, rfl, _, _, _⟩ := own_cells ho33
      have S33 := zh (S32.out.appN ho33 hgr33)
      have G33 : Hid ((Value.slice A33 (m + 1) k33).ownBlock = (Value.slice An m kn).ownBlock ∨ ∃ g, (Value.slice A33 (m + 1) k33).ownBlock = some g ∧ W.heap.size ≤ g ∧ g < V33.heap.size) := zh (hat33.imp id fun h => ⟨_, h, S32.out.kt.size, own_old ho33 _ h⟩)
      have M33_21 := zh (grown_other S32.out.rn hgr33 (Ext.refl _) M32_21.out (by decide))
      refine segQ_mk (fun _ => S33.out.eds B0.out HQ0.out) (hn _ _ ?_)
      clear hn next ho33 hgr33 hat33
      refine bt_step fun next hn => ?_; simp only [pick, nthC]
      go_wp2_with (at_builtin; refine wpList_append_cells _ (by rfl) (.tmp 52) (.tmp 53) 31 rfl base 3 ir _ 1 8 Tryz.underlying31 HI.out.2.2.1 HI.out.2.2.2.1 HI.out.2.2.2.2.1 HI.out.2.2.2.2.2 rfl (by omega) (.slice Ar m kr) m rc rfl S33.out.rr (some ⟨g26, 0, none⟩) 1 1 [.int .i64 (-1)] rfl (by intro h; cases h) rfl (cells_heap M33_21.out) (by intro u hu; obtain rfl := List.mem_singleton.1 hu; rfl) (by unfold maxLen; omega) (by omega) (Nat.le_trans BS.out S33.out.kt.size) ?_; intro v34 V34 ho34 hgr34 hat34)
      obtain ⟨A34, k34, rfl, _, _, _⟩ := own_cells ho34
      have S34 := zh (S33.out.appR ho34 hgr34 hat34)
      have G34 : Hid ((Value.slice A34 (m + 1) k34).ownBlock = (Value.slice Ar m kr).ownBlock ∨ ∃ g, (Value.slice A34 (m + 1) k34).ownBlock = some g ∧ W.heap.size ≤ g ∧ g < V34.heap.size) := zh (hat34.imp id fun h => ⟨_, h, S33.out.kt.size, own_old ho34 _ h⟩)
      refine segQ_mk (fun _ => S34.out.eds B0.out HQ0.out) (hn _ _ ?_)
      clear hn next ho34 hgr34 hat34
      obtain ⟨Vz, hVz⟩ : ∃ Vz, put3 V34 nb (.slice A32 (m + 1) k32) (.slice A33 (m + 1) k33) (.slice A34 (m + 1) k34) = Vz := ⟨_, rfl⟩
      have HZ := zh (stores7 S34.out B0.out HNB.out HN1.out.low HNL.out G32.out G33.out G34.out)
      have KB := S34.out.kb
      have z0 := cell_of_row _ _ 0 _ _ _ KB
      have y0 := row_frozen KB 0
      have KB1 := setCell_row (k := 0) KB (.slice A32 (m + 1) k32)
      have z1 := cell_of_row _ _ 1 _ _ _ KB1
      have y1 := row_frozen KB1 1
      have KB2 := setCell_row (k := 1) KB1 (.slice A33 (m + 1) k33)
      have z2 := cell_of_row _ _ 2 _ _ _ KB2
      have y2 := row_frozen KB2 2
      simp at z0 z1 z2
      rw [hVz] at HZ
      have HVZ := zh hVz
      clear hVz KB KB1 KB2
      refine bt_pures _ fun K hK => ?_; simp only [pick, nthC]; (repeat go_big_quiet_step (fail)); refine wpQuiet_nil (hK _ ?_); clear hK K
      refine bt_step fun next hn => ?_; simp only [pick, nthC]
      go_wp2_with fail
      refine segQ_mk (fun h => absurd rfl h) (hn _ _ ?_)
      clear hn next
      refine bt_pures _ fun K hK => ?_; simp only [pick, nthC]; (repeat go_big_quiet_step (fail)); refine wpQuiet_nil (hK _ ?_); clear hK K
      refine bt_late fun next hn => ?_; simp only [pick, nthC]
      go_wp2_with fail
      refine segQ_mk (fun _ => trivial) (hn _ _ ?_)
      clear hn next
      refine bt_pures _ fun K hK => ?_; simp only [pick, nthC]; (repeat go_big_quiet_step (fail)); refine wpQuiet_nil (hK _ ?_); clear hK K
      refine bt_late fun next hn => ?_; simp only [pick, nthC]
      go_wp2_with fail
      refine segQ_mk (fun _ => trivial) (hn _ _ ?_)
      clear hn next
      (refine bt_fin ?_)
      have HVZ2 := HVZ.out
      unfold put3 put2 at HVZ2
      simp only [HVZ2]
      go_wp2_with fail
      go_meet
      exact ⟨_, _, _, HZ.out.1, HZ.out.2.1, HZ.out.2.2.1, HZ.out.2.2.2⟩
  ·refine ⟨?_, ?_⟩
   ·refine bt_step fun next hn => ?_; simp only [pick, nthC]
    go_wp2_with fail
    obtain ⟨g35, hg35⟩ : ∃ g35, V0.heap.size = g35 := ⟨_, rfl⟩
    obtain ⟨V35, hV35⟩ : ∃ V35, V0.alloc (.cells #[nil0] 31) = V35 := ⟨_, rfl⟩
    have X35 : Ext V0 V35 := by rw [← hV35]; exact (by repeat first | exact xr _ | refine xa ?_ _ | refine xm ?_ _ _ | refine xd ?_ | refine xn ?_ _ | refine xs ?_ (by simp <;> omega) _)
    have L35 : Hid (V35.heap[g35]? = some (.cells #[nil0] 31)) := zh (by rw [← hV35, ← hg35]; exact heap_alloc_new _ _)
    have S35 := zh (S0.out.ext X35)
    simp only [hV35, hg35]
    refine segQ_mk (fun _ => S35.out.eds B0.out HQ0.out) (hn _ _ ?_)
    clear hn next hV35 hg35 X35
    refine ⟨?_, ?_⟩
    ·refine bt_step fun next hn => ?_; simp only [pick, nthC]
     go_wp2_with fail
     obtain ⟨g36, hg36⟩ : ∃ g36, V35.heap.size = g36 := ⟨_, rfl⟩
     obtain ⟨V36, hV36⟩ : ∃ V36, V35.alloc (.cells #[.int .u64 z.a, .int .u64 z.b, .int .u64 z.c, .int .u64 z.d] 191) = V36 := ⟨_, rfl⟩
     have X36 : Ext V35 V36 := by rw [← hV36]; exact (by repeat first | exact xr _ | refine xa ?_ _ | refine xm ?_ _ _ | refine xd ?_ | refine xn ?_ _ | refine xs ?_ (by simp <;> omega) _)
     have L36 : Hid (V36.heap[g36]? = some (.cells #[.int .u64 z.a, .int .u64 z.b, .int .u64 z.c, .int .u64 z.d] 191)) := zh (by rw [← hV36, ← hg36]; exact heap_alloc_new _ _)
     have S36 := zh (S35.out.ext X36)
     have M36_15 := zh (ext_block L35.out X36)
     simp only [hV36, hg36]
     refine segQ_mk (fun _ => S36.out.eds B0.out HQ0.out) (hn _ _ ?_)
     clear hn next hV36 hg36 X36
     refine ⟨?_, ?_⟩
     ·refine bt_step fun next hn => ?_; simp only [pick, nthC]
      go_wp2_with (at_builtin; refine wpList_append_cells _ (by rfl) (.tmp 38) (.tmp 41) 145 rfl base 191 ic _ 4 32 Tryz.underlying145 HI.out.1.1 HI.out.1.2.1 HI.out.1.2.2.1 HI.out.1.2.2.2 rfl (by omega) (.slice Ac m kc) m cc rfl S36.out.rc (some ⟨g36, 0, none⟩) 1 1 z.cells rfl (by intro h; cases h) rfl (cells_heap L36.out) (by intro u hu; simp only [Cl.cells, List.mem_cons, List.not_mem_nil, or_false] at hu; rcases hu with rfl | rfl | rfl | rfl <;> rfl) (by unfold maxLen; omega) (by omega) (Nat.le_trans BS.out S36.out.kt.size) ?_; intro v37 V37 ho37 hgr37 hat37)
      obtain ⟨A37, k37, rfl, _, _, _⟩ := own_cells ho37
      have S37 := zh (S36.out.appC ho37 hgr37)
      have G37 : Hid ((Value.slice A37 (m + 1) k37).ownBlock = (Value.slice Ac m kc).ownBlock ∨ ∃ g, (Value.slice A37 (m + 1) k37).ownBlock = some g ∧ W.heap.size ≤ g ∧ g < V37.heap.size) := zh (hat37.imp id fun h => ⟨_, h, S36.out.kt.size, own_old ho37 _ h⟩)
      have M37_15 := zh (grown_other S36.out.rc hgr37 (Ext.refl _) M36_15.out (by decide))
      refine segQ_mk (fun _ => S37.out.eds B0.out HQ0.out) (hn _ _ ?_)
      clear hn next ho37 hgr37 hat37
      refine ⟨?_, ?_⟩
      ·refine bt_step fun next hn => ?_; simp only [pick, nthC]
       go_wp2_with (at_builtin; refine wpList_append_cells _ (by rfl) (.tmp 46) (.tmp 47) 146 rfl base 31 ini _ 1 24 Tryz.underlying146 HI.out.2.1.1 HI.out.2.1.2.1 HI.out.2.1.2.2.1 HI.out.2.1.2.2.2 rfl (by omega) (.slice An m kn) m ns0 rfl S37.out.rn (some ⟨g35, 0, none⟩) 1 1 [nil0] rfl (by intro h; cases h) rfl (cells_heap M37_15.out) (by intro u hu; obtain rfl := List.mem_singleton.1 hu; rfl) (by unfold maxLen; omega) (by omega) (Nat.le_trans BS.out S37.out.kt.size) ?_; intro v38 V38 ho38 hgr38 hat38)
       obtain ⟨A38, k38, rfl, _, _, _⟩ := own_cells ho38
       have S38 := zh (S37.out.appN ho38 hgr38)
       have G38 : Hid ((Value.slice A38 (m + 1) k38).ownBlock = (Value.slice An m kn).ownBlock ∨ ∃ g, (Value.slice A38 (m + 1) k38).ownBlock = some g ∧ W.heap.size ≤ g ∧ g < V38.heap.size) := zh (hat38.imp id fun h => ⟨_, h, S37.out.kt.size, own_old ho38 _ h⟩)
       refine segQ_mk (fun _ => S38.out.eds B0.out HQ0.out) (hn _ _ ?_)
       clear hn next ho38 hgr38 hat38
       refine bt_step fun next hn => ?_; simp only [pick, nthC]
       go_wp2_with fail
       obtain ⟨g39, hg39⟩ : ∃ g39, V38.heap.size = g39 := ⟨_, rfl⟩
       obtain ⟨V39, hV39⟩ : ∃ V39, V38.alloc (.cells #[.int .i64 (-1)] 3) = V39 := ⟨_, rfl⟩
       have X39 : Ext V38 V39 := by rw [← hV39]; exact (by repeat first | exact xr _ | refine xa ?_ _ | refine xm ?_ _ _ | refine xd ?_ | refine xn ?_ _ | refine xs ?_ (by simp <;> omega) _)
       have L39 : Hid (V39.heap[g39]? = some (.cells #[.int .i64 (-1)] 3)) := zh (by rw [← hV39, ← hg39]; exact heap_alloc_new _ _)
       have S39 := zh (S38.out.ext X39)
       simp only [hV39, hg39]
       refine segQ_mk (fun _ => S39.out.eds B0.out HQ0.out) (hn _ _ ?_)
       clear hn next hV39 hg39 X39
       refine bt_step fun next hn => ?_; simp only [pick, nthC]
       go_wp2_with (at_builtin; refine wpList_append_cells _ (by rfl) (.tmp 52) (.tmp 53) 31 rfl base 3 ir _ 1 8 Tryz.underlying31 HI.out.2.2.1 HI.out.2.2.2.1 HI.out.2.2.2.2.1 HI.out.2.2.2.2.2 rfl (by omega) (.slice Ar m kr) m rc rfl S39.out.rr (some ⟨g39, 0, none⟩) 1 1 [.int .i64 (-1)] rfl (by intro h; cases h) rfl (cells_heap L39.out) (by intro u hu; obtain rfl := List.mem_singleton.1 hu; rfl) (by unfold maxLen; omega) (by omega) (Nat.le_trans BS.out S39.out.kt.size) ?_; intro v40 V40 ho40 hgr40 hat40)
       obtain ⟨A40, k40, rfl, _, _, _⟩ := own_cells ho40
       have S40 := zh (S39.out.appR ho40 hgr40 hat40)
       have G40 : Hid ((Value.slice A40 (m + 1) k40).ownBlock = (Value.slice Ar m kr).ownBlock ∨ ∃ g, (Value.slice A40 (m + 1) k40).ownBlock = some g ∧ W.heap.size ≤ g ∧ g < V40.heap.size) := zh (hat40.imp id fun h => ⟨_, h, S39.out.kt.size, own_old ho40 _ h⟩)
       refine segQ_mk (fun _ => S40.out.eds B0.out HQ0.out) (hn _ _ ?_)
       clear hn next ho40 hgr40 hat40
       obtain ⟨Vz, hVz⟩ : ∃ Vz, put3 V40 nb (.slice A37 (m + 1) k37) (.slice A38 (m + 1) k38) (.slice A40 (m + 1) k40) = Vz := ⟨_, rfl⟩
       have HZ := zh (stores7 S40.out B0.out HNB.out HN1.out.low HNL.out G37.out G38.out G40.out)
       have KB := S40.out.kb
       have z0 := cell_of_row _ _ 0 _ _ _ KB
       have y0 := row_frozen KB 0
       have KB1 := setCell_row (k := 0) KB (.slice A37 (m + 1) k37)
       have z1 := cell_of_row _ _ 1 _ _ _ KB1
       have y1 := row_frozen KB1 1
       have KB2 := setCell_row (k := 1) KB1 (.slice A38 (m + 1) k38)
       have z2 := cell_of_row _ _ 2 _ _ _ KB2
       have y2 := row_frozen KB2 2
       simp at z0 z1 z2
       rw [hVz] at HZ
       have HVZ := zh hVz
       clear hVz KB KB1 KB2
       refine bt_pures _ fun K hK => ?_; simp only [pick, nthC]; (repeat go_big_quiet_step (fail)); refine wpQuiet_nil (hK _ ?_); clear hK K
       refine bt_step fun next hn => ?_; simp only [pick, nthC]
       go_wp2_with fail
       refine segQ_mk (fun h => absurd rfl h) (hn _ _ ?_)
       clear hn next
       refine bt_pures _ fun K hK => ?_; simp only [pick, nthC]; (repeat go_big_quiet_step (fail)); refine wpQuiet_nil (hK _ ?_); clear hK K
       refine bt_late fun next hn => ?_; simp only [pick, nthC]
       go_wp2_with fail
       refine segQ_mk (fun _ => trivial) (hn _ _ ?_)
       clear hn next
       refine bt_pures _ fun K hK => ?_; simp only [pick, nthC]; (repeat go_big_quiet_step (fail)); refine wpQuiet_nil (hK _ ?_); clear hK K
       refine bt_late fun next hn => ?_; simp only [pick, nthC]
       go_wp2_with fail
       refine segQ_mk (fun _ => trivial) (hn _ _ ?_)
       clear hn next
       (refine bt_fin ?_)
       have HVZ2 := HVZ.out
       unfold put3 put2 at HVZ2
       simp only [HVZ2]
       go_wp2_with fail
       go_meet
       exact ⟨_, _, _, HZ.out.1, HZ.out.2.1, HZ.out.2.2.1, HZ.out.2.2.2⟩
      ·refine bt_step fun next hn => ?_; simp only [pick, nthC]
       go_wp2_with fail
       obtain ⟨g41, hg41⟩ : ∃ g41, V37.heap.size = g41 := ⟨_, rfl⟩
       obtain ⟨V41, hV41⟩ : ∃ V41, V37.alloc (.cells #[.int .i64 (-1)] 3) = V41 := ⟨_, rfl⟩
       have X41 : Ext V37 V41 := by rw [← hV41]; exact (by repeat first | exact xr _ | refine xa ?_ _ | refine xm ?_ _ _ | refine xd ?_ | refine xn ?_ _ | refine xs ?_ (by simp <;> omega) _)
       have L41 : Hid (V41.heap[g41]? = some (.cells #[.int .i64 (-1)] 3)) := zh (by rw [← hV41, ← hg41]; exact heap_alloc_new _ _)
       have S41 := zh (S37.out.ext X41)
       have M41_15 := zh (ext_block M37_15.out X41)
       simp only [hV41, hg41]
       refine segQ_mk (fun _ => S41.out.eds B0.out HQ0.out) (hn _ _ ?_)
       clear hn next hV41 hg41 X41
       refine bt_step fun next hn => ?_; simp only [pick, nthC]
       go_wp2_with (at_builtin; refine wpList_append_cells _ (by rfl) (.tmp 46) (.tmp 47) 146 rfl base 31 ini _ 1 24 Tryz.underlying146 HI.out.2.1.1 HI.out.2.1.2.1 HI.out.2.1.2.2.1 HI.out.2.1.2.2.2 rfl (by omega) (.slice An m kn) m ns0 rfl S41.out.rn (some ⟨g35, 0, none⟩) 1 1 [nil0] rfl (by intro h; cases h) rfl (cells_heap M41_15.out) (by intro u hu; obtain rfl := List.mem_singleton.1 hu; rfl) (by unfold maxLen; omega) (by omega) (Nat.le_trans BS.out S41.out.kt.size) ?_; intro v42 V42 ho42 hgr42 hat42)
       obtain ⟨A42, k42, rfl, _, _, _⟩ := own_cells ho42
       have S42 := zh (S41.out.appN ho42 hgr42)
       have G42 : Hid ((Value.slice A42 (m + 1) k42).ownBlock = (Value.slice An m kn).ownBlock ∨ ∃ g, (Value.slice A42 (m + 1) k42).ownBlock = some g ∧ W.heap.size ≤ g ∧ g < V42.heap.size) := zh (hat42.imp id fun h => ⟨_, h, S41.out.kt.size, own_old ho42 _ h⟩)
       have M42_21 := zh (grown_other S41.out.rn hgr42 (Ext.refl _) L41.out (by decide))
       refine segQ_mk (fun _ => S42.out.eds B0.out HQ0.out) (hn _ _ ?_)
       clear hn next ho42 hgr42 hat42
       refine bt_step fun next hn => ?_; simp only [pick, nthC]
       go_wp2_with (at_builtin; refine wpList_append_cells _ (by rfl) (.tmp 52) (.tmp 53) 31 rfl base 3 ir _ 1 8 Tryz.underlying31 HI.out.2.2.1 HI.out.2.2.2.1 HI.out.2.2.2.2.1 HI.out.2.2.2.2.2 rfl (by omega) (.slice Ar m kr) m rc rfl S42.out.rr (some ⟨g41, 0, none⟩) 1 1 [.int .i64 (-1)] rfl (by intro h; cases h) rfl (cells_heap M42_21.out) (by intro u hu; obtain rfl := List.mem_singleton.1 hu; rfl) (by unfold maxLen; omega) (by omega) (Nat.le_trans BS.out S42.out.kt.size) ?_; intro v43 V43 ho43 hgr43 hat43)
       obtain ⟨A43, k43, rfl, _, _, _⟩ := own_cells ho43
       have S43 := zh (S42.out.appR ho43 hgr43 hat43)
       have G43 : Hid ((Value.slice A43 (m + 1) k43).ownBlock = (Value.slice Ar m kr).ownBlock ∨ ∃ g, (Value.slice A43 (m + 1) k43).ownBlock = some g ∧ W.heap.size ≤ g ∧ g < V43.heap.size) := zh (hat43.imp id fun h => ⟨_, h, S42.out.kt.size, own_old ho43 _ h⟩)
       refine segQ_mk (fun _ => S43.out.eds B0.out HQ0.out) (hn _ _ ?_)
       clear hn next ho43 hgr43 hat43
       obtain ⟨Vz, hVz⟩ : ∃ Vz, put3 V43 nb (.slice A37 (m + 1) k37) (.slice A42 (m + 1) k42) (.slice A43 (m + 1) k43) = Vz := ⟨_, rfl⟩
       have HZ := zh (stores7 S43.out B0.out HNB.out HN1.out.low HNL.out G37.out G42.out G43.out)
       have KB := S43.out.kb
       have z0 := cell_of_row _ _ 0 _ _ _ KB
       have y0 := row_frozen KB 0
       have KB1 := setCell_row (k := 0) KB (.slice A37 (m + 1) k37)
       have z1 := cell_of_row _ _ 1 _ _ _ KB1
       have y1 := row_frozen KB1 1
       have KB2 := setCell_row (k := 1) KB1 (.slice A42 (m + 1) k42)
       have z2 := cell_of_row _ _ 2 _ _ _ KB2
       have y2 := row_frozen KB2 2
       simp at z0 z1 z2
       rw [hVz] at HZ
       have HVZ := zh hVz
       clear hVz KB KB1 KB2
       refine bt_pures _ fun K hK => ?_; simp only [pick, nthC]; (repeat go_big_quiet_step (fail)); refine wpQuiet_nil (hK _ ?_); clear hK K
       refine bt_step fun next hn => ?_; simp only [pick, nthC]
       go_wp2_with fail
       refine segQ_mk (fun h => absurd rfl h) (hn _ _ ?_)
       clear hn next
       refine bt_pures _ fun K hK => ?_; simp only [pick, nthC]; (repeat go_big_quiet_step (fail)); refine wpQuiet_nil (hK _ ?_); clear hK K
       refine bt_late fun next hn => ?_; simp only [pick, nthC]
       go_wp2_with fail
       refine segQ_mk (fun _ => trivial) (hn _ _ ?_)
       clear hn next
       refine bt_pures _ fun K hK => ?_; simp only [pick, nthC]; (repeat go_big_quiet_step (fail)); refine wpQuiet_nil (hK _ ?_); clear hK K
       refine bt_late fun next hn => ?_; simp only [pick, nthC]
       go_wp2_with fail
       refine segQ_mk (fun _ => trivial) (hn _ _ ?_)
       clear hn next
       (refine bt_fin ?_)
       have HVZ2 := HVZ.out
       unfold put3 put2 at HVZ2
       simp only [HVZ2]
       go_wp2_with fail
       go_meet
       exact ⟨_, _, _, HZ.out.1, HZ.out.2.1, HZ.out.2.2.1, HZ.out.2.2.2⟩
     ·refine bt_step fun next hn => ?_; simp only [pick, nthC]
      go_wp2_with fail
      obtain ⟨g44, hg44⟩ : ∃ g44, V36.heap.size = g44 := ⟨_, rfl⟩
      obtain ⟨V44, hV44⟩ : ∃ V44, V36.alloc (.cells #[.int .i64 (-1)] 3) = V44 := ⟨_, rfl⟩
      have X44 : Ext V36 V44 := by rw [← hV44]; exact (by repeat first | exact xr _ | refine xa ?_ _ | refine xm ?_ _ _ | refine xd ?_ | refine xn ?_ _ | refine xs ?_ (by simp <;> omega) _)
      have L44 : Hid (V44.heap[g44]? = some (.cells #[.int .i64 (-1)] 3)) := zh (by rw [← hV44, ← hg44]; exact heap_alloc_new _ _)
      have S44 := zh (S36.out.ext X44)
      have M44_15 := zh (ext_block M36_15.out X44)
      have M44_9 := zh (ext_block L36.out X44)
      simp only [hV44, hg44]
      refine segQ_mk (fun _ => S44.out.eds B0.out HQ0.out) (hn _ _ ?_)
      clear hn next hV44 hg44 X44
      refine bt_step fun next hn => ?_; simp only [pick, nthC]
      go_wp2_with (at_builtin; refine wpList_append_cells _ (by rfl) (.tmp 38) (.tmp 41) 145 rfl base 191 ic _ 4 32 Tryz.underlying145 HI.out.1.1 HI.out.1.2.1 HI.out.1.2.2.1 HI.out.1.2.2.2 rfl (by omega) (.slice Ac m kc) m cc rfl S44.out.rc (some ⟨g36, 0, none⟩) 1 1 z.cells rfl (by intro h; cases h) rfl (cells_heap M44_9.out) (by intro u hu; simp only [Cl.cells, List.mem_cons, List.not_mem_nil, or_false] at hu; rcases hu with rfl | rfl | rfl | rfl <;> rfl) (by unfold maxLen; omega) (by omega) (Nat.le_trans BS.out S44.out.kt.size) ?_; intro v45 V45 ho45 hgr45 hat45)
      obtain ⟨A45, k45, rfl, _, _, _⟩ := own_cells ho45
      have S45 := zh (S44.out.appC ho45 hgr45)
      have G45 : Hid ((Value.slice A45 (m + 1) k45).ownBlock = (Value.slice Ac m kc).ownBlock ∨ ∃ g, (Value.slice A45 (m + 1) k45).ownBlock = some g ∧ W.heap.size ≤ g ∧ g < V45.heap.size) := zh (hat45.imp id fun h => ⟨_, h, S44.out.kt.size, own_old ho45 _ h⟩)
      have M45_15 := zh (grown_other S44.out.rc hgr45 (Ext.refl _) M44_15.out (by decide))
      have M45_21 := zh (grown_other S44.out.rc hgr45 (Ext.refl _) L44.out (by decide))
      refine segQ_mk (fun _ => S45.out.eds B0.out HQ0.out) (hn _ _ ?_)
      clear hn next ho45 hgr45 hat45
      refine bt_step fun next hn => ?_; simp only [pick, nthC]
      go_wp2_with (at_builtin; refine wpList_append_cells _ (by rfl) (.tmp 46) (.tmp 47) 146 rfl base 31 ini _ 1 24 Tryz.underlying146 HI.out.2.1.1 HI.out.2.1.2.1 HI.out.2.1.2.2.1 HI.out.2.1.2.2.2 rfl (by omega) (.slice An m kn) m ns0 rfl S45.out.rn (some ⟨g35, 0, none⟩) 1 1 [nil0] rfl (by intro h; cases h) rfl (cells_heap M45_15.out) (by intro u hu; obtain rfl := List.mem_singleton.1 hu; rfl) (by unfold maxLen; omega) (by omega) (Nat.le_trans BS.out S45.out.kt.size) ?_; intro v46 V46 ho46 hgr46 hat46)
      obtain ⟨A46, k46, rfl, _, _, _⟩ := own_cells ho46
      have S46 := zh (S45.out.appN ho46 hgr46)
      have G46 : Hid ((Value.slice A46 (m + 1) k46).ownBlock = (Value.slice An m kn).ownBlock ∨ ∃ g, (Value.slice A46 (m + 1) k46).ownBlock = some g ∧ W.heap.size ≤ g ∧ g < V46.heap.size) := zh (hat46.imp id fun h => ⟨_, h, S45.out.kt.size, own_old ho46 _ h⟩)
      have M46_21 := zh (grown_other S45.out.rn hgr46 (Ext.refl _) M45_21.out (by decide))
      refine segQ_mk (fun _ => S46.out.eds B0.out HQ0.out) (hn _ _ ?_)
      clear hn next ho46 hgr46 hat46
      refine bt_step fun next hn => ?_; simp only [pick, nthC]
      go_wp2_with (at_builtin; refine wpList_append_cells _ (by rfl) (.tmp 52) (.tmp 53) 31 rfl base 3 ir _ 1 8 Tryz.underlying31 HI.out.2.2.1 HI.out.2.2.2.1 HI.out.2.2.2.2.1 HI.out.2.2.2.2.2 rfl (by omega) (.slice Ar m kr) m rc rfl S46.out.rr (some ⟨g44, 0, none⟩) 1 1 [.int .i64 (-1)] rfl (by intro h; cases h) rfl (cells_heap M46_21.out) (by intro u hu; obtain rfl := List.mem_singleton.1 hu; rfl) (by unfold maxLen; omega) (by omega) (Nat.le_trans BS.out S46.out.kt.size) ?_; intro v47 V47 ho47 hgr47 hat47)
      obtain ⟨A47, k47, rfl, _, _, _⟩ := own_cells ho47
      have S47 := zh (S46.out.appR ho47 hgr47 hat47)
      have G47 : Hid ((Value.slice A47 (m + 1) k47).ownBlock = (Value.slice Ar m kr).ownBlock ∨ ∃ g, (Value.slice A47 (m + 1) k47).ownBlock = some g ∧ W.heap.size ≤ g ∧ g < V47.heap.size) := zh (hat47.imp id fun h => ⟨_, h, S46.out.kt.size, own_old ho47 _ h⟩)
      refine segQ_mk (fun _ => S47.out.eds B0.out HQ0.out) (hn _ _ ?_)
      clear hn next ho47 hgr47 hat47
      obtain ⟨Vz, hVz⟩ : ∃ Vz, put3 V47 nb (.slice A45 (m + 1) k45) (.slice A46 (m + 1) k46) (.slice A47 (m + 1) k47) = Vz := ⟨_, rfl⟩
      have HZ := zh (stores7 S47.out B0.out HNB.out HN1.out.low HNL.out G45.out G46.out G47.out)
      have KB := S47.out.kb
      have z0 := cell_of_row _ _ 0 _ _ _ KB
      have y0 := row_frozen KB 0
      have KB1 := setCell_row (k := 0) KB (.slice A45 (m + 1) k45)
      have z1 := cell_of_row _ _ 1 _ _ _ KB1
      have y1 := row_frozen KB1 1
      have KB2 := setCell_row (k := 1) KB1 (.slice A46 (m + 1) k46)
      have z2 := cell_of_row _ _ 2 _ _ _ KB2
      have y2 := row_frozen KB2 2
      simp at z0 z1 z2
      rw [hVz] at HZ
      have HVZ := zh hVz
      clear hVz KB KB1 KB2
      refine bt_pures _ fun K hK => ?_; simp only [pick, nthC]; (repeat go_big_quiet_step (fail)); refine wpQuiet_nil (hK _ ?_); clear hK K
      refine bt_step fun next hn => ?_; simp only [pick, nthC]
      go_wp2_with fail
      refine segQ_mk (fun h => absurd rfl h) (hn _ _ ?_)
      clear hn next
      refine bt_pures _ fun K hK => ?_; simp only [pick, nthC]; (repeat go_big_quiet_step (fail)); refine wpQuiet_nil (hK _ ?_); clear hK K
      refine bt_late fun next hn => ?_; simp only [pick, nthC]
      go_wp2_with fail
      refine segQ_mk (fun _ => trivial) (hn _ _ ?_)
      clear hn next
      refine bt_pures _ fun K hK => ?_; simp only [pick, nthC]; (repeat go_big_quiet_step (fail)); refine wpQuiet_nil (hK _ ?_); clear hK K
      refine bt_late fun next hn => ?_; simp only [pick, nthC]
      go_wp2_with fail
      refine segQ_mk (fun _ => trivial) (hn _ _ ?_)
      clear hn next
      (refine bt_fin ?_)
      have HVZ2 := HVZ.out
      unfold put3 put2 at HVZ2
      simp only [HVZ2]
      go_wp2_with fail
      go_meet
      exact ⟨_, _, _, HZ.out.1, HZ.out.2.1, HZ.out.2.2.1, HZ.out.2.2.2⟩
    ·refine bt_step fun next hn => ?_; simp only [pick, nthC]
     go_wp2_with fail
     obtain ⟨g48, hg48⟩ : ∃ g48, V35.heap.size = g48 := ⟨_, rfl⟩
     obtain ⟨V48, hV48⟩ : ∃ V48, V35.alloc (.cells #[.int .i64 (-1)] 3) = V48 := ⟨_, rfl⟩
     have X48 : Ext V35 V48 := by rw [← hV48]; exact (by repeat first | exact xr _ | refine xa ?_ _ | refine xm ?_ _ _ | refine xd ?_ | refine xn ?_ _ | refine xs ?_ (by simp <;> omega) _)
     have L48 : Hid (V48.heap[g48]? = some (.cells #[.int .i64 (-1)] 3)) := zh (by rw [← hV48, ← hg48]; exact heap_alloc_new _ _)
     have S48 := zh (S35.out.ext X48)
     have M48_15 := zh (ext_block L35.out X48)
     simp only [hV48, hg48]
     refine segQ_mk (fun _ => S48.out.eds B0.out HQ0.out) (hn _ _ ?_)
     clear hn next hV48 hg48 X48
     refine bt_step fun next hn => ?_; simp only [pick, nthC]
     go_wp2_with fail
     obtain ⟨g49, hg49⟩ : ∃ g49, V48.heap.size = g49 := ⟨_, rfl⟩
     obtain ⟨V49, hV49⟩ : ∃ V49, V48.alloc (.cells #[.int .u64 z.a, .int .u64 z.b, .int .u64 z.c, .int .u64 z.d] 191) = V49 := ⟨_, rfl⟩
     have X49 : Ext V48 V49 := by rw [← hV49]; exact (by repeat first | exact xr _ | refine xa ?_ _ | refine xm ?_ _ _ | refine xd ?_ | refine xn ?_ _ | refine xs ?_ (by simp <;> omega) _)
     have L49 : Hid (V49.heap[g49]? = some (.cells #[.int .u64 z.a, .int .u64 z.b, .int .u64 z.c, .int .u64 z.d] 191)) := zh (by rw [← hV49, ← hg49]; exact heap_alloc_new _ _)
     have S49 := zh (S48.out.ext X49)
     have M49_15 := zh (ext_block M48_15.out X49)
     have M49_21 := zh (ext_block L48.out X49)
     simp only [hV49, hg49]
     refine segQ_mk (fun _ => S49.out.eds B0.out HQ0.out) (hn _ _ ?_)
     clear hn next hV49 hg49 X49
     refine bt_step fun next hn => ?_; simp only [pick, nthC]
     go_wp2_with (at_builtin; refine wpList_append_cells _ (by rfl) (.tmp 38) (.tmp 41) 145 rfl base 191 ic _ 4 32 Tryz.underlying145 HI.out.1.1 HI.out.1.2.1 HI.out.1.2.2.1 HI.out.1.2.2.2 rfl (by omega) (.slice Ac m kc) m cc rfl S49.out.rc (some ⟨g49, 0, none⟩) 1 1 z.cells rfl (by intro h; cases h) rfl (cells_heap L49.out) (by intro u hu; simp only [Cl.cells, List.mem_cons, List.not_mem_nil, or_false] at hu; rcases hu with rfl | rfl | rfl | rfl <;> rfl) (by unfold maxLen; omega) (by omega) (Nat.le_trans BS.out S49.out.kt.size) ?_; intro v50 V50 ho50 hgr50 hat50)
     obtain ⟨A50, k50, rfl, _, _, _⟩ := own_cells ho50
     have S50 := zh (S49.out.appC ho50 hgr50)
     have G50 : Hid ((Value.slice A50 (m + 1) k50).ownBlock = (Value.slice Ac m kc).ownBlock ∨ ∃ g, (Value.slice A50 (m + 1) k50).ownBlock = some g ∧ W.heap.size ≤ g ∧ g < V50.heap.size) := zh (hat50.imp id fun h => ⟨_, h, S49.out.kt.size, own_old ho50 _ h⟩)
     have M50_15 := zh (grown_other S49.out.rc hgr50 (Ext.refl _) M49_15.out (by decide))
     have M50_21 := zh (grown_other S49.out.rc hgr50 (Ext.refl _) M49_21.out (by decide))
     refine segQ_mk (fun _ => S50.out.eds B0.out HQ0.out) (hn _ _ ?_)
     clear hn next ho50 hgr50 hat50
     refine bt_step fun next hn => ?_; simp only [pick, nthC]
     go_wp2_with (at_builtin; refine wpList_append_cells _ (by rfl) (.tmp 46) (.tmp 47) 146 rfl base 31 ini _ 1 24 Tryz.underlying146 HI.out.2.1.1 HI.out.2.1.2.1 HI.out.2.1.2.2.1 HI.out.2.1.2.2.2 rfl (by omega) (.slice An m kn) m ns0 rfl S50.out.rn (some ⟨g35, 0, none⟩) 1 1 [nil0] rfl (by intro h; cases h) rfl (cells_heap M50_15.out) (by intro u hu; obtain rfl := List.mem_singleton.1 hu; rfl) (by unfold maxLen; omega) (by omega) (Nat.le_trans BS.out S50.out.kt.size) ?_; intro v51 V51 ho51 hgr51 hat51)
     obtain ⟨A51, k51, rfl, _, _, _⟩ := own_cells ho51
     have S51 := zh (S50.out.appN ho51 hgr51)
     have G51 : Hid ((Value.slice A51 (m + 1) k51).ownBlock = (Value.slice An m kn).ownBlock ∨ ∃ g, (Value.slice A51 (m + 1) k51).ownBlock = some g ∧ W.heap.size ≤ g ∧ g < V51.heap.size) := zh (hat51.imp id fun h => ⟨_, h, S50.out.kt.size, own_old ho51 _ h⟩)
     have M51_21 := zh (grown_other S50.out.rn hgr51 (Ext.refl _) M50_21.out (by decide))
     refine segQ_mk (fun _ => S51.out.eds B0.out HQ0.out) (hn _ _ ?_)
     clear hn next ho51 hgr51 hat51
     refine bt_step fun next hn => ?_; simp only [pick, nthC]
     go_wp2_with (at_builtin; refine wpList_append_cells _ (by rfl) (.tmp 52) (.tmp 53) 31 rfl base 3 ir _ 1 8 Tryz.underlying31 HI.out.2.2.1 HI.out.2.2.2.1 HI.out.2.2.2.2.1 HI.out.2.2.2.2.2 rfl (by omega) (.slice Ar m kr) m rc rfl S51.out.rr (some ⟨g48, 0, none⟩) 1 1 [.int .i64 (-1)] rfl (by intro h; cases h) rfl (cells_heap M51_21.out) (by intro u hu; obtain rfl := List.mem_singleton.1 hu; rfl) (by unfold maxLen; omega) (by omega) (Nat.le_trans BS.out S51.out.kt.size) ?_; intro v52 V52 ho52 hgr52 hat52)
     obtain ⟨A52, k52, rfl, _, _, _⟩ := own_cells ho52
     have S52 := zh (S51.out.appR ho52 hgr52 hat52)
     have G52 : Hid ((Value.slice A52 (m + 1) k52).ownBlock = (Value.slice Ar m kr).ownBlock ∨ ∃ g, (Value.slice A52 (m + 1) k52).ownBlock = some g ∧ W.heap.size ≤ g ∧ g < V52.heap.size) := zh (hat52.imp id fun h => ⟨_, h, S51.out.kt.size, own_old ho52 _ h⟩)
     refine segQ_mk (fun _ => S52.out.eds B0.out HQ0.out) (hn _ _ ?_)
     clear hn next ho52 hgr52 hat52
     obtain ⟨Vz, hVz⟩ : ∃ Vz, put3 V52 nb (.slice A50 (m + 1) k50) (.slice A51 (m + 1) k51) (.slice A52 (m + 1) k52) = Vz := ⟨_, rfl⟩
     have HZ := zh (stores7 S52.out B0.out HNB.out HN1.out.low HNL.out G50.out G51.out G52.out)
     have KB := S52.out.kb
     have z0 := cell_of_row _ _ 0 _ _ _ KB
     have y0 := row_frozen KB 0
     have KB1 := setCell_row (k := 0) KB (.slice A50 (m + 1) k50)
     have z1 := cell_of_row _ _ 1 _ _ _ KB1
     have y1 := row_frozen KB1 1
     have KB2 := setCell_row (k := 1) KB1 (.slice A51 (m + 1) k51)
     have z2 := cell_of_row _ _ 2 _ _ _ KB2
     have y2 := row_frozen KB2 2
     simp at z0 z1 z2
     rw [hVz] at HZ
     have HVZ := zh hVz
     clear hVz KB KB1 KB2
     refine bt_pures _ fun K hK => ?_; simp only [pick, nthC]; (repeat go_big_quiet_step (fail)); refine wpQuiet_nil (hK _ ?_); clear hK K
     refine bt_step fun next hn => ?_; simp only [pick, nthC]
     go_wp2_with fail
     refine segQ_mk (fun h => absurd rfl h) (hn _ _ ?_)
     clear hn next
     refine bt_pures _ fun K hK => ?_; simp only [pick, nthC]; (repeat go_big_quiet_step (fail)); refine wpQuiet_nil (hK _ ?_); clear hK K
     refine bt_late fun next hn => ?_; simp only [pick, nthC]
     go_wp2_with fail
     refine segQ_mk (fun _ => trivial) (hn _ _ ?_)
     clear hn next
     refine bt_pures _ fun K hK => ?_; simp only [pick, nthC]; (repeat go_big_quiet_step (fail)); refine wpQuiet_nil (hK _ ?_); clear hK K
     refine bt_late fun next hn => ?_; simp only [pick, nthC]
     go_wp2_with fail
     refine segQ_mk (fun _ => trivial) (hn _ _ ?_)
     clear hn next
     (refine bt_fin ?_)
     have HVZ2 := HVZ.out
     unfold put3 put2 at HVZ2
     simp only [HVZ2]
     go_wp2_with fail
     go_meet
     exact ⟨_, _, _, HZ.out.1, HZ.out.2.1, HZ.out.2.2.1, HZ.out.2.2.2⟩
   ·refine bt_step fun next hn => ?_; simp only [pick, nthC]
    go_wp2_with fail
    obtain ⟨g53, hg53⟩ : ∃ g53, V0.heap.size = g53 := ⟨_, rfl⟩
    obtain ⟨V53, hV53⟩ : ∃ V53, V0.alloc (.cells #[.int .i64 (-1)] 3) = V53 := ⟨_, rfl⟩
    have X53 : Ext V0 V53 := by rw [← hV53]; exact (by repeat first | exact xr _ | refine xa ?_ _ | refine xm ?_ _ _ | refine xd ?_ | refine xn ?_ _ | refine xs ?_ (by simp <;> omega) _)
    have L53 : Hid (V53.heap[g53]? = some (.cells #[.int .i64 (-1)] 3)) := zh (by rw [← hV53, ← hg53]; exact heap_alloc_new _ _)
    have S53 := zh (S0.out.ext X53)
    simp only [hV53, hg53]
    refine segQ_mk (fun _ => S53.out.eds B0.out HQ0.out) (hn _ _ ?_)
    clear hn next hV53 hg53 X53
    refine ⟨?_, ?_⟩
    ·refine bt_step fun next hn => ?_; simp only [pick, nthC]
     go_wp2_with fail
     obtain ⟨g54, hg54⟩ : ∃ g54, V53.heap.size = g54 := ⟨_, rfl⟩
     obtain ⟨V54, hV54⟩ : ∃ V54, V53.alloc (.cells #[.int .u64 z.a, .int .u64 z.b, .int .u64 z.c, .int .u64 z.d] 191) = V54 := ⟨_, rfl⟩
     have X54 : Ext V53 V54 := by rw [← hV54]; exact (by repeat first | exact xr _ | refine xa ?_ _ | refine xm ?_ _ _ | refine xd ?_ | refine xn ?_ _ | refine xs ?_ (by simp <;> omega) _)
     have L54 : Hid (V54.heap[g54]? = some (.cells #[.int .u64 z.a, .int .u64 z.b, .int .u64 z.c, .int .u64 z.d] 191)) := zh (by rw [← hV54, ← hg54]; exact heap_alloc_new _ _)
     have S54 := zh (S53.out.ext X54)
     have M54_21 := zh (ext_block L53.out X54)
     simp only [hV54, hg54]
     refine segQ_mk (fun _ => S54.out.eds B0.out HQ0.out) (hn _ _ ?_)
     clear hn next hV54 hg54 X54
     refine ⟨?_, ?_⟩
     ·refine bt_step fun next hn => ?_; simp only [pick, nthC]
      go_wp2_with (at_builtin; refine wpList_append_cells _ (by rfl) (.tmp 38) (.tmp 41) 145 rfl base 191 ic _ 4 32 Tryz.underlying145 HI.out.1.1 HI.out.1.2.1 HI.out.1.2.2.1 HI.out.1.2.2.2 rfl (by omega) (.slice Ac m kc) m cc rfl S54.out.rc (some ⟨g54, 0, none⟩) 1 1 z.cells rfl (by intro h; cases h) rfl (cells_heap L54.out) (by intro u hu; simp only [Cl.cells, List.mem_cons, List.not_mem_nil, or_false] at hu; rcases hu with rfl | rfl | rfl | rfl <;> rfl) (by unfold maxLen; omega) (by omega) (Nat.le_trans BS.out S54.out.kt.size) ?_; intro v55 V55 ho55 hgr55 hat55)
      obtain ⟨A55, k55, rfl, _, _, _⟩ := own_cells ho55
      have S55 := zh (S54.out.appC ho55 hgr55)
      have G55 : Hid ((Value.slice A55 (m + 1) k55).ownBlock = (Value.slice Ac m kc).ownBlock ∨ ∃ g, (Value.slice A55 (m + 1) k55).ownBlock = some g ∧ W.heap.size ≤ g ∧ g < V55.heap.size) := zh (hat55.imp id fun h => ⟨_, h, S54.out.kt.size, own_old ho55 _ h⟩)
      have M55_21 := zh (grown_other S54.out.rc hgr55 (Ext.refl _) M54_21.out (by decide))
      refine segQ_mk (fun _ => S55.out.eds B0.out HQ0.out) (hn _ _ ?_)
      clear hn next ho55 hgr55 hat55
      refine bt_step fun next hn => ?_; simp only [pick, nthC]
      go_wp2_with fail
      obtain ⟨g56, hg56⟩ : ∃ g56, V55.heap.size = g56 := ⟨_, rfl⟩
      obtain ⟨V56, hV56⟩ : ∃ V56, V55.alloc (.cells #[nil0] 31) = V56 := ⟨_, rfl⟩
      have X56 : Ext V55 V56 := by rw [← hV56]; exact (by repeat first | exact xr _ | refine xa ?_ _ | refine xm ?_ _ _ | refine xd ?_ | refine xn ?_ _ | refine xs ?_ (by simp <;> omega) _)
      have L56 : Hid (V56.heap[g56]? = some (.cells #[nil0] 31)) := zh (by rw [← hV56, ← hg56]; exact heap_alloc_new _ _)
      have S56 := zh (S55.out.ext X56)
      have M56_21 := zh (ext_block M55_21.out X56)
      simp only [hV56, hg56]
      refine segQ_mk (fun _ => S56.out.eds B0.out HQ0.out) (hn _ _ ?_)
      clear hn next hV56 hg56 X56
      refine bt_step fun next hn => ?_; simp only [pick, nthC]
      go_wp2_with (at_builtin; refine wpList_append_cells _ (by rfl) (.tmp 46) (.tmp 47) 146 rfl base 31 ini _ 1 24 Tryz.underlying146 HI.out.2.1.1 HI.out.2.1.2.1 HI.out.2.1.2.2.1 HI.out.2.1.2.2.2 rfl (by omega) (.slice An m kn) m ns0 rfl S56.out.rn (some ⟨g56, 0, none⟩) 1 1 [nil0] rfl (by intro h; cases h) rfl (cells_heap L56.out) (by intro u hu; obtain rfl := List.mem_singleton.1 hu; rfl) (by unfold maxLen; omega) (by omega) (Nat.le_trans BS.out S56.out.kt.size) ?_; intro v57 V57 ho57 hgr57 hat57)
      obtain ⟨A57, k57, rfl, _, _, _⟩ := own_cells ho57
      have S57 := zh (S56.out.appN ho57 hgr57)
      have G57 : Hid ((Value.slice A57 (m + 1) k57).ownBlock = (Value.slice An m kn).ownBlock ∨ ∃ g, (Value.slice A57 (m + 1) k57).ownBlock = some g ∧ W.heap.size ≤ g ∧ g < V57.heap.size) := zh (hat57.imp id fun h => ⟨_, h, S56.out.kt.size, own_old ho57 _ h⟩)
      have M57_21 := zh (grown_other S56.out.rn hgr57 (Ext.refl _) M56_21.out (by decide))
      refine segQ_mk (fun _ => S57.out.eds B0.out HQ0.out) (hn _ _ ?_)
      clear hn next ho57 hgr57 hat57
      refine bt_step fun next hn => ?_; simp only [pick, nthC]
      go_wp2_with (at_builtin; refine wpList_append_cells _ (by rfl) (.tmp 52) (.tmp 53) 31 rfl base 3 ir _ 1 8 Tryz.underlying31 HI.out.2.2.1 HI.out.2.2.2.1 HI.out.2.2.2.2.1 HI.out.2.2.2.2.2 rfl (by omega) (.slice Ar m kr) m rc rfl S57.out.rr (some ⟨g53, 0, none⟩) 1 1 [.int .i64 (-1)] rfl (by intro h; cases h) rfl (cells_heap M57_21.out) (by intro u hu; obtain rfl := List.mem_singleton.1 hu; rfl) (by unfold maxLen; omega) (by omega) (Nat.le_trans BS.out S57.out.kt.size) ?_; intro v58 V58 ho58 hgr58 hat58)
      obtain ⟨A58, k58, rfl, _, _, _⟩ := own_cells ho58
      have S58 := zh (S57.out.appR ho58 hgr58 hat58)
      have G58 : Hid ((Value.slice A58 (m + 1) k58).ownBlock = (Value.slice Ar m kr).ownBlock ∨ ∃ g, (Value.slice A58 (m + 1) k58).ownBlock = some g ∧ W.heap.size ≤ g ∧ g < V58.heap.size) := zh (hat58.imp id fun h => ⟨_, h, S57.out.kt.size, own_old ho58 _ h⟩)
      refine segQ_mk (fun _ => S58.out.eds B0.out HQ0.out) (hn _ _ ?_)
      clear hn next ho58 hgr58 hat58
      obtain ⟨Vz, hVz⟩ : ∃ Vz, put3 V58 nb (.slice A55 (m + 1) k55) (.slice A57 (m + 1) k57) (.slice A58 (m + 1) k58) = Vz := ⟨_, rfl⟩
      have HZ := zh (stores7 S58.out B0.out HNB.out HN1.out.low HNL.out G55.out G57.out G58.out)
      have KB := S58.out.kb
      have z0 := cell_of_row _ _ 0 _ _ _ KB
      have y0 := row_frozen KB 0
      have KB1 := setCell_row (k := 0) KB (.slice A55 (m + 1) k55)
      have z1 := cell_of_row _ _ 1 _ _ _ KB1
      have y1 := row_frozen KB1 1
      have KB2 := setCell_row (k := 1) KB1 (.slice A57 (m + 1) k57)
      have z2 := cell_of_row _ _ 2 _ _ _ KB2
      have y2 := row_frozen KB2 2
      simp at z0 z1 z2
      rw [hVz] at HZ
      have HVZ := zh hVz
      clear hVz KB KB1 KB2
      refine bt_pures _ fun K hK => ?_; simp only [pick, nthC]; (repeat go_big_quiet_step (fail)); refine wpQuiet_nil (hK _ ?_); clear hK K
      refine bt_step fun next hn => ?_; simp only [pick, nthC]
      go_wp2_with fail
      refine segQ_mk (fun h => absurd rfl h) (hn _ _ ?_)
      clear hn next
      refine bt_pures _ fun K hK => ?_; simp only [pick, nthC]; (repeat go_big_quiet_step (fail)); refine wpQuiet_nil (hK _ ?_); clear hK K
      refine bt_late fun next hn => ?_; simp only [pick, nthC]
      go_wp2_with fail
      refine segQ_mk (fun _ => trivial) (hn _ _ ?_)
      clear hn next
      refine bt_pures _ fun K hK => ?_; simp only [pick, nthC]; (repeat go_big_quiet_step (fail)); refine wpQuiet_nil (hK _ ?_); clear hK K
      refine bt_late fun next hn => ?_; simp only [pick, nthC]
      go_wp2_with fail
      refine segQ_mk (fun _ => trivial) (hn _ _ ?_)
      clear hn next
      (refine bt_fin ?_)
      have HVZ2 := HVZ.out
      unfold put3 put2 at HVZ2
      simp only [HVZ2]
      go_wp2_with fail
      go_meet
      exact ⟨_, _, _, HZ.out.1, HZ.out.2.1, HZ.out.2.2.1, HZ.out.2.2.2⟩
     ·refine bt_step fun next hn => ?_; simp only [pick, nthC]
      go_wp2_with fail
      obtain ⟨g59, hg59⟩ : ∃ g59, V54.heap.size = g59 := ⟨_, rfl⟩
      obtain ⟨V59, hV59⟩ : ∃ V59, V54.alloc (.cells #[nil0] 31) = V59 := ⟨_, rfl⟩
      have X59 : Ext V54 V59 := by rw [← hV59]; exact (by repeat first | exact xr _ | refine xa ?_ _ | refine xm ?_ _ _ | refine xd ?_ | refine xn ?_ _ | refine xs ?_ (by simp <;> omega) _)
      have L59 : Hid (V59.heap[g59]? = some (.cells #[nil0] 31)) := zh (by rw [← hV59, ← hg59]; exact heap_alloc_new _ _)
      have S59 := zh (S54.out.ext X59)
      have M59_21 := zh (ext_block M54_21.out X59)
      have M59_9 := zh (ext_block L54.out X59)
      simp only [hV59, hg59]
      refine segQ_mk (fun _ => S59.out.eds B0.out HQ0.out) (hn _ _ ?_)
      clear hn next hV59 hg59 X59
      refine bt_step fun next hn => ?_; simp only [pick, nthC]
      go_wp2_with (at_builtin; refine wpList_append_cells _ (by rfl) (.tmp 38) (.tmp 41) 145 rfl base 191 ic _ 4 32 Tryz.underlying145 HI.out.1.1 HI.out.1.2.1 HI.out.1.2.2.1 HI.out.1.2.2.2 rfl (by omega) (.slice Ac m kc) m cc rfl S59.out.rc (some ⟨g54, 0, none⟩) 1 1 z.cells rfl (by intro h; cases h) rfl (cells_heap M59_9.out) (by intro u hu; simp only [Cl.cells, List.mem_cons, List.not_mem_nil, or_false] at hu; rcases hu with rfl | rfl | rfl | rfl <;> rfl) (by unfold maxLen; omega) (by omega) (Nat.le_trans BS.out S59.out.kt.size) ?_; intro v60 V60 ho60 hgr60 hat60)
      obtain ⟨A60, k60, rfl, _, _, _⟩ := own_cells ho60
      have S60 := zh (S59.out.appC ho60 hgr60)
      have G60 : Hid ((Value.slice A60 (m + 1) k60).ownBlock = (Value.slice Ac m kc).ownBlock ∨ ∃ g, (Value.slice A60 (m + 1) k60).ownBlock = some g ∧ W.heap.size ≤ g ∧ g < V60.heap.size) := zh (hat60.imp id fun h => ⟨_, h, S59.out.kt.size, own_old ho60 _ h⟩)
      have M60_21 := zh (grown_other S59.out.rc hgr60 (Ext.refl _) M59_21.out (by decide))
      have M60_15 := zh (grown_other S59.out.rc hgr60 (Ext.refl _) L59.out (by decide))
      refine segQ_mk (fun _ => S60.out.eds B0.out HQ0.out) (hn _ _ ?_)
      clear hn next ho60 hgr60 hat60
      refine bt_step fun next hn => ?_; simp only [pick, nthC]
      go_wp2_with (at_builtin; refine wpList_append_cells _ (by rfl) (.tmp 46) (.tmp 47) 146 rfl base 31 ini _ 1 24 Tryz.underlying146 HI.out.2.1.1 HI.out.2.1.2.1 HI.out.2.1.2.2.1 HI.out.2.1.2.2.2 rfl (by omega) (.slice An m kn) m ns0 rfl S60.out.rn (some ⟨g59, 0, none⟩) 1 1 [nil0] rfl (by intro h; cases h) rfl (cells_heap M60_15.out) (by intro u hu; obtain rfl := List.mem_singleton.1 hu; rfl) (by unfold maxLen; omega) (by omega) (Nat.le_trans BS.out S60.out.kt.size) ?_; intro v61 V61 ho61 hgr61 hat61)
      obtain ⟨A61, k61, rfl, _, _, _⟩ := own_cells ho61
      have S61 := zh (S60.out.appN ho61 hgr61)
      have G61 : Hid ((Value.slice A61 (m + 1) k61).ownBlock = (Value.slice An m kn).ownBlock ∨ ∃ g, (Value.slice A61 (m + 1) k61).ownBlock = some g ∧ W.heap.size ≤ g ∧ g < V61.heap.size) := zh (hat61.imp id fun h => ⟨_, h, S60.out.kt.size, own_old ho61 _ h⟩)
      have M61_21 := zh (grown_other S60.out.rn hgr61 (Ext.refl _) M60_21.out (by decide))
      refine segQ_mk (fun _ => S61.out.eds B0.out HQ0.out) (hn _ _ ?_)
      clear hn next ho61 hgr61 hat61
      refine bt_step fun next hn => ?_; simp only [pick, nthC]
      go_wp2_with (at_builtin; refine wpList_append_cells _ (by rfl) (.tmp 52) (.tmp 53) 31 rfl base 3 ir _ 1 8 Tryz.underlying31 HI.out.2.2.1 HI.out.2.2.2.1 HI.out.2.2.2.2.1 HI.out.2.2.2.2.2 rfl (by omega) (.slice Ar m kr) m rc rfl S61.out.rr (some ⟨g53, 0, none⟩) 1 1 [.int .i64 (-1)] rfl (by intro h; cases h) rfl (cells_heap M61_21.out) (by intro u hu; obtain rfl := List.mem_singleton.1 hu; rfl) (by unfold maxLen; omega) (by omega) (Nat.le_trans BS.out S61.out.kt.size) ?_; intro v62 V62 ho62 hgr62 hat62)
      obtain ⟨A62, k62, rfl, _, _, _⟩ := own_cells ho62
      have S62 := zh (S61.out.appR ho62 hgr62 hat62)
      have G62 : Hid ((Value.slice A62 (m + 1) k62).ownBlock = (Value.slice Ar m kr).ownBlock ∨ ∃ g, (Value.slice A62 (m + 1) k62).ownBlock = some g ∧ W.heap.size ≤ g ∧ g < V62.heap.size) := zh (hat62.imp id fun h => ⟨_, h, S61.out.kt.size, own_old ho62 _ h⟩)
      refine segQ_mk (fun _ => S62.out.eds B0.out HQ0.out) (hn _ _ ?_)
      clear hn next ho62 hgr62 hat62
      obtain ⟨Vz, hVz⟩ : ∃ Vz, put3 V62 nb (.slice A60 (m + 1) k60) (.slice A61 (m + 1) k61) (.slice A62 (m + 1) k62) = Vz := ⟨_, rfl⟩
      have HZ := zh (stores7 S62.out B0.out HNB.out HN1.out.low HNL.out G60.out G61.out G62.out)
      have KB := S62.out.kb
      have z0 := cell_of_row _ _ 0 _ _ _ KB
      have y0 := row_frozen KB 0
      have KB1 := setCell_row (k := 0) KB (.slice A60 (m + 1) k60)
      have z1 := cell_of_row _ _ 1 _ _ _ KB1
      have y1 := row_frozen KB1 1
      have KB2 := setCell_row (k := 1) KB1 (.slice A61 (m + 1) k61)
      have z2 := cell_of_row _ _ 2 _ _ _ KB2
      have y2 := row_frozen KB2 2
      simp at z0 z1 z2
      rw [hVz] at HZ
      have HVZ := zh hVz
      clear hVz KB KB1 KB2
      refine bt_pures _ fun K hK => ?_; simp only [pick, nthC]; (repeat go_big_quiet_step (fail)); refine wpQuiet_nil (hK _ ?_); clear hK K
      refine bt_step fun next hn => ?_; simp only [pick, nthC]
      go_wp2_with fail
      refine segQ_mk (fun h => absurd rfl h) (hn _ _ ?_)
      clear hn next
      refine bt_pures _ fun K hK => ?_; simp only [pick, nthC]; (repeat go_big_quiet_step (fail)); refine wpQuiet_nil (hK _ ?_); clear hK K
      refine bt_late fun next hn => ?_; simp only [pick, nthC]
      go_wp2_with fail
      refine segQ_mk (fun _ => trivial) (hn _ _ ?_)
      clear hn next
      refine bt_pures _ fun K hK => ?_; simp only [pick, nthC]; (repeat go_big_quiet_step (fail)); refine wpQuiet_nil (hK _ ?_); clear hK K
      refine bt_late fun next hn => ?_; simp only [pick, nthC]
      go_wp2_with fail
      refine segQ_mk (fun _ => trivial) (hn _ _ ?_)
      clear hn next
      (refine bt_fin ?_)
      have HVZ2 := HVZ.out
      unfold put3 put2 at HVZ2
      simp only [HVZ2]
      go_wp2_with fail
      go_meet
      exact ⟨_, _, _, HZ.out.1, HZ.out.2.1, HZ.out.2.2.1, HZ.out.2.2.2⟩
    ·refine bt_step fun next hn => ?_; simp only [pick, nthC]
     go_wp2_with fail
     obtain ⟨g63, hg63⟩ : ∃ g63, V53.heap.size = g63 := ⟨_, rfl⟩
     obtain ⟨V63, hV63⟩ : ∃ V63, V53.alloc (.cells #[nil0] 31) = V63 := ⟨_, rfl⟩
     have X63 : Ext V53 V63 := by rw [← hV63]; exact (by repeat first | exact xr _ | refine xa ?_ _ | refine xm ?_ _ _ | refine xd ?_ | refine xn ?_ _ | refine xs ?_ (by simp <;> omega) _)
     have L63 : Hid (V63.heap[g63]? = some (.cells #[nil0] 31)) := zh (by rw [← hV63, ← hg63]; exact heap_alloc_new _ _)
     have S63 := zh (S53.out.ext X63)
     have M63_21 := zh (ext_block L53.out X63)
     simp only [hV63, hg63]
     refine segQ_mk (fun _ => S63.out.eds B0.out HQ0.out) (hn _ _ ?_)
     clear hn next hV63 hg63 X63
     refine bt_step fun next hn => ?_; simp only [pick, nthC]
     go_wp2_with fail
     obtain ⟨g64, hg64⟩ : ∃ g64, V63.heap.size = g64 := ⟨_, rfl⟩
     obtain ⟨V64, hV64⟩ : ∃ V64, V63.alloc (.cells #[.int .u64 z.a, .int .u64 z.b, .int .u64 z.c, .int .u64 z.d] 191) = V64 := ⟨_, rfl⟩
     have X64 : Ext V63 V64 := by rw [← hV64]; exact (by repeat first | exact xr _ | refine xa ?_ _ | refine xm ?_ _ _ | refine xd ?_ | refine xn ?_ _ | refine xs ?_ (by simp <;> omega) _)
     have L64 : Hid (V64.heap[g64]? = some (.cells #[.int .u64 z.a, .int .u64 z.b, .int .u64 z.c, .int .u64 z.d] 191)) := zh (by rw [← hV64, ← hg64]; exact heap_alloc_new _ _)
     have S64 := zh (S63.out.ext X64)
     have M64_21 := zh (ext_block M63_21.out X64)
     have M64_15 := zh (ext_block L63.out X64)
     simp only [hV64, hg64]
     refine segQ_mk (fun _ => S64.out.eds B0.out HQ0.out) (hn _ _ ?_)
     clear hn next hV64 hg64 X64
     refine bt_step fun next hn => ?_; simp only [pick, nthC]
     go_wp2_with (at_builtin; refine wpList_append_cells _ (by rfl) (.tmp 38) (.tmp 41) 145 rfl base 191 ic _ 4 32 Tryz.underlying145 HI.out.1.1 HI.out.1.2.1 HI.out.1.2.2.1 HI.out.1.2.2.2 rfl (by omega) (.slice Ac m kc) m cc rfl S64.out.rc (some ⟨g64, 0, none⟩) 1 1 z.cells rfl (by intro h; cases h) rfl (cells_heap L64.out) (by intro u hu; simp only [Cl.cells, List.mem_cons, List.not_mem_nil, or_false] at hu; rcases hu with rfl | rfl | rfl | rfl <;> rfl) (by unfold maxLen; omega) (by omega) (Nat.le_trans BS.out S64.out.kt.size) ?_; intro v65 V65 ho65 hgr65 hat65)
     obtain ⟨A65, k65, rfl, _, _, _⟩ := own_cells ho65
     have S65 := zh (S64.out.appC ho65 hgr65)
     have G65 : Hid ((Value.slice A65 (m + 1) k65).ownBlock = (Value.slice Ac m kc).ownBlock ∨ ∃ g, (Value.slice A65 (m + 1) k65).ownBlock = some g ∧ W.heap.size ≤ g ∧ g < V65.heap.size) := zh (hat65.imp id fun h => ⟨_, h, S64.out.kt.size, own_old ho65 _ h⟩)
     have M65_21 := zh (grown_other S64.out.rc hgr65 (Ext.refl _) M64_21.out (by decide))
     have M65_15 := zh (grown_other S64.out.rc hgr65 (Ext.refl _) M64_15.out (by decide))
     refine segQ_mk (fun _ => S65.out.eds B0.out HQ0.out) (hn _ _ ?_)
     clear hn next ho65 hgr65 hat65
     refine bt_step fun next hn => ?_; simp only [pick, nthC]
     go_wp2_with (at_builtin; refine wpList_append_cells _ (by rfl) (.tmp 46) (.tmp 47) 146 rfl base 31 ini _ 1 24 Tryz.underlying146 HI.out.2.1.1 HI.out.2.1.2.1 HI.out.2.1.2.2.1 HI.out.2.1.2.2.2 rfl (by omega) (.slice An m kn) m ns0 rfl S65.out.rn (some ⟨g63, 0, none⟩) 1 1 [nil0] rfl (by intro h; cases h) rfl (cells_heap M65_15.out) (by intro u hu; obtain rfl := List.mem_singleton.1 hu; rfl) (by unfold maxLen; omega) (by omega) (Nat.le_trans BS.out S65.out.kt.size) ?_; intro v66 V66 ho66 hgr66 hat66)
     obtain ⟨A66, k66, rfl, _, _, _⟩ := own_cells ho66
     have S66 := zh (S65.out.appN ho66 hgr66)
     have G66 : Hid ((Value.slice A66 (m + 1) k66).ownBlock = (Value.slice An m kn).ownBlock ∨ ∃ g, (Value.slice A66 (m + 1) k66).ownBlock = some g ∧ W.heap.size ≤ g ∧ g < V66.heap.size) := zh (hat66.imp id fun h => ⟨_, h, S65.out.kt.size, own_old ho66 _ h⟩)
     have M66_21 := zh (grown_other S65.out.rn hgr66 (Ext.refl _) M65_21.out (by decide))
     refine segQ_mk (fun _ => S66.out.eds B0.out HQ0.out) (hn _ _ ?_)
     clear hn next ho66 hgr66 hat66
     refine bt_step fun next hn => ?_; simp only [pick, nthC]
     go_wp2_with (at_builtin; refine wpList_append_cells _ (by rfl) (.tmp 52) (.tmp 53) 31 rfl base 3 ir _ 1 8 Tryz.underlying31 HI.out.2.2.1 HI.out.2.2.2.1 HI.out.2.2.2.2.1 HI.out.2.2.2.2.2 rfl (by omega) (.slice Ar m kr) m rc rfl S66.out.rr (some ⟨g53, 0, none⟩) 1 1 [.int .i64 (-1)] rfl (by intro h; cases h) rfl (cells_heap M66_21.out) (by intro u hu; obtain rfl := List.mem_singleton.1 hu; rfl) (by unfold maxLen; omega) (by omega) (Nat.le_trans BS.out S66.out.kt.size) ?_; intro v67 V67 ho67 hgr67 hat67)
     obtain ⟨A67, k67, rfl, _, _, _⟩ := own_cells ho67
     have S67 := zh (S66.out.appR ho67 hgr67 hat67)
     have G67 : Hid ((Value.slice A67 (m + 1) k67).ownBlock = (Value.slice Ar m kr).ownBlock ∨ ∃ g, (Value.slice A67 (m + 1) k67).ownBlock = some g ∧ W.heap.size ≤ g ∧ g < V67.heap.size) := zh (hat67.imp id fun h => ⟨_, h, S66.out.kt.size, own_old ho67 _ h⟩)
     refine segQ_mk (fun _ => S67.out.eds B0.out HQ0.out) (hn _ _ ?_)
     clear hn next ho67 hgr67 hat67
     obtain ⟨Vz, hVz⟩ : ∃ Vz, put3 V67 nb (.slice A65 (m + 1) k65) (.slice A66 (m + 1) k66) (.slice A67 (m + 1) k67) = Vz := ⟨_, rfl⟩
     have HZ := zh (stores7 S67.out B0.out HNB.out HN1.out.low HNL.out G65.out G66.out G67.out)
     have KB := S67.out.kb
     have z0 := cell_of_row _ _ 0 _ _ _ KB
     have y0 := row_frozen KB 0
     have KB1 := setCell_row (k := 0) KB (.slice A65 (m + 1) k65)
     have z1 := cell_of_row _ _ 1 _ _ _ KB1
     have y1 := row_frozen KB1 1
     have KB2 := setCell_row (k := 1) KB1 (.slice A66 (m + 1) k66)
     have z2 := cell_of_row _ _ 2 _ _ _ KB2
     have y2 := row_frozen KB2 2
     simp at z0 z1 z2
     rw [hVz] at HZ
     have HVZ := zh hVz
     clear hVz KB KB1 KB2
     refine bt_pures _ fun K hK => ?_; simp only [pick, nthC]; (repeat go_big_quiet_step (fail)); refine wpQuiet_nil (hK _ ?_); clear hK K
     refine bt_step fun next hn => ?_; simp only [pick, nthC]
     go_wp2_with fail
     refine segQ_mk (fun h => absurd rfl h) (hn _ _ ?_)
     clear hn next
     refine bt_pures _ fun K hK => ?_; simp only [pick, nthC]; (repeat go_big_quiet_step (fail)); refine wpQuiet_nil (hK _ ?_); clear hK K
     refine bt_late fun next hn => ?_; simp only [pick, nthC]
     go_wp2_with fail
     refine segQ_mk (fun _ => trivial) (hn _ _ ?_)
     clear hn next
     refine bt_pures _ fun K hK => ?_; simp only [pick, nthC]; (repeat go_big_quiet_step (fail)); refine wpQuiet_nil (hK _ ?_); clear hK K
     refine bt_late fun next hn => ?_; simp only [pick, nthC]
     go_wp2_with fail
     refine segQ_mk (fun _ => trivial) (hn _ _ ?_)
     clear hn next
     (refine bt_fin ?_)
     have HVZ2 := HVZ.out
     unfold put3 put2 at HVZ2
     simp only [HVZ2]
     go_wp2_with fail
     go_meet
     exact ⟨_, _, _, HZ.out.1, HZ.out.2.1, HZ.out.2.2.1, HZ.out.2.2.2⟩
 case rest =>
  obtain ⟨cv', nv', rv', hN', hT', hG', hR'⟩ := hcut
  have HPN : Hid (¬ nfaS nb (.slice Ac m kc) (.slice An m kn) (.slice Ar m kr) pb) := zh (fun hk => by
   have h0 := HPB.out
   rcases hk with hk | hk | hk | hk
   ·have := lt_of_heap HN.out.blk; omega
   ·have := own_old HN.out.cls pb hk; omega
   ·have := own_old HNS.out pb hk; omega
   ·have := own_old HN.out.rul pb hk; omega)
  have P1 := hT'.out.keep HP0.out HPN.out
  obtain ⟨f, hf⟩ : ∃ f, wc.heap.size = f := ⟨_, rfl⟩
  obtain ⟨W2, hW2⟩ : ∃ W2, (wc.alloc (.cells #[.int .i64 m] 3)).alloc (.cells #[.int .i64 m] 3) = W2 := ⟨_, rfl⟩
  have X2 : Ext wc W2 := by rw [← hW2]; exact (by repeat first | exact xr _ | refine xa ?_ _ | refine xm ?_ _ _ | refine xd ?_ | refine xn ?_ _ | refine xs ?_ (by simp <;> omega) _)
  have F2 : W2.heap[f]? = some (.cells #[.int .i64 m] 3) := by rw [← hW2, ← hf]; exact (by simp only [heap_alloc_get, World.size_alloc]; (repeat (split; (first | rfl | (exfalso; omega)))); (try (first | (exfalso; omega) | simp_all)))
  have L2 : W2.heap[f + 1]? = some (.cells #[.int .i64 m] 3) := by rw [← hW2, ← hf]; exact (by simp only [heap_alloc_get, World.size_alloc]; (repeat (split; (first | rfl | (exfalso; omega)))); (try (first | (exfalso; omega) | simp_all)))
  have P2 := ext_block P1 X2
  have c0 := cell_of_row _ _ 0 _ _ _ P2
  have c1 := cell_of_row _ _ 1 _ _ _ P2
  have c2 := cell_of_row _ _ 2 _ _ _ P2
  have ff := fun k => row_frozen P2 k
  have P3 := put3_at P2 (.bool false) (.slice (some ⟨f, 0, none⟩) 1 1) (.slice (some ⟨f + 1, 0, none⟩) 1 1)
  obtain ⟨W3, hW3⟩ : ∃ W3, put3 W2 pb (.bool false) (.slice (some ⟨f, 0, none⟩) 1 1) (.slice (some ⟨f + 1, 0, none⟩) 1 1) = W3 := ⟨_, rfl⟩
  have T3 : Turn (fun k => k = pb) W2 W3 := by rw [← hW3]; exact put3_turn (S := fun k => k = pb) rfl _ _ _
  rw [hW3] at P3
  have d0 := cell_of_row _ _ 0 _ _ _ P3
  have d1 := cell_of_row _ _ 1 _ _ _ P3
  have d2 := cell_of_row _ _ 2 _ _ _ P3
  simp at c0 c1 c2 d0 d1 d2
  have hpf : pb < f := by rw [← hf]; exact lt_of_heap P1
  have HF3 := zh (T3.keep F2 (by omega))
  have HL3 := zh (T3.keep L2 (by omega))
  have HWP : Hid (w.heap.size ≤ pb ∧ pb < f) := zh ⟨by have := HPB.out; omega, hpf⟩
  have HN3 : Hid (NfaAt W3 nb base (m + 1) (cc ++ z.cells) (rc ++ [.int .i64 (-1)]) (nx ++ [[]]) cv' nv' rv') := zh (by
   have h2 := hN'.out.ext X2
   obtain ⟨vs, hv1, hv2, hv3⟩ := h2.nxt
   have key : ∀ {cs : Array Value} {T : TypeId}, W2.heap[pb]? = some (.cells cs T) → T = 194 := fun hh => by
    rw [P2] at hh
    injection hh with hh
    injection hh with _ hh
    exact hh.symm
   have ok : ∀ {T : TypeId} {size n : Nat} {v : Value} {ys : List Value}, W2.ownsRow base T size v n ys → T ≠ 194 → W3.ownsRow base T size v n ys := fun hr hT => own_keep hr fun i hi => T3.block i (own_old hr i hi) (fun he => by
    subst he
    obtain ⟨cur, hcur⟩ := own_obj hr _ hi
    exact hT (key hcur))
   exact ⟨T3.keep h2.blk (fun he => by subst he; exact absurd (key h2.blk) (by decide)), h2.low, ok h2.cls (by decide), ⟨vs, ok hv1 (by decide), hv2, fun k v xs hv hx => (hv3 k v xs hv hx).keep T3 (fun g cs hcs _ he => by subst he; exact absurd (key hcs) (by decide)) rv' (fun g hg => .inl hg)⟩, ok h2.rul (by decide)⟩)
  have HT3 : Hid (Turn (nfaS nb (.slice Ac m kc) (.slice An m kn) (.slice Ar m kr)) w W3) := zh ((((Turn.of_ext HX1.out).trans hT'.out).trans (Turn.of_ext X2)).andThen T3 (fun k _ hk => hk) (fun k hk he => by have := HWP.out; omega))
  have HRR : Hid (rv'.ownBlock ≠ some f ∧ rv'.ownBlock ≠ some (f + 1)) := zh ⟨fun h => by have := hR'.out _ h; omega, fun h => by have := hR'.out _ h; omega⟩
  have HGG : Hid (∀ g, nfaS nb cv' nv' rv' g → nfaS nb (.slice Ac m kc) (.slice An m kn) (.slice Ar m kr) g ∨ w.heap.size ≤ g) := zh (fun g hg => (hG'.out g hg).imp id fun h => by have := HSZ.out; have := HWP.out; omega)
  unfold put3 put2 at hW3
  clear P1 P2 P3 F2 L2 X2 T3 hpf
  go_wp2_with fail
  exact bodyPost_ret (v := .agg #[.bool false, .slice (some ⟨f, 0, none⟩) 1 1, .slice (some ⟨f + 1, 0, none⟩) 1 1]) (by simp [results, Tryz.results144, go_sem, *]) rfl
   ⟨f, f + 1, cv', nv', rv', rfl, by have := HWP.out; omega, by have := HWP.out; omega, HF3.out, HL3.out, HN3.out, HT3.out, HRR.out.1, HRR.out.2, HGG.out⟩
end Go.Proofs.YthpmncdfaggkiaaGreat
