/- StylesNames: the chapter's examples come out as it tells. No condition. -/
import Derived.Test.YthpmncdfaggkiaaGreatSn13
import Derived.WalkSpells
import Derived.WalkLawsBesides
import Derived.BigRegion
import Derived.Deep.RegionWith
import Derived.Deep.QuietTactic
import Derived.Deep.DeepCutAuto
import Derived.Deep.RegionHeld3
import Derived.Deep.RegionLaw
import Derived.BigQuiet
import Derived.Lib.Hide
/- StylesNames: the walk. -/
namespace Go.Proofs.YthpmncdfaggkiaaGreat
open Go.RowKit
attribute [local go_sem] more_drew more_drewN more_size more_cell more_frozen more_setCell drew_more drewN_more lt_add_r lt_add_r2 lt_add_r3 lt_add_r4 lt_add_r5 lt_add_r6 lt_add_r7 lt_add_r8 lt_add_r9 lt_add_r10 lt_self_r lt_self_r2
def styC (s : Sty) : List Value := [.int .i64 s.kind, .slice s.pA s.path.length s.pc, .int .i64 s.st, .int .i64 s.prio]
theorem styles_one {w : World} {g : Nat} {cs : Array Value} {T : TypeId} {s : Sty} (h : w.heap[g]? = some (.cells cs T)) (hc : cs = (styC s).toArray) : Styles w (some ⟨g, 0, none⟩) [s] := fun _ => ⟨g, 0, rfl, lt_of_heap h, fun k q hk => by
  subst hc
  match k, hk with
  | 0, hk =>
    obtain rfl : s = q := by simpa using hk
    exact ⟨cell_of_row _ _ 0 _ _ _ h, cell_of_row _ _ 1 _ _ _ h, cell_of_row _ _ 2 _ _ _ h, cell_of_row _ _ 3 _ _ _ h⟩
  | k + 1, hk => simp at hk⟩
theorem styles_two {w : World} {g : Nat} {cs : Array Value} {T : TypeId} {s s' : Sty} (h : w.heap[g]? = some (.cells cs T)) (hc : cs = (styC s ++ styC s').toArray) : Styles w (some ⟨g, 0, none⟩) [s, s'] := fun _ => ⟨g, 0, rfl, lt_of_heap h, fun k q hk => by
  subst hc
  match k, hk with
  | 0, hk =>
    obtain rfl : s = q := by simpa using hk
    exact ⟨cell_of_row _ _ 0 _ _ _ h, cell_of_row _ _ 1 _ _ _ h, cell_of_row _ _ 2 _ _ _ h, cell_of_row _ _ 3 _ _ _ h⟩
  | 1, hk =>
    obtain rfl : s' = q := by simpa using hk
    exact ⟨cell_of_row _ _ 4 _ _ _ h, cell_of_row _ _ 5 _ _ _ h, cell_of_row _ _ 6 _ _ _ h, cell_of_row _ _ 7 _ _ _ h⟩
  | k + 2, hk => simp at hk⟩
def zSty : Sty := ⟨0, none, 0, [], 0, 0⟩
theorem made4 (a b c d : Value) (n i r : Nat) (v : Value) (hi : i < n) (hr : (#[a, b, c, d] : Array Value)[r]? = some v) : (madeCells #[a, b, c, d] (n * 4))[i * 4 + r]? = some v := by
  have h4 : r < 4 := (Array.getElem?_eq_some_iff.1 hr).1
  have hlt : i * 4 + r < n * 4 := by omega
  have hm : (i * 4 + r) % 4 = r := by omega
  simp only [List.getElem?_toArray] at hr
  simp [madeCells, hlt, hm, hr]
theorem styles_many {w : World} {g n : Nat} {T : TypeId} (h : w.heap[g]? = some (.cells (madeCells #[.int .i64 0, nil0, .int .i64 0, .int .i64 0] (n * 4)) T)) : Styles w (some ⟨g, 0, none⟩) (List.replicate n zSty) := fun _ => ⟨g, 0, rfl, lt_of_heap h, fun k q hk => by
  rw [List.getElem?_replicate] at hk
  split at hk
  · rename_i hkn
    injection hk with hk
    subst hk
    simp only [Nat.zero_add]
    exact ⟨(cell_of_row _ _ _ _ _ _ h).trans (by have := made4 (.int .i64 0) nil0 (.int .i64 0) (.int .i64 0) n k 0 _ hkn rfl; simpa [zSty] using this), (cell_of_row _ _ _ _ _ _ h).trans (made4 _ _ _ _ n k 1 _ hkn rfl), (cell_of_row _ _ _ _ _ _ h).trans (made4 _ _ _ _ n k 2 _ hkn rfl), (cell_of_row _ _ _ _ _ _ h).trans (made4 _ _ _ _ n k 3 _ hkn rfl)⟩
  · cases hk⟩
theorem infoSty : (Tryz.prog.info? 55).map (fun i => (i.zero, i.size, i.bytes)) = some (some (.agg #[.int .i64 0, .slice none 0 0, .int .i64 0, .int .i64 0]), 4, 48) := by kernel_rfl
set_option maxRecDepth 100000 in
theorem mk_sty (w : World) : (Instr.makeSlice 56 (.int .i64 65) (.int .i64 65)).run Tryz.prog w = .ok (.slice (some ⟨w.heap.size, 0, none⟩) 65 65) (w.alloc (.cells (madeCells #[.int .i64 0, nil0, .int .i64 0, .int .i64 0] (65 * 4)) 55)) := by
  obtain ⟨i3, hi, hz0, hz1, hz2⟩ := info_parts infoSty
  have h := run_makeSlice (P := Tryz.prog) w 56 55 i3 (.agg #[.int .i64 0, nil0, .int .i64 0, .int .i64 0]) Tryz.underlying56 hi hz0 .i64 .i64 (65 : Int) (65 : Int) (by omega) (by omega) (by rw [hz1]; omega) (by rw [hz2]; omega) (by omega)
  rw [hz1] at h
  exact h
theorem psNil (w : World) : PS w none 0 [] := ⟨fun h => absurd h (by simp), fun p hp => (by cases hp), ⟨by simp, fun j => by simp [kc, nds]⟩, by simp, by simp, fun _ => rfl⟩
theorem leafNil : ¬ LeafAt (nds []) 0 := by
  rintro ⟨T, _⟩
  have := T.pos
  simp [nds] at this
def grW (a : Nat) (b c : Nat) : Gr := ⟨1, 1, 1, some ⟨a, 0, none⟩, c, [⟨0, some ⟨b, 0, none⟩, 2, [0, 1]⟩, ⟨0, none, 0, []⟩]⟩
theorem grW_ok {w : World} {a b : Nat} (h : GrRd w a b none 2 0) : GrOk w (grW a b 2) := by
  refine ⟨fun _ => ⟨a, 0, rfl, h.lp, fun k p hk => ?_⟩, fun p hp => ?_, by simp [grW], by simp [grW]⟩
  · match k, hk with
    | 0, hk =>
      obtain rfl : _ = p := by simpa [grW] using hk
      exact ⟨h.p0, h.p1⟩
    | 1, hk =>
      obtain rfl : _ = p := by simpa [grW] using hk
      exact ⟨h.p2, h.p3⟩
    | k + 2, hk => simp [grW] at hk
  · simp only [grW, List.mem_cons, List.not_mem_nil, or_false] at hp
    rcases hp with rfl | rfl
    · exact ⟨fun _ => ⟨b, 0, rfl, h.lr, fun k hk => by
        match k, hk with
        | 0, _ => exact h.r0
        | 1, _ => exact h.r1
        | k + 2, hk => exact absurd hk (by simp)⟩, by simp, by simp⟩
    · exact ⟨fun h0 => absurd h0 (by simp), by simp, by simp⟩
theorem grZ_ok (w : World) : GrOk w ⟨0, 0, 0, none, 0, []⟩ := ⟨fun h0 => absurd h0 (by simp), fun p hp => (by cases hp), by simp, by simp⟩
theorem styB_dec {s : Sty} (h : (smI s.kind && smI s.st && smI s.prio && s.path.all smI && decide (s.path.length ≤ s.pc) && decide (s.pc ≤ 1000)) = true) (hn : s.pA = none → s.pc = 0) : StyB s := by
  simp only [Bool.and_eq_true, decide_eq_true_eq, List.all_eq_true] at h
  obtain ⟨⟨⟨⟨⟨h1, h2⟩, h3⟩, h4⟩, h5⟩, h6⟩ := h
  exact ⟨smI_ok h1, smI_ok h2, smI_ok h3, fun x hx => smI_ok (h4 x hx), h5, by omega, hn⟩
set_option maxRecDepth 100000 in
set_option maxHeartbeats 2000000 in
theorem stylesNames_any (w : World) : Calls Tryz.prog 5 #[] w fun e w' => e = .returned (.bool true) ∧ Ext w w' := by
  go_enter Tryz.func5, Tryz.ntmps5
  go_wp2_with fail
  refine (words_run w).mono ?_
  rintro e W1 ⟨rb, a, b, rfl, hr1, hg1, hx1⟩
  clear hr1
  have HX1 := Lib.hid hx1
  obtain ⟨gb, hgb⟩ : ∃ b, W1.heap.size = b := ⟨_, rfl⟩
  obtain ⟨W2a, hW2a⟩ : ∃ V, W1.alloc (.cells #[.int .i64 0, .int .i64 0, .int .i64 0, nil0] 46) = V := ⟨_, rfl⟩
  have hB : W2a.heap[gb]? = some (.cells #[.int .i64 0, .int .i64 0, .int .i64 0, nil0] 46) := by rw [← hW2a, ← hgb]; exact heap_alloc_new _ _
  obtain ⟨W2, hW2⟩ : ∃ V, put4 W2a gb (.int .i64 1) (.int .i64 1) (.int .i64 1) (.slice (some ⟨a, 0, none⟩) 2 2) = V := ⟨_, rfl⟩
  have hP : W2.heap[gb]? = some (.cells #[.int .i64 1, .int .i64 1, .int .i64 1, .slice (some ⟨a, 0, none⟩) 2 2] 46) := by rw [← hW2]; exact put4_at hB _ _ _ _
  have X12 : Ext W1 W2 := by rw [← hW2]; exact (put4_turn (S := fun k => k = gb) rfl _ _ _ _).ext (show Ext W1 W2a from by rw [← hW2a]; exact (by repeat (first | exact Ext.refl _ | refine Ext.alloc ?_ _ | refine Ext.more ?_ _ _ | refine Ext.drew ?_ | refine Ext.drewN ?_ _ | refine Ext.setCell ?_ (by simp <;> omega) _))) (fun k hk => by omega)
  have HX2 := Lib.hid (hx1.trans X12)
  have HG2 := Lib.hid (hg1.ext X12)
  have HP2 := Lib.hid hP
  have z0 := cell_of_row _ _ 0 _ _ _ hB
  have z1 := cell_of_row _ _ 1 _ _ _ hB
  have z2 := cell_of_row _ _ 2 _ _ _ hB
  have z3 := cell_of_row _ _ 3 _ _ _ hB
  have zl := lt_of_heap hB
  have zf := fun k => row_frozen hB k
  simp at z0 z1 z2 z3
  unfold gramV
  unfold put4 put3 put2 at hW2
  clear hx1 hg1 hB hP X12
  go_upto_region 2 with fail
  try simp only [hgb]
  try simp only [hW2a]
  try simp only [hW2]
  clear hgb hW2a hW2 z0 z1 z2 z3 zl zf
  go_wp2_with fail
  refine (words_run W2).mono ?_
  rintro e W3 ⟨rb, a', b', rfl, hr3, hg3, hx3⟩
  have HBU := Lib.hid (build17_words rb 2 a' b' 2 W3 hr3 hg3)
  have HX3 := Lib.hid hx3
  unfold gramV at HBU ⊢
  clear hr3 hg3 hx3
  go_wp2_with fail
  refine HBU.out.mono ?_
  rintro e W4 ⟨lb, rfl, hl4, hx4⟩
  have HX4 := Lib.hid (HX3.out.trans hx4)
  have HFR := Lib.hid (fresh_a1 lb W4 hl4)
  clear HBU hl4 hx4 HX3
  go_wp2_with fail
  refine HFR.out.mono ?_
  rintro e W6 ⟨v, rs, rfl, hrw, hsh, hx6⟩
  obtain ⟨TA, tc, rfl, hps⟩ := hrw.ps hsh treeA1_i64 (by decide) (by decide)
  have HX6 := Lib.hid (HX4.out.trans hx6)
  have HPS := Lib.hid hps
  have HND : Hid (nds (rs.map toPrt) = ndA1) := Lib.hid (by rw [nds_toPrt, hsh])
  obtain ⟨ts, hts⟩ : ∃ l, rs.map toPrt = l := ⟨_, rfl⟩
  have hlen : rs.length = ts.length := by rw [← hts, List.length_map]
  rw [hts] at HPS HND
  rw [hlen]
  clear hrw hsh hx6 hps hts hlen HFR HX4
  obtain ⟨sz, hsz⟩ : ∃ n, W6.heap.size = n := ⟨_, rfl⟩
  obtain ⟨L0, hL0⟩ : ∃ V, W6.alloc (.cells #[.int .i64 1, nil0, .int .i64 1, .int .i64 0] 55) = V := ⟨_, rfl⟩
  have sL0 : L0.heap.size = sz + 1 := by rw [← hL0]; simp; omega
  have bL0 : L0.heap[sz]? = some (.cells #[.int .i64 1, nil0, .int .i64 1, .int .i64 0] 55) := by rw [← hL0, ← hsz]; exact heap_alloc_new _ _
  have xL0 : Ext W6 L0 := by rw [← hL0]; exact (by repeat (first | exact Ext.refl _ | refine Ext.alloc ?_ _ | refine Ext.more ?_ _ _ | refine Ext.drew ?_ | refine Ext.drewN ?_ _ | refine Ext.setCell ?_ (by simp <;> omega) _))
  obtain ⟨L1, hL1⟩ : ∃ V, L0.alloc (.cells #[.int .i64 2] 3) = V := ⟨_, rfl⟩
  have sL1 : L1.heap.size = sz + 2 := by rw [← hL1]; simp; omega
  have bL1 : L1.heap[sz + 1]? = some (.cells #[.int .i64 2] 3) := by rw [← hL1, ← sL0]; exact heap_alloc_new _ _
  have xL1 : Ext L0 L1 := by rw [← hL1]; exact (by repeat (first | exact Ext.refl _ | refine Ext.alloc ?_ _ | refine Ext.more ?_ _ _ | refine Ext.drew ?_ | refine Ext.drewN ?_ _ | refine Ext.setCell ?_ (by simp <;> omega) _))
  obtain ⟨L2, hL2⟩ : ∃ V, L1.alloc (.cells #[.int .i64 0, .slice (some ⟨sz + 1, 0, none⟩) 1 1, .int .i64 1, .int .i64 0] 55) = V := ⟨_, rfl⟩
  have sL2 : L2.heap.size = sz + 3 := by rw [← hL2]; simp; omega
  have bL2 : L2.heap[sz + 2]? = some (.cells #[.int .i64 0, .slice (some ⟨sz + 1, 0, none⟩) 1 1, .int .i64 1, .int .i64 0] 55) := by rw [← hL2, ← sL1]; exact heap_alloc_new _ _
  have xL2 : Ext L1 L2 := by rw [← hL2]; exact (by repeat (first | exact Ext.refl _ | refine Ext.alloc ?_ _ | refine Ext.more ?_ _ _ | refine Ext.drew ?_ | refine Ext.drewN ?_ _ | refine Ext.setCell ?_ (by simp <;> omega) _))
  obtain ⟨L3, hL3⟩ : ∃ V, L2.alloc (.cells #[.int .i64 0, nil0, .int .i64 0, .int .i64 0] 55) = V := ⟨_, rfl⟩
  have sL3 : L3.heap.size = sz + 4 := by rw [← hL3]; simp; omega
  have bL3 : L3.heap[sz + 3]? = some (.cells #[.int .i64 0, nil0, .int .i64 0, .int .i64 0] 55) := by rw [← hL3, ← sL2]; exact heap_alloc_new _ _
  have xL3 : Ext L2 L3 := by rw [← hL3]; exact (by repeat (first | exact Ext.refl _ | refine Ext.alloc ?_ _ | refine Ext.more ?_ _ _ | refine Ext.drew ?_ | refine Ext.drewN ?_ _ | refine Ext.setCell ?_ (by simp <;> omega) _))
  obtain ⟨L4, hL4⟩ : ∃ V, L3.alloc (.cells #[.int .i64 (-3), .int .i64 1] 3) = V := ⟨_, rfl⟩
  have sL4 : L4.heap.size = sz + 5 := by rw [← hL4]; simp; omega
  have bL4 : L4.heap[sz + 4]? = some (.cells #[.int .i64 (-3), .int .i64 1] 3) := by rw [← hL4, ← sL3]; exact heap_alloc_new _ _
  have xL4 : Ext L3 L4 := by rw [← hL4]; exact (by repeat (first | exact Ext.refl _ | refine Ext.alloc ?_ _ | refine Ext.more ?_ _ _ | refine Ext.drew ?_ | refine Ext.drewN ?_ _ | refine Ext.setCell ?_ (by simp <;> omega) _))
  obtain ⟨L5, hL5⟩ : ∃ V, L4.alloc (.cells #[.int .i64 (-1), .slice (some ⟨sz + 4, 0, none⟩) 2 2, .int .i64 7, .int .i64 0, .int .i64 (-1), nil0, .int .i64 8, .int .i64 0] 55) = V := ⟨_, rfl⟩
  have sL5 : L5.heap.size = sz + 6 := by rw [← hL5]; simp; omega
  have bL5 : L5.heap[sz + 5]? = some (.cells #[.int .i64 (-1), .slice (some ⟨sz + 4, 0, none⟩) 2 2, .int .i64 7, .int .i64 0, .int .i64 (-1), nil0, .int .i64 8, .int .i64 0] 55) := by rw [← hL5, ← sL4]; exact heap_alloc_new _ _
  have xL5 : Ext L4 L5 := by rw [← hL5]; exact (by repeat (first | exact Ext.refl _ | refine Ext.alloc ?_ _ | refine Ext.more ?_ _ _ | refine Ext.drew ?_ | refine Ext.drewN ?_ _ | refine Ext.setCell ?_ (by simp <;> omega) _))
  obtain ⟨L6, hL6⟩ : ∃ V, L5.alloc (.cells #[.int .i64 0, nil0, .int .i64 3, .int .i64 2, .int .i64 0, nil0, .int .i64 4, .int .i64 2] 55) = V := ⟨_, rfl⟩
  have sL6 : L6.heap.size = sz + 7 := by rw [← hL6]; simp; omega
  have bL6 : L6.heap[sz + 6]? = some (.cells #[.int .i64 0, nil0, .int .i64 3, .int .i64 2, .int .i64 0, nil0, .int .i64 4, .int .i64 2] 55) := by rw [← hL6, ← sL5]; exact heap_alloc_new _ _
  have xL6 : Ext L5 L6 := by rw [← hL6]; exact (by repeat (first | exact Ext.refl _ | refine Ext.alloc ?_ _ | refine Ext.more ?_ _ _ | refine Ext.drew ?_ | refine Ext.drewN ?_ _ | refine Ext.setCell ?_ (by simp <;> omega) _))
  have x66 : Ext W6 L6 := xL0.trans (xL1.trans (xL2.trans (xL3.trans (xL4.trans (xL5.trans (xL6))))))
  have HXL := Lib.hid (HX6.out.trans x66)
  have HPSL := Lib.hid (HPS.out.ext x66)
  have i2L : Ints L6 (some ⟨sz + 1, 0, none⟩) [2] := ints1 (ext_block bL1 (xL2.trans (xL3.trans (xL4.trans (xL5.trans (xL6))))))
  have i3L : Ints L6 (some ⟨sz + 4, 0, none⟩) [-3, 1] := block_ints (ext_block bL4 (xL5.trans (xL6))) rfl
  have HBAD := Lib.hid (styles_one (s := ⟨1, none, 0, [], 1, 0⟩) (ext_block bL0 (xL1.trans (xL2.trans (xL3.trans (xL4.trans (xL5.trans (xL6))))))) rfl)
  have HFAR := Lib.hid (styles_one (s := ⟨0, some ⟨sz + 1, 0, none⟩, 1, [2], 1, 0⟩) (ext_block bL2 (xL3.trans (xL4.trans (xL5.trans (xL6))))) rfl)
  have HNON := Lib.hid (styles_one (s := ⟨0, none, 0, [], 0, 0⟩) (ext_block bL3 (xL4.trans (xL5.trans (xL6)))) rfl)
  have HODD := Lib.hid (styles_two (s := ⟨-1, some ⟨sz + 4, 0, none⟩, 2, [-3, 1], 7, 0⟩) (s' := ⟨-1, none, 0, [], 8, 0⟩) (ext_block bL5 (xL6)) rfl)
  have HSAM := Lib.hid (styles_two (s := ⟨0, none, 0, [], 3, 2⟩) (s' := ⟨0, none, 0, [], 4, 2⟩) bL6 rfl)
  have HI2 := Lib.hid i2L
  have HI3 := Lib.hid i3L
  have HGL := Lib.hid (HG2.out.ext HXL.out)
  have HPL := Lib.hid (ext_block HP2.out HXL.out)
  clear i2L i3L bL0 bL1 bL2 bL3 bL4 bL5 bL6 x66 xL0 xL1 xL2 xL3 xL4 xL5 xL6
  go_upto_region 11 with fail
  try simp only [hsz, hL0, hL1, hL2, hL3, hL4, hL5, hL6, sL0, sL1, sL2, sL3, sL4, sL5, sL6]
  clear hsz hL0 hL1 hL2 hL3 hL4 hL5 hL6 sL0 sL1 sL2 sL3 sL4 sL5 sL6 HX1 HX6 HG2 HP2 HPS
  have HGK : Hid (∀ V, Ext L6 V → GrOk V (grW a b 2)) := Lib.hid (fun V x => grW_ok (HGL.out.ext x))
  have hp4 := HPL.out
  have k0 := cell_of_row _ _ 0 _ _ _ hp4
  have k1 := cell_of_row _ _ 1 _ _ _ hp4
  have k2 := cell_of_row _ _ 2 _ _ _ hp4
  have k3 := cell_of_row _ _ 3 _ _ _ hp4
  have kl := lt_of_heap hp4
  simp at k0 k1 k2 k3
  clear hp4
  have hmk := mk_sty
  obtain ⟨tn, htn⟩ : ∃ n, ts.length = n := ⟨_, rfl⟩
  have HTN := Lib.hid htn
  rw [htn]
  clear htn
  simp only [List.append_eq, List.cons_append, List.nil_append]
  refine wp_region_bt (93) (.step 0 (pures_bt [1] (softs_bt [3] (.step 2 (.step 4 (pures_bt [5, 6, 7, 8] (softs_bt [9] (.step 10 (pures_bt [11, 12, 13, 14] (softs_bt [15] (.step 16 (pures_bt [17, 18, 19, 20] (softs_bt [21] (.step 22 (pures_bt [23, 24, 25] (softs_bt [27] (.step 26 (.step 28 (pures_bt [29, 30, 31, 32] (.step 33 (pures_bt [34, 35, 36, 37] (softs_bt [38] (.step 39 (pures_bt [40, 41, 42, 43] (.step 44 (pures_bt [45, 46, 47, 48] (.step 49 (pures_bt [50, 51, 52] (.two (.step 53 (pures_bt [54] (.two (.step 55 (.step 56 (.step 57 (pures_bt [58, 59] (.step 60 (pures_bt [61] (.step 62 (.step 63 (pures_bt [64, 65, 66] (.step 67 (pures_bt [68] (.step 69 (.step 70 (pures_bt [71, 72, 73, 75] (.step 74 (.step 76 (pures_bt [77, 78, 79, 81] (.step 80 (.step 82 (pures_bt [83, 84, 85] (.step 86 (.step 87 (pures_bt [88, 89, 90, 91, 92] .fin))))))))))))))))))))))) (.step 56 (.step 55 (.step 57 (pures_bt [58, 59] (.step 60 (pures_bt [61] (.step 62 (.step 63 (pures_bt [64, 65, 66] (.step 67 (pures_bt [68] (.step 69 (.step 70 (pures_bt [71, 72, 73, 75] (.step 74 (.step 76 (pures_bt [77, 78, 79, 81] (.step 80 (.step 82 (pures_bt [83, 84, 85] (.step 86 (.step 87 (pures_bt [88, 89, 90, 91, 92] .fin)))))))))))))))))))))))))) (.step 56 (.step 53 (pures_bt [54] (.step 55 (.step 57 (pures_bt [58, 59] (.step 60 (pures_bt [61] (.step 62 (.step 63 (pures_bt [64, 65, 66] (.step 67 (pures_bt [68] (.step 69 (.step 70 (pures_bt [71, 72, 73, 75] (.step 74 (.step 76 (pures_bt [77, 78, 79, 81] (.step 80 (.step 82 (pures_bt [83, 84, 85] (.step 86 (.step 87 (pures_bt [88, 89, 90, 91, 92] .fin)))))))))))))))))))))))))))))))))))))))))))))))))))))) (by kernel_rfl) (btOk_tab _ _ _ [⟨0, 17592186044416, 0, false⟩, ⟨1, 35184372088832, 17592186044416, true⟩, ⟨2, 70368744177664, 35184372088832, false⟩, ⟨2, 140737488355328, 35184372088836, true⟩, ⟨14, 281474976710656, 246290604621824, false⟩, ⟨18, 562949953421312, 316659348799488, true⟩, ⟨34, 1125899906842624, 598134325510144, true⟩, ⟨80, 2251799813685248, 1125899906842624, true⟩, ⟨128, 4503599627370496, 2251799813685376, true⟩, ⟨128, 9007199254740992, 2251799813685252, true⟩, ⟨896, 18014398509481984, 15762598695796736, false⟩, ⟨1152, 36028797018963968, 20266198323167232, true⟩, ⟨2176, 72057594037927936, 38280596832649216, true⟩, ⟨5120, 144115188075855872, 72057594037927936, true⟩, ⟨8192, 288230376151711744, 144115188075856128, true⟩, ⟨8192, 576460752303423488, 144115188075855876, true⟩, ⟨57344, 1152921504606846976, 1008806316530991104, false⟩, ⟨73728, 2305843009213693952, 1297036692682702848, true⟩, ⟨139264, 4611686018427387904, 2449958197289549824, true⟩, ⟨327680, 9223372036854775808, 4611686018427387904, true⟩, ⟨524288, 18446744073709551616, 9223372036854776320, true⟩, ⟨524288, 36893488147419103232, 9223372036854775812, true⟩, ⟨3670016, 73786976294838206464, 64563604257983430656, false⟩, ⟨4718592, 147573952589676412928, 83010348331692982272, true⟩, ⟨8912896, 295147905179352825856, 156797324626531188736, true⟩, ⟨20971520, 590295810358705651712, 295147905179352825856, true⟩, ⟨33554432, 1180591620717411303424, 590295810358705651712, false⟩, ⟨33554432, 2361183241434822606848, 590295810358705651716, true⟩, ⟨234881024, 4722366482869645213696, 4132070672510939561984, false⟩, ⟨301989888, 9444732965739290427392, 5312662293228350865408, true⟩, ⟨570425344, 18889465931478580854784, 10035028776097996079104, true⟩, ⟨1342177280, 37778931862957161709568, 18889465931478580854784, true⟩, ⟨2147483648, 75557863725914323419136, 37778931862957161709568, true⟩, ⟨6442450944, 151115727451828646838272, 113336795588871485128704, false⟩, ⟨10737418240, 302231454903657293676544, 188894659314785808547840, true⟩, ⟨19327352832, 604462909807314587353088, 340010386766614455386112, true⟩, ⟨42949672960, 1208925819614629174706176, 604462909807314587353088, true⟩, ⟨68719476736, 2417851639229258349412352, 1208925819614629174707200, true⟩, ⟨68719476736, 4835703278458516698824704, 1208925819614629174706180, true⟩, ⟨481036337152, 9671406556917033397649408, 8462480737302404222943232, false⟩, ⟨618475290624, 19342813113834066795298816, 10880332376531662572355584, true⟩, ⟨1168231104512, 38685626227668133590597632, 20551738933448695970004992, true⟩, ⟨2748779069440, 77371252455336267181195264, 38685626227668133590597632, true⟩, ⟨4398046511104, 154742504910672534362390528, 77371252455336267181197312, true⟩, ⟨13194139533312, 309485009821345068724781056, 232113757366008801543585792, false⟩, ⟨21990232555520, 618970019642690137449562112, 386856262276681335905976320, true⟩, ⟨39582418599936, 1237940039285380274899124224, 696341272098026404630757376, true⟩, ⟨87960930222080, 2475880078570760549798248448, 1237940039285380274899124224, true⟩, ⟨140737488355328, 4951760157141521099596496896, 2475880078570760549798250496, true⟩, ⟨422212465065984, 9903520314283042199192993792, 7427640235712281649394745344, false⟩, ⟨703687441776640, 19807040628566084398385987584, 12379400392853802748991242240, true⟩, ⟨1266637395197952, 39614081257132168796771975168, 22282920707136844948184236032, true⟩, ⟨2814749767106560, 79228162514264337593543950336, 39614081257132168796771975168, true⟩, ⟨4503599627370496, 158456325028528675187087900672, 79228162514264337593543950336, false⟩, ⟨13510798882111488, 316912650057057350374175801344, 237684487542793012780631851008, true⟩, ⟨22517998136852480, 633825300114114700748351602688, 396140812571321687967719751680, true⟩, ⟨4503599627370496, 1267650600228229401496703205376, 79228162514264337593543950336, false⟩, ⟨121597189939003392, 2535301200456458802993406410752, 1980704062856608439838598758400, false⟩, ⟨148618787703226368, 5070602400912917605986812821504, 2614529362970723140586950361088, true⟩, ⟨432345564227567616, 10141204801825835211973625643008, 5070602400912917605986812821504, true⟩, ⟨576460752303423488, 20282409603651670423947251286016, 10141204801825835211973625643008, false⟩, ⟨1729382256910270464, 40564819207303340847894502572032, 30423614405477505635920876929024, true⟩, ⟨2882303761517117440, 81129638414606681695789005144064, 50706024009129176059868128215040, true⟩, ⟨6341068275337658368, 162259276829213363391578010288128, 91270843216432516907762630787072, false⟩, ⟨9799832789158199296, 324518553658426726783156020576256, 172400481631039198603551635931136, true⟩, ⟨19023204826012975104, 649037107316853453566312041152512, 334659758460252561995129646219264, true⟩, ⟨46116860184273879040, 1298074214633706907132624082305024, 649037107316853453566312041152512, true⟩, ⟨73786976294838206464, 2596148429267413814265248164610048, 1298074214633706907132624082305024, false⟩, ⟨221360928884514619392, 5192296858534827628530496329220096, 3894222643901120721397872246915072, true⟩, ⟨368934881474191032320, 10384593717069655257060992658440192, 6490371073168534535663120411525120, true⟩, ⟨811656739243220271104, 20769187434139310514121985316880384, 11682667931703362164193616740745216, false⟩, ⟨1254378597012249509888, 41538374868278621028243970633760768, 22067261648773017421254609399185408, true⟩, ⟨2434970217729660813312, 83076749736557242056487941267521536, 42836449082912327935376594716065792, true⟩, ⟨5902958103587056517120, 166153499473114484112975882535043072, 83076749736557242056487941267521536, true⟩, ⟨9444732965739290427392, 332306998946228968225951765070086144, 166153499473114484112975882535043072, false⟩, ⟨9444732965739290427392, 664613997892457936451903530140172288, 166153499473114484112975882535043104, true⟩, ⟨66113130760175032991744, 1329227995784915872903807060280344576, 1163074496311801388790831177745301504, false⟩, ⟨85002596691653613846528, 2658455991569831745807614120560689152, 1495381495258030357016782942815387648, true⟩, ⟨160560460417567937265664, 5316911983139663491615228241121378304, 2824609491042946229920590003095732224, true⟩, ⟨377789318629571617095680, 10633823966279326983230456482242756608, 5316911983139663491615228241121378304, true⟩, ⟨604462909807314587353088, 21267647932558653966460912964485513216, 10633823966279326983230456482242756608, false⟩, ⟨604462909807314587353088, 42535295865117307932921825928971026432, 10633823966279326983230456482242756640, true⟩, ⟨4231240368651202111471616, 85070591730234615865843651857942052864, 74436767763955288882613195375699296256, false⟩, ⟨5440166188265831286177792, 170141183460469231731687303715884105728, 95704415696513942849074108340184809472, true⟩, ⟨10275869466724347985002496, 340282366920938463463374607431768211456, 180775007426748558714917760198126862336, true⟩, ⟨24178516392292583494123520, 680564733841876926926749214863536422912, 340282366920938463463374607431768211456, true⟩, ⟨38685626227668133590597632, 1361129467683753853853498429727072845824, 680564733841876926926749214863536422912, false⟩, ⟨116056878683004400771792896, 2722258935367507707706996859454145691648, 2041694201525630780780247644590609268736, false⟩, ⟨193428131138340667952988160, 5444517870735015415413993718908291383296, 3402823669209384634633746074317682114560, true⟩, ⟨348170636049013202315378688, 10889035741470030830827987437816582766592, 6125082604576892342340742933771827806208, true⟩, ⟨773712524553362671811952640, 21778071482940061661655974875633165533184, 10889035741470030830827987437816582766592, true⟩, ⟨1237940039285380274899124224, 43556142965880123323311949751266331066368, 21778071482940061661655974875633165533184, true⟩, ⟨4951760157141521099596496895, 1, 43556142965880123323311949751266331066368, true⟩] 93 (by kernel_rfl) (by kernel_rfl) (by kernel_rfl) (by kernel_rfl)) ?_
  (refine bt_step fun next hn => ?_); (simp only [pick, nthC])
  go_wp2_with fail
  refine (lives26 _).mono ?_
  rintro e V1 ⟨rfl, hx⟩
  have HV1 : Hid (Ext L6 V1) := Lib.hid (((by repeat (first | exact Ext.refl _ | refine Ext.alloc ?_ _ | refine Ext.more ?_ _ _ | refine Ext.drew ?_ | refine Ext.drewN ?_ _ | refine Ext.setCell ?_ (by simp <;> omega) _)) : Ext L6 L6.drew).trans hx)
  clear hx
  go_wp2_with fail
  refine segQ_mk (fun _ => laid HV1.out) (hn _ _ ?_)
  clear hn next
  (refine bt_pures _ fun K hK => ?_); (simp only [pick, nthC]); (repeat (go_big_quiet_step (fail))); (refine wpQuiet_nil (hK _ ?_)); (clear hK K)
  (refine bt_softs _ fun K hK => ?_); (simp only [pick, nthC]); (repeat (go_big_quiet_step (fail))); (refine wpQuiet_nil (hK _ ?_)); (clear hK K)
  (refine bt_step fun next hn => ?_); (simp only [pick, nthC])
  go_wp2_with fail
  refine (example26 _).mono ?_
  rintro e V2 ⟨xg, xp, rfl, hx, _, hS, hO⟩
  have HV2 : Hid (Ext L6 V2) := Lib.hid (HV1.out.trans hx)
  have HXB := Lib.hid hx
  have HXS := Lib.hid hS
  have HXO := Lib.hid hO
  clear hx hS hO
  go_wp2_with fail
  refine segQ_mk (fun _ => laid HV2.out) (hn _ _ ?_)
  clear hn next
  (refine bt_step fun next hn => ?_); (simp only [pick, nthC])
  go_wp2_with fail
  have HC := scheck_any _ [⟨0, none, 0, [], 1, 0⟩, ⟨0, some ⟨xp, 0, none⟩, 1, [1], 2, 1⟩] 2 (grW a b 2) _ HXS.out HXO.out (fun s hs => by simp only [List.mem_cons, List.not_mem_nil, or_false] at hs; rcases hs with rfl | rfl <;> exact styB_dec (by rfl) (by simp)) (by simp) (HGK.out _ HV2.out)
  rw [show stylesF (grW a b 2) [⟨0, none, 0, [], 1, 0⟩, ⟨0, some ⟨xp, 0, none⟩, 1, [1], 2, 1⟩] = 0 from rfl] at HC
  refine (HC).mono ?_
  rintro e V3 ⟨rfl, hx⟩
  have HV3 : Hid (Ext L6 V3) := Lib.hid (HV2.out.trans hx)
  clear hx
  go_wp2_with fail
  refine segQ_mk (fun _ => laid HV3.out) (hn _ _ ?_)
  clear hn next
  (refine bt_pures _ fun K hK => ?_); (simp only [pick, nthC]); (repeat (go_big_quiet_step (fail))); (refine wpQuiet_nil (hK _ ?_)); (clear hK K)
  (refine bt_softs _ fun K hK => ?_); (simp only [pick, nthC]); (repeat (go_big_quiet_step (fail))); (refine wpQuiet_nil (hK _ ?_)); (clear hK K)
  (refine bt_step fun next hn => ?_); (simp only [pick, nthC])
  go_wp2_with fail
  have HC := scheck_any (some ⟨sz, 0, none⟩) [⟨1, none, 0, [], 1, 0⟩] 1 (grW a b 2) _ (HBAD.out.ext HV3.out) (fun s hs => by obtain rfl := List.mem_singleton.1 hs; exact ⟨fun h0 => absurd h0 (by simp), by simp⟩) (fun s hs => by obtain rfl := List.mem_singleton.1 hs; exact styB_dec (by rfl) (by simp)) (by simp) (HGK.out _ HV3.out)
  rw [show stylesF (grW a b 2) [⟨1, none, 0, [], 1, 0⟩] = 2 from rfl] at HC
  refine (HC).mono ?_
  rintro e V4 ⟨rfl, hx⟩
  have HV4 : Hid (Ext L6 V4) := Lib.hid (HV3.out.trans hx)
  clear hx
  go_wp2_with fail
  refine segQ_mk (fun _ => laid HV4.out) (hn _ _ ?_)
  clear hn next
  (refine bt_pures _ fun K hK => ?_); (simp only [pick, nthC]); (repeat (go_big_quiet_step (fail))); (refine wpQuiet_nil (hK _ ?_)); (clear hK K)
  (refine bt_softs _ fun K hK => ?_); (simp only [pick, nthC]); (repeat (go_big_quiet_step (fail))); (refine wpQuiet_nil (hK _ ?_)); (clear hK K)
  (refine bt_step fun next hn => ?_); (simp only [pick, nthC])
  go_wp2_with fail
  have HC := scheck_any (some ⟨sz + 2, 0, none⟩) [⟨0, some ⟨sz + 1, 0, none⟩, 1, [2], 1, 0⟩] 1 (grW a b 2) _ (HFAR.out.ext HV4.out) (fun s hs => by obtain rfl := List.mem_singleton.1 hs; exact ⟨HI2.out.ext HV4.out, by simp⟩) (fun s hs => by obtain rfl := List.mem_singleton.1 hs; exact styB_dec (by rfl) (by simp)) (by simp) (HGK.out _ HV4.out)
  rw [show stylesF (grW a b 2) [⟨0, some ⟨sz + 1, 0, none⟩, 1, [2], 1, 0⟩] = 2 from rfl] at HC
  refine (HC).mono ?_
  rintro e V5 ⟨rfl, hx⟩
  have HV5 : Hid (Ext L6 V5) := Lib.hid (HV4.out.trans hx)
  clear hx
  go_wp2_with fail
  refine segQ_mk (fun _ => laid HV5.out) (hn _ _ ?_)
  clear hn next
  (refine bt_pures _ fun K hK => ?_); (simp only [pick, nthC]); (repeat (go_big_quiet_step (fail))); (refine wpQuiet_nil (hK _ ?_)); (clear hK K)
  (refine bt_softs _ fun K hK => ?_); (simp only [pick, nthC]); (repeat (go_big_quiet_step (fail))); (refine wpQuiet_nil (hK _ ?_)); (clear hK K)
  (refine bt_step fun next hn => ?_); (simp only [pick, nthC])
  go_wp2_with fail
  have HC := scheck_any (some ⟨sz + 3, 0, none⟩) [⟨0, none, 0, [], 0, 0⟩] 1 (grW a b 2) _ (HNON.out.ext HV5.out) (fun s hs => by obtain rfl := List.mem_singleton.1 hs; exact ⟨fun h0 => absurd h0 (by simp), by simp⟩) (fun s hs => by obtain rfl := List.mem_singleton.1 hs; exact styB_dec (by rfl) (by simp)) (by simp) (HGK.out _ HV5.out)
  rw [show stylesF (grW a b 2) [⟨0, none, 0, [], 0, 0⟩] = 2 from rfl] at HC
  refine (HC).mono ?_
  rintro e V6 ⟨rfl, hx⟩
  have HV6 : Hid (Ext L6 V6) := Lib.hid (HV5.out.trans hx)
  clear hx
  go_wp2_with fail
  refine segQ_mk (fun _ => laid HV6.out) (hn _ _ ?_)
  clear hn next
  (refine bt_pures _ fun K hK => ?_); (simp only [pick, nthC]); (repeat (go_big_quiet_step (fail))); (refine wpQuiet_nil (hK _ ?_)); (clear hK K)
  (refine bt_softs _ fun K hK => ?_); (simp only [pick, nthC]); (repeat (go_big_quiet_step (fail))); (refine wpQuiet_nil (hK _ ?_)); (clear hK K)
  (refine bt_step fun next hn => ?_); (simp only [pick, nthC])
  go_wp2_with fail
  refine segQ_mk (fun _ => laid (HV6.out.trans ((by repeat (first | exact Ext.refl _ | refine Ext.alloc ?_ _ | refine Ext.more ?_ _ _ | refine Ext.drew ?_ | refine Ext.drewN ?_ _ | refine Ext.setCell ?_ (by simp <;> omega) _)) : Ext V6 _))) (hn _ _ ?_)
  clear hn next
  obtain ⟨mg, hmg⟩ : ∃ n, V6.heap.size = n := ⟨_, rfl⟩
  obtain ⟨V7, hVk⟩ : ∃ V, V6.alloc (.cells (madeCells #[.int .i64 0, nil0, .int .i64 0, .int .i64 0] (65 * 4)) 55) = V := ⟨_, rfl⟩
  have HZS : Hid (Styles V7 (some ⟨mg, 0, none⟩) (List.replicate 65 zSty)) := Lib.hid (by rw [← hVk, ← hmg]; exact styles_many (heap_alloc_new _ _))
  have HV7 : Hid (Ext L6 V7) := Lib.hid (by rw [← hVk]; exact HV6.out.trans (by repeat (first | exact Ext.refl _ | refine Ext.alloc ?_ _ | refine Ext.more ?_ _ _ | refine Ext.drew ?_ | refine Ext.drewN ?_ _ | refine Ext.setCell ?_ (by simp <;> omega) _)))
  try simp only [hVk, hmg]
  clear hVk hmg hmk
  (refine bt_step fun next hn => ?_); (simp only [pick, nthC])
  go_wp2_with fail
  have HC := scheck_any (some ⟨mg, 0, none⟩) (List.replicate 65 zSty) 65 (grW a b 2) _ HZS.out (fun s hs => by obtain rfl := List.eq_of_mem_replicate hs; exact ⟨fun h0 => absurd h0 (by simp [zSty]), by simp [zSty]⟩) (fun s hs => by obtain rfl := List.eq_of_mem_replicate hs; exact styB_dec (by rfl) (by simp [zSty])) (by simp) (HGK.out _ HV7.out)
  rw [show stylesF (grW a b 2) (List.replicate 65 zSty) = 3 from rfl] at HC
  rw [List.length_replicate] at HC
  refine (HC).mono ?_
  rintro e V8 ⟨rfl, hx⟩
  have HV8 : Hid (Ext L6 V8) := Lib.hid (HV7.out.trans hx)
  clear hx
  go_wp2_with fail
  refine segQ_mk (fun _ => laid HV8.out) (hn _ _ ?_)
  clear hn next
  (refine bt_pures _ fun K hK => ?_); (simp only [pick, nthC]); (repeat (go_big_quiet_step (fail))); (refine wpQuiet_nil (hK _ ?_)); (clear hK K)
  (refine bt_step fun next hn => ?_); (simp only [pick, nthC])
  go_wp2_with fail
  have HC := scheck_any none [] 0 ⟨0, 0, 0, none, 0, []⟩ _ (fun h0 => absurd h0 (by simp)) (fun s hs => by cases hs) (fun s hs => by cases hs) (by simp) (grZ_ok V8)
  rw [show stylesF ⟨0, 0, 0, none, 0, []⟩ [] = 2 from rfl] at HC
  refine (HC).mono ?_
  rintro e V9 ⟨rfl, hx⟩
  have HV9 : Hid (Ext L6 V9) := Lib.hid (HV8.out.trans hx)
  clear hx
  go_wp2_with fail
  refine segQ_mk (fun _ => laid HV9.out) (hn _ _ ?_)
  clear hn next
  (refine bt_pures _ fun K hK => ?_); (simp only [pick, nthC]); (repeat (go_big_quiet_step (fail))); (refine wpQuiet_nil (hK _ ?_)); (clear hK K)
  (refine bt_softs _ fun K hK => ?_); (simp only [pick, nthC]); (repeat (go_big_quiet_step (fail))); (refine wpQuiet_nil (hK _ ?_)); (clear hK K)
  (refine bt_step fun next hn => ?_); (simp only [pick, nthC])
  go_wp2_with fail
  have HC := scheck_any (some ⟨sz + 5, 0, none⟩) [⟨-1, some ⟨sz + 4, 0, none⟩, 2, [-3, 1], 7, 0⟩, ⟨-1, none, 0, [], 8, 0⟩] 2 (grW a b 2) _ (HODD.out.ext HV9.out) (fun s hs => by simp only [List.mem_cons, List.not_mem_nil, or_false] at hs; rcases hs with rfl | rfl; exact ⟨HI3.out.ext HV9.out, by simp⟩; exact ⟨fun h0 => absurd h0 (by simp), by simp⟩) (fun s hs => by simp only [List.mem_cons, List.not_mem_nil, or_false] at hs; rcases hs with rfl | rfl <;> exact styB_dec (by rfl) (by simp)) (by simp) (HGK.out _ HV9.out)
  rw [show stylesF (grW a b 2) [⟨-1, some ⟨sz + 4, 0, none⟩, 2, [-3, 1], 7, 0⟩, ⟨-1, none, 0, [], 8, 0⟩] = 0 from rfl] at HC
  refine (HC).mono ?_
  rintro e V10 ⟨rfl, hx⟩
  have HV10 : Hid (Ext L6 V10) := Lib.hid (HV9.out.trans hx)
  clear hx
  go_wp2_with fail
  refine segQ_mk (fun _ => laid HV10.out) (hn _ _ ?_)
  clear hn next
  (refine bt_pures _ fun K hK => ?_); (simp only [pick, nthC]); (repeat (go_big_quiet_step (fail))); (refine wpQuiet_nil (hK _ ?_)); (clear hK K)
  (refine bt_step fun next hn => ?_); (simp only [pick, nthC])
  go_wp2_with fail
  have HC := style_any (some ⟨sz + 6, 0, none⟩) [⟨0, none, 0, [], 3, 2⟩, ⟨0, none, 0, [], 4, 2⟩] 2 0 none [] 0 _ (HSAM.out.ext HV10.out) (fun s hs => by simp only [List.mem_cons, List.not_mem_nil, or_false] at hs; rcases hs with rfl | rfl <;> exact ⟨fun h0 => absurd h0 (by simp), by simp⟩) (by simp) (fun h0 => absurd h0 (by simp)) (by simp) (by simp)
  rw [show styleF [⟨0, none, 0, [], 3, 2⟩, ⟨0, none, 0, [], 4, 2⟩] 0 [] = 3 from rfl] at HC
  refine (HC).mono ?_
  rintro e V11 ⟨rfl, hx⟩
  have HV11 : Hid (Ext L6 V11) := Lib.hid (HV10.out.trans hx)
  clear hx
  go_wp2_with fail
  refine segQ_mk (fun _ => laid HV11.out) (hn _ _ ?_)
  clear hn next
  (refine bt_pures _ fun K hK => ?_); (simp only [pick, nthC]); (repeat (go_big_quiet_step (fail))); (refine wpQuiet_nil (hK _ ?_)); (clear hK K)
  (refine bt_step fun next hn => ?_); (simp only [pick, nthC])
  go_wp2_with fail
  have HC := style_any (some ⟨sz + 6, 0, none⟩) [⟨0, none, 0, [], 3, 2⟩, ⟨0, none, 0, [], 4, 2⟩] 2 1 none [] 0 _ (HSAM.out.ext HV11.out) (fun s hs => by simp only [List.mem_cons, List.not_mem_nil, or_false] at hs; rcases hs with rfl | rfl <;> exact ⟨fun h0 => absurd h0 (by simp), by simp⟩) (by simp) (fun h0 => absurd h0 (by simp)) (by simp) (by simp)
  rw [show styleF [⟨0, none, 0, [], 3, 2⟩, ⟨0, none, 0, [], 4, 2⟩] 1 [] = 0 from rfl] at HC
  refine (HC).mono ?_
  rintro e V12 ⟨rfl, hx⟩
  have HV12 : Hid (Ext L6 V12) := Lib.hid (HV11.out.trans hx)
  clear hx
  go_wp2_with fail
  refine segQ_mk (fun _ => laid HV12.out) (hn _ _ ?_)
  clear hn next
  (refine bt_pures _ fun K hK => ?_); (simp only [pick, nthC]); (repeat (go_big_quiet_step (fail))); (refine wpQuiet_nil (hK _ ?_)); (clear hK K)
  obtain ⟨pp2, hpp2, hpn2⟩ := nds_get' (ps := ts) (k := 2) (q := nd1 ⟨0, 3, 0, 0, 1, 2, []⟩) (by rw [HND.out]; rfl)
  have HP2' := Lib.hid (And.intro hpp2 hpn2)
  clear hpp2 hpn2 k0 k1 k2 k3 kl
  refine ⟨?_, ?_⟩
  · (refine bt_step fun next hn => ?_); (simp only [pick, nthC])
    go_wp2_with fail
    refine (example26 _).mono ?_
    rintro e V13 ⟨xg, xp, rfl, hx, _, hS, hO⟩
    have HV13 : Hid (Ext L6 V13) := Lib.hid (HV12.out.trans hx)
    have HXB := Lib.hid hx
    have HXS := Lib.hid hS
    have HXO := Lib.hid hO
    clear hx hS hO
    go_wp2_with fail
    refine segQ_mk (fun _ => laid HV13.out) (hn _ _ ?_)
    clear hn next
    (refine bt_pures _ fun K hK => ?_); (simp only [pick, nthC]); (repeat (go_big_quiet_step (fail))); (refine wpQuiet_nil (hK _ ?_)); (clear hK K)
    refine ⟨?_, ?_⟩
    · obtain ⟨xb, xo, hxa, xl, hxc⟩ := (HXS.out.ext (Ext.refl _)) (by simp)
      injection hxa with hxa
      injection hxa with hxa1 hxa2
      subst hxa1 hxa2
      obtain ⟨x4, x5, x6, x7⟩ := hxc 1 ⟨0, some ⟨xp, 0, none⟩, 1, [1], 2, 1⟩ rfl
      simp at x4 x5 x6 x7
      (refine bt_step fun next hn => ?_); (simp only [pick, nthC])
      go_wp2_with fail
      refine segQ_mk (fun _ => laid HV13.out) (hn _ _ ?_)
      clear hn next x4 x5 x6 x7 hxc xl
      (refine bt_step fun next hn => ?_); (simp only [pick, nthC])
      go_wp2_with fail
      refine segQ_mk (fun _ => laid (HV13.out.trans ((by repeat (first | exact Ext.refl _ | refine Ext.alloc ?_ _ | refine Ext.more ?_ _ _ | refine Ext.drew ?_ | refine Ext.drewN ?_ _ | refine Ext.setCell ?_ (by simp <;> omega) _)) : Ext V13 _))) (hn _ _ ?_)
      clear hn next
      obtain ⟨ig, hig⟩ : ∃ n, V13.heap.size = n := ⟨_, rfl⟩
      obtain ⟨V14, hVk⟩ : ∃ V, V13.alloc (.cells #[.int .i64 5, .int .i64 1] 3) = V := ⟨_, rfl⟩
      have HIG : Hid (Ints V14 (some ⟨ig, 0, none⟩) [5, 1]) := Lib.hid (by rw [← hVk, ← hig]; exact block_ints (heap_alloc_new _ _) rfl)
      have HXL2 : Hid (Ext V13 V14) := Lib.hid (by rw [← hVk]; exact (by repeat (first | exact Ext.refl _ | refine Ext.alloc ?_ _ | refine Ext.more ?_ _ _ | refine Ext.drew ?_ | refine Ext.drewN ?_ _ | refine Ext.setCell ?_ (by simp <;> omega) _)))
      have HV14 : Hid (Ext L6 V14) := Lib.hid (HV13.out.trans HXL2.out)
      try simp only [hVk, hig]
      clear hVk hig
      (refine bt_step fun next hn => ?_); (simp only [pick, nthC])
      go_wp2_with fail
      have HC := matches_any ⟨0, some ⟨xp, 0, none⟩, 1, [1], 2, 1⟩ 0 (some ⟨ig, 0, none⟩) [5, 1] 2 _ ⟨(HXO.out ⟨0, some ⟨xp, 0, none⟩, 1, [1], 2, 1⟩ (by simp)).1.ext HXL2.out, (HXO.out ⟨0, some ⟨xp, 0, none⟩, 1, [1], 2, 1⟩ (by simp)).2⟩ HIG.out (by simp) (by simp)
      rw [show (decide ((⟨0, some ⟨xp, 0, none⟩, 1, [1], 2, 1⟩ : Sty).kind = 0) && endsB [5, 1] (⟨0, some ⟨xp, 0, none⟩, 1, [1], 2, 1⟩ : Sty).path) = true from rfl] at HC
      refine (HC).mono ?_
      rintro e V15 ⟨rfl, hx⟩
      have HV15 : Hid (Ext L6 V15) := Lib.hid (HV14.out.trans hx)
      clear hx
      go_wp2_with fail
      refine segQ_mk (fun _ => laid HV15.out) (hn _ _ ?_)
      clear hn next
      (refine bt_pures _ fun K hK => ?_); (simp only [pick, nthC]); (repeat (go_big_quiet_step (fail))); (refine wpQuiet_nil (hK _ ?_)); (clear hK K)
      (refine bt_step fun next hn => ?_); (simp only [pick, nthC])
      go_wp2_with fail
      refine (example26 _).mono ?_
      rintro e V16 ⟨xg, xp, rfl, hx, _, hS, hO⟩
      have HV16 : Hid (Ext L6 V16) := Lib.hid (HV15.out.trans hx)
      have HXB := Lib.hid hx
      have HXS := Lib.hid hS
      have HXO := Lib.hid hO
      clear hx hS hO
      go_wp2_with fail
      refine segQ_mk (fun _ => laid HV16.out) (hn _ _ ?_)
      clear hn next
      (refine bt_pures _ fun K hK => ?_); (simp only [pick, nthC]); (repeat (go_big_quiet_step (fail))); (refine wpQuiet_nil (hK _ ?_)); (clear hK K)
      obtain ⟨xb, xo, hxa, xl, hxc⟩ := (HXS.out.ext (Ext.refl _)) (by simp)
      injection hxa with hxa
      injection hxa with hxa1 hxa2
      subst hxa1 hxa2
      obtain ⟨x4, x5, x6, x7⟩ := hxc 1 ⟨0, some ⟨xp, 0, none⟩, 1, [1], 2, 1⟩ rfl
      simp at x4 x5 x6 x7
      (refine bt_step fun next hn => ?_); (simp only [pick, nthC])
      go_wp2_with fail
      refine segQ_mk (fun _ => laid HV16.out) (hn _ _ ?_)
      clear hn next x4 x5 x6 x7 hxc xl
      (refine bt_step fun next hn => ?_); (simp only [pick, nthC])
      go_wp2_with fail
      have HC := matches_any ⟨0, some ⟨xp, 0, none⟩, 1, [1], 2, 1⟩ 0 none [] 0 _ (HXO.out ⟨0, some ⟨xp, 0, none⟩, 1, [1], 2, 1⟩ (by simp)) (fun h0 => absurd h0 (by simp)) (by simp) (by simp)
      rw [show (decide ((⟨0, some ⟨xp, 0, none⟩, 1, [1], 2, 1⟩ : Sty).kind = 0) && endsB [] (⟨0, some ⟨xp, 0, none⟩, 1, [1], 2, 1⟩ : Sty).path) = false from rfl] at HC
      refine (HC).mono ?_
      rintro e V17 ⟨rfl, hx⟩
      have HV17 : Hid (Ext L6 V17) := Lib.hid (HV16.out.trans hx)
      clear hx
      go_wp2_with fail
      refine segQ_mk (fun _ => laid HV17.out) (hn _ _ ?_)
      clear hn next
      (refine bt_pures _ fun K hK => ?_); (simp only [pick, nthC]); (repeat (go_big_quiet_step (fail))); (refine wpQuiet_nil (hK _ ?_)); (clear hK K)
      (refine bt_step fun next hn => ?_); (simp only [pick, nthC])
      go_wp2_with fail
      refine (example26 _).mono ?_
      rintro e V18 ⟨xg, xp, rfl, hx, _, hS, hO⟩
      have HV18 : Hid (Ext L6 V18) := Lib.hid (HV17.out.trans hx)
      have HXB := Lib.hid hx
      have HXS := Lib.hid hS
      have HXO := Lib.hid hO
      clear hx hS hO
      go_wp2_with fail
      refine segQ_mk (fun _ => laid HV18.out) (hn _ _ ?_)
      clear hn next
      (refine bt_pures _ fun K hK => ?_); (simp only [pick, nthC]); (repeat (go_big_quiet_step (fail))); (refine wpQuiet_nil (hK _ ?_)); (clear hK K)
      obtain ⟨xb, xo, hxa, xl, hxc⟩ := (HXS.out.ext (Ext.refl _)) (by simp)
      injection hxa with hxa
      injection hxa with hxa1 hxa2
      subst hxa1 hxa2
      obtain ⟨x4, x5, x6, x7⟩ := hxc 0 ⟨0, none, 0, [], 1, 0⟩ rfl
      simp at x4 x5 x6 x7
      (refine bt_step fun next hn => ?_); (simp only [pick, nthC])
      go_wp2_with fail
      refine segQ_mk (fun _ => laid HV18.out) (hn _ _ ?_)
      clear hn next x4 x5 x6 x7 hxc xl
      (refine bt_step fun next hn => ?_); (simp only [pick, nthC])
      go_wp2_with fail
      have HC := matches_any ⟨0, none, 0, [], 1, 0⟩ 2 none [] 0 _ (HXO.out ⟨0, none, 0, [], 1, 0⟩ (by simp)) (fun h0 => absurd h0 (by simp)) (by simp) (by simp)
      rw [show (decide ((⟨0, none, 0, [], 1, 0⟩ : Sty).kind = 2) && endsB [] (⟨0, none, 0, [], 1, 0⟩ : Sty).path) = false from rfl] at HC
      refine (HC).mono ?_
      rintro e V19 ⟨rfl, hx⟩
      have HV19 : Hid (Ext L6 V19) := Lib.hid (HV18.out.trans hx)
      clear hx
      go_wp2_with fail
      refine segQ_mk (fun _ => laid HV19.out) (hn _ _ ?_)
      clear hn next
      (refine bt_pures _ fun K hK => ?_); (simp only [pick, nthC]); (repeat (go_big_quiet_step (fail))); (refine wpQuiet_nil (hK _ ?_)); (clear hK K)
      (refine bt_step fun next hn => ?_); (simp only [pick, nthC])
      go_wp2_with fail
      refine (example26 _).mono ?_
      rintro e V20 ⟨xg, xp, rfl, hx, _, hS, hO⟩
      have HV20 : Hid (Ext L6 V20) := Lib.hid (HV19.out.trans hx)
      have HXB := Lib.hid hx
      have HXS := Lib.hid hS
      have HXO := Lib.hid hO
      clear hx hS hO
      go_wp2_with fail
      refine segQ_mk (fun _ => laid HV20.out) (hn _ _ ?_)
      clear hn next
      (refine bt_step fun next hn => ?_); (simp only [pick, nthC])
      go_wp2_with fail
      have HC := leaf26_yes (cs := 2) HXS.out HXO.out (by simp) (HPSL.out.ext HV20.out) (by rw [HND.out]; exact treeA1_tree) HP2'.out.1 (by rw [HP2'.out.2]; exact .inl rfl) (by rw [HND.out, HP2'.out.2]; exact treeA1_way)
      rw [HP2'.out.2, HTN.out] at HC
      rw [show styleF [⟨0, none, 0, [], 1, 0⟩, ⟨0, some ⟨xp, 0, none⟩, 1, [1], 2, 1⟩] (nd1 ⟨0, 3, 0, 0, 1, 2, []⟩).sym [-3, 1] = 2 from rfl] at HC
      refine (HC).mono ?_
      rintro e V21 ⟨rfl, hx⟩
      have HV21 : Hid (Ext L6 V21) := Lib.hid (HV20.out.trans hx)
      clear hx
      go_wp2_with fail
      refine segQ_mk (fun _ => laid HV21.out) (hn _ _ ?_)
      clear hn next
      (refine bt_pures _ fun K hK => ?_); (simp only [pick, nthC]); (repeat (go_big_quiet_step (fail))); (refine wpQuiet_nil (hK _ ?_)); (clear hK K)
      (refine bt_step fun next hn => ?_); (simp only [pick, nthC])
      go_wp2_with fail
      refine (example26 _).mono ?_
      rintro e V22 ⟨xg, xp, rfl, hx, _, hS, hO⟩
      have HV22 : Hid (Ext L6 V22) := Lib.hid (HV21.out.trans hx)
      have HXB := Lib.hid hx
      have HXS := Lib.hid hS
      have HXO := Lib.hid hO
      clear hx hS hO
      go_wp2_with fail
      refine segQ_mk (fun _ => laid HV22.out) (hn _ _ ?_)
      clear hn next
      (refine bt_step fun next hn => ?_); (simp only [pick, nthC])
      go_wp2_with fail
      have HC := leaf26_no 0 (.slice (some ⟨xg, 0, none⟩) 2 2) (HPSL.out.ext HV22.out) (by rw [HND.out]; exact treeA1_no)
      rw [HTN.out] at HC
      refine (HC).mono ?_
      rintro e V23 ⟨rfl, hx⟩
      have HV23 : Hid (Ext L6 V23) := Lib.hid (HV22.out.trans hx)
      clear hx
      go_wp2_with fail
      refine segQ_mk (fun _ => laid HV23.out) (hn _ _ ?_)
      clear hn next
      (refine bt_pures _ fun K hK => ?_); (simp only [pick, nthC]); (repeat (go_big_quiet_step (fail))); (refine wpQuiet_nil (hK _ ?_)); (clear hK K)
      (refine bt_step fun next hn => ?_); (simp only [pick, nthC])
      go_wp2_with fail
      refine (example26 _).mono ?_
      rintro e V24 ⟨xg, xp, rfl, hx, _, hS, hO⟩
      have HV24 : Hid (Ext L6 V24) := Lib.hid (HV23.out.trans hx)
      have HXB := Lib.hid hx
      have HXS := Lib.hid hS
      have HXO := Lib.hid hO
      clear hx hS hO
      go_wp2_with fail
      refine segQ_mk (fun _ => laid HV24.out) (hn _ _ ?_)
      clear hn next
      (refine bt_step fun next hn => ?_); (simp only [pick, nthC])
      go_wp2_with fail
      have HC := leaf26_no 0 (.slice (some ⟨xg, 0, none⟩) 2 2) (psNil V24) leafNil
      refine (HC).mono ?_
      rintro e V25 ⟨rfl, hx⟩
      have HV25 : Hid (Ext L6 V25) := Lib.hid (HV24.out.trans hx)
      clear hx
      go_wp2_with fail
      refine segQ_mk (fun _ => laid HV25.out) (hn _ _ ?_)
      clear hn next
      (refine bt_pures _ fun K hK => ?_); (simp only [pick, nthC]); (repeat (go_big_quiet_step (fail))); (refine wpQuiet_nil (hK _ ?_)); (clear hK K)
      (refine bt_fin ?_)
      go_wp2_with fail
      go_ret
      exact ⟨rfl, HX2.out.trans (HXL.out.trans HV25.out)⟩
    · (refine bt_step fun next hn => ?_); (simp only [pick, nthC])
      go_wp2_with fail
      refine segQ_mk (fun _ => laid (HV13.out.trans ((by repeat (first | exact Ext.refl _ | refine Ext.alloc ?_ _ | refine Ext.more ?_ _ _ | refine Ext.drew ?_ | refine Ext.drewN ?_ _ | refine Ext.setCell ?_ (by simp <;> omega) _)) : Ext V13 _))) (hn _ _ ?_)
      clear hn next
      obtain ⟨ig, hig⟩ : ∃ n, V13.heap.size = n := ⟨_, rfl⟩
      obtain ⟨V14, hVk⟩ : ∃ V, V13.alloc (.cells #[.int .i64 5, .int .i64 1] 3) = V := ⟨_, rfl⟩
      have HIG : Hid (Ints V14 (some ⟨ig, 0, none⟩) [5, 1]) := Lib.hid (by rw [← hVk, ← hig]; exact block_ints (heap_alloc_new _ _) rfl)
      have HXL2 : Hid (Ext V13 V14) := Lib.hid (by rw [← hVk]; exact (by repeat (first | exact Ext.refl _ | refine Ext.alloc ?_ _ | refine Ext.more ?_ _ _ | refine Ext.drew ?_ | refine Ext.drewN ?_ _ | refine Ext.setCell ?_ (by simp <;> omega) _)))
      have HV14 : Hid (Ext L6 V14) := Lib.hid (HV13.out.trans HXL2.out)
      try simp only [hVk, hig]
      clear hVk hig
      obtain ⟨xb, xo, hxa, xl, hxc⟩ := (HXS.out.ext HXL2.out) (by simp)
      injection hxa with hxa
      injection hxa with hxa1 hxa2
      subst hxa1 hxa2
      obtain ⟨x4, x5, x6, x7⟩ := hxc 1 ⟨0, some ⟨xp, 0, none⟩, 1, [1], 2, 1⟩ rfl
      simp at x4 x5 x6 x7
      (refine bt_step fun next hn => ?_); (simp only [pick, nthC])
      go_wp2_with fail
      refine segQ_mk (fun _ => laid HV14.out) (hn _ _ ?_)
      clear hn next x4 x5 x6 x7 hxc xl
      (refine bt_step fun next hn => ?_); (simp only [pick, nthC])
      go_wp2_with fail
      have HC := matches_any ⟨0, some ⟨xp, 0, none⟩, 1, [1], 2, 1⟩ 0 (some ⟨ig, 0, none⟩) [5, 1] 2 _ ⟨(HXO.out ⟨0, some ⟨xp, 0, none⟩, 1, [1], 2, 1⟩ (by simp)).1.ext HXL2.out, (HXO.out ⟨0, some ⟨xp, 0, none⟩, 1, [1], 2, 1⟩ (by simp)).2⟩ HIG.out (by simp) (by simp)
      rw [show (decide ((⟨0, some ⟨xp, 0, none⟩, 1, [1], 2, 1⟩ : Sty).kind = 0) && endsB [5, 1] (⟨0, some ⟨xp, 0, none⟩, 1, [1], 2, 1⟩ : Sty).path) = true from rfl] at HC
      refine (HC).mono ?_
      rintro e V15 ⟨rfl, hx⟩
      have HV15 : Hid (Ext L6 V15) := Lib.hid (HV14.out.trans hx)
      clear hx
      go_wp2_with fail
      refine segQ_mk (fun _ => laid HV15.out) (hn _ _ ?_)
      clear hn next
      (refine bt_pures _ fun K hK => ?_); (simp only [pick, nthC]); (repeat (go_big_quiet_step (fail))); (refine wpQuiet_nil (hK _ ?_)); (clear hK K)
      (refine bt_step fun next hn => ?_); (simp only [pick, nthC])
      go_wp2_with fail
      refine (example26 _).mono ?_
      rintro e V16 ⟨xg, xp, rfl, hx, _, hS, hO⟩
      have HV16 : Hid (Ext L6 V16) := Lib.hid (HV15.out.trans hx)
      have HXB := Lib.hid hx
      have HXS := Lib.hid hS
      have HXO := Lib.hid hO
      clear hx hS hO
      go_wp2_with fail
      refine segQ_mk (fun _ => laid HV16.out) (hn _ _ ?_)
      clear hn next
      (refine bt_pures _ fun K hK => ?_); (simp only [pick, nthC]); (repeat (go_big_quiet_step (fail))); (refine wpQuiet_nil (hK _ ?_)); (clear hK K)
      obtain ⟨xb, xo, hxa, xl, hxc⟩ := (HXS.out.ext (Ext.refl _)) (by simp)
      injection hxa with hxa
      injection hxa with hxa1 hxa2
      subst hxa1 hxa2
      obtain ⟨x4, x5, x6, x7⟩ := hxc 1 ⟨0, some ⟨xp, 0, none⟩, 1, [1], 2, 1⟩ rfl
      simp at x4 x5 x6 x7
      (refine bt_step fun next hn => ?_); (simp only [pick, nthC])
      go_wp2_with fail
      refine segQ_mk (fun _ => laid HV16.out) (hn _ _ ?_)
      clear hn next x4 x5 x6 x7 hxc xl
      (refine bt_step fun next hn => ?_); (simp only [pick, nthC])
      go_wp2_with fail
      have HC := matches_any ⟨0, some ⟨xp, 0, none⟩, 1, [1], 2, 1⟩ 0 none [] 0 _ (HXO.out ⟨0, some ⟨xp, 0, none⟩, 1, [1], 2, 1⟩ (by simp)) (fun h0 => absurd h0 (by simp)) (by simp) (by simp)
      rw [show (decide ((⟨0, some ⟨xp, 0, none⟩, 1, [1], 2, 1⟩ : Sty).kind = 0) && endsB [] (⟨0, some ⟨xp, 0, none⟩, 1, [1], 2, 1⟩ : Sty).path) = false from rfl] at HC
      refine (HC).mono ?_
      rintro e V17 ⟨rfl, hx⟩
      have HV17 : Hid (Ext L6 V17) := Lib.hid (HV16.out.trans hx)
      clear hx
      go_wp2_with fail
      refine segQ_mk (fun _ => laid HV17.out) (hn _ _ ?_)
      clear hn next
      (refine bt_pures _ fun K hK => ?_); (simp only [pick, nthC]); (repeat (go_big_quiet_step (fail))); (refine wpQuiet_nil (hK _ ?_)); (clear hK K)
      (refine bt_step fun next hn => ?_); (simp only [pick, nthC])
      go_wp2_with fail
      refine (example26 _).mono ?_
      rintro e V18 ⟨xg, xp, rfl, hx, _, hS, hO⟩
      have HV18 : Hid (Ext L6 V18) := Lib.hid (HV17.out.trans hx)
      have HXB := Lib.hid hx
      have HXS := Lib.hid hS
      have HXO := Lib.hid hO
      clear hx hS hO
      go_wp2_with fail
      refine segQ_mk (fun _ => laid HV18.out) (hn _ _ ?_)
      clear hn next
      (refine bt_pures _ fun K hK => ?_); (simp only [pick, nthC]); (repeat (go_big_quiet_step (fail))); (refine wpQuiet_nil (hK _ ?_)); (clear hK K)
      obtain ⟨xb, xo, hxa, xl, hxc⟩ := (HXS.out.ext (Ext.refl _)) (by simp)
      injection hxa with hxa
      injection hxa with hxa1 hxa2
      subst hxa1 hxa2
      obtain ⟨x4, x5, x6, x7⟩ := hxc 0 ⟨0, none, 0, [], 1, 0⟩ rfl
      simp at x4 x5 x6 x7
      (refine bt_step fun next hn => ?_); (simp only [pick, nthC])
      go_wp2_with fail
      refine segQ_mk (fun _ => laid HV18.out) (hn _ _ ?_)
      clear hn next x4 x5 x6 x7 hxc xl
      (refine bt_step fun next hn => ?_); (simp only [pick, nthC])
      go_wp2_with fail
      have HC := matches_any ⟨0, none, 0, [], 1, 0⟩ 2 none [] 0 _ (HXO.out ⟨0, none, 0, [], 1, 0⟩ (by simp)) (fun h0 => absurd h0 (by simp)) (by simp) (by simp)
      rw [show (decide ((⟨0, none, 0, [], 1, 0⟩ : Sty).kind = 2) && endsB [] (⟨0, none, 0, [], 1, 0⟩ : Sty).path) = false from rfl] at HC
      refine (HC).mono ?_
      rintro e V19 ⟨rfl, hx⟩
      have HV19 : Hid (Ext L6 V19) := Lib.hid (HV18.out.trans hx)
      clear hx
      go_wp2_with fail
      refine segQ_mk (fun _ => laid HV19.out) (hn _ _ ?_)
      clear hn next
      (refine bt_pures _ fun K hK => ?_); (simp only [pick, nthC]); (repeat (go_big_quiet_step (fail))); (refine wpQuiet_nil (hK _ ?_)); (clear hK K)
      (refine bt_step fun next hn => ?_); (simp only [pick, nthC])
      go_wp2_with fail
      refine (example26 _).mono ?_
      rintro e V20 ⟨xg, xp, rfl, hx, _, hS, hO⟩
      have HV20 : Hid (Ext L6 V20) := Lib.hid (HV19.out.trans hx)
      have HXB := Lib.hid hx
      have HXS := Lib.hid hS
      have HXO := Lib.hid hO
      clear hx hS hO
      go_wp2_with fail
      refine segQ_mk (fun _ => laid HV20.out) (hn _ _ ?_)
      clear hn next
      (refine bt_step fun next hn => ?_); (simp only [pick, nthC])
      go_wp2_with fail
      have HC := leaf26_yes (cs := 2) HXS.out HXO.out (by simp) (HPSL.out.ext HV20.out) (by rw [HND.out]; exact treeA1_tree) HP2'.out.1 (by rw [HP2'.out.2]; exact .inl rfl) (by rw [HND.out, HP2'.out.2]; exact treeA1_way)
      rw [HP2'.out.2, HTN.out] at HC
      rw [show styleF [⟨0, none, 0, [], 1, 0⟩, ⟨0, some ⟨xp, 0, none⟩, 1, [1], 2, 1⟩] (nd1 ⟨0, 3, 0, 0, 1, 2, []⟩).sym [-3, 1] = 2 from rfl] at HC
      refine (HC).mono ?_
      rintro e V21 ⟨rfl, hx⟩
      have HV21 : Hid (Ext L6 V21) := Lib.hid (HV20.out.trans hx)
      clear hx
      go_wp2_with fail
      refine segQ_mk (fun _ => laid HV21.out) (hn _ _ ?_)
      clear hn next
      (refine bt_pures _ fun K hK => ?_); (simp only [pick, nthC]); (repeat (go_big_quiet_step (fail))); (refine wpQuiet_nil (hK _ ?_)); (clear hK K)
      (refine bt_step fun next hn => ?_); (simp only [pick, nthC])
      go_wp2_with fail
      refine (example26 _).mono ?_
      rintro e V22 ⟨xg, xp, rfl, hx, _, hS, hO⟩
      have HV22 : Hid (Ext L6 V22) := Lib.hid (HV21.out.trans hx)
      have HXB := Lib.hid hx
      have HXS := Lib.hid hS
      have HXO := Lib.hid hO
      clear hx hS hO
      go_wp2_with fail
      refine segQ_mk (fun _ => laid HV22.out) (hn _ _ ?_)
      clear hn next
      (refine bt_step fun next hn => ?_); (simp only [pick, nthC])
      go_wp2_with fail
      have HC := leaf26_no 0 (.slice (some ⟨xg, 0, none⟩) 2 2) (HPSL.out.ext HV22.out) (by rw [HND.out]; exact treeA1_no)
      rw [HTN.out] at HC
      refine (HC).mono ?_
      rintro e V23 ⟨rfl, hx⟩
      have HV23 : Hid (Ext L6 V23) := Lib.hid (HV22.out.trans hx)
      clear hx
      go_wp2_with fail
      refine segQ_mk (fun _ => laid HV23.out) (hn _ _ ?_)
      clear hn next
      (refine bt_pures _ fun K hK => ?_); (simp only [pick, nthC]); (repeat (go_big_quiet_step (fail))); (refine wpQuiet_nil (hK _ ?_)); (clear hK K)
      (refine bt_step fun next hn => ?_); (simp only [pick, nthC])
      go_wp2_with fail
      refine (example26 _).mono ?_
      rintro e V24 ⟨xg, xp, rfl, hx, _, hS, hO⟩
      have HV24 : Hid (Ext L6 V24) := Lib.hid (HV23.out.trans hx)
      have HXB := Lib.hid hx
      have HXS := Lib.hid hS
      have HXO := Lib.hid hO
      clear hx hS hO
      go_wp2_with fail
      refine segQ_mk (fun _ => laid HV24.out) (hn _ _ ?_)
      clear hn next
      (refine bt_step fun next hn => ?_); (simp only [pick, nthC])
      go_wp2_with fail
      have HC := leaf26_no 0 (.slice (some ⟨xg, 0, none⟩) 2 2) (psNil V24) leafNil
      refine (HC).mono ?_
      rintro e V25 ⟨rfl, hx⟩
      have HV25 : Hid (Ext L6 V25) := Lib.hid (HV24.out.trans hx)
      clear hx
      go_wp2_with fail
      refine segQ_mk (fun _ => laid HV25.out) (hn _ _ ?_)
      clear hn next
      (refine bt_pures _ fun K hK => ?_); (simp only [pick, nthC]); (repeat (go_big_quiet_step (fail))); (refine wpQuiet_nil (hK _ ?_)); (clear hK K)
      (refine bt_fin ?_)
      go_wp2_with fail
      go_ret
      exact ⟨rfl, HX2.out.trans (HXL.out.trans HV25.out)⟩
  · (refine bt_step fun next hn => ?_); (simp only [pick, nthC])
    go_wp2_with fail
    refine segQ_mk (fun _ => laid (HV12.out.trans ((by repeat (first | exact Ext.refl _ | refine Ext.alloc ?_ _ | refine Ext.more ?_ _ _ | refine Ext.drew ?_ | refine Ext.drewN ?_ _ | refine Ext.setCell ?_ (by simp <;> omega) _)) : Ext V12 _))) (hn _ _ ?_)
    clear hn next
    obtain ⟨ig, hig⟩ : ∃ n, V12.heap.size = n := ⟨_, rfl⟩
    obtain ⟨V13, hVk⟩ : ∃ V, V12.alloc (.cells #[.int .i64 5, .int .i64 1] 3) = V := ⟨_, rfl⟩
    have HIG : Hid (Ints V13 (some ⟨ig, 0, none⟩) [5, 1]) := Lib.hid (by rw [← hVk, ← hig]; exact block_ints (heap_alloc_new _ _) rfl)
    have HXL2 : Hid (Ext V12 V13) := Lib.hid (by rw [← hVk]; exact (by repeat (first | exact Ext.refl _ | refine Ext.alloc ?_ _ | refine Ext.more ?_ _ _ | refine Ext.drew ?_ | refine Ext.drewN ?_ _ | refine Ext.setCell ?_ (by simp <;> omega) _)))
    have HV13 : Hid (Ext L6 V13) := Lib.hid (HV12.out.trans HXL2.out)
    try simp only [hVk, hig]
    clear hVk hig
    (refine bt_step fun next hn => ?_); (simp only [pick, nthC])
    go_wp2_with fail
    refine (example26 _).mono ?_
    rintro e V14 ⟨xg, xp, rfl, hx, _, hS, hO⟩
    have HV14 : Hid (Ext L6 V14) := Lib.hid (HV13.out.trans hx)
    have HXB := Lib.hid hx
    have HXS := Lib.hid hS
    have HXO := Lib.hid hO
    clear hx hS hO
    go_wp2_with fail
    refine segQ_mk (fun _ => laid HV14.out) (hn _ _ ?_)
    clear hn next
    (refine bt_pures _ fun K hK => ?_); (simp only [pick, nthC]); (repeat (go_big_quiet_step (fail))); (refine wpQuiet_nil (hK _ ?_)); (clear hK K)
    obtain ⟨xb, xo, hxa, xl, hxc⟩ := (HXS.out.ext (Ext.refl _)) (by simp)
    injection hxa with hxa
    injection hxa with hxa1 hxa2
    subst hxa1 hxa2
    obtain ⟨x4, x5, x6, x7⟩ := hxc 1 ⟨0, some ⟨xp, 0, none⟩, 1, [1], 2, 1⟩ rfl
    simp at x4 x5 x6 x7
    (refine bt_step fun next hn => ?_); (simp only [pick, nthC])
    go_wp2_with fail
    refine segQ_mk (fun _ => laid HV14.out) (hn _ _ ?_)
    clear hn next x4 x5 x6 x7 hxc xl
    (refine bt_step fun next hn => ?_); (simp only [pick, nthC])
    go_wp2_with fail
    have HC := matches_any ⟨0, some ⟨xp, 0, none⟩, 1, [1], 2, 1⟩ 0 (some ⟨ig, 0, none⟩) [5, 1] 2 _ (HXO.out ⟨0, some ⟨xp, 0, none⟩, 1, [1], 2, 1⟩ (by simp)) (HIG.out.ext HXB.out) (by simp) (by simp)
    rw [show (decide ((⟨0, some ⟨xp, 0, none⟩, 1, [1], 2, 1⟩ : Sty).kind = 0) && endsB [5, 1] (⟨0, some ⟨xp, 0, none⟩, 1, [1], 2, 1⟩ : Sty).path) = true from rfl] at HC
    refine (HC).mono ?_
    rintro e V15 ⟨rfl, hx⟩
    have HV15 : Hid (Ext L6 V15) := Lib.hid (HV14.out.trans hx)
    clear hx
    go_wp2_with fail
    refine segQ_mk (fun _ => laid HV15.out) (hn _ _ ?_)
    clear hn next
    (refine bt_pures _ fun K hK => ?_); (simp only [pick, nthC]); (repeat (go_big_quiet_step (fail))); (refine wpQuiet_nil (hK _ ?_)); (clear hK K)
    (refine bt_step fun next hn => ?_); (simp only [pick, nthC])
    go_wp2_with fail
    refine (example26 _).mono ?_
    rintro e V16 ⟨xg, xp, rfl, hx, _, hS, hO⟩
    have HV16 : Hid (Ext L6 V16) := Lib.hid (HV15.out.trans hx)
    have HXB := Lib.hid hx
    have HXS := Lib.hid hS
    have HXO := Lib.hid hO
    clear hx hS hO
    go_wp2_with fail
    refine segQ_mk (fun _ => laid HV16.out) (hn _ _ ?_)
    clear hn next
    (refine bt_pures _ fun K hK => ?_); (simp only [pick, nthC]); (repeat (go_big_quiet_step (fail))); (refine wpQuiet_nil (hK _ ?_)); (clear hK K)
    obtain ⟨xb, xo, hxa, xl, hxc⟩ := (HXS.out.ext (Ext.refl _)) (by simp)
    injection hxa with hxa
    injection hxa with hxa1 hxa2
    subst hxa1 hxa2
    obtain ⟨x4, x5, x6, x7⟩ := hxc 1 ⟨0, some ⟨xp, 0, none⟩, 1, [1], 2, 1⟩ rfl
    simp at x4 x5 x6 x7
    (refine bt_step fun next hn => ?_); (simp only [pick, nthC])
    go_wp2_with fail
    refine segQ_mk (fun _ => laid HV16.out) (hn _ _ ?_)
    clear hn next x4 x5 x6 x7 hxc xl
    (refine bt_step fun next hn => ?_); (simp only [pick, nthC])
    go_wp2_with fail
    have HC := matches_any ⟨0, some ⟨xp, 0, none⟩, 1, [1], 2, 1⟩ 0 none [] 0 _ (HXO.out ⟨0, some ⟨xp, 0, none⟩, 1, [1], 2, 1⟩ (by simp)) (fun h0 => absurd h0 (by simp)) (by simp) (by simp)
    rw [show (decide ((⟨0, some ⟨xp, 0, none⟩, 1, [1], 2, 1⟩ : Sty).kind = 0) && endsB [] (⟨0, some ⟨xp, 0, none⟩, 1, [1], 2, 1⟩ : Sty).path) = false from rfl] at HC
    refine (HC).mono ?_
    rintro e V17 ⟨rfl, hx⟩
    have HV17 : Hid (Ext L6 V17) := Lib.hid (HV16.out.trans hx)
    clear hx
    go_wp2_with fail
    refine segQ_mk (fun _ => laid HV17.out) (hn _ _ ?_)
    clear hn next
    (refine bt_pures _ fun K hK => ?_); (simp only [pick, nthC]); (repeat (go_big_quiet_step (fail))); (refine wpQuiet_nil (hK _ ?_)); (clear hK K)
    (refine bt_step fun next hn => ?_); (simp only [pick, nthC])
    go_wp2_with fail
    refine (example26 _).mono ?_
    rintro e V18 ⟨xg, xp, rfl, hx, _, hS, hO⟩
    have HV18 : Hid (Ext L6 V18) := Lib.hid (HV17.out.trans hx)
    have HXB := Lib.hid hx
    have HXS := Lib.hid hS
    have HXO := Lib.hid hO
    clear hx hS hO
    go_wp2_with fail
    refine segQ_mk (fun _ => laid HV18.out) (hn _ _ ?_)
    clear hn next
    (refine bt_pures _ fun K hK => ?_); (simp only [pick, nthC]); (repeat (go_big_quiet_step (fail))); (refine wpQuiet_nil (hK _ ?_)); (clear hK K)
    obtain ⟨xb, xo, hxa, xl, hxc⟩ := (HXS.out.ext (Ext.refl _)) (by simp)
    injection hxa with hxa
    injection hxa with hxa1 hxa2
    subst hxa1 hxa2
    obtain ⟨x4, x5, x6, x7⟩ := hxc 0 ⟨0, none, 0, [], 1, 0⟩ rfl
    simp at x4 x5 x6 x7
    (refine bt_step fun next hn => ?_); (simp only [pick, nthC])
    go_wp2_with fail
    refine segQ_mk (fun _ => laid HV18.out) (hn _ _ ?_)
    clear hn next x4 x5 x6 x7 hxc xl
    (refine bt_step fun next hn => ?_); (simp only [pick, nthC])
    go_wp2_with fail
    have HC := matches_any ⟨0, none, 0, [], 1, 0⟩ 2 none [] 0 _ (HXO.out ⟨0, none, 0, [], 1, 0⟩ (by simp)) (fun h0 => absurd h0 (by simp)) (by simp) (by simp)
    rw [show (decide ((⟨0, none, 0, [], 1, 0⟩ : Sty).kind = 2) && endsB [] (⟨0, none, 0, [], 1, 0⟩ : Sty).path) = false from rfl] at HC
    refine (HC).mono ?_
    rintro e V19 ⟨rfl, hx⟩
    have HV19 : Hid (Ext L6 V19) := Lib.hid (HV18.out.trans hx)
    clear hx
    go_wp2_with fail
    refine segQ_mk (fun _ => laid HV19.out) (hn _ _ ?_)
    clear hn next
    (refine bt_pures _ fun K hK => ?_); (simp only [pick, nthC]); (repeat (go_big_quiet_step (fail))); (refine wpQuiet_nil (hK _ ?_)); (clear hK K)
    (refine bt_step fun next hn => ?_); (simp only [pick, nthC])
    go_wp2_with fail
    refine (example26 _).mono ?_
    rintro e V20 ⟨xg, xp, rfl, hx, _, hS, hO⟩
    have HV20 : Hid (Ext L6 V20) := Lib.hid (HV19.out.trans hx)
    have HXB := Lib.hid hx
    have HXS := Lib.hid hS
    have HXO := Lib.hid hO
    clear hx hS hO
    go_wp2_with fail
    refine segQ_mk (fun _ => laid HV20.out) (hn _ _ ?_)
    clear hn next
    (refine bt_step fun next hn => ?_); (simp only [pick, nthC])
    go_wp2_with fail
    have HC := leaf26_yes (cs := 2) HXS.out HXO.out (by simp) (HPSL.out.ext HV20.out) (by rw [HND.out]; exact treeA1_tree) HP2'.out.1 (by rw [HP2'.out.2]; exact .inl rfl) (by rw [HND.out, HP2'.out.2]; exact treeA1_way)
    rw [HP2'.out.2, HTN.out] at HC
    rw [show styleF [⟨0, none, 0, [], 1, 0⟩, ⟨0, some ⟨xp, 0, none⟩, 1, [1], 2, 1⟩] (nd1 ⟨0, 3, 0, 0, 1, 2, []⟩).sym [-3, 1] = 2 from rfl] at HC
    refine (HC).mono ?_
    rintro e V21 ⟨rfl, hx⟩
    have HV21 : Hid (Ext L6 V21) := Lib.hid (HV20.out.trans hx)
    clear hx
    go_wp2_with fail
    refine segQ_mk (fun _ => laid HV21.out) (hn _ _ ?_)
    clear hn next
    (refine bt_pures _ fun K hK => ?_); (simp only [pick, nthC]); (repeat (go_big_quiet_step (fail))); (refine wpQuiet_nil (hK _ ?_)); (clear hK K)
    (refine bt_step fun next hn => ?_); (simp only [pick, nthC])
    go_wp2_with fail
    refine (example26 _).mono ?_
    rintro e V22 ⟨xg, xp, rfl, hx, _, hS, hO⟩
    have HV22 : Hid (Ext L6 V22) := Lib.hid (HV21.out.trans hx)
    have HXB := Lib.hid hx
    have HXS := Lib.hid hS
    have HXO := Lib.hid hO
    clear hx hS hO
    go_wp2_with fail
    refine segQ_mk (fun _ => laid HV22.out) (hn _ _ ?_)
    clear hn next
    (refine bt_step fun next hn => ?_); (simp only [pick, nthC])
    go_wp2_with fail
    have HC := leaf26_no 0 (.slice (some ⟨xg, 0, none⟩) 2 2) (HPSL.out.ext HV22.out) (by rw [HND.out]; exact treeA1_no)
    rw [HTN.out] at HC
    refine (HC).mono ?_
    rintro e V23 ⟨rfl, hx⟩
    have HV23 : Hid (Ext L6 V23) := Lib.hid (HV22.out.trans hx)
    clear hx
    go_wp2_with fail
    refine segQ_mk (fun _ => laid HV23.out) (hn _ _ ?_)
    clear hn next
    (refine bt_pures _ fun K hK => ?_); (simp only [pick, nthC]); (repeat (go_big_quiet_step (fail))); (refine wpQuiet_nil (hK _ ?_)); (clear hK K)
    (refine bt_step fun next hn => ?_); (simp only [pick, nthC])
    go_wp2_with fail
    refine (example26 _).mono ?_
    rintro e V24 ⟨xg, xp, rfl, hx, _, hS, hO⟩
    have HV24 : Hid (Ext L6 V24) := Lib.hid (HV23.out.trans hx)
    have HXB := Lib.hid hx
    have HXS := Lib.hid hS
    have HXO := Lib.hid hO
    clear hx hS hO
    go_wp2_with fail
    refine segQ_mk (fun _ => laid HV24.out) (hn _ _ ?_)
    clear hn next
    (refine bt_step fun next hn => ?_); (simp only [pick, nthC])
    go_wp2_with fail
    have HC := leaf26_no 0 (.slice (some ⟨xg, 0, none⟩) 2 2) (psNil V24) leafNil
    refine (HC).mono ?_
    rintro e V25 ⟨rfl, hx⟩
    have HV25 : Hid (Ext L6 V25) := Lib.hid (HV24.out.trans hx)
    clear hx
    go_wp2_with fail
    refine segQ_mk (fun _ => laid HV25.out) (hn _ _ ?_)
    clear hn next
    (refine bt_pures _ fun K hK => ?_); (simp only [pick, nthC]); (repeat (go_big_quiet_step (fail))); (refine wpQuiet_nil (hK _ ?_)); (clear hK K)
    (refine bt_fin ?_)
    go_wp2_with fail
    go_ret
    exact ⟨rfl, HX2.out.trans (HXL.out.trans HV25.out)⟩
end Go.Proofs.YthpmncdfaggkiaaGreat
namespace Go.Proofs.YthpmncdfaggkiaaGreat
open Go.ChangeShapes Go.WideShapes Go.ChangeAt Go.RowKit Go.Joins
set_option maxRecDepth 100000 in
theorem stylesNames_lifted (os : Os) (started : os.Started) (H : Type) (enc : TypeId × Value → H) :
    ReturnsInHanded {} Tryz.checked os 5 .any (Rows.stylesNamesSpec.pre6 enc Tryz.prog Tryz.f5 Rows.stylesNamesRow.domain false) (Rows.stylesNamesSpec.post enc Tryz.prog Tryz.f5 false true false false) := by
  refine law_lifted (fn := Tryz.f5) started (by kernel_rfl) Tryz.func5
    (ChangeSpec.witness6 (enc := enc) (C := Tryz.checked) false ⟨#[], #[], []⟩ 8 (by kernel_rfl) (by kernel_rfl) (by kernel_rfl) (by kernel_rfl))
    rfl (by kernel_rfl) Tryz.underlying4 (of_decide_eq_true (by kernel_rfl)) ?_ ?_
  · intro ds hl
    match ds, hl with
    | [], _ => rfl
  · intro W base args ds ps hval hA _
    have hp : Tryz.f5.params.toList = [] := by kernel_rfl
    rw [hp] at hA hval
    obtain ⟨hargs, rfl, rfl⟩ := trodAll_nil hA
    obtain rfl : args = #[] := by cases args; simp_all
    exact (stylesNames_any W).mono fun e w' ⟨he, hx⟩ => ⟨he, hx.below⟩
theorem stylesNames_holds : Rows.StylesNamesSaid :=
  OpenClaim.holds_of_wide 5 Tryz.f5 rfl rfl rfl rfl rfl rfl rfl ⟨rfl, rfl, rfl, rfl, rfl⟩ rfl rfl rfl rfl rfl (by kernel_rfl) Tryz.func5 (by kernel_rfl)
    (of_decide_eq_true (by kernel_rfl)) (by unfold Func.isWrapper; first | (rw [if_pos (by decide +kernel)]; kernel_rfl) | (rw [if_neg (by decide +kernel)]; exact ⟨rfl, rfl⟩))
    (fun os started H enc _ => stylesNames_lifted os started H enc)
#print axioms stylesNames_holds
end Go.Proofs.YthpmncdfaggkiaaGreat
