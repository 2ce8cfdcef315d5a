/- SpliceNames: the walk. -/
import Derived.Test.YtaffaeompdlecaaV6
import Derived.Test.YtaffaeompdlecaaV3
import Derived.WalkSpells
import Derived.WalkLawsBesides
import Derived.BigRegion
import Derived.Deep.RegionWith
import Derived.Deep.QuietTactic
import Derived.Deep.DeepCutAuto
import Derived.Deep.RegionHeld3
import Derived.Deep.RegionLaw
import Derived.BigQuiet
import Derived.Lib.Hide
namespace Go.Proofs.Ytaffaeompdlecaa
open Go.RowKit
attribute [local go_sem] more_drew more_drewN more_size more_cell more_frozen more_setCell drew_more drewN_more lt_add_r lt_add_r2 lt_add_r3 lt_add_r4 lt_add_r5 lt_add_r6 lt_add_r7 lt_add_r8 lt_add_r9 lt_add_r10 lt_self_r lt_self_r2

def jobA : Dty := ⟨1, 1, 2, 0, 0⟩
def jobB : Dty := ⟨2, 1, 3, 0, 0⟩
def job64 : Dty := ⟨64, 0, 0, 0, 0⟩
theorem jobA_yes : DoneOk (exT 6) (1 : Nat) jobA := by
  refine ⟨exT_tree 6, by decide, by decide, 1, 3, ⟨1, 2, 0, 0, 2, 3, [2], 0⟩, rfl, rfl, exT_part 6, by decide, by decide, fun n q hq ht => ?_⟩
  rcases get4 hq with ⟨rfl, rfl⟩ | ⟨rfl, rfl⟩ | ⟨rfl, rfl⟩ | ⟨rfl, rfl⟩
  · exact absurd ht (by decide)
  · exact absurd ht (by decide)
  · exact ⟨by omega, by omega⟩
  · exact absurd ht (by decide)
theorem jobA_no : ¬ DoneOk (exT 6) (3 : Nat) jobA := fun ⟨_, _, _, k, _, p, e, hp, _, h, _⟩ => by
  obtain rfl : k = 3 := by omega
  injection hp with hp
  subst hp
  exact absurd h (by decide)
theorem jobB_no : ¬ DoneOk (exT 6) (1 : Nat) jobB := fun ⟨_, _, _, k, _, p, e, hp, _, _, h, _⟩ => by
  obtain rfl : k = 1 := by omega
  injection hp with hp
  subst hp
  exact absurd h (by decide)
theorem job64_no : ¬ DoneOk (exT 6) (1 : Nat) job64 := fun ⟨_, h, _⟩ => absurd h (by decide)
/-- a tree that does not fit -/
def exBP (g h : Nat) : List Prt := [⟨⟨1, 2, 0, 0, 1, 3, [1], 0⟩, some ⟨h, 0, none⟩, 1⟩, ⟨⟨0, 3, 0, 0, 1, 3, [], 0⟩, none, 0⟩]
def exBB (h : Nat) : List Prt := [⟨⟨1, 2, 0, 0, 1, 3, [1], 0⟩, some ⟨h, 0, none⟩, 1⟩, ⟨⟨0, 3, 0, 0, 1, 3, [], 0⟩, none, 0⟩, ⟨⟨0, 3, 1, 1, 2, 3, [], 0⟩, none, 0⟩]
def exB : List Nd := [⟨1, 2, 0, 0, 1, 3, [1], 0⟩, ⟨0, 3, 0, 0, 1, 3, [], 0⟩]
theorem exBP_nds (g h : Nat) : nds (exBP g h) = exB := rfl
theorem exB_kc (j : Nat) : kc exB 0 j ≤ 1000000 := Nat.le_trans (kc_all exB j) (by decide)
theorem exB_no (m : Int) : ¬ FitsT (exT m) exB (1 : Nat) := fun ⟨_, _, j, p, q, e, hp, hq, _, _, _, h⟩ => by
  obtain rfl : j = 1 := by omega
  injection hp with hp
  injection hq with hq
  subst hp hq
  exact absurd h (by decide)
theorem exS_no0 (m : Int) : ¬ FitsT (exT m) exS (0 : Nat) := fun ⟨_, _, j, p, q, e, hp, hq, h, _⟩ => by
  obtain rfl : j = 0 := by omega
  injection hp with hp
  injection hq with hq
  subst hp hq
  exact absurd h (by decide)
theorem nil_no (s : List Nd) (i : Int) : ¬ FitsT [] s i := fun ⟨h, _⟩ => absurd h.pos (by decide)
theorem nil_tree : ¬ Tree (nds []) := fun T => absurd T.pos (by decide)
theorem nil_ps (w : World) : PS w none 0 [] := ⟨Prts.nil, fun p hp => (by cases hp), ⟨by decide, fun j => by unfold kc; simp [nds]⟩, Nat.le_refl _, by omega, fun _ => rfl⟩
theorem prts_prefix {w : World} {A : Option Addr} {ps qs : List Prt} (h : Prts w A (ps ++ qs)) : Prts w A ps := fun h0 => by
  obtain ⟨b, off, hA, hb, hc⟩ := h (by simp; omega)
  exact ⟨b, off, hA, hb, fun k p hk => hc k p (by rw [List.getElem?_append_left (List.getElem?_eq_some_iff.1 hk).1]; exact hk)⟩
theorem exBP_ps {W : World} {g h : Nat} (G1 : W.heap[g]? = some (.cells (pv (exBB h)).toArray 35)) (G0 : W.heap[h]? = some (.cells #[.int .i64 1] 3)) : PS W (some ⟨g, 0, none⟩) 3 (exBP g h) := by
  refine ⟨prts_prefix (qs := [⟨⟨0, 3, 1, 1, 2, 3, [], 0⟩, none, 0⟩]) (Prts.of_block G1 (by simp [exBB, exBP])), ?_, ⟨Nat.le_of_ble_eq_true rfl, exB_kc⟩, Nat.le_of_ble_eq_true rfl, by omega, nofun⟩
  intro p hp
  simp only [exBP, List.mem_cons, List.not_mem_nil, or_false] at hp
  rcases hp with rfl | rfl
  · exact PrtOk.lit (Ints.of_block G0 rfl) (Nat.le_of_ble_eq_true rfl) (Nat.le_of_ble_eq_true rfl) nofun rfl
  · exact PrtOk.lit Ints.nil (Nat.le_of_ble_eq_true rfl) (Nat.le_of_ble_eq_true rfl) (fun _ => rfl) rfl
set_option maxRecDepth 100000 in
set_option maxHeartbeats 4000000 in
theorem spliceNames_any (w : World) : Calls Try.prog 18 #[] w fun e w' => e = .returned (.bool true) ∧ Ext w w' := by
  go_enter Try.func18, Try.ntmps18
  go_wp2_with fail
  refine (example20_any w).mono ?_
  rintro e w1 ⟨rfl, G2, G0, G1, hx1⟩
  obtain ⟨b, hb⟩ : ∃ b, w.heap.size = b := ⟨_, rfl⟩
  rw [hb] at G0 G1 G2 ⊢
  have HG0 := Lib.hid G0
  have HG1 := Lib.hid G1
  have HG2 := Lib.hid G2
  have HX1 := Lib.hid hx1
  have HB := Lib.hid hb
  have k23 := cell_of_row _ _ 23 _ _ _ G2
  have l23 := lt_of_heap G2
  have f23 : w1.frozen? ⟨b + 1 + 1, 23, none⟩ = false := by simp [World.frozen?, G2]
  simp [pv, exTP, prtCells] at k23
  clear G0 G1 G2 hx1 hb
  go_upto_region 3 with fail
  obtain ⟨w2, hw2⟩ : ∃ w2, w1.setCell ⟨b + 1 + 1, 23, none⟩ (.int .u64 6) = w2 := ⟨_, rfl⟩
  have g0 : w2.heap[b]? = some (.cells #[.int .i64 1, .int .i64 3] 3) := by rw [← hw2]; simp [World.setCell, Array.getElem?_modify, HG0.out]
  have g1 : w2.heap[b + 1]? = some (.cells #[.int .i64 2] 3) := by rw [← hw2]; simp [World.setCell, Array.getElem?_modify, HG1.out]
  have g2 : w2.heap[b + 1 + 1]? = some (.cells (pv (exTP b 6)).toArray 35) := by rw [← hw2]; simp [World.setCell, Array.getElem?_modify, HG2.out]; rfl
  have PT : Hid (PS w2 (some ⟨b + 1 + 1, 0, none⟩) 4 (exTP b 6)) := Lib.hid (exTP_ps (by omega) g2 g0 g1)
  have X2 : Hid (Ext w w2) := Lib.hid (by
    rw [← hw2]
    exact HX1.out.setCell (by show _ ≤ b + 1 + 1; have := HB.out; omega) _)
  rw [hw2]
  clear hw2 k23 l23 f23 g0 g1 g2 HG0 HG1 HG2 HX1
  go_upto_region 4 with fail
  obtain ⟨n, hn⟩ : ∃ n, w2.heap.size = n := ⟨_, rfl⟩
  obtain ⟨w3, hw3⟩ : ∃ w3, w2.alloc (.cells #[.int .i64 1, .int .i64 1, .int .i64 2, .int .i64 0, .int .i64 0, .int .i64 2, .int .i64 1, .int .i64 3, .int .i64 0, .int .i64 0] 82) = w3 := ⟨_, rfl⟩
  have X3 : Hid (Ext w2 w3) := Lib.hid (by rw [← hw3]; exact (by repeat (first | exact Ext.refl _ | refine Ext.alloc ?_ _ | refine Ext.more ?_ _ _ | refine Ext.drew ?_ | refine Ext.drewN ?_ _ | refine Ext.setCell ?_ (by simp <;> omega) _)))
  have J3 : Hid (w3.heap[n]? = some (.cells #[.int .i64 1, .int .i64 1, .int .i64 2, .int .i64 0, .int .i64 0, .int .i64 2, .int .i64 1, .int .i64 3, .int .i64 0, .int .i64 0] 82)) := Lib.hid (by rw [← hw3, ← hn]; exact heap_alloc_new _ _)
  rw [hw3, hn]
  clear hw3 hn
  go_wp2_with fail
  refine (sub20_any w3).mono ?_
  rintro e w4 ⟨rfl, s1, s0, hx4⟩
  obtain ⟨g, hg⟩ : ∃ g, w3.heap.size = g := ⟨_, rfl⟩
  rw [hg] at s1 s0 ⊢
  have PSS := Lib.hid (exSP_ps s1 s0)
  have X4 := Lib.hid hx4
  clear s1 s0 hx4 hg
  go_wp2_with fail
  refine (splice_yes (ps := exTP b 6) (ss := exSP g) ((1 : Nat) : Int) (some ⟨n, 0, none⟩) 2 [jobA, jobB] (PT.out.ext (X3.out.trans X4.out)) PSS.out (exT_fits 6) (JobsAt.of_block (ext_block J3.out X4.out) rfl) (by decide) (by decide)).mono ?_
  rintro e w5 ⟨k, m, us, u, fs, A, c, qs, D, d, hik, hp, hus, hu, hf, rfl, hn, ho, hi, hx⟩
  obtain rfl : k = 1 := by omega
  obtain rfl := (exT_part 6).det hp
  obtain rfl := exT_up hus hu
  obtain ⟨f1, f2, rfl⟩ : ∃ f1 f2, fs = [f1, f2] := by
    match fs, hf.1 with
    | [f1, f2], _ => exact ⟨f1, f2, rfl⟩
  obtain rfl : f1 = true := (hf.2 0 jobA f1 rfl rfl).2 jobA_yes
  obtain rfl : f2 = false := by
    cases f2 with
    | false => rfl
    | true => exact absurd ((hf.2 1 jobB true rfl rfl).1 rfl) jobB_no
  have hn' : nds qs = exO 4 := by rw [hn, exTP_nds, exSP_nds]; decide
  have hql : qs.length = 5 := by rw [← nds_length, hn']; rfl
  have X5 : Hid (Ext w3 w5) := Lib.hid (X4.out.trans hx)
  have HNO := Lib.hid hn'
  have HO := Lib.hid ho
  have HI := Lib.hid (show OwnI w5 w4.heap.size D d [1] from hi)
  have HQL := Lib.hid hql
  have hdl : (doneL [jobA, jobB] [true, false]).length = 1 := rfl
  rw [hql, hdl]
  clear hik hp hus hu hf hn ho hi hx hn' hql hdl
  go_wp2_with fail
  refine (sub20_any w5).mono ?_
  rintro e w6 ⟨rfl, s1, s0, hx6⟩
  obtain ⟨h, hh⟩ : ∃ h, w5.heap.size = h := ⟨_, rfl⟩
  rw [hh] at s1 s0 ⊢
  have k4 := cell_of_row _ _ 4 _ _ _ s1
  have k6 := cell_of_row _ _ 6 _ _ _ s1
  simp [pv, exSP, prtCells] at k4 k6
  have l6 := lt_of_heap s1
  have f4 : w6.frozen? ⟨h + 1, 4, none⟩ = false := by simp [World.frozen?, s1]
  have f6 : w6.frozen? ⟨h + 1, 6, none⟩ = false := by simp [World.frozen?, s1]
  have HS1 := Lib.hid s1
  have HH := Lib.hid hh
  have X6 := Lib.hid hx6
  clear s1 s0 hx6 hh
  go_upto_region 8 with fail
  obtain ⟨h2, hh2⟩ : ∃ h2, w6.heap.size = h2 := ⟨_, rfl⟩
  obtain ⟨w7, hw7⟩ : ∃ w7, ((w6.setCell ⟨h + 1, 4, none⟩ (.int .i64 1)).setCell ⟨h + 1, 6, none⟩ (.slice (some ⟨h2, 0, none⟩) 1 1)).alloc (.cells #[.int .i64 1] 3) = w7 := ⟨_, rfl⟩
  have hsz : ((w6.setCell ⟨h + 1, 4, none⟩ (.int .i64 1)).setCell ⟨h + 1, 6, none⟩ (.slice (some ⟨h2, 0, none⟩) 1 1)).heap.size = h2 := by simpa [World.setCell] using hh2
  have e0 : w7.heap[h2]? = some (.cells #[.int .i64 1] 3) := by
    rw [← hw7]
    have := heap_alloc_new ((w6.setCell ⟨h + 1, 4, none⟩ (.int .i64 1)).setCell ⟨h + 1, 6, none⟩ (.slice (some ⟨h2, 0, none⟩) 1 1)) (.cells #[.int .i64 1] 3)
    rwa [hsz] at this
  have e1 : w7.heap[h + 1]? = some (.cells (pv (exBB h2)).toArray 35) := by
    rw [← hw7]
    refine ext_block ?_ ((Ext.refl _).alloc _)
    simp [World.setCell, Array.getElem?_modify, HS1.out]
    rfl
  have X7 : Hid (Ext w5 w7) := Lib.hid (by
    rw [← hw7]
    have hb5 : w5.heap.size ≤ h + 1 := by have := HH.out; omega
    exact (((X6.out.setCell hb5 _).setCell hb5 _).alloc _))
  have PB : Hid (PS w7 (some ⟨h + 1, 0, none⟩) 3 (exBP (h + 1) h2)) := Lib.hid (exBP_ps e1 e0)
  rw [hh2, hw7]
  clear e0 e1 hh2 hw7 hsz k4 k6 l6 f4 f6 HS1
  have XT7 : Hid (Ext w2 w7) := Lib.hid (X3.out.trans (X5.out.trans X7.out))
  go_wp2_with fail
  refine (splice_no (ps := exTP b 6) (ss := exBP (h + 1) h2) ((1 : Nat) : Int) (.slice none 0 0) (PT.out.ext XT7.out) PB.out (exB_no 6)).mono ?_
  rintro e w8 ⟨rfl, hx8⟩
  have X8 := Lib.hid hx8
  clear hx8
  go_wp2_with fail
  refine (sub20_any w8).mono ?_
  rintro e w9 ⟨rfl, s1, s0, hx9⟩
  have P9 := Lib.hid (exSP_ps s1 s0)
  have X9 := Lib.hid (X8.out.trans hx9)
  clear s1 s0 hx9
  go_wp2_with fail
  refine (splice_no (ps := []) (ss := exSP w8.heap.size) ((0 : Nat) : Int) (.slice none 0 0) (nil_ps w9) P9.out (nil_no _ _)).mono ?_
  rintro e w10 ⟨rfl, hx10⟩
  have X10 := Lib.hid (X9.out.trans hx10)
  clear hx10
  go_wp2_with fail
  refine (give_any (some ⟨b + 1 + 1, 0, none⟩) 4 (exTP b 6) 1 5 w10 (PT.out.ext (XT7.out.trans X10.out))).mono ?_
  rintro e w11 ⟨A11, c11, xs, rfl, hnx, hox, hx11⟩
  have hxl : xs.length = 4 := by rw [← nds_length, hnx]; rfl
  have X11 := Lib.hid (X10.out.trans hx11)
  have HNX := Lib.hid hnx
  have HOX := Lib.hid hox
  have HXL := Lib.hid hxl
  rw [hxl]
  clear hnx hox hx11 hxl
  go_wp2_with fail
  refine (clear_any (some ⟨b + 1 + 1, 0, none⟩) 4 (exTP b 6) 1 w11 (PT.out.ext (XT7.out.trans X11.out))).mono ?_
  rintro e w12 ⟨A12, c12, ys, rfl, hny, hoy, hx12⟩
  have hyl : ys.length = 4 := by rw [← nds_length, hny]; rfl
  have X12 := Lib.hid (X11.out.trans hx12)
  have HOX2 := Lib.hid (HOX.out.ext hx12)
  have HNY := Lib.hid hny
  have HOY := Lib.hid hoy
  have HYL := Lib.hid hyl
  rw [hyl]
  clear hny hoy hx12 hyl HOX
  go_upto_region 14 with fail
  simp only [List.append_eq, List.cons_append, List.nil_append]
  -- what is read at the end, whatever was made meanwhile
  have OX : Hid (∀ V, Ext w12 V → Ext w5 V) := Lib.hid fun V x => X7.out.trans (X12.out.trans x)
  have TX : Hid (∀ V, Ext w12 V → PS V (some ⟨b + 1 + 1, 0, none⟩) 4 (exTP b 6)) := Lib.hid fun V x => PT.out.ext (XT7.out.trans (X12.out.trans x))
  obtain ⟨o0, p0, ha0⟩ : ∃ b9 off9, A = some ⟨b9, off9, none⟩ := by
    obtain ⟨b9, off9, hA, _⟩ := HO.out.cells.1 (by rw [HQL.out]; omega)
    exact ⟨b9, off9, hA⟩
  obtain ⟨o1, p1, ha1⟩ : ∃ b9 off9, A11 = some ⟨b9, off9, none⟩ := by
    obtain ⟨b9, off9, hA, _⟩ := HOX2.out.cells.1 (by rw [HXL.out]; omega)
    exact ⟨b9, off9, hA⟩
  obtain ⟨o2, p2, ha2⟩ : ∃ b9 off9, A12 = some ⟨b9, off9, none⟩ := by
    obtain ⟨b9, off9, hA, _⟩ := HOY.out.cells.1 (by rw [HYL.out]; omega)
    exact ⟨b9, off9, hA⟩
  subst ha0 ha1 ha2
  have met_at : ∀ {V : World} {o p cc base : Nat} {rs : List Prt} {l : List Nd} (i : Nat) {nd : Nd}, OwnP V base (some ⟨o, p, none⟩) cc rs → nds rs = l → l[i]? = some nd → V.cell? ⟨o, p + i * 8 + 7, none⟩ = some (.int .u64 nd.met) ∧ o < V.heap.size := by
    intro V o p cc base rs l i nd ho hl hi
    obtain ⟨q, hq, rfl⟩ := nds_get' (hl.symm ▸ hi)
    obtain ⟨b9, off9, hA, hb9, hc9⟩ := ho.cells.1 (by have := (List.getElem?_eq_some_iff.1 hq).1; omega)
    injection hA with hA
    injection hA with e1 e2
    subst e1 e2
    exact ⟨(hc9 i q hq).2.2.2.2.2.2.2, hb9⟩
  have RD : Hid (∀ V, Ext w12 V → (V.cell? ⟨o0, p0 + 7, none⟩ = some (.int .u64 4) ∧ o0 < V.heap.size) ∧ (V.cell? ⟨o1, p1 + 2 * 8 + 7, none⟩ = some (.int .u64 36) ∧ o1 < V.heap.size) ∧ (V.cell? ⟨o2, p2 + 2 * 8 + 7, none⟩ = some (.int .u64 4) ∧ o2 < V.heap.size)) := Lib.hid fun V x => by
    refine ⟨?_, ?_, ?_⟩
    · have := met_at 0 (HO.out.ext (OX.out V x)) HNO.out (show (exO 4)[0]? = some _ from rfl)
      simpa using this
    · exact met_at 2 (HOX2.out.ext x) HNX.out (show ((nds (exTP b 6)).map (Nd.mets (giveF 1 5)))[2]? = some ⟨0, 3, 0, 0, 2, 3, [], 36⟩ from by rw [exTP_nds]; decide)
    · exact met_at 2 (HOY.out.ext x) HNY.out (show ((nds (exTP b 6)).map (Nd.mets (clearF 1)))[2]? = some ⟨0, 3, 0, 0, 2, 3, [], 4⟩ from by rw [exTP_nds]; decide)
  have JB : Hid (∀ V, Ext w12 V → V.cell? ⟨n, 0, none⟩ = some (.int .i64 1) ∧ V.cell? ⟨n, 1, none⟩ = some (.int .i64 1) ∧ V.cell? ⟨n, 2, none⟩ = some (.int .i64 2) ∧ V.cell? ⟨n, 3, none⟩ = some (.int .i64 0) ∧ V.cell? ⟨n, 4, none⟩ = some (.int .i64 0) ∧ n < V.heap.size) := Lib.hid fun V x => by
    have hb := ext_block J3.out (X5.out.trans (OX.out V x))
    exact ⟨by simpa using cell_of_row _ _ 0 _ _ _ hb, by simpa using cell_of_row _ _ 1 _ _ _ hb, by simpa using cell_of_row _ _ 2 _ _ _ hb, by simpa using cell_of_row _ _ 3 _ _ _ hb, by simpa using cell_of_row _ _ 4 _ _ _ hb, lt_of_heap hb⟩
  clear met_at
  go_wp2_with fail
  refine (lives20_any w12).mono ?_
  rintro e w13 ⟨rfl, hx13⟩
  have X13 := Lib.hid hx13
  clear hx13
  go_wp2_with fail
  refine (same_any D _ [1] [1] d 1 _ ((HI.out.ints.1.ext (OX.out _ X13.out)).ext (by repeat (first | exact Ext.refl _ | refine Ext.alloc ?_ _ | refine Ext.more ?_ _ _ | refine Ext.drew ?_ | refine Ext.drewN ?_ _ | refine Ext.setCell ?_ (by simp <;> omega) _))) (Ints.of_block (heap_alloc_new w13 _) rfl) (by decide) (by decide)).mono ?_
  rintro e w14 ⟨rfl, hx14⟩
  have X14 := Lib.hid ((X13.out.alloc _).trans hx14)
  clear hx14
  obtain ⟨⟨r0, rl0⟩, _, _⟩ := RD.out _ X14.out
  go_wp2_with fail
  refine (sub20_any w14).mono ?_
  rintro e w15 ⟨rfl, s1, s0, hx15⟩
  have P15 := Lib.hid (exSP_ps s1 s0)
  have X15 := Lib.hid (X14.out.trans hx15)
  clear s1 s0 hx15 r0 rl0
  go_wp2_with fail
  refine (fits_any (ps := exTP b 6) (ss := exSP w14.heap.size) ((1 : Nat) : Int) (TX.out _ X15.out) P15.out).mono ?_
  rintro e w16 ⟨b1, rfl, hb1, hx16⟩
  obtain rfl := hb1.2 (exT_fits 6)
  have X16 := Lib.hid (X15.out.trans hx16)
  clear hb1 hx16
  go_wp2_with fail
  refine (sub20_any w16).mono ?_
  rintro e w17 ⟨rfl, s1, s0, hx17⟩
  have P17 := Lib.hid (exSP_ps s1 s0)
  have X17 := Lib.hid (X16.out.trans hx17)
  clear s1 s0 hx17
  go_wp2_with fail
  refine (fits_any (ps := exTP b 6) (ss := exSP w16.heap.size) ((0 : Nat) : Int) (TX.out _ X17.out) P17.out).mono ?_
  rintro e w18 ⟨b1, rfl, hb1, hx18⟩
  obtain rfl : b1 = false := by
    cases b1 with
    | false => rfl
    | true => exact absurd (hb1.1 rfl) (exS_no0 6)
  have X18 := Lib.hid (X17.out.trans hx18)
  clear hb1 hx18
  go_wp2_with fail
  refine (fits_any (ps := exTP b 6) (ss := exBP (h + 1) h2) ((1 : Nat) : Int) (TX.out _ X18.out) (PB.out.ext (X12.out.trans X18.out))).mono ?_
  rintro e w19 ⟨b1, rfl, hb1, hx19⟩
  obtain rfl : b1 = false := by
    cases b1 with
    | false => rfl
    | true => exact absurd (hb1.1 rfl) (exB_no 6)
  have X19 := Lib.hid (X18.out.trans hx19)
  clear hb1 hx19
  obtain ⟨_, ⟨r1, rl1⟩, ⟨r2, rl2⟩⟩ := RD.out _ X19.out
  go_wp2_with fail
  refine (Bits_yes (ps := exTP b 6) (TX.out _ X19.out) (exT_tree 6)).mono ?_
  rintro e w20 ⟨rfl, hx20⟩
  have hb6 : bitsF (nds (exTP b 6)) = 6 := by rw [exTP_nds]; decide
  rw [hb6]
  have X20 := Lib.hid (X19.out.trans hx20)
  clear hx20 hb6 r1 rl1 r2 rl2
  go_wp2_with fail
  refine (Bits_no (ps := []) (nil_ps w20) nil_tree).mono ?_
  rintro e w21 ⟨rfl, hx21⟩
  have X21 := Lib.hid (X20.out.trans hx21)
  clear hx21
  obtain ⟨j0, j1, j2, j3, j4, jl⟩ := JB.out _ X21.out
  go_wp2_with fail
  refine (done_any (ps := exTP b 6) ((1 : Nat) : Int) jobA (TX.out _ X21.out)).mono ?_
  rintro e w22 ⟨b1, rfl, hb1, hx22⟩
  obtain rfl := hb1.2 jobA_yes
  have X22 := Lib.hid (X21.out.trans hx22)
  clear hb1 hx22 j0 j1 j2 j3 j4 jl
  obtain ⟨j0, j1, j2, j3, j4, jl⟩ := JB.out _ X22.out
  go_wp2_with fail
  refine (done_any (ps := exTP b 6) ((3 : Nat) : Int) jobA (TX.out _ X22.out)).mono ?_
  rintro e w23 ⟨b1, rfl, hb1, hx23⟩
  obtain rfl : b1 = false := by
    cases b1 with
    | false => rfl
    | true => exact absurd (hb1.1 rfl) jobA_no
  have X23 := Lib.hid (X22.out.trans hx23)
  clear hb1 hx23 j0 j1 j2 j3 j4 jl
  go_wp2_with fail
  refine (done_any (ps := exTP b 6) ((1 : Nat) : Int) job64 (TX.out _ X23.out)).mono ?_
  rintro e w24 ⟨b1, rfl, hb1, hx24⟩
  obtain rfl : b1 = false := by
    cases b1 with
    | false => rfl
    | true => exact absurd (hb1.1 rfl) job64_no
  have X24 := Lib.hid (X23.out.trans hx24)
  clear hb1 hx24
  go_wp2_with fail
  go_ret
  exact ⟨rfl, X2.out.trans (X3.out.trans (X5.out.trans (OX.out _ X24.out)))⟩
end Go.Proofs.Ytaffaeompdlecaa
