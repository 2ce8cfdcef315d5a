/- Sn: texts that the proof rests on, part 11. -/
import Derived.Test.YthpmncdfaggkiaaGreatSn1
import Derived.Test.YthpmncdfaggkiaaGreatSn10
import Derived.WalkSpells
import Derived.WalkLawsBesides
import Derived.BigRegion
import Derived.Deep.RegionWith
import Derived.Deep.QuietTactic
import Derived.Deep.DeepCutAuto
import Derived.Deep.RegionHeld3
import Derived.Deep.RegionLaw
import Derived.BigQuiet
import Derived.Lib.Hide
import Derived.WalkKit
import Derived.Test.YthpmncdfaggkiaaGreatRows
/- Lang.tree of the language of words: at the end, at a word. -/
namespace Go.Proofs.YthpmncdfaggkiaaGreat
open Go.RowKit
attribute [local go_sem] more_drew more_drewN more_size more_cell more_frozen more_setCell drew_more drewN_more lt_add_r lt_add_r2 lt_add_r3 lt_add_r4 lt_add_r5 lt_add_r6 lt_add_r7 lt_add_r8 lt_add_r9 lt_add_r10 lt_self_r lt_self_r2
def setHi (x : Int) : List Sh → List Sh
  | [] => []
  | a :: r => { a with hi := x } :: r
/-- a nonterminal's part at a place -/
def S0 (p : Nat) (look : Int) : Sh := ⟨1, 2, p, p, p, look, []⟩
theorem RowA.base {w : World} {base base' : Nat} {v : Value} {ps : List Pt} (h : RowA w base v ps) (hb : base' ≤ base) : RowA w base' v ps :=
  ⟨⟨h.own.1, h.own.2.imp id fun ⟨g, cap, cur, h1, h2, h3⟩ => ⟨g, cap, cur, h1, Nat.le_trans hb h2, h3⟩⟩, h.kids⟩
/-- a row's first part -/
theorem RowA.head {w : World} {base : Nat} {v : Value} {rs : List Pt} {a : Sh} {r : List Sh} (h : RowA w base v rs) (hs : shs rs = a :: r) : ∃ g n c p, v = .slice (some ⟨g, 0, none⟩) n c ∧ n = rs.length ∧ 0 < n ∧ rs[0]? = some p ∧ p.nd = a ∧ base ≤ g ∧ g < w.heap.size ∧ (∃ cs, w.heap[g]? = some (.cells cs 34)) ∧ CellsA w g 0 p := by
  obtain ⟨A, c, rfl⟩ := h.len
  have hl : 0 < rs.length := by
    have : (shs rs).length = (a :: r).length := by rw [hs]
    simp [shs] at this
    omega
  obtain ⟨g, rfl, h1, h2, h3⟩ := h.block hl
  obtain ⟨p, hp⟩ : ∃ p, rs[0]? = some p := ⟨_, List.getElem?_eq_getElem hl⟩
  have hC := h.at_ rfl hp
  rw [Nat.zero_mul] at hC
  refine ⟨g, rs.length, c, p, rfl, rfl, hl, hp, ?_, h1, h2, h3, hC⟩
  have : (shs rs)[0]? = some a := by rw [hs]; rfl
  unfold shs at this
  rw [List.getElem?_map, hp] at this
  injection this
theorem RowA.setHi {w W : World} {base g n c : Nat} {rs : List Pt} {p : Pt} {x : Int} (h : RowA w base (.slice (some ⟨g, 0, none⟩) n c) rs) (hn : n = rs.length) (hp : rs[0]? = some p) (hW : w.setCell ⟨g, 4, none⟩ (.int .i64 x) = W) : ∃ rs', RowA W base (.slice (some ⟨g, 0, none⟩) n c) rs' ∧ shs rs' = Go.Proofs.YthpmncdfaggkiaaGreat.setHi x (shs rs) ∧ rs'.length = rs.length := by
  have hk := h.kids p (List.mem_of_getElem? hp)
  have := h.store (i := 0) (r := 4) (q' := { p with nd := { p.nd with hi := x } }) (u := .int .i64 x) hn hp (by omega) rfl ⟨hk.ints, hk.cap, hk.top, hk.nil, hk.typ⟩
  rw [Nat.zero_mul, Nat.zero_add, hW] at this
  refine ⟨_, this, ?_, List.length_set ..⟩
  cases rs with
  | nil => simp at hp
  | cons a r =>
    simp at hp
    subst hp
    rfl
theorem RowA.setLook {w W : World} {base g n c : Nat} {rs : List Pt} {p : Pt} {x : Int} (h : RowA w base (.slice (some ⟨g, 0, none⟩) n c) rs) (hn : n = rs.length) (hp : rs[0]? = some p) (hW : w.setCell ⟨g, 5, none⟩ (.int .i64 x) = W) : ∃ rs', RowA W base (.slice (some ⟨g, 0, none⟩) n c) rs' ∧ (∀ a r, shs rs = a :: r → shs rs' = { a with look := x } :: r) ∧ rs'.length = rs.length := by
  have hk := h.kids p (List.mem_of_getElem? hp)
  have := h.store (i := 0) (r := 5) (q' := { p with nd := { p.nd with look := x } }) (u := .int .i64 x) hn hp (by omega) rfl ⟨hk.ints, hk.cap, hk.top, hk.nil, hk.typ⟩
  rw [Nat.zero_mul, Nat.zero_add, hW] at this
  refine ⟨_, this, fun a r h => ?_, List.length_set ..⟩
  cases rs with
  | nil => simp at hp
  | cons b r' =>
    simp at hp
    subst hp
    simp only [shs, List.map_cons, List.cons.injEq] at h
    obtain ⟨rfl, rfl⟩ := h
    rfl
theorem shs_length {rs : List Pt} {ts : List Sh} (h : shs rs = ts) : rs.length = ts.length := by rw [← h]; simp [shs]
end Go.Proofs.YthpmncdfaggkiaaGreat
/- Lang.tree of the language of words: at a word. -/
namespace Go.Proofs.YthpmncdfaggkiaaGreat
open Go.RowKit
attribute [local go_sem] more_drew more_drewN more_size more_cell more_frozen more_setCell drew_more drewN_more lt_add_r lt_add_r2 lt_add_r3 lt_add_r4 lt_add_r5 lt_add_r6 lt_add_r7 lt_add_r8 lt_add_r9 lt_add_r10 lt_self_r lt_self_r2
/-- a tree is small -/
def TsOk (ts : List Sh) : Prop := ts.length ≤ 900 ∧ ∀ t ∈ ts, t.ks.length ≤ 900 ∧ ∀ k ∈ t.ks, 0 ≤ k ∧ k ≤ 900000
theorem TsOk.bound {ts us : List Sh} (h1 : TsOk ts) (h2 : TsOk us) {rs ss : List Pt} (e1 : shs rs = ts) (e2 : shs ss = us) : ∀ p ∈ rs ++ ss, p.nd.ks.length ≤ 1000 ∧ ∀ k ∈ p.nd.ks, 0 ≤ k ∧ k ≤ 1000000 := by
  intro p hp
  have : p.nd ∈ ts ∨ p.nd ∈ us := by
    rcases List.mem_append.1 hp with hp | hp
    · exact .inl (by rw [← e1]; exact List.mem_map_of_mem hp)
    · exact .inr (by rw [← e2]; exact List.mem_map_of_mem hp)
  have key : p.nd.ks.length ≤ 900 ∧ ∀ k ∈ p.nd.ks, 0 ≤ k ∧ k ≤ 900000 := by
    rcases this with h | h
    · exact h1.2 _ h
    · exact h2.2 _ h
  exact ⟨by omega, fun k hk => by have := key.2 k hk; omega⟩
theorem S0_ok (p : Nat) (mx : Int) : TsOk [S0 p mx] := ⟨by simp, fun t ht => by obtain rfl := List.mem_singleton.1 ht; simp [S0]⟩
theorem leaf_ok (k : Int) (p : Nat) (q : Int × Int × Int × Int) : TsOk [leafS k p q] := ⟨by simp, fun t ht => by obtain rfl := List.mem_singleton.1 ht; simp [leafS]⟩
/-- a word's tree, what is behind it not yet in it -/
def W1S (p p2 : Nat) (mx : Int) (q : Int × Int × Int × Int) : List Sh := [⟨1, 2, p, p, p2, mx, [1]⟩, leafS 3 p q]
theorem W1S_ok (p p2 : Nat) (mx : Int) (q : Int × Int × Int × Int) : TsOk (W1S p p2 mx q) := by
  refine ⟨by simp [W1S], fun t ht => ?_⟩
  simp only [W1S, List.mem_cons, List.not_mem_nil, or_false] at ht
  rcases ht with rfl | rfl
  · simp
  · simp [leafS]
set_option maxRecDepth 100000 in
set_option maxHeartbeats 2000000 in
theorem tree_word (lb : Nat) (s : ByteArray) (p p2 : Nat) (q : Int × Int × Int × Int) (ts : List Sh) (t0 : Sh) (tr : List Sh) (w : World) (h : LangRd w lb) (hp : p ≤ s.size) (hs : s.size ≤ 1000) (hq : tokF s p = q) (hk : q.1 = 0) (hq2 : q.2.2.1 = p2) (hts : ts = t0 :: tr) (hok : TsOk ts) (HT : ∀ w1, LangRd w1 lb → Calls Tryz.prog 64 #[.pointer (some ⟨lb, 0, none⟩), .string s, .int .i64 0, .int .i64 p2] w1 (TreeRet w1 ts)) : Calls Tryz.prog 64 #[.pointer (some ⟨lb, 0, none⟩), .string s, .int .i64 0, .int .i64 p] w (TreeRet w (setHi t0.hi (behindS (W1S p p2 (max (p : Int) q.2.2.2) q) ts))) := by
  obtain ⟨N0, c0, N1, c1, N2, c2, a, b, C, c, d, e, tg, tog, tc, xg, og, nb, nc, cl, hb, hl, hg, ht, hn'⟩ := lang_open h
  have HWN := Lib.hid (fun w1 (e1 : Ext w w1) => window_one _ _ _ _ _ _ 1 s p q w1 (hl.ext e1) lexok_words hp (by omega) hq (by rw [hk]; decide))
  rw [hk] at HWN
  rw [show rowF (0) = tx 0 from rfl] at HWN
  have HPR := Lib.hid (fun w1 (e1 : Ext w w1) => lang_predict lb (tx 0) w1 (h.ext e1))
  rw [show predF (tx 0) = 0 from rfl] at HPR
  obtain ⟨mx, hmx⟩ : ∃ m : Int, max (p : Int) q.2.2.2 = m := ⟨_, rfl⟩
  rw [hmx] at HWN
  have HMX := Lib.hid hmx
  have hm0 : (if (0 : Int) < mx then mx else 0) = mx := by
    have : (0 : Int) ≤ mx := by omega
    by_cases h0 : (0 : Int) < mx
    · rw [if_pos h0]
    · rw [if_neg h0]; omega
  have HM0 := Lib.hid hm0
  have HTK := Lib.hid (fun w1 (e1 : Ext w w1) => symbol_tok lb s p q w1 (h.ext e1) hp hs hq hk)
  have HTR := Lib.hid (fun w1 (e1 : Ext w w1) => symbol_tree lb s p2 ts w1 (h.ext e1) HT)
  have HQ2 := Lib.hid hq2
  have HTS := Lib.hid hts
  have HOK := Lib.hid hok
  have HB := Lib.hid (fun w1 (e1 : Ext w w1) => ext_block hb e1)
  have HLG := Lib.hid h
  have HGR := Lib.hid hg
  obtain ⟨ob, hob⟩ : ∃ b, w.heap.size = b := ⟨_, rfl⟩
  obtain ⟨W1, hW1⟩ : ∃ V, w.alloc (.cells #[.int .i64 1, .int .i64 2, .int .i64 p, .int .i64 p, .int .i64 p, .int .i64 0, nil0, .int .u64 0] 34) = V := ⟨_, rfl⟩
  have HR1 : Hid (RowA W1 w.heap.size (.slice (some ⟨ob, 0, none⟩) 1 1) [⟨S0 p 0, none, 0⟩]) := Lib.hid (by rw [← hW1, ← hob]; exact row_lit w w.heap.size (Nat.le_refl _) (S0 p 0) rfl)
  have HX1 : Hid (Ext w W1) := Lib.hid (by rw [← hW1]; exact (by repeat (first | exact Ext.refl _ | refine Ext.alloc ?_ _ | refine Ext.more ?_ _ _ | refine Ext.drew ?_ | refine Ext.drewN ?_ _ | refine Ext.setCell ?_ (by simp <;> omega) _)))
  have HOB : Hid (w.heap.size = ob) := Lib.hid hob
  have k4 := cell_of_row _ _ 4 _ _ _ hb
  have kl := lt_of_heap hb
  simp at k4
  unfold lexV at HWN
  clear HT hq2 hts hok h hl hg ht hn' hb hq hmx hm0
  go_enter Tryz.func64, Tryz.ntmps64
  go_upto_region 2 with fail
  try simp only [hob]
  try simp only [hW1]
  clear hob hW1 k4 kl
  refine wp_loop_rounds 1 ?_
  rw [rounds_succ]
  have hb1 := HB.out W1 HX1.out
  have k0 := cell_of_row _ _ 0 _ _ _ hb1
  have k1 := cell_of_row _ _ 1 _ _ _ hb1
  have k2 := cell_of_row _ _ 2 _ _ _ hb1
  have k3 := cell_of_row _ _ 3 _ _ _ hb1
  have k6 := cell_of_row _ _ 6 _ _ _ hb1
  have kl := lt_of_heap hb1
  simp at k0 k1 k2 k3 k6
  obtain ⟨_, _, _, _, d4, d5, _, _, dl, df⟩ := HR1.out.at_ rfl (i := 0) rfl
  simp [S0] at d4 d5
  go_upto_region 2 with fail
  refine wp_region_bt (22) (pures_bt [0, 1, 2, 4, 5, 6, 7, 9, 10, 11, 12] (softs_bt [3, 8, 13] (.step 14 (pures_bt [15, 16, 17, 18, 19, 20, 21] .fin)))) (by kernel_rfl) (by kernel_rfl) ?_
  (refine bt_pures _ fun K hK => ?_); (simp only [pick, nthC]); (repeat (go_big_quiet_step (fail))); (refine wpQuiet_nil (hK _ ?_)); (clear hK K)
  (refine bt_softs _ fun K hK => ?_); (simp only [pick, nthC]); (repeat (go_big_quiet_step (fail))); (refine wpQuiet_nil (hK _ ?_)); (clear hK K)
  (refine bt_step fun next hn => ?_); (simp only [pick, nthC])
  go_wp2_with fail
  refine (HWN.out _ (HX1.out.trans (by repeat (first | exact Ext.refl _ | refine Ext.alloc ?_ _ | refine Ext.more ?_ _ _ | refine Ext.drew ?_ | refine Ext.drewN ?_ _ | refine Ext.setCell ?_ (by simp <;> omega) _)))).mono ?_
  rintro e' W2 ⟨rfl, hx2⟩
  have HY2 : Hid (Ext W1 W2) := Lib.hid (Ext.trans (by repeat (first | exact Ext.refl _ | refine Ext.alloc ?_ _ | refine Ext.more ?_ _ _ | refine Ext.drew ?_ | refine Ext.drewN ?_ _ | refine Ext.setCell ?_ (by simp <;> omega) _)) hx2)
  clear hx2 HWN hb1 k0 k1 k2 k3 k6 kl d4 d5 dl df
  go_wp2_with fail
  refine segQ_mk (fun _ => laid HY2.out) (hn _ _ ?_)
  clear hn next
  (refine bt_pures _ fun K hK => ?_); (simp only [pick, nthC]); (repeat (go_big_quiet_step (fail))); (refine wpQuiet_nil (hK _ ?_)); (clear hK K)
  (refine bt_fin ?_)
  have HR2 := Lib.hid (HR1.out.ext HY2.out)
  obtain ⟨_, _, _, _, d4, d5, _, _, dl, df⟩ := HR2.out.at_ rfl (i := 0) rfl
  simp [S0] at d5
  have df5 := df 5
  have hm0 := HM0.out
  obtain ⟨W3, hW3⟩ : ∃ V, W2.setCell ⟨ob, 5, none⟩ (.int .i64 mx) = V := ⟨_, rfl⟩
  obtain ⟨rs3, hr3, hs3, hl3⟩ := HR2.out.setLook rfl rfl hW3
  have hs3 := hs3 (S0 p 0) [] rfl
  have HR3 : Hid (RowA W3 w.heap.size (.slice (some ⟨ob, 0, none⟩) 1 1) rs3) := Lib.hid hr3
  have HS3 : Hid (shs rs3 = [S0 p mx]) := Lib.hid hs3
  have HX3 : Hid (Ext w W3) := Lib.hid (by rw [← hW3]; exact (HX1.out.trans HY2.out).setCell (by show _ ≤ ob; have := HOB.out; omega) _)
  go_upto_region 4 with fail
  try simp only [hW3]
  clear hW3 d4 d5 dl df df5 hm0 hr3 hs3 hl3 HR1 HR2 HY2
  go_wp2_with fail
  refine (HPR.out _ HX3.out).mono ?_
  rintro e' W4 ⟨rfl, hx4⟩
  have HX4 := Lib.hid (HX3.out.trans hx4)
  have HR4 := Lib.hid (HR3.out.ext hx4)
  have hb4 := HB.out W4 HX4.out
  have k7 := cell_of_row _ _ 7 _ _ _ hb4
  have kl := lt_of_heap hb4
  simp at k7
  obtain ⟨p0, p1, p2, p3, lp, r0, r1, lr⟩ := HGR.out.ext HX4.out
  clear hx4 HPR hb4 HR3 HX3
  clear k7 kl p0 p1 p2 p3 lp r0 r1 lr
  have HS4 := HS3
  have hb4 := HB.out W4 HX4.out
  have k7 := cell_of_row _ _ 7 _ _ _ hb4
  have kl := lt_of_heap hb4
  simp at k7
  obtain ⟨p0, p1, p2', p3, lp, r0, r1, lr⟩ := HGR.out.ext HX4.out
  clear hb4
  obtain ⟨rs4, hrs4⟩ : ∃ l, rs3 = l := ⟨_, rfl⟩
  rw [hrs4] at HR4 HS4
  clear hrs4 HS3
  go_wp2_with fail
  clear k7 kl p0 p1 p2' p3 lp r0 r1 lr
  refine wp_loop_rounds 3 ?_
  rw [rounds_succ]
  obtain ⟨p0, p1, p2', p3, lp, r0, r1, lr⟩ := HGR.out.ext HX4.out
  obtain ⟨g, m, cc, pp, hv, hm, hm0, hpp, hpn, hgb, hgl, hgt, hC⟩ := HR4.out.head (HS4.out.trans rfl)
  injection hv with hv1 hv2 hv3
  injection hv1 with hv1
  injection hv1 with hv1
  subst hv1 hv2 hv3
  have HGL : Hid (w.heap.size ≤ ob ∧ ob < W4.heap.size) := Lib.hid ⟨hgb, hgl⟩
  obtain ⟨_, _, _, _, d4, _, _, _, dl, df⟩ := hC
  rw [hpn] at d4
  simp [S0] at d4
  clear hm hpp hpn hgb hgl hgt
  go_upto_region 10 with fail
  refine wp_region_bt (12) (pures_bt [0, 1, 2, 3, 4, 6, 7, 8] (softs_bt [5, 9] (.step 10 (pures_bt [11] .fin)))) (by kernel_rfl) (by kernel_rfl) ?_
  (refine bt_pures _ fun K hK => ?_); (simp only [pick, nthC]); (repeat (go_big_quiet_step (fail))); (refine wpQuiet_nil (hK _ ?_)); (clear hK K)
  (refine bt_softs _ fun K hK => ?_); (simp only [pick, nthC]); (repeat (go_big_quiet_step (fail))); (refine wpQuiet_nil (hK _ ?_)); (clear hK K)
  (refine bt_step fun next hn => ?_); (simp only [pick, nthC])
  go_wp2_with fail
  refine (HTK.out _ (HX4.out.trans (by repeat (first | exact Ext.refl _ | refine Ext.alloc ?_ _ | refine Ext.more ?_ _ _ | refine Ext.drew ?_ | refine Ext.drewN ?_ _ | refine Ext.setCell ?_ (by simp <;> omega) _)))).mono ?_
  rintro e' U0 ⟨v0, ss0, rfl, hr, hsh, hxu⟩
  have HY : Hid (Ext W4 U0) := Lib.hid (Ext.trans (by repeat (first | exact Ext.refl _ | refine Ext.alloc ?_ _ | refine Ext.more ?_ _ _ | refine Ext.drew ?_ | refine Ext.drewN ?_ _ | refine Ext.setCell ?_ (by simp <;> omega) _)) hxu)
  have HXU := Lib.hid (HX4.out.trans HY.out)
  have HRU := Lib.hid (HR4.out.ext HY.out)
  obtain ⟨sg, sn, sc, sp, rfl, hsn, hsn0, hsp, hspn, hsb, hsl, hst, hCs⟩ := hr.head (hsh.trans rfl)
  have HRS := Lib.hid hr
  have HSS := Lib.hid hsh
  have HAP : Hid (Apart (.slice (some ⟨ob, 0, none⟩) 1 1) (.slice (some ⟨sg, 0, none⟩) sn sc)) := Lib.hid (fun g h1 h2 => by
    have e1 : ob = g := by injection h1
    have e2 : sg = g := by injection h2
    have h3 := HGL.out.2
    have h4 : W4.drew.heap.size = W4.heap.size := rfl
    omega)
  have HSN : Hid (sn = ss0.length ∧ 0 < sn) := Lib.hid ⟨hsn, hsn0⟩
  have HBH := Lib.hid (behind_any _ _ rs4 ss0 w U0 HRU.out (hr.base (by have := HX4.out.size; have h4 : W4.drew.heap.size = W4.heap.size := rfl; omega)) HAP.out (by rw [shs_length HS4.out]; simp) (by rw [← HSN.out.1]; exact HSN.out.2) (by have := shs_length HS4.out; have := (S0_ok p mx).1; omega) (by have := shs_length HSS.out; have := (leaf_ok 3 p q).1; omega) (TsOk.bound (S0_ok p mx) (leaf_ok 3 p q) HS4.out HSS.out) HXU.out)
  rw [HS4.out, HSS.out] at HBH
  obtain ⟨_, _, _, _, s4, _, _, _, sl, _⟩ := hCs
  rw [hspn] at s4
  simp [leafS] at s4
  rw [HQ2.out] at s4
  clear hr hsh hxu hsp hspn hsb hsl hst hsn
  go_wp2_with fail
  refine segQ_mk (fun _ => laid HY.out) (hn _ _ ?_)
  clear hn next p0 p1 p2' p3 lp r0 r1 lr d4 dl df
  (refine bt_pures _ fun K hK => ?_); (simp only [pick, nthC]); (repeat (go_big_quiet_step (fail))); (refine wpQuiet_nil (hK _ ?_)); (clear hK K)
  (refine bt_fin ?_)
  go_wp2_with fail
  refine HBH.out.mono ?_
  rintro e' T0 ⟨v0b, qs0, rfl, hr, hsh, htt, hxt⟩
  clear HBH s4 sl hsn0 hm0
  obtain ⟨g0, m0, cc0, pp, rfl, hm, hm0, hpp, hpn, hgb, hgl, hgt, hC⟩ := hr.head hsh
  have hgb' := hgb
  obtain ⟨_, _, _, _, d4, _, _, _, dl, df⟩ := hC
  have df4 := df 4
  simp at d4
  obtain ⟨W5, hW⟩ : ∃ V, T0.setCell ⟨g0, 4, none⟩ (.int .i64 (p2 : Int)) = V := ⟨_, rfl⟩
  obtain ⟨rs5, hr9, hs9, hl9⟩ := hr.setHi hm hpp hW
  have HR5 := Lib.hid hr9
  have HX5 : Hid (Ext w W5) := Lib.hid (by rw [← hW]; exact hxt.setCell hgb _)
  have HS5 : Hid (shs rs5 = setHi (p2 : Int) (behindS ([S0 p mx]) ([leafS 3 p q]))) := Lib.hid (by rw [hs9, hsh])
  clear hr hsh htt hxt hm hpp hpn hgb hgl hgt hr9 hs9 hl9 hgb'
  go_upto_region 9 with fail
  try simp only [hW]
  clear hW d4 dl df df4 HGL HY HXU HRU HRS HSS HAP HSN HR4 HX4 HS4
  go_wp2_with fail
  have HS5' : Hid (shs rs5 = W1S p p2 mx q) := Lib.hid (by rw [HS5.out]; rfl)
  clear HS5
  have HS5 := HS5'
  clear HS5'
  rw [rounds_succ]
  obtain ⟨p0, p1, p2', p3, lp, r0, r1, lr⟩ := HGR.out.ext HX5.out
  obtain ⟨g, m, cc, pp, hv, hm, hm0, hpp, hpn, hgb, hgl, hgt, hC⟩ := HR5.out.head (HS5.out.trans rfl)
  injection hv with hv1 hv2 hv3
  injection hv1 with hv1
  injection hv1 with hv1
  subst hv1 hv2 hv3
  have HGL : Hid (w.heap.size ≤ g0 ∧ g0 < W5.heap.size) := Lib.hid ⟨hgb, hgl⟩
  obtain ⟨_, _, _, _, d4, _, _, _, dl, df⟩ := hC
  rw [hpn] at d4
  simp  at d4
  clear hm hpp hpn hgb hgl hgt
  go_upto_region 10 with fail
  refine wp_region_bt (12) (pures_bt [0, 1, 2, 3, 4, 6, 7, 8] (softs_bt [5, 9] (.step 10 (pures_bt [11] .fin)))) (by kernel_rfl) (by kernel_rfl) ?_
  (refine bt_pures _ fun K hK => ?_); (simp only [pick, nthC]); (repeat (go_big_quiet_step (fail))); (refine wpQuiet_nil (hK _ ?_)); (clear hK K)
  (refine bt_softs _ fun K hK => ?_); (simp only [pick, nthC]); (repeat (go_big_quiet_step (fail))); (refine wpQuiet_nil (hK _ ?_)); (clear hK K)
  (refine bt_step fun next hn => ?_); (simp only [pick, nthC])
  go_wp2_with fail
  refine (HTR.out _ (HX5.out.trans (by repeat (first | exact Ext.refl _ | refine Ext.alloc ?_ _ | refine Ext.more ?_ _ _ | refine Ext.drew ?_ | refine Ext.drewN ?_ _ | refine Ext.setCell ?_ (by simp <;> omega) _)))).mono ?_
  rintro e' U1 ⟨v1, ss1, rfl, hr, hsh, hxu⟩
  have HY : Hid (Ext W5 U1) := Lib.hid (Ext.trans (by repeat (first | exact Ext.refl _ | refine Ext.alloc ?_ _ | refine Ext.more ?_ _ _ | refine Ext.drew ?_ | refine Ext.drewN ?_ _ | refine Ext.setCell ?_ (by simp <;> omega) _)) hxu)
  have HXU := Lib.hid (HX5.out.trans HY.out)
  have HRU := Lib.hid (HR5.out.ext HY.out)
  obtain ⟨sg, sn, sc, sp, rfl, hsn, hsn0, hsp, hspn, hsb, hsl, hst, hCs⟩ := hr.head (hsh.trans HTS.out)
  have HRS := Lib.hid hr
  have HSS := Lib.hid hsh
  have HAP : Hid (Apart (.slice (some ⟨g0, 0, none⟩) m0 cc0) (.slice (some ⟨sg, 0, none⟩) sn sc)) := Lib.hid (fun g h1 h2 => by
    have e1 : g0 = g := by injection h1
    have e2 : sg = g := by injection h2
    have h3 := HGL.out.2
    have h4 : W5.drew.heap.size = W5.heap.size := rfl
    omega)
  have HSN : Hid (sn = ss1.length ∧ 0 < sn) := Lib.hid ⟨hsn, hsn0⟩
  have HBH := Lib.hid (behind_any _ _ rs5 ss1 w U1 HRU.out (hr.base (by have := HX5.out.size; have h4 : W5.drew.heap.size = W5.heap.size := rfl; omega)) HAP.out (by rw [shs_length HS5.out]; simp [W1S]) (by rw [← HSN.out.1]; exact HSN.out.2) (by have := shs_length HS5.out; have := (W1S_ok p p2 mx q).1; omega) (by have := shs_length HSS.out; have := HOK.out.1; omega) (TsOk.bound (W1S_ok p p2 mx q) HOK.out HS5.out HSS.out) HXU.out)
  rw [HS5.out, HSS.out] at HBH
  obtain ⟨_, _, _, _, s4, _, _, _, sl, _⟩ := hCs
  rw [hspn] at s4
  simp at s4
  clear hr hsh hxu hsp hspn hsb hsl hst hsn
  go_wp2_with fail
  refine segQ_mk (fun _ => laid HY.out) (hn _ _ ?_)
  clear hn next p0 p1 p2' p3 lp r0 r1 lr d4 dl df
  (refine bt_pures _ fun K hK => ?_); (simp only [pick, nthC]); (repeat (go_big_quiet_step (fail))); (refine wpQuiet_nil (hK _ ?_)); (clear hK K)
  (refine bt_fin ?_)
  go_wp2_with fail
  refine HBH.out.mono ?_
  rintro e' T1 ⟨v1b, qs1, rfl, hr, hsh, htt, hxt⟩
  clear HBH s4 sl hsn0 hm0
  obtain ⟨g1, m1, cc1, pp, rfl, hm, hm0, hpp, hpn, hgb, hgl, hgt, hC⟩ := hr.head hsh
  have hgb' := hgb
  obtain ⟨_, _, _, _, d4, _, _, _, dl, df⟩ := hC
  have df4 := df 4
  simp at d4
  obtain ⟨W6, hW⟩ : ∃ V, T1.setCell ⟨g1, 4, none⟩ (.int .i64 t0.hi) = V := ⟨_, rfl⟩
  obtain ⟨rs6, hr9, hs9, hl9⟩ := hr.setHi hm hpp hW
  have HR6 := Lib.hid hr9
  have HX6 : Hid (Ext w W6) := Lib.hid (by rw [← hW]; exact hxt.setCell hgb _)
  have HS6 : Hid (shs rs6 = setHi t0.hi (behindS (W1S p p2 mx q) (ts))) := Lib.hid (by rw [hs9, hsh])
  clear hr hsh htt hxt hm hpp hpn hgb hgl hgt hr9 hs9 hl9 hgb'
  go_upto_region 9 with fail
  try simp only [hW]
  clear hW d4 dl df df4 HGL HY HXU HRU HRS HSS HAP HSN HR5 HX5 HS5
  go_wp2_with fail
  rw [rounds_succ]
  go_wp2_with fail
  go_ret
  exact ⟨_, rs6, rfl, HR6.out, by rw [HS6.out, HMX.out], HX6.out⟩
end Go.Proofs.YthpmncdfaggkiaaGreat
/- Lang.tree of the language of words: at a byte that begins no word, the end behind it. -/
namespace Go.Proofs.YthpmncdfaggkiaaGreat
open Go.RowKit
attribute [local go_sem] more_drew more_drewN more_size more_cell more_frozen more_setCell drew_more drewN_more lt_add_r lt_add_r2 lt_add_r3 lt_add_r4 lt_add_r5 lt_add_r6 lt_add_r7 lt_add_r8 lt_add_r9 lt_add_r10 lt_self_r lt_self_r2
set_option maxRecDepth 100000 in
set_option maxHeartbeats 1500000 in
theorem tree_bad_end (lb : Nat) (s : ByteArray) (p p2 : Nat) (q qe : Int × Int × Int × Int) (w : World) (h : LangRd w lb) (hp : p ≤ s.size) (hp2 : p2 ≤ s.size) (hs : s.size ≤ 1000) (hq : tokF s p = q) (hk : q.1 = -1) (hq2 : q.2.2.1 = p2) (hqe : tokF s p2 = qe) (hke : qe.1 = -2) : Calls Tryz.prog 64 #[.pointer (some ⟨lb, 0, none⟩), .string s, .int .i64 0, .int .i64 p] w (TreeRet w [⟨1, 2, p, p, p2, max (max (p : Int) q.2.2.2) (max (p2 : Int) qe.2.2.2), [1]⟩, leafS 5 p q]) := by
  obtain ⟨N0, c0, N1, c1, N2, c2, a, b, C, c, d, e, tg, tog, tc, xg, og, nb, nc, cl, hb, hl, hg, ht, hn'⟩ := lang_open h
  have HWN := Lib.hid (fun w1 (e1 : Ext w w1) => window_one _ _ _ _ _ _ 1 s p q w1 (hl.ext e1) lexok_words hp (by omega) hq (by rw [hk]; decide))
  rw [show q.1 = -1 from hk] at HWN
  rw [show rowF (-1) = tx 254 from rfl] at HWN
  have HPR := Lib.hid (fun w1 (e1 : Ext w w1) => lang_predict lb (tx 254) w1 (h.ext e1))
  rw [show predF (tx 254) = (-1) from rfl] at HPR
  obtain ⟨mx, hmx⟩ : ∃ m : Int, max (p : Int) q.2.2.2 = m := ⟨_, rfl⟩
  rw [hmx] at HWN
  have HMX := Lib.hid hmx
  have hm0 : (if (0 : Int) < mx then mx else 0) = mx := by
    have : (0 : Int) ≤ mx := by omega
    by_cases h0 : (0 : Int) < mx
    · rw [if_pos h0]
    · rw [if_neg h0]; omega
  have HM0 := Lib.hid hm0
  have HWE := Lib.hid (fun w1 (e1 : Ext w w1) => window_one _ _ _ _ _ _ 1 s p2 qe w1 (hl.ext e1) lexok_words hp2 (by omega) hqe (by rw [hke]; decide))
  rw [hke] at HWE
  rw [show rowF (-2) = tx 255 from rfl] at HWE
  have HPE := Lib.hid (fun w1 (e1 : Ext w w1) => lang_predict lb (tx 255) w1 (h.ext e1))
  rw [show predF (tx 255) = 1 from rfl] at HPE
  have HNX := Lib.hid (fun w1 (e1 : Ext w w1) => tok_Next _ _ _ _ _ _ 1 s p w1 (hl.ext e1) lexok_words hp (by omega))
  rw [show nextF wordN wordR [0, -1] s p = q from hq] at HNX
  have HBE := Lib.hid (fun w1 (e1 : Ext w w1) => lang_behind_bad lb w1 (h.ext e1))
  have HLF := Lib.hid (fun w1 => leaf_of 5 p q w1)
  have HQK := Lib.hid hk
  have HQ2 := Lib.hid hq2
  obtain ⟨me, hme⟩ : ∃ m : Int, max (p2 : Int) qe.2.2.2 = m := ⟨_, rfl⟩
  rw [hme] at HWE
  have HME := Lib.hid hme
  unfold lexV at HWE HNX
  unfold tokV at HNX HLF
  unfold leafV at HLF
  obtain ⟨t0, t1, t2, t3⟩ := q
  dsimp only at HNX HLF
  have hk : t0 = -1 := hk
  subst hk
  have hq2 : t2 = (p2 : Int) := hq2
  subst hq2
  have HB := Lib.hid (fun w1 (e1 : Ext w w1) => ext_block hb e1)
  have HLG := Lib.hid h
  have HGR := Lib.hid hg
  obtain ⟨ob, hob⟩ : ∃ b, w.heap.size = b := ⟨_, rfl⟩
  obtain ⟨W1, hW1⟩ : ∃ V, w.alloc (.cells #[.int .i64 1, .int .i64 2, .int .i64 p, .int .i64 p, .int .i64 p, .int .i64 0, nil0, .int .u64 0] 34) = V := ⟨_, rfl⟩
  have HR1 : Hid (RowA W1 w.heap.size (.slice (some ⟨ob, 0, none⟩) 1 1) [⟨S0 p 0, none, 0⟩]) := Lib.hid (by rw [← hW1, ← hob]; exact row_lit w w.heap.size (Nat.le_refl _) (S0 p 0) rfl)
  have HX1 : Hid (Ext w W1) := Lib.hid (by rw [← hW1]; exact (by repeat (first | exact Ext.refl _ | refine Ext.alloc ?_ _ | refine Ext.more ?_ _ _ | refine Ext.drew ?_ | refine Ext.drewN ?_ _ | refine Ext.setCell ?_ (by simp <;> omega) _)))
  have HOB : Hid (w.heap.size = ob) := Lib.hid hob
  have k4 := cell_of_row _ _ 4 _ _ _ hb
  have kl := lt_of_heap hb
  simp at k4
  unfold lexV at HWN
  clear hqe hke hme h hl hg ht hn' hb hq hmx hm0
  go_enter Tryz.func64, Tryz.ntmps64
  go_upto_region 2 with fail
  try simp only [hob]
  try simp only [hW1]
  clear hob hW1 k4 kl
  refine wp_loop_rounds 2 ?_
  rw [rounds_succ]
  have hb1 := HB.out W1 HX1.out
  have k0 := cell_of_row _ _ 0 _ _ _ hb1
  have k1 := cell_of_row _ _ 1 _ _ _ hb1
  have k2 := cell_of_row _ _ 2 _ _ _ hb1
  have k3 := cell_of_row _ _ 3 _ _ _ hb1
  have k6 := cell_of_row _ _ 6 _ _ _ hb1
  have kl := lt_of_heap hb1
  simp at k0 k1 k2 k3 k6
  obtain ⟨_, _, _, _, d4, d5, _, _, dl, df⟩ := HR1.out.at_ rfl (i := 0) rfl
  simp [S0] at d4 d5
  go_upto_region 2 with fail
  refine wp_region_bt (22) (pures_bt [0, 1, 2, 4, 5, 6, 7, 9, 10, 11, 12] (softs_bt [3, 8, 13] (.step 14 (pures_bt [15, 16, 17, 18, 19, 20, 21] .fin)))) (by kernel_rfl) (by kernel_rfl) ?_
  (refine bt_pures _ fun K hK => ?_); (simp only [pick, nthC]); (repeat (go_big_quiet_step (fail))); (refine wpQuiet_nil (hK _ ?_)); (clear hK K)
  (refine bt_softs _ fun K hK => ?_); (simp only [pick, nthC]); (repeat (go_big_quiet_step (fail))); (refine wpQuiet_nil (hK _ ?_)); (clear hK K)
  (refine bt_step fun next hn => ?_); (simp only [pick, nthC])
  go_wp2_with fail
  refine (HWN.out _ (HX1.out.trans (by repeat (first | exact Ext.refl _ | refine Ext.alloc ?_ _ | refine Ext.more ?_ _ _ | refine Ext.drew ?_ | refine Ext.drewN ?_ _ | refine Ext.setCell ?_ (by simp <;> omega) _)))).mono ?_
  rintro e' W2 ⟨rfl, hx2⟩
  have HY2 : Hid (Ext W1 W2) := Lib.hid (Ext.trans (by repeat (first | exact Ext.refl _ | refine Ext.alloc ?_ _ | refine Ext.more ?_ _ _ | refine Ext.drew ?_ | refine Ext.drewN ?_ _ | refine Ext.setCell ?_ (by simp <;> omega) _)) hx2)
  clear hx2 HWN hb1 k0 k1 k2 k3 k6 kl d4 d5 dl df
  go_wp2_with fail
  refine segQ_mk (fun _ => laid HY2.out) (hn _ _ ?_)
  clear hn next
  (refine bt_pures _ fun K hK => ?_); (simp only [pick, nthC]); (repeat (go_big_quiet_step (fail))); (refine wpQuiet_nil (hK _ ?_)); (clear hK K)
  (refine bt_fin ?_)
  have HR2 := Lib.hid (HR1.out.ext HY2.out)
  obtain ⟨_, _, _, _, d4, d5, _, _, dl, df⟩ := HR2.out.at_ rfl (i := 0) rfl
  simp [S0] at d5
  have df5 := df 5
  have hm0 := HM0.out
  obtain ⟨W3, hW3⟩ : ∃ V, W2.setCell ⟨ob, 5, none⟩ (.int .i64 mx) = V := ⟨_, rfl⟩
  obtain ⟨rs3, hr3, hs3, hl3⟩ := HR2.out.setLook rfl rfl hW3
  have hs3 := hs3 (S0 p 0) [] rfl
  have HR3 : Hid (RowA W3 w.heap.size (.slice (some ⟨ob, 0, none⟩) 1 1) rs3) := Lib.hid hr3
  have HS3 : Hid (shs rs3 = [S0 p mx]) := Lib.hid hs3
  have HX3 : Hid (Ext w W3) := Lib.hid (by rw [← hW3]; exact (HX1.out.trans HY2.out).setCell (by show _ ≤ ob; have := HOB.out; omega) _)
  go_upto_region 4 with fail
  try simp only [hW3]
  clear hW3 d4 d5 dl df df5 hm0 hr3 hs3 hl3 HR1 HR2 HY2
  go_wp2_with fail
  refine (HPR.out _ HX3.out).mono ?_
  rintro e' W4 ⟨rfl, hx4⟩
  have HX4 := Lib.hid (HX3.out.trans hx4)
  have HR4 := Lib.hid (HR3.out.ext hx4)
  have hb4 := HB.out W4 HX4.out
  have k7 := cell_of_row _ _ 7 _ _ _ hb4
  have kl := lt_of_heap hb4
  simp at k7
  obtain ⟨p0, p1, p2, p3, lp, r0, r1, lr⟩ := HGR.out.ext HX4.out
  clear hx4 HPR hb4 HR3 HX3
  clear k7 kl p0 p1 p2 p3 lp r0 r1 lr
  have HS4 := HS3
  have hb4 := HB.out W4 HX4.out
  have k0 := cell_of_row _ _ 0 _ _ _ hb4
  have k1 := cell_of_row _ _ 1 _ _ _ hb4
  have k2 := cell_of_row _ _ 2 _ _ _ hb4
  have k3 := cell_of_row _ _ 3 _ _ _ hb4
  have kl := lt_of_heap hb4
  simp at k0 k1 k2 k3
  obtain ⟨rs4, hrs4⟩ : ∃ l, rs3 = l := ⟨_, rfl⟩
  rw [hrs4] at HR4 HS4
  clear hrs4 HS3 hb4
  obtain ⟨g, m, cc, pp, hv, hm, hm0, hpp, hpn, hgb, hgl, hgt, hC⟩ := HR4.out.head HS4.out
  injection hv with hv1 hv2 hv3
  injection hv1 with hv1
  injection hv1 with hv1
  subst hv1 hv2 hv3
  obtain ⟨_, _, _, _, d4, _, _, _, dl, df⟩ := hC
  rw [hpn] at d4
  simp [S0] at d4
  clear hm hm0 hpp hpn hgb hgl hgt
  go_upto_region 15 with fail
  refine wp_region_bt (14) (pures_bt [0, 1, 2, 4, 5, 6, 7] (softs_bt [3, 8] (.two (.step 9 (pures_bt [10, 11, 12] (.step 13 (.step 14 (pures_bt [15] .fin))))) (.step 13 (.step 9 (pures_bt [10, 11, 12] (.step 14 (pures_bt [15] .fin)))))))) (by kernel_rfl) (by kernel_rfl) ?_
  (refine bt_pures _ fun K hK => ?_); (simp only [pick, nthC]); (repeat (go_big_quiet_step (fail))); (refine wpQuiet_nil (hK _ ?_)); (clear hK K)
  (refine bt_softs _ fun K hK => ?_); (simp only [pick, nthC]); (repeat (go_big_quiet_step (fail))); (refine wpQuiet_nil (hK _ ?_)); (clear hK K)
  clear k0 k1 k2 k3 kl d4 dl df
  refine ⟨?_, ?_⟩
  · (refine bt_step fun next hn => ?_); (simp only [pick, nthC])
    go_wp2_with fail
    refine (HNX.out _ (HX4.out.trans (by repeat (first | exact Ext.refl _ | refine Ext.alloc ?_ _ | refine Ext.more ?_ _ _ | refine Ext.drew ?_ | refine Ext.drewN ?_ _ | refine Ext.setCell ?_ (by simp <;> omega) _)))).mono ?_
    rintro e' V1 ⟨rfl, hv1⟩
    have HY : Hid (Ext W4 V1) := Lib.hid (Ext.trans (by repeat (first | exact Ext.refl _ | refine Ext.alloc ?_ _ | refine Ext.more ?_ _ _ | refine Ext.drew ?_ | refine Ext.drewN ?_ _ | refine Ext.setCell ?_ (by simp <;> omega) _)) hv1)
    clear hv1
    go_wp2_with fail
    refine segQ_mk (fun _ => laid HY.out) (hn _ _ ?_)
    clear hn next
    (refine bt_pures _ fun K hK => ?_); (simp only [pick, nthC]); (repeat (go_big_quiet_step (fail))); (refine wpQuiet_nil (hK _ ?_)); (clear hK K)
    (refine bt_step fun next hn => ?_); (simp only [pick, nthC])
    go_wp2_with fail
    refine segQ_mk (fun _ => laid (HY.out.trans ((by repeat (first | exact Ext.refl _ | refine Ext.alloc ?_ _ | refine Ext.more ?_ _ _ | refine Ext.drew ?_ | refine Ext.drewN ?_ _ | refine Ext.setCell ?_ (by simp <;> omega) _)) : Ext V1 _))) (hn _ _ ?_)
    clear hn next
    obtain ⟨kb, hkb⟩ : ∃ b, V1.heap.size = b := ⟨_, rfl⟩
    obtain ⟨V2, hV2⟩ : ∃ W, V1.alloc (.cells #[.int .i64 0, .int .i64 0, .int .i64 0, .int .i64 0, .int .i64 0] 116) = W := ⟨_, rfl⟩
    have hR : V2.heap[kb]? = some (.cells #[.int .i64 0, .int .i64 0, .int .i64 0, .int .i64 0, .int .i64 0] 116) := by rw [← hV2, ← hkb]; exact heap_alloc_new _ _
    have XA : Ext W4 V2 := by rw [← hV2]; exact HY.out.trans (by repeat (first | exact Ext.refl _ | refine Ext.alloc ?_ _ | refine Ext.more ?_ _ _ | refine Ext.drew ?_ | refine Ext.drewN ?_ _ | refine Ext.setCell ?_ (by simp <;> omega) _))
    have hkl : W4.heap.size ≤ kb := by have := HY.out.size; omega
    try simp only [hV2, hkb]
    clear hV2 hkb
    obtain ⟨W5, hW5⟩ : ∃ W, put5 V2 kb (.int .i64 (-1)) (.int .i64 p) (.int .i64 t1) (.int .i64 (p2 : Int)) (.int .i64 t3) = W := ⟨_, rfl⟩
    have h5 : W5.heap[kb]? = some (.cells #[.int .i64 (-1), .int .i64 p, .int .i64 t1, .int .i64 (p2 : Int), .int .i64 t3] 116) := by rw [← hW5]; exact put5_at hR _ _ _ _ _
    have X5 : Ext W4 W5 := by rw [← hW5]; exact (put5_turn (S := fun k => k = kb) rfl _ _ _ _ _).ext XA (fun k hk => by omega)
    have z0 := cell_of_row _ _ 0 _ _ _ hR
    have z1 := cell_of_row _ _ 1 _ _ _ hR
    have z2 := cell_of_row _ _ 2 _ _ _ hR
    have z3 := cell_of_row _ _ 3 _ _ _ hR
    have z4 := cell_of_row _ _ 4 _ _ _ hR
    have zf := fun k => row_frozen hR k
    have zl := lt_of_heap hR
    simp at z0 z1 z2 z3 z4
    have H5 := Lib.hid h5
    have HX5 := Lib.hid (HX4.out.trans X5)
    have HR5 := Lib.hid (HR4.out.ext X5)
    unfold put5 put4 put3 put2 at hW5
    clear hR XA h5 X5
    (refine bt_step fun next hn => ?_); (simp only [pick, nthC])
    go_wp2_with fail
    refine segQ_mk (fun h => absurd rfl h) (hn _ _ ?_)
    clear hn next
    (refine bt_pures _ fun K hK => ?_); (simp only [pick, nthC]); (repeat (go_big_quiet_step (fail))); (refine wpQuiet_nil (hK _ ?_)); (clear hK K)
    (refine bt_fin ?_)
    try simp only [hW5]
    clear hW5 z0 z1 z2 z3 z4 zf zl
    have HKB : Hid (W4.heap.size ≤ kb) := Lib.hid hkl
    clear hkl
    have y0 := cell_of_row _ _ 0 _ _ _ H5.out
    have yl := lt_of_heap H5.out
    simp at y0
    go_wp2_with fail
    refine (HBE.out _ HX5.out).mono ?_
    rintro e' W6 ⟨rfl, hx6⟩
    have HX6 := Lib.hid (HX5.out.trans hx6)
    have H6 := Lib.hid (ext_block H5.out hx6)
    have HR6 := Lib.hid (HR5.out.ext hx6)
    clear hx6 y0 yl H5 HR5
    have y0 := cell_of_row _ _ 0 _ _ _ H6.out
    have y1 := cell_of_row _ _ 1 _ _ _ H6.out
    have y2 := cell_of_row _ _ 2 _ _ _ H6.out
    have y3 := cell_of_row _ _ 3 _ _ _ H6.out
    have y4 := cell_of_row _ _ 4 _ _ _ H6.out
    have yl := lt_of_heap H6.out
    simp at y0 y1 y2 y3 y4
    go_wp2_with fail
    refine (HLF.out _).mono ?_
    rintro e' W7 ⟨rfl, hx7⟩
    have HX7 := Lib.hid (HX6.out.trans hx7)
    have hrl := row_lit W7 w.heap.size HX7.out.size (leafS 5 p (-1, t1, (p2 : Int), t3)) rfl
    have hr7 := HR6.out.ext hx7
    have h7 := ext_block H6.out hx7
    clear hx7 y0 y1 y2 y3 y4 yl
    obtain ⟨sg, hsg⟩ : ∃ b, W7.heap.size = b := ⟨_, rfl⟩
    have hob7 : ob < W7.heap.size := own_old hr7.own ob rfl
    obtain ⟨W8, hW8⟩ : ∃ V, W7.alloc (.cells #[.int .i64 (leafS 5 p (-1, t1, (p2 : Int), t3)).sym, .int .i64 (leafS 5 p (-1, t1, (p2 : Int), t3)).kind, .int .i64 (leafS 5 p (-1, t1, (p2 : Int), t3)).lo, .int .i64 (leafS 5 p (-1, t1, (p2 : Int), t3)).inn, .int .i64 (leafS 5 p (-1, t1, (p2 : Int), t3)).hi, .int .i64 (leafS 5 p (-1, t1, (p2 : Int), t3)).look, nil0, .int .u64 0] 34) = V := ⟨_, rfl⟩
    have x78 : Ext W7 W8 := by rw [← hW8]; exact (by repeat (first | exact Ext.refl _ | refine Ext.alloc ?_ _ | refine Ext.more ?_ _ _ | refine Ext.drew ?_ | refine Ext.drewN ?_ _ | refine Ext.setCell ?_ (by simp <;> omega) _))
    rw [hW8, hsg] at hrl
    have HX8 := Lib.hid (HX7.out.trans x78)
    have HR8 := Lib.hid (hr7.ext x78)
    have HRL := Lib.hid hrl
    have H8 := Lib.hid (ext_block h7 x78)
    have HAP : Hid (Apart (.slice (some ⟨ob, 0, none⟩) 1 1) (.slice (some ⟨sg, 0, none⟩) 1 1)) := Lib.hid (fun g h1 h2 => by
      have e1 : ob = g := by injection h1
      have e2 : sg = g := by injection h2
      omega)
    have HBH := Lib.hid (behind_any _ _ rs4 [⟨leafS 5 p (-1, t1, (p2 : Int), t3), none, 0⟩] w W8 HR8.out HRL.out HAP.out (by rw [shs_length HS4.out]; simp) (by simp) (by rw [shs_length HS4.out]; simp) (by simp) (TsOk.bound (S0_ok p mx) (leaf_ok 5 p (-1, t1, (p2 : Int), t3)) HS4.out rfl) HX8.out)
    rw [HS4.out] at HBH
    simp only [leafS] at hW8
    clear hr7 h7 hob7 x78 hrl
    go_wp2_with fail
    try simp only [hsg, hW8]
    clear hsg hW8
    refine HBH.out.mono ?_
    rintro e' T1 ⟨v1, qs1, rfl, hr, hsh, htt, hxt⟩
    clear HBH
    obtain ⟨g1, m1, cc1, pp, rfl, hm, hm0, hpp, hpn, hgb, hgl, hgt, hC⟩ := hr.head hsh
    have h9 := htt.keep H8.out (fun hh => by
      rcases hh with hh | hh
      · exact own_ne HR8.out.own H8.out (by decide) hh
      · exact own_ne HRL.out.own H8.out (by decide) hh)
    obtain ⟨_, _, _, _, d4, _, _, _, dl, df⟩ := hC
    have df4 := df 4
    simp at d4
    have y3 := cell_of_row _ _ 3 _ _ _ h9
    have yl := lt_of_heap h9
    simp at y3
    obtain ⟨W9, hW⟩ : ∃ V, T1.setCell ⟨g1, 4, none⟩ (.int .i64 (p2 : Int)) = V := ⟨_, rfl⟩
    obtain ⟨rs9, hr9, hs9, hl9⟩ := hr.setHi hm hpp hW
    have HR9 := Lib.hid hr9
    have HX9 : Hid (Ext w W9) := Lib.hid (by rw [← hW]; exact hxt.setCell hgb _)
    have HS9 : Hid (shs rs9 = [⟨1, 2, p, p, p2, mx, [1]⟩, leafS 5 p (-1, t1, (p2 : Int), t3)]) := Lib.hid (by rw [hs9, hsh]; rfl)
    clear hr hsh htt hxt hm hpp hpn hgb hgl hgt hr9 hs9 hl9 h9 H8 HRL HAP HR8 HX8
    go_wp2_with fail
    try simp only [hW]
    clear hW d4 dl df df4 y3 yl hm0 HKB H6 HR6 HX7 HX6 HX5
    rw [rounds_succ]
    have hb9 := HB.out W9 HX9.out
    have k0 := cell_of_row _ _ 0 _ _ _ hb9
    have k1 := cell_of_row _ _ 1 _ _ _ hb9
    have k2 := cell_of_row _ _ 2 _ _ _ hb9
    have k3 := cell_of_row _ _ 3 _ _ _ hb9
    have k6 := cell_of_row _ _ 6 _ _ _ hb9
    have kl := lt_of_heap hb9
    simp at k0 k1 k2 k3 k6
    obtain ⟨g, m, cc, pp, hv, hm, hm0, hpp, hpn, hgb, hgl, hgt, hC⟩ := HR9.out.head HS9.out
    injection hv with hv1 hv2 hv3
    injection hv1 with hv1
    injection hv1 with hv1
    subst hv1 hv2 hv3
    obtain ⟨_, _, _, _, d4, _, _, _, dl, df⟩ := hC
    rw [hpn] at d4
    simp at d4
    clear hm hpp hpn hgb hgl hgt
    go_upto_region 2 with fail
    refine wp_region_bt (22) (pures_bt [0, 1, 2, 4, 5, 6, 7, 9, 10, 11, 12] (softs_bt [3, 8, 13] (.step 14 (pures_bt [15, 16, 17, 18, 19, 20, 21] .fin)))) (by kernel_rfl) (by kernel_rfl) ?_
    (refine bt_pures _ fun K hK => ?_); (simp only [pick, nthC]); (repeat (go_big_quiet_step (fail))); (refine wpQuiet_nil (hK _ ?_)); (clear hK K)
    (refine bt_softs _ fun K hK => ?_); (simp only [pick, nthC]); (repeat (go_big_quiet_step (fail))); (refine wpQuiet_nil (hK _ ?_)); (clear hK K)
    (refine bt_step fun next hn => ?_); (simp only [pick, nthC])
    go_wp2_with fail
    refine (HWE.out _ (HX9.out.trans (by repeat (first | exact Ext.refl _ | refine Ext.alloc ?_ _ | refine Ext.more ?_ _ _ | refine Ext.drew ?_ | refine Ext.drewN ?_ _ | refine Ext.setCell ?_ (by simp <;> omega) _)))).mono ?_
    rintro e' Wa ⟨rfl, hxa⟩
    have HYa : Hid (Ext W9 Wa) := Lib.hid (Ext.trans (by repeat (first | exact Ext.refl _ | refine Ext.alloc ?_ _ | refine Ext.more ?_ _ _ | refine Ext.drew ?_ | refine Ext.drewN ?_ _ | refine Ext.setCell ?_ (by simp <;> omega) _)) hxa)
    clear hxa hb9 k0 k1 k2 k3 k6 kl d4 dl df hm0
    go_wp2_with fail
    refine segQ_mk (fun _ => laid HYa.out) (hn _ _ ?_)
    clear hn next
    (refine bt_pures _ fun K hK => ?_); (simp only [pick, nthC]); (repeat (go_big_quiet_step (fail))); (refine wpQuiet_nil (hK _ ?_)); (clear hK K)
    (refine bt_fin ?_)
    have HXa := Lib.hid (HX9.out.trans HYa.out)
    have HRa := Lib.hid (HR9.out.ext HYa.out)
    obtain ⟨g, m, cc, pp, hv, hm, hm0, hpp, hpn, hgb, hgl, hgt, hC⟩ := HRa.out.head HS9.out
    injection hv with hv1 hv2 hv3
    injection hv1 with hv1
    injection hv1 with hv1
    subst hv1 hv2 hv3
    obtain ⟨_, _, _, _, _, d5, _, _, dl, df⟩ := hC
    rw [hpn] at d5
    simp at d5
    have df5 := df 5
    obtain ⟨mxx, hmxx⟩ : ∃ m : Int, max mx me = m := ⟨_, rfl⟩
    have hmm : (if mx < me then me else mx) = mxx := by rw [← hmxx]; omega
    obtain ⟨Wb, hW⟩ : ∃ V, Wa.setCell ⟨g1, 5, none⟩ (.int .i64 mxx) = V := ⟨_, rfl⟩
    obtain ⟨rsb, hrb, hsb, hlb⟩ := HRa.out.setLook hm hpp hW
    have HRb := Lib.hid hrb
    have HSb := Lib.hid (hsb _ _ HS9.out)
    have HXb : Hid (Ext w Wb) := Lib.hid (by rw [← hW]; exact HXa.out.setCell hgb _)
    clear hrb hsb hlb hm hpp hpn hgb hgl hgt
    go_upto_region 4 with fail
    try simp only [hW]
    clear hW d5 dl df df5 hmm hm0 HRa HXa HR9 HX9 HYa
    go_wp2_with fail
    refine (HPE.out _ HXb.out).mono ?_
    rintro e' Wc ⟨rfl, hxc⟩
    have HXc := Lib.hid (HXb.out.trans hxc)
    have HRc := Lib.hid (HRb.out.ext hxc)
    have hbc := HB.out Wc HXc.out
    have k7 := cell_of_row _ _ 7 _ _ _ hbc
    have kl := lt_of_heap hbc
    simp at k7
    obtain ⟨p0, p1, p2', p3, lp, r0, r1, lr⟩ := HGR.out.ext HXc.out
    have HMF := Lib.hid hmxx
    clear hxc hbc hmxx HRb HXb
    go_wp2_with fail
    refine wp_loop_rounds 1 ?_
    rw [rounds_succ]
    go_wp2_with fail
    go_ret
    exact ⟨_, rsb, rfl, HRc.out, by rw [HSb.out, ← HMF.out, ← HMX.out, ← HME.out]; simp only [Int.max_assoc], HXc.out⟩
  · (refine bt_step fun next hn => ?_); (simp only [pick, nthC])
    go_wp2_with fail
    refine segQ_mk (fun _ => laid ((by repeat (first | exact Ext.refl _ | refine Ext.alloc ?_ _ | refine Ext.more ?_ _ _ | refine Ext.drew ?_ | refine Ext.drewN ?_ _ | refine Ext.setCell ?_ (by simp <;> omega) _)) : Ext W4 _)) (hn _ _ ?_)
    clear hn next
    obtain ⟨kb, hkb⟩ : ∃ b, W4.heap.size = b := ⟨_, rfl⟩
    have hT0 : (W4.drew.alloc (.cells #[.int .i64 0, .int .i64 0, .int .i64 0, .int .i64 0, .int .i64 0] 116)).heap[kb]? = some (.cells #[.int .i64 0, .int .i64 0, .int .i64 0, .int .i64 0, .int .i64 0] 116) := by rw [← hkb]; exact heap_alloc_new W4.drew _
    obtain ⟨V0, hV0⟩ : ∃ W, (W4.alloc (.cells #[.int .i64 0, .int .i64 0, .int .i64 0, .int .i64 0, .int .i64 0] 116)).drew = W := ⟨_, rfl⟩
    have hT0 : V0.heap[kb]? = some (.cells #[.int .i64 0, .int .i64 0, .int .i64 0, .int .i64 0, .int .i64 0] 116) := by rw [← hV0, ← hkb]; exact heap_alloc_new W4 _
    have X0 : Ext W4 V0 := by rw [← hV0]; exact (by repeat (first | exact Ext.refl _ | refine Ext.alloc ?_ _ | refine Ext.more ?_ _ _ | refine Ext.drew ?_ | refine Ext.drewN ?_ _ | refine Ext.setCell ?_ (by simp <;> omega) _))
    have HX0 := Lib.hid X0
    have HT0 := Lib.hid hT0
    have hkl : W4.heap.size ≤ kb := by omega
    try simp only [hV0, hkb]
    clear hV0 hkb X0 hT0
    (refine bt_step fun next hn => ?_); (simp only [pick, nthC])
    go_wp2_with fail
    refine (HNX.out _ (HX4.out.trans HX0.out)).mono ?_
    rintro e' V2 ⟨rfl, hv1⟩
    have XA : Ext W4 V2 := HX0.out.trans hv1
    have HY := Lib.hid XA
    have hR := ext_block HT0.out hv1
    clear hv1
    go_wp2_with fail
    refine segQ_mk (fun _ => laid HY.out) (hn _ _ ?_)
    clear hn next
    (refine bt_pures _ fun K hK => ?_); (simp only [pick, nthC]); (repeat (go_big_quiet_step (fail))); (refine wpQuiet_nil (hK _ ?_)); (clear hK K)
    obtain ⟨W5, hW5⟩ : ∃ W, put5 V2 kb (.int .i64 (-1)) (.int .i64 p) (.int .i64 t1) (.int .i64 (p2 : Int)) (.int .i64 t3) = W := ⟨_, rfl⟩
    have h5 : W5.heap[kb]? = some (.cells #[.int .i64 (-1), .int .i64 p, .int .i64 t1, .int .i64 (p2 : Int), .int .i64 t3] 116) := by rw [← hW5]; exact put5_at hR _ _ _ _ _
    have X5 : Ext W4 W5 := by rw [← hW5]; exact (put5_turn (S := fun k => k = kb) rfl _ _ _ _ _).ext XA (fun k hk => by omega)
    have z0 := cell_of_row _ _ 0 _ _ _ hR
    have z1 := cell_of_row _ _ 1 _ _ _ hR
    have z2 := cell_of_row _ _ 2 _ _ _ hR
    have z3 := cell_of_row _ _ 3 _ _ _ hR
    have z4 := cell_of_row _ _ 4 _ _ _ hR
    have zf := fun k => row_frozen hR k
    have zl := lt_of_heap hR
    simp at z0 z1 z2 z3 z4
    have H5 := Lib.hid h5
    have HX5 := Lib.hid (HX4.out.trans X5)
    have HR5 := Lib.hid (HR4.out.ext X5)
    unfold put5 put4 put3 put2 at hW5
    clear hR XA h5 X5
    (refine bt_step fun next hn => ?_); (simp only [pick, nthC])
    go_wp2_with fail
    refine segQ_mk (fun h => absurd rfl h) (hn _ _ ?_)
    clear hn next
    (refine bt_pures _ fun K hK => ?_); (simp only [pick, nthC]); (repeat (go_big_quiet_step (fail))); (refine wpQuiet_nil (hK _ ?_)); (clear hK K)
    (refine bt_fin ?_)
    try simp only [hW5]
    clear hW5 z0 z1 z2 z3 z4 zf zl
    have HKB : Hid (W4.heap.size ≤ kb) := Lib.hid hkl
    clear hkl
    have y0 := cell_of_row _ _ 0 _ _ _ H5.out
    have yl := lt_of_heap H5.out
    simp at y0
    go_wp2_with fail
    refine (HBE.out _ HX5.out).mono ?_
    rintro e' W6 ⟨rfl, hx6⟩
    have HX6 := Lib.hid (HX5.out.trans hx6)
    have H6 := Lib.hid (ext_block H5.out hx6)
    have HR6 := Lib.hid (HR5.out.ext hx6)
    clear hx6 y0 yl H5 HR5
    have y0 := cell_of_row _ _ 0 _ _ _ H6.out
    have y1 := cell_of_row _ _ 1 _ _ _ H6.out
    have y2 := cell_of_row _ _ 2 _ _ _ H6.out
    have y3 := cell_of_row _ _ 3 _ _ _ H6.out
    have y4 := cell_of_row _ _ 4 _ _ _ H6.out
    have yl := lt_of_heap H6.out
    simp at y0 y1 y2 y3 y4
    go_wp2_with fail
    refine (HLF.out _).mono ?_
    rintro e' W7 ⟨rfl, hx7⟩
    have HX7 := Lib.hid (HX6.out.trans hx7)
    have hrl := row_lit W7 w.heap.size HX7.out.size (leafS 5 p (-1, t1, (p2 : Int), t3)) rfl
    have hr7 := HR6.out.ext hx7
    have h7 := ext_block H6.out hx7
    clear hx7 y0 y1 y2 y3 y4 yl
    obtain ⟨sg, hsg⟩ : ∃ b, W7.heap.size = b := ⟨_, rfl⟩
    have hob7 : ob < W7.heap.size := own_old hr7.own ob rfl
    obtain ⟨W8, hW8⟩ : ∃ V, W7.alloc (.cells #[.int .i64 (leafS 5 p (-1, t1, (p2 : Int), t3)).sym, .int .i64 (leafS 5 p (-1, t1, (p2 : Int), t3)).kind, .int .i64 (leafS 5 p (-1, t1, (p2 : Int), t3)).lo, .int .i64 (leafS 5 p (-1, t1, (p2 : Int), t3)).inn, .int .i64 (leafS 5 p (-1, t1, (p2 : Int), t3)).hi, .int .i64 (leafS 5 p (-1, t1, (p2 : Int), t3)).look, nil0, .int .u64 0] 34) = V := ⟨_, rfl⟩
    have x78 : Ext W7 W8 := by rw [← hW8]; exact (by repeat (first | exact Ext.refl _ | refine Ext.alloc ?_ _ | refine Ext.more ?_ _ _ | refine Ext.drew ?_ | refine Ext.drewN ?_ _ | refine Ext.setCell ?_ (by simp <;> omega) _))
    rw [hW8, hsg] at hrl
    have HX8 := Lib.hid (HX7.out.trans x78)
    have HR8 := Lib.hid (hr7.ext x78)
    have HRL := Lib.hid hrl
    have H8 := Lib.hid (ext_block h7 x78)
    have HAP : Hid (Apart (.slice (some ⟨ob, 0, none⟩) 1 1) (.slice (some ⟨sg, 0, none⟩) 1 1)) := Lib.hid (fun g h1 h2 => by
      have e1 : ob = g := by injection h1
      have e2 : sg = g := by injection h2
      omega)
    have HBH := Lib.hid (behind_any _ _ rs4 [⟨leafS 5 p (-1, t1, (p2 : Int), t3), none, 0⟩] w W8 HR8.out HRL.out HAP.out (by rw [shs_length HS4.out]; simp) (by simp) (by rw [shs_length HS4.out]; simp) (by simp) (TsOk.bound (S0_ok p mx) (leaf_ok 5 p (-1, t1, (p2 : Int), t3)) HS4.out rfl) HX8.out)
    rw [HS4.out] at HBH
    simp only [leafS] at hW8
    clear hr7 h7 hob7 x78 hrl
    go_wp2_with fail
    try simp only [hsg, hW8]
    clear hsg hW8
    refine HBH.out.mono ?_
    rintro e' T1 ⟨v1, qs1, rfl, hr, hsh, htt, hxt⟩
    clear HBH
    obtain ⟨g1, m1, cc1, pp, rfl, hm, hm0, hpp, hpn, hgb, hgl, hgt, hC⟩ := hr.head hsh
    have h9 := htt.keep H8.out (fun hh => by
      rcases hh with hh | hh
      · exact own_ne HR8.out.own H8.out (by decide) hh
      · exact own_ne HRL.out.own H8.out (by decide) hh)
    obtain ⟨_, _, _, _, d4, _, _, _, dl, df⟩ := hC
    have df4 := df 4
    simp at d4
    have y3 := cell_of_row _ _ 3 _ _ _ h9
    have yl := lt_of_heap h9
    simp at y3
    obtain ⟨W9, hW⟩ : ∃ V, T1.setCell ⟨g1, 4, none⟩ (.int .i64 (p2 : Int)) = V := ⟨_, rfl⟩
    obtain ⟨rs9, hr9, hs9, hl9⟩ := hr.setHi hm hpp hW
    have HR9 := Lib.hid hr9
    have HX9 : Hid (Ext w W9) := Lib.hid (by rw [← hW]; exact hxt.setCell hgb _)
    have HS9 : Hid (shs rs9 = [⟨1, 2, p, p, p2, mx, [1]⟩, leafS 5 p (-1, t1, (p2 : Int), t3)]) := Lib.hid (by rw [hs9, hsh]; rfl)
    clear hr hsh htt hxt hm hpp hpn hgb hgl hgt hr9 hs9 hl9 h9 H8 HRL HAP HR8 HX8
    go_wp2_with fail
    try simp only [hW]
    clear hW d4 dl df df4 y3 yl hm0 HKB H6 HR6 HX7 HX6 HX5
    rw [rounds_succ]
    have hb9 := HB.out W9 HX9.out
    have k0 := cell_of_row _ _ 0 _ _ _ hb9
    have k1 := cell_of_row _ _ 1 _ _ _ hb9
    have k2 := cell_of_row _ _ 2 _ _ _ hb9
    have k3 := cell_of_row _ _ 3 _ _ _ hb9
    have k6 := cell_of_row _ _ 6 _ _ _ hb9
    have kl := lt_of_heap hb9
    simp at k0 k1 k2 k3 k6
    obtain ⟨g, m, cc, pp, hv, hm, hm0, hpp, hpn, hgb, hgl, hgt, hC⟩ := HR9.out.head HS9.out
    injection hv with hv1 hv2 hv3
    injection hv1 with hv1
    injection hv1 with hv1
    subst hv1 hv2 hv3
    obtain ⟨_, _, _, _, d4, _, _, _, dl, df⟩ := hC
    rw [hpn] at d4
    simp at d4
    clear hm hpp hpn hgb hgl hgt
    go_upto_region 2 with fail
    refine wp_region_bt (22) (pures_bt [0, 1, 2, 4, 5, 6, 7, 9, 10, 11, 12] (softs_bt [3, 8, 13] (.step 14 (pures_bt [15, 16, 17, 18, 19, 20, 21] .fin)))) (by kernel_rfl) (by kernel_rfl) ?_
    (refine bt_pures _ fun K hK => ?_); (simp only [pick, nthC]); (repeat (go_big_quiet_step (fail))); (refine wpQuiet_nil (hK _ ?_)); (clear hK K)
    (refine bt_softs _ fun K hK => ?_); (simp only [pick, nthC]); (repeat (go_big_quiet_step (fail))); (refine wpQuiet_nil (hK _ ?_)); (clear hK K)
    (refine bt_step fun next hn => ?_); (simp only [pick, nthC])
    go_wp2_with fail
    refine (HWE.out _ (HX9.out.trans (by repeat (first | exact Ext.refl _ | refine Ext.alloc ?_ _ | refine Ext.more ?_ _ _ | refine Ext.drew ?_ | refine Ext.drewN ?_ _ | refine Ext.setCell ?_ (by simp <;> omega) _)))).mono ?_
    rintro e' Wa ⟨rfl, hxa⟩
    have HYa : Hid (Ext W9 Wa) := Lib.hid (Ext.trans (by repeat (first | exact Ext.refl _ | refine Ext.alloc ?_ _ | refine Ext.more ?_ _ _ | refine Ext.drew ?_ | refine Ext.drewN ?_ _ | refine Ext.setCell ?_ (by simp <;> omega) _)) hxa)
    clear hxa hb9 k0 k1 k2 k3 k6 kl d4 dl df hm0
    go_wp2_with fail
    refine segQ_mk (fun _ => laid HYa.out) (hn _ _ ?_)
    clear hn next
    (refine bt_pures _ fun K hK => ?_); (simp only [pick, nthC]); (repeat (go_big_quiet_step (fail))); (refine wpQuiet_nil (hK _ ?_)); (clear hK K)
    (refine bt_fin ?_)
    have HXa := Lib.hid (HX9.out.trans HYa.out)
    have HRa := Lib.hid (HR9.out.ext HYa.out)
    obtain ⟨g, m, cc, pp, hv, hm, hm0, hpp, hpn, hgb, hgl, hgt, hC⟩ := HRa.out.head HS9.out
    injection hv with hv1 hv2 hv3
    injection hv1 with hv1
    injection hv1 with hv1
    subst hv1 hv2 hv3
    obtain ⟨_, _, _, _, _, d5, _, _, dl, df⟩ := hC
    rw [hpn] at d5
    simp at d5
    have df5 := df 5
    obtain ⟨mxx, hmxx⟩ : ∃ m : Int, max mx me = m := ⟨_, rfl⟩
    have hmm : (if mx < me then me else mx) = mxx := by rw [← hmxx]; omega
    obtain ⟨Wb, hW⟩ : ∃ V, Wa.setCell ⟨g1, 5, none⟩ (.int .i64 mxx) = V := ⟨_, rfl⟩
    obtain ⟨rsb, hrb, hsb, hlb⟩ := HRa.out.setLook hm hpp hW
    have HRb := Lib.hid hrb
    have HSb := Lib.hid (hsb _ _ HS9.out)
    have HXb : Hid (Ext w Wb) := Lib.hid (by rw [← hW]; exact HXa.out.setCell hgb _)
    clear hrb hsb hlb hm hpp hpn hgb hgl hgt
    go_upto_region 4 with fail
    try simp only [hW]
    clear hW d5 dl df df5 hmm hm0 HRa HXa HR9 HX9 HYa
    go_wp2_with fail
    refine (HPE.out _ HXb.out).mono ?_
    rintro e' Wc ⟨rfl, hxc⟩
    have HXc := Lib.hid (HXb.out.trans hxc)
    have HRc := Lib.hid (HRb.out.ext hxc)
    have hbc := HB.out Wc HXc.out
    have k7 := cell_of_row _ _ 7 _ _ _ hbc
    have kl := lt_of_heap hbc
    simp at k7
    obtain ⟨p0, p1, p2', p3, lp, r0, r1, lr⟩ := HGR.out.ext HXc.out
    have HMF := Lib.hid hmxx
    clear hxc hbc hmxx HRb HXb
    go_wp2_with fail
    refine wp_loop_rounds 1 ?_
    rw [rounds_succ]
    go_wp2_with fail
    go_ret
    exact ⟨_, rsb, rfl, HRc.out, by rw [HSb.out, ← HMF.out, ← HMX.out, ← HME.out]; simp only [Int.max_assoc], HXc.out⟩
end Go.Proofs.YthpmncdfaggkiaaGreat
/- Lang.Fresh of the language of words. -/
namespace Go.Proofs.YthpmncdfaggkiaaGreat
open Go.RowKit
attribute [local go_sem] more_drew more_drewN more_size more_cell more_frozen more_setCell drew_more drewN_more lt_add_r lt_add_r2 lt_add_r3 lt_add_r4 lt_add_r5 lt_add_r6 lt_add_r7 lt_add_r8 lt_add_r9 lt_add_r10 lt_self_r lt_self_r2
/-- the root -/
def rootS (n : Nat) : Sh := ⟨-3, 1, 0, 0, n, 1, []⟩
theorem root_ok (n : Nat) : TsOk [rootS n] := ⟨by simp, fun t ht => by obtain rfl := List.mem_singleton.1 ht; simp [rootS]⟩
set_option maxRecDepth 100000 in
set_option maxHeartbeats 2000000 in
theorem fresh_words (lb : Nat) (s : ByteArray) (q : Int × Int × Int × Int) (ts : List Sh) (t0 : Sh) (tr : List Sh) (w : World) (h : LangRd w lb) (hs : s.size ≤ 1000) (hts : ts = t0 :: tr) (hok : TsOk ts) (hok2 : TsOk (behindS [rootS s.size] ts)) (hhi : t0.hi = s.size) (hq : tokF s s.size = q) (hk : q.1 = -2) (HT : ∀ w1, LangRd w1 lb → Calls Tryz.prog 64 #[.pointer (some ⟨lb, 0, none⟩), .string s, .int .i64 0, .int .i64 0] w1 (TreeRet w1 ts)) : Calls Tryz.prog 22 #[.pointer (some ⟨lb, 0, none⟩), .string s] w fun e w' => ∃ v rs, e = .returned (.tuple #[v, .int .i64 0]) ∧ RowA w' w.heap.size v rs ∧ shs rs = behindS (behindS [rootS s.size] ts) [leafS 6 s.size q] ∧ Ext w w' := by
  obtain ⟨N0, c0, N1, c1, N2, c2, a, b, C, c, d, e, tg, tog, tc, xg, og, nb, nc, cl, hb, hl, hg, ht, hn'⟩ := lang_open h
  have HNX := Lib.hid (fun w1 (e1 : Ext w w1) => tok_Next _ _ _ _ _ _ 1 s s.size w1 (hl.ext e1) lexok_words (Nat.le_refl _) (by omega))
  rw [show nextF wordN wordR [0, -1] s s.size = q from hq] at HNX
  have HLF := Lib.hid (fun w1 => leaf_of 6 s.size q w1)
  have HTT := Lib.hid (fun w1 (e1 : Ext w w1) => HT w1 (h.ext e1))
  have HB := Lib.hid (fun w1 (e1 : Ext w w1) => ext_block hb e1)
  have HHI := Lib.hid hhi
  have HTS := Lib.hid hts
  have HOK := Lib.hid hok
  have HOK2 := Lib.hid hok2
  obtain ⟨t0', t1, t2, t3⟩ := q
  have hk : t0' = -2 := hk
  subst hk
  unfold lexV tokV at HNX
  unfold tokV leafV at HLF
  dsimp only at HNX HLF
  obtain ⟨ob, hob⟩ : ∃ b, w.heap.size = b := ⟨_, rfl⟩
  obtain ⟨n, hn⟩ : ∃ n, s.size = n := ⟨_, rfl⟩
  obtain ⟨W1, hW1⟩ : ∃ V, w.alloc (.cells #[.int .i64 (-3), .int .i64 1, .int .i64 0, .int .i64 0, .int .i64 s.size, .int .i64 1, nil0, .int .u64 0] 34) = V := ⟨_, rfl⟩
  have HR1 : Hid (RowA W1 w.heap.size (.slice (some ⟨ob, 0, none⟩) 1 1) [⟨rootS s.size, none, 0⟩]) := Lib.hid (by rw [← hW1, ← hob]; exact row_lit w w.heap.size (Nat.le_refl _) (rootS s.size) rfl)
  have HX1 : Hid (Ext w W1) := Lib.hid (by rw [← hW1]; exact (by repeat (first | exact Ext.refl _ | refine Ext.alloc ?_ _ | refine Ext.more ?_ _ _ | refine Ext.drew ?_ | refine Ext.drewN ?_ _ | refine Ext.setCell ?_ (by simp <;> omega) _)))
  have HOB : Hid (w.heap.size = ob ∧ ob < W1.heap.size) := Lib.hid ⟨hob, own_old HR1.out.own ob rfl⟩
  have k10 := cell_of_row _ _ 10 _ _ _ hb
  have kl := lt_of_heap hb
  simp at k10
  clear h hl hg ht hn' hb hq hhi hts hok hok2 HT hn
  go_enter Tryz.func22, Tryz.ntmps22
  have q1 : decide ((37448 : Int) < s.size) = false := by simp; omega
  have q2 : decide (37448 < s.size) = false := by simp; omega
  go_wp2_with fail
  try simp only [hob]
  try simp only [hW1]
  clear hob hW1 k10 kl q1 q2
  refine (HTT.out _ HX1.out).mono ?_
  rintro e' W2 ⟨v2, rs2, rfl, hr, hsh, hx2⟩
  have HX2 := Lib.hid (HX1.out.trans hx2)
  have HR2 := Lib.hid (HR1.out.ext hx2)
  obtain ⟨sg, sn, sc, sp, rfl, hsn, hsn0, hsp, hspn, hsb, hsl, hst, hCs⟩ := hr.head (hsh.trans HTS.out)
  have HRS := Lib.hid (hr.base (show w.heap.size ≤ W1.heap.size from HX1.out.size))
  have HSS := Lib.hid hsh
  have HAP : Hid (Apart (.slice (some ⟨ob, 0, none⟩) 1 1) (.slice (some ⟨sg, 0, none⟩) sn sc)) := Lib.hid (fun g h1 h2 => by
    have e1 : ob = g := by injection h1
    have e2 : sg = g := by injection h2
    have h3 := HOB.out.2
    omega)
  have HSN : Hid (sn = rs2.length ∧ 0 < sn) := Lib.hid ⟨hsn, hsn0⟩
  have HBH := Lib.hid (behind_any _ _ [⟨rootS s.size, none, 0⟩] rs2 w W2 HR2.out HRS.out HAP.out (by simp) (by rw [← HSN.out.1]; exact HSN.out.2) (by simp) (by have := shs_length HSS.out; have := HOK.out.1; omega) (TsOk.bound (root_ok s.size) HOK.out rfl HSS.out) HX2.out)
  rw [HSS.out] at HBH
  obtain ⟨_, _, _, _, s4, _, _, _, sl, _⟩ := hCs
  rw [hspn, HHI.out] at s4
  simp at s4
  clear hr hsh hx2 hsp hspn hsb hsl hst hsn
  go_wp2_with fail
  refine HBH.out.mono ?_
  rintro e' W3 ⟨v3, rs3, rfl, hr, hsh, htt, hx3⟩
  have HX3 := Lib.hid hx3
  have HS3 : Hid (shs rs3 = behindS [rootS s.size] ts) := Lib.hid hsh
  obtain ⟨V3, vc3, rfl⟩ := hr.len
  have HR3 := Lib.hid hr
  clear HBH s4 sl hsn0 hr hsh htt hx3 HRS HSS HAP HSN HR2 HX2
  have hb3 := HB.out W3 HX3.out
  have k0 := cell_of_row _ _ 0 _ _ _ hb3
  have k1 := cell_of_row _ _ 1 _ _ _ hb3
  have k2 := cell_of_row _ _ 2 _ _ _ hb3
  have k3 := cell_of_row _ _ 3 _ _ _ hb3
  have kl := lt_of_heap hb3
  simp at k0 k1 k2 k3
  clear hb3
  go_wp2_with fail
  refine wp_loop_rounds 1 ?_
  rw [rounds_succ]
  go_wp2_with fail
  refine (HNX.out _ HX3.out).mono ?_
  rintro e' W4 ⟨rfl, hx4⟩
  clear k0 k1 k2 k3 kl
  obtain ⟨kb, hkb⟩ : ∃ b, W4.heap.size = b := ⟨_, rfl⟩
  obtain ⟨W5a, hW5a⟩ : ∃ W, W4.alloc (.cells #[.int .i64 0, .int .i64 0, .int .i64 0, .int .i64 0, .int .i64 0] 116) = W := ⟨_, rfl⟩
  have hR : W5a.heap[kb]? = some (.cells #[.int .i64 0, .int .i64 0, .int .i64 0, .int .i64 0, .int .i64 0] 116) := by rw [← hW5a, ← hkb]; exact heap_alloc_new _ _
  obtain ⟨W5, hW5⟩ : ∃ W, put5 W5a kb (.int .i64 (-2)) (.int .i64 s.size) (.int .i64 t1) (.int .i64 t2) (.int .i64 t3) = W := ⟨_, rfl⟩
  have h5 : W5.heap[kb]? = some (.cells #[.int .i64 (-2), .int .i64 s.size, .int .i64 t1, .int .i64 t2, .int .i64 t3] 116) := by rw [← hW5]; exact put5_at hR _ _ _ _ _
  have X5 : Ext W4 W5 := by rw [← hW5]; exact (put5_turn (S := fun k => k = kb) rfl _ _ _ _ _).ext (show Ext W4 W5a from by rw [← hW5a]; exact (by repeat (first | exact Ext.refl _ | refine Ext.alloc ?_ _ | refine Ext.more ?_ _ _ | refine Ext.drew ?_ | refine Ext.drewN ?_ _ | refine Ext.setCell ?_ (by simp <;> omega) _))) (fun k hk => by omega)
  have HX5 := Lib.hid (HX3.out.trans (hx4.trans X5))
  have HR5 := Lib.hid (HR3.out.ext (hx4.trans X5))
  have H5 := Lib.hid h5
  have z0 := cell_of_row _ _ 0 _ _ _ hR
  have z1 := cell_of_row _ _ 1 _ _ _ hR
  have z2 := cell_of_row _ _ 2 _ _ _ hR
  have z3 := cell_of_row _ _ 3 _ _ _ hR
  have z4 := cell_of_row _ _ 4 _ _ _ hR
  have zf := fun k => row_frozen hR k
  have zl := lt_of_heap hR
  simp at z0 z1 z2 z3 z4
  unfold put5 put4 put3 put2 at hW5
  clear hx4 hR X5 h5
  go_upto_region 8 with fail
  try simp only [hkb]
  try simp only [hW5a]
  try simp only [hW5]
  clear hkb hW5a hW5 z0 z1 z2 z3 z4 zf zl
  have y0 := cell_of_row _ _ 0 _ _ _ H5.out
  have y1 := cell_of_row _ _ 1 _ _ _ H5.out
  have y2 := cell_of_row _ _ 2 _ _ _ H5.out
  have y3 := cell_of_row _ _ 3 _ _ _ H5.out
  have y4 := cell_of_row _ _ 4 _ _ _ H5.out
  have yl := lt_of_heap H5.out
  simp at y0 y1 y2 y3 y4
  go_wp2_with fail
  refine (HLF.out _).mono ?_
  rintro e' W7 ⟨rfl, hx7⟩
  have HX7 := Lib.hid (HX5.out.trans hx7)
  have hrl := row_lit W7 w.heap.size HX7.out.size (leafS 6 s.size (-2, t1, t2, t3)) rfl
  have hr7 := HR5.out.ext hx7
  clear hx7 y0 y1 y2 y3 y4 yl
  obtain ⟨lg, hlg⟩ : ∃ b, W7.heap.size = b := ⟨_, rfl⟩
  obtain ⟨W8, hW8⟩ : ∃ V, W7.alloc (.cells #[.int .i64 (leafS 6 s.size (-2, t1, t2, t3)).sym, .int .i64 (leafS 6 s.size (-2, t1, t2, t3)).kind, .int .i64 (leafS 6 s.size (-2, t1, t2, t3)).lo, .int .i64 (leafS 6 s.size (-2, t1, t2, t3)).inn, .int .i64 (leafS 6 s.size (-2, t1, t2, t3)).hi, .int .i64 (leafS 6 s.size (-2, t1, t2, t3)).look, nil0, .int .u64 0] 34) = V := ⟨_, rfl⟩
  have x78 : Ext W7 W8 := by rw [← hW8]; exact (by repeat (first | exact Ext.refl _ | refine Ext.alloc ?_ _ | refine Ext.more ?_ _ _ | refine Ext.drew ?_ | refine Ext.drewN ?_ _ | refine Ext.setCell ?_ (by simp <;> omega) _))
  rw [hW8, hlg] at hrl
  have HX8 := Lib.hid (HX7.out.trans x78)
  have HR8 := Lib.hid (hr7.ext x78)
  have HRL := Lib.hid hrl
  have HAP : Hid (Apart (.slice V3 rs3.length vc3) (.slice (some ⟨lg, 0, none⟩) 1 1)) := Lib.hid (fun g h1 h2 => by
    have e2 : lg = g := by injection h2
    have h3 := own_old hr7.own g h1
    omega)
  have HL3 : Hid (0 < rs3.length ∧ rs3.length ≤ 1000) := Lib.hid (by
    have h1 := shs_length HS3.out
    have h2 := HOK2.out.1
    have : 0 < (behindS [rootS s.size] ts).length := by simp [behindS, headS]
    omega)
  have HBH := Lib.hid (behind_any _ _ rs3 [⟨leafS 6 s.size (-2, t1, t2, t3), none, 0⟩] w W8 HR8.out HRL.out HAP.out HL3.out.1 (by simp) HL3.out.2 (by simp) (TsOk.bound HOK2.out (leaf_ok 6 s.size (-2, t1, t2, t3)) HS3.out rfl) HX8.out)
  rw [HS3.out] at HBH
  simp only [leafS] at hW8
  clear hr7 x78 hrl
  go_wp2_with fail
  try simp only [hlg, hW8]
  clear hlg hW8
  refine HBH.out.mono ?_
  rintro e' W9 ⟨v9, rs9, rfl, hr, hsh, htt, hx9⟩
  obtain ⟨V9, vc9, rfl⟩ := hr.len
  have HR9 := Lib.hid hr
  have HS9 := Lib.hid hsh
  have HX9 := Lib.hid hx9
  clear hr hsh htt hx9 HBH
  go_wp2_with fail
  exact bodyPost_ret (v := .tuple #[.slice V9 rs9.length vc9, .int .i64 0]) (by simp [results, Tryz.results22, go_sem, *]) rfl ⟨_, rs9, rfl, HR9.out, HS9.out, HX9.out⟩
end Go.Proofs.YthpmncdfaggkiaaGreat
/- The closed runs: Fresh of 'a 1' and of 'a b'. -/
namespace Go.Proofs.YthpmncdfaggkiaaGreat
open Go.RowKit
abbrev sA1 : ByteArray := ⟨#[97, 32, 49]⟩
set_option maxRecDepth 100000 in
theorem tokA1_0 : tokF sA1 0 = (0, 0, 1, 2) := by kernel_rfl
set_option maxRecDepth 100000 in
theorem tokA1_1 : tokF sA1 1 = (-1, 2, 3, 4) := by kernel_rfl
set_option maxRecDepth 100000 in
theorem tokA1_3 : tokF sA1 3 = (-2, 3, 3, 4) := by kernel_rfl
theorem ts_dec {ts : List Sh} (h : decide (ts.length ≤ 900) && ts.all (fun t => decide (t.ks.length ≤ 900) && t.ks.all (fun k => decide (0 ≤ k) && decide (k ≤ 900000))) = true) : TsOk ts := by
  simp only [Bool.and_eq_true, decide_eq_true_eq, List.all_eq_true] at h
  exact ⟨h.1, fun t ht => ⟨(h.2 t ht).1, fun k hk => (h.2 t ht).2 k hk⟩⟩
/-- the tree of 'a 1' -/
def treeA1 : List Sh := [⟨-3, 1, 0, 0, 3, 1, [1, 5]⟩, ⟨1, 2, 0, 0, 3, 2, [2, 3]⟩, ⟨0, 3, 0, 0, 1, 2, []⟩, ⟨1, 2, 1, 1, 3, 4, [4]⟩, ⟨-1, 5, 1, 2, 3, 4, []⟩, ⟨-2, 6, 3, 3, 3, 4, []⟩]
theorem fresh_a1 (lb : Nat) (w : World) (h : LangRd w lb) : Calls Tryz.prog 22 #[.pointer (some ⟨lb, 0, none⟩), .string sA1] w fun e w' => ∃ v rs, e = .returned (.tuple #[v, .int .i64 0]) ∧ RowA w' w.heap.size v rs ∧ shs rs = treeA1 ∧ Ext w w' := by
  have h1 := fun w1 (e1 : LangRd w1 lb) => tree_bad_end lb sA1 1 3 _ _ w1 e1 (by decide) (by decide) (by decide) tokA1_1 rfl rfl tokA1_3 rfl
  have h0 := fun w1 (e1 : LangRd w1 lb) => tree_word lb sA1 0 1 _ _ _ _ w1 e1 (by decide) (by decide) tokA1_0 rfl rfl rfl (ts_dec (by kernel_rfl)) h1
  refine (fresh_words lb sA1 _ _ _ _ w h (by decide) rfl (ts_dec (by kernel_rfl)) (ts_dec (by kernel_rfl)) (by kernel_rfl) tokA1_3 rfl h0).mono ?_
  rintro e w' ⟨v, rs, h1, h2, h3, h4⟩
  exact ⟨v, rs, h1, h2, h3.trans (by kernel_rfl), h4⟩
end Go.Proofs.YthpmncdfaggkiaaGreat
/- Nd: 6 texts in one. -/
/- Trees as lists. No program is named here. -/
namespace Go.Proofs.YthpmncdfaggkiaaGreat
/-- a part, its kids as a list -/
structure Nd where
  sym : Int
  kind : Int
  lo : Int
  inn : Int
  hi : Int
  look : Int
  kids : List Int
  met : Int
def LeafK (k : Int) : Prop := k ≠ 1 ∧ k ≠ 2
instance (k : Int) : Decidable (LeafK k) := inferInstanceAs (Decidable (_ ∧ _))
def TokK (k : Int) : Prop := k = 3 ∨ k = 5 ∨ k = 6
instance (k : Int) : Decidable (TokK k) := inferInstanceAs (Decidable (_ ∨ _))
/-- a part may be, its kids aside -/
def Bare (p : Nd) : Prop := 1 ≤ p.kind ∧ p.kind ≤ 6 ∧ 0 ≤ p.lo ∧ p.lo ≤ p.hi ∧ p.lo < p.look ∧ (TokK p.kind → p.lo ≤ p.inn ∧ p.inn ≤ p.hi) ∧ (¬ TokK p.kind → p.inn = p.lo) ∧ (p.kind = 4 → p.lo = p.hi) ∧ (LeafK p.kind → p.kids.length = 0)
instance (p : Nd) : Decidable (Bare p) := inferInstanceAs (Decidable (_ ∧ _))
/-- the places of some parts and all in them, as they should be: where the walk ends, and whether all was as it should -/
inductive Trek (l : List Nd) : List Int → Nat → Bool → Nat → Prop
  | nil (n : Nat) : Trek l [] n true n
  | bad (k : Int) (ks : List Int) (n : Nat) : (k ≠ (n : Int) ∨ l.length ≤ n) → Trek l (k :: ks) n false n
  | sub (p : Nd) (ks : List Int) (n m : Nat) : l[n]? = some p → Trek l p.kids (n + 1) false m → Trek l ((n : Int) :: ks) n false m
  | cons (p : Nd) (ks : List Int) (n m : Nat) (ok : Bool) (e : Nat) : l[n]? = some p → Trek l p.kids (n + 1) true m → Trek l ks m ok e → Trek l ((n : Int) :: ks) n ok e
theorem lt_of_get {α : Type} {l : List α} {n : Nat} {p : α} (h : l[n]? = some p) : n < l.length := (List.getElem?_eq_some_iff.1 h).1
theorem Trek.le {l : List Nd} {ks : List Int} {n m : Nat} {ok : Bool} (h : Trek l ks n ok m) : n ≤ m ∧ (n ≤ l.length → m ≤ l.length) := by
  induction h with
  | nil n => exact ⟨Nat.le_refl _, id⟩
  | bad k ks n _ => exact ⟨Nat.le_refl _, id⟩
  | sub p ks n m hp _ ih => have := lt_of_get hp; exact ⟨by omega, fun _ => ih.2 (by omega)⟩
  | cons p ks n m ok e hp _ _ ih1 ih2 => have := lt_of_get hp; exact ⟨by omega, fun _ => ih2.2 (ih1.2 (by omega))⟩
theorem trek_all (l : List Nd) : ∀ (d : Nat) (ks : List Int) (n : Nat), l.length - n ≤ d → ∃ ok m, Trek l ks n ok m := by
  intro d
  induction d with
  | zero =>
    intro ks n hd
    cases ks with
    | nil => exact ⟨_, _, .nil n⟩
    | cons k ks => exact ⟨_, _, .bad k ks n (.inr (by omega))⟩
  | succ d ih =>
    intro ks n hd
    cases ks with
    | nil => exact ⟨_, _, .nil n⟩
    | cons k ks =>
      by_cases h : k ≠ (n : Int) ∨ l.length ≤ n
      · exact ⟨_, _, .bad k ks n h⟩
      · have hk : k = (n : Int) := Decidable.byContradiction fun hc => h (.inl hc)
        have hn : n < l.length := Nat.lt_of_not_le fun hc => h (.inr hc)
        subst hk
        obtain ⟨p, hp⟩ : ∃ p, l[n]? = some p := ⟨_, List.getElem?_eq_getElem hn⟩
        obtain ⟨ok, m, h1⟩ := ih p.kids (n + 1) (by omega)
        cases ok with
        | false => exact ⟨_, _, .sub p ks n m hp h1⟩
        | true =>
          obtain ⟨ok, e, h2⟩ := ih ks m (by have := h1.le.1; omega)
          exact ⟨_, _, .cons p ks n m ok e hp h1 h2⟩
theorem Trek.det {l : List Nd} {ks : List Int} {n m : Nat} {ok : Bool} (h : Trek l ks n ok m) : ∀ {ok' : Bool} {m' : Nat}, Trek l ks n ok' m' → ok' = ok ∧ m' = m := by
  induction h with
  | nil n => intro ok' m' h'; cases h'; exact ⟨rfl, rfl⟩
  | bad k ks n hb =>
    intro ok' m' h'
    cases h' with
    | bad _ _ _ _ => exact ⟨rfl, rfl⟩
    | sub p _ _ _ hp _ => have := lt_of_get hp; omega
    | cons p _ _ _ _ _ hp _ _ => have := lt_of_get hp; omega
  | sub p ks n m hp h1 ih =>
    intro ok' m' h'
    have hl := lt_of_get hp
    cases h' with
    | bad _ _ _ hb => omega
    | sub p' _ _ _ hp' h1' => rw [hp] at hp'; cases hp'; exact ih h1'
    | cons p' _ _ m1 _ _ hp' h1' _ => rw [hp] at hp'; cases hp'; have := (ih h1').1; cases this
  | cons p ks n m ok e hp h1 h2 ih1 ih2 =>
    intro ok' m' h'
    have hl := lt_of_get hp
    cases h' with
    | bad _ _ _ hb => omega
    | sub p' _ _ _ hp' h1' => rw [hp] at hp'; cases hp'; have := (ih1 h1').1; cases this
    | cons p' _ _ m1 _ _ hp' h1' h2' =>
      rw [hp] at hp'; cases hp'
      obtain ⟨_, rfl⟩ := ih1 h1'
      exact ih2 h2'
/-- what a walk's first step is -/
theorem Trek.head {l : List Nd} {k : Int} {ks : List Int} {n m : Nat} {ok : Bool} (h : Trek l (k :: ks) n ok m) (hk : k = (n : Int)) {p : Nd} (hp : l[n]? = some p) :
    (ok = false ∧ Trek l p.kids (n + 1) false m) ∨ ∃ m1, Trek l p.kids (n + 1) true m1 ∧ Trek l ks m1 ok m := by
  have hl := lt_of_get hp
  cases h with
  | bad _ _ _ hb => omega
  | sub p' _ _ _ hp' h1' => rw [hp] at hp'; cases hp'; exact .inl ⟨rfl, h1'⟩
  | cons p' _ _ m1 _ _ hp' h1' h2' => rw [hp] at hp'; cases hp'; exact .inr ⟨m1, h1', h2'⟩
theorem Trek.stop {l : List Nd} {k : Int} {ks : List Int} {n m : Nat} {ok : Bool} (h : Trek l (k :: ks) n ok m) (hb : k ≠ (n : Int) ∨ l.length ≤ n) : ok = false ∧ m = n :=
  (Trek.bad k ks n hb).det h
theorem Trek.one {l : List Nd} {n m : Nat} {p : Nd} {ok : Bool} (hp : l[n]? = some p) (h : Trek l p.kids (n + 1) ok m) : Trek l [(n : Int)] n ok m := by
  cases ok with
  | false => exact .sub p _ n m hp h
  | true => exact .cons p _ n m true m hp h (.nil m)
theorem Trek.ofOne {l : List Nd} {n m : Nat} {p : Nd} {ok : Bool} (hp : l[n]? = some p) (h : Trek l [(n : Int)] n ok m) : Trek l p.kids (n + 1) ok m := by
  rcases h.head rfl hp with ⟨rfl, h1⟩ | ⟨m1, h1, h2⟩
  · exact h1
  · cases h2; exact h1
/-- how many kids the parts from n to m have -/
def kc (l : List Nd) (n m : Nat) : Nat := (((l.take m).drop n).map (fun p => p.kids.length)).sum
theorem kc_add (l : List Nd) {a b c : Nat} (h1 : a ≤ b) (h2 : b ≤ c) : kc l a c = kc l a b + kc l b c := by
  unfold kc
  have : (l.take c).drop a = (l.take b).drop a ++ (l.take c).drop b := by
    have e : l.take b = (l.take c).take b := by rw [List.take_take, Nat.min_eq_left h2]
    rw [e]
    conv => lhs; rw [← List.take_append_drop b (l.take c)]
    rw [List.drop_append]
    by_cases hb : b ≤ (l.take c).length
    · have : a - ((l.take c).take b).length = 0 := by rw [List.length_take]; omega
      rw [this, List.drop_zero]
    · have : (l.take c).drop b = [] := List.drop_eq_nil_of_le (by omega)
      rw [this]
      simp
  rw [this, List.map_append, List.sum_append]
theorem kc_one {l : List Nd} {n : Nat} {p : Nd} (hp : l[n]? = some p) : kc l n (n + 1) = p.kids.length := by
  unfold kc
  have hl := lt_of_get hp
  rw [List.take_succ_eq_append_getElem hl, List.drop_append]
  have : (l.take n).drop n = [] := List.drop_eq_nil_of_le (by rw [List.length_take]; omega)
  rw [this]
  have h2 : n - (l.take n).length = 0 := by rw [List.length_take]; omega
  rw [h2]
  have h3 : l[n] = p := by rw [List.getElem?_eq_getElem hl] at hp; injection hp
  simp [h3]
theorem kc_self (l : List Nd) (n : Nat) : kc l n n = 0 := by
  unfold kc
  rw [List.drop_eq_nil_of_le (by rw [List.length_take]; omega)]
  rfl
theorem Trek.count {l : List Nd} {ks : List Int} {n m : Nat} {ok : Bool} (h : Trek l ks n ok m) : (ok = true → kc l n m + ks.length = m - n) ∧ (ok = false → m - n + 1 ≤ kc l n m + ks.length) := by
  induction h with
  | nil n => exact ⟨fun _ => by rw [kc_self]; simp, fun h => by cases h⟩
  | bad k ks n _ => exact ⟨fun h => (by cases h), fun _ => by rw [List.length_cons]; omega⟩
  | sub p ks n m hp h1 ih =>
    refine ⟨fun h => (by cases h), fun _ => ?_⟩
    have := ih.2 rfl
    have hle := h1.le.1
    rw [kc_add l (show n ≤ n + 1 by omega) hle, kc_one hp, List.length_cons]
    omega
  | cons p ks n m ok e hp h1 h2 ih1 ih2 =>
    have a1 := ih1.1 rfl
    have hle := h1.le.1
    have hle2 := h2.le.1
    have hk : kc l n e = p.kids.length + kc l (n + 1) m + kc l m e := by
      rw [kc_add l (show n ≤ n + 1 by omega) (show n + 1 ≤ e by omega), kc_one hp, kc_add l hle hle2]; omega
    rw [hk, List.length_cons]
    exact ⟨fun h => by have := ih2.1 h; omega, fun h => by have := ih2.2 h; omega⟩
/-- a part that a walk comes by -/
theorem Trek.inside {l : List Nd} {ks : List Int} {n e : Nat} {ok : Bool} (h : Trek l ks n ok e) : ok = true → ∀ i, n ≤ i → i < e → ∃ p m, l[i]? = some p ∧ Trek l p.kids (i + 1) true m ∧ m ≤ e := by
  induction h with
  | nil n => intro _ i h1 h2; omega
  | bad k ks n _ => intro h; cases h
  | sub p ks n m hp h1 ih => intro h; cases h
  | cons p ks n m ok e hp h1 h2 ih1 ih2 =>
    intro hok i hi1 hi2
    have hle2 := h2.le.1
    rcases Nat.eq_or_lt_of_le hi1 with rfl | hlt
    · exact ⟨p, m, hp, h1, hle2⟩
    · rcases Nat.lt_or_ge i m with hm | hm
      · obtain ⟨q, m', a, b, c⟩ := ih1 rfl i hlt hm
        exact ⟨q, m', a, b, by omega⟩
      · exact ih2 hok i hm hi2
/-- the kids lie in it -/
theorem Trek.kid {l : List Nd} {ks : List Int} {n e : Nat} {ok : Bool} (h : Trek l ks n ok e) : ok = true → ∀ k ∈ ks, ∃ i : Nat, k = (i : Int) ∧ n ≤ i ∧ i < e := by
  induction h with
  | nil n => intro _ k hk; cases hk
  | bad k ks n _ => intro h; cases h
  | sub p ks n m hp h1 ih => intro h; cases h
  | cons p ks n m ok e hp h1 h2 ih1 ih2 =>
    intro hok k hk
    have hle := h1.le.1
    have hle2 := h2.le.1
    rcases List.mem_cons.1 hk with rfl | hk
    · exact ⟨n, rfl, Nat.le_refl _, by omega⟩
    · obtain ⟨i, a, b, c⟩ := ih2 hok k hk
      exact ⟨i, a, by omega, c⟩
/-- whoever lies in it is one of the kids, or a kid's -/
theorem Trek.whose {l : List Nd} {ks : List Int} {n e : Nat} {ok : Bool} (h : Trek l ks n ok e) : ok = true → ∀ i : Nat, n ≤ i → i < e → (i : Int) ∈ ks ∨ ∃ j p, n ≤ j ∧ j < i ∧ l[j]? = some p ∧ (i : Int) ∈ p.kids := by
  induction h with
  | nil n => intro _ i h1 h2; omega
  | bad k ks n _ => intro h; cases h
  | sub p ks n m hp h1 ih => intro h; cases h
  | cons p ks n m ok e hp h1 h2 ih1 ih2 =>
    intro hok i hi1 hi2
    have hle := h1.le.1
    rcases Nat.eq_or_lt_of_le hi1 with rfl | hlt
    · exact .inl (List.mem_cons_self ..)
    · rcases Nat.lt_or_ge i m with hm | hm
      · rcases ih1 rfl i hlt hm with hk | ⟨j, q, a, b, c, d⟩
        · exact .inr ⟨n, p, Nat.le_refl _, hlt, hp, hk⟩
        · exact .inr ⟨j, q, by omega, b, c, d⟩
      · rcases ih2 hok i hm hi2 with hk | ⟨j, q, a, b, c, d⟩
        · exact .inl (List.mem_cons_of_mem _ hk)
        · exact .inr ⟨j, q, by omega, b, c, d⟩
theorem Trek.append {l : List Nd} {ks ks' : List Int} {n m e : Nat} {ok ok' : Bool} (h : Trek l ks n ok m) : ok = true → Trek l ks' m ok' e → Trek l (ks ++ ks') n ok' e := by
  induction h with
  | nil n => intro _ h'; exact h'
  | bad k ks n _ => intro h; cases h
  | sub p ks n m hp h1 ih => intro h; cases h
  | cons p ks n m ok e hp h1 h2 ih1 ih2 => intro hok h'; exact .cons p _ n m ok' _ hp h1 (ih2 hok h')
theorem Trek.first {l : List Nd} {k : Int} {ks : List Int} {n e : Nat} (h : Trek l (k :: ks) n true e) : k = (n : Int) ∧ n < l.length := by
  cases h with
  | cons p _ _ m _ _ hp _ _ => exact ⟨rfl, lt_of_get hp⟩
/-- kids lie one behind the other -/
def liesB (l : List Nd) (hi : Int) : Int → List Int → Bool
  | a, [] => decide (a ≤ hi)
  | a, k :: ks => match l[k.toNat]? with
    | some q => decide (a ≤ q.lo) && liesB l hi q.hi ks
    | none => false
/-- a tree may be -/
structure Tree (l : List Nd) : Prop where
  bare : ∀ i p, l[i]? = some p → Bare p ∧ (0 < i → p.kind ≠ 1)
  trek : Trek l [0] 0 true l.length
  lies : ∀ p ∈ l, liesB l p.hi p.lo p.kids = true
theorem Tree.pos {l : List Nd} (h : Tree l) : 0 < l.length := h.trek.first.2
open Classical in
noncomputable def checkF (l : List Nd) : Int := if l.length > 524288 then 3 else if Tree l then 0 else 2
/-- a part that lies in a tree: its own walk -/
theorem Tree.at {l : List Nd} (h : Tree l) {i : Nat} (hi : i < l.length) : ∃ p m, l[i]? = some p ∧ Trek l p.kids (i + 1) true m ∧ m ≤ l.length :=
  h.trek.inside rfl i (Nat.zero_le _) hi
theorem Tree.up {l : List Nd} (h : Tree l) {i : Nat} (h0 : 0 < i) (hi : i < l.length) : ∃ j p, j < i ∧ l[j]? = some p ∧ (i : Int) ∈ p.kids := by
  rcases h.trek.whose rfl i (Nat.zero_le _) hi with hk | ⟨j, p, _, a, b, c⟩
  · simp at hk; omega
  · exact ⟨j, p, a, b, c⟩
/-- a kid's walk ends in it -/
theorem Trek.nest {l : List Nd} {ks : List Int} {n e : Nat} (h : Trek l ks n true e) {i : Nat} (hk : (i : Int) ∈ ks) : ∃ p m, l[i]? = some p ∧ Trek l p.kids (i + 1) true m ∧ m ≤ e ∧ n ≤ i := by
  obtain ⟨i', hi, h1, h2⟩ := h.kid rfl _ hk
  have : i = i' := by omega
  subst this
  obtain ⟨p, m, a, b, c⟩ := h.inside rfl i h1 h2
  exact ⟨p, m, a, b, c, h1⟩
/-- each part is a kid of one at most -/
theorem Trek.once {l : List Nd} {ks : List Int} {n e : Nat} {ok : Bool} (h : Trek l ks n ok e) : ok = true →
    (∀ (i j : Nat) p, n ≤ j → j < e → l[j]? = some p → (i : Int) ∈ p.kids → (i : Int) ∉ ks) ∧
    (∀ (i j j' : Nat) p q, n ≤ j → j < e → n ≤ j' → j' < e → l[j]? = some p → l[j']? = some q → (i : Int) ∈ p.kids → (i : Int) ∈ q.kids → j = j') := by
  induction h with
  | nil n => intro _; exact ⟨fun i j p h1 h2 => by omega, fun i j j' p q h1 h2 => by omega⟩
  | bad k ks n _ => intro h; cases h
  | sub p ks n m hp h1 ih => intro h; cases h
  | cons p ks n m ok e hp h1 h2 ih1 ih2 =>
    intro hok
    subst hok
    have hle := h1.le.1
    have hle2 := h2.le.1
    obtain ⟨a1, a2⟩ := ih1 rfl
    obtain ⟨b1, b2⟩ := ih2 rfl
    -- where the kids of a part of [n, e) lie
    have own : ∀ (i j : Nat) q, n ≤ j → j < e → l[j]? = some q → (i : Int) ∈ q.kids → (j = n ∧ n + 1 ≤ i ∧ i < m) ∨ (n + 1 ≤ j ∧ j < m ∧ n + 1 ≤ i ∧ i < m) ∨ (m ≤ j ∧ m ≤ i ∧ i < e) := by
      intro i j q hj1 hj2 hq hi
      rcases Nat.eq_or_lt_of_le hj1 with rfl | hlt
      · rw [hp] at hq; cases hq
        obtain ⟨i', e1, e2, e3⟩ := h1.kid rfl _ hi
        exact .inl ⟨rfl, by omega, by omega⟩
      · rcases Nat.lt_or_ge j m with hm | hm
        · obtain ⟨q', m', e1, e2, e3⟩ := h1.inside rfl j hlt hm
          rw [hq] at e1; cases e1
          obtain ⟨i', f1, f2, f3⟩ := e2.kid rfl _ hi
          exact .inr (.inl ⟨hlt, hm, by omega, by omega⟩)
        · obtain ⟨q', m', e1, e2, e3⟩ := h2.inside rfl j hm hj2
          rw [hq] at e1; cases e1
          obtain ⟨i', f1, f2, f3⟩ := e2.kid rfl _ hi
          exact .inr (.inr ⟨hm, by omega, by omega⟩)
    refine ⟨?_, ?_⟩
    · intro i j q hj1 hj2 hq hi hmem
      rcases List.mem_cons.1 hmem with he | hmem
      · rcases own i j q hj1 hj2 hq hi with h | h | h <;> omega
      · obtain ⟨i', f1, f2, f3⟩ := h2.kid rfl _ hmem
        rcases own i j q hj1 hj2 hq hi with h | h | h
        · omega
        · omega
        · exact b1 i j q h.1 hj2 hq hi hmem
    · intro i j j' q q' hj1 hj2 hj1' hj2' hq hq' hi hi'
      rcases own i j q hj1 hj2 hq hi with h | h | h <;> rcases own i j' q' hj1' hj2' hq' hi' with h' | h' | h'
      · omega
      · exfalso
        rw [h.1] at hq
        rw [hp] at hq
        cases hq
        exact a1 i j' q' h'.1 h'.2.1 hq' hi' hi
      · omega
      · exfalso
        rw [h'.1] at hq'
        rw [hp] at hq'
        cases hq'
        exact a1 i j q h.1 h.2.1 hq hi hi'
      · exact a2 i j j' q q' h.1 h.2.1 h'.1 h'.2.1 hq hq' hi hi'
      · omega
      · omega
      · omega
      · exact b2 i j j' q q' h.1 hj2 h'.1 hj2' hq hq' hi hi'
/-- whose a part is: told of one -/
def Up (l : List Nd) (i j : Nat) : Prop := ∃ p, l[j]? = some p ∧ (i : Int) ∈ p.kids
theorem Tree.up_lt {l : List Nd} (h : Tree l) {i j : Nat} (hu : Up l i j) : j < i ∧ i < l.length := by
  obtain ⟨p, hp, hk⟩ := hu
  obtain ⟨q, m, a, b, c⟩ := h.at (lt_of_get hp)
  rw [hp] at a; cases a
  obtain ⟨i', e1, e2, e3⟩ := b.kid rfl _ hk
  omega
theorem Tree.up_one {l : List Nd} (h : Tree l) {i j j' : Nat} (hu : Up l i j) (hu' : Up l i j') : j = j' := by
  obtain ⟨p, hp, hk⟩ := hu
  obtain ⟨q, hq, hk'⟩ := hu'
  exact (h.trek.once rfl).2 i j j' p q (Nat.zero_le _) (lt_of_get hp) (Nat.zero_le _) (lt_of_get hq) hp hq hk hk'
end Go.Proofs.YthpmncdfaggkiaaGreat
/- Trees as lists: a part cut out, a tree put in a part's place. No program is named here. -/
namespace Go.Proofs.YthpmncdfaggkiaaGreat
/-- a part whose kids' places are moved -/
def Nd.by (f : Int → Int) (p : Nd) : Nd := { p with kids := p.kids.map f }
@[simp] theorem Nd.by_kids (f : Int → Int) (p : Nd) : (p.by f).kids = p.kids.map f := rfl
@[simp] theorem Nd.by_lo (f : Int → Int) (p : Nd) : (p.by f).lo = p.lo := rfl
@[simp] theorem Nd.by_hi (f : Int → Int) (p : Nd) : (p.by f).hi = p.hi := rfl
@[simp] theorem Nd.by_kind (f : Int → Int) (p : Nd) : (p.by f).kind = p.kind := rfl
@[simp] theorem Nd.by_sym (f : Int → Int) (p : Nd) : (p.by f).sym = p.sym := rfl
theorem Bare.by {p : Nd} (h : Bare p) (f : Int → Int) : Bare (p.by f) := by
  unfold Bare at h ⊢
  simpa [Nd.by] using h
def movedF (d : Int) (l : List Nd) : List Nd := l.map (Nd.by (· + d))
/-- a part, and all in it: the parts from i to m -/
def subF (l : List Nd) (i m : Nat) : List Nd := movedF (-(i : Int)) ((l.drop i).take (m - i))
def aheadK (i by_ : Int) (k : Int) : Int := if i < k then k + by_ else k
/-- a tree in the place of the part from i to m -/
def putF (l : List Nd) (i m : Nat) (s : List Nd) : List Nd :=
  (l.take i).map (Nd.by (aheadK i ((s.length : Int) - ((m : Int) - i)))) ++ (movedF i s ++ movedF ((s.length : Int) - ((m : Int) - i)) (l.drop m))
theorem get_moved {d : Int} {l : List Nd} (j : Nat) : (movedF d l)[j]? = (l[j]?).map (Nd.by (· + d)) := by
  unfold movedF
  rw [List.getElem?_map]
theorem get_sub {l : List Nd} {i m j : Nat} (hj : j < m - i) : (subF l i m)[j]? = (l[i + j]?).map (Nd.by (· + -(i : Int))) := by
  unfold subF
  rw [get_moved, List.getElem?_take_of_lt hj, List.getElem?_drop]
theorem len_sub {l : List Nd} {i m : Nat} (hm : m ≤ l.length) : (subF l i m).length = m - i := by
  unfold subF movedF
  rw [List.length_map, List.length_take, List.length_drop]
  omega
/-- a walk through parts that are moved as a whole -/
theorem Trek.shift {l l' : List Nd} {d : Int} {ks : List Int} {n m : Nat} {ok : Bool} (h : Trek l ks n ok m) : ok = true → ∀ n' m' : Nat, (n' : Int) = n + d → (m' : Int) = m + d →
    (∀ j j' : Nat, n ≤ j → j < m → (j' : Int) = j + d → ∃ p, l[j]? = some p ∧ ∃ q, l'[j']? = some q ∧ q.kids = p.kids.map (· + d)) → Trek l' (ks.map (· + d)) n' true m' := by
  induction h with
  | nil n =>
    intro _ n' m' h1 h2 _
    have : n' = m' := by omega
    subst this
    exact .nil n'
  | bad k ks n _ => intro h; cases h
  | sub p ks n m hp h1 ih => intro h; cases h
  | cons p ks n m ok e hp h1 h2 ih1 ih2 =>
    intro hok n' e' hn he hc
    have hle := h1.le.1
    have hle2 := h2.le.1
    obtain ⟨m', hm⟩ : ∃ m' : Nat, (m' : Int) = m + d := ⟨(m + d).toNat, by omega⟩
    obtain ⟨p', hp', q, hq, hk⟩ := hc n n' (Nat.le_refl _) (by omega) hn
    rw [hp] at hp'
    cases hp'
    rw [List.map_cons, ← hn]
    refine .cons q _ n' m' true e' hq ?_ (ih2 hok m' e' hm he fun j j' a b c => hc j j' (by omega) b c)
    rw [hk]
    exact ih1 rfl (n' + 1) m' (by omega) hm fun j j' a b c => hc j j' (by omega) (by omega) c
/-- a walk through parts of which one is replaced: what lies behind it moves -/
theorem Trek.put {l l' : List Nd} {i m m' : Nat} {d : Int} (hd : (m' : Int) = m + d) (him : Trek l [(i : Int)] i true m) (him' : Trek l' [(i : Int)] i true m')
    (h1 : ∀ j : Nat, j < i → ∀ p, l[j]? = some p → ∃ q, l'[j]? = some q ∧ q.kids = p.kids.map (aheadK i d))
    (h2 : ∀ j j' : Nat, m ≤ j → (j' : Int) = j + d → ∀ p, l[j]? = some p → ∃ q, l'[j']? = some q ∧ q.kids = p.kids.map (· + d))
    {ks : List Int} {n e : Nat} {ok : Bool} (h : Trek l ks n ok e) : ok = true → n ≤ i → i < e → ∀ e' : Nat, (e' : Int) = e + d → Trek l' (ks.map (aheadK i d)) n true e' := by
  -- parts behind the place move
  have far : ∀ {ks : List Int} {n e : Nat}, Trek l ks n true e → m ≤ n → ∀ n' e' : Nat, (n' : Int) = n + d → (e' : Int) = e + d → Trek l' (ks.map (aheadK i d)) n' true e' := by
    intro ks n e h hn n' e' hn' he'
    have hlt : i < m := by
      obtain ⟨p, m1, a, b, c, _⟩ := him.nest (List.mem_singleton.2 rfl)
      have := b.le.1
      omega
    have he : ks.map (aheadK i d) = ks.map (· + d) := by
      refine List.map_congr_left fun k hk => ?_
      obtain ⟨j, rfl, hj, _⟩ := h.kid rfl k hk
      simp only [aheadK]
      rw [if_pos (by omega)]
    rw [he]
    refine h.shift rfl n' e' hn' he' fun j j' a b c => ?_
    obtain ⟨p, m1, hp, _⟩ := h.inside rfl j a b
    obtain ⟨q, hq, hk⟩ := h2 j j' (by omega) c p hp
    exact ⟨p, hp, q, hq, hk⟩
  induction h with
  | nil n => intro _ a b; omega
  | bad k ks n _ => intro h; cases h
  | sub p ks n m hp h1 ih => intro h; cases h
  | cons p ks n m1 ok e hp t1 t2 ih1 ih2 =>
    intro hok hni hie e' he'
    subst hok
    have hle := t1.le.1
    have hle2 := t2.le.1
    have hlt' := him'.le.1
    rw [List.map_cons]
    rcases Nat.eq_or_lt_of_le hni with rfl | hlt
    · -- the part itself
      have hm : m1 = m := (him.det (Trek.one hp t1)).2
      subst hm
      have hk : aheadK (n : Int) d (n : Int) = (n : Int) := by simp [aheadK]
      rw [hk]
      exact him'.append rfl (far t2 (Nat.le_refl _) m' e' hd he')
    · have hk : aheadK (i : Int) d (n : Int) = (n : Int) := by simp only [aheadK]; rw [if_neg (by omega)]
      rw [hk]
      obtain ⟨q, hq, hqk⟩ := h1 n hlt p hp
      rcases Nat.lt_or_ge i m1 with hm | hm
      · -- it lies in the first
        have hmm : m ≤ m1 := by
          obtain ⟨p2, m2, a, b, c⟩ := t1.inside rfl i hlt hm
          have := (him.det (Trek.one a b)).2
          omega
        obtain ⟨m1', hm1'⟩ : ∃ m1' : Nat, (m1' : Int) = m1 + d := ⟨(m1 + d).toNat, by omega⟩
        refine .cons q _ n m1' true e' hq ?_ (far t2 hmm m1' e' hm1' he')
        rw [hqk]
        exact ih1 rfl hlt hm m1' hm1'
      · -- it lies behind the first
        refine .cons q _ n m1 true e' hq ?_ (ih2 rfl hm hie e' he')
        rw [hqk]
        have he : p.kids.map (aheadK i d) = p.kids.map (· + 0) := by
          refine List.map_congr_left fun k hk => ?_
          obtain ⟨j, rfl, hj, hj2⟩ := t1.kid rfl k hk
          simp only [aheadK]
          rw [if_neg (by omega)]
          omega
        rw [he]
        refine t1.shift rfl (n + 1) m1 (by omega) (by omega) fun j j' a b c => ?_
        obtain rfl : j' = j := by omega
        obtain ⟨p2, m2, hp2, t3, hm2⟩ := t1.inside rfl j' a b
        obtain ⟨q2, hq2, hk2⟩ := h1 j' (by omega) p2 hp2
        refine ⟨p2, hp2, q2, hq2, ?_⟩
        rw [hk2]
        refine List.map_congr_left fun k hk => ?_
        obtain ⟨j2, rfl, hj, hj2⟩ := t3.kid rfl k hk
        simp only [aheadK]
        rw [if_neg (by omega)]
        omega
end Go.Proofs.YthpmncdfaggkiaaGreat
/- Trees as lists: what is cut out is a tree; what is put together is one. No program is named here. -/
namespace Go.Proofs.YthpmncdfaggkiaaGreat
theorem liesB_map {l l' : List Nd} {f : Int → Int} {hi : Int} : ∀ (ks : List Int) (a : Int), (∀ k ∈ ks, ∀ q, l[k.toNat]? = some q → ∃ q', l'[(f k).toNat]? = some q' ∧ q'.lo = q.lo ∧ q'.hi = q.hi) →
    liesB l hi a ks = true → liesB l' hi a (ks.map f) = true
  | [], a, _, h => h
  | k :: ks, a, hc, h => by
    rw [List.map_cons]
    unfold liesB at h ⊢
    cases hq : l[k.toNat]? with
    | none => rw [hq] at h; cases h
    | some q =>
      rw [hq] at h
      obtain ⟨q', h1, h2, h3⟩ := hc k (List.mem_cons_self ..) q hq
      rw [h1]
      simp only [Bool.and_eq_true] at h ⊢
      rw [h2, h3]
      exact ⟨h.1, liesB_map ks q.hi (fun k hk => hc k (List.mem_cons_of_mem _ hk)) h.2⟩
/-- a part's place in a tree: its walk ends at m -/
structure Part (l : List Nd) (i m : Nat) : Prop where
  lt : i < l.length
  trek : Trek l [(i : Int)] i true m
  le : m ≤ l.length
theorem Part.lt_end {l : List Nd} {i m : Nat} (h : Part l i m) : i < m := by
  obtain ⟨p, m1, a, b, c, _⟩ := h.trek.nest (List.mem_singleton.2 rfl)
  have := b.le.1
  omega
/-- the kids of the parts in a part lie in it, and behind its own place -/
theorem Part.kid_in {l : List Nd} {i m : Nat} (h : Part l i m) {j : Nat} (h1 : i ≤ j) (h2 : j < m) {p : Nd} (hp : l[j]? = some p) : ∀ k ∈ p.kids, ∃ c : Nat, k = (c : Int) ∧ j < c ∧ c < m := by
  intro k hk
  obtain ⟨q, m1, a, b, c⟩ := h.trek.inside rfl j h1 h2
  rw [hp] at a
  cases a
  obtain ⟨c', e1, e2, e3⟩ := b.kid rfl k hk
  exact ⟨c', e1, by omega, by omega⟩
/-- the kids of a part ahead of a part's place are not in it, but for the part itself -/
theorem Part.kid_ahead {l : List Nd} (T : Tree l) {i m : Nat} (h : Part l i m) {j : Nat} (h1 : j < i) {p : Nd} (hp : l[j]? = some p) : ∀ k ∈ p.kids, ∃ c : Nat, k = (c : Int) ∧ j < c ∧ c < l.length ∧ (c ≤ i ∨ m ≤ c) := by
  intro k hk
  obtain ⟨q, m1, a, b, c⟩ := T.at (lt_of_get hp)
  rw [hp] at a
  cases a
  obtain ⟨c', e1, e2, e3⟩ := b.kid rfl k hk
  refine ⟨c', e1, by omega, by omega, ?_⟩
  rcases Nat.lt_or_ge i c' with hlt | hge
  · rcases Nat.lt_or_ge c' m with hm | hm
    · exfalso
      rcases h.trek.whose rfl c' (by omega) hm with he | ⟨j', p', f1, f2, f3, f4⟩
      · have := List.mem_singleton.1 he
        omega
      · have := T.up_one (i := c') (j := j) (j' := j') ⟨p, hp, by rw [← e1]; exact hk⟩ ⟨p', f3, f4⟩
        omega
    · exact .inr hm
  · exact .inl hge
/-- the kids of a part behind a part lie behind it -/
theorem Tree.kid_behind {l : List Nd} (T : Tree l) {j : Nat} {p : Nd} (hp : l[j]? = some p) : ∀ k ∈ p.kids, ∃ c : Nat, k = (c : Int) ∧ j < c ∧ c < l.length := by
  intro k hk
  obtain ⟨q, m1, a, b, c⟩ := T.at (lt_of_get hp)
  rw [hp] at a
  cases a
  obtain ⟨c', e1, e2, e3⟩ := b.kid rfl k hk
  exact ⟨c', e1, by omega, by omega⟩
theorem Tree.sub {l : List Nd} (T : Tree l) {i m : Nat} (h : Part l i m) : Tree (subF l i m) := by
  have hlen := len_sub (i := i) h.le
  have hlt := h.lt_end
  have hget : ∀ j q, (subF l i m)[j]? = some q → j < m - i ∧ ∃ p, l[i + j]? = some p ∧ q = p.by (· + -(i : Int)) := by
    intro j q hq
    have hj := lt_of_get hq
    rw [hlen] at hj
    rw [get_sub hj] at hq
    cases hp : l[i + j]? with
    | none => rw [hp] at hq; cases hq
    | some p => rw [hp] at hq; exact ⟨hj, p, rfl, by injection hq with hq; exact hq.symm⟩
  refine ⟨?_, ?_, ?_⟩
  · intro j q hq
    obtain ⟨hj, p, hp, rfl⟩ := hget j q hq
    obtain ⟨a, b⟩ := T.bare _ _ hp
    exact ⟨a.by _, fun h0 => b (by omega)⟩
  · have := h.trek.shift (l' := subF l i m) (d := -(i : Int)) rfl 0 (m - i) (by omega) (by omega) (by
      intro j j' a b c
      obtain ⟨p, m1, hp, _⟩ := h.trek.inside rfl j a b
      refine ⟨p, hp, p.by (· + -(i : Int)), ?_, rfl⟩
      rw [get_sub (by omega), show i + j' = j by omega, hp]
      rfl)
    rw [hlen]
    have e : [(i : Int)].map (· + -(i : Int)) = [0] := by
      simp only [List.map_cons, List.map_nil]
      congr 1
      omega
    rw [e] at this
    exact this
  · intro q hq
    obtain ⟨j, hj, hjq⟩ := List.getElem_of_mem hq
    obtain ⟨hj', p, hp, rfl⟩ := hget j q (by rw [List.getElem?_eq_getElem hj, hjq])
    refine liesB_map (l := l) p.kids p.lo ?_ (T.lies p (List.mem_of_getElem? hp))
    intro k hk q hq
    obtain ⟨c, rfl, h1, h2⟩ := h.kid_in (by omega) (by omega) hp k hk
    rw [Int.toNat_natCast] at hq
    refine ⟨q.by (· + -(i : Int)), ?_, rfl, rfl⟩
    rw [show ((c : Int) + -(i : Int)).toNat = c - i by omega, get_sub (by omega), show i + (c - i) = c by omega, hq]
    rfl
section
variable {l s : List Nd} {i m : Nat}
theorem get_put_ahead (hi : i ≤ l.length) {j : Nat} (hj : j < i) : (putF l i m s)[j]? = (l[j]?).map (Nd.by (aheadK i ((s.length : Int) - ((m : Int) - i)))) := by
  unfold putF
  rw [List.getElem?_append_left (by rw [List.length_map, List.length_take]; omega), List.getElem?_map, List.getElem?_take_of_lt hj]
theorem get_put_in (hi : i ≤ l.length) {j : Nat} (hj : j < s.length) : (putF l i m s)[i + j]? = (s[j]?).map (Nd.by (· + (i : Int))) := by
  unfold putF
  rw [List.getElem?_append_right (by rw [List.length_map, List.length_take]; omega), List.length_map, List.length_take, List.getElem?_append_left (by unfold movedF; rw [List.length_map]; omega),
    show i + j - min i l.length = j by omega, get_moved]
theorem get_put_behind (hi : i ≤ l.length) (j : Nat) : (putF l i m s)[i + s.length + j]? = (l[m + j]?).map (Nd.by (· + ((s.length : Int) - ((m : Int) - i)))) := by
  unfold putF
  rw [List.getElem?_append_right (by rw [List.length_map, List.length_take]; omega), List.length_map, List.length_take, List.getElem?_append_right (by unfold movedF; rw [List.length_map]; omega)]
  have : (movedF (i : Int) s).length = s.length := by unfold movedF; rw [List.length_map]
  rw [this, show i + s.length + j - min i l.length - s.length = j by omega, get_moved, List.getElem?_drop]
theorem len_put (hi : i ≤ l.length) (hm : m ≤ l.length) : (putF l i m s).length = i + s.length + (l.length - m) := by
  unfold putF movedF
  simp only [List.length_append, List.length_map, List.length_take, List.length_drop]
  omega
/-- where a part of what was put together comes from -/
theorem put_cases (hi : i ≤ l.length) {j : Nat} {q : Nd} (hq : (putF l i m s)[j]? = some q) :
    (j < i ∧ ∃ p, l[j]? = some p ∧ q = p.by (aheadK i ((s.length : Int) - ((m : Int) - i)))) ∨
    (∃ c, j = i + c ∧ c < s.length ∧ ∃ p, s[c]? = some p ∧ q = p.by (· + (i : Int))) ∨
    (∃ c, j = i + s.length + c ∧ ∃ p, l[m + c]? = some p ∧ q = p.by (· + ((s.length : Int) - ((m : Int) - i)))) := by
  have key : ∀ {o : Option Nd} {f : Int → Int}, o.map (Nd.by f) = some q → ∃ p, o = some p ∧ q = p.by f := by
    intro o f h
    cases o with
    | none => cases h
    | some p => exact ⟨p, rfl, by injection h with h; exact h.symm⟩
  rcases Nat.lt_or_ge j i with h | h
  · rw [get_put_ahead hi h] at hq
    exact .inl ⟨h, key hq⟩
  · rcases Nat.lt_or_ge j (i + s.length) with h' | h'
    · obtain ⟨c, rfl⟩ : ∃ c, j = i + c := ⟨j - i, by omega⟩
      rw [get_put_in hi (by omega)] at hq
      exact .inr (.inl ⟨c, rfl, by omega, key hq⟩)
    · obtain ⟨c, rfl⟩ : ∃ c, j = i + s.length + c := ⟨j - (i + s.length), by omega⟩
      rw [get_put_behind hi] at hq
      exact .inr (.inr ⟨c, rfl, key hq⟩)
theorem Part.of_put (h : Part l i m) (S : Tree s) : Part (putF l i m s) i (i + s.length) := by
  have hp := S.pos
  have hl := len_put (s := s) (Nat.le_of_lt h.lt) h.le
  refine ⟨by omega, ?_, by omega⟩
  have := S.trek.shift (l' := putF l i m s) (d := (i : Int)) rfl i (i + s.length) (by omega) (by omega) (by
    intro j j' a b c
    obtain ⟨p, m1, hp, _⟩ := S.trek.inside rfl j a b
    refine ⟨p, hp, p.by (· + (i : Int)), ?_, rfl⟩
    rw [show j' = i + j by omega, get_put_in (Nat.le_of_lt h.lt) b, hp]
    rfl)
  simpa using this
theorem Tree.put (T : Tree l) (h : Part l i m) (S : Tree s) {p q : Nd} (hp : l[i]? = some p) (hq : s[0]? = some q) (e1 : q.kind = p.kind) (e2 : q.lo = p.lo) (e3 : q.hi = p.hi) : Tree (putF l i m s) := by
  have hi := Nat.le_of_lt h.lt
  have hlt := h.lt_end
  have hl := len_put (s := s) hi h.le
  have hle := h.le
  have hs := S.pos
  refine ⟨?_, ?_, ?_⟩
  · intro j x hx
    rcases put_cases hi hx with ⟨hj, y, hy, rfl⟩ | ⟨c, rfl, hc, y, hy, rfl⟩ | ⟨c, rfl, y, hy, rfl⟩
    · obtain ⟨a, b⟩ := T.bare _ _ hy
      exact ⟨a.by _, b⟩
    · obtain ⟨a, b⟩ := S.bare _ _ hy
      refine ⟨a.by _, fun h0 => ?_⟩
      rcases Nat.eq_zero_or_pos c with rfl | hc0
      · rw [hq] at hy
        cases hy
        rw [Nd.by_kind, e1]
        exact (T.bare i p hp).2 (by omega)
      · exact b hc0
    · obtain ⟨a, b⟩ := T.bare _ _ hy
      exact ⟨a.by _, fun _ => b (by omega)⟩
  · have := Trek.put (l := l) (l' := putF l i m s) (m' := i + s.length) (d := (s.length : Int) - ((m : Int) - i)) (by omega) h.trek (h.of_put S).trek
      (by
        intro j hj y hy
        refine ⟨_, (get_put_ahead hi hj).trans (by rw [hy]; rfl), rfl⟩)
      (by
        intro j j' hj hj' y hy
        obtain ⟨c, rfl⟩ : ∃ c, j = m + c := ⟨j - m, by omega⟩
        refine ⟨_, (by rw [show j' = i + s.length + c by omega]; exact (get_put_behind hi c).trans (by rw [hy]; rfl)), rfl⟩)
      T.trek rfl (Nat.zero_le _) h.lt (putF l i m s).length (by omega)
    have e : [(0 : Int)].map (aheadK (i : Int) ((s.length : Int) - ((m : Int) - i))) = [0] := by
      simp only [List.map_cons, List.map_nil, aheadK]
      rw [if_neg (by omega)]
    rw [e] at this
    exact this
  · intro x hx
    obtain ⟨j, hj, hjx⟩ := List.getElem_of_mem hx
    have hx' : (putF l i m s)[j]? = some x := by rw [List.getElem?_eq_getElem hj, hjx]
    rcases put_cases hi hx' with ⟨hj, y, hy, rfl⟩ | ⟨c, rfl, hc, y, hy, rfl⟩ | ⟨c, rfl, y, hy, rfl⟩
    · refine liesB_map (l := l) y.kids y.lo ?_ (T.lies y (List.mem_of_getElem? hy))
      intro k hk z hz
      obtain ⟨c, rfl, c1, c2, c3⟩ := h.kid_ahead T hj hy k hk
      rw [Int.toNat_natCast] at hz
      simp only [aheadK]
      rcases c3 with c3 | c3
      · rw [if_neg (by omega), Int.toNat_natCast]
        rcases Nat.eq_or_lt_of_le c3 with rfl | c4
        · rw [hp] at hz
          cases hz
          have g := get_put_in (l := l) (s := s) (m := m) hi hs
          rw [Nat.add_zero, hq] at g
          exact ⟨_, g, e2, e3⟩
        · refine ⟨z.by _, (get_put_ahead hi c4).trans (by rw [hz]; rfl), rfl, rfl⟩
      · rw [if_pos (by omega)]
        obtain ⟨c', rfl⟩ : ∃ c', c = m + c' := ⟨c - m, by omega⟩
        refine ⟨z.by _, (by rw [show ((m + c' : Nat) + ((s.length : Int) - ((m : Int) - i)) : Int).toNat = i + s.length + c' by omega]; exact (get_put_behind hi c').trans (by rw [hz]; rfl)), rfl, rfl⟩
    · refine liesB_map (l := s) y.kids y.lo ?_ (S.lies y (List.mem_of_getElem? hy))
      intro k hk z hz
      obtain ⟨c', rfl, c1, c2⟩ := S.kid_behind hy k hk
      rw [Int.toNat_natCast] at hz
      refine ⟨z.by _, (by rw [show ((c' : Int) + (i : Int)).toNat = i + c' by omega]; exact (get_put_in hi c2).trans (by rw [hz]; rfl)), rfl, rfl⟩
    · refine liesB_map (l := l) y.kids y.lo ?_ (T.lies y (List.mem_of_getElem? hy))
      intro k hk z hz
      obtain ⟨c', rfl, c1, c2⟩ := T.kid_behind hy k hk
      rw [Int.toNat_natCast] at hz
      obtain ⟨c2', rfl⟩ : ∃ c2', c' = m + c2' := ⟨c' - m, by omega⟩
      refine ⟨z.by _, (by rw [show ((m + c2' : Nat) + ((s.length : Int) - ((m : Int) - i)) : Int).toNat = i + s.length + c2' by omega]; exact (get_put_behind hi c2').trans (by rw [hz]; rfl)), rfl, rfl⟩
end
end Go.Proofs.YthpmncdfaggkiaaGreat
/- Trees as lists: what an edit makes of one. No program is named here. -/
namespace Go.Proofs.YthpmncdfaggkiaaGreat
/-- an edit, and what it does to the bits of a part that it meets -/
structure Ed where
  a : Int
  d : Int
  i : Int
  om : Int → Int
/-- an edit meets a span -/
def Meet (f t : Int) (E : Ed) : Prop := (0 < E.d ∧ E.a < t ∧ f < E.a + E.d) ∨ (0 < E.i ∧ f < E.a ∧ E.a < t)
instance (f t : Int) (E : Ed) : Decidable (Meet f t E) := inferInstanceAs (Decidable (_ ∨ _))
section
variable {E : Ed} {l out : List Nd}
end
end Go.Proofs.YthpmncdfaggkiaaGreat
/- Trees as lists: whose a part is, its way, what is stale. No program is named here. -/
namespace Go.Proofs.YthpmncdfaggkiaaGreat
def ParOk (l : List Nd) (us : List Int) : Prop := us.length = l.length ∧ us[0]? = some (-1) ∧ ∀ i j : Nat, Up l i j → us[i]? = some (j : Int)
theorem Tree.up' {l : List Nd} (T : Tree l) {i : Nat} (h0 : 0 < i) (hi : i < l.length) : ∃ j, Up l i j ∧ j < i := by
  obtain ⟨j, p, a, b, c⟩ := T.up h0 hi
  exact ⟨j, ⟨p, b, c⟩, a⟩
theorem ParOk.one {l : List Nd} {a b : List Int} (T : Tree l) (ha : ParOk l a) (hb : ParOk l b) : a = b := by
  apply List.ext_getElem?
  intro i
  rcases Nat.lt_or_ge i l.length with h | h
  · rcases Nat.eq_zero_or_pos i with rfl | h0
    · rw [ha.2.1, hb.2.1]
    · obtain ⟨j, hu, _⟩ := T.up' h0 h
      rw [ha.2.2 i j hu, hb.2.2 i j hu]
  · rw [List.getElem?_eq_none (by have := ha.1; omega), List.getElem?_eq_none (by have := hb.1; omega)]
/-- the symbols on the way to a part -/
inductive Way (l : List Nd) : Nat → List Int → Prop
  | root (p : Nd) : l[0]? = some p → Way l 0 [p.sym]
  | step (i j : Nat) (p : Nd) (ws : List Int) : Up l i j → l[i]? = some p → Way l j ws → Way l i (ws ++ [p.sym])
theorem Way.all {l : List Nd} (T : Tree l) : ∀ (n i : Nat), i ≤ n → i < l.length → ∃ ws, Way l i ws := by
  intro n
  induction n with
  | zero =>
    intro i hi hl
    obtain rfl : i = 0 := by omega
    exact ⟨_, .root _ (List.getElem?_eq_getElem hl)⟩
  | succ n ih =>
    intro i hi hl
    rcases Nat.eq_zero_or_pos i with rfl | h0
    · exact ⟨_, .root _ (List.getElem?_eq_getElem hl)⟩
    · obtain ⟨j, hu, hj⟩ := T.up' h0 hl
      obtain ⟨ws, hw⟩ := ih j (by omega) (by omega)
      exact ⟨_, .step i j _ ws hu (List.getElem?_eq_getElem hl) hw⟩
theorem Way.det {l : List Nd} (T : Tree l) {i : Nat} {a : List Int} (h : Way l i a) : ∀ {b : List Int}, Way l i b → b = a := by
  induction h with
  | root p hp =>
    intro b hb
    cases hb with
    | root q hq => rw [hp] at hq; cases hq; rfl
    | step _ j q ws hu _ _ => have := T.up_lt hu; omega
  | step i j p ws hu hp _ ih =>
    intro b hb
    cases hb with
    | root q hq => have := T.up_lt hu; omega
    | step _ j' q ws' hu' hq hw' =>
      have := T.up_one hu hu'
      subst this
      rw [hp] at hq
      cases hq
      rw [ih hw']
theorem Way.ends {l : List Nd} {i : Nat} {ws : List Int} (h : Way l i ws) : ∃ p us, l[i]? = some p ∧ ws = us ++ [p.sym] := by
  cases h with
  | root p hp => exact ⟨p, [], hp, rfl⟩
  | step _ j p us hu hp _ => exact ⟨p, us, hp, rfl⟩
theorem Way.length {l : List Nd} (T : Tree l) {i : Nat} {ws : List Int} (h : Way l i ws) : ws.length ≤ i + 1 := by
  induction h with
  | root p hp => simp
  | step i j p ws hu hp _ ih =>
    have := T.up_lt hu
    rw [List.length_append]
    simp only [List.length_singleton]
    omega
/-- what is behind a part ends in whose it is -/
theorem Part.nest {l : List Nd} {i j m m' : Nat} (h : Part l i m) (h' : Part l j m') (hu : Up l i j) : m ≤ m' := by
  obtain ⟨p, hp, hk⟩ := hu
  have t := Trek.ofOne hp h'.trek
  obtain ⟨q, m2, a, b, c, _⟩ := t.nest hk
  have := (h.trek.det (Trek.one a b)).2
  omega
theorem Part.det {l : List Nd} {i m m' : Nat} (h : Part l i m) (h' : Part l i m') : m' = m := (h.trek.det h'.trek).2
end Go.Proofs.YthpmncdfaggkiaaGreat
/- What the document's 'end' tells of a tree. No program is named here. -/
namespace Go.Proofs.YthpmncdfaggkiaaGreat
end Go.Proofs.YthpmncdfaggkiaaGreat
/- Nt: 2 texts in one. -/
/- Slices of parts as lists. No program is named here. -/
namespace Go.Proofs.YthpmncdfaggkiaaGreat
open Go.RowKit
/-- a part that lies in memory: its kids lie from kA on -/
structure Prt where
  nd : Nd
  kA : Option Addr
  kc : Nat
def I64 (x : Int) : Prop := -9223372036854775808 ≤ x ∧ x ≤ 9223372036854775807
structure PrtOk (w : World) (p : Prt) : Prop where
  kids : Ints w p.kA p.nd.kids
  cap : p.nd.kids.length ≤ p.kc
  top : p.kc ≤ 9223372036854775807
  none : p.kA = none → p.kc = 0
  sym : I64 p.nd.sym
  kind : I64 p.nd.kind
  lo : I64 p.nd.lo
  inn : I64 p.nd.inn
  hi : I64 p.nd.hi
  look : I64 p.nd.look
  met : 0 ≤ p.nd.met ∧ p.nd.met ≤ 18446744073709551615
  ks : ∀ k ∈ p.nd.kids, I64 k
def prtCells (p : Prt) : List Value := [.int .i64 p.nd.sym, .int .i64 p.nd.kind, .int .i64 p.nd.lo, .int .i64 p.nd.inn, .int .i64 p.nd.hi, .int .i64 p.nd.look, .slice p.kA p.nd.kids.length p.kc, .int .u64 p.nd.met]
/-- the parts of a slice lie in the cells from A on -/
def Prts (w : World) (A : Option Addr) (ps : List Prt) : Prop :=
  0 < ps.length → ∃ b off, A = some ⟨b, off, none⟩ ∧ b < w.heap.size ∧ ∀ k p, ps[k]? = some p →
    w.cell? ⟨b, off + k * 8, none⟩ = some (.int .i64 p.nd.sym) ∧ w.cell? ⟨b, off + k * 8 + 1, none⟩ = some (.int .i64 p.nd.kind) ∧
    w.cell? ⟨b, off + k * 8 + 2, none⟩ = some (.int .i64 p.nd.lo) ∧ w.cell? ⟨b, off + k * 8 + 3, none⟩ = some (.int .i64 p.nd.inn) ∧
    w.cell? ⟨b, off + k * 8 + 4, none⟩ = some (.int .i64 p.nd.hi) ∧ w.cell? ⟨b, off + k * 8 + 5, none⟩ = some (.int .i64 p.nd.look) ∧
    w.cell? ⟨b, off + k * 8 + 6, none⟩ = some (.slice p.kA p.nd.kids.length p.kc) ∧ w.cell? ⟨b, off + k * 8 + 7, none⟩ = some (.int .u64 p.nd.met)
def PrtsOk (w : World) (ps : List Prt) : Prop := ∀ p ∈ ps, PrtOk w p
def nds (ps : List Prt) : List Nd := ps.map (·.nd)
theorem nds_get {ps : List Prt} {k : Nat} {p : Prt} (h : ps[k]? = some p) : (nds ps)[k]? = some p.nd := by unfold nds; rw [List.getElem?_map, h]; rfl
theorem nds_get' {ps : List Prt} {k : Nat} {q : Nd} (h : (nds ps)[k]? = some q) : ∃ p, ps[k]? = some p ∧ p.nd = q := by
  unfold nds at h
  rw [List.getElem?_map] at h
  cases hp : ps[k]? with
  | none => rw [hp] at h; cases h
  | some p => rw [hp] at h; exact ⟨p, rfl, by injection h⟩
theorem nds_length (ps : List Prt) : (nds ps).length = ps.length := by unfold nds; rw [List.length_map]
theorem Prts.nil {w : World} {A : Option Addr} : Prts w A [] := fun h => by simp at h
/-- what holds of cells below a block count holds behind -/
theorem Prts.below {w w' : World} {A : Option Addr} {ps : List Prt} (h : Prts w A ps) (e : Below w.heap.size w w') : Prts w' A ps := fun h0 => by
  obtain ⟨b, off, hA, hb, hc⟩ := h h0
  refine ⟨b, off, hA, by have := e.size; omega, fun j p hj => ?_⟩
  obtain ⟨a0, a1, a2, a3, a4, a5, a6, a7⟩ := hc j p hj
  exact ⟨(e.cell (p := ⟨b, off + j * 8, .none⟩) hb).trans a0, (e.cell (p := ⟨b, off + j * 8 + 1, .none⟩) hb).trans a1, (e.cell (p := ⟨b, off + j * 8 + 2, .none⟩) hb).trans a2, (e.cell (p := ⟨b, off + j * 8 + 3, .none⟩) hb).trans a3,
    (e.cell (p := ⟨b, off + j * 8 + 4, .none⟩) hb).trans a4, (e.cell (p := ⟨b, off + j * 8 + 5, .none⟩) hb).trans a5, (e.cell (p := ⟨b, off + j * 8 + 6, .none⟩) hb).trans a6, (e.cell (p := ⟨b, off + j * 8 + 7, .none⟩) hb).trans a7⟩
theorem Prts.ext {w w' : World} {A : Option Addr} {ps : List Prt} (h : Prts w A ps) (e : Ext w w') : Prts w' A ps := h.below e.below
theorem PrtOk.below {w w' : World} {p : Prt} (h : PrtOk w p) (e : Below w.heap.size w w') : PrtOk w' p := ⟨h.kids.below e, h.cap, h.top, h.none, h.sym, h.kind, h.lo, h.inn, h.hi, h.look, h.met, h.ks⟩
theorem PrtOk.ext {w w' : World} {p : Prt} (h : PrtOk w p) (e : Ext w w') : PrtOk w' p := h.below e.below
theorem PrtsOk.ext {w w' : World} {ps : List Prt} (h : PrtsOk w ps) (e : Ext w w') : PrtsOk w' ps := fun p hp => (h p hp).ext e
theorem PrtsOk.below {w w' : World} {ps : List Prt} (h : PrtsOk w ps) (e : Below w.heap.size w w') : PrtsOk w' ps := fun p hp => (h p hp).below e
theorem PrtsOk.get {w : World} {ps : List Prt} (h : PrtsOk w ps) {k : Nat} {p : Prt} (hp : ps[k]? = some p) : PrtOk w p := h p (List.mem_of_getElem? hp)
/-- a part of the slice -/
theorem Prts.drop {w : World} {A : Option Addr} {ps : List Prt} (h : Prts w A ps) (k c : Nat) (hc : ps.length ≤ c) : Prts w (if c = k then A else A.map (·.add (k * 8))) (ps.drop k) := fun h0 => by
  rw [List.length_drop] at h0
  obtain ⟨b, off, rfl, hb, hcell⟩ := h (by omega)
  rw [if_neg (by omega)]
  refine ⟨b, off + k * 8, ?_, hb, fun j p hj => ?_⟩
  · simp only [Option.map_some, Addr.add]
    split <;> rename_i hk <;> simp_all
  · rw [List.getElem?_drop] at hj
    have := hcell (k + j) p hj
    rw [Nat.add_mul, ← Nat.add_assoc] at this
    exact this
end Go.Proofs.YthpmncdfaggkiaaGreat
/- What Edit has done before it comes to a part. No program is named here. -/
namespace Go.Proofs.YthpmncdfaggkiaaGreat
end Go.Proofs.YthpmncdfaggkiaaGreat
/- A1: 3 texts in one. -/
/- The contracts of leaf, token, bare. -/
namespace Go.Proofs.YthpmncdfaggkiaaGreat
open Go.RowKit
attribute [local go_sem] more_drew more_drewN more_size more_cell more_frozen more_setCell drew_more drewN_more lt_add_r lt_add_r2 lt_add_r3 lt_add_r4 lt_add_r5 lt_add_r6 lt_self_r lt_self_r2
theorem leaf_any (k : Int) (w : World) : Calls Tryz.prog 169 #[.int .i64 k] w fun e w' => e = .returned (.bool (decide (LeafK k))) ∧ w = w' := by
  have H : decide (LeafK k) = ((k != 1) && (k != 2)) := by
    rw [Bool.eq_iff_iff, decide_eq_true_iff]
    unfold LeafK
    simp
  replace H := Lib.hid H
  go_enter Tryz.func169, Tryz.ntmps169
  go_wp2
  all_goals go_ret
  all_goals exact ⟨ret_bool (by rw [H.out] <;> simp [*]), rfl⟩
theorem token_any (k : Int) (w : World) : Calls Tryz.prog 168 #[.int .i64 k] w fun e w' => e = .returned (.bool (decide (TokK k))) ∧ w = w' := by
  have H : decide (TokK k) = (((k == 3) || (k == 5)) || (k == 6)) := by
    rw [Bool.eq_iff_iff, decide_eq_true_iff]
    unfold TokK
    simp [or_assoc]
  replace H := Lib.hid H
  go_enter Tryz.func168, Tryz.ntmps168
  go_wp2
  all_goals go_ret
  all_goals exact ⟨ret_bool (by rw [H.out] <;> simp [*]), rfl⟩
end Go.Proofs.YthpmncdfaggkiaaGreat
/- The contracts of bare, both texts. -/
namespace Go.Proofs.YthpmncdfaggkiaaGreat
open Go.RowKit
attribute [local go_sem] more_drew more_drewN more_size more_cell more_frozen more_setCell drew_more drewN_more lt_add_r lt_add_r2 lt_add_r3 lt_add_r4 lt_add_r5 lt_add_r6 lt_self_r lt_self_r2
/-- a part as a value -/
abbrev aggV (p : Prt) : Value := .agg #[.int .i64 p.nd.sym, .int .i64 p.nd.kind, .int .i64 p.nd.lo, .int .i64 p.nd.inn, .int .i64 p.nd.hi, .int .i64 p.nd.look, .slice p.kA p.nd.kids.length p.kc, .int .u64 p.nd.met]
set_option maxHeartbeats 1000000 in
theorem bare_any (p : Prt) (w : World) : Calls Tryz.prog 121 #[aggV p] w fun e w' => e = .returned (.bool (decide (Bare p.nd))) ∧ Ext w w' := by
  obtain ⟨⟨sym, kind, lo, inn, hi, look, kids, met⟩, kA, kc⟩ := p
  go_enter Tryz.func121, Tryz.ntmps121
  go_wp2_with (first | (go_at_call 168; refine (token_any _ _).mono ?_; rintro e w' ⟨rfl, rfl⟩) | (go_at_call 169; refine (leaf_any _ _).mono ?_; rintro e w' ⟨rfl, rfl⟩) | go_in)
  all_goals go_ret
  all_goals refine ⟨ret_bool ?_, (Ext.refl _).alloc _⟩
  all_goals (rw [Bool.eq_iff_iff, decide_eq_true_iff])
  all_goals grind [Bare, TokK, LeafK]
end Go.Proofs.YthpmncdfaggkiaaGreat
/- The contract of lies. -/
namespace Go.Proofs.YthpmncdfaggkiaaGreat
open Go.RowKit
attribute [local go_sem] more_drew more_drewN more_size more_cell more_frozen more_setCell drew_more drewN_more lt_add_r lt_add_r2 lt_add_r3 lt_add_r4 lt_add_r5 lt_add_r6 lt_add_r7 lt_add_r8 lt_add_r9 lt_add_r10 lt_self_r lt_self_r2
/-- all kids are places -/
def KidsIn (n : Nat) (ks : List Int) : Prop := ∀ k ∈ ks, ∃ j : Nat, k = (j : Int) ∧ j < n
set_option maxRecDepth 100000 in
set_option maxHeartbeats 1000000 in
theorem lies_any (A : Option Addr) (c : Nat) (ps : List Prt) (p : Prt) (w : World) (hP : Prts w A ps) (hl : ps.length ≤ 9223372036854775807) (hp : PrtOk w p) (hk : KidsIn ps.length p.nd.kids) :
    Calls Tryz.prog 124 #[.slice A ps.length c, aggV p] w fun e w' => e = .returned (.bool (liesB (nds ps) p.nd.hi p.nd.lo p.nd.kids)) ∧ Ext w w' := by
  have HK := Lib.hid hk
  have HP := Lib.hid hP
  have HKI := Lib.hid hp.kids
  have hc1 := hp.cap
  have hc2 := hp.top
  clear hk hP hp
  obtain ⟨⟨sym, kind, lo, inn, hi, look, kids, met⟩, kA, kc⟩ := p
  dsimp only at *
  go_enter Tryz.func124, Tryz.ntmps124
  go_wp2
  go_loop [5, 13] (fun a i => ∃ (j : Nat) (x : Int), j ≤ kids.length ∧ a = .int .i64 x ∧ i = .int .i64 j ∧ Hid (liesB (nds ps) hi lo kids = liesB (nds ps) hi x (kids.drop j))) (fun _ i => kids.length - (intOf i).toNat)
  case atStart => exact ⟨0, lo, Nat.zero_le _, rfl, rfl, Lib.hid rfl⟩
  case round =>
    obtain ⟨j, x, hj, rfl, rfl, he⟩ := hrel
    by_cases hlt : j < kids.length
    · obtain ⟨b, off, rfl, hb, hcell⟩ := HKI.out (by omega)
      have c1 := hcell j hlt
      obtain ⟨i, hi1, hi2⟩ := HK.out (kids.getD j 0) (by rw [List.getD_eq_getElem?_getD, List.getElem?_eq_getElem hlt]; exact List.getElem_mem hlt)
      rw [hi1] at c1
      obtain ⟨q, hq⟩ : ∃ q, ps[i]? = some q := ⟨_, List.getElem?_eq_getElem hi2⟩
      obtain ⟨b2, off2, rfl, hb2, hcell2⟩ := HP.out (by omega)
      obtain ⟨_, _, d2, _, d4, _⟩ := hcell2 i q hq
      have HS : Hid (liesB (nds ps) hi x (kids.drop j) = (decide (x ≤ q.nd.lo) && liesB (nds ps) hi q.nd.hi (kids.drop (j + 1)))) := by
        rw [List.drop_eq_getElem_cons hlt]
        have e : kids[j] = (i : Int) := by rw [← hi1, List.getD_eq_getElem?_getD, List.getElem?_eq_getElem hlt]; rfl
        rw [e]
        simp only [liesB, Int.toNat_natCast]
        rw [nds_get hq]
        exact Lib.hid rfl
      have hbs : b ≠ w.heap.size := by omega
      have hbs2 : b2 ≠ w.heap.size := by omega
      clear hcell hcell2 hi1 hq
      by_cases hx : x ≤ q.nd.lo
      · go_wp2
        go_round
        case rel => exact ⟨j + 1, q.nd.hi, by omega, rfl, by go_num, Lib.hid (by rw [he.out, HS.out, decide_eq_true hx, Bool.true_and])⟩
        case measure => simp [intOf]; omega
      · go_wp2
        go_ret
        exact ⟨ret_bool (by rw [he.out, HS.out, decide_eq_false (by omega), Bool.false_and]), (by repeat (first | exact Ext.refl _ | refine Ext.alloc ?_ _ | refine Ext.more ?_ _ _ | refine Ext.drew ?_ | refine Ext.drewN ?_ _ | refine Ext.setCell ?_ (by simp <;> omega) _))⟩
    · obtain rfl : j = kids.length := by omega
      go_wp2
      go_ret
      exact ⟨ret_bool (by rw [he.out, List.drop_eq_nil_of_le (Nat.le_refl _)]; rfl), (by repeat (first | exact Ext.refl _ | refine Ext.alloc ?_ _ | refine Ext.more ?_ _ _ | refine Ext.drew ?_ | refine Ext.drewN ?_ _ | refine Ext.setCell ?_ (by simp <;> omega) _))⟩
end Go.Proofs.YthpmncdfaggkiaaGreat
