/- H5: 2 texts in one. -/
import Derived.Test.YtaffaeompdlecaaH3
import Derived.Test.YtaffaeompdlecaaD3
import Derived.Test.YtaffaeompdlecaaB7
import Derived.WalkSpells
import Derived.WalkLawsBesides
import Derived.BigRegion
import Derived.Deep.RegionWith
import Derived.Deep.QuietTactic
import Derived.Deep.DeepCutAuto
import Derived.Deep.RegionHeld3
import Derived.Deep.RegionLaw
import Derived.BigQuiet
import Derived.Lib.Hide
/- The contracts of slices.Values over parts, reuse.fold over parts, reuse.Look. -/
namespace Go.Proofs.Ytaffaeompdlecaa
open Go.RowKit
attribute [local go_sem] more_drew more_drewN more_size more_cell more_frozen more_setCell drew_more drewN_more lt_add_r lt_add_r2 lt_add_r3 lt_add_r4 lt_add_r5 lt_add_r6 lt_add_r7 lt_add_r8 lt_add_r9 lt_add_r10 lt_self_r lt_self_r2
attribute [local go_sem] Oper.semAt_some

def encP (p : Prt) : Array Value := #[aggV p]
theorem values_make (A : Option Addr) (n c : Nat) (w : World) :
    Calls Try.prog 133 #[.slice A n c] w fun e w' => e = .returned (.func (.func 161) #[] #[pt w.heap.size]) ∧ w' = w.alloc (.cells #[.slice A n c] 22) := by
  go_enter Try.func133, Try.ntmps133
  go_wp2_with fail
  go_ret
  exact ⟨rfl, rfl⟩
set_option maxRecDepth 100000 in
set_option maxHeartbeats 2000000 in
theorem values_iter (A : Option Addr) (c : Nat) (ps : List Prt) (w0 w1 : World) (fb : Nat) (S : Nat → Prop) (hS : PS w0 A c ps)
    (h0 : Below w0.heap.size w0 w1) (hfb : w1.heap[fb]? = some (.cells #[.slice A ps.length c] 22)) (hfree : ∀ b, b < w0.heap.size → ¬ S b) :
    IterG Try.prog 161 #[pt fb] encP ps S (fun _ _ => True) w1 := by
  intro l J Jx K0 hSl hlw hK0 hJ hJx hR hY hJ0
  have hlen := hS.few.len
  have SP := Lib.hid hS
  have HFR := Lib.hid hfree
  have HY := Lib.hid hY
  have HJ := Lib.hid hJ
  have c0 := cell_of_row _ _ 0 _ _ _ hfb
  simp at c0
  have l0 := lt_of_heap hfb
  have HB0S := Lib.hid h0.size
  have HSL2 := Lib.hid hSl
  have S0 : Hid (Below w0.heap.size w0 w1 ∧ w1.heap.size ≤ w1.heap.size ∧ J 0 K0 w1 ∧ ∀ b, K0 b → S b ∨ w1.heap.size ≤ b) := Lib.hid ⟨h0, Nat.le_refl _, hJ0, fun b hb => .inl (hK0 b hb).1⟩
  clear hS hfree hY hJ hJx hJ0 h0 hfb hSl hlw hK0 hR
  simp only [List.append_toArray, List.cons_append, List.nil_append]
  go_enter Try.func161, Try.ntmps161
  go_wp2_with fail
  clear c0 l0
  go_loopw [7] (fun v wr => ∃ (j : Nat) (K : Nat → Prop), j ≤ ps.length ∧ v = .int .i64 j ∧ Hid (Below w0.heap.size w0 wr ∧ w1.heap.size ≤ wr.heap.size ∧ J j K wr ∧ ∀ b, K b → S b ∨ w1.heap.size ≤ b)) (fun v _ => ps.length - (intOf v).toNat)
  case atStart => exact ⟨0, K0, Nat.zero_le _, rfl, S0⟩
  case round =>
    obtain ⟨j, K, hj, rfl, hs⟩ := hrel
    by_cases hlt : j < ps.length
    · obtain ⟨p, hp⟩ : ∃ p, ps[j]? = some p := ⟨_, List.getElem?_eq_getElem hlt⟩
      obtain ⟨s1, s2, s3, s4⟩ := hs.out
      obtain ⟨b, off, hA, hb, hcell⟩ := (SP.out.below s1).parts (by omega)
      obtain ⟨d0, d1, d2, d3, d4, d5, d6, d7⟩ := hcell j p hp
      have hcap := SP.out.cap
      obtain ⟨W4, hW4⟩ : ∃ W4, wr.alloc (.cells (prtCells p).toArray 35) = W4 := ⟨_, rfl⟩
      have X4 : Ext wr W4 := by rw [← hW4]; exact (by repeat (first | exact Ext.refl _ | refine Ext.alloc ?_ _ | refine Ext.more ?_ _ _ | refine Ext.drew ?_ | refine Ext.drewN ?_ _ | refine Ext.setCell ?_ (by simp <;> omega) _))
      have hP4 : W4.heap[wr.heap.size]? = some (.cells (prtCells p).toArray 35) := by rw [← hW4]; exact heap_alloc_new _ _
      obtain ⟨fn, tmps, assign, body, hy, hRound⟩ := HY.out j p K W4 hp (Nat.le_trans s2 X4.size) (HJ.out _ _ _ _ X4 s3)
      unfold encP aggV at hy
      have HR := Lib.hid hRound
      have HW4 := Lib.hid hW4
      obtain ⟨ly, y0, y1, y2, y3, y4, y5, y6, y7⟩ := part_cells hP4
      rw [hA]
      have HX4 := Lib.hid X4
      clear hRound hcell hp s1 s2 s3 s4 hA hW4 X4 hP4
      go_upto_region 3 with fail
      rw [show wr.alloc (.cells #[.int .i64 p.nd.sym, .int .i64 p.nd.kind, .int .i64 p.nd.lo, .int .i64 p.nd.inn, .int .i64 p.nd.hi, .int .i64 p.nd.look, .slice p.kA p.nd.kids.length p.kc, .int .u64 p.nd.met] 35) = W4 from HW4.out]
      refine (wpIn_wide (n := 1)).1 ?_
      gi_wp2
      refine HR.out.mono ?_
      rintro e w8 ⟨t8, (⟨rfl, K', hK', hJ8⟩ | ⟨rfl, hJ8⟩)⟩
      · obtain ⟨s1, s2, s3, s4⟩ := hs.out
        have n1 := (s1.trans (HX4.out.below.mono s1.size)).trans (t8.below (Nat.le_trans s1.size HX4.out.size) fun k hk => Nat.le_of_not_lt fun h => by
          rcases hk with hk | rfl
          · rcases s4 k hk with hk | hk
            · exact HFR.out k h hk
            · have := HB0S.out; omega
          · exact HFR.out k h HSL2.out)
        have n2 := Nat.le_trans s2 (Nat.le_trans HX4.out.size t8.size)
        have n4 : ∀ b, K' b → S b ∨ w1.heap.size ≤ b := fun b hb => by
          rcases hK' b hb with hk | hk
          · exact s4 b hk
          · have := HX4.out.size; exact .inr (by omega)
        have N8 := Lib.hid (show Below w0.heap.size w0 w8 ∧ w1.heap.size ≤ w8.heap.size ∧ J (j + 1) K' w8 ∧ ∀ b, K' b → S b ∨ w1.heap.size ≤ b from ⟨n1, n2, hJ8, n4⟩)
        clear n1 n2 n4 hK' t8 hJ8 hs s1 s2 s3 s4 y0 y1 y2 y3 y4 y5 y6 y7 ly
        gi_wp2
        go_wp2_with fail
        go_roundw
        case rel => exact ⟨j + 1, K', by omega, by go_num, N8⟩
        case measure => simp [intOf]; omega
      · have n3 := Nat.le_trans hs.out.2.1 (Nat.le_trans HX4.out.size t8.size)
        clear t8 hs
        gi_wp2
        go_wp2_with fail
        refine bodyPost_ret (results_none rfl _ _ _) rfl ?_
        exact ⟨⟨_, rfl⟩, n3, .inr ⟨j + 1, by omega, hJ8⟩⟩
    · obtain rfl : j = ps.length := by omega
      go_wp2_with fail
      go_end0
      exact ⟨⟨_, rfl⟩, hs.out.2.1, .inl ⟨K, hs.out.2.2.1⟩⟩
/-- where fold over parts is -/
def FoP (w : World) (b : Nat) (G : Nat) (f : Int → Prt → Int) (x0 : Int) (xs : List Prt) (j : Nat) (K : Nat → Prop) (W : World) : Prop :=
  W.heap[b]? = some (.cells #[.int .i64 ((xs.take j).foldl f x0)] 3) ∧ W.heap[b + 1]? = some (.cells #[.func (.func G) #[] #[]] 123) ∧ Below w.heap.size w W ∧ ∀ k, K k ↔ k = b
theorem FoP.turn {w : World} {b n0 G : Nat} {f : Int → Prt → Int} {x0 : Int} {xs : List Prt} {j : Nat} {K : Nat → Prop} {W W' : World} (h : FoP w b G f x0 xs j K W) (hb : b + 1 < n0) (hw : w.heap.size ≤ n0) (hn : n0 ≤ W.heap.size) (t : Turn (fun k => k = n0 ∨ k = n0 + 1) W W') :
    FoP w b G f x0 xs j K W' := by
  obtain ⟨h1, h2, h3, h4⟩ := h
  exact ⟨(t.block _ (lt_of_heap h1) (by omega)).trans h1, (t.block _ (lt_of_heap h2) (by omega)).trans h2, h3.trans (t.below (by omega) fun k hk => by omega), h4⟩
set_option maxRecDepth 100000 in
set_option maxHeartbeats 2000000 in
theorem foldP_any (F G : Nat) (lb : Array Value) (xs : List Prt) (f : Int → Prt → Int) (x0 : Int) (w : World) (eg : ∀ args w, (callFunc F args).run Try.prog w = .ok (.enter F args) w) (egG : Enters Try.prog G)
    (hIter : ∀ w1, Ext w w1 → IterG Try.prog F lb encP xs (fun k => w.heap.size ≤ k) (fun _ _ => True) w1)
    (hf : ∀ (wr : World) (acc : Int) (p : Prt), Calls Try.prog G #[.int .i64 acc, aggV p] wr fun e w' => e = .returned (.int .i64 (f acc p)) ∧ Ext wr w') :
    Calls Try.prog 132 #[.func (.func F) #[] lb, .int .i64 x0, .func (.func G) #[] #[]] w fun e w' => e = .returned (.int .i64 (xs.foldl f x0)) ∧ Ext w w' := by
  have HI := Lib.hid hIter
  have HF := Lib.hid hf
  unfold Enters at egG
  clear hIter hf
  refine calls_of_marks Try.func132 rfl ?_
  simp only [Try.ntmps132, List.size_toArray, List.length_cons, List.length_nil, Nat.reduceAdd, Nat.reduceSub, Array.replicate_succ, Array.replicate_zero, List.push_toArray, List.append_toArray, List.nil_append, List.cons_append]
  go_wp2_with fail
  obtain ⟨b, hb⟩ : ∃ b, w.heap.size = b := ⟨_, rfl⟩
  obtain ⟨W0, hW0⟩ : ∃ W0, (w.alloc (.cells #[.int .i64 x0] 3)).alloc (.cells #[.func (.func G) #[] #[]] 123) = W0 := ⟨_, rfl⟩
  have X0 : Ext w W0 := by rw [← hW0]; exact (by repeat (first | exact Ext.refl _ | refine Ext.alloc ?_ _ | refine Ext.more ?_ _ _ | refine Ext.drew ?_ | refine Ext.drewN ?_ _ | refine Ext.setCell ?_ (by simp <;> omega) _))
  have G0 : W0.heap[b]? = some (.cells #[.int .i64 x0] 3) := by rw [← hW0, ← hb]; exact (by simp only [heap_alloc_get, World.size_alloc]; (repeat (split; (first | rfl | (exfalso; omega)))); (try (first | (exfalso; omega) | simp_all)))
  have G1 : W0.heap[b + 1]? = some (.cells #[.func (.func G) #[] #[]] 123) := by rw [← hW0, ← hb]; exact (by simp only [heap_alloc_get, World.size_alloc]; (repeat (split; (first | rfl | (exfalso; omega)))); (try (first | (exfalso; omega) | simp_all)))
  have S0 : W0.heap.size = b + 2 := by rw [← hW0, ← hb]; simp
  rw [hW0, hb]
  clear hW0
  refine wp_rangeG (gf := F) (lb := lb) (encs := encP) (xs := xs) (S := fun k => w.heap.size ≤ k) (R := fun _ _ => True) rfl eg (fun _ => rfl) (by omega) (fun w1 hx _ => HI.out w1 (X0.trans hx))
    (fun j K W => FoP w b G f x0 xs j K W) (fun _ _ _ => False) (fun k => k = b) (fun k hk => by omega) ?_ (fun _ _ _ _ _ _ h => h) ?_ (fun _ _ _ _ => trivial) ?_ ?_ ?_ (fun _ _ _ _ h => h.elim)
  · rintro j K U U' ht hsz hA
    rw [S0] at ht hsz
    exact hA.turn (by omega) (by omega) (by omega) ht
  · rintro j K U ⟨h1, h2, h3, h4⟩
    rw [S0]
    exact ⟨fun h => by have := (h4 _).1 h; omega, fun h => by have := (h4 _).1 h; omega⟩
  · intro U hU
    exact ⟨ext_block G0 hU, ext_block G1 hU, (X0.trans hU).below, fun k => Iff.rfl⟩
  · rintro l j x K W hx hI hsz
    clear hI
    simp only [encP, aggV]
    gi_wp2
    refine ⟨(by repeat (first | exact Ext.refl _ | refine Ext.alloc ?_ _ | refine Ext.more ?_ _ _ | refine Ext.drew ?_ | refine Ext.drewN ?_ _ | refine Ext.setCell ?_ (by simp <;> omega) _)), ?_⟩
    obtain ⟨m, hm⟩ : ∃ m, W.heap.size = m := ⟨_, rfl⟩
    have hP0 := heap_alloc_new W (.cells (prtCells x).toArray 35)
    rw [hm] at hP0 ⊢
    rintro W2 t2 ⟨h1, h2, h3, h4⟩ hsz2
    rw [S0] at hsz t2
    have hP2 := (t2.block m (lt_of_heap hP0) (by omega)).trans hP0
    obtain ⟨ly, y0, y1, y2, y3, y4, y5, y6, y7⟩ := part_cells hP2
    have k0 := cell_of_row _ _ 0 _ _ _ h1
    have k1 := cell_of_row _ _ 0 _ _ _ h2
    simp at k0 k1
    have l0 := lt_of_heap h1
    have l1 := lt_of_heap h2
    have f0 : W2.frozen? ⟨b, 0, none⟩ = false := by simp [World.frozen?, h1]
    obtain ⟨acc, hacc⟩ : ∃ acc, (xs.take j).foldl f x0 = acc := ⟨_, rfl⟩
    have CF := Lib.hid (HF.out W2 acc x)
    have HN := Lib.hid (fold_take (f := f) (x0 := x0) hx)
    rw [hacc] at HN k0
    have H1 := Lib.hid h1
    have H2 := Lib.hid h2
    have H3 := Lib.hid h3
    have H4 := Lib.hid h4
    have HM := Lib.hid hm
    clear t2 h1 h2 h3 h4 hx hacc hP0 hP2 hm
    gi_wp2_with (first | (refine ⟨trivial, rfl, ?_⟩; refine (CallsIn.inRound l (callsIn_wide.2 CF.out)).mono ?_; rintro e w3 ⟨rfl, os3, k3, rfl⟩))
    have hmm := HM.out
    have T1 : Turn (fun k => K k ∨ m ≤ k) W2 (W2.setCell ⟨b, 0, none⟩ (.int .i64 (f acc x))) := Turn.setCell W2 (p := ⟨b, 0, none⟩) (.inl ((H4.out b).2 rfl)) _
    have E : Ext (W2.setCell ⟨b, 0, none⟩ (.int .i64 (f acc x))) (more (W2.setCell ⟨b, 0, none⟩ (.int .i64 (f acc x))) os3 k3) := ⟨os3, k3, rfl⟩
    have TT := T1.trans (Turn.of_ext E)
    refine ⟨TT, fun k => k = b, fun k hk => .inl ((H4.out k).2 hk), ext_block ?_ E, (TT.block _ l1 (fun hk => ?_)).trans H2.out, ?_, fun k => Iff.rfl⟩
    · rw [HN.out]
      simp [World.setCell, Array.getElem?_modify, H1.out]
    · rcases hk with hk | hk
      · have := (H4.out _).1 hk; omega
      · omega
    · exact H3.out.trans (TT.below (by have := H3.out.size; omega) fun k hk => by
        rcases hk with hk | hk
        · have := (H4.out k).1 hk; omega
        · omega)
  · rintro K V ⟨h1, h2, h3, h4⟩ hsz hk
    rw [S0] at hk ⊢
    rw [List.take_length] at h1
    have k0 := cell_of_row _ _ 0 _ _ _ h1
    simp at k0
    have l0 := lt_of_heap h1
    have tD : Turn (fun k => k = b + 2) V (V.putObj (b + 2) (.deferred none)) := putObj_turn _ _ rfl
    have OUT := Lib.hid (Ext.of_below (h3.trans (tD.below (n := w.heap.size) (by omega) fun k hk => by omega)))
    clear h1 h2 h3 h4 tD
    go_wp2_with fail
    exact marks_ret1 (D := b + 2) (v := .int .i64 (xs.foldl f x0)) rfl hk (by simp [results, Try.results132, go_sem]) ⟨rfl, OUT.out⟩
set_option maxRecDepth 100000 in
set_option maxHeartbeats 1000000 in
theorem look1_any (n : Int) (p : Prt) (w : World) : Calls Try.prog 134 #[.int .i64 n, aggV p] w fun e w' => e = .returned (.int .i64 (max n p.nd.look)) ∧ Ext w w' := by
  unfold aggV
  go_enter Try.func134, Try.ntmps134
  go_wp2_with fail
  all_goals go_ret
  all_goals exact ⟨ret_int (by (try split) <;> omega), (by repeat (first | exact Ext.refl _ | refine Ext.alloc ?_ _ | refine Ext.more ?_ _ _ | refine Ext.drew ?_ | refine Ext.drewN ?_ _ | refine Ext.setCell ?_ (by simp <;> omega) _))⟩
theorem look_yes (A : Option Addr) (c : Nat) (ps : List Prt) (w : World) (h : PS w A c ps) (T : Tree (nds ps)) : Calls Try.prog 65 #[.slice A ps.length c] w fun e w' => e = .returned (.int .i64 (ps.foldl (fun n p => max n p.nd.look) 0)) ∧ Ext w w' := by
  have S := Lib.hid h
  have HT := Lib.hid T
  have hps := h.few.len
  clear h T
  go_enter Try.func65, Try.ntmps65
  go_wp2_with fail
  refine (check_ok S.out HT.out).mono ?_
  rintro e w1 ⟨rfl, hx1⟩
  have HX1 := Lib.hid hx1
  clear hx1
  go_wp2_with fail
  refine (values_make A ps.length c w1).mono ?_
  rintro e w2 ⟨rfl, hw2⟩
  have X2 : Ext w1 w2 := by rw [hw2]; exact (by repeat (first | exact Ext.refl _ | refine Ext.alloc ?_ _ | refine Ext.more ?_ _ _ | refine Ext.drew ?_ | refine Ext.drewN ?_ _ | refine Ext.setCell ?_ (by simp <;> omega) _))
  have G2 : w2.heap[w1.heap.size]? = some (.cells #[.slice A ps.length c] 22) := by rw [hw2]; exact heap_alloc_new _ _
  have CC := Lib.hid (foldP_any 161 134 #[pt w1.heap.size] ps (fun n p => max n p.nd.look) 0 w2 (enters_of Try.func161 (by kernel_rfl) rfl) (enters_of Try.func134 (by kernel_rfl) rfl)
    (fun w3 hx => values_iter A c ps w w3 w1.heap.size _ S.out ((HX1.out.trans X2).trans hx).below (ext_block G2 hx) (fun k hk => by have := (HX1.out.trans X2).size; omega))
    (fun wr acc p => look1_any acc p wr))
  have HX2 := Lib.hid (HX1.out.trans X2)
  clear hw2 G2 X2
  go_wp2_with fail
  refine CC.out.mono ?_
  rintro e w4 ⟨rfl, hx4⟩
  have HX4 := Lib.hid (HX2.out.trans hx4)
  clear hx4
  go_wp2_with fail
  go_ret
  exact ⟨rfl, HX4.out⟩
theorem look_no (A : Option Addr) (c : Nat) (ps : List Prt) (w : World) (h : PS w A c ps) (T : ¬ Tree (nds ps)) : Calls Try.prog 65 #[.slice A ps.length c] w fun e w' => e = .returned (.int .i64 0) ∧ Ext w w' := by
  have S := Lib.hid h
  have HT := Lib.hid T
  have hps := h.few.len
  clear h T
  go_enter Try.func65, Try.ntmps65
  go_wp2_with fail
  refine (check_no S.out HT.out).mono ?_
  rintro e w1 ⟨rfl, hx1⟩
  have HX1 := Lib.hid hx1
  clear hx1
  go_wp2_with fail
  go_ret
  exact ⟨rfl, HX1.out⟩
end Go.Proofs.Ytaffaeompdlecaa

/- The contract of reuse.Take; the chapter's example, lives of chapter 21. -/
namespace Go.Proofs.Ytaffaeompdlecaa
open Go.RowKit
attribute [local go_sem] more_drew more_drewN more_size more_cell more_frozen more_setCell drew_more drewN_more lt_add_r lt_add_r2 lt_add_r3 lt_add_r4 lt_add_r5 lt_add_r6 lt_add_r7 lt_add_r8 lt_add_r9 lt_add_r10 lt_self_r lt_self_r2

/-- a part that is not stale: nothing in it is -/
theorem StaleOk.inner {l : List Nd} {st : List Bool} (h : StaleOk l st) {k m : Nat} (hp : Part l k m) (hs : st[k]? = some false) : ∀ (j : Nat), k ≤ j → j < m → st[j]? = some false := by
  obtain ⟨p, hpk⟩ : ∃ p, l[k]? = some p := ⟨_, List.getElem?_eq_getElem hp.lt⟩
  have t := Trek.ofOne hpk hp.trek
  have kidOf : ∀ (i : Nat) (q : Nd), l[i]? = some q → st[i]? = some false → ∀ (c : Nat), (c : Int) ∈ q.kids → c < l.length → st[c]? = some false := fun i q hq hi c hc hcl => by
    have e := h.2 i q hq
    rw [hi] at e
    injection e with e
    have e2 := (Bool.or_eq_false_iff.1 e.symm).2
    have := List.any_eq_false.1 e2 (c : Int) hc
    rw [Int.toNat_natCast] at this
    obtain ⟨v, hv⟩ : ∃ v, st[c]? = some v := ⟨_, List.getElem?_eq_getElem (by rw [h.1]; exact hcl)⟩
    rw [hv] at this ⊢
    simpa using this
  intro j
  induction j using Nat.strongRecOn with
  | _ j ih =>
    intro h1 h2
    have hjl : j < l.length := by have := hp.le; omega
    rcases Nat.eq_or_lt_of_le h1 with rfl | hlt
    · exact hs
    · rcases t.whose rfl j hlt h2 with hk | ⟨j', q, a, b, c, d⟩
      · exact kidOf k p hpk hs j hk hjl
      · exact kidOf j' q c (ih j' b (by omega) (by omega)) j d hjl
/-- what Take takes: the part k, up to m -/
def TakeOk (l : List Nd) (sym at_ : Int) (k m : Nat) : Prop :=
  Tree l ∧ (∃ p, l[k]? = some p ∧ findB sym at_ p = true ∧ p.kind = 2) ∧ (∀ i q, i < k → l[i]? = some q → findB sym at_ q = false) ∧ Part l k m ∧ ∃ st, StaleOk l st ∧ st[k]? = some false
theorem TakeOk.det {l : List Nd} {sym at_ : Int} {k m k' m' : Nat} (h : TakeOk l sym at_ k m) (h' : TakeOk l sym at_ k' m') : k' = k ∧ m' = m := by
  obtain ⟨_, ⟨p, h1, h2, _⟩, h3, h4, _⟩ := h
  obtain ⟨_, ⟨p', g1, g2, _⟩, g3, g4, _⟩ := h'
  have : k' = k := by
    rcases Nat.lt_trichotomy k' k with hlt | he | hlt
    · rw [h3 k' p' hlt g1] at g2; cases g2
    · exact he
    · rw [g3 k p hlt h1] at h2; cases h2
  subst this
  exact ⟨rfl, h4.det g4⟩
/-- what Take tells -/
def TakeRet (w : World) (l : List Nd) (sym at_ : Int) (e : Ending) (w' : World) : Prop :=
  (∃ k m A c qs, TakeOk l sym at_ k m ∧ e = .returned (.tuple #[.slice A (qs : List Prt).length c, .bool true]) ∧ nds qs = subF l k m ∧ OwnP w' w.heap.size A c qs ∧ Ext w w') ∨
  ((¬ ∃ k m, TakeOk l sym at_ k m) ∧ e = .returned (.tuple #[.slice none 0 0, .bool false]) ∧ Ext w w')
section
variable {A : Option Addr} {c : Nat} {ps : List Prt} {w : World}
set_option maxRecDepth 100000 in
set_option maxHeartbeats 2000000 in
theorem take_any (sym at_ : Int) (h : PS w A c ps) : Calls Try.prog 64 #[.slice A ps.length c, .int .i64 sym, .int .i64 at_] w (TakeRet w (nds ps) sym at_) := by
  have S := Lib.hid h
  have hps := h.few.len
  have hcap := h.cap
  clear h
  by_cases T : Tree (nds ps)
  · have HT := Lib.hid T
    clear T
    have CF := Lib.hid (Find_yes sym at_ S.out HT.out)
    have HC := Lib.hid (firstF_cases (fun p : Prt => findB sym at_ p.nd) ps 0)
    obtain ⟨r, hr⟩ : ∃ r, firstF (fun p : Prt => findB sym at_ p.nd) 0 ps = r := ⟨_, rfl⟩
    rw [hr] at CF HC
    clear hr
    rcases HC.out with ⟨rfl, hno⟩ | ⟨k, p, rfl, hp, hpt, hbef⟩
    · have NO : Hid (¬ ∃ k m, TakeOk (nds ps) sym at_ k m) := Lib.hid (by
        rintro ⟨k, m, _, ⟨q, h1, h2, _⟩, _⟩
        obtain ⟨p, hp, rfl⟩ := nds_get' h1
        rw [hno p (List.mem_of_getElem? hp)] at h2
        cases h2)
      have e1 : decide ((0 : Int) ≤ -1) = false := rfl
      rw [e1] at CF
      clear hno e1 HC
      go_enter Try.func64, Try.ntmps64
      go_wp2_with fail
      refine CF.out.mono ?_
      rintro e w2 ⟨rfl, hx2⟩
      have HX2 := Lib.hid hx2
      clear hx2
      go_wp2_with fail
      go_ret2
      exact .inr ⟨NO.out, rfl, HX2.out⟩
    · have hkl := (List.getElem?_eq_some_iff.1 hp).1
      have e0 : ((0 + k : Nat) : Int) = (k : Int) := by rw [Nat.zero_add]
      have e1 : decide ((0 : Int) ≤ (k : Int)) = true := decide_eq_true (by omega)
      have e2 : max (0 : Int) (k : Int) = (k : Int) := by omega
      rw [e0, e1, e2] at CF
      obtain ⟨b, off, rfl, hb, hcell⟩ := S.out.parts (by omega)
      have d1 := (hcell k p hp).2.1
      have HPP := Lib.hid hp
      have HPT := Lib.hid hpt
      have HBE : Hid (∀ i q, i < k → (nds ps)[i]? = some q → findB sym at_ q = false) := Lib.hid (fun i q hi hq => by
        obtain ⟨p', hp', rfl⟩ := nds_get' hq
        exact hbef i p' hi hp')
      have D1 := Lib.hid (fun (V : World) (x : Ext w V) => (⟨(x.below.cell (p := ⟨b, off + k * 8 + 1, none⟩) hb).trans d1, Nat.lt_of_lt_of_le hb x.size⟩ : V.cell? ⟨b, off + k * 8 + 1, none⟩ = some (.int .i64 p.nd.kind) ∧ b < V.heap.size))
      clear hp hpt hbef HC e0 e1 e2 hcell d1 hb
      go_enter Try.func64, Try.ntmps64
      go_wp2_with fail
      refine CF.out.mono ?_
      rintro e w2 ⟨rfl, hx2⟩
      obtain ⟨k1, k2⟩ := D1.out w2 hx2
      have HX2 := Lib.hid hx2
      clear hx2
      by_cases hk : p.nd.kind = 2
      · have hk1 : (p.nd.kind != 2) = false := by simp [hk]
        go_wp2_with fail
        refine (stale_any _ c ps w2 (S.out.ext HX2.out) HT.out).mono ?_
        rintro e w3 ⟨st, hst, g, rfl, hM, hgw, hx3⟩
        have hsl : st.length = ps.length := by rw [hst.1, nds_length]
        obtain ⟨v, hv⟩ : ∃ v, st[k]? = some v := ⟨_, List.getElem?_eq_getElem (by omega)⟩
        obtain ⟨f0, f1, f2⟩ := hM.cell hv
        have HX3 := Lib.hid (HX2.out.trans hx3)
        have HST := Lib.hid hst
        have HV := Lib.hid hv
        have HK := Lib.hid hk
        rw [hsl]
        clear hst hM hgw hx3 hsl hv hk f1
        cases v with
        | true =>
          have NO : Hid (¬ ∃ k m, TakeOk (nds ps) sym at_ k m) := Lib.hid (by
            rintro ⟨k', m, _, ⟨q, h1, h2, _⟩, h3, _, st', h4, h5⟩
            have hkk : k' = k := by
              rcases Nat.lt_trichotomy k' k with hlt | he | hlt
              · rw [HBE.out k' q hlt h1] at h2; cases h2
              · exact he
              · have := h3 k p.nd hlt (nds_get HPP.out); rw [HPT.out] at this; cases this
            subst hkk
            rw [StaleOk.one HT.out h4 HST.out, HV.out] at h5
            cases h5)
          go_wp2_with fail
          go_ret2
          exact .inr ⟨NO.out, rfl, HX3.out⟩
        | false =>
          obtain ⟨m, hm⟩ := HT.out.part (i := k) (by rw [nds_length]; exact hkl)
          have TK := Lib.hid (show TakeOk (nds ps) sym at_ k m from ⟨HT.out, ⟨p.nd, nds_get HPP.out, HPT.out, HK.out⟩, HBE.out, hm, st, HST.out, HV.out⟩)
          have CS := Lib.hid (Sub_yes k m (S.out.ext HX3.out) HT.out hm)
          clear hm
          go_wp2_with fail
          refine CS.out.mono ?_
          rintro e w4 ⟨A2, c2, qs, rfl, hn, ho, hx4⟩
          have HN := Lib.hid hn
          have HO := Lib.hid ho
          have HX4 := Lib.hid hx4
          clear hn ho hx4
          go_wp2_with fail
          go_ret2
          exact .inl ⟨k, m, A2, c2, qs, TK.out, rfl, HN.out, HO.out.base HX3.out.size, HX3.out.trans HX4.out⟩
      · have hk1 : (p.nd.kind != 2) = true := by simpa using hk
        have NO : Hid (¬ ∃ k m, TakeOk (nds ps) sym at_ k m) := Lib.hid (by
          rintro ⟨k', m, _, ⟨q, h1, h2, h2k⟩, h3, _⟩
          have hkk : k' = k := by
            rcases Nat.lt_trichotomy k' k with hlt | he | hlt
            · rw [HBE.out k' q hlt h1] at h2; cases h2
            · exact he
            · have := h3 k p.nd hlt (nds_get HPP.out); rw [HPT.out] at this; cases this
          subst hkk
          rw [nds_get HPP.out] at h1
          cases h1
          exact hk h2k)
        clear hk
        go_wp2_with fail
        go_ret2
        exact .inr ⟨NO.out, rfl, HX2.out⟩
  · have CF := Lib.hid (Find_no sym at_ S.out T)
    have NO : Hid (¬ ∃ k m, TakeOk (nds ps) sym at_ k m) := Lib.hid (by
      rintro ⟨k, m, h1, _⟩
      exact T h1)
    clear T
    go_enter Try.func64, Try.ntmps64
    go_wp2_with fail
    refine CF.out.mono ?_
    rintro e w2 ⟨rfl, hx2⟩
    have HX2 := Lib.hid hx2
    clear hx2
    go_wp2_with fail
    go_ret2
    exact .inr ⟨NO.out, rfl, HX2.out⟩
end
/-- the chapter's tree -/
def exM : List Nd := [⟨-3, 1, 0, 0, 2, 1, [1, 3], 0⟩, ⟨1, 2, 0, 0, 2, 3, [2], 0⟩, ⟨0, 3, 0, 0, 2, 4, [], 0⟩, ⟨-2, 6, 2, 2, 2, 3, [], 0⟩]
def exQ (b : Nat) : List Prt := [⟨⟨-3, 1, 0, 0, 2, 1, [1, 3], 0⟩, some ⟨b, 0, none⟩, 2⟩, ⟨⟨1, 2, 0, 0, 2, 3, [2], 0⟩, some ⟨b + 1, 0, none⟩, 1⟩, ⟨⟨0, 3, 0, 0, 2, 4, [], 0⟩, none, 0⟩, ⟨⟨-2, 6, 2, 2, 2, 3, [], 0⟩, none, 0⟩]
theorem exQ_nds (b : Nat) : nds (exQ b) = exM := rfl
theorem exM_kc (j : Nat) : kc exM 0 j ≤ 1000000 := Nat.le_trans (kc_all exM j) (by decide)
theorem exM_part : Part exM 1 3 := ⟨by decide, Trek.one (l := exM) (n := 1) (p := ⟨1, 2, 0, 0, 2, 3, [2], 0⟩) rfl (Trek.one (l := exM) (n := 2) (p := ⟨0, 3, 0, 0, 2, 4, [], 0⟩) rfl (.nil 3)), by decide⟩
theorem exM_tree : Tree exM := by
  refine ⟨fun i p h => ?_, ?_, fun p hp => ?_⟩
  · rcases get4 h with ⟨rfl, rfl⟩ | ⟨rfl, rfl⟩ | ⟨rfl, rfl⟩ | ⟨rfl, rfl⟩ <;> exact ⟨by decide, by decide⟩
  · refine Trek.one (p := ⟨-3, 1, 0, 0, 2, 1, [1, 3], 0⟩) rfl ?_
    refine Trek.cons (l := exM) ⟨1, 2, 0, 0, 2, 3, [2], 0⟩ [3] 1 3 true 4 rfl ?_ ?_
    · exact Trek.one (l := exM) (n := 2) (p := ⟨0, 3, 0, 0, 2, 4, [], 0⟩) rfl (.nil 3)
    · exact Trek.one (l := exM) (n := 3) (p := ⟨-2, 6, 2, 2, 2, 3, [], 0⟩) rfl (.nil 4)
  · have : ∀ p ∈ exM, liesB exM p.hi p.lo p.kids = true := by decide
    exact this p hp
theorem exM_stale : StaleOk exM [false, false, false, false] := by
  refine ⟨rfl, fun j p h => ?_⟩
  rcases get4 h with ⟨rfl, rfl⟩ | ⟨rfl, rfl⟩ | ⟨rfl, rfl⟩ | ⟨rfl, rfl⟩ <;> rfl
theorem exM_gs : GsOk exM [1] := ⟨fun _ => ⟨_, exM_stale, .skip 0 ⟨-3, 1, 0, 0, 2, 1, [1, 3], 0⟩ _ rfl (.inl (by decide)) (.take 1 ⟨1, 2, 0, 0, 2, 3, [2], 0⟩ 3 [] rfl rfl rfl exM_part (.skip 3 ⟨-2, 6, 2, 2, 2, 3, [], 0⟩ _ rfl (.inl (by decide)) (.done 4 (Nat.le_refl _))))⟩, fun h => absurd exM_tree h⟩
def ExRet21 (w : World) (e : Ending) (w' : World) : Prop :=
  e = .returned (.slice (some ⟨w.heap.size + 1 + 1, 0, none⟩) 4 4) ∧ w'.heap[w.heap.size + 1 + 1]? = some (.cells (pv (exQ w.heap.size)).toArray 35) ∧ PS w' (some ⟨w.heap.size + 1 + 1, 0, none⟩) 4 (exQ w.heap.size) ∧ Ext w w'
set_option maxRecDepth 100000 in
set_option maxHeartbeats 2000000 in
theorem example21_any (w : World) : Calls Try.prog 66 #[] w (ExRet21 w) := by
  go_enter Try.func66, Try.ntmps66
  go_wp2_with fail
  go_ret
  have G0 : (((w.alloc (.cells #[.int .i64 1, .int .i64 3] 3)).alloc (.cells #[.int .i64 2] 3)).alloc (.cells (pv (exQ w.heap.size)).toArray 35)).heap[w.heap.size]? = some (.cells #[.int .i64 1, .int .i64 3] 3) := (by simp only [heap_alloc_get, World.size_alloc]; (repeat (split; (first | rfl | (exfalso; omega)))); (try (first | (exfalso; omega) | simp_all)))
  have G1 : (((w.alloc (.cells #[.int .i64 1, .int .i64 3] 3)).alloc (.cells #[.int .i64 2] 3)).alloc (.cells (pv (exQ w.heap.size)).toArray 35)).heap[w.heap.size + 1]? = some (.cells #[.int .i64 2] 3) := (by simp only [heap_alloc_get, World.size_alloc]; (repeat (split; (first | rfl | (exfalso; omega)))); (try (first | (exfalso; omega) | simp_all)))
  have G2 : (((w.alloc (.cells #[.int .i64 1, .int .i64 3] 3)).alloc (.cells #[.int .i64 2] 3)).alloc (.cells (pv (exQ w.heap.size)).toArray 35)).heap[w.heap.size + 1 + 1]? = some (.cells (pv (exQ w.heap.size)).toArray 35) := (by simp only [heap_alloc_get, World.size_alloc]; (repeat (split; (first | rfl | (exfalso; omega)))); (try (first | (exfalso; omega) | simp_all)))
  refine ⟨rfl, G2, ⟨Prts.of_block G2 (by simp), ?_, ⟨Nat.le_of_ble_eq_true rfl, exM_kc⟩, Nat.le_refl _, by omega, nofun⟩, (by repeat (first | exact Ext.refl _ | refine Ext.alloc ?_ _ | refine Ext.more ?_ _ _ | refine Ext.drew ?_ | refine Ext.drewN ?_ _ | refine Ext.setCell ?_ (by simp <;> omega) _))⟩
  · intro p hp
    simp only [exQ, List.mem_cons, List.not_mem_nil, or_false] at hp
    rcases hp with rfl | rfl | rfl | rfl
    · exact PrtOk.lit (Ints.of_block G0 rfl) (Nat.le_of_ble_eq_true rfl) (Nat.le_of_ble_eq_true rfl) nofun rfl
    · exact PrtOk.lit (Ints.of_block G1 rfl) (Nat.le_of_ble_eq_true rfl) (Nat.le_of_ble_eq_true rfl) nofun rfl
    · exact PrtOk.lit Ints.nil (Nat.le_of_ble_eq_true rfl) (Nat.le_of_ble_eq_true rfl) (fun _ => rfl) rfl
    · exact PrtOk.lit Ints.nil (Nat.le_of_ble_eq_true rfl) (Nat.le_of_ble_eq_true rfl) (fun _ => rfl) rfl
set_option maxRecDepth 100000 in
set_option maxHeartbeats 2000000 in
theorem lives21_any (w : World) : Calls Try.prog 60 #[] w fun e w' => e = .returned (.bool true) ∧ Ext w w' := by
  go_enter Try.func60, Try.ntmps60
  go_wp2_with fail
  refine (example21_any _).mono ?_
  rintro e w2 ⟨rfl, _, hp2, hx2⟩
  have HX2 := Lib.hid hx2
  have HP2 := Lib.hid hp2
  clear hx2 hp2
  go_wp2_with fail
  refine (all_any _ 4 (exQ w.heap.size) [1] w2 HP2.out (by rw [exQ_nds]; exact exM_gs) (by decide)).mono ?_
  rintro e w5 ⟨A, c, rfl, ho, hx5⟩
  have HX5 := Lib.hid (HX2.out.trans hx5)
  have HO := Lib.hid ho
  clear hx5 HP2 ho
  go_wp2_with fail
  refine (same_any A _ [1] [1] c 1 _ (HO.out.ints.1.ext (by repeat (first | exact Ext.refl _ | refine Ext.alloc ?_ _ | refine Ext.more ?_ _ _ | refine Ext.drew ?_ | refine Ext.drewN ?_ _ | refine Ext.setCell ?_ (by simp <;> omega) _))) (Ints.of_block (heap_alloc_new w5 _) rfl) (by decide) (by decide)).mono ?_
  rintro e w6 ⟨rfl, hx6⟩
  have HX6 := Lib.hid ((HX5.out.alloc _).trans hx6)
  clear hx6
  go_wp2_with fail
  go_ret
  exact ⟨rfl, HX6.out⟩
end Go.Proofs.Ytaffaeompdlecaa
