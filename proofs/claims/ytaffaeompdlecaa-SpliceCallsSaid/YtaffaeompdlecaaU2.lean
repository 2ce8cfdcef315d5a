/- The contracts of splice.fold, bits, Bits, slot. -/
import Derived.Test.YtaffaeompdlecaaU1
import Derived.WalkSpells
import Derived.WalkLawsBesides
import Derived.BigRegion
import Derived.Deep.RegionWith
import Derived.Deep.QuietTactic
import Derived.Deep.DeepCutAuto
import Derived.Deep.RegionHeld3
import Derived.Deep.RegionLaw
import Derived.BigQuiet
import Derived.Lib.Hide
namespace Go.Proofs.Ytaffaeompdlecaa
open Go.RowKit
attribute [local go_sem] more_drew more_drewN more_size more_cell more_frozen more_setCell drew_more drewN_more lt_add_r lt_add_r2 lt_add_r3 lt_add_r4 lt_add_r5 lt_add_r6 lt_add_r7 lt_add_r8 lt_add_r9 lt_add_r10 lt_self_r lt_self_r2
attribute [local go_sem] Oper.semAt_some

/-- where fold over bits is -/
def FoM (w : World) (b : Nat) (G : Nat) (f : Int → Nat × Int → Int) (x0 : Int) (xs : List (Nat × Int)) (j : Nat) (K : Nat → Prop) (W : World) : Prop :=
  W.heap[b]? = some (.cells #[.int .u64 ((xs.take j).foldl f x0)] 33) ∧ W.heap[b + 1]? = some (.cells #[.func (.func G) #[] #[]] 137) ∧ Below w.heap.size w W ∧ ∀ k, K k ↔ k = b
theorem FoM.turn {w : World} {b n0 G : Nat} {f : Int → Nat × Int → Int} {x0 : Int} {xs : List (Nat × Int)} {j : Nat} {K : Nat → Prop} {W W' : World} (h : FoM w b G f x0 xs j K W) (hb : b + 1 < n0) (hw : w.heap.size ≤ n0) (hn : n0 ≤ W.heap.size) (t : Turn (fun k => k = n0 ∨ k = n0 + 1) W W') :
    FoM w b G f x0 xs j K W' := by
  obtain ⟨h1, h2, h3, h4⟩ := h
  exact ⟨(t.block _ (lt_of_heap h1) (by omega)).trans h1, (t.block _ (lt_of_heap h2) (by omega)).trans h2, h3.trans (t.below (by omega) fun k hk => by omega), h4⟩
set_option maxRecDepth 100000 in
set_option maxHeartbeats 2000000 in
theorem foldM_any (F G : Nat) (lb : Array Value) (xs : List (Nat × Int)) (f : Int → Nat × Int → Int) (x0 : Int) (w : World) (eg : ∀ args w, (callFunc F args).run Try.prog w = .ok (.enter F args) w) (egG : Enters Try.prog G)
    (R : Nat → World → Prop) (hRW : ∀ j W, Below w.heap.size w W → R j W) (hIter : ∀ w1, Ext w w1 → IterG Try.prog F lb encM xs (fun k => w.heap.size ≤ k) R w1)
    (hf : ∀ (wr : World) (acc : Int) (p : Nat × Int), Calls Try.prog G #[.int .u64 acc, .int .u64 p.2] wr fun e w' => e = .returned (.int .u64 (f acc p)) ∧ Ext wr w') :
    Calls Try.prog 162 #[.func (.func F) #[] lb, .int .u64 x0, .func (.func G) #[] #[]] w fun e w' => e = .returned (.int .u64 (xs.foldl f x0)) ∧ Ext w w' := by
  have HI := Lib.hid hIter
  have HF := Lib.hid hf
  unfold Enters at egG
  clear hIter hf
  refine calls_of_marks Try.func162 rfl ?_
  simp only [Try.ntmps162, List.size_toArray, List.length_cons, List.length_nil, Nat.reduceAdd, Nat.reduceSub, Array.replicate_succ, Array.replicate_zero, List.push_toArray, List.append_toArray, List.nil_append, List.cons_append]
  go_wp2_with fail
  obtain ⟨b, hb⟩ : ∃ b, w.heap.size = b := ⟨_, rfl⟩
  obtain ⟨W0, hW0⟩ : ∃ W0, (w.alloc (.cells #[.int .u64 x0] 33)).alloc (.cells #[.func (.func G) #[] #[]] 137) = W0 := ⟨_, rfl⟩
  have X0 : Ext w W0 := by rw [← hW0]; exact (by repeat (first | exact Ext.refl _ | refine Ext.alloc ?_ _ | refine Ext.more ?_ _ _ | refine Ext.drew ?_ | refine Ext.drewN ?_ _ | refine Ext.setCell ?_ (by simp <;> omega) _))
  have G0 : W0.heap[b]? = some (.cells #[.int .u64 x0] 33) := by rw [← hW0, ← hb]; exact (by simp only [heap_alloc_get, World.size_alloc]; (repeat (split; (first | rfl | (exfalso; omega)))); (try (first | (exfalso; omega) | simp_all)))
  have G1 : W0.heap[b + 1]? = some (.cells #[.func (.func G) #[] #[]] 137) := by rw [← hW0, ← hb]; exact (by simp only [heap_alloc_get, World.size_alloc]; (repeat (split; (first | rfl | (exfalso; omega)))); (try (first | (exfalso; omega) | simp_all)))
  have S0 : W0.heap.size = b + 2 := by rw [← hW0, ← hb]; simp
  rw [hW0, hb]
  clear hW0
  refine wp_rangeG (gf := F) (lb := lb) (encs := encM) (xs := xs) (S := fun k => w.heap.size ≤ k) (R := R) rfl eg (fun _ => rfl) (by omega) (fun w1 hx _ => HI.out w1 (X0.trans hx))
    (fun j K W => FoM w b G f x0 xs j K W) (fun _ _ _ => False) (fun k => k = b) (fun k hk => by omega) ?_ (fun _ _ _ _ _ _ h => h) ?_ (fun j K W h => hRW j W h.2.2.1) ?_ ?_ ?_ (fun _ _ _ _ h => h.elim)
  · rintro j K U U' ht hsz hA
    rw [S0] at ht hsz
    exact hA.turn (by omega) (by omega) (by omega) ht
  · rintro j K U ⟨h1, h2, h3, h4⟩
    rw [S0]
    exact ⟨fun h => by have := (h4 _).1 h; omega, fun h => by have := (h4 _).1 h; omega⟩
  · intro U hU
    exact ⟨ext_block G0 hU, ext_block G1 hU, (X0.trans hU).below, fun k => Iff.rfl⟩
  · rintro l j x K W hx hI hsz
    clear hI
    simp only [encM]
    gi_wp2
    refine ⟨(by repeat (first | exact Ext.refl _ | refine Ext.alloc ?_ _ | refine Ext.more ?_ _ _ | refine Ext.drew ?_ | refine Ext.drewN ?_ _ | refine Ext.setCell ?_ (by simp <;> omega) _)), ?_⟩
    obtain ⟨m, hm⟩ : ∃ m, W.heap.size = m := ⟨_, rfl⟩
    rw [hm]
    rintro W2 t2 ⟨h1, h2, h3, h4⟩ hsz2
    rw [S0] at hsz t2
    have k0 := cell_of_row _ _ 0 _ _ _ h1
    have k1 := cell_of_row _ _ 0 _ _ _ h2
    simp at k0 k1
    have l0 := lt_of_heap h1
    have l1 := lt_of_heap h2
    have f0 : W2.frozen? ⟨b, 0, none⟩ = false := by simp [World.frozen?, h1]
    obtain ⟨acc, hacc⟩ : ∃ acc, (xs.take j).foldl f x0 = acc := ⟨_, rfl⟩
    have CF := Lib.hid (HF.out W2 acc x)
    have HN := Lib.hid (fold_take (f := f) (x0 := x0) hx)
    rw [hacc] at HN k0
    have H1 := Lib.hid h1
    have H2 := Lib.hid h2
    have H3 := Lib.hid h3
    have H4 := Lib.hid h4
    have HM := Lib.hid hm
    clear t2 h1 h2 h3 h4 hx hacc hm
    gi_wp2_with (first | (refine ⟨trivial, rfl, ?_⟩; refine (CallsIn.inRound l (callsIn_wide.2 CF.out)).mono ?_; rintro e w3 ⟨rfl, os3, k3, rfl⟩))
    have hmm := HM.out
    have T1 : Turn (fun k => K k ∨ m ≤ k) W2 (W2.setCell ⟨b, 0, none⟩ (.int .u64 (f acc x))) := Turn.setCell W2 (p := ⟨b, 0, none⟩) (.inl ((H4.out b).2 rfl)) _
    have E : Ext (W2.setCell ⟨b, 0, none⟩ (.int .u64 (f acc x))) (more (W2.setCell ⟨b, 0, none⟩ (.int .u64 (f acc x))) os3 k3) := ⟨os3, k3, rfl⟩
    have TT := T1.trans (Turn.of_ext E)
    refine ⟨TT, fun k => k = b, fun k hk => .inl ((H4.out k).2 hk), ext_block ?_ E, (TT.block _ l1 (fun hk => ?_)).trans H2.out, ?_, fun k => Iff.rfl⟩
    · rw [HN.out]
      simp [World.setCell, Array.getElem?_modify, H1.out]
    · rcases hk with hk | hk
      · have := (H4.out _).1 hk; omega
      · omega
    · exact H3.out.trans (TT.below (by have := H3.out.size; omega) fun k hk => by
        rcases hk with hk | hk
        · have := (H4.out k).1 hk; omega
        · omega)
  · rintro K V ⟨h1, h2, h3, h4⟩ hsz hk
    rw [S0] at hk ⊢
    rw [List.take_length] at h1
    have k0 := cell_of_row _ _ 0 _ _ _ h1
    simp at k0
    have l0 := lt_of_heap h1
    have tD : Turn (fun k => k = b + 2) V (V.putObj (b + 2) (.deferred none)) := putObj_turn _ _ rfl
    have OUT := Lib.hid (Ext.of_below (h3.trans (tD.below (n := w.heap.size) (by omega) fun k hk => by omega)))
    clear h1 h2 h3 h4 tD
    go_wp2_with fail
    exact marks_ret1 (D := b + 2) (v := .int .u64 (xs.foldl f x0)) rfl hk (by simp [results, Try.results162, go_sem]) ⟨rfl, OUT.out⟩

/-- all bits of parts together -/
def bitsF (l : List Nd) : Int := l.foldl (fun a p => bits .or .u64 a p.met) 0
theorem bits1_20 (a b : Int) (w : World) : Calls Try.prog 163 #[.int .u64 a, .int .u64 b] w fun e w' => e = .returned (.int .u64 (bits .or .u64 a b)) ∧ Ext w w' := by
  go_enter Try.func163, Try.ntmps163
  go_wp2_with fail
  go_ret
  exact ⟨rfl, (by repeat (first | exact Ext.refl _ | refine Ext.alloc ?_ _ | refine Ext.more ?_ _ _ | refine Ext.drew ?_ | refine Ext.drewN ?_ _ | refine Ext.setCell ?_ (by simp <;> omega) _))⟩
theorem From.of_prts {A : Option Addr} {ps : List Prt} {W : World} (h : Prts W A ps) (j : Nat) : From A ps j W := ⟨ps, h, rfl, fun _ _ => rfl⟩
set_option maxRecDepth 100000 in
set_option maxHeartbeats 1000000 in
theorem bitsP_any (A : Option Addr) (c : Nat) (ps : List Prt) (w : World) (hP : Prts w A ps) (hl : ps.length ≤ 1000) (hc : ps.length ≤ c) (ht : c ≤ 9223372036854775807) : Calls Try.prog 135 #[.slice A ps.length c] w fun e w' => e = .returned (.int .u64 (bitsF (nds ps))) ∧ Ext w w' := by
  have HP := Lib.hid hP
  clear hP
  go_enter Try.func135, Try.ntmps135
  go_wp2_with fail
  refine (met_make A ps.length c w).mono ?_
  rintro e w1 ⟨rfl, hw1⟩
  have X1 : Ext w w1 := by rw [hw1]; exact (by repeat (first | exact Ext.refl _ | refine Ext.alloc ?_ _ | refine Ext.more ?_ _ _ | refine Ext.drew ?_ | refine Ext.drewN ?_ _ | refine Ext.setCell ?_ (by simp <;> omega) _))
  have G1 : w1.heap[w.heap.size]? = some (.cells #[.slice A ps.length c] 22) := by rw [hw1]; exact heap_alloc_new _ _
  have CC := foldM_any 164 163 #[pt w.heap.size] (mets (nds ps)) (fun a x => bits .or .u64 a x.2) 0 w1 (enters_of Try.func164 (by kernel_rfl) rfl) (enters_of Try.func163 (by kernel_rfl) rfl)
    (From A ps) (fun j W hb => From.of_prts (HP.out.below (X1.below.trans (hb.mono X1.size))) j) (fun w2 hx => met_iter A c ps w2 w.heap.size _ hl hc ht (ext_block G1 hx)) (fun wr acc p => bits1_20 acc p.2 wr)
  rw [mets_fold] at CC
  have HCC := Lib.hid CC
  have HX1 := Lib.hid X1
  clear CC hw1 X1 G1
  go_wp2_with fail
  refine HCC.out.mono ?_
  rintro e w2 ⟨rfl, hx2⟩
  have HX2 := Lib.hid (HX1.out.trans hx2)
  clear hx2
  go_wp2_with fail
  go_ret
  exact ⟨rfl, HX2.out⟩
section
variable {A : Option Addr} {c : Nat} {ps : List Prt} {w : World}
theorem Bits_yes (h : PS w A c ps) (T : Tree (nds ps)) : Calls Try.prog 75 #[.slice A ps.length c] w fun e w' => e = .returned (.int .u64 (bitsF (nds ps))) ∧ Ext w w' := by
  have CK := Lib.hid (check_ok h T)
  have S := Lib.hid h
  clear h T
  go_enter Try.func75, Try.ntmps75
  go_wp2_with fail
  refine CK.out.mono ?_
  rintro e w1 ⟨rfl, hx1⟩
  have HX1 := Lib.hid hx1
  clear hx1
  go_wp2_with fail
  refine (bitsP_any A c ps w1 (S.out.ext HX1.out).parts S.out.few.len S.out.cap S.out.top).mono ?_
  rintro e w2 ⟨rfl, hx2⟩
  have HX2 := Lib.hid (HX1.out.trans hx2)
  clear hx2
  go_wp2_with fail
  go_ret
  exact ⟨rfl, HX2.out⟩
theorem Bits_no (h : PS w A c ps) (T : ¬ Tree (nds ps)) : Calls Try.prog 75 #[.slice A ps.length c] w fun e w' => e = .returned (.int .u64 0) ∧ Ext w w' := by
  have CK := Lib.hid (check_no h T)
  clear h T
  go_enter Try.func75, Try.ntmps75
  go_wp2_with fail
  refine CK.out.mono ?_
  rintro e w1 ⟨rfl, hx1⟩
  have HX1 := Lib.hid hx1
  clear hx1
  go_wp2_with fail
  go_ret
  exact ⟨rfl, HX1.out⟩
end
theorem slot_any (n : Int) (w : World) : Calls Try.prog 138 #[.int .i64 n] w fun e w' => e = .returned (.bool (decide (0 ≤ n ∧ n < 64))) ∧ w = w' := by
  by_cases h1 : 0 ≤ n
  · by_cases h2 : n < 64
    · go_enter Try.func138, Try.ntmps138
      go_wp2_with fail
      go_ret
      exact ⟨ret_bool (by simp [h1, h2]), rfl⟩
    · go_enter Try.func138, Try.ntmps138
      go_wp2_with fail
      go_ret
      exact ⟨ret_bool (by simp [h1, h2]), rfl⟩
  · go_enter Try.func138, Try.ntmps138
    go_wp2_with fail
    go_ret
    exact ⟨ret_bool (by simp; omega), rfl⟩
end Go.Proofs.Ytaffaeompdlecaa
