/- LinesNames: the walk. -/
import Derived.Test.YtfjkghbnlmhcnaaLv
import Derived.Lib.SlBytesRow
import Derived.WalkSpells
import Derived.WalkLawsBesides
import Derived.BigRegion
import Derived.Deep.RegionWith
import Derived.Deep.QuietTactic
import Derived.Deep.DeepCutAuto
import Derived.Deep.RegionHeld3
import Derived.Deep.RegionLaw
import Derived.BigQuiet
import Derived.Lib.Hide
namespace Go.Proofs.Ytfjkghbnlmhcnaa
open Go.RowKit
attribute [local go_sem] more_drew more_drewN more_size more_cell more_frozen more_setCell drew_more drewN_more lt_add_r lt_add_r2 lt_add_r3 lt_add_r4 lt_add_r5 lt_add_r6 lt_add_r7 lt_add_r8 lt_add_r9 lt_add_r10 lt_self_r lt_self_r2

def zerosB (n : Nat) : ByteArray := ⟨Array.replicate n 0⟩
theorem zerosB_size (n : Nat) : (zerosB n).size = n := by
  show (Array.replicate n (0 : UInt8)).size = n
  exact Array.size_replicate
theorem zerosB_bytes {b : Nat} (n : Nat) (w : World) (h : ∀ i, i < n → w.cell? ⟨b, i, none⟩ = some (.int .u8 0)) : Lib.Bytes w b 0 (zerosB n) := fun i hi => by
  have e : (zerosB n)[i]'hi = 0 := by
    show (Array.replicate n (0 : UInt8))[i]'_ = 0
    exact Array.getElem_replicate _
  rw [Nat.zero_add, h i (by rw [zerosB_size] at hi; exact hi), e]
  rfl
theorem OwnI.pre {w : World} {base g c : Nat} {xs : List Int} (h : OwnI w base (some ⟨g, 0, none⟩) c xs) (i : Nat) (hi : i ≤ xs.length) : OwnI w base (some ⟨g, 0, none⟩) c (xs.take i) := by
  obtain ⟨h1, h2⟩ := h
  have hl : (xs.take i).length = i := by rw [List.length_take]; omega
  unfold OwnI
  rw [hl]
  rcases h2 with ⟨h2, _⟩ | ⟨g', cap, cur, h2, h3, h4, h5, h6, h7, h8⟩
  · cases h2
  · injection h2 with a1 a2 a3
    injection a1 with a1
    injection a1 with a1
    subst a1 a3
    refine ⟨by rw [iv_length, hl, Nat.mul_one], .inr ⟨g, c, cur, rfl, h3, h4, by omega, h6, h7, ?_⟩⟩
    have e : iv (xs.take i) = (iv xs).take i := by unfold iv; rw [List.map_take]
    rw [e, ← h8, List.take_take]
    congr 1
    omega
theorem app_intsO (w0 : World) {w : World} {ops : Array Oper} {rest : List Oper} {o : Oper} {a : Act} {Q : Exit → Act → World → Prop} (hw : Region.wanted o (yielded ops a.tmps) = true) (s x : Operand)
    (ho : o.op = .call { callee := .builtin .append, args := #[s, x], argTypes := #[29, 29] }) (base : Nat) {A0 : Option Addr} {c0 : Nat} {xs : List Int} (hown : OwnI w base A0 c0 xs) (ys : List Int) (A : Option Addr) (c : Nat)
    (hs : a.eval s = .slice A0 xs.length c0) (hx : a.eval x = .slice A ys.length c) (hA : A = none → c = 0) (hc : Ints w A ys) (hlen : xs.length + ys.length ≤ 10000000) (hb : base ≤ w.heap.size)
    (h : ∀ A' c' w', OwnI w' base A' c' (xs ++ ys) → w.grownBy w' (Value.slice A0 xs.length c0).ownBlock → ((Value.slice A' (xs ++ ys).length c').ownBlock = (Value.slice A0 xs.length c0).ownBlock ∨ (Value.slice A' (xs ++ ys).length c').ownBlock = some w.heap.size) → wpList Try.prog ops Q rest (a.put o.dst (.slice A' (xs ++ ys).length c')) w') : wpList Try.prog ops Q (o :: rest) a w := by
  obtain ⟨i3, hi, hz0, hz1, hz2⟩ := info_parts infoInt
  refine wpList_append_cells w hw s x 29 ho base 3 i3 (.int .i64 0) 1 8 Try.underlying29 hi hz0 hz1 hz2 rfl (by omega) _ xs.length (iv xs) hs hown A ys.length c (iv ys) hx hA (by rw [iv_length, Nat.mul_one])
    (fun h0 => ?_) (fun u hu => ?_) (by unfold maxLen; omega) (by omega) hb fun v' w' h2 h3 h4 => ?_
  · rw [iv_length] at h0
    obtain ⟨b, off, hA', hb, hcc⟩ := hc h0
    refine ⟨b, off, hA', hb, fun k u hk => ?_⟩
    have hkl : k < ys.length := by rw [← iv_length]; exact (List.getElem?_eq_some_iff.1 hk).1
    exact (hcc k hkl).trans ((iv_get hkl).symm.trans hk)
  · obtain ⟨x, _, rfl⟩ := List.mem_map.1 hu
    rfl
  · obtain ⟨A', c', hv', _⟩ := own_cells h2
    subst hv'
    have e : (xs ++ ys).length = xs.length + ys.length := List.length_append
    have e2 : Value.slice A' (xs.length + ys.length) c' = .slice A' (xs ++ ys).length c' := by rw [e]
    rw [e2] at h2 h4 ⊢
    refine h A' c' w' ?_ h3 h4
    unfold OwnI
    rw [iv_append, e]
    rw [e] at h2
    exact h2
set_option maxRecDepth 100000 in
set_option maxHeartbeats 1000000 in
/-- the end goes, as many come at least -/
theorem rep_tail (base : Nat) (xs vs : List Int) (i : Nat) (hi : i < xs.length) (hl : xs.length ≤ 1000000) (hv : vs.length ≤ 1000000) (hge : xs.length ≤ i + vs.length) : RepOk base xs vs (xs.take i ++ vs) i xs.length := fun V A c B cb hA hB _ hb => by
  obtain ⟨hI, a1, a2, a3⟩ := hA.ints
  unfold maxLen at a2
  obtain ⟨b, off, rfl, _, _⟩ := hI (by omega)
  obtain ⟨hof⟩ : off = 0 ∧ True := by
    obtain ⟨_, h2⟩ := hA
    rcases h2 with ⟨h2, _⟩ | ⟨g', cap, cur, h2, _⟩
    · cases h2
    · injection h2 with a1
      injection a1 with a1
      injection a1 with _ a2
      exact ⟨a2, trivial⟩
  subst hof
  have HP := Lib.hid (hA.pre i (by omega))
  have hpl : (xs.take i).length = i := by rw [List.length_take]; omega
  have HPL := Lib.hid hpl
  have HB := Lib.hid hB
  have b2 := hB.ints.2.2.1
  have HLN : Hid ((xs.take i).length + vs.length ≤ 10000000) := Lib.hid (by omega)
  clear hA hB hI a3 hpl
  have q1 : ((i : Int) == (xs.length : Int)) = false := by rw [beq_eq_false_iff_ne]; omega
  go_enter Try.func43, Try.ntmps43
  go_wp2_with (at_builtin; refine app_intsO V (by rfl) (.tmp 32) (.tmp 33) rfl base HP.out vs B cb (by rw [HPL.out]; rfl) rfl HB.out.ints.2.2.2 HB.out.ints.1 HLN.out hb ?_; intro A' c' w' ho' hg' hw'; obtain ⟨ln, hln⟩ : ∃ ln, (xs.take i ++ vs).length = ln := ⟨_, rfl⟩; have hle : xs.length ≤ ln := (by rw [← hln, List.length_append, HPL.out]; exact hge); rw [hln]; have HO := Lib.hid ho'; have HG := Lib.hid hg'; have HW := Lib.hid hw'; have HLL := Lib.hid hln; clear ho' hg' hw' hln)
  go_ret
  refine ⟨A', c', by rw [HLL.out]; rfl, HO.out, Turn.grown HG.out fun g hg _ => .inl ?_, fun k hk => ?_⟩
  · exact hg
  · have h1 := blk_own (n := (xs.take i ++ vs).length) (c := c') hk
    rcases HW.out with h2 | h2
    · rw [h1] at h2
      exact .inl h2.symm
    · rw [h1] at h2
      exact .inr (by have := Option.some.inj h2; omega)
/- edit refused -/
section
variable {w : World} {base g : Nat} {xs : List Int} {n : Nat}
set_option maxRecDepth 100000 in
set_option maxHeartbeats 2000000 in
theorem edit_bad (a d i : Int) (s : ByteArray) (h : IdxAt w base g xs n) (hn : n ≤ 1000000) (bad : a < 0 ∨ d < 0 ∨ (n : Int) < a ∨ (n : Int) - a < d ∨ i ≠ s.size) :
    Calls Try.prog 15 #[pt g, .agg #[.int .i64 a, .int .i64 d, .int .i64 i], .string s] w fun e w' => e = .returned (.int .i64 2) ∧ Ext w w' := by
  obtain ⟨A, c, h1, h2, h3⟩ := h
  have HG1 := Lib.hid h1
  clear h1 h2 h3
  go_enter Try.func15, Try.ntmps15
  go_upto_region 3 with fail
  obtain ⟨bx, hbx⟩ : ∃ bx, w.heap.size = bx := ⟨_, rfl⟩
  obtain ⟨W1, hW1⟩ : ∃ W1, w.alloc (.cells #[.int .i64 a, .int .i64 d, .int .i64 i] 34) = W1 := ⟨_, rfl⟩
  have X1 : Hid (Ext w W1) := Lib.hid (by rw [← hW1]; exact (by repeat (first | exact Ext.refl _ | refine Ext.alloc ?_ _ | refine Ext.more ?_ _ _ | refine Ext.drew ?_ | refine Ext.drewN ?_ _ | refine Ext.setCell ?_ (by simp <;> omega) _)))
  have B1 : W1.heap[bx]? = some (.cells #[.int .i64 a, .int .i64 d, .int .i64 i] 34) := by rw [← hW1, ← hbx]; exact heap_alloc_new _ _
  have G1 := ext_block HG1.out X1.out
  rw [hW1, hbx]
  have e0 := cell_of_row _ _ 0 _ _ _ B1
  have e1 := cell_of_row _ _ 1 _ _ _ B1
  have e2 := cell_of_row _ _ 2 _ _ _ B1
  simp at e0 e1 e2
  have le := lt_of_heap B1
  have k0 := cell_of_row _ _ 0 _ _ _ G1
  have k1 := cell_of_row _ _ 1 _ _ _ G1
  simp at k0 k1
  have lg := lt_of_heap G1
  clear B1 G1 hW1 hbx
  by_cases c0 : a < 0
  · have q0 : decide (a < 0) = true := decide_eq_true c0
    clear c0 bad
    refine wp_region_bt (37) (softs_bt [0, 1, 2, 3, 4, 5, 6, 7, 8, 9, 10, 11, 12, 13, 14, 15, 16, 17, 18, 19, 20, 21, 22, 23, 24, 25, 26, 27, 28, 29, 30, 31, 32, 33, 34, 35, 36] .fin) (by kernel_rfl) (by kernel_rfl) ?_
    (refine bt_softs _ fun K hK => ?_); (simp only [pick, nthC]); (repeat (go_big_quiet_step (fail))); (refine wpQuiet_nil (hK _ ?_)); (clear hK K)
    (refine bt_fin ?_)
    go_wp2_with fail
    go_ret
    exact ⟨rfl, X1.out.drew⟩
  · have q0 : decide (a < 0) = false := decide_eq_false c0
    by_cases c1 : d < 0
    · have q1 : decide (d < 0) = true := decide_eq_true c1
      clear c1 bad
      refine wp_region_bt (37) (softs_bt [0, 1, 2, 3, 4, 5, 6, 7, 8, 9, 10, 11, 12, 13, 14, 15, 16, 17, 18, 19, 20, 21, 22, 23, 24, 25, 26, 27, 28, 29, 30, 31, 32, 33, 34, 35, 36] .fin) (by kernel_rfl) (by kernel_rfl) ?_
      (refine bt_softs _ fun K hK => ?_); (simp only [pick, nthC]); (repeat (go_big_quiet_step (fail))); (refine wpQuiet_nil (hK _ ?_)); (clear hK K)
      (refine bt_fin ?_)
      go_wp2_with fail
      go_ret
      exact ⟨rfl, X1.out.drew⟩
    · have q1 : decide (d < 0) = false := decide_eq_false c1
      by_cases c2 : (n : Int) < a
      · have q2 : decide ((n : Int) < a) = true := decide_eq_true c2
        clear c2 bad
        refine wp_region_bt (37) (softs_bt [0, 1, 2, 3, 4, 5, 6, 7, 8, 9, 10, 11, 12, 13, 14, 15, 16, 17, 18, 19, 20, 21, 22, 23, 24, 25, 26, 27, 28, 29, 30, 31, 32, 33, 34, 35, 36] .fin) (by kernel_rfl) (by kernel_rfl) ?_
        (refine bt_softs _ fun K hK => ?_); (simp only [pick, nthC]); (repeat (go_big_quiet_step (fail))); (refine wpQuiet_nil (hK _ ?_)); (clear hK K)
        (refine bt_fin ?_)
        go_wp2_with fail
        go_ret
        exact ⟨rfl, X1.out.drew⟩
      · have q2 : decide ((n : Int) < a) = false := decide_eq_false c2
        have w1 : IntKind.i64.wrap ((n : Int) - a) = n - a := IntWalk.i64_in _ (by omega)
        by_cases c3 : (n : Int) - a < d
        · have q3 : decide ((n : Int) - a < d) = true := decide_eq_true c3
          clear c3 bad
          refine wp_region_bt (37) (softs_bt [0, 1, 2, 3, 4, 5, 6, 7, 8, 9, 10, 11, 12, 13, 14, 15, 16, 17, 18, 19, 20, 21, 22, 23, 24, 25, 26, 27, 28, 29, 30, 31, 32, 33, 34, 35, 36] .fin) (by kernel_rfl) (by kernel_rfl) ?_
          (refine bt_softs _ fun K hK => ?_); (simp only [pick, nthC]); (repeat (go_big_quiet_step (fail))); (refine wpQuiet_nil (hK _ ?_)); (clear hK K)
          (refine bt_fin ?_)
          go_wp2_with fail
          go_ret
          exact ⟨rfl, X1.out.drew⟩
        · have q3 : decide ((n : Int) - a < d) = false := decide_eq_false c3
          have q4 : (i != (s.size : Int)) = true := by
            rw [bne_iff_ne]
            exact bad.elim (fun h => absurd h c0) (fun h => h.elim (fun h => absurd h c1) (fun h => h.elim (fun h => absurd h c2) (fun h => h.elim (fun h => absurd h c3) id)))
          clear c0 c1 c2 c3 bad
          refine wp_region_bt (37) (softs_bt [0, 1, 2, 3, 4, 5, 6, 7, 8, 9, 10, 11, 12, 13, 14, 15, 16, 17, 18, 19, 20, 21, 22, 23, 24, 25, 26, 27, 28, 29, 30, 31, 32, 33, 34, 35, 36] .fin) (by kernel_rfl) (by kernel_rfl) ?_
          (refine bt_softs _ fun K hK => ?_); (simp only [pick, nthC]); (repeat (go_big_quiet_step (fail))); (refine wpQuiet_nil (hK _ ?_)); (clear hK K)
          (refine bt_fin ?_)
          go_wp2_with fail
          go_ret
          exact ⟨rfl, X1.out.drew⟩
set_option maxRecDepth 100000 in
set_option maxHeartbeats 2000000 in
theorem edit_long (a d : Nat) (s : ByteArray) (h : IdxAt w base g xs n) (hn : n ≤ 1000000) (hs : s.size ≤ 1000000) (had : a + d ≤ n) (hl : 65536 < n - d + s.size) :
    Calls Try.prog 15 #[pt g, .agg #[.int .i64 a, .int .i64 d, .int .i64 s.size], .string s] w fun e w' => e = .returned (.int .i64 3) ∧ Ext w w' := by
  obtain ⟨A, c, h1, h2, h3⟩ := h
  have HG1 := Lib.hid h1
  clear h1 h2 h3
  go_enter Try.func15, Try.ntmps15
  go_upto_region 3 with fail
  obtain ⟨bx, hbx⟩ : ∃ bx, w.heap.size = bx := ⟨_, rfl⟩
  obtain ⟨W1, hW1⟩ : ∃ W1, w.alloc (.cells #[.int .i64 a, .int .i64 d, .int .i64 s.size] 34) = W1 := ⟨_, rfl⟩
  have X1 : Hid (Ext w W1) := Lib.hid (by rw [← hW1]; exact (by repeat (first | exact Ext.refl _ | refine Ext.alloc ?_ _ | refine Ext.more ?_ _ _ | refine Ext.drew ?_ | refine Ext.drewN ?_ _ | refine Ext.setCell ?_ (by simp <;> omega) _)))
  have B1 : W1.heap[bx]? = some (.cells #[.int .i64 a, .int .i64 d, .int .i64 s.size] 34) := by rw [← hW1, ← hbx]; exact heap_alloc_new _ _
  have G1 := ext_block HG1.out X1.out
  rw [hW1, hbx]
  have e0 := cell_of_row _ _ 0 _ _ _ B1
  have e1 := cell_of_row _ _ 1 _ _ _ B1
  have e2 := cell_of_row _ _ 2 _ _ _ B1
  simp at e0 e1 e2
  have le := lt_of_heap B1
  have k0 := cell_of_row _ _ 0 _ _ _ G1
  have k1 := cell_of_row _ _ 1 _ _ _ G1
  simp at k0 k1
  have lg := lt_of_heap G1
  clear B1 G1 hW1 hbx
  have q0 : decide ((a : Int) < 0) = false := decide_eq_false (by omega)
  have q1 : decide ((d : Int) < 0) = false := decide_eq_false (by omega)
  have q2 : decide (n < a) = false := decide_eq_false (by omega)
  have q3 : decide ((n : Int) - a < d) = false := decide_eq_false (by omega)
  have w1 : IntKind.i64.wrap ((n : Int) - a) = n - a := IntWalk.i64_in _ (by omega)
  refine wp_region_bt (37) (softs_bt [0, 1, 2, 3, 4, 5, 6, 7, 8, 9, 10, 11, 12, 13, 14, 15, 16, 17, 18, 19, 20, 21, 22, 23, 24, 25, 26, 27, 28, 29, 30, 31, 32, 33, 34, 35, 36] .fin) (by kernel_rfl) (by kernel_rfl) ?_
  (refine bt_softs _ fun K hK => ?_); (simp only [pick, nthC]); (repeat (go_big_quiet_step (fail))); (refine wpQuiet_nil (hK _ ?_)); (clear hK K)
  (refine bt_fin ?_)
  clear q0 q1 q2 q3 w1
  have w2 : IntKind.i64.wrap ((n : Int) - d) = n - d := IntWalk.i64_in _ (by omega)
  have w3 : IntKind.i64.wrap ((n : Int) - d + s.size) = n - d + s.size := IntWalk.i64_in _ (by omega)
  have q4 : decide ((65536 : Int) < (n : Int) - d + s.size) = true := decide_eq_true (by omega)
  go_upto_region 5 with fail
  refine wp_region_bt (12) (softs_bt [0, 1, 2, 3, 4, 5, 6, 7, 8, 9, 10, 11] .fin) (by kernel_rfl) (by kernel_rfl) ?_
  (refine bt_softs _ fun K hK => ?_); (simp only [pick, nthC]); (repeat (go_big_quiet_step (fail))); (refine wpQuiet_nil (hK _ ?_)); (clear hK K)
  (refine bt_fin ?_)
  go_wp2_with fail
  go_ret
  exact ⟨rfl, X1.out.drew.drew⟩
end
/- the chapter's example -/
theorem infoByte : (Try.prog.info? 5).map (fun i => (i.zero, i.size, i.bytes)) = some (some (.int .u8 0), 1, 1) := by kernel_rfl
theorem made_get (n i : Nat) (h : i < n) : (madeCells #[Value.int .u8 0] n)[i]? = some (.int .u8 0) := by
  simp [madeCells, h, Nat.mod_one]
theorem zeros_yes (w : World) (n : Nat) (m : Int) (hm : m = n) (hn : n ≤ 1000000) : ∃ (V : World) (s : ByteArray), s.size = n ∧ Ext w V ∧
    (Instr.makeSlice 44 (.int .i64 m) (.int .i64 m)).run Try.prog w = .ok (.slice (some ⟨w.heap.size, 0, none⟩) n n) V ∧
    (convert 44 9 (.slice (some ⟨w.heap.size, 0, none⟩) n n)).run Try.prog V = .ok (.string s) V := by
  subst hm
  obtain ⟨i3, hi, hz0, hz1, hz2⟩ := info_parts infoByte
  have h := run_makeSlice (P := Try.prog) w 44 5 i3 (.int .u8 0) Try.underlying44 hi hz0 .i64 .i64 (n : Int) (n : Int) (by omega) (by omega) (by rw [hz1]; omega) (by rw [hz2]; omega) (by omega)
  rw [hz1, Int.toNat_natCast, Nat.mul_one] at h
  have B := heap_alloc_new w (.cells (madeCells (Value.int .u8 0).cells n) 5)
  have HB := zerosB_bytes (b := w.heap.size) n (w.alloc (.cells (madeCells (Value.int .u8 0).cells n) 5)) fun i hin => (cell_of_row _ _ i _ _ (0, 0) B).trans (made_get n i hin)
  have h2 := Lib.run_convert_whole (P := Try.prog) (w.alloc (.cells (madeCells (Value.int .u8 0).cells n) 5)) 44 5 9 Try.underlying44 Try.underlying5 Try.underlying9 w.heap.size 0 (zerosB n) HB n
  rw [zerosB_size] at h2
  exact ⟨_, zerosB n, zerosB_size n, (by repeat (first | exact Ext.refl _ | refine Ext.alloc ?_ _ | refine Ext.more ?_ _ _ | refine Ext.drew ?_ | refine Ext.drewN ?_ _ | refine Ext.setCell ?_ (by simp <;> omega) _)), h, h2⟩
theorem rise034 : Rise [0, 3, 4] := fun a b x y hab hx hy => by
  match a, b with
  | 0, 1 => cases hx; cases hy; decide
  | 0, 2 => cases hx; cases hy; decide
  | 1, 2 => cases hx; cases hy; decide
  | 0, b + 3 => cases hy
  | 1, b + 3 => cases hy
  | 2, b + 3 => cases hy
  | a + 3, _ => cases hx
  | 0, 0 => omega
  | 1, 0 => omega
  | 1, 1 => omega
  | 2, 0 => omega
  | 2, 1 => omega
  | 2, 2 => omega
theorem found034a : FoundAt [0, 3, 4] ((1 : Nat) + 1) 1 false := ⟨by decide, (fun k x hk => by
  match k with
  | 0 => cases hk; decide
  | 1 => cases hk; decide
  | 2 => cases hk; decide
  | k + 3 => cases hk), by decide⟩
theorem found034b : FoundAt [0, 3, 4] ((1 : Nat) + (3 : Nat) + 1) 3 false := ⟨by decide, (fun k x hk => by
  match k with
  | 0 => cases hk; decide
  | 1 => cases hk; decide
  | 2 => cases hk; decide
  | k + 3 => cases hk), by decide⟩
theorem lineAt6 {i : Nat} {x : Int} (h : LineAt [0, 3, 4] (6 : Nat) i x) : i = 2 ∧ x = 4 := LineAt.det ⟨rfl, by decide, fun k y hk => by
  match k with
  | 0 => cases hk; decide
  | 1 => cases hk; decide
  | 2 => cases hk; decide
  | k + 3 => cases hk⟩ h
theorem shift023 {zs : List Int} (h : ShiftTo [0, 2, 3] 3 3 (-1) zs) : zs = [0, 2, 3] := ShiftTo.det (ShiftTo.start _ _ _) h
set_option maxRecDepth 100000 in
set_option maxHeartbeats 2000000 in
theorem linesNames_any (W : World) : Calls Try.prog 6 #[] W fun e w' => e = .returned (.bool true) ∧ Ext W w' := by
  go_enter Try.func6, Try.ntmps6
  go_wp2_with fail
  refine (lives09_any W).mono ?_
  rintro e w1 ⟨rfl, hx1⟩
  have HX1 := Lib.hid hx1
  clear hx1
  go_wp2_with fail
  refine (new_any ⟨#[97, 98, 10, 10, 99, 100]⟩ w1 (by decide)).mono ?_
  rintro e w2 ⟨g, rfl, hi2, hx2⟩
  have HI2 : Hid (IdxAt w2 w1.heap.size g [0, 3, 4] 6) := Lib.hid hi2
  have HX2 := Lib.hid (HX1.out.trans hx2)
  have HB2 : Hid (w1.heap.size ≤ w2.heap.size) := Lib.hid hx2.size
  clear hi2 hx2
  go_upto_region 4 with fail
  obtain ⟨w3, z1, hz1, hx3, hm3, hc3⟩ := zeros_yes w2 65537 65537 rfl (by decide)
  have HX3 := Lib.hid hx3
  have HZ1 := Lib.hid hz1
  clear hx3 hz1
  go_wp2_with fail
  refine (new_long z1 w3 (by rw [HZ1.out]; decide) (by rw [HZ1.out]; decide)).mono ?_
  rintro e w4 ⟨rfl, rfl⟩
  clear hm3 hc3
  go_wp2_with fail
  refine (edit_bad 0 0 1 ⟨#[97, 98]⟩ (HI2.out.ext HX3.out) (by decide) (by decide)).mono ?_
  rintro e w4 ⟨rfl, hx4⟩
  have HX4 := Lib.hid (HX3.out.trans hx4)
  clear hx4
  go_wp2_with fail
  refine (edit_bad 7 0 0 ⟨#[]⟩ (HI2.out.ext HX4.out) (by decide) (by decide)).mono ?_
  rintro e w5 ⟨rfl, hx5⟩
  have HX5 := Lib.hid (HX4.out.trans hx5)
  clear hx5
  go_upto_region 7 with fail
  obtain ⟨w6, z2, hz2, hx6, hm6, hc6⟩ := zeros_yes w5 65531 65531 rfl (by decide)
  have HX6 := Lib.hid (HX5.out.trans hx6)
  have HZ2 := Lib.hid hz2
  clear hx6 hz2
  have CE := edit_long 0 0 z2 (HI2.out.ext HX6.out) (by decide) (by rw [HZ2.out]; decide) (by decide) (by rw [HZ2.out]; decide)
  rw [HZ2.out] at CE
  have HCE := Lib.hid CE
  clear CE
  go_wp2_with fail
  refine HCE.out.mono ?_
  rintro e w7 ⟨rfl, hx7⟩
  have HX7 := Lib.hid (HX6.out.trans hx7)
  have HI7 := Lib.hid (HI2.out.ext HX7.out)
  clear hx7 hm6 hc6 HCE
  go_wp2_with fail
  refine (start_yes 2 4 HI7.out rfl).mono ?_
  rintro e w8 ⟨rfl, rfl⟩
  go_wp2_with fail
  refine (start_no 3 HI7.out (.inr (by decide))).mono ?_
  rintro e w8 ⟨rfl, rfl⟩
  go_wp2_with fail
  refine (line_yes 6 HI7.out (by decide) (by decide) (by decide) rfl rise034).mono ?_
  rintro e w8 ⟨i, x, rfl, hl, hx8⟩
  obtain ⟨rfl, rfl⟩ := lineAt6 hl
  have HX8 := Lib.hid (HX7.out.trans hx8)
  have HI8 := Lib.hid (HI2.out.ext HX8.out)
  clear hl hx8
  go_wp2_with fail
  refine (line_no 7 HI8.out (.inr (by decide))).mono ?_
  rintro e w9 ⟨rfl, rfl⟩
  go_wp2_with fail
  refine (place_yes1 0 0 3 2 HI8.out rfl rfl (by decide) (by decide) (by decide) (by decide) (by decide) (by decide)).mono ?_
  rintro e w9 ⟨rfl, rfl⟩
  go_wp2_with fail
  refine (place_no3 0 0 3 3 HI8.out rfl rfl (by decide) (by decide) (by decide) (by decide) (by decide) (by decide)).mono ?_
  rintro e w9 ⟨rfl, rfl⟩
  go_wp2_with fail
  refine (place_no1 (-1) 0 HI8.out (.inl (by decide))).mono ?_
  rintro e w9 ⟨rfl, rfl⟩
  go_wp2_with fail
  refine (edit_ok 1 3 1 3 false false ⟨#[10, 10]⟩ HI8.out (by have := HB2.out; have := HX8.out.size; omega) rise034.mono (by decide) (by decide) (by decide) (by decide) (by decide) found034a found034b (rep_tail _ [0, 3, 4] [2, 3] 1 (by decide) (by decide) (by decide) (by decide) : RepOk _ [0, 3, 4] [2, 3] [0, 2, 3] 1 3) (by decide) (by decide) (by decide)).mono ?_
  rintro e w10 ⟨zs, rfl, hz, hi10, ht10⟩
  obtain rfl := shift023 hz
  have HI10 : Hid (IdxAt w10 w1.heap.size g [0, 2, 3] 5) := Lib.hid hi10
  have HX10 : Hid (Ext W w10) := Lib.hid (Ext.of_below (((HX2.out.trans HX8.out).below).trans (ht10.below (HX2.out.trans HX8.out).size fun k hk => by
    obtain ⟨A, c, h1, h2, h3⟩ := HI8.out
    have := HX1.out.size
    rcases hk with rfl | hk | hk
    · omega
    · have := own_block h2 k (blk_own (RowAt.of h1 hk)); omega
    · have := HX8.out.size; have := HX2.out.size; omega)))
  clear hz hi10 ht10
  go_wp2_with fail
  refine (len_any HI10.out).mono ?_
  rintro e w11 ⟨rfl, rfl⟩
  go_wp2_with fail
  refine (starts_any HI10.out (by decide) (by decide)).mono ?_
  rintro e w11 ⟨A5, c5, rfl, ho5, hx5⟩
  have HX11 := Lib.hid (HX10.out.trans hx5)
  have HO5 := Lib.hid ho5
  have HI11 := Lib.hid (HI10.out.ext hx5)
  clear ho5 hx5
  go_wp2_with fail
  refine (same_any A5 _ [0, 2, 3] [0, 2, 3] c5 3 _ (HO5.out.ints.1.ext (by repeat (first | exact Ext.refl _ | refine Ext.alloc ?_ _ | refine Ext.more ?_ _ _ | refine Ext.drew ?_ | refine Ext.drewN ?_ _ | refine Ext.setCell ?_ (by simp <;> omega) _))) (Ints.of_block (heap_alloc_new w11 _) rfl) (by decide) (by decide)).mono ?_
  rintro e w12 ⟨rfl, hx12⟩
  have HX12 : Hid (Ext w11 w12) := Lib.hid (Ext.trans (by repeat (first | exact Ext.refl _ | refine Ext.alloc ?_ _ | refine Ext.more ?_ _ _ | refine Ext.drew ?_ | refine Ext.drewN ?_ _ | refine Ext.setCell ?_ (by simp <;> omega) _)) hx12)
  clear hx12
  go_wp2_with fail
  refine (bytes_any (HI11.out.ext HX12.out)).mono ?_
  rintro e w13 ⟨rfl, rfl⟩
  go_wp2_with fail
  go_ret
  exact ⟨rfl, HX11.out.trans HX12.out⟩
end Go.Proofs.Ytfjkghbnlmhcnaa
