/- Rows of ints: made, appended to, compared. -/
import Derived.Test.YtmgpofdmfmeljaaChecked
import Derived.Test.YtmgpofdmfmeljaaTr
import Derived.WalkSpells
import Derived.WalkLawsBesides
import Derived.BigRegion
import Derived.Deep.RegionWith
import Derived.Deep.QuietTactic
import Derived.Deep.DeepCutAuto
import Derived.Deep.RegionHeld3
import Derived.Deep.RegionLaw
import Derived.BigQuiet
import Derived.Lib.Hide
namespace Go.Proofs.Ytmgpofdmfmeljaa
open Go.RowKit
attribute [local go_sem] more_drew more_drewN more_size more_cell more_frozen more_setCell drew_more drewN_more lt_add_r lt_add_r2 lt_add_r3 lt_add_r4 lt_add_r5 lt_add_r6 lt_add_r7 lt_add_r8 lt_add_r9 lt_add_r10 lt_self_r lt_self_r2

abbrev pt (b : Nat) : Value := .pointer (some ⟨b, 0, none⟩)
theorem ext_block {w w' : World} {o : Nat} {ob : Obj} (h : w.heap[o]? = some ob) (e : Ext w w') : w'.heap[o]? = some ob := (e.below.block o (lt_of_heap h)).trans h
theorem heap_alloc_get (w : World) (o : Obj) (j : Nat) : (w.alloc o).heap[j]? = if j = w.heap.size then some o else w.heap[j]? := by
  show (w.heap.push o)[j]? = _
  rw [Array.getElem?_push]
theorem row_block {w : World} {base c n : Nat} {A : Option Addr} {e : TypeId} {size : Nat} {xs : List Value} (h : w.ownsRow base e size (.slice A n c) n xs) (h0 : 0 < n) : ∃ g, A = some ⟨g, 0, none⟩ ∧ base ≤ g ∧ g < w.heap.size := by
  rcases h.2 with ⟨h2, rfl⟩ | ⟨g', cap, cur, h2, h3, h4, _⟩
  · omega
  · injection h2 with a1 a2 a3
    exact ⟨g', a1, h3, lt_of_heap h4⟩
def iv (xs : List Int) : List Value := xs.map (Value.int .i64)
theorem iv_length (xs : List Int) : (iv xs).length = xs.length := List.length_map _
theorem iv_get {xs : List Int} {k : Nat} (h : k < xs.length) : (iv xs)[k]? = some (.int .i64 (xs.getD k 0)) := by
  unfold iv
  rw [List.getElem?_map, List.getD_eq_getElem?_getD, List.getElem?_eq_getElem h]
  rfl
theorem iv_append (xs ys : List Int) : iv (xs ++ ys) = iv xs ++ iv ys := List.map_append
theorem infoInt : (Try.prog.info? 3).map (fun i => (i.zero, i.size, i.bytes)) = some (some (.int .i64 0), 1, 8) := by kernel_rfl
/-- a row of ints of the call's own -/
def OwnI (w : World) (base : Nat) (A : Option Addr) (c : Nat) (xs : List Int) : Prop := w.ownsRow base 3 1 (.slice A xs.length c) xs.length (iv xs)
theorem OwnI.ints {w : World} {base : Nat} {A : Option Addr} {c : Nat} {xs : List Int} (h : OwnI w base A c xs) : Ints w A xs ∧ xs.length ≤ c ∧ c ≤ maxLen ∧ (A = none → c = 0) := by
  obtain ⟨A', cap, hv, h1, h2, h3, h4⟩ := own_cells h
  injection hv with a1 a2 a3
  subst a1 a3
  refine ⟨fun h0 => ?_, h2, h3, h4⟩
  obtain ⟨b, off, hA, hb, hc⟩ := h1 (by rw [iv_length]; exact h0)
  exact ⟨b, off, hA, hb, fun k hk => hc k _ (iv_get hk)⟩
theorem OwnI.nil (w : World) (base : Nat) : OwnI w base none 0 [] := World.ownsRow_nil _ _ _ _
theorem OwnI.base {w : World} {base base' : Nat} {A : Option Addr} {c : Nat} {xs : List Int} (h : OwnI w base A c xs) (hb : base' ≤ base) : OwnI w base' A c xs :=
  ⟨h.1, h.2.imp id fun ⟨g, cap, cur, h1, h2, h3⟩ => ⟨g, cap, cur, h1, Nat.le_trans hb h2, h3⟩⟩
theorem OwnI.ext {w w' : World} {base : Nat} {A : Option Addr} {c : Nat} {xs : List Int} (h : OwnI w base A c xs) (e : Ext w w') : OwnI w' base A c xs := own_ext h e
/-- a call's result that is a row of ints -/
def IntsRet (w : World) (us : List Int) (e : Ending) (w' : World) : Prop := ∃ A c, e = .returned (.slice A us.length c) ∧ OwnI w' w.heap.size A c us ∧ Ext w w'
/-- the slot's value is a row of ints of the call's own -/
def RowI (w : World) (base : Nat) (v : Value) (xs : List Int) : Prop := ∃ A c, v = .slice A xs.length c ∧ OwnI w base A c xs
theorem RowI.ext {w w' : World} {base : Nat} {v : Value} {xs : List Int} (h : RowI w base v xs) (e : Ext w w') : RowI w' base v xs := by
  obtain ⟨A, c, hv, ho⟩ := h
  exact ⟨A, c, hv, ho.ext e⟩
theorem app_int (w0 : World) {w : World} {ops : Array Oper} {rest : List Oper} {o : Oper} {a : Act} {Q : Exit → Act → World → Prop} (hw : Region.wanted o (yielded ops a.tmps) = true) (s x : Operand)
    (ho : o.op = .call { callee := .builtin .append, args := #[s, x], argTypes := #[38, 38] }) {xs : List Int} {v : Value} (hr : RowI w w0.heap.size v xs) (y : Int) (g : Nat)
    (hs : a.eval s = v) (hx : a.eval x = .slice (some ⟨g, 0, none⟩) 1 1) (hg : g < w.heap.size) (hc : w.cell? ⟨g, 0, none⟩ = some (.int .i64 y)) (hlen : xs.length ≤ 1000000) (hext : Ext w0 w)
    (h : ∀ v' w', RowI w' w0.heap.size v' (xs ++ [y]) → w.grownBy w' v.ownBlock → Ext w0 w' → wpList Try.prog ops Q rest (a.put o.dst v') w') : wpList Try.prog ops Q (o :: rest) a w := by
  obtain ⟨A, c, rfl, hown⟩ := hr
  obtain ⟨i3, hi, hz0, hz1, hz2⟩ := info_parts infoInt
  refine wpList_append_cells w hw s x 38 ho w0.heap.size 3 i3 (.int .i64 0) 1 8 Try.underlying38 hi hz0 hz1 hz2 rfl (by omega) _ xs.length (iv xs) hs hown (some ⟨g, 0, none⟩) 1 1 (iv [y]) hx (fun h => by cases h) rfl
    (fun _ => ⟨g, 0, rfl, hg, fun k u hk => ?_⟩) (fun u hu => ?_) (by unfold maxLen; omega) (by omega) hext.size fun v' w' h2 h3 h4 => ?_
  · cases k with
    | zero => simp [iv] at hk; rw [← hk]; exact hc
    | succ k => simp [iv] at hk
  · simp only [iv, List.map_cons, List.map_nil, List.mem_singleton] at hu
    subst hu
    rfl
  · obtain ⟨A', c', hv', _⟩ := own_cells h2
    subst hv'
    refine h _ w' ⟨A', c', by rw [List.length_append]; rfl, ?_⟩ h3 (hext.grown h3 fun g hg => own_block hown g hg)
    unfold OwnI
    rw [iv_append, List.length_append]
    exact h2

theorem ret_ib {a b : Int} {c d : Bool} (h : a = b) (h2 : c = d) : Ending.returned (.tuple #[.int .i64 a, .bool c]) = Ending.returned (.tuple #[.int .i64 b, .bool d]) := by rw [h, h2]
theorem take_next {xs : List Int} {k : Nat} (h : k < xs.length) : xs.take (k + 1) = xs.take k ++ [xs.getD k 0] := by
  rw [List.take_succ_eq_append_getElem h, List.getD_eq_getElem?_getD, List.getElem?_eq_getElem h]
  rfl
set_option maxHeartbeats 1000000 in
/-- viewportkit.Same at int -/
theorem same_any (A B : Option Addr) (xs ys : List Int) (c d : Nat) (w : World) (hx : Ints w A xs) (hy : Ints w B ys) (bx : xs.length ≤ 9223372036854775807) (by_ : ys.length ≤ 9223372036854775807) :
    Calls Try.prog 14 #[.slice A xs.length c, .slice B ys.length d] w fun e w' => e = .returned (.bool (decide (xs = ys))) ∧ Ext w w' := by
  by_cases hl : xs.length = ys.length
  · rcases hx.empty_or with rfl | ⟨h0, b, off, rfl, hb, hc⟩
    · obtain rfl : ys = [] := List.eq_nil_of_length_eq_zero hl.symm
      go_enter Try.func14, Try.ntmps14
      go_wp2
      refine wp_loop_rounds 1 ?_
      rw [rounds_succ]
      go_wp2
      go_ret
      exact ⟨rfl, (by repeat (first | exact Ext.refl _ | refine Ext.alloc ?_ _ | refine Ext.more ?_ _ _ | refine Ext.drew ?_ | refine Ext.drewN ?_ _ | refine Ext.setCell ?_ (by simp <;> omega) _))⟩
    · rcases hy.empty_or with rfl | ⟨h1, b', off', rfl, hb', hc'⟩
      · simp only [List.length_nil] at hl; omega
      · have hl2 : ((xs.length : Int) != (ys.length : Int)) = false := by simp; omega
        have HC := Lib.hid hc
        have HC' := Lib.hid hc'
        have HL := Lib.hid hl
        clear hc hc' hl hx hy
        go_enter Try.func14, Try.ntmps14
        go_wp2
        go_loopw [5] (fun i wr => ∃ k : Nat, k ≤ xs.length ∧ i = .int .i64 k ∧ xs.take k = ys.take k ∧ Ext w wr) (fun i _ => xs.length - (intOf i).toNat)
        case atStart => exact ⟨0, by omega, rfl, by simp, (by repeat (first | exact Ext.refl _ | refine Ext.alloc ?_ _ | refine Ext.more ?_ _ _ | refine Ext.drew ?_ | refine Ext.drewN ?_ _ | refine Ext.setCell ?_ (by simp <;> omega) _))⟩
        case round =>
          obtain ⟨k, hk, rfl, ht, os, kk, rfl⟩ := hrel
          have HT := Lib.hid ht
          clear ht
          by_cases hlt : k < xs.length
          · have c1 := HC.out k hlt
            have c2 := HC'.out k (by rw [← HL.out]; exact hlt)
            have hlt' : k < ys.length := by have := HL.out; omega
            generalize hu : xs.getD k 0 = u at *
            generalize hv : ys.getD k 0 = v at *
            have HU := Lib.hid hu
            have HV := Lib.hid hv
            clear hu hv
            by_cases e : u = v
            · have e1 : (u != v) = false := by simp [e]
              have E := Lib.hid e
              clear e
              go_upto_region 5 with fail
              go_quiet (fail)
              go_wp2
              go_roundw
              case rel => exact ⟨k + 1, by omega, by go_num, by rw [take_next hlt, take_next hlt', HT.out, HU.out, HV.out, E.out], (by repeat (first | exact Ext.refl _ | refine Ext.alloc ?_ _ | refine Ext.more ?_ _ _ | refine Ext.drew ?_ | refine Ext.drewN ?_ _ | refine Ext.setCell ?_ (by simp <;> omega) _))⟩
              case measure => simp [intOf]; omega
            · have e1 : (u != v) = true := by simp [e]
              have E := Lib.hid e
              clear e
              go_upto_region 5 with fail
              go_quiet (fail)
              go_wp2
              go_ret
              refine ⟨ret_bool ?_, (by repeat (first | exact Ext.refl _ | refine Ext.alloc ?_ _ | refine Ext.more ?_ _ _ | refine Ext.drew ?_ | refine Ext.drewN ?_ _ | refine Ext.setCell ?_ (by simp <;> omega) _))⟩
              symm
              rw [decide_eq_false_iff_not]
              intro h
              apply E.out
              rw [← HU.out, ← HV.out, h]
          · go_wp2
            go_ret
            refine ⟨ret_bool ?_, (by repeat (first | exact Ext.refl _ | refine Ext.alloc ?_ _ | refine Ext.more ?_ _ _ | refine Ext.drew ?_ | refine Ext.drewN ?_ _ | refine Ext.setCell ?_ (by simp <;> omega) _))⟩
            symm
            rw [decide_eq_true_eq]
            have := HT.out
            have h2 := HL.out
            rwa [List.take_of_length_le (by omega), List.take_of_length_le (by omega)] at this
  · have hl2 : ((xs.length : Int) != (ys.length : Int)) = true := by simp; omega
    have hl3 : decide (xs = ys) = false := by
      rw [decide_eq_false_iff_not]
      intro h
      exact hl (by rw [h])
    have HL := Lib.hid hl3
    clear hl hl3
    go_enter Try.func14, Try.ntmps14
    go_wp2
    go_ret
    exact ⟨ret_bool HL.out.symm, (by repeat (first | exact Ext.refl _ | refine Ext.alloc ?_ _ | refine Ext.more ?_ _ _ | refine Ext.drew ?_ | refine Ext.drewN ?_ _ | refine Ext.setCell ?_ (by simp <;> omega) _))⟩

theorem app_intO (w0 : World) {w : World} {ops : Array Oper} {rest : List Oper} {o : Oper} {a : Act} {Q : Exit → Act → World → Prop} (hw : Region.wanted o (yielded ops a.tmps) = true) (s x : Operand)
    (ho : o.op = .call { callee := .builtin .append, args := #[s, x], argTypes := #[38, 38] }) {xs : List Int} {v : Value} (hr : RowI w w0.heap.size v xs) (y : Int) (g : Nat)
    (hs : a.eval s = v) (hx : a.eval x = .slice (some ⟨g, 0, none⟩) 1 1) (hg : g < w.heap.size) (hc : w.cell? ⟨g, 0, none⟩ = some (.int .i64 y)) (hlen : xs.length ≤ 1000000) (hbase : w0.heap.size ≤ w.heap.size)
    (h : ∀ v' w', RowI w' w0.heap.size v' (xs ++ [y]) → w.grownBy w' v.ownBlock → (v'.ownBlock = v.ownBlock ∨ v'.ownBlock = some w.heap.size) → wpList Try.prog ops Q rest (a.put o.dst v') w') : wpList Try.prog ops Q (o :: rest) a w := by
  obtain ⟨A, c, rfl, hown⟩ := hr
  obtain ⟨i3, hi, hz0, hz1, hz2⟩ := info_parts infoInt
  refine wpList_append_cells w hw s x 38 ho w0.heap.size 3 i3 (.int .i64 0) 1 8 Try.underlying38 hi hz0 hz1 hz2 rfl (by omega) _ xs.length (iv xs) hs hown (some ⟨g, 0, none⟩) 1 1 (iv [y]) hx (fun h => by cases h) rfl
    (fun _ => ⟨g, 0, rfl, hg, fun k u hk => ?_⟩) (fun u hu => ?_) (by unfold maxLen; omega) (by omega) hbase fun v' w' h2 h3 h4 => ?_
  · cases k with
    | zero => simp [iv] at hk; rw [← hk]; exact hc
    | succ k => simp [iv] at hk
  · simp only [iv, List.map_cons, List.map_nil, List.mem_singleton] at hu
    subst hu
    rfl
  · obtain ⟨A', c', hv', _⟩ := own_cells h2
    subst hv'
    refine h _ w' ⟨A', c', by rw [List.length_append]; rfl, ?_⟩ h3 h4
    unfold OwnI
    rw [iv_append, List.length_append]
    exact h2
theorem app_ints (w0 : World) {w : World} {ops : Array Oper} {rest : List Oper} {o : Oper} {a : Act} {Q : Exit → Act → World → Prop} (hw : Region.wanted o (yielded ops a.tmps) = true) (s x : Operand)
    (ho : o.op = .call { callee := .builtin .append, args := #[s, x], argTypes := #[38, 38] }) {xs : List Int} {v : Value} (hr : RowI w w0.heap.size v xs) (ys : List Int) (A : Option Addr) (c : Nat)
    (hs : a.eval s = v) (hx : a.eval x = .slice A ys.length c) (hA : A = none → c = 0) (hc : Ints w A ys) (hlen : xs.length + ys.length ≤ 10000000) (hext : Ext w0 w)
    (h : ∀ v' w', RowI w' w0.heap.size v' (xs ++ ys) → w.grownBy w' v.ownBlock → Ext w0 w' → wpList Try.prog ops Q rest (a.put o.dst v') w') : wpList Try.prog ops Q (o :: rest) a w := by
  obtain ⟨A0, c0, rfl, hown⟩ := hr
  obtain ⟨i3, hi, hz0, hz1, hz2⟩ := info_parts infoInt
  refine wpList_append_cells w hw s x 38 ho w0.heap.size 3 i3 (.int .i64 0) 1 8 Try.underlying38 hi hz0 hz1 hz2 rfl (by omega) _ xs.length (iv xs) hs hown A ys.length c (iv ys) hx hA (by rw [iv_length, Nat.mul_one])
    (fun h0 => ?_) (fun u hu => ?_) (by unfold maxLen; omega) (by omega) hext.size fun v' w' h2 h3 h4 => ?_
  · rw [iv_length] at h0
    obtain ⟨b, off, hA', hb, hcc⟩ := hc h0
    refine ⟨b, off, hA', hb, fun k u hk => ?_⟩
    have hkl : k < ys.length := by rw [← iv_length]; exact (List.getElem?_eq_some_iff.1 hk).1
    exact (hcc k hkl).trans ((iv_get hkl).symm.trans hk)
  · obtain ⟨x, _, rfl⟩ := List.mem_map.1 hu
    rfl
  · obtain ⟨A', c', hv', _⟩ := own_cells h2
    subst hv'
    refine h _ w' ⟨A', c', by rw [List.length_append], ?_⟩ h3 (hext.grown h3 fun g hg => own_block hown g hg)
    unfold OwnI
    rw [iv_append, List.length_append]
    exact h2
theorem ownI_empty (w : World) (base : Nat) (hb : base ≤ w.heap.size) : RowI (w.alloc (.cells #[] 3)) base (.slice (some ⟨w.heap.size, 0, none⟩) 0 0) [] :=
  ⟨some ⟨w.heap.size, 0, none⟩, 0, rfl, own_lit w base 3 1 w.heap.size 0 #[] rfl hb rfl (by unfold maxLen; omega)⟩
end Go.Proofs.Ytmgpofdmfmeljaa
