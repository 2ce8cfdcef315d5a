/- B1: 2 texts in one. -/
import Derived.Test.YtggmljookcmnkaaA8
import Derived.Test.YtggmljookcmnkaaTr
import Derived.WalkSpells
import Derived.WalkLawsBesides
import Derived.BigRegion
import Derived.Deep.RegionWith
import Derived.Deep.QuietTactic
import Derived.Deep.DeepCutAuto
import Derived.Deep.RegionHeld3
import Derived.Deep.RegionLaw
import Derived.BigQuiet
import Derived.Lib.Hide
/- The contracts of is, end, End. -/
namespace Go.Proofs.Ytggmljookcmnkaa
open Go.RowKit
attribute [local go_sem] more_drew more_drewN more_size more_cell more_frozen more_setCell drew_more drewN_more lt_add_r lt_add_r2 lt_add_r3 lt_add_r4 lt_add_r5 lt_add_r6 lt_add_r7 lt_add_r8 lt_add_r9 lt_add_r10 lt_self_r lt_self_r2

/-- a slice of parts that is read -/
structure PS (w : World) (A : Option Addr) (c : Nat) (ps : List Prt) : Prop where
  parts : Prts w A ps
  oks : PrtsOk w ps
  few : Few ps
  cap : ps.length ≤ c
  top : c ≤ 9223372036854775807
  none : A = .none → c = 0
theorem PS.ext {w w' : World} {A : Option Addr} {c : Nat} {ps : List Prt} (h : PS w A c ps) (e : Ext w w') : PS w' A c ps := ⟨h.parts.ext e, h.oks.ext e, h.few, h.cap, h.top, h.none⟩
theorem PS.below {w w' : World} {A : Option Addr} {c : Nat} {ps : List Prt} (h : PS w A c ps) (e : Below w.heap.size w w') : PS w' A c ps := ⟨h.parts.below e, h.oks.below e, h.few, h.cap, h.top, h.none⟩
section
variable {A : Option Addr} {c : Nat} {ps : List Prt} {w : World}
theorem check_ok (h : PS w A c ps) (T : Tree (nds ps)) : Calls Try.prog 43 #[.slice A ps.length c] w fun e w' => e = .returned (.int .i64 0) ∧ Ext w w' :=
  (check_any A c ps w h.parts h.oks h.few).mono fun _ _ ⟨he, hx⟩ => ⟨by rw [he, (checkF_few h.few.len).1 T], hx⟩
theorem check_no (h : PS w A c ps) (T : ¬ Tree (nds ps)) : Calls Try.prog 43 #[.slice A ps.length c] w fun e w' => e = .returned (.int .i64 2) ∧ Ext w w' :=
  (check_any A c ps w h.parts h.oks h.few).mono fun _ _ ⟨he, hx⟩ => ⟨by rw [he, (checkF_few h.few.len).2 T], hx⟩
set_option maxRecDepth 100000 in
set_option maxHeartbeats 1000000 in
theorem is_no (i : Int) (h : PS w A c ps) (T : ¬ Tree (nds ps)) : Calls Try.prog 88 #[.slice A ps.length c, .int .i64 i] w fun e w' => e = .returned (.bool false) ∧ Ext w w' := by
  have CH := Lib.hid (check_no h T)
  have hl := h.few.len
  clear h T
  go_enter Try.func88, Try.ntmps88
  go_wp2_with fail
  refine CH.out.mono ?_
  rintro e w2 ⟨rfl, hx2⟩
  have HX := Lib.hid hx2
  clear hx2
  go_wp2_with fail
  go_ret
  exact ⟨rfl, HX.out⟩
set_option maxRecDepth 100000 in
set_option maxHeartbeats 1000000 in
theorem is_yes (i : Int) (h : PS w A c ps) (T : Tree (nds ps)) : Calls Try.prog 88 #[.slice A ps.length c, .int .i64 i] w fun e w' => e = .returned (.bool (decide (0 ≤ i) && decide (i < (ps.length : Int)))) ∧ Ext w w' := by
  have CH := Lib.hid (check_ok h T)
  have hl := h.few.len
  clear h T
  go_enter Try.func88, Try.ntmps88
  go_wp2_with fail
  refine CH.out.mono ?_
  rintro e w2 ⟨rfl, hx2⟩
  have HX := Lib.hid hx2
  clear hx2
  go_wp2_with fail
  all_goals go_ret
  all_goals exact ⟨ret_bool (by rw [Bool.eq_iff_iff]; simp; try omega), HX.out⟩
set_option maxRecDepth 100000 in
set_option maxHeartbeats 1000000 in
theorem end_any' (i m : Nat) (h : PS w A c ps) (hp : Part (nds ps) i m) : Calls Try.prog 89 #[.slice A ps.length c, .int .i64 i] w fun e w' => e = .returned (.int .i64 m) ∧ Ext w w' := by
  have HS := Lib.hid h
  have HP := Lib.hid hp
  have hl := h.few.len
  have hm : m ≤ ps.length := by have := hp.le; rwa [nds_length] at this
  clear h hp
  go_enter Try.func89, Try.ntmps89
  go_wp2_with fail
  go_loopw [1] (fun i wr => ∃ c1 : Nat, i = .int .i64 c1 ∧ Hid (Part (nds ps) c1 m) ∧ Ext w wr) (fun i _ => m - (intOf i).toNat)
  case atStart => exact ⟨i, rfl, HP, Ext.refl _⟩
  case round =>
    obtain ⟨c1, rfl, hc1, hx⟩ := hrel
    have hlt := hc1.out.lt
    have hlm := hc1.out.lt_end
    rw [nds_length] at hlt
    obtain ⟨⟨q, kA, kcap⟩, hq⟩ : ∃ q, ps[c1]? = some q := ⟨_, List.getElem?_eq_getElem hlt⟩
    obtain ⟨b, off, rfl, hb, hcell⟩ := (HS.out.ext hx).parts (by omega)
    obtain ⟨_, _, _, _, _, _, d6, _⟩ := hcell c1 _ hq
    have ho := (HS.out.ext hx).oks.get hq
    have o1 := ho.cap
    have o2 := ho.top
    have HX := Lib.hid hx
    dsimp only at d6 o1 o2
    rcases Nat.eq_zero_or_pos q.kids.length with h0 | h0
    · have e1 := hc1.out.leaf (nds_get hq) (List.eq_nil_of_length_eq_zero h0)
      have g0 : decide (0 < q.kids.length) = false := by simp [h0]
      have E1 := Lib.hid e1
      clear hcell hq ho hx h0 e1
      go_wp2_with fail
      go_ret
      exact ⟨ret_int (by rw [E1.out]; simp), HX.out⟩
    · obtain ⟨b2, off2, hkA, hb2, hc2⟩ := ho.kids h0
      change kA = _ at hkA
      subst hkA
      have e2 := hc2 (q.kids.length - 1) (by show _ < q.kids.length; omega)
      dsimp only at e2
      obtain ⟨k, hk⟩ : ∃ k, q.kids.getLast? = some k := ⟨_, List.getLast?_eq_some_getLast (by intro h; rw [h] at h0; simp at h0)⟩
      obtain ⟨c2, rfl, hcc, hp2⟩ := hc1.out.last (nds_get hq) hk
      have e3 : q.kids.getD (q.kids.length - 1) 0 = (c2 : Int) := by
        rw [List.getLast?_eq_getElem?] at hk
        rw [List.getD_eq_getElem?_getD, hk]
        rfl
      rw [e3] at e2
      have g0 : decide (0 < q.kids.length) = true := by simp [h0]
      have HP2 := Lib.hid hp2
      have s1 : IntKind.i64.wrap ((q.kids.length : Int) - 1) = ((q.kids.length - 1 : Nat) : Int) := by
        rw [show ((q.kids.length : Int) - 1) = ((q.kids.length - 1 : Nat) : Int) by omega]
        exact IntWalk.i64_in _ (by omega)
      have s2 : q.kids.length - 1 < q.kids.length := by omega
      clear hcell hq ho hx hc2 hk e3 hp2
      go_upto_region 2 with fail
      go_quiet (fail)
      go_wp2_with fail
      go_roundw
      case rel => exact ⟨c2, rfl, HP2, HX.out.trans (by repeat (first | exact Ext.refl _ | refine Ext.alloc ?_ _ | refine Ext.more ?_ _ _ | refine Ext.drew ?_ | refine Ext.drewN ?_ _ | refine Ext.setCell ?_ (by simp <;> omega) _))⟩
      case measure => simp [intOf]; omega
end
end Go.Proofs.Ytggmljookcmnkaa

/- Results that are slices of ints; append of one. The contracts of End, Find, Leaves. -/
namespace Go.Proofs.Ytggmljookcmnkaa
open Go.RowKit
attribute [local go_sem] more_drew more_drewN more_size more_cell more_frozen more_setCell drew_more drewN_more lt_add_r lt_add_r2 lt_add_r3 lt_add_r4 lt_add_r5 lt_add_r6 lt_add_r7 lt_add_r8 lt_add_r9 lt_add_r10 lt_self_r lt_self_r2

def iv (xs : List Int) : List Value := xs.map (Value.int .i64)
theorem iv_length (xs : List Int) : (iv xs).length = xs.length := List.length_map _
theorem iv_get {xs : List Int} {k : Nat} (h : k < xs.length) : (iv xs)[k]? = some (.int .i64 (xs.getD k 0)) := by
  unfold iv
  rw [List.getElem?_map, List.getD_eq_getElem?_getD, List.getElem?_eq_getElem h]
  rfl
theorem iv_append (xs ys : List Int) : iv (xs ++ ys) = iv xs ++ iv ys := List.map_append
theorem infoInt : (Try.prog.info? 3).map (fun i => (i.zero, i.size, i.bytes)) = some (some (.int .i64 0), 1, 8) := by kernel_rfl
/-- a row of ints of the call's own -/
def OwnI (w : World) (base : Nat) (A : Option Addr) (c : Nat) (xs : List Int) : Prop := w.ownsRow base 3 1 (.slice A xs.length c) xs.length (iv xs)
theorem OwnI.ints {w : World} {base : Nat} {A : Option Addr} {c : Nat} {xs : List Int} (h : OwnI w base A c xs) : Ints w A xs ∧ xs.length ≤ c ∧ c ≤ maxLen ∧ (A = none → c = 0) := by
  obtain ⟨A', cap, hv, h1, h2, h3, h4⟩ := own_cells h
  injection hv with a1 a2 a3
  subst a1 a3
  refine ⟨fun h0 => ?_, h2, h3, h4⟩
  obtain ⟨b, off, hA, hb, hc⟩ := h1 (by rw [iv_length]; exact h0)
  exact ⟨b, off, hA, hb, fun k hk => hc k _ (iv_get hk)⟩
theorem OwnI.nil (w : World) (base : Nat) : OwnI w base none 0 [] := World.ownsRow_nil _ _ _ _
theorem OwnI.base {w : World} {base base' : Nat} {A : Option Addr} {c : Nat} {xs : List Int} (h : OwnI w base A c xs) (hb : base' ≤ base) : OwnI w base' A c xs :=
  ⟨h.1, h.2.imp id fun ⟨g, cap, cur, h1, h2, h3⟩ => ⟨g, cap, cur, h1, Nat.le_trans hb h2, h3⟩⟩
theorem OwnI.ext {w w' : World} {base : Nat} {A : Option Addr} {c : Nat} {xs : List Int} (h : OwnI w base A c xs) (e : Ext w w') : OwnI w' base A c xs := own_ext h e
/-- a call's result that is a row of ints -/
def IntsRet (w : World) (us : List Int) (e : Ending) (w' : World) : Prop := ∃ A c, e = .returned (.slice A us.length c) ∧ OwnI w' w.heap.size A c us ∧ Ext w w'
/-- the slot's value is a row of ints of the call's own -/
def RowI (w : World) (base : Nat) (v : Value) (xs : List Int) : Prop := ∃ A c, v = .slice A xs.length c ∧ OwnI w base A c xs
theorem RowI.ext {w w' : World} {base : Nat} {v : Value} {xs : List Int} (h : RowI w base v xs) (e : Ext w w') : RowI w' base v xs := by
  obtain ⟨A, c, hv, ho⟩ := h
  exact ⟨A, c, hv, ho.ext e⟩
theorem app_int (w0 : World) {w : World} {ops : Array Oper} {rest : List Oper} {o : Oper} {a : Act} {Q : Exit → Act → World → Prop} (hw : Region.wanted o (yielded ops a.tmps) = true) (s x : Operand)
    (ho : o.op = .call { callee := .builtin .append, args := #[s, x], argTypes := #[30, 30] }) {xs : List Int} {v : Value} (hr : RowI w w0.heap.size v xs) (y : Int) (g : Nat)
    (hs : a.eval s = v) (hx : a.eval x = .slice (some ⟨g, 0, none⟩) 1 1) (hg : g < w.heap.size) (hc : w.cell? ⟨g, 0, none⟩ = some (.int .i64 y)) (hlen : xs.length ≤ 1000000) (hext : Ext w0 w)
    (h : ∀ v' w', RowI w' w0.heap.size v' (xs ++ [y]) → w.grownBy w' v.ownBlock → Ext w0 w' → wpList Try.prog ops Q rest (a.put o.dst v') w') : wpList Try.prog ops Q (o :: rest) a w := by
  obtain ⟨A, c, rfl, hown⟩ := hr
  obtain ⟨i3, hi, hz0, hz1, hz2⟩ := info_parts infoInt
  refine wpList_append_cells w hw s x 30 ho w0.heap.size 3 i3 (.int .i64 0) 1 8 Try.underlying30 hi hz0 hz1 hz2 rfl (by omega) _ xs.length (iv xs) hs hown (some ⟨g, 0, none⟩) 1 1 (iv [y]) hx (fun h => by cases h) rfl
    (fun _ => ⟨g, 0, rfl, hg, fun k u hk => ?_⟩) (fun u hu => ?_) (by unfold maxLen; omega) (by omega) hext.size fun v' w' h2 h3 h4 => ?_
  · cases k with
    | zero => simp [iv] at hk; rw [← hk]; exact hc
    | succ k => simp [iv] at hk
  · simp only [iv, List.map_cons, List.map_nil, List.mem_singleton] at hu
    subst hu
    rfl
  · obtain ⟨A', c', hv', _⟩ := own_cells h2
    subst hv'
    refine h _ w' ⟨A', c', by rw [List.length_append]; rfl, ?_⟩ h3 (hext.grown h3 fun g hg => own_block hown g hg)
    unfold OwnI
    rw [iv_append, List.length_append]
    exact h2

theorem ret_ib {a b : Int} {c d : Bool} (h : a = b) (h2 : c = d) : Ending.returned (.tuple #[.int .i64 a, .bool c]) = Ending.returned (.tuple #[.int .i64 b, .bool d]) := by rw [h, h2]
section
variable {A : Option Addr} {c : Nat} {ps : List Prt} {w : World}
/-- a tree may be, and a place -/
def IsP (l : List Nd) (i : Int) : Prop := Tree l ∧ 0 ≤ i ∧ i < (l.length : Int)
theorem is_true (i : Int) (h : PS w A c ps) (T : IsP (nds ps) i) : Calls Try.prog 88 #[.slice A ps.length c, .int .i64 i] w fun e w' => e = .returned (.bool true) ∧ Ext w w' := by
  obtain ⟨T, h0, h1⟩ := T
  rw [nds_length] at h1
  refine (is_yes i h T).mono ?_
  rintro e w' ⟨rfl, hx⟩
  exact ⟨ret_bool (by rw [decide_eq_true h0, decide_eq_true h1]; rfl), hx⟩
theorem is_false (i : Int) (h : PS w A c ps) (T : ¬ IsP (nds ps) i) : Calls Try.prog 88 #[.slice A ps.length c, .int .i64 i] w fun e w' => e = .returned (.bool false) ∧ Ext w w' := by
  by_cases hT : Tree (nds ps)
  · refine (is_yes i h hT).mono ?_
    rintro e w' ⟨rfl, hx⟩
    refine ⟨ret_bool ?_, hx⟩
    rw [Bool.and_eq_false_iff, decide_eq_false_iff_not, decide_eq_false_iff_not]
    by_cases h0 : 0 ≤ i
    · exact .inr fun h1 => T ⟨hT, h0, by rw [nds_length]; exact h1⟩
    · exact .inl h0
  · exact is_no i h hT
set_option maxRecDepth 100000 in
set_option maxHeartbeats 1000000 in
theorem End_yes (i m : Nat) (h : PS w A c ps) (T : Tree (nds ps)) (hp : Part (nds ps) i m) : Calls Try.prog 47 #[.slice A ps.length c, .int .i64 i] w fun e w' => e = .returned (.int .i64 m) ∧ Ext w w' := by
  have CH := Lib.hid (is_true i h ⟨T, by omega, by have := hp.lt; omega⟩)
  have HS := Lib.hid h
  have HP := Lib.hid hp
  clear h T hp
  go_enter Try.func47, Try.ntmps47
  go_wp2_with fail
  refine CH.out.mono ?_
  rintro e w2 ⟨rfl, hx2⟩
  have HX := Lib.hid hx2
  clear hx2
  go_wp2_with fail
  refine (end_any' i m (HS.out.ext HX.out) HP.out).mono ?_
  rintro e w3 ⟨rfl, hx3⟩
  have HX3 := Lib.hid hx3
  clear hx3
  go_wp2_with fail
  go_ret
  exact ⟨rfl, HX.out.trans HX3.out⟩
set_option maxRecDepth 100000 in
set_option maxHeartbeats 1000000 in
theorem End_no (i : Int) (h : PS w A c ps) (T : ¬ IsP (nds ps) i) : Calls Try.prog 47 #[.slice A ps.length c, .int .i64 i] w fun e w' => e = .returned (.int .i64 0) ∧ Ext w w' := by
  have CH := Lib.hid (is_false i h T)
  clear h T
  go_enter Try.func47, Try.ntmps47
  go_wp2_with fail
  refine CH.out.mono ?_
  rintro e w2 ⟨rfl, hx2⟩
  have HX := Lib.hid hx2
  clear hx2
  go_wp2_with fail
  go_ret
  exact ⟨rfl, HX.out⟩
def findB (sym at_ : Int) (p : Nd) : Bool := (!decide (LeafK p.kind)) && (p.sym == sym) && (p.lo == at_)
set_option maxRecDepth 100000 in
set_option maxHeartbeats 1000000 in
theorem find1_any (p : Prt) (sym at_ : Int) (b1 b2 : Nat) (w : World) (h1 : w.heap[b1]? = some (.cells #[.int .i64 sym] 3)) (h2 : w.heap[b2]? = some (.cells #[.int .i64 at_] 3)) :
    Calls Try.prog 84 #[aggV p, pt b1, pt b2] w fun e w' => e = .returned (.bool (findB sym at_ p.nd)) ∧ Ext w w' := by
  obtain ⟨⟨sym', kind, lo, inn, hi, look, kids, met⟩, kA, kc⟩ := p
  have c1 := cell_of_row _ _ 0 _ _ _ h1
  have c2 := cell_of_row _ _ 0 _ _ _ h2
  simp at c1 c2
  have l1 := lt_of_heap h1
  have l2 := lt_of_heap h2
  clear h1 h2
  go_enter Try.func84, Try.ntmps84
  go_wp2_with (first | (go_at_call 85; refine (leaf_any _ _).mono ?_; rintro e w' ⟨rfl, rfl⟩) | go_in)
  all_goals go_ret
  all_goals exact ⟨ret_bool (by unfold findB; simp [*]), (by repeat (first | exact Ext.refl _ | refine Ext.alloc ?_ _ | refine Ext.more ?_ _ _ | refine Ext.drew ?_ | refine Ext.drewN ?_ _ | refine Ext.setCell ?_ (by simp <;> omega) _))⟩
set_option maxRecDepth 100000 in
set_option maxHeartbeats 1000000 in
theorem Find_yes (sym at_ : Int) (h : PS w A c ps) (T : Tree (nds ps)) : Calls Try.prog 36 #[.slice A ps.length c, .int .i64 sym, .int .i64 at_] w fun e w' =>
    e = .returned (.tuple #[.int .i64 (max 0 (firstF (fun p : Prt => findB sym at_ p.nd) 0 ps)), .bool (decide (0 ≤ firstF (fun p : Prt => findB sym at_ p.nd) 0 ps))]) ∧ Ext w w' := by
  have CH := Lib.hid (fun (w1 : World) (hx : Ext w w1) => check_ok (h.ext hx) T)
  have HS := Lib.hid h
  have hl := h.few.len
  have hb := firstF_bd (fun p : Prt => findB sym at_ p.nd) ps 0
  clear h T
  generalize hr : firstF (fun p : Prt => findB sym at_ p.nd) 0 ps = r at *
  have HR := Lib.hid hr
  clear hr
  go_enter Try.func36, Try.ntmps36
  go_wp2_with fail
  obtain ⟨W2, hW2⟩ : ∃ W2, (w.alloc (.cells #[.int .i64 sym] 3)).alloc (.cells #[.int .i64 at_] 3) = W2 := ⟨_, rfl⟩
  have X2 : Ext w W2 := by rw [← hW2]; exact (by repeat (first | exact Ext.refl _ | refine Ext.alloc ?_ _ | refine Ext.more ?_ _ _ | refine Ext.drew ?_ | refine Ext.drewN ?_ _ | refine Ext.setCell ?_ (by simp <;> omega) _))
  have G0 : W2.heap[w.heap.size]? = some (.cells #[.int .i64 sym] 3) := by rw [← hW2]; exact (by simp only [heap_alloc_get, World.size_alloc]; (repeat (split; (first | rfl | (exfalso; omega)))); (try (first | (exfalso; omega) | simp_all)))
  have G1 : W2.heap[w.heap.size + 1]? = some (.cells #[.int .i64 at_] 3) := by rw [← hW2]; exact (by simp only [heap_alloc_get, World.size_alloc]; (repeat (split; (first | rfl | (exfalso; omega)))); (try (first | (exfalso; omega) | simp_all)))
  rw [hW2]
  clear hW2
  refine (CH.out W2 X2).mono ?_
  rintro e w3 ⟨rfl, hx3⟩
  have HX3 := Lib.hid hx3
  have CF := Lib.hid (idxParts 84 #[pt w.heap.size, pt (w.heap.size + 1)] (fun p : Prt => findB sym at_ p.nd) A c ps w3 (HS.out.ext (X2.trans hx3)).parts (by omega) (enters_of Try.func84 (by kernel_rfl) rfl)
    (fun w1 p h1 _ => find1_any p sym at_ _ _ w1 (ext_block G0 (hx3.trans h1)) (ext_block G1 (hx3.trans h1))))
  clear hx3
  go_wp2_with fail
  refine CF.out.mono ?_
  rintro e w4 ⟨rfl, hx4⟩
  have HX4 := Lib.hid hx4
  clear hx4
  rw [HR.out]
  go_wp2_with fail
  all_goals go_ret2
  all_goals exact ⟨ret_ib (by first | rfl | omega) rfl, (X2.trans HX3.out).trans HX4.out⟩
set_option maxRecDepth 100000 in
set_option maxHeartbeats 1000000 in
theorem Find_no (sym at_ : Int) (h : PS w A c ps) (T : ¬ Tree (nds ps)) : Calls Try.prog 36 #[.slice A ps.length c, .int .i64 sym, .int .i64 at_] w fun e w' =>
    e = .returned (.tuple #[.int .i64 0, .bool false]) ∧ Ext w w' := by
  have CH := Lib.hid (fun (w1 : World) (hx : Ext w w1) => check_no (h.ext hx) T)
  clear h T
  go_enter Try.func36, Try.ntmps36
  go_wp2_with fail
  refine (CH.out _ (by repeat (first | exact Ext.refl _ | refine Ext.alloc ?_ _ | refine Ext.more ?_ _ _ | refine Ext.drew ?_ | refine Ext.drewN ?_ _ | refine Ext.setCell ?_ (by simp <;> omega) _))).mono ?_
  rintro e w3 ⟨rfl, hx3⟩
  have HX3 := Lib.hid hx3
  clear hx3
  go_wp2_with fail
  go_ret2
  exact ⟨rfl, Ext.trans (by repeat (first | exact Ext.refl _ | refine Ext.alloc ?_ _ | refine Ext.more ?_ _ _ | refine Ext.drew ?_ | refine Ext.drewN ?_ _ | refine Ext.setCell ?_ (by simp <;> omega) _)) HX3.out⟩
end
end Go.Proofs.Ytggmljookcmnkaa
