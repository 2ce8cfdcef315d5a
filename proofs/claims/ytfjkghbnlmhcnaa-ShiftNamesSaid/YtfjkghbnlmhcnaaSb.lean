/- Rows of spans of the call's own; slices.IndexFunc over spans. -/
import Derived.Test.YtfjkghbnlmhcnaaSa
import Derived.Test.YtfjkghbnlmhcnaaTz
import Derived.Test.YtfjkghbnlmhcnaaRi
import Derived.Laws.EntriesVeiled
import Derived.Shelf.Abstract
import Derived.WalkSpells
import Derived.WalkLawsBesides
import Derived.BigRegion
import Derived.Deep.RegionWith
import Derived.Deep.QuietTactic
import Derived.Deep.DeepCutAuto
import Derived.Deep.RegionHeld3
import Derived.Deep.RegionLaw
import Derived.BigQuiet
import Derived.Lib.Hide
namespace Go.Proofs.Ytfjkghbnlmhcnaa
open Go.RowKit
attribute [local go_sem] more_drew more_drewN more_size more_cell more_frozen more_setCell drew_more drewN_more lt_add_r lt_add_r2 lt_add_r3 lt_add_r4 lt_add_r5 lt_add_r6 lt_add_r7 lt_add_r8 lt_add_r9 lt_add_r10 lt_self_r lt_self_r2

def svS (s : Sn) : List Value := [.int .i64 s.1, .int .i64 s.2]
def sv (ss : List Sn) : List Value := ss.flatMap svS
def agS (s : Sn) : Value := .agg #[.int .i64 s.1, .int .i64 s.2]
theorem sv_cons (s : Sn) (r : List Sn) : sv (s :: r) = .int .i64 s.1 :: .int .i64 s.2 :: sv r := rfl
theorem sv_length : ∀ (ss : List Sn), (sv ss).length = ss.length * 2
  | [] => rfl
  | s :: r => by rw [sv_cons, List.length_cons, List.length_cons, sv_length r, List.length_cons]; omega
theorem sv_append : ∀ (ss ts : List Sn), sv (ss ++ ts) = sv ss ++ sv ts
  | [], _ => rfl
  | s :: r, ts => by rw [List.cons_append, sv_cons, sv_cons, sv_append r ts]; rfl
theorem sv_take : ∀ (ss : List Sn) (k : Nat), (sv ss).take (k * 2) = sv (ss.take k)
  | [], k => by rw [List.take_nil]; exact List.take_nil
  | s :: r, 0 => rfl
  | s :: r, k + 1 => by rw [Nat.succ_mul, sv_cons, List.take_succ_cons, List.take_succ_cons, sv_take r k, List.take_succ_cons, sv_cons]
theorem sv_drop : ∀ (ss : List Sn) (k : Nat), (sv ss).drop (k * 2) = sv (ss.drop k)
  | [], k => by rw [List.drop_nil]; exact List.drop_nil
  | s :: r, 0 => rfl
  | s :: r, k + 1 => by rw [Nat.succ_mul, sv_cons, List.drop_succ_cons, List.drop_succ_cons, sv_drop r k, List.drop_succ_cons]
theorem sv_get : ∀ {ss : List Sn} {k : Nat} {s : Sn}, ss[k]? = some s → (sv ss)[k * 2]? = some (.int .i64 s.1) ∧ (sv ss)[k * 2 + 1]? = some (.int .i64 s.2)
  | [], k, s, h => by simp at h
  | a :: r, 0, s, h => by
    simp at h
    subst h
    exact ⟨rfl, rfl⟩
  | a :: r, k + 1, s, h => by
    have ih := sv_get (ss := r) (k := k) (s := s) (by simpa using h)
    rw [Nat.succ_mul, sv_cons]
    exact ⟨by simpa using ih.1, by simpa using ih.2⟩
theorem sv_set : ∀ (ss : List Sn) (k : Nat) (s : Sn), k < ss.length → sv (ss.set k s) = ((sv ss).set (k * 2) (.int .i64 s.1)).set (k * 2 + 1) (.int .i64 s.2)
  | [], k, s, h => by simp at h
  | a :: r, 0, s, _ => rfl
  | a :: r, k + 1, s, h => by
    rw [List.set_cons_succ, sv_cons, sv_cons, Nat.succ_mul, sv_set r k s (by simpa using h)]
    rfl
theorem sv_one (ss : List Sn) : ∀ u ∈ sv ss, u.oneCell' = true := fun u hu => by
  obtain ⟨s, _, hs⟩ := List.mem_flatMap.1 hu
  unfold svS at hs
  rcases List.mem_cons.1 hs with rfl | hs
  · rfl
  · rw [List.mem_singleton.1 hs]; rfl
theorem infoSpan : (Try.prog.info? 54).map (fun i => (i.zero, i.size, i.bytes)) = some (some (.agg #[.int .i64 0, .int .i64 0]), 2, 16) := by kernel_rfl
/-- the slice at A reads as the spans ss -/
def Spns (w : World) (A : Option Addr) (ss : List Sn) : Prop :=
  0 < ss.length → ∃ b off, A = some ⟨b, off, none⟩ ∧ b < w.heap.size ∧ ∀ k s, ss[k]? = some s → w.cell? ⟨b, off + k * 2, none⟩ = some (.int .i64 s.1) ∧ w.cell? ⟨b, off + k * 2 + 1, none⟩ = some (.int .i64 s.2)
theorem Spns.of_cells {w : World} {A : Option Addr} {ss : List Sn} (h : CellsAt w A (sv ss)) : Spns w A ss := fun h0 => by
  obtain ⟨b, off, hA, hb, hc⟩ := h (by rw [sv_length]; omega)
  refine ⟨b, off, hA, hb, fun k s hk => ?_⟩
  obtain ⟨h1, h2⟩ := sv_get hk
  exact ⟨hc _ _ h1, by rw [Nat.add_assoc]; exact hc _ _ h2⟩
theorem Spns.ext {w w' : World} {A : Option Addr} {ss : List Sn} (h : Spns w A ss) (e : Ext w w') : Spns w' A ss := fun h0 => by
  obtain ⟨b, off, hA, hb, hc⟩ := h h0
  have hb' := e.below
  refine ⟨b, off, hA, Nat.lt_of_lt_of_le hb e.size, fun k d hk => ?_⟩
  obtain ⟨c0, c1⟩ := hc k d hk
  exact ⟨(World.cell?_of_block (hb'.block b hb)).trans c0, (World.cell?_of_block (hb'.block b hb)).trans c1⟩
theorem Spns.keep {w w' : World} {A : Option Addr} {ss : List Sn} {S : Nat → Prop} (h : Spns w A ss) (t : Turn S w w') (hS : ∀ b off, A = some ⟨b, off, none⟩ → ¬ S b) : Spns w' A ss := fun h0 => by
  obtain ⟨b, off, hA, hb, hc⟩ := h h0
  have hk := t.block b hb (hS b off hA)
  refine ⟨b, off, hA, Nat.lt_of_lt_of_le hb t.size, fun k d hk' => ?_⟩
  obtain ⟨c0, c1⟩ := hc k d hk'
  exact ⟨(World.cell?_of_block hk).trans c0, (World.cell?_of_block hk).trans c1⟩
/-- a row of spans of the call's own -/
def OwnS (w : World) (base : Nat) (A : Option Addr) (c : Nat) (ss : List Sn) : Prop := w.ownsRow base 54 2 (.slice A ss.length c) ss.length (sv ss)
theorem OwnS.nil (w : World) (base : Nat) : OwnS w base none 0 [] := World.ownsRow_nil _ _ _ _
theorem OwnS.ext {w w' : World} {base c : Nat} {A : Option Addr} {ss : List Sn} (h : OwnS w base A c ss) (e : Ext w w') : OwnS w' base A c ss := own_ext h e
theorem OwnS.cells {w : World} {base c : Nat} {A : Option Addr} {ss : List Sn} (h : OwnS w base A c ss) : Spns w A ss ∧ ss.length ≤ c ∧ c ≤ maxLen ∧ (A = none → c = 0) := by
  obtain ⟨A', cap, hv, h1, h2, h3, h4⟩ := own_cells h
  injection hv with a1 a2 a3
  subst a1 a3
  exact ⟨Spns.of_cells h1, h2, h3, h4⟩
theorem OwnS.keep {w w' : World} {base c : Nat} {A : Option Addr} {ss : List Sn} {S : Nat → Prop} (h : OwnS w base A c ss) (t : Turn S w w') (hS : ∀ k, base ≤ k → ¬ S k) : OwnS w' base A c ss :=
  own_keep h fun g hg => t.block g (own_old h g hg) (hS g (own_block h g hg))
theorem OwnS.base {w : World} {base base' c : Nat} {A : Option Addr} {ss : List Sn} (h : OwnS w base A c ss) (hb : base' ≤ base) : OwnS w base' A c ss :=
  ⟨h.1, h.2.imp id fun ⟨g, cap, cur, h1, h2, h3⟩ => ⟨g, cap, cur, h1, Nat.le_trans hb h2, h3⟩⟩
def setL (cs : List Value) (k : Nat) : List Value → List Value
  | [] => cs
  | y :: r => setL (cs.set k y) (k + 1) r
theorem setL_eq : ∀ (ys : List Value) (k : Nat) (cs : List Value), k + ys.length ≤ cs.length → setL cs k ys = cs.take k ++ ys ++ cs.drop (k + ys.length)
  | [], k, cs, _ => by simp [setL]
  | y :: r, k, cs, h => by
    have h' : k + (r.length + 1) ≤ cs.length := h
    show setL (cs.set k y) (k + 1) r = _
    rw [setL_eq r (k + 1) (cs.set k y) (by rw [List.length_set]; omega)]
    have e1 : (cs.set k y).take (k + 1) = cs.take k ++ [y] := by
      rw [List.set_eq_take_append_cons_drop, if_pos (by omega), List.take_append, List.length_take, Nat.min_eq_left (by omega), List.take_of_length_le (by rw [List.length_take]; omega)]
      simp
    have e2 : (cs.set k y).drop (k + 1 + r.length) = cs.drop (k + (r.length + 1)) := by
      rw [List.drop_set_of_lt (by omega), show k + 1 + r.length = k + (r.length + 1) by omega]
    rw [e1, e2]
    simp
theorem Turn.setCells {g : Nat} {S : Nat → Prop} (hp : S g) : ∀ (ys : List Value) (k : Nat) (w : World), Turn S w (w.setCells g k ys)
  | [], _, _ => Turn.refl _
  | y :: r, k, w => (Turn.setCell w (p := ⟨g, k, none⟩) hp y).trans (Turn.setCells hp r (k + 1) _)
/-- the row's block -/
def OwnT (T : TypeId) (w : World) (base g c : Nat) (cs : List Value) : Prop := ∃ cur : Array Value, base ≤ g ∧ w.heap[g]? = some (.cells cur T) ∧ cs.length ≤ c ∧ cur.size = c ∧ cur.toList.take cs.length = cs
section
variable {T : TypeId} {w : World} {base g c : Nat} {cs : List Value}
theorem OwnS.row {ss : List Sn} (h : OwnS w base (some ⟨g, 0, none⟩) c ss) : OwnT 54 w base g (c * 2) (sv ss) := by
  obtain ⟨h1, h2⟩ := h
  rcases h2 with ⟨h2, _⟩ | ⟨g', cap, cur, h2, h3, h4, h5, h6, h7, h8⟩
  · cases h2
  · injection h2 with a1 a2 a3
    injection a1 with a1
    injection a1 with a1
    subst a1 a3
    exact ⟨cur, h3, h4, by rw [sv_length]; omega, h7, by rw [sv_length]; exact h8⟩
theorem OwnT.spans {ss : List Sn} (h : OwnT 54 w base g (c * 2) (sv ss)) (hc : c ≤ maxLen) : OwnS w base (some ⟨g, 0, none⟩) c ss := by
  obtain ⟨cur, h1, h2, h3, h5, h6⟩ := h
  rw [sv_length] at h3 h6
  exact ⟨sv_length ss, .inr ⟨g, c, cur, rfl, h1, h2, by omega, hc, h5, h6⟩⟩
theorem OwnT.cell (h : OwnT T w base g c cs) {k : Nat} {v : Value} (hk : cs[k]? = some v) : w.cell? ⟨g, k, none⟩ = some v := by
  obtain ⟨cur, h1, h2, h3, h5, h6⟩ := h
  have hkl := (List.getElem?_eq_some_iff.1 hk).1
  rw [← h6, List.getElem?_take_of_lt hkl, Array.getElem?_toList] at hk
  exact (cell_of_row _ _ k _ _ (0, 0) h2).trans hk
theorem OwnT.here (h : OwnT T w base g c cs) {k : Nat} (hk : k < c) : (w.cell? ⟨g, k, none⟩).isSome = true := by
  obtain ⟨cur, h1, h2, h3, h5, h6⟩ := h
  rw [cell_of_row _ _ k _ _ (0, 0) h2, Array.getElem?_eq_getElem (by omega)]
  rfl
theorem OwnT.frozen (h : OwnT T w base g c cs) (k : Nat) : w.frozen? ⟨g, k, none⟩ = false := by
  obtain ⟨cur, h1, h2, _⟩ := h
  simp [World.frozen?, h2]
theorem OwnT.set (h : OwnT T w base g c cs) (k : Nat) (v : Value) : OwnT T (w.setCell ⟨g, k, none⟩ v) base g c (cs.set k v) := by
  obtain ⟨cur, h1, h2, h3, h5, h6⟩ := h
  refine ⟨cur.setIfInBounds k v, h1, by simp [World.setCell, Array.getElem?_modify, h2], by rw [List.length_set]; exact h3, by rw [Array.size_setIfInBounds]; exact h5, ?_⟩
  rw [List.length_set, Array.toList_setIfInBounds, List.take_set, h6]
theorem OwnT.puts : ∀ (ys : List Value) (k : Nat) {w : World} {cs : List Value}, OwnT T w base g c cs → OwnT T (w.setCells g k ys) base g c (setL cs k ys)
  | [], _, _, _, h => h
  | y :: r, k, _, _, h => OwnT.puts r (k + 1) (h.set k y)
theorem OwnT.put (h : OwnT T w base g c cs) (k : Nat) (ys : List Value) (hk : k + ys.length ≤ cs.length) : OwnT T (w.setCells g k ys) base g c (cs.take k ++ ys ++ cs.drop (k + ys.length)) := by
  rw [← setL_eq ys k cs hk]
  exact OwnT.puts ys k h
theorem OwnT.narrow (h : OwnT T w base g c cs) (m : Nat) : OwnT T w base g c (cs.take m) := by
  obtain ⟨cur, h1, h2, h3, h5, h6⟩ := h
  refine ⟨cur, h1, h2, by rw [List.length_take]; omega, h5, ?_⟩
  have e : cs.take m = (cur.toList.take cs.length).take m := by rw [h6]
  rw [e, List.length_take, List.length_take, List.take_take]
  congr 1
  have : cur.toList.length = c := by rw [Array.length_toList]; exact h5
  omega
theorem OwnT.keep {w' : World} {S : Nat → Prop} (h : OwnT T w base g c cs) (t : Turn S w w') (hS : ¬ S g) : OwnT T w' base g c cs := by
  obtain ⟨cur, h1, h2, h3⟩ := h
  exact ⟨cur, h1, (t.block g (lt_of_heap h2) hS).trans h2, h3⟩
theorem OwnS.block {A : Option Addr} {ss : List Sn} (h : OwnS w base A c ss) (h0 : 0 < ss.length) : ∃ g, A = some ⟨g, 0, none⟩ ∧ base ≤ g ∧ g < w.heap.size := by
  obtain ⟨_, h2⟩ := h
  rcases h2 with ⟨h2, h3⟩ | ⟨g', cap, cur, h2, h3, h4, _⟩
  · omega
  · injection h2 with a1
    exact ⟨g', a1, h3, lt_of_heap h4⟩
end
/-- the slot's value is a row of spans of the call's own -/
def RowSp (w : World) (base : Nat) (v : Value) (ss : List Sn) : Prop := ∃ A c, v = .slice A ss.length c ∧ OwnS w base A c ss
theorem RowSp.ext {w w' : World} {base : Nat} {v : Value} {ss : List Sn} (h : RowSp w base v ss) (e : Ext w w') : RowSp w' base v ss := by
  obtain ⟨A, c, hv, ho⟩ := h
  exact ⟨A, c, hv, ho.ext e⟩
theorem app_span (w0 : World) {w : World} {ops : Array Oper} {rest : List Oper} {o : Oper} {a : Act} {Q : Exit → Act → World → Prop} (hw : Region.wanted o (yielded ops a.tmps) = true) (s x : Operand)
    (ho : o.op = .call { callee := .builtin .append, args := #[s, x], argTypes := #[52, 52] }) {ss : List Sn} {v : Value} (hr : RowSp w w0.heap.size v ss) (q : Sn) (g : Nat)
    (hs : a.eval s = v) (hx : a.eval x = .slice (some ⟨g, 0, none⟩) 1 1) (hc : CellsAt w (some ⟨g, 0, none⟩) (svS q)) (hlen : ss.length ≤ 1000000) (hext : Turn (fun k => w0.heap.size ≤ k) w0 w)
    (h : ∀ v' w', RowSp w' w0.heap.size v' (ss ++ [q]) → Turn (fun k => w0.heap.size ≤ k) w w' → wpList Try.prog ops Q rest (a.put o.dst v') w') : wpList Try.prog ops Q (o :: rest) a w := by
  obtain ⟨A, c, rfl, hown⟩ := hr
  obtain ⟨i3, hi, hz0, hz1, hz2⟩ := info_parts infoSpan
  refine wpList_append_cells w hw s x 52 ho w0.heap.size 54 i3 _ 2 16 Try.underlying52 hi hz0 hz1 hz2 rfl (by omega) _ ss.length (sv ss) hs hown (some ⟨g, 0, none⟩) 1 1 (sv [q]) hx (fun h => by cases h) (sv_length _)
    hc (sv_one _) (by unfold maxLen; omega) (by omega) hext.size fun v' w' h2 h3 h4 => ?_
  obtain ⟨A', c', hv', _⟩ := own_cells h2
  subst hv'
  refine h _ w' ⟨A', c', by rw [List.length_append]; rfl, ?_⟩ (Turn.grown h3 fun g hg _ => own_block hown g hg)
  unfold OwnS
  rw [sv_append, List.length_append]
  exact h2
/-- the place of the first that is so, -1: none -/
def firstF {α : Type} (f : α → Bool) : Nat → List α → Int
  | _, [] => -1
  | k, p :: l => if f p then (k : Int) else firstF f (k + 1) l
theorem first_idx {α : Type} (f : α → Bool) : ∀ (l : List α) (k0 : Nat), (firstF f k0 l = -1 ∧ l.findIdx? f = none) ∨ ∃ k, firstF f k0 l = ((k0 + k : Nat) : Int) ∧ l.findIdx? f = some k ∧ k < l.length
  | [], _ => .inl ⟨rfl, rfl⟩
  | p :: l, k0 => by
    unfold firstF
    rw [List.findIdx?_cons]
    by_cases h : f p = true
    · rw [if_pos h, if_pos h]
      exact .inr ⟨0, rfl, rfl, by rw [List.length_cons]; omega⟩
    · rw [if_neg h, if_neg h]
      rcases first_idx f l (k0 + 1) with ⟨h1, h2⟩ | ⟨k, h1, h2, h3⟩
      · exact .inl ⟨h1, by rw [h2]; rfl⟩
      · exact .inr ⟨k + 1, by rw [h1]; congr 1; omega, by rw [h2]; rfl, by rw [List.length_cons]; omega⟩
set_option maxRecDepth 100000 in
set_option maxHeartbeats 1000000 in
theorem idxSpans (F : Nat) (lb : Array Value) (f : Sn → Bool) (A : Option Addr) (c : Nat) (ps : List Sn) (w : World) (hP : Spns w A ps) (hl : ps.length ≤ 9223372036854775807) (eg : Enters Try.prog F)
    (hf : ∀ (wr : World) (p : Sn), Ext w wr → p ∈ ps → Calls Try.prog F (#[agS p] ++ lb) wr fun e w' => e = .returned (.bool (f p)) ∧ Ext wr w') :
    Calls Try.prog 45 #[.slice A ps.length c, .func (.func F) #[] lb] w fun e w' => e = .returned (.int .i64 (firstF f 0 ps)) ∧ Ext w w' := by
  have HP := Lib.hid hP
  have HF := Lib.hid hf
  unfold Enters at eg
  clear hP hf
  go_enter Try.func45, Try.ntmps45
  go_wp2
  go_loopw [8] (fun i wr => ∃ j : Nat, j ≤ ps.length ∧ i = .int .i64 j ∧ Hid (firstF f 0 ps = firstF f j (ps.drop j)) ∧ Ext w wr) (fun i _ => ps.length - (intOf i).toNat)
  case atStart => exact ⟨0, Nat.zero_le _, rfl, Lib.hid rfl, (by repeat (first | exact Ext.refl _ | refine Ext.alloc ?_ _ | refine Ext.more ?_ _ _ | refine Ext.drew ?_ | refine Ext.drewN ?_ _ | refine Ext.setCell ?_ (by simp <;> omega) _))⟩
  case round =>
    obtain ⟨j, hj, rfl, he, hx⟩ := hrel
    by_cases hlt : j < ps.length
    · obtain ⟨p, hp⟩ : ∃ p, ps[j]? = some p := ⟨_, List.getElem?_eq_getElem hlt⟩
      obtain ⟨b, off, rfl, hb, hcell⟩ := (HP.out.ext hx) (by omega)
      obtain ⟨d0, d1⟩ := hcell j p hp
      have CF := Lib.hid (HF.out wr p hx (List.mem_of_getElem? hp))
      have HS : Hid (firstF f j (ps.drop j) = if f p then (j : Int) else firstF f (j + 1) (ps.drop (j + 1))) := by
        rw [List.drop_eq_getElem_cons hlt]
        rw [List.getElem?_eq_getElem hlt] at hp
        injection hp with hp
        rw [hp]
        exact Lib.hid rfl
      have HX := Lib.hid hx
      clear hcell hp hx
      go_wp2_with fail
      refine CF.out.mono ?_
      rintro e w2 ⟨rfl, hx2⟩
      have HX2 := Lib.hid (HX.out.trans hx2)
      clear hx2
      cases hfp : f p with
      | true =>
        rw [hfp] at HS
        have HS' := Lib.hid HS.out
        clear hfp HS
        go_wp2_with fail
        go_ret
        exact ⟨ret_int (by rw [he.out, HS'.out]; rfl), HX2.out⟩
      | false =>
        rw [hfp] at HS
        have HS' := Lib.hid HS.out
        clear hfp HS
        go_wp2_with fail
        go_roundw
        case rel => exact ⟨j + 1, by omega, by go_num, Lib.hid (by rw [he.out, HS'.out]; rfl), HX2.out⟩
        case measure => simp [intOf]; omega
    · obtain rfl : j = ps.length := by omega
      have HX := Lib.hid hx
      clear hx
      go_wp2_with fail
      go_ret
      exact ⟨ret_int (by rw [he.out, List.drop_eq_nil_of_le (Nat.le_refl _)]; rfl), HX.out⟩
end Go.Proofs.Ytfjkghbnlmhcnaa
