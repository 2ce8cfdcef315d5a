/- slices.Insert at rows of the call's own: the walk. -/
import Derived.Test.YtfjkghbnlmhcnaaLn
import Derived.Shelf.Spec.SlicesInsert
import Derived.Lib.AppendZerosOnto
import Derived.WalkSpells
import Derived.WalkLawsBesides
import Derived.BigRegion
import Derived.Deep.RegionWith
import Derived.Deep.QuietTactic
import Derived.Deep.DeepCutAuto
import Derived.Deep.RegionHeld3
import Derived.Deep.RegionLaw
import Derived.BigQuiet
import Derived.Lib.Hide
namespace Go.Proofs.Ytfjkghbnlmhcnaa
open Go.RowKit
attribute [local go_sem] more_drew more_drewN more_size more_cell more_frozen more_setCell drew_more drewN_more lt_add_r lt_add_r2 lt_add_r3 lt_add_r4 lt_add_r5 lt_add_r6 lt_add_r7 lt_add_r8 lt_add_r9 lt_add_r10 lt_self_r lt_self_r2

/-- a row that is the call's own, of whatever cells -/
def OwnR (w : World) (base g c : Nat) (cs : List Value) : Prop := ∃ cur : Array Value, base ≤ g ∧ w.heap[g]? = some (.cells cur 3) ∧ cs.length ≤ c ∧ c ≤ maxLen ∧ cur.size = c ∧ cur.toList.take cs.length = cs
section
variable {w : World} {base g c : Nat} {cs : List Value} {xs : List Int}
theorem OwnR.of (h : OwnI w base (some ⟨g, 0, none⟩) c xs) : OwnR w base g c (iv xs) := by
  obtain ⟨h1, h2⟩ := h
  rcases h2 with ⟨h2, _⟩ | ⟨g', cap, cur, h2, h3, h4, h5, h6, h7, h8⟩
  · cases h2
  · injection h2 with a1 a2 a3
    injection a1 with a1
    injection a1 with a1
    subst a1 a3
    exact ⟨cur, h3, h4, by rw [iv_length]; exact h5, h6, by omega, by rw [iv_length]; simpa using h8⟩
theorem OwnR.ints (h : OwnR w base g c (iv xs)) : OwnI w base (some ⟨g, 0, none⟩) c xs := by
  obtain ⟨cur, h1, h2, h3, h4, h5, h6⟩ := h
  rw [iv_length] at h3 h6
  exact ⟨by rw [iv_length, Nat.mul_one], .inr ⟨g, c, cur, rfl, h1, h2, h3, h4, by omega, by simpa using h6⟩⟩
theorem OwnR.cell (h : OwnR w base g c cs) {k : Nat} {v : Value} (hk : cs[k]? = some v) : w.cell? ⟨g, k, none⟩ = some v := by
  obtain ⟨cur, h1, h2, h3, h4, h5, h6⟩ := h
  have hkl := (List.getElem?_eq_some_iff.1 hk).1
  rw [← h6, List.getElem?_take_of_lt hkl, Array.getElem?_toList] at hk
  exact (cell_of_row _ _ k _ _ (0, 0) h2).trans hk
theorem OwnR.here (h : OwnR w base g c cs) {k : Nat} (hk : k < c) : (w.cell? ⟨g, k, none⟩).isSome = true := by
  obtain ⟨cur, h1, h2, h3, h4, h5, h6⟩ := h
  rw [cell_of_row _ _ k _ _ (0, 0) h2, Array.getElem?_eq_getElem (by omega)]
  rfl
theorem OwnR.frozen (h : OwnR w base g c cs) (k : Nat) : w.frozen? ⟨g, k, none⟩ = false := by
  obtain ⟨cur, h1, h2, _⟩ := h
  simp [World.frozen?, h2]
theorem OwnR.shape (h : OwnR w base g c cs) : w.shape? g = some (3, c) := by
  obtain ⟨cur, h1, h2, h3, h4, h5, h6⟩ := h
  simp [World.shape?, h2, h5]
theorem OwnR.set (h : OwnR w base g c cs) (k : Nat) (v : Value) : OwnR (w.setCell ⟨g, k, none⟩ v) base g c (cs.set k v) := by
  obtain ⟨cur, h1, h2, h3, h4, h5, h6⟩ := h
  refine ⟨cur.setIfInBounds k v, h1, by simp [World.setCell, Array.getElem?_modify, h2], by rw [List.length_set]; exact h3, h4, by rw [Array.size_setIfInBounds]; exact h5, ?_⟩
  rw [List.length_set, Array.toList_setIfInBounds, List.take_set, h6]
def setL (cs : List Value) (k : Nat) : List Value → List Value
  | [] => cs
  | y :: r => setL (cs.set k y) (k + 1) r
theorem OwnR.puts : ∀ (ys : List Value) (k : Nat) {w : World} {cs : List Value}, OwnR w base g c cs → OwnR (w.setCells g k ys) base g c (setL cs k ys)
  | [], _, _, _, h => h
  | y :: r, k, _, _, h => OwnR.puts r (k + 1) (h.set k y)
theorem setL_eq : ∀ (ys : List Value) (k : Nat) (cs : List Value), k + ys.length ≤ cs.length → setL cs k ys = cs.take k ++ ys ++ cs.drop (k + ys.length)
  | [], k, cs, _ => by simp [setL]
  | y :: r, k, cs, h => by
    have h' : k + (r.length + 1) ≤ cs.length := h
    show setL (cs.set k y) (k + 1) r = _
    rw [setL_eq r (k + 1) (cs.set k y) (by rw [List.length_set]; omega)]
    have e1 : (cs.set k y).take (k + 1) = cs.take k ++ [y] := by
      rw [List.set_eq_take_append_cons_drop, if_pos (by omega), List.take_append, List.length_take, Nat.min_eq_left (by omega), List.take_of_length_le (by rw [List.length_take]; omega)]
      simp
    have e2 : (cs.set k y).drop (k + 1 + r.length) = cs.drop (k + (r.length + 1)) := by
      rw [List.drop_set_of_lt (by omega), show k + 1 + r.length = k + (r.length + 1) by omega]
    rw [e1, e2]
    simp
theorem OwnR.put (h : OwnR w base g c cs) (k : Nat) (ys : List Value) (hk : k + ys.length ≤ cs.length) : OwnR (w.setCells g k ys) base g c (cs.take k ++ ys ++ cs.drop (k + ys.length)) := by
  rw [← setL_eq ys k cs hk]
  exact OwnR.puts ys k h
theorem OwnR.widen (h : OwnR w base g c cs) (m : Nat) (hm : cs.length ≤ m) (hmc : m ≤ c) : ∃ rest, rest.length = m - cs.length ∧ OwnR w base g c (cs ++ rest) := by
  obtain ⟨cur, h1, h2, h3, h4, h5, h6⟩ := h
  have hl : cur.toList.length = c := by rw [Array.length_toList]; exact h5
  have hr : ((cur.toList.take m).drop cs.length).length = m - cs.length := by rw [List.length_drop, List.length_take, hl]; omega
  refine ⟨(cur.toList.take m).drop cs.length, hr, cur, h1, h2, by rw [List.length_append, hr]; omega, h4, h5, ?_⟩
  rw [List.length_append, hr, show cs.length + (m - cs.length) = m by omega]
  have e : cs = (cur.toList.take m).take cs.length := by rw [List.take_take, Nat.min_eq_left hm, h6]
  conv => rhs; lhs; rw [e]
  rw [List.take_append_drop]
theorem OwnR.narrow (h : OwnR w base g c cs) (m : Nat) : OwnR w base g c (cs.take m) := by
  obtain ⟨cur, h1, h2, h3, h4, h5, h6⟩ := h
  refine ⟨cur, h1, h2, by rw [List.length_take]; omega, h4, h5, ?_⟩
  have e : cs.take m = (cur.toList.take cs.length).take m := by rw [h6]
  rw [e, List.length_take, List.length_take, List.take_take]
  congr 1
  have : cur.toList.length = c := by rw [Array.length_toList]; exact h5
  omega
theorem OwnR.keep {w' : World} {S : Nat → Prop} (h : OwnR w base g c cs) (t : Turn S w w') (hS : ¬ S g) : OwnR w' base g c cs := by
  obtain ⟨cur, h1, h2, h3⟩ := h
  exact ⟨cur, h1, (t.block g (lt_of_heap h2) hS).trans h2, h3⟩
theorem Turn.setCells {S : Nat → Prop} (hp : S g) : ∀ (ys : List Value) (k : Nat) (w : World), Turn S w (w.setCells g k ys)
  | [], _, _ => Turn.refl _
  | y :: r, k, w => (Turn.setCell w (p := ⟨g, k, none⟩) hp y).trans (Turn.setCells hp r (k + 1) _)
theorem sizeInt : (Try.prog.info? 3).map (·.size) = some 1 := by kernel_rfl
theorem iv_one {xs : List Int} {v : Value} (h : v ∈ iv xs) : v.oneCell' = true := by
  obtain ⟨x, _, rfl⟩ := List.mem_map.1 h
  rfl
/-- copy onto a row of the call's own -/
theorem copy_run (h : OwnR w base g c cs) (k : Nat) (a : Addr) (ys : List Value) (hk : k + ys.length ≤ cs.length) (sl dl : Nat) (hn : ys.length = Nat.min sl dl) (hsrc : ∀ j v, ys[j]? = some v → w.cell? (a.add j) = some v) (h1 : ∀ v ∈ ys, v.oneCell' = true) (ty : TypeId) (dc sc : Nat) :
    (Builtin.copy_ #[29, 29] ty #[.slice (some ⟨g, k, none⟩) dl dc, .slice (some a) sl sc]).run Try.prog w = .ok (goInt ys.length) (w.setCells g k ys) :=
  run_copy_cells w _ _ ty 3 g k dl dc a sl sc ys Try.underlying29 sizeInt hn hsrc (fun j hj => h.here (by obtain ⟨cur, _, _, h3, _⟩ := h; omega)) (fun j _ => h.frozen _) h1
theorem sizeOfInt (w : World) : (Go.sizeOf 3).run Try.prog w = .ok 1 w := by
  obtain ⟨i3, hi, hz0, hz1, hz2⟩ := info_parts infoInt
  simp [Go.sizeOf, Go.typeInfo, hi, hz1]
/-- two rows of the call's own, of two blocks, do not overlap -/
theorem apart_run {g' c' : Nat} {ds : List Value} (h : OwnR w base g c cs) (h' : OwnR w base g' c' ds) (hne : g ≠ g') (hc : c' ≠ 0) (o o' la ca lb cb : Nat) :
    (callFunc 57 #[.slice (some ⟨g, o, none⟩) la ca, .slice (some ⟨g', o', none⟩) lb cb]).run Try.prog w = .ok (.value (.bool false)) w := by
  rw [run_callFunc_extern Try.func57 (by kernel_rfl) (by kernel_rfl) (by kernel_rfl) (e := Extern.SlicesOverlaps.overlaps #[29, 29] #[4]) (by kernel_rfl),
    Lib.run_overlaps_apart w 29 4 3 Try.underlying29 1 sizeOfInt ⟨g, o, none⟩ ⟨g', o', none⟩ la ca lb cb hne 3 3 c c' h.shape h'.shape hc (h.frozen _) (h.frozen _)]
  rfl
end
def InsOk (base : Nat) (xs vs ys : List Int) (i : Nat) : Prop :=
  ∀ (V : World) (A : Option Addr) (c : Nat) (B : Option Addr) (cb : Nat), OwnI V base A c xs → OwnI V base B cb vs → (∀ b, blkOf A = some b → blkOf B ≠ some b) → base ≤ V.heap.size →
    Calls Try.prog 56 #[.slice A xs.length c, .int .i64 i, .slice B vs.length cb] V (RepRet V base A ys)
theorem OwnI.some {w : World} {base c : Nat} {A : Option Addr} {xs : List Int} (h : OwnI w base A c xs) (h0 : 0 < xs.length) : ∃ g, A = some ⟨g, 0, none⟩ := by
  obtain ⟨_, h2⟩ := h
  rcases h2 with ⟨h2, h3⟩ | ⟨g', cap, cur, h2, _⟩
  · omega
  · injection h2 with a1
    exact ⟨g', a1⟩
theorem iv_take (xs : List Int) (k : Nat) : (iv xs).take k = iv (xs.take k) := by unfold iv; rw [List.map_take]
theorem iv_drop (xs : List Int) (k : Nat) : (iv xs).drop k = iv (xs.drop k) := by unfold iv; rw [List.map_drop]
theorem place_list (cs rest vs : List Value) (i : Nat) (hi : i ≤ cs.length) (hr : rest.length = vs.length) :
    ((cs ++ rest).take (i + vs.length) ++ cs.drop i ++ (cs ++ rest).drop (i + vs.length + (cs.drop i).length)).take i ++ vs ++ ((cs ++ rest).take (i + vs.length) ++ cs.drop i ++ (cs ++ rest).drop (i + vs.length + (cs.drop i).length)).drop (i + vs.length) = cs.take i ++ vs ++ cs.drop i := by
  have e1 : (cs ++ rest).drop (i + vs.length + (cs.drop i).length) = [] := List.drop_eq_nil_of_le (by rw [List.length_append, List.length_drop]; omega)
  obtain ⟨P, hP⟩ : ∃ P, (cs ++ rest).take (i + vs.length) = P := ⟨_, rfl⟩
  have hPl : P.length = i + vs.length := by rw [← hP, List.length_take, List.length_append]; omega
  have e2 : P.take i = cs.take i := by rw [← hP, List.take_take, Nat.min_eq_left (by omega), List.take_append_of_le_length hi]
  rw [e1, hP, List.append_nil, List.take_append_of_le_length (by omega), List.drop_append_of_le_length (by omega), e2, List.drop_eq_nil_of_le (Nat.le_of_eq hPl)]
  rfl
set_option maxRecDepth 100000 in
set_option maxHeartbeats 1000000 in
/-- .. where there is room -/
theorem ins_place (base g c b' cb : Nat) (xs vs : List Int) (i : Nat) (V : World) (hi : i < xs.length) (hm : 0 < vs.length) (hroom : xs.length + vs.length ≤ c) (hA : OwnI V base (some ⟨g, 0, none⟩) c xs) (hB : OwnI V base (some ⟨b', 0, none⟩) cb vs) (hne : b' ≠ g) :
    Calls Try.prog 56 #[.slice (some ⟨g, 0, none⟩) xs.length c, .int .i64 i, .slice (some ⟨b', 0, none⟩) vs.length cb] V (RepRet V base (some ⟨g, 0, none⟩) (xs.take i ++ vs ++ xs.drop i)) := by
  have RA := OwnR.of hA
  have RB := OwnR.of hB
  have c63 : c ≤ 9223372036854775807 := by obtain ⟨cur, _, _, _, h4, _⟩ := RA; unfold maxLen at h4; exact h4
  have cb1 : cb ≠ 0 := by obtain ⟨cur, _, _, h3, _⟩ := RB; rw [iv_length] at h3; omega
  obtain ⟨n, hn⟩ : ∃ n, xs.length = n := ⟨_, rfl⟩
  obtain ⟨m, hm'⟩ : ∃ m, vs.length = m := ⟨_, rfl⟩
  rw [hn] at hi hroom ⊢
  rw [hm'] at hm hroom ⊢
  obtain ⟨rest, hrl, RW⟩ := RA.widen (n + m) (by rw [iv_length]; omega) hroom
  rw [iv_length, hn] at hrl
  have hwl : (iv xs ++ rest).length = n + m := by rw [List.length_append, iv_length, hn, hrl]; omega
  have hdl : (iv (xs.drop i)).length = n - i := by rw [iv_length, List.length_drop, hn]
  have hvl : (iv vs).length = m := by rw [iv_length, hm']
  have hcp1 : ∀ ty dc sc, (Builtin.copy_ #[29, 29] ty #[.slice (some ⟨g, i + m, none⟩) (n + m - (i + m)) dc, .slice (some ⟨g, i, none⟩) (n + m - i) sc]).run Try.prog V.drew = .ok (goInt (iv (xs.drop i)).length) (V.drew.setCells g (i + m) (iv (xs.drop i))) := fun ty dc sc =>
    copy_run (w := V.drew) RW (i + m) ⟨g, i, none⟩ (iv (xs.drop i)) (by omega) (n + m - i) (n + m - (i + m)) (by rw [hdl]; simp only [Nat.min_def]; split <;> omega)
      (fun j v hj => by
        rw [← iv_drop, List.getElem?_drop] at hj
        rw [Addr.add_lit]
        exact RA.cell hj) (fun v hv => iv_one hv) ty dc sc
  have O1 := OwnR.put (w := V.drew) RW (i + m) (iv (xs.drop i)) (by omega)
  have T1 : Turn (· = g) V (V.drew.setCells g (i + m) (iv (xs.drop i))) := Turn.trans (Turn.of_ext (by repeat (first | exact Ext.refl _ | refine Ext.alloc ?_ _ | refine Ext.more ?_ _ _ | refine Ext.drew ?_ | refine Ext.drewN ?_ _ | refine Ext.setCell ?_ (by simp <;> omega) _))) (Turn.setCells (S := (· = g)) rfl _ _ _)
  have B1 := RB.keep T1 hne
  obtain ⟨W1, hW1⟩ : ∃ W1, V.drew.setCells g (i + m) (iv (xs.drop i)) = W1 := ⟨_, rfl⟩
  rw [hW1] at hcp1 O1 T1 B1
  have hol : ((iv xs ++ rest).take (i + m) ++ iv (xs.drop i) ++ (iv xs ++ rest).drop (i + m + (iv (xs.drop i)).length)).length = n + m := by rw [List.length_append, List.length_append, List.length_take, List.length_drop, hwl, hdl]; omega
  have hcp2 : ∀ ty dc, (Builtin.copy_ #[29, 29] ty #[.slice (some ⟨g, i, none⟩) (n + m - i) dc, .slice (some ⟨b', 0, none⟩) m cb]).run Try.prog W1 = .ok (goInt (iv vs).length) (W1.setCells g i (iv vs)) := fun ty dc =>
    copy_run O1 i ⟨b', 0, none⟩ (iv vs) (by rw [hol, hvl]; omega) m (n + m - i) (by rw [hvl]; simp only [Nat.min_def]; split <;> omega)
      (fun j v hj => by rw [Addr.add_lit]; exact B1.cell (by simpa using hj)) (fun v hv => iv_one hv) ty dc cb
  have O2 := O1.put i (iv vs) (by rw [hol, hvl]; omega)
  have e9 := place_list (iv xs) rest (iv vs) i (by rw [iv_length]; omega) (by rw [hrl, hvl]; omega)
  rw [hvl, iv_drop] at e9
  rw [hvl, e9, iv_take, ← iv_append, ← iv_append] at O2
  have T2 := Turn.trans T1 (Turn.setCells (S := (· = g)) rfl (iv vs) i W1)
  have hyl : (xs.take i ++ vs ++ xs.drop i).length = n + m := by rw [List.length_append, List.length_append, List.length_take, List.length_drop, hn, hm']; omega
  have hov : ∀ lb cb2, (callFunc 57 #[.slice (some ⟨b', 0, none⟩) m cb, .slice (some ⟨g, i + m, none⟩) lb cb2]).run Try.prog V = .ok (.value (.bool false)) V := fun lb cb2 => apart_run RB RA hne (by omega) 0 (i + m) m cb lb cb2
  have hz1 : ¬ ((m : Int) = 0) := by omega
  have hz2 : ¬ ((i : Int) = (n : Int)) := by omega
  have hw1 : IntKind.i64.wrap ((i : Int) + (m : Int)) = (i : Int) + (m : Int) := by rw [IntKind.wrap_i64]; omega
  have hb1 : (0 : Int) ≤ (i : Int) + (m : Int) := by omega
  have hin : i ≤ n := by omega
  have htn : ((i : Int) + (m : Int)).toNat = i + m := by omega
  have hb2 : ¬ (c = i + m) := by omega
  have hb3 : (i : Int) ≤ (n : Int) + (m : Int) := by omega
  have hb4 : ¬ (c = i) := by omega
  have HO2 := Lib.hid O2
  have HT2 := Lib.hid T2
  have HYL := Lib.hid hyl
  have HWD := Lib.hid hW1
  obtain ⟨W2, hW2⟩ : ∃ W2, W1.setCells g i (iv vs) = W2 := ⟨_, rfl⟩
  rw [hW2] at hcp2 HO2 HT2
  clear hA hB RA RB RW hol hwl hdl hvl hrl O1 T1 B1 O2 e9 T2 hyl hn hm' hW1 hW2
  have mixed : Try.prog.follows Departure.mixedOrders = true := by kernel_rfl
  go_enter Try.func56, Try.ntmps56
  go_wp2_with (simp only [hov])
  go_region_law_o (refine step_copy_runI rfl _ _ 29 29 rfl _ _ (by simp [Act.eval, Act.put]) (by simp [Act.eval, Act.put]) (hcp1 _ _ _) ?_)
  go_wp2_with (at_builtin; refine wpList_copy_runI _ rfl _ _ 29 29 rfl _ _ rfl rfl (hcp2 _ _) ?_)
  go_ret
  refine ⟨some ⟨g, 0, none⟩, c, by rw [HYL.out]; rfl, HO2.out.ints, HT2.out.mono fun k _ hk => .inl (by rw [hk]; rfl), fun b hb => .inl hb⟩
end Go.Proofs.Ytfjkghbnlmhcnaa
