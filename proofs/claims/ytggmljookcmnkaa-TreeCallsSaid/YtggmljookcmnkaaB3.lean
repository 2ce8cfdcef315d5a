/- B3: 3 texts in one. -/
import Derived.Test.YtggmljookcmnkaaB1
import Derived.Deep.OwnRows
import Derived.WalkSpells
import Derived.WalkLawsBesides
import Derived.BigRegion
import Derived.Deep.RegionWith
import Derived.Deep.QuietTactic
import Derived.Deep.DeepCutAuto
import Derived.Deep.RegionHeld3
import Derived.Deep.RegionLaw
import Derived.BigQuiet
import Derived.Lib.Hide
/- The contract of Leaves. -/
namespace Go.Proofs.Ytggmljookcmnkaa
open Go.RowKit
attribute [local go_sem] more_drew more_drewN more_size more_cell more_frozen more_setCell drew_more drewN_more lt_add_r lt_add_r2 lt_add_r3 lt_add_r4 lt_add_r5 lt_add_r6 lt_add_r7 lt_add_r8 lt_add_r9 lt_add_r10 lt_self_r lt_self_r2

def leavesF : Nat → List Nd → List Int
  | _, [] => []
  | k, p :: l => if LeafK p.kind then (k : Int) :: leavesF (k + 1) l else leavesF (k + 1) l
theorem leavesF_len : ∀ (l : List Nd) (k : Nat), (leavesF k l).length ≤ l.length
  | [], _ => Nat.le_refl _
  | p :: l, k => by
    unfold leavesF
    have := leavesF_len l (k + 1)
    split <;> simp only [List.length_cons] <;> omega
theorem leavesF_mem : ∀ (l : List Nd) (k : Nat) (i : Nat), (i : Int) ∈ leavesF k l ↔ ∃ p, k ≤ i ∧ l[i - k]? = some p ∧ LeafK p.kind
  | [], k, i => by simp [leavesF]
  | p :: l, k, i => by
    have ih := leavesF_mem l (k + 1) i
    have key : (∃ q, k ≤ i ∧ (p :: l)[i - k]? = some q ∧ LeafK q.kind) ↔ (i = k ∧ LeafK p.kind) ∨ ∃ q, k + 1 ≤ i ∧ l[i - (k + 1)]? = some q ∧ LeafK q.kind := by
      constructor
      · rintro ⟨q, h1, h2, h3⟩
        rcases Nat.eq_or_lt_of_le h1 with rfl | hlt
        · rw [Nat.sub_self] at h2
          simp at h2
          subst h2
          exact .inl ⟨rfl, h3⟩
        · rw [show i - k = (i - (k + 1)) + 1 by omega, List.getElem?_cons_succ] at h2
          exact .inr ⟨q, hlt, h2, h3⟩
      · rintro (⟨rfl, h⟩ | ⟨q, h1, h2, h3⟩)
        · exact ⟨p, Nat.le_refl _, by simp, h⟩
        · refine ⟨q, by omega, ?_, h3⟩
          rw [show i - k = (i - (k + 1)) + 1 by omega, List.getElem?_cons_succ]
          exact h2
    rw [key]
    unfold leavesF
    split
    · rename_i hk
      rw [List.mem_cons, ih]
      constructor
      · rintro (h | h)
        · exact .inl ⟨by omega, hk⟩
        · exact .inr h
      · rintro (⟨rfl, _⟩ | h)
        · exact .inl rfl
        · exact .inr h
    · rename_i hk
      rw [ih]
      constructor
      · exact .inr
      · rintro (⟨rfl, h⟩ | h)
        · exact absurd h hk
        · exact h
section
variable {A : Option Addr} {c : Nat} {ps : List Prt} {w : World}
theorem Leaves_no (h : PS w A c ps) (T : ¬ Tree (nds ps)) : Calls Try.prog 57 #[.slice A ps.length c] w fun e w' => e = .returned (.slice none 0 0) ∧ Ext w w' := by
  have CH := Lib.hid (check_no h T)
  clear h T
  go_enter Try.func57, Try.ntmps57
  go_wp2_with fail
  refine CH.out.mono ?_
  rintro e w3 ⟨rfl, hx3⟩
  have HX3 := Lib.hid hx3
  clear hx3
  go_wp2_with fail
  go_ret
  exact ⟨rfl, HX3.out⟩
set_option maxRecDepth 100000 in
set_option maxHeartbeats 1000000 in
theorem Leaves_yes (h : PS w A c ps) (T : Tree (nds ps)) : Calls Try.prog 57 #[.slice A ps.length c] w (IntsRet w (leavesF 0 (nds ps))) := by
  have CH := Lib.hid (check_ok h T)
  have HS := Lib.hid h
  have hl := h.few.len
  clear h T
  go_enter Try.func57, Try.ntmps57
  go_wp2_with fail
  refine CH.out.mono ?_
  rintro e w3 ⟨rfl, hx3⟩
  have HX3 := Lib.hid hx3
  clear hx3
  go_wp2_with fail
  go_loopw [3, 11] (fun v i wr => ∃ (j : Nat) (xs : List Int), j ≤ ps.length ∧ i = .int .i64 j ∧ Hid (RowI wr w.heap.size v xs) ∧ Hid (xs.length ≤ j ∧ leavesF 0 (nds ps) = xs ++ leavesF j ((nds ps).drop j)) ∧ Hid (Ext w wr)) (fun _ i _ => ps.length - (intOf i).toNat)
  case atStart => exact ⟨0, [], Nat.zero_le _, rfl, Lib.hid ⟨none, 0, rfl, OwnI.nil _ _⟩, Lib.hid ⟨Nat.le_refl _, rfl⟩, HX3⟩
  case round =>
    obtain ⟨j, xs, hj, rfl, hr, he, hx⟩ := hrel
    by_cases hlt : j < ps.length
    · obtain ⟨⟨q, kA, kcap⟩, hq⟩ : ∃ q, ps[j]? = some q := ⟨_, List.getElem?_eq_getElem hlt⟩
      obtain ⟨b, off, rfl, hb, hcell⟩ := (HS.out.ext hx.out).parts (by omega)
      obtain ⟨d0, d1, d2, d3, d4, d5, d6, d7⟩ := hcell j _ hq
      dsimp only at d0 d1 d2 d3 d4 d5 d6 d7
      have HE : Hid (leavesF j ((nds ps).drop j) = if LeafK q.kind then (j : Int) :: leavesF (j + 1) ((nds ps).drop (j + 1)) else leavesF (j + 1) ((nds ps).drop (j + 1))) := by
        rw [List.drop_eq_getElem_cons (by rw [nds_length]; exact hlt)]
        have := nds_get hq
        rw [List.getElem?_eq_getElem (by rw [nds_length]; exact hlt)] at this
        injection this with this
        rw [this]
        exact Lib.hid rfl
      have HL : Hid (xs.length ≤ 1000000) := Lib.hid (by have := he.out.1; omega)
      clear hcell hq
      by_cases hk : LeafK q.kind
      · have hk1 : decide (LeafK q.kind) = true := decide_eq_true hk
        have HE' : Hid (leavesF j ((nds ps).drop j) = (j : Int) :: leavesF (j + 1) ((nds ps).drop (j + 1))) := Lib.hid (HE.out.trans (if_pos hk))
        clear hk HE
        go_wp2_with (first
          | (go_at_call 85; refine (leaf_any _ _).mono ?_; rintro e w' ⟨rfl, rfl⟩)
          | (at_builtin; refine app_int w (by rfl) (.tmp 19) (.tmp 21) rfl (hr.out.ext (by repeat (first | exact Ext.refl _ | refine Ext.alloc ?_ _ | refine Ext.more ?_ _ _ | refine Ext.drew ?_ | refine Ext.drewN ?_ _ | refine Ext.setCell ?_ (by simp <;> omega) _))) j (wr.heap.size + 1) rfl rfl (by simp) (by simp [go_sem]) HL.out (hx.out.trans (by repeat (first | exact Ext.refl _ | refine Ext.alloc ?_ _ | refine Ext.more ?_ _ _ | refine Ext.drew ?_ | refine Ext.drewN ?_ _ | refine Ext.setCell ?_ (by simp <;> omega) _))) ?_; intro v7 w7 hr7 hg7 hx7))
        have HR7 := Lib.hid hr7
        have HX7 := Lib.hid hx7
        clear hr7 hx7 hg7
        go_roundw
        case rel => exact ⟨j + 1, xs ++ [(j : Int)], by omega, by go_num, HR7, Lib.hid ⟨by have := he.out.1; simp; omega, by rw [he.out.2, HE'.out]; simp⟩, HX7⟩
        case measure => simp [intOf]; omega
      · have hk1 : decide (LeafK q.kind) = false := decide_eq_false hk
        have HE' : Hid (leavesF j ((nds ps).drop j) = leavesF (j + 1) ((nds ps).drop (j + 1))) := Lib.hid (HE.out.trans (if_neg hk))
        clear hk HE
        go_wp2_with (go_at_call 85; refine (leaf_any _ _).mono ?_; rintro e w' ⟨rfl, rfl⟩)
        go_roundw
        case rel => exact ⟨j + 1, xs, by omega, by go_num, Lib.hid (hr.out.ext (by repeat (first | exact Ext.refl _ | refine Ext.alloc ?_ _ | refine Ext.more ?_ _ _ | refine Ext.drew ?_ | refine Ext.drewN ?_ _ | refine Ext.setCell ?_ (by simp <;> omega) _))), Lib.hid ⟨by have := he.out.1; omega, by rw [he.out.2, HE'.out]⟩, Lib.hid (hx.out.trans (by repeat (first | exact Ext.refl _ | refine Ext.alloc ?_ _ | refine Ext.more ?_ _ _ | refine Ext.drew ?_ | refine Ext.drewN ?_ _ | refine Ext.setCell ?_ (by simp <;> omega) _)))⟩
        case measure => simp [intOf]; omega
    · obtain rfl : j = ps.length := by omega
      obtain ⟨A1, c1, rfl, ho⟩ := hr.out
      have HO := Lib.hid ho
      have HEE : Hid (leavesF 0 (nds ps) = xs) := Lib.hid (by rw [he.out.2, List.drop_eq_nil_of_le (by rw [nds_length]; omega)]; simp [leavesF])
      clear ho
      go_wp2_with fail
      go_ret
      rw [HEE.out]
      exact ⟨A1, c1, rfl, HO.out, hx.out⟩
end
end Go.Proofs.Ytggmljookcmnkaa

/- The contract of Parents. -/
namespace Go.Proofs.Ytggmljookcmnkaa
open Go.RowKit
attribute [local go_sem] more_drew more_drewN more_size more_cell more_frozen more_setCell drew_more drewN_more lt_add_r lt_add_r2 lt_add_r3 lt_add_r4 lt_add_r5 lt_add_r6 lt_add_r7 lt_add_r8 lt_add_r9 lt_add_r10 lt_self_r lt_self_r2

/-- a row of ints that was made -/
def MadeI (w : World) (g : Nat) (us : List Int) : Prop := w.heap[g]? = some (.cells (iv us).toArray 3)
theorem made_cells (v : Value) (n : Nat) : madeCells #[v] n = (List.replicate n v).toArray := by
  apply Array.ext
  · simp [madeCells]
  · intro i h1 h2
    simp [madeCells, Nat.mod_one]
theorem MadeI.new (w : World) (n : Nat) : MadeI (w.alloc (.cells (madeCells #[.int .i64 0] n) 3)) w.heap.size (List.replicate n 0) := by
  unfold MadeI
  rw [heap_alloc_new, made_cells]
  unfold iv
  rw [List.map_replicate]
theorem MadeI.cell {w : World} {g : Nat} {us : List Int} (h : MadeI w g us) {k : Nat} (hk : k < us.length) : w.cell? ⟨g, k, none⟩ = some (.int .i64 (us.getD k 0)) ∧ w.frozen? ⟨g, k, none⟩ = false ∧ g < w.heap.size := by
  refine ⟨?_, by simp [World.frozen?, show w.heap[g]? = _ from h], lt_of_heap h⟩
  have := cell_of_row _ _ k _ _ _ h
  rw [this]
  simpa using iv_get hk
theorem MadeI.store {w : World} {g : Nat} {us : List Int} (h : MadeI w g us) (k : Nat) (x : Int) : MadeI (w.setCell ⟨g, k, none⟩ (.int .i64 x)) g (us.set k x) := by
  unfold MadeI at *
  simp [World.setCell, Array.getElem?_modify, h, iv, List.map_set]
theorem MadeI.ext {w w' : World} {g : Nat} {us : List Int} (h : MadeI w g us) (e : Ext w w') : MadeI w' g us := (e.below.block g (lt_of_heap h)).trans h
theorem MadeI.own {w : World} {g base : Nat} {us : List Int} (h : MadeI w g us) (hb : base ≤ g) (hl : us.length ≤ 1000000) : OwnI w base (some ⟨g, 0, none⟩) us.length us := by
  refine ⟨by rw [iv_length, Nat.mul_one], .inr ⟨g, us.length, (iv us).toArray, rfl, hb, h, Nat.le_refl _, by unfold maxLen; omega, by simp [iv_length], ?_⟩⟩
  rw [List.take_of_length_le (by simp [iv_length])]

/-- what is told of the first parts -/
structure ParUpto (l : List Nd) (us : List Int) (J K : Nat) : Prop where
  len : us.length = l.length
  root : us[0]? = some (-1)
  up : ∀ (i j : Nat) (p : Nd), l[j]? = some p → (j < J ∧ (i : Int) ∈ p.kids) ∨ (j = J ∧ (i : Int) ∈ p.kids.take K) → us[i]? = some (j : Int)
theorem ParUpto.first {l : List Nd} {us : List Int} (h : us.length = l.length) (h0 : us[0]? = some (-1)) : ParUpto l us 0 0 := ⟨h, h0, fun i j p _ hh => by
  rcases hh with ⟨h1, _⟩ | ⟨_, h2⟩
  · omega
  · simp at h2⟩
theorem ParUpto.kid {l : List Nd} (T : Tree l) {us : List Int} {J K : Nat} (h : ParUpto l us J K) {p : Nd} (hp : l[J]? = some p) {c : Nat} (hc : p.kids[K]? = some (c : Int)) : ParUpto l (us.set c (J : Int)) J (K + 1) := by
  have hcm : (c : Int) ∈ p.kids := List.mem_of_getElem? hc
  obtain ⟨c', e, h1, h2⟩ := T.kid_behind hp _ hcm
  obtain rfl : c = c' := by omega
  refine ⟨by rw [List.length_set]; exact h.len, by rw [List.getElem?_set_ne (by omega)]; exact h.root, fun i j q hq hh => ?_⟩
  by_cases hic : i = c
  · subst hic
    have : j = J := T.up_one (i := i) ⟨q, hq, by rcases hh with ⟨_, h⟩ | ⟨_, h⟩; exact h; exact List.mem_of_mem_take h⟩ ⟨p, hp, hcm⟩
    subst this
    rw [List.getElem?_set_self (by rw [h.len]; exact h2)]
  · rw [List.getElem?_set_ne (by omega)]
    refine h.up i j q hq ?_
    rcases hh with hh | ⟨rfl, hm⟩
    · exact .inl hh
    · refine .inr ⟨rfl, ?_⟩
      rw [hp] at hq
      cases hq
      rw [List.take_add_one, hc] at hm
      simp only [Option.toList_some, List.mem_append, List.mem_singleton] at hm
      rcases hm with hm | hm
      · exact hm
      · omega
theorem ParUpto.next {l : List Nd} {us : List Int} {J : Nat} {p : Nd} (hp : l[J]? = some p) (h : ParUpto l us J p.kids.length) : ParUpto l us (J + 1) 0 := by
  refine ⟨h.len, h.root, fun i j q hq hh => h.up i j q hq ?_⟩
  rcases hh with ⟨h1, h2⟩ | ⟨_, h2⟩
  · rcases Nat.lt_or_ge j J with hj | hj
    · exact .inl ⟨hj, h2⟩
    · obtain rfl : j = J := by omega
      rw [hp] at hq
      cases hq
      exact .inr ⟨rfl, by rwa [List.take_length]⟩
  · simp at h2
theorem ParUpto.done {l : List Nd} {us : List Int} (h : ParUpto l us l.length 0) : ParOk l us := ⟨h.len, h.root, fun i j ⟨p, hp, hk⟩ => h.up i j p hp (.inl ⟨lt_of_get hp, hk⟩)⟩
section
variable {A : Option Addr} {c : Nat} {ps : List Prt} {w : World}
theorem Parents_no (h : PS w A c ps) (T : ¬ Tree (nds ps)) : Calls Try.prog 46 #[.slice A ps.length c] w fun e w' => e = .returned (.slice none 0 0) ∧ Ext w w' := by
  have CH := Lib.hid (check_no h T)
  clear h T
  go_enter Try.func46, Try.ntmps46
  go_wp2_with fail
  refine CH.out.mono ?_
  rintro e w3 ⟨rfl, hx3⟩
  have HX3 := Lib.hid hx3
  clear hx3
  go_wp2_with fail
  go_ret
  exact ⟨rfl, HX3.out⟩
def ParsRet (w : World) (l : List Nd) (e : Ending) (w' : World) : Prop := ∃ us, ParOk l us ∧ IntsRet w us e w'
set_option maxRecDepth 100000 in
set_option maxHeartbeats 1000000 in
theorem Parents_yes (h : PS w A c ps) (T : Tree (nds ps)) : Calls Try.prog 46 #[.slice A ps.length c] w (ParsRet w (nds ps)) := by
  have CH := Lib.hid (check_ok h T)
  have HS := Lib.hid h
  have hl := h.few.len
  have hl0 : 0 < ps.length := by have := T.pos; rwa [nds_length] at this
  have HT := Lib.hid T
  have hmk := run_make_row' (P := Try.prog) 30 3 (.int .i64 0) 8 Try.underlying30 infoInt rfl .i64 .i64 ps.length (by omega) (by omega)
  clear h T
  go_enter Try.func46, Try.ntmps46
  go_wp2_with fail
  refine CH.out.mono ?_
  rintro e w3 ⟨rfl, hx3⟩
  have HX3 := Lib.hid hx3
  clear hx3
  go_upto_region 4 with fail
  obtain ⟨W4, hW4⟩ : ∃ W4, w3.alloc (.cells (madeCells #[.int .i64 0] ps.length) 3) = W4 := ⟨_, rfl⟩
  have M4 : Hid (MadeI W4 w3.heap.size (List.replicate ps.length 0)) := hW4 ▸ MadeI.new _ _
  have X4 : Hid (Ext w W4) := hW4 ▸ HX3.out.alloc _
  have hg : w.heap.size ≤ w3.heap.size := HX3.out.size
  rw [hW4]
  generalize w3.heap.size = g at *
  obtain ⟨m1, m2, m3⟩ := M4.out.cell (k := 0) (by simp; omega)
  have M5 := Lib.hid (M4.out.store 0 (-1))
  have X5 := Lib.hid (X4.out.setCell (p := ⟨g, 0, none⟩) hg (.int .i64 (-1)))
  clear hW4 hmk
  go_wp2_with fail
  generalize hW5 : W4.setCell ⟨g, 0, none⟩ (.int .i64 (-1)) = W5 at *
  clear hW5 m1 m2 m3
  go_loopw [18] (fun i wr => ∃ (j : Nat) (us : List Int), j ≤ ps.length ∧ i = .int .i64 j ∧ Hid (MadeI wr g us) ∧ Hid (ParUpto (nds ps) us j 0) ∧ Hid (Ext w wr)) (fun i _ => ps.length - (intOf i).toNat)
  case atStart => exact ⟨0, _, Nat.zero_le _, rfl, M5, Lib.hid (ParUpto.first (by simp [nds_length]) (by rw [List.getElem?_set_self (by rw [List.length_replicate]; exact hl0)])), X5⟩
  case round =>
    obtain ⟨j, us, hj, rfl, hM, hU, hX⟩ := hrel
    by_cases hlt : j < ps.length
    · obtain ⟨⟨q, kA, kcap⟩, hq⟩ : ∃ q, ps[j]? = some q := ⟨_, List.getElem?_eq_getElem hlt⟩
      obtain ⟨b, off, rfl, hb, hcell⟩ := (HS.out.ext hX.out).parts (by omega)
      obtain ⟨d0, d1, d2, d3, d4, d5, d6, d7⟩ := hcell j _ hq
      have ho := (HS.out.oks.get hq)
      have o1 : q.kids.length ≤ kcap := ho.cap
      have o2 : kcap ≤ 9223372036854775807 := ho.top
      dsimp only at d0 d1 d2 d3 d4 d5 d6 d7
      have HOQ := Lib.hid ho
      have HQ := Lib.hid (nds_get hq)
      clear hcell hq ho
      go_wp2_with fail
      have M6 := Lib.hid (hM.out.ext (w' := wr.alloc (.cells #[.int .i64 q.sym, .int .i64 q.kind, .int .i64 q.lo, .int .i64 q.inn, .int .i64 q.hi, .int .i64 q.look, .slice kA q.kids.length kcap, .int .u64 q.met] 33)) ((Ext.refl _).alloc _))
      have X6 := Lib.hid (hX.out.alloc (.cells #[.int .i64 q.sym, .int .i64 q.kind, .int .i64 q.lo, .int .i64 q.inn, .int .i64 q.hi, .int .i64 q.look, .slice kA q.kids.length kcap, .int .u64 q.met] 33))
      generalize wr.alloc (.cells #[.int .i64 q.sym, .int .i64 q.kind, .int .i64 q.lo, .int .i64 q.inn, .int .i64 q.hi, .int .i64 q.look, .slice kA q.kids.length kcap, .int .u64 q.met] 33) = W6 at *
      clear d0 d1 d2 d3 d4 d5 d6 d7 hM hX
      go_loopw [26] (fun i wr => ∃ (k : Nat) (us : List Int), k ≤ q.kids.length ∧ i = .int .i64 k ∧ Hid (MadeI wr g us) ∧ Hid (ParUpto (nds ps) us j k) ∧ Hid (Ext w wr)) (fun i _ => q.kids.length - (intOf i).toNat)
      case atStart => exact ⟨0, us, Nat.zero_le _, rfl, M6, hU, X6⟩
      case round =>
        obtain ⟨k, us, hk, rfl, hM, hU, hX⟩ := hrel
        by_cases hkl : k < q.kids.length
        · obtain ⟨b2, off2, hkA, hb2, hc2⟩ := (HOQ.out.ext hX.out).kids (by show 0 < q.kids.length; omega)
          change kA = _ at hkA
          subst hkA
          have e1 := hc2 k hkl
          obtain ⟨i, hi1, hi2, hi3⟩ := HT.out.kid_behind HQ.out (q.kids.getD k 0) (by rw [List.getD_eq_getElem?_getD, List.getElem?_eq_getElem hkl]; exact List.getElem_mem hkl)
          dsimp only at e1
          rw [hi1] at e1
          rw [nds_length] at hi3
          have hlen := hU.out.len
          rw [nds_length] at hlen
          obtain ⟨m1, m2, m3⟩ := hM.out.cell (k := i) (by omega)
          have M7 := Lib.hid (hM.out.store i j)
          have X7 := Lib.hid (hX.out.setCell (p := ⟨g, i, none⟩) hg (.int .i64 (j : Int)))
          have U7 := Lib.hid (hU.out.kid HT.out HQ.out (c := i) (K := k) (by rw [← hi1, List.getD_eq_getElem?_getD, List.getElem?_eq_getElem hkl]; rfl))
          clear hc2 hi1 hM hU hX hlen
          go_wp2_with fail
          go_roundw
          case rel => exact ⟨k + 1, _, by omega, by go_num, M7, U7, X7⟩
          case measure => simp [intOf]; omega
        · obtain rfl : k = q.kids.length := by omega
          go_wp2_with fail
          go_roundw
          case rel => exact ⟨j + 1, us, by omega, by go_num, hM, Lib.hid (ParUpto.next HQ.out hU.out), hX⟩
          case measure => simp [intOf]; omega
    · obtain rfl : j = ps.length := by omega
      go_wp2_with fail
      go_ret
      have hlen := hU.out.len
      rw [nds_length] at hlen
      have e : (Value.slice (some ⟨g, 0, none⟩) ps.length ps.length) = .slice (some ⟨g, 0, none⟩) us.length us.length := by rw [hlen]
      exact ⟨us, ParUpto.done (by rw [nds_length]; exact hU.out), some ⟨g, 0, none⟩, us.length, by rw [← e]; rfl, hM.out.own hg (by omega), hX.out⟩
end
end Go.Proofs.Ytggmljookcmnkaa

/- The contracts of slices.Reverse, Path. -/
namespace Go.Proofs.Ytggmljookcmnkaa
open Go.RowKit
attribute [local go_sem] more_drew more_drewN more_size more_cell more_frozen more_setCell drew_more drewN_more lt_add_r lt_add_r2 lt_add_r3 lt_add_r4 lt_add_r5 lt_add_r6 lt_add_r7 lt_add_r8 lt_add_r9 lt_add_r10 lt_self_r lt_self_r2

theorem OwnI.store {w : World} {base g c : Nat} {xs : List Int} (h : OwnI w base (some ⟨g, 0, none⟩) c xs) {k : Nat} (_ : k < xs.length) (x : Int) : OwnI (w.setCell ⟨g, k, none⟩ (.int .i64 x)) base (some ⟨g, 0, none⟩) c (xs.set k x) := by
  obtain ⟨h1, h2⟩ := h
  rcases h2 with ⟨h2, _⟩ | ⟨g', cap, cur, h2, h3, h4, h5, h6, h7, h8⟩
  · cases h2
  · injection h2 with a1 a2 a3
    injection a1 with a1
    injection a1 with a1
    subst a1 a3
    refine ⟨by rw [iv_length, List.length_set, Nat.mul_one], .inr ⟨g, c, cur.setIfInBounds k (.int .i64 x), by rw [List.length_set], h3, by simp [World.setCell, Array.getElem?_modify, h4], by rw [List.length_set]; exact h5, h6, by rw [Array.size_setIfInBounds]; exact h7, ?_⟩⟩
    unfold iv at h8 ⊢
    rw [List.map_set, List.length_set, Array.toList_setIfInBounds, List.take_set, h8]
theorem OwnI.cell {w : World} {base g c : Nat} {xs : List Int} (h : OwnI w base (some ⟨g, 0, none⟩) c xs) {k : Nat} (hk : k < xs.length) : w.cell? ⟨g, k, none⟩ = some (.int .i64 (xs.getD k 0)) ∧ w.frozen? ⟨g, k, none⟩ = false ∧ g < w.heap.size := by
  obtain ⟨hI, _⟩ := h.ints
  obtain ⟨b, off, hA, hb, hc⟩ := hI (by omega)
  injection hA with hA
  injection hA with hA hB
  subst hA hB
  have := hc k hk
  rw [Nat.zero_add] at this
  exact ⟨this, World.ownsRow.frozenAt h k, hb⟩
/-- the ends are turned about as far as i -/
def RevTo (xs ys : List Int) (i : Nat) : Prop := ys.length = xs.length ∧ ∀ k, k < xs.length → ys.getD k 0 = if k < i ∨ xs.length ≤ k + i then xs.getD (xs.length - 1 - k) 0 else xs.getD k 0
theorem RevTo.first (xs : List Int) : RevTo xs xs 0 := ⟨rfl, fun k hk => by rw [if_neg (by omega)]⟩
theorem RevTo.swap {xs ys : List Int} {i j : Nat} (h : RevTo xs ys i) (hj : i + j + 1 = xs.length) (hij : i < j) : RevTo xs ((ys.set i (ys.getD j 0)).set j (ys.getD i 0)) (i + 1) := by
  refine ⟨by rw [List.length_set, List.length_set, h.1], fun k hk => ?_⟩
  have hl := h.1
  have hi := h.2 i (by omega)
  have hjj := h.2 j (by omega)
  rw [if_neg (by omega)] at hi hjj
  by_cases h1 : k = j
  · subst h1
    rw [List.getD_eq_getElem?_getD, List.getElem?_set_self (by rw [List.length_set]; omega), if_pos (by omega), Option.getD_some, hi]
    congr 1
    omega
  · by_cases h2 : k = i
    · subst h2
      rw [List.getD_eq_getElem?_getD, List.getElem?_set_ne (by omega), List.getElem?_set_self (by omega), if_pos (by omega), Option.getD_some, hjj]
      congr 1
      omega
    · have hkk := h.2 k hk
      rw [List.getD_eq_getElem?_getD, List.getElem?_set_ne (by omega), List.getElem?_set_ne (by omega), ← List.getD_eq_getElem?_getD, hkk]
      by_cases h3 : k < i ∨ xs.length ≤ k + i
      · rw [if_pos h3, if_pos (by omega)]
      · rw [if_neg h3, if_neg (by omega)]
theorem RevTo.done {xs ys : List Int} {i : Nat} (h : RevTo xs ys i) (hi : xs.length ≤ i + i + 1) : ys = xs.reverse := by
  apply List.ext_getElem?
  intro k
  rcases Nat.lt_or_ge k xs.length with hk | hk
  · have hkk := h.2 k hk
    have e1 : ys[k]? = some (ys.getD k 0) := by
      rw [List.getD_eq_getElem?_getD, List.getElem?_eq_getElem (by rw [h.1]; exact hk)]
      rfl
    rw [e1, hkk, List.getElem?_reverse hk]
    have e2 : ∀ j, j < xs.length → some (xs.getD j 0) = xs[j]? := fun j hj => by
      rw [List.getD_eq_getElem?_getD, List.getElem?_eq_getElem hj]
      rfl
    by_cases h3 : k < i ∨ xs.length ≤ k + i
    · rw [if_pos h3, e2 _ (by omega)]
    · rw [if_neg h3, e2 _ hk]
      congr 1
      omega
  · rw [List.getElem?_eq_none (by rw [h.1]; exact hk), List.getElem?_eq_none (by rw [List.length_reverse]; exact hk)]
/-- a row is turned about -/
def RevPost (w : World) (base : Nat) (A : Option Addr) (c : Nat) (xs : List Int) (e : Ending) (w' : World) : Prop := e = .returned (.tuple #[]) ∧ OwnI w' base A c xs.reverse ∧ Turn (fun b => base ≤ b) w w'
set_option maxRecDepth 100000 in
set_option maxHeartbeats 2000000 in
theorem reverse_any (A : Option Addr) (c base : Nat) (xs : List Int) (w : World) (h : OwnI w base A c xs) (hl : xs.length ≤ 1000000) (_ : base ≤ w.heap.size) : Calls Try.prog 104 #[.slice A xs.length c] w (RevPost w base A c xs) := by
  rcases Nat.eq_zero_or_pos xs.length with h0 | h0
  · obtain rfl := List.eq_nil_of_length_eq_zero h0
    have HH := Lib.hid h
    clear h
    go_enter Try.func104, Try.ntmps104
    go_wp2
    refine wp_loop_rounds 1 ?_
    rw [rounds_succ]
    go_wp2
    go_end0
    exact ⟨rfl, HH.out, Turn.refl _⟩
  · have hint := h.ints
    obtain ⟨g, off, rfl, hg, _⟩ := hint.1 h0
    have hoff : off = 0 ∧ base ≤ g := by
      rcases h.2 with ⟨h2, _⟩ | ⟨g', cap, cur, h2, h3, _⟩
      · cases h2
      · injection h2 with a1 a2 a3
        injection a1 with a1
        injection a1 with a1 a2
        subst a1 a2
        exact ⟨rfl, h3⟩
    obtain ⟨rfl, hbg⟩ := hoff
    have HH := Lib.hid h
    clear h hint
    go_enter Try.func104, Try.ntmps104
    go_wp2
    go_loopw [2, 3] (fun s t wr => ∃ (i : Nat) (ys : List Int), i < xs.length ∧ s = .int .i64 i ∧ t = .int .i64 ((xs.length : Int) - 1 - (i : Int)) ∧ Hid (RevTo xs ys i) ∧ Hid (OwnI wr base (some ⟨g, 0, none⟩) c ys) ∧ Hid (Turn (fun b => base ≤ b) w wr)) (fun s _ _ => xs.length - (intOf s).toNat)
    case atStart => exact ⟨0, xs, h0, rfl, by go_num, Lib.hid (RevTo.first xs), HH, Lib.hid (Turn.refl _)⟩
    case round =>
      obtain ⟨i, ys, hi, rfl, rfl, hR, hO, hT⟩ := hrel
      obtain ⟨j, hj⟩ : ∃ j : Nat, i + j + 1 = xs.length := ⟨xs.length - 1 - i, by omega⟩
      have ej : (xs.length : Int) - 1 - (i : Int) = (j : Int) := by omega
      rw [ej]
      by_cases hlt : i < j
      · have hyl := hR.out.1
        obtain ⟨a1, a2, a3⟩ := hO.out.cell (k := i) (by omega)
        obtain ⟨b1, b2, b3⟩ := hO.out.cell (k := j) (by omega)
        have O1 := hO.out.store (k := i) (by omega) (ys.getD j 0)
        have O2 := O1.store (k := j) (by rw [List.length_set]; omega) (ys.getD i 0)
        have R2 := Lib.hid (hR.out.swap hj hlt)
        have T2 := Lib.hid ((hT.out.trans (Turn.setCell (S := fun b => base ≤ b) wr (p := ⟨g, i, none⟩) hbg (.int .i64 (ys.getD j 0)))).trans (Turn.setCell (S := fun b => base ≤ b) _ (p := ⟨g, j, none⟩) hbg (.int .i64 (ys.getD i 0))))
        obtain ⟨x, hx⟩ : ∃ x, ys.getD i 0 = x := ⟨_, rfl⟩
        obtain ⟨y, hy⟩ : ∃ y, ys.getD j 0 = y := ⟨_, rfl⟩
        rw [hx] at a1
        rw [hy] at b1
        rw [hx, hy] at O2 R2 T2
        have HO2 := Lib.hid O2
        have g1 : (i : Int) < (xs.length : Int) := by omega
        have g2 : (j : Int) < (xs.length : Int) := by omega
        clear hR hO hT O1 O2 hx hy hyl ej
        go_wp2_with fail
        go_region
        go_wp2_with fail
        refine ⟨⟨i + 1, _, by omega, by go_num, congrArg (Value.int IntKind.i64) (by omega), R2, Lib.hid (HO2.out.ext ((Ext.refl _).drew)), Lib.hid (T2.out.trans (Turn.of_ext ((Ext.refl _).drew)))⟩, by simp only [intOf]; omega⟩
      · have hR2 := Lib.hid (hR.out.done (by omega))
        clear hR ej
        go_wp2_with fail
        go_end0
        refine ⟨rfl, ?_, hT.out⟩
        rw [← hR2.out]
        exact hO.out
section
variable {A : Option Addr} {c : Nat} {ps : List Prt} {w : World}
set_option maxRecDepth 100000 in
set_option maxHeartbeats 1000000 in
theorem Path_no (i : Int) (h : PS w A c ps) (T : ¬ IsP (nds ps) i) : Calls Try.prog 45 #[.slice A ps.length c, .int .i64 i] w fun e w' => e = .returned (.slice none 0 0) ∧ Ext w w' := by
  have CH := Lib.hid (is_false i h T)
  clear h T
  go_enter Try.func45, Try.ntmps45
  go_wp2_with fail
  refine CH.out.mono ?_
  rintro e w2 ⟨rfl, hx2⟩
  have HX := Lib.hid hx2
  clear hx2
  go_wp2_with fail
  go_ret
  exact ⟨rfl, HX.out⟩
set_option maxRecDepth 100000 in
set_option maxHeartbeats 1000000 in
theorem Path_yes (i : Nat) (ws : List Int) (h : PS w A c ps) (T : Tree (nds ps)) (hw : Way (nds ps) i ws) (hi : i < ps.length) : Calls Try.prog 45 #[.slice A ps.length c, .int .i64 i] w (IntsRet w ws) := by
  have CH := Lib.hid (is_true i h ⟨T, by omega, by rw [nds_length]; omega⟩)
  have HS := Lib.hid h
  have HT := Lib.hid T
  have HW := Lib.hid hw
  have hl := h.few.len
  have hwl : ws.length ≤ 1001 := by have := hw.length T; omega
  clear h T hw
  go_enter Try.func45, Try.ntmps45
  go_wp2_with fail
  refine CH.out.mono ?_
  rintro e w2 ⟨rfl, hx2⟩
  have HX := Lib.hid hx2
  clear hx2
  go_wp2_with fail
  refine (Parents_yes (HS.out.ext HX.out) HT.out).mono ?_
  rintro e w3 ⟨us, hus, Au, cu, rfl, hou, hx3⟩
  have HX3 := Lib.hid (HX.out.trans hx3)
  have HU := Lib.hid hou
  have HUS := Lib.hid hus
  have hul : us.length = ps.length := by rw [hus.1, nds_length]
  have hu1 := hou.ints.2.1
  have hu2 := hou.ints.2.2.1
  unfold maxLen at hu2
  clear hx3 hou hus
  go_wp2_with fail
  go_loopw [1, 5] (fun s v wr => ∃ (xs : List Int), xs.length ≤ ws.length ∧ Hid (RowI wr w3.heap.size v xs) ∧ Hid (Ext w3 wr) ∧
      ((∃ (j : Nat) (vs : List Int), s = .int .i64 j ∧ j < ps.length ∧ Hid (Way (nds ps) j vs ∧ ws = vs ++ xs.reverse)) ∨ (s = .int .i64 (-1) ∧ Hid (ws = xs.reverse)))) (fun s _ _ => (intOf s + 1).toNat)
  case atStart => exact ⟨[], Nat.zero_le _, Lib.hid ⟨none, 0, rfl, OwnI.nil _ _⟩, Lib.hid (Ext.refl _), .inl ⟨i, ws, rfl, hi, Lib.hid ⟨HW.out, by simp⟩⟩⟩
  case round =>
    obtain ⟨xs, hxl, hr, hx, (⟨j, vs, rfl, hj, hv⟩ | ⟨rfl, hv⟩)⟩ := hrel
    · obtain ⟨⟨q, kA, kcap⟩, hq⟩ : ∃ q, ps[j]? = some q := ⟨_, List.getElem?_eq_getElem hj⟩
      obtain ⟨b, off, rfl, hb, hcell⟩ := (HS.out.ext (HX3.out.trans hx.out)).parts (by omega)
      obtain ⟨d0, _, _, _, _, _, _, _⟩ := hcell j _ hq
      dsimp only at d0
      have HQ := Lib.hid hq
      clear hcell hq
      obtain ⟨b2, off2, rfl, hb2, hc2⟩ := HU.out.ints.1 (by omega)
      have e1 := hc2 j (by omega)
      clear hc2
      have hj2 : j < us.length := by omega
      have HL : Hid (xs.length ≤ 1000000) := Lib.hid (by omega)
      have HXX := Lib.hid (HX3.out.trans hx.out)
      obtain ⟨hway, hws⟩ := hv.out
      obtain ⟨s', hs'⟩ : ∃ s', us.getD j 0 = s' := ⟨_, rfl⟩
      have hus' : us[j]? = some s' := by rw [← hs', List.getD_eq_getElem?_getD, List.getElem?_eq_getElem hj2]; rfl
      rw [hs'] at e1
      have NEXT : Hid (xs.length + 1 ≤ ws.length ∧ ((∃ (j' : Nat) (vs' : List Int), s' = (j' : Int) ∧ j' < j ∧ Way (nds ps) j' vs' ∧ ws = vs' ++ (xs ++ [q.sym]).reverse) ∨ (s' = -1 ∧ ws = (xs ++ [q.sym]).reverse))) := by
        cases hway with
        | root p hp =>
          rw [nds_get HQ.out] at hp
          cases hp
          rw [HUS.out.2.1] at hus'
          cases hus'
          refine ⟨by rw [hws]; simp, .inr ⟨rfl, ?_⟩⟩
          rw [hws, List.reverse_append]
          rfl
        | step _ j' p vs' hu hp hw' =>
          rw [nds_get HQ.out] at hp
          cases hp
          rw [HUS.out.2.2 j j' hu] at hus'
          cases hus'
          refine ⟨by rw [hws]; simp, .inl ⟨j', vs', rfl, (HT.out.up_lt hu).1, hw', ?_⟩⟩
          rw [hws, List.reverse_append, List.append_assoc]
          rfl
      clear hway hws hv hs' hus'
      go_wp2_with (at_builtin; refine app_int w3 (by rfl) (.tmp 19) (.tmp 25) rfl (hr.out.ext (by repeat (first | exact Ext.refl _ | refine Ext.alloc ?_ _ | refine Ext.more ?_ _ _ | refine Ext.drew ?_ | refine Ext.drewN ?_ _ | refine Ext.setCell ?_ (by simp <;> omega) _))) q.sym wr.heap.size rfl rfl (by simp) (by simp [go_sem]) HL.out (hx.out.trans (by repeat (first | exact Ext.refl _ | refine Ext.alloc ?_ _ | refine Ext.more ?_ _ _ | refine Ext.drew ?_ | refine Ext.drewN ?_ _ | refine Ext.setCell ?_ (by simp <;> omega) _))) ?_; intro v7 w7 hr7 hg7 hx7; have e7 := (hx7.below.cell (p := ⟨b2, off2 + j, none⟩) hb2).trans e1)
      have HR7 := Lib.hid hr7
      have HX7 := Lib.hid hx7
      clear hr7 hg7 hx7 e7
      go_roundw
      case rel =>
        obtain ⟨hn1, hn2⟩ := NEXT.out
        refine ⟨xs ++ [q.sym], by simp; omega, HR7, HX7, ?_⟩
        rcases hn2 with ⟨j', vs', rfl, hjj, h1, h2⟩ | ⟨rfl, h2⟩
        · exact .inl ⟨j', vs', rfl, by omega, Lib.hid ⟨h1, h2⟩⟩
        · exact .inr ⟨rfl, Lib.hid h2⟩
      case measure =>
        obtain ⟨hn1, hn2⟩ := NEXT.out
        rcases hn2 with ⟨j', vs', rfl, hjj, h1, h2⟩ | ⟨rfl, h2⟩ <;> simp only [intOf] <;> omega
    · obtain ⟨A1, c1, rfl, ho⟩ := hr.out
      have HO := Lib.hid ho
      have HV := Lib.hid hv.out
      clear ho
      go_wp2_with fail
      refine (reverse_any A1 c1 w3.heap.size xs wr HO.out (by omega) hx.out.size).mono ?_
      rintro e w8 ⟨rfl, ho8, t8⟩
      have HO8 := Lib.hid ho8
      have HX8 := Lib.hid (HX3.out.trans (Ext.of_below (hx.out.below.trans (t8.below hx.out.size fun k hk => hk))))
      clear ho8 t8
      go_wp2_with fail
      go_ret
      have hlx : xs.length = ws.length := by rw [HV.out, List.length_reverse]
      refine ⟨A1, c1, by show Ending.returned (Value.slice A1 xs.length c1) = _; rw [hlx], ?_, HX8.out⟩
      rw [HV.out]
      exact HO8.out.base HX3.out.size
end
end Go.Proofs.Ytggmljookcmnkaa
