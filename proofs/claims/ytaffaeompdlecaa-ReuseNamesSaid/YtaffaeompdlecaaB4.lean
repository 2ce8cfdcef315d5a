/- The contract of Parents. -/
import Derived.Test.YtaffaeompdlecaaB2
import Derived.Deep.OwnRows
import Derived.WalkSpells
import Derived.WalkLawsBesides
import Derived.BigRegion
import Derived.Deep.RegionWith
import Derived.Deep.QuietTactic
import Derived.Deep.DeepCutAuto
import Derived.Deep.RegionHeld3
import Derived.Deep.RegionLaw
import Derived.BigQuiet
import Derived.Lib.Hide
namespace Go.Proofs.Ytaffaeompdlecaa
open Go.RowKit
attribute [local go_sem] more_drew more_drewN more_size more_cell more_frozen more_setCell drew_more drewN_more lt_add_r lt_add_r2 lt_add_r3 lt_add_r4 lt_add_r5 lt_add_r6 lt_add_r7 lt_add_r8 lt_add_r9 lt_add_r10 lt_self_r lt_self_r2

/-- a row of ints that was made -/
def MadeI (w : World) (g : Nat) (us : List Int) : Prop := w.heap[g]? = some (.cells (iv us).toArray 3)
theorem made_cells (v : Value) (n : Nat) : madeCells #[v] n = (List.replicate n v).toArray := by
  apply Array.ext
  · simp [madeCells]
  · intro i h1 h2
    simp [madeCells, Nat.mod_one]
theorem MadeI.new (w : World) (n : Nat) : MadeI (w.alloc (.cells (madeCells #[.int .i64 0] n) 3)) w.heap.size (List.replicate n 0) := by
  unfold MadeI
  rw [heap_alloc_new, made_cells]
  unfold iv
  rw [List.map_replicate]
theorem MadeI.cell {w : World} {g : Nat} {us : List Int} (h : MadeI w g us) {k : Nat} (hk : k < us.length) : w.cell? ⟨g, k, none⟩ = some (.int .i64 (us.getD k 0)) ∧ w.frozen? ⟨g, k, none⟩ = false ∧ g < w.heap.size := by
  refine ⟨?_, by simp [World.frozen?, show w.heap[g]? = _ from h], lt_of_heap h⟩
  have := cell_of_row _ _ k _ _ _ h
  rw [this]
  simpa using iv_get hk
theorem MadeI.store {w : World} {g : Nat} {us : List Int} (h : MadeI w g us) (k : Nat) (x : Int) : MadeI (w.setCell ⟨g, k, none⟩ (.int .i64 x)) g (us.set k x) := by
  unfold MadeI at *
  simp [World.setCell, Array.getElem?_modify, h, iv, List.map_set]
theorem MadeI.ext {w w' : World} {g : Nat} {us : List Int} (h : MadeI w g us) (e : Ext w w') : MadeI w' g us := (e.below.block g (lt_of_heap h)).trans h
theorem MadeI.own {w : World} {g base : Nat} {us : List Int} (h : MadeI w g us) (hb : base ≤ g) (hl : us.length ≤ 1000000) : OwnI w base (some ⟨g, 0, none⟩) us.length us := by
  refine ⟨by rw [iv_length, Nat.mul_one], .inr ⟨g, us.length, (iv us).toArray, rfl, hb, h, Nat.le_refl _, by unfold maxLen; omega, by simp [iv_length], ?_⟩⟩
  rw [List.take_of_length_le (by simp [iv_length])]

/-- what is told of the first parts -/
structure ParUpto (l : List Nd) (us : List Int) (J K : Nat) : Prop where
  len : us.length = l.length
  root : us[0]? = some (-1)
  up : ∀ (i j : Nat) (p : Nd), l[j]? = some p → (j < J ∧ (i : Int) ∈ p.kids) ∨ (j = J ∧ (i : Int) ∈ p.kids.take K) → us[i]? = some (j : Int)
theorem ParUpto.first {l : List Nd} {us : List Int} (h : us.length = l.length) (h0 : us[0]? = some (-1)) : ParUpto l us 0 0 := ⟨h, h0, fun i j p _ hh => by
  rcases hh with ⟨h1, _⟩ | ⟨_, h2⟩
  · omega
  · simp at h2⟩
theorem ParUpto.kid {l : List Nd} (T : Tree l) {us : List Int} {J K : Nat} (h : ParUpto l us J K) {p : Nd} (hp : l[J]? = some p) {c : Nat} (hc : p.kids[K]? = some (c : Int)) : ParUpto l (us.set c (J : Int)) J (K + 1) := by
  have hcm : (c : Int) ∈ p.kids := List.mem_of_getElem? hc
  obtain ⟨c', e, h1, h2⟩ := T.kid_behind hp _ hcm
  obtain rfl : c = c' := by omega
  refine ⟨by rw [List.length_set]; exact h.len, by rw [List.getElem?_set_ne (by omega)]; exact h.root, fun i j q hq hh => ?_⟩
  by_cases hic : i = c
  · subst hic
    have : j = J := T.up_one (i := i) ⟨q, hq, by rcases hh with ⟨_, h⟩ | ⟨_, h⟩; exact h; exact List.mem_of_mem_take h⟩ ⟨p, hp, hcm⟩
    subst this
    rw [List.getElem?_set_self (by rw [h.len]; exact h2)]
  · rw [List.getElem?_set_ne (by omega)]
    refine h.up i j q hq ?_
    rcases hh with hh | ⟨rfl, hm⟩
    · exact .inl hh
    · refine .inr ⟨rfl, ?_⟩
      rw [hp] at hq
      cases hq
      rw [List.take_add_one, hc] at hm
      simp only [Option.toList_some, List.mem_append, List.mem_singleton] at hm
      rcases hm with hm | hm
      · exact hm
      · omega
theorem ParUpto.next {l : List Nd} {us : List Int} {J : Nat} {p : Nd} (hp : l[J]? = some p) (h : ParUpto l us J p.kids.length) : ParUpto l us (J + 1) 0 := by
  refine ⟨h.len, h.root, fun i j q hq hh => h.up i j q hq ?_⟩
  rcases hh with ⟨h1, h2⟩ | ⟨_, h2⟩
  · rcases Nat.lt_or_ge j J with hj | hj
    · exact .inl ⟨hj, h2⟩
    · obtain rfl : j = J := by omega
      rw [hp] at hq
      cases hq
      exact .inr ⟨rfl, by rwa [List.take_length]⟩
  · simp at h2
theorem ParUpto.done {l : List Nd} {us : List Int} (h : ParUpto l us l.length 0) : ParOk l us := ⟨h.len, h.root, fun i j ⟨p, hp, hk⟩ => h.up i j p hp (.inl ⟨lt_of_get hp, hk⟩)⟩
section
variable {A : Option Addr} {c : Nat} {ps : List Prt} {w : World}
theorem Parents_no (h : PS w A c ps) (T : ¬ Tree (nds ps)) : Calls Try.prog 24 #[.slice A ps.length c] w fun e w' => e = .returned (.slice none 0 0) ∧ Ext w w' := by
  have CH := Lib.hid (check_no h T)
  clear h T
  go_enter Try.func24, Try.ntmps24
  go_wp2_with fail
  refine CH.out.mono ?_
  rintro e w3 ⟨rfl, hx3⟩
  have HX3 := Lib.hid hx3
  clear hx3
  go_wp2_with fail
  go_ret
  exact ⟨rfl, HX3.out⟩
def ParsRet (w : World) (l : List Nd) (e : Ending) (w' : World) : Prop := ∃ us, ParOk l us ∧ IntsRet w us e w'
set_option maxRecDepth 100000 in
set_option maxHeartbeats 1000000 in
theorem Parents_yes (h : PS w A c ps) (T : Tree (nds ps)) : Calls Try.prog 24 #[.slice A ps.length c] w (ParsRet w (nds ps)) := by
  have CH := Lib.hid (check_ok h T)
  have HS := Lib.hid h
  have hl := h.few.len
  have hl0 : 0 < ps.length := by have := T.pos; rwa [nds_length] at this
  have HT := Lib.hid T
  have hmk := run_make_row' (P := Try.prog) 30 3 (.int .i64 0) 8 Try.underlying30 infoInt rfl .i64 .i64 ps.length (by omega) (by omega)
  clear h T
  go_enter Try.func24, Try.ntmps24
  go_wp2_with fail
  refine CH.out.mono ?_
  rintro e w3 ⟨rfl, hx3⟩
  have HX3 := Lib.hid hx3
  clear hx3
  go_upto_region 4 with fail
  obtain ⟨W4, hW4⟩ : ∃ W4, w3.alloc (.cells (madeCells #[.int .i64 0] ps.length) 3) = W4 := ⟨_, rfl⟩
  have M4 : Hid (MadeI W4 w3.heap.size (List.replicate ps.length 0)) := hW4 ▸ MadeI.new _ _
  have X4 : Hid (Ext w W4) := hW4 ▸ HX3.out.alloc _
  have hg : w.heap.size ≤ w3.heap.size := HX3.out.size
  rw [hW4]
  generalize w3.heap.size = g at *
  obtain ⟨m1, m2, m3⟩ := M4.out.cell (k := 0) (by simp; omega)
  have M5 := Lib.hid (M4.out.store 0 (-1))
  have X5 := Lib.hid (X4.out.setCell (p := ⟨g, 0, none⟩) hg (.int .i64 (-1)))
  clear hW4 hmk
  go_wp2_with fail
  generalize hW5 : W4.setCell ⟨g, 0, none⟩ (.int .i64 (-1)) = W5 at *
  clear hW5 m1 m2 m3
  go_loopw [18] (fun i wr => ∃ (j : Nat) (us : List Int), j ≤ ps.length ∧ i = .int .i64 j ∧ Hid (MadeI wr g us) ∧ Hid (ParUpto (nds ps) us j 0) ∧ Hid (Ext w wr)) (fun i _ => ps.length - (intOf i).toNat)
  case atStart => exact ⟨0, _, Nat.zero_le _, rfl, M5, Lib.hid (ParUpto.first (by simp [nds_length]) (by rw [List.getElem?_set_self (by rw [List.length_replicate]; exact hl0)])), X5⟩
  case round =>
    obtain ⟨j, us, hj, rfl, hM, hU, hX⟩ := hrel
    by_cases hlt : j < ps.length
    · obtain ⟨⟨q, kA, kcap⟩, hq⟩ : ∃ q, ps[j]? = some q := ⟨_, List.getElem?_eq_getElem hlt⟩
      obtain ⟨b, off, rfl, hb, hcell⟩ := (HS.out.ext hX.out).parts (by omega)
      obtain ⟨d0, d1, d2, d3, d4, d5, d6, d7⟩ := hcell j _ hq
      have ho := (HS.out.oks.get hq)
      have o1 : q.kids.length ≤ kcap := ho.cap
      have o2 : kcap ≤ 9223372036854775807 := ho.top
      dsimp only at d0 d1 d2 d3 d4 d5 d6 d7
      have HOQ := Lib.hid ho
      have HQ := Lib.hid (nds_get hq)
      clear hcell hq ho
      go_wp2_with fail
      have M6 := Lib.hid (hM.out.ext (w' := wr.alloc (.cells #[.int .i64 q.sym, .int .i64 q.kind, .int .i64 q.lo, .int .i64 q.inn, .int .i64 q.hi, .int .i64 q.look, .slice kA q.kids.length kcap, .int .u64 q.met] 35)) ((Ext.refl _).alloc _))
      have X6 := Lib.hid (hX.out.alloc (.cells #[.int .i64 q.sym, .int .i64 q.kind, .int .i64 q.lo, .int .i64 q.inn, .int .i64 q.hi, .int .i64 q.look, .slice kA q.kids.length kcap, .int .u64 q.met] 35))
      generalize wr.alloc (.cells #[.int .i64 q.sym, .int .i64 q.kind, .int .i64 q.lo, .int .i64 q.inn, .int .i64 q.hi, .int .i64 q.look, .slice kA q.kids.length kcap, .int .u64 q.met] 35) = W6 at *
      clear d0 d1 d2 d3 d4 d5 d6 d7 hM hX
      go_loopw [26] (fun i wr => ∃ (k : Nat) (us : List Int), k ≤ q.kids.length ∧ i = .int .i64 k ∧ Hid (MadeI wr g us) ∧ Hid (ParUpto (nds ps) us j k) ∧ Hid (Ext w wr)) (fun i _ => q.kids.length - (intOf i).toNat)
      case atStart => exact ⟨0, us, Nat.zero_le _, rfl, M6, hU, X6⟩
      case round =>
        obtain ⟨k, us, hk, rfl, hM, hU, hX⟩ := hrel
        by_cases hkl : k < q.kids.length
        · obtain ⟨b2, off2, hkA, hb2, hc2⟩ := (HOQ.out.ext hX.out).kids (by show 0 < q.kids.length; omega)
          change kA = _ at hkA
          subst hkA
          have e1 := hc2 k hkl
          obtain ⟨i, hi1, hi2, hi3⟩ := HT.out.kid_behind HQ.out (q.kids.getD k 0) (by rw [List.getD_eq_getElem?_getD, List.getElem?_eq_getElem hkl]; exact List.getElem_mem hkl)
          dsimp only at e1
          rw [hi1] at e1
          rw [nds_length] at hi3
          have hlen := hU.out.len
          rw [nds_length] at hlen
          obtain ⟨m1, m2, m3⟩ := hM.out.cell (k := i) (by omega)
          have M7 := Lib.hid (hM.out.store i j)
          have X7 := Lib.hid (hX.out.setCell (p := ⟨g, i, none⟩) hg (.int .i64 (j : Int)))
          have U7 := Lib.hid (hU.out.kid HT.out HQ.out (c := i) (K := k) (by rw [← hi1, List.getD_eq_getElem?_getD, List.getElem?_eq_getElem hkl]; rfl))
          clear hc2 hi1 hM hU hX hlen
          go_wp2_with fail
          go_roundw
          case rel => exact ⟨k + 1, _, by omega, by go_num, M7, U7, X7⟩
          case measure => simp [intOf]; omega
        · obtain rfl : k = q.kids.length := by omega
          go_wp2_with fail
          go_roundw
          case rel => exact ⟨j + 1, us, by omega, by go_num, hM, Lib.hid (ParUpto.next HQ.out hU.out), hX⟩
          case measure => simp [intOf]; omega
    · obtain rfl : j = ps.length := by omega
      go_wp2_with fail
      go_ret
      have hlen := hU.out.len
      rw [nds_length] at hlen
      have e : (Value.slice (some ⟨g, 0, none⟩) ps.length ps.length) = .slice (some ⟨g, 0, none⟩) us.length us.length := by rw [hlen]
      exact ⟨us, ParUpto.done (by rw [nds_length]; exact hU.out), some ⟨g, 0, none⟩, us.length, by rw [← e]; rfl, hM.out.own hg (by omega), hX.out⟩
end
end Go.Proofs.Ytaffaeompdlecaa
