/- D1: 2 texts in one. -/
import Derived.Test.YtggmljookcmnkaaB9
import Derived.Laws.EntriesVeiled
import Derived.Shelf.Abstract
import Derived.WalkSpells
import Derived.WalkLawsBesides
import Derived.BigRegion
import Derived.Deep.RegionWith
import Derived.Deep.QuietTactic
import Derived.Deep.DeepCutAuto
import Derived.Deep.RegionHeld3
import Derived.Deep.RegionLaw
import Derived.BigQuiet
import Derived.Lib.Hide
/- The contracts of each, plus, Put's function, moved, Copy. -/
namespace Go.Proofs.Ytggmljookcmnkaa
open Go.RowKit
attribute [local go_sem] more_drew more_drewN more_size more_cell more_frozen more_setCell drew_more drewN_more lt_add_r lt_add_r2 lt_add_r3 lt_add_r4 lt_add_r5 lt_add_r6 lt_add_r7 lt_add_r8 lt_add_r9 lt_add_r10 lt_self_r lt_self_r2

theorem plus_any (n : Int) (w : World) : Calls Try.prog 87 #[.int .i64 n] w fun e w' => e = .returned (.func (.func 125) #[] #[pt w.heap.size]) ∧ w' = w.alloc (.cells #[.int .i64 n] 3) := by
  go_enter Try.func87, Try.ntmps87
  go_wp2_with fail
  go_ret
  exact ⟨rfl, rfl⟩
theorem plus1_any (x n : Int) (b : Nat) (w : World) (hb : w.heap[b]? = some (.cells #[.int .i64 n] 3)) (h : I64 (x + n)) : Calls Try.prog 125 #[.int .i64 x, pt b] w fun e w' => e = .returned (.int .i64 (x + n)) ∧ Ext w w' := by
  have c1 := cell_of_row _ _ 0 _ _ _ hb
  simp at c1
  have l1 := lt_of_heap hb
  have hw : IntKind.i64.wrap (x + n) = x + n := IntWalk.i64_in _ h
  unfold I64 at h
  clear hb
  go_enter Try.func125, Try.ntmps125
  go_wp2_with fail
  go_ret
  exact ⟨rfl, Ext.refl _⟩
set_option maxRecDepth 100000 in
set_option maxHeartbeats 1000000 in
theorem eachInts (F : Nat) (lb : Array Value) (f : Int → Int) (A : Option Addr) (c : Nat) (xs : List Int) (w : World) (hP : Ints w A xs) (hl : xs.length ≤ 1000000) (eg : Enters Try.prog F)
    (hf : ∀ (wr : World) (x : Int), Ext w wr → x ∈ xs → Calls Try.prog F (#[.int .i64 x] ++ lb) wr fun e w' => e = .returned (.int .i64 (f x)) ∧ Ext wr w') :
    Calls Try.prog 124 #[.slice A xs.length c, .func (.func F) #[] lb] w (IntsRet w (xs.map f)) := by
  have HP := Lib.hid hP
  have HF := Lib.hid hf
  unfold Enters at eg
  clear hP hf
  go_enter Try.func124, Try.ntmps124
  go_wp2
  go_loopw [5, 10] (fun v i wr => ∃ j : Nat, j ≤ xs.length ∧ i = .int .i64 j ∧ Hid (RowI wr w.heap.size v ((xs.take j).map f)) ∧ Hid (Ext w wr)) (fun _ i _ => xs.length - (intOf i).toNat)
  case atStart => exact ⟨0, Nat.zero_le _, rfl, Lib.hid ⟨none, 0, rfl, OwnI.nil _ _⟩, Lib.hid (Ext.refl _)⟩
  case round =>
    obtain ⟨j, hj, rfl, hr, hx⟩ := hrel
    by_cases hlt : j < xs.length
    · obtain ⟨b, off, rfl, hb, hcell⟩ := (HP.out.ext hx.out) (by omega)
      have d0 := hcell j hlt
      obtain ⟨x, hxe⟩ : ∃ x, xs.getD j 0 = x := ⟨_, rfl⟩
      have hxm : xs[j] = x := by rw [← hxe, List.getD_eq_getElem?_getD, List.getElem?_eq_getElem hlt]; rfl
      rw [hxe] at d0
      have CF := Lib.hid (HF.out wr x hx.out (hxm ▸ List.getElem_mem hlt))
      have HS : Hid ((xs.take (j + 1)).map f = (xs.take j).map f ++ [f x]) := Lib.hid (by rw [List.take_succ_eq_append_getElem hlt, hxm, List.map_append]; rfl)
      have HL : Hid (((xs.take j).map f).length ≤ 1000000) := Lib.hid (by rw [List.length_map, List.length_take]; omega)
      clear hcell hxe hxm
      go_wp2_with fail
      refine CF.out.mono ?_
      rintro e w2 ⟨rfl, hx2⟩
      have HX2 := Lib.hid (hx.out.trans hx2)
      have HR2 := Lib.hid (hr.out.ext hx2)
      clear hx2 hr hx
      go_wp2_with (at_builtin; refine app_int w (by rfl) (.tmp 14) (.tmp 18) rfl (HR2.out.ext (by repeat (first | exact Ext.refl _ | refine Ext.alloc ?_ _ | refine Ext.more ?_ _ _ | refine Ext.drew ?_ | refine Ext.drewN ?_ _ | refine Ext.setCell ?_ (by simp <;> omega) _))) (f x) w2.heap.size rfl rfl (by simp) (by simp [go_sem]) HL.out (HX2.out.trans (by repeat (first | exact Ext.refl _ | refine Ext.alloc ?_ _ | refine Ext.more ?_ _ _ | refine Ext.drew ?_ | refine Ext.drewN ?_ _ | refine Ext.setCell ?_ (by simp <;> omega) _))) ?_; intro v7 w7 hr7 hg7 hx7)
      have HR7 := Lib.hid hr7
      have HX7 := Lib.hid hx7
      clear hr7 hx7 hg7
      go_roundw
      case rel => exact ⟨j + 1, by omega, by go_num, by rw [HS.out]; exact HR7, HX7⟩
      case measure => simp [intOf]; omega
    · obtain rfl : j = xs.length := by omega
      obtain ⟨A1, c1, rfl, ho⟩ := hr.out
      have HO := Lib.hid ho
      clear ho
      go_wp2_with fail
      go_ret
      rw [List.take_length] at HO
      exact ⟨A1, c1, by show Ending.returned (Value.slice A1 ((xs.take xs.length).map f).length c1) = _; rw [List.take_length], HO.out, hx.out⟩
/-- a part with its kids moved -/
def MovedRet (w : World) (f : Int → Int) (p : Prt) (e : Ending) (w' : World) : Prop := ∃ A c, e = .returned (aggV ⟨p.nd.by f, A, c⟩) ∧ OwnI w' w.heap.size A c (p.nd.by f).kids ∧ Ext w w'
set_option maxRecDepth 100000 in
set_option maxHeartbeats 1000000 in
theorem moved1_any (F : Nat) (lb : Array Value) (f : Int → Int) (p : Prt) (gb : Nat) (w : World) (hp : PrtOk w p) (hl : p.nd.kids.length ≤ 1000000) (eg : Enters Try.prog F) (hgb : w.heap[gb]? = some (.cells #[.func (.func F) #[] lb] 93))
    (hf : ∀ (wr : World) (x : Int), Ext w wr → x ∈ p.nd.kids → Calls Try.prog F (#[.int .i64 x] ++ lb) wr fun e w' => e = .returned (.int .i64 (f x)) ∧ Ext wr w') :
    Calls Try.prog 123 #[aggV p, pt gb] w (MovedRet w f p) := by
  have CE := Lib.hid (fun w1 (x : Ext w w1) => eachInts F lb f p.kA p.kc p.nd.kids w1 (hp.kids.ext x) hl eg (fun wr y h1 h2 => hf wr y (x.trans h1) h2))
  have c1 := cell_of_row _ _ 0 _ _ _ hgb
  simp at c1
  have l1 := lt_of_heap hgb
  have hc1 := hp.cap
  have hc2 := hp.top
  obtain ⟨⟨sym, kind, lo, inn, hi, look, kids, met⟩, kA, kc⟩ := p
  dsimp only at *
  clear hgb hf hp
  go_enter Try.func123, Try.ntmps123
  go_wp2_with fail
  refine (CE.out _ (by repeat (first | exact Ext.refl _ | refine Ext.alloc ?_ _ | refine Ext.more ?_ _ _ | refine Ext.drew ?_ | refine Ext.drewN ?_ _ | refine Ext.setCell ?_ (by simp <;> omega) _))).mono ?_
  rintro e w2 ⟨A2, c2, rfl, ho2, hx2⟩
  have hb0 := ext_block (ext_block (heap_alloc_new w (.cells #[.int .i64 sym, .int .i64 kind, .int .i64 lo, .int .i64 inn, .int .i64 hi, .int .i64 look, .slice kA kids.length kc, .int .u64 met] 33)) ((Ext.refl _).alloc (.cells #[.int .i64 0, .int .i64 0, .int .i64 0, .int .i64 0, .int .i64 0, .int .i64 0, .slice none 0 0, .int .u64 0] 33))) hx2
  have hb1 := ext_block (heap_alloc_new (w.alloc (.cells #[.int .i64 sym, .int .i64 kind, .int .i64 lo, .int .i64 inn, .int .i64 hi, .int .i64 look, .slice kA kids.length kc, .int .u64 met] 33)) (.cells #[.int .i64 0, .int .i64 0, .int .i64 0, .int .i64 0, .int .i64 0, .int .i64 0, .slice none 0 0, .int .u64 0] 33)) hx2
  rw [World.size_alloc] at hb1
  have HX2 : Hid (Ext w w2) := Lib.hid (Ext.trans (by repeat (first | exact Ext.refl _ | refine Ext.alloc ?_ _ | refine Ext.more ?_ _ _ | refine Ext.drew ?_ | refine Ext.drewN ?_ _ | refine Ext.setCell ?_ (by simp <;> omega) _)) hx2)
  have HO2 := Lib.hid ho2
  clear hx2 ho2
  obtain ⟨b, hb⟩ : ∃ b, w.heap.size = b := ⟨_, rfl⟩
  rw [hb] at hb0 hb1 ⊢
  (have x0 := cell_of_row _ _ 0 _ _ _ hb0); (have x1 := cell_of_row _ _ 1 _ _ _ hb0); (have x2 := cell_of_row _ _ 2 _ _ _ hb0); (have x3 := cell_of_row _ _ 3 _ _ _ hb0); (have x4 := cell_of_row _ _ 4 _ _ _ hb0); (have x5 := cell_of_row _ _ 5 _ _ _ hb0); (have x6 := cell_of_row _ _ 6 _ _ _ hb0); (have x7 := cell_of_row _ _ 7 _ _ _ hb0); (simp at x0 x1 x2 x3 x4 x5 x6 x7)
  (have y0 := cell_of_row _ _ 0 _ _ _ hb1); (have y1 := cell_of_row _ _ 1 _ _ _ hb1); (have y2 := cell_of_row _ _ 2 _ _ _ hb1); (have y3 := cell_of_row _ _ 3 _ _ _ hb1); (have y4 := cell_of_row _ _ 4 _ _ _ hb1); (have y5 := cell_of_row _ _ 5 _ _ _ hb1); (have y6 := cell_of_row _ _ 6 _ _ _ hb1); (have y7 := cell_of_row _ _ 7 _ _ _ hb1); (simp at y0 y1 y2 y3 y4 y5 y6 y7)
  have lb0 := lt_of_heap hb0
  have lb1 := lt_of_heap hb1
  have f0 : ∀ i, w2.frozen? ⟨b, i, none⟩ = false := fun i => by simp [World.frozen?, hb0]
  have f1 : ∀ i, w2.frozen? ⟨b + 1, i, none⟩ = false := fun i => by simp [World.frozen?, hb1]
  have g6 := f0 6
  (have z0 := f1 0); (have z1 := f1 1); (have z2 := f1 2); (have z3 := f1 3); (have z4 := f1 4); (have z5 := f1 5); (have z6 := f1 6); (have z7 := f1 7)
  have HB := Lib.hid hb
  clear hb0 hb1 f0 f1 hb
  go_wp2_with fail
  have T : Turn (fun k => b ≤ k ∧ k ≤ b + 1) w2 (((((((((w2.setCell ⟨b, 6, none⟩ (.slice A2 kids.length c2)).setCell ⟨b + 1, 0, none⟩ (.int .i64 sym)).setCell ⟨b + 1, 1, none⟩ (.int .i64 kind)).setCell ⟨b + 1, 2, none⟩ (.int .i64 lo)).setCell ⟨b + 1, 3, none⟩ (.int .i64 inn)).setCell ⟨b + 1, 4, none⟩ (.int .i64 hi)).setCell ⟨b + 1, 5, none⟩ (.int .i64 look)).setCell ⟨b + 1, 6, none⟩ (.slice A2 kids.length c2)).setCell ⟨b + 1, 7, none⟩ (.int .u64 met)) := by
    have s0 : b ≤ b ∧ b ≤ b + 1 := ⟨Nat.le_refl _, Nat.le_succ _⟩
    have s1 : b ≤ b + 1 ∧ b + 1 ≤ b + 1 := ⟨Nat.le_succ _, Nat.le_refl _⟩
    exact Turn.set (Turn.set (Turn.set (Turn.set (Turn.set (Turn.set (Turn.set (Turn.set (Turn.set (Turn.refl w2) s0) s1) s1) s1) s1) s1) s1) s1) s1
  refine bodyPost_ret (v := .agg #[.int .i64 sym, .int .i64 kind, .int .i64 lo, .int .i64 inn, .int .i64 hi, .int .i64 look, .slice A2 kids.length c2, .int .u64 met]) (by simp [results, Try.results123, go_sem, *]) rfl ⟨A2, c2, ?_, ?_, ?_⟩
  · simp [Nd.by]
  · have hsz := HB.out
    have h1 : OwnI w2 (b + 1 + 1) A2 c2 (kids.map f) := by
      have := HO2.out
      rw [World.size_alloc, World.size_alloc, hsz] at this
      exact this
    exact (h1.turn T (by rintro k hk ⟨_, h2⟩; omega)).base (by omega)
  · have hsz := HB.out
    exact Ext.of_below (HX2.out.below.trans (T.below HX2.out.size fun k hk => by omega))
end Go.Proofs.Ytggmljookcmnkaa

/- The contracts of moved, Copy. -/
namespace Go.Proofs.Ytggmljookcmnkaa
open Go.RowKit
attribute [local go_sem] more_drew more_drewN more_size more_cell more_frozen more_setCell drew_more drewN_more lt_add_r lt_add_r2 lt_add_r3 lt_add_r4 lt_add_r5 lt_add_r6 lt_add_r7 lt_add_r8 lt_add_r9 lt_add_r10 lt_self_r lt_self_r2

theorem Few.kids_le {ps : List Prt} (h : Few ps) {p : Prt} (hp : p ∈ ps) : p.nd.kids.length ≤ 1000000 := by
  obtain ⟨j, hj, rfl⟩ := List.getElem_of_mem hp
  have := h.kids (j + 1)
  rw [kc_add _ (Nat.zero_le j) (show j ≤ j + 1 by omega), kc_one (nds_get (List.getElem?_eq_getElem hj))] at this
  omega
theorem kc_same : ∀ {l l' : List Nd}, l.map (fun p => p.kids.length) = l'.map (fun p => p.kids.length) → ∀ n m, kc l n m = kc l' n m := by
  intro l l' h n m
  unfold kc
  rw [List.map_drop, List.map_take, h, ← List.map_take, ← List.map_drop]
theorem Few.of_lens {ps qs : List Prt} (h : Few ps) (he : (nds qs).map (fun p => p.kids.length) = (nds ps).map (fun p => p.kids.length)) : Few qs := by
  refine ⟨?_, fun j => by rw [kc_same he]; exact h.kids j⟩
  have := congrArg List.length he
  rw [List.length_map, List.length_map, nds_length, nds_length] at this
  rw [this]
  exact h.len
theorem by_lens (f : Int → Int) (l : List Nd) : (l.map (Nd.by f)).map (fun p => p.kids.length) = l.map (fun p => p.kids.length) := by
  rw [List.map_map]
  refine List.map_congr_left fun p _ => ?_
  simp
set_option maxRecDepth 100000 in
set_option maxHeartbeats 2000000 in
theorem eachParts (f : Int → Int) (gb : Nat) (A : Option Addr) (c : Nat) (ps : List Prt) (w : World) (hP : Prts w A ps) (hO : PrtsOk w ps) (hl : ps.length ≤ 1000000) (hfi : ∀ p ∈ ps, ∀ x ∈ p.nd.kids, I64 (f x))
    (hf : ∀ (wr : World) (p : Prt), Ext w wr → p ∈ ps → Calls Try.prog 123 #[aggV p, pt gb] wr (MovedRet wr f p)) :
    Calls Try.prog 122 #[.slice A ps.length c, .func (.func 123) #[] #[pt gb]] w (PartsRet w ((nds ps).map (Nd.by f))) := by
  have HP := Lib.hid hP
  have HO := Lib.hid hO
  have HF := Lib.hid hf
  have HFI := Lib.hid hfi
  clear hP hf hO hfi
  go_enter Try.func122, Try.ntmps122
  go_wp2
  go_loopw [5, 10] (fun v i wr => ∃ (j : Nat) (qs : List Prt), j ≤ ps.length ∧ i = .int .i64 j ∧ Hid (qs.length = j ∧ nds qs = ((nds ps).take j).map (Nd.by f)) ∧ Hid (RowP wr w.heap.size v qs) ∧ Hid (Ext w wr)) (fun _ i _ => ps.length - (intOf i).toNat)
  case atStart => exact ⟨0, [], Nat.zero_le _, rfl, Lib.hid ⟨rfl, rfl⟩, Lib.hid ⟨none, 0, rfl, OwnP.nil _ _⟩, Lib.hid (Ext.refl _)⟩
  case round =>
    obtain ⟨j, qs, hj, rfl, hq, hr, hx⟩ := hrel
    by_cases hlt : j < ps.length
    · obtain ⟨p, hp⟩ : ∃ p, ps[j]? = some p := ⟨_, List.getElem?_eq_getElem hlt⟩
      obtain ⟨b, off, rfl, hb, hcell⟩ := (HP.out.ext hx.out) (by omega)
      obtain ⟨d0, d1, d2, d3, d4, d5, d6, d7⟩ := hcell j _ hp
      have hpo := HO.out.get hp
      have o1 := hpo.cap
      have o2 := hpo.top
      have HS : Hid (((nds ps).take (j + 1)).map (Nd.by f) = ((nds ps).take j).map (Nd.by f) ++ [p.nd.by f]) := Lib.hid (by
        have h1 := nds_get hp
        rw [List.getElem?_eq_getElem (by rw [nds_length]; exact hlt)] at h1
        injection h1 with h1
        rw [List.take_succ_eq_append_getElem (by rw [nds_length]; exact hlt), h1, List.map_append]
        rfl)
      have CF := Lib.hid (fun w1 (x : Ext w w1) => HF.out w1 p x (List.mem_of_getElem? hp))
      have HPO := Lib.hid hpo
      have HFK := Lib.hid (HFI.out p (List.mem_of_getElem? hp))
      clear hcell hp hpo
      go_wp2_with fail
      refine (CF.out _ (hx.out.trans (by repeat (first | exact Ext.refl _ | refine Ext.alloc ?_ _ | refine Ext.more ?_ _ _ | refine Ext.drew ?_ | refine Ext.drewN ?_ _ | refine Ext.setCell ?_ (by simp <;> omega) _)))).mono ?_
      rintro e w2 ⟨A2, c2, rfl, ho2, hx2⟩
      have HX2 := Lib.hid ((hx.out.trans (by repeat (first | exact Ext.refl _ | refine Ext.alloc ?_ _ | refine Ext.more ?_ _ _ | refine Ext.drew ?_ | refine Ext.drewN ?_ _ | refine Ext.setCell ?_ (by simp <;> omega) _))).trans hx2)
      have HR2 := Lib.hid ((hr.out.ext (by repeat (first | exact Ext.refl _ | refine Ext.alloc ?_ _ | refine Ext.more ?_ _ _ | refine Ext.drew ?_ | refine Ext.drewN ?_ _ | refine Ext.setCell ?_ (by simp <;> omega) _))).ext hx2)
      have HO2 : Hid (OwnI w2 w.heap.size A2 c2 (p.nd.by f).kids) := Lib.hid (ho2.base (by have := hx.out.size; simp; omega))
      have HL : Hid (qs.length ≤ 1000000) := Lib.hid (by have := hq.out.1; omega)
      have HFN : Hid (FineP ⟨p.nd.by f, A2, c2⟩) := by
        have hf := HPO.out.fine
        exact ⟨hf.sym, hf.kind, hf.lo, hf.inn, hf.hi, hf.look, hf.met, fun k hk => by
          obtain ⟨x, hx, rfl⟩ := List.mem_map.1 hk
          exact HFK.out x hx⟩
      clear hx2 hr hx ho2 d0 d1 d2 d3 d4 d5 d6 d7
      go_wp2_with (at_builtin; refine app_part w (by rfl) (.tmp 14) (.tmp 18) rfl (HR2.out.ext (by repeat (first | exact Ext.refl _ | refine Ext.alloc ?_ _ | refine Ext.more ?_ _ _ | refine Ext.drew ?_ | refine Ext.drewN ?_ _ | refine Ext.setCell ?_ (by simp <;> omega) _))) ⟨p.nd.by f, A2, c2⟩ w2.heap.size rfl rfl (cells_lit _ _ _ _ _ rfl (by simp [prtCells, Nd.by])) (HO2.out.ext (by repeat (first | exact Ext.refl _ | refine Ext.alloc ?_ _ | refine Ext.more ?_ _ _ | refine Ext.drew ?_ | refine Ext.drewN ?_ _ | refine Ext.setCell ?_ (by simp <;> omega) _))) HFN.out HL.out (HX2.out.trans (by repeat (first | exact Ext.refl _ | refine Ext.alloc ?_ _ | refine Ext.more ?_ _ _ | refine Ext.drew ?_ | refine Ext.drewN ?_ _ | refine Ext.setCell ?_ (by simp <;> omega) _))) ?_; intro v7 w7 hr7 hx7)
      have HR7 := Lib.hid hr7
      have HX7 := Lib.hid hx7
      clear hr7 hx7
      go_roundw
      case rel => exact ⟨j + 1, _, by omega, by go_num, Lib.hid ⟨by rw [List.length_append, hq.out.1]; rfl, by rw [HS.out, ← hq.out.2]; simp [nds]⟩, HR7, HX7⟩
      case measure => simp [intOf]; omega
    · obtain rfl : j = ps.length := by omega
      obtain ⟨A1, c1, rfl, ho⟩ := hr.out
      have HO1 := Lib.hid ho
      clear ho
      go_wp2_with fail
      go_ret
      refine ⟨A1, c1, qs, rfl, ?_, HO1.out, hx.out⟩
      rw [hq.out.2, List.take_of_length_le (by rw [nds_length]; omega)]
set_option maxRecDepth 100000 in
set_option maxHeartbeats 1000000 in
theorem moved_any (F : Nat) (lb : Array Value) (f : Int → Int) (A : Option Addr) (c : Nat) (ps : List Prt) (w : World) (hP : Prts w A ps) (hO : PrtsOk w ps) (hw : Few ps) (hfi : ∀ p ∈ ps, ∀ x ∈ p.nd.kids, I64 (f x)) (eg : Enters Try.prog F)
    (hf : ∀ (wr : World) (x : Int), Ext w wr → (∃ p ∈ ps, x ∈ p.nd.kids) → Calls Try.prog F (#[.int .i64 x] ++ lb) wr fun e w' => e = .returned (.int .i64 (f x)) ∧ Ext wr w') :
    Calls Try.prog 86 #[.slice A ps.length c, .func (.func F) #[] lb] w (PartsRet w ((nds ps).map (Nd.by f))) := by
  have CE := Lib.hid (eachParts f w.heap.size A c ps (w.alloc (.cells #[.func (.func F) #[] lb] 93)) (hP.ext (by repeat (first | exact Ext.refl _ | refine Ext.alloc ?_ _ | refine Ext.more ?_ _ _ | refine Ext.drew ?_ | refine Ext.drewN ?_ _ | refine Ext.setCell ?_ (by simp <;> omega) _))) (hO.ext (by repeat (first | exact Ext.refl _ | refine Ext.alloc ?_ _ | refine Ext.more ?_ _ _ | refine Ext.drew ?_ | refine Ext.drewN ?_ _ | refine Ext.setCell ?_ (by simp <;> omega) _))) (by have := hw.len; omega) hfi
    (fun wr p h1 h2 => moved1_any F lb f p w.heap.size wr ((hO p h2).ext (Ext.trans (by repeat (first | exact Ext.refl _ | refine Ext.alloc ?_ _ | refine Ext.more ?_ _ _ | refine Ext.drew ?_ | refine Ext.drewN ?_ _ | refine Ext.setCell ?_ (by simp <;> omega) _)) h1)) (hw.kids_le h2) eg (ext_block (heap_alloc_new w _) h1) (fun w1 x h3 h4 => hf w1 x (Ext.trans (by repeat (first | exact Ext.refl _ | refine Ext.alloc ?_ _ | refine Ext.more ?_ _ _ | refine Ext.drew ?_ | refine Ext.drewN ?_ _ | refine Ext.setCell ?_ (by simp <;> omega) _)) (h1.trans h3)) ⟨p, h2, h4⟩)))
  have hl := hw.len
  clear hP hO hw hfi eg hf
  go_enter Try.func86, Try.ntmps86
  go_wp2_with fail
  refine CE.out.mono ?_
  rintro e w2 ⟨A2, c2, qs, rfl, hn, ho, hx⟩
  have HN := Lib.hid hn
  have HO := Lib.hid ho
  have HX := Lib.hid hx
  clear hn ho hx
  go_wp2_with fail
  go_ret
  exact ⟨A2, c2, qs, rfl, HN.out, HO.out.base (by simp), Ext.trans (by repeat (first | exact Ext.refl _ | refine Ext.alloc ?_ _ | refine Ext.more ?_ _ _ | refine Ext.drew ?_ | refine Ext.drewN ?_ _ | refine Ext.setCell ?_ (by simp <;> omega) _)) HX.out⟩
set_option maxRecDepth 100000 in
set_option maxHeartbeats 1000000 in
theorem copy_any (A : Option Addr) (c : Nat) (ps : List Prt) (w : World) (hP : Prts w A ps) (hO : PrtsOk w ps) (hw : Few ps) : Calls Try.prog 37 #[.slice A ps.length c] w (PartsRet w (nds ps)) := by
  have CM := Lib.hid (moved_any 125 #[pt w.heap.size] (fun x => x + 0) A c ps (w.alloc (.cells #[.int .i64 0] 3)) (hP.ext (by repeat (first | exact Ext.refl _ | refine Ext.alloc ?_ _ | refine Ext.more ?_ _ _ | refine Ext.drew ?_ | refine Ext.drewN ?_ _ | refine Ext.setCell ?_ (by simp <;> omega) _))) (hO.ext (by repeat (first | exact Ext.refl _ | refine Ext.alloc ?_ _ | refine Ext.more ?_ _ _ | refine Ext.drew ?_ | refine Ext.drewN ?_ _ | refine Ext.setCell ?_ (by simp <;> omega) _))) hw (fun p hp x hx => by rw [Int.add_zero]; exact (hO p hp).ks x hx)
    (enters_of Try.func125 (by kernel_rfl) rfl) (fun wr x h1 ⟨p, hp, hx⟩ => plus1_any x 0 w.heap.size wr (ext_block (heap_alloc_new w _) h1) (by rw [Int.add_zero]; exact (hO p hp).ks x hx)))
  have HID : Hid ((nds ps).map (Nd.by fun x => x + 0) = nds ps) := Lib.hid (by
    exact (List.map_congr_left (g := id) fun p _ => Nd.by_id fun k _ => Int.add_zero k).trans (List.map_id _))
  clear hP hO hw
  go_enter Try.func37, Try.ntmps37
  go_wp2_with fail
  refine (plus_any 0 w).mono ?_
  rintro e w1 ⟨rfl, rfl⟩
  go_wp2_with fail
  refine CM.out.mono ?_
  rintro e w2 ⟨A2, c2, qs, rfl, hn, ho, hx⟩
  rw [HID.out] at hn
  have HN := Lib.hid hn
  have HO := Lib.hid ho
  have HX := Lib.hid hx
  clear hn ho hx
  go_wp2_with fail
  go_ret
  exact ⟨A2, c2, qs, rfl, HN.out, HO.out.base (by simp), Ext.trans (by repeat (first | exact Ext.refl _ | refine Ext.alloc ?_ _ | refine Ext.more ?_ _ _ | refine Ext.drew ?_ | refine Ext.drewN ?_ _ | refine Ext.setCell ?_ (by simp <;> omega) _)) HX.out⟩
end Go.Proofs.Ytggmljookcmnkaa
