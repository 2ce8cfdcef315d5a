/- The contracts of moved, Copy. -/
import Derived.Test.YtaffaeompdlecaaD1
namespace Go.Proofs.Ytaffaeompdlecaa
open Go.RowKit
attribute [local go_sem] more_drew more_drewN more_size more_cell more_frozen more_setCell drew_more drewN_more lt_add_r lt_add_r2 lt_add_r3 lt_add_r4 lt_add_r5 lt_add_r6 lt_add_r7 lt_add_r8 lt_add_r9 lt_add_r10 lt_self_r lt_self_r2

theorem Few.kids_le {ps : List Prt} (h : Few ps) {p : Prt} (hp : p ∈ ps) : p.nd.kids.length ≤ 1000000 := by
  obtain ⟨j, hj, rfl⟩ := List.getElem_of_mem hp
  have := h.kids (j + 1)
  rw [kc_add _ (Nat.zero_le j) (show j ≤ j + 1 by omega), kc_one (nds_get (List.getElem?_eq_getElem hj))] at this
  omega
theorem kc_same : ∀ {l l' : List Nd}, l.map (fun p => p.kids.length) = l'.map (fun p => p.kids.length) → ∀ n m, kc l n m = kc l' n m := by
  intro l l' h n m
  unfold kc
  rw [List.map_drop, List.map_take, h, ← List.map_take, ← List.map_drop]
theorem Few.of_lens {ps qs : List Prt} (h : Few ps) (he : (nds qs).map (fun p => p.kids.length) = (nds ps).map (fun p => p.kids.length)) : Few qs := by
  refine ⟨?_, fun j => by rw [kc_same he]; exact h.kids j⟩
  have := congrArg List.length he
  rw [List.length_map, List.length_map, nds_length, nds_length] at this
  rw [this]
  exact h.len
theorem by_lens (f : Int → Int) (l : List Nd) : (l.map (Nd.by f)).map (fun p => p.kids.length) = l.map (fun p => p.kids.length) := by
  rw [List.map_map]
  refine List.map_congr_left fun p _ => ?_
  simp
set_option maxRecDepth 100000 in
set_option maxHeartbeats 2000000 in
theorem eachParts (f : Int → Int) (gb : Nat) (A : Option Addr) (c : Nat) (ps : List Prt) (w : World) (hP : Prts w A ps) (hO : PrtsOk w ps) (hl : ps.length ≤ 1000000) (hfi : ∀ p ∈ ps, ∀ x ∈ p.nd.kids, I64 (f x))
    (hf : ∀ (wr : World) (p : Prt), Ext w wr → p ∈ ps → Calls Try.prog 147 #[aggV p, pt gb] wr (MovedRet wr f p)) :
    Calls Try.prog 146 #[.slice A ps.length c, .func (.func 147) #[] #[pt gb]] w (PartsRet w ((nds ps).map (Nd.by f))) := by
  have HP := Lib.hid hP
  have HO := Lib.hid hO
  have HF := Lib.hid hf
  have HFI := Lib.hid hfi
  clear hP hf hO hfi
  go_enter Try.func146, Try.ntmps146
  go_wp2
  go_loopw [5, 10] (fun v i wr => ∃ (j : Nat) (qs : List Prt), j ≤ ps.length ∧ i = .int .i64 j ∧ Hid (qs.length = j ∧ nds qs = ((nds ps).take j).map (Nd.by f)) ∧ Hid (RowP wr w.heap.size v qs) ∧ Hid (Ext w wr)) (fun _ i _ => ps.length - (intOf i).toNat)
  case atStart => exact ⟨0, [], Nat.zero_le _, rfl, Lib.hid ⟨rfl, rfl⟩, Lib.hid ⟨none, 0, rfl, OwnP.nil _ _⟩, Lib.hid (Ext.refl _)⟩
  case round =>
    obtain ⟨j, qs, hj, rfl, hq, hr, hx⟩ := hrel
    by_cases hlt : j < ps.length
    · obtain ⟨p, hp⟩ : ∃ p, ps[j]? = some p := ⟨_, List.getElem?_eq_getElem hlt⟩
      obtain ⟨b, off, rfl, hb, hcell⟩ := (HP.out.ext hx.out) (by omega)
      obtain ⟨d0, d1, d2, d3, d4, d5, d6, d7⟩ := hcell j _ hp
      have hpo := HO.out.get hp
      have o1 := hpo.cap
      have o2 := hpo.top
      have HS : Hid (((nds ps).take (j + 1)).map (Nd.by f) = ((nds ps).take j).map (Nd.by f) ++ [p.nd.by f]) := Lib.hid (by
        have h1 := nds_get hp
        rw [List.getElem?_eq_getElem (by rw [nds_length]; exact hlt)] at h1
        injection h1 with h1
        rw [List.take_succ_eq_append_getElem (by rw [nds_length]; exact hlt), h1, List.map_append]
        rfl)
      have CF := Lib.hid (fun w1 (x : Ext w w1) => HF.out w1 p x (List.mem_of_getElem? hp))
      have HPO := Lib.hid hpo
      have HFK := Lib.hid (HFI.out p (List.mem_of_getElem? hp))
      clear hcell hp hpo
      go_wp2_with fail
      refine (CF.out _ (hx.out.trans (by repeat (first | exact Ext.refl _ | refine Ext.alloc ?_ _ | refine Ext.more ?_ _ _ | refine Ext.drew ?_ | refine Ext.drewN ?_ _ | refine Ext.setCell ?_ (by simp <;> omega) _)))).mono ?_
      rintro e w2 ⟨A2, c2, rfl, ho2, hx2⟩
      have HX2 := Lib.hid ((hx.out.trans (by repeat (first | exact Ext.refl _ | refine Ext.alloc ?_ _ | refine Ext.more ?_ _ _ | refine Ext.drew ?_ | refine Ext.drewN ?_ _ | refine Ext.setCell ?_ (by simp <;> omega) _))).trans hx2)
      have HR2 := Lib.hid ((hr.out.ext (by repeat (first | exact Ext.refl _ | refine Ext.alloc ?_ _ | refine Ext.more ?_ _ _ | refine Ext.drew ?_ | refine Ext.drewN ?_ _ | refine Ext.setCell ?_ (by simp <;> omega) _))).ext hx2)
      have HO2 : Hid (OwnI w2 w.heap.size A2 c2 (p.nd.by f).kids) := Lib.hid (ho2.base (by have := hx.out.size; simp; omega))
      have HL : Hid (qs.length ≤ 1000000) := Lib.hid (by have := hq.out.1; omega)
      have HFN : Hid (FineP ⟨p.nd.by f, A2, c2⟩) := by
        have hf := HPO.out.fine
        exact ⟨hf.sym, hf.kind, hf.lo, hf.inn, hf.hi, hf.look, hf.met, fun k hk => by
          obtain ⟨x, hx, rfl⟩ := List.mem_map.1 hk
          exact HFK.out x hx⟩
      clear hx2 hr hx ho2 d0 d1 d2 d3 d4 d5 d6 d7
      go_wp2_with (at_builtin; refine app_part w (by rfl) (.tmp 14) (.tmp 18) rfl (HR2.out.ext (by repeat (first | exact Ext.refl _ | refine Ext.alloc ?_ _ | refine Ext.more ?_ _ _ | refine Ext.drew ?_ | refine Ext.drewN ?_ _ | refine Ext.setCell ?_ (by simp <;> omega) _))) ⟨p.nd.by f, A2, c2⟩ w2.heap.size rfl rfl (cells_lit _ _ _ _ _ rfl (by simp [prtCells, Nd.by])) (HO2.out.ext (by repeat (first | exact Ext.refl _ | refine Ext.alloc ?_ _ | refine Ext.more ?_ _ _ | refine Ext.drew ?_ | refine Ext.drewN ?_ _ | refine Ext.setCell ?_ (by simp <;> omega) _))) HFN.out HL.out (HX2.out.trans (by repeat (first | exact Ext.refl _ | refine Ext.alloc ?_ _ | refine Ext.more ?_ _ _ | refine Ext.drew ?_ | refine Ext.drewN ?_ _ | refine Ext.setCell ?_ (by simp <;> omega) _))) ?_; intro v7 w7 hr7 hx7)
      have HR7 := Lib.hid hr7
      have HX7 := Lib.hid hx7
      clear hr7 hx7
      go_roundw
      case rel => exact ⟨j + 1, _, by omega, by go_num, Lib.hid ⟨by rw [List.length_append, hq.out.1]; rfl, by rw [HS.out, ← hq.out.2]; simp [nds]⟩, HR7, HX7⟩
      case measure => simp [intOf]; omega
    · obtain rfl : j = ps.length := by omega
      obtain ⟨A1, c1, rfl, ho⟩ := hr.out
      have HO1 := Lib.hid ho
      clear ho
      go_wp2_with fail
      go_ret
      refine ⟨A1, c1, qs, rfl, ?_, HO1.out, hx.out⟩
      rw [hq.out.2, List.take_of_length_le (by rw [nds_length]; omega)]
set_option maxRecDepth 100000 in
set_option maxHeartbeats 1000000 in
theorem moved_any (F : Nat) (lb : Array Value) (f : Int → Int) (A : Option Addr) (c : Nat) (ps : List Prt) (w : World) (hP : Prts w A ps) (hO : PrtsOk w ps) (hw : Few ps) (hfi : ∀ p ∈ ps, ∀ x ∈ p.nd.kids, I64 (f x)) (eg : Enters Try.prog F)
    (hf : ∀ (wr : World) (x : Int), Ext w wr → (∃ p ∈ ps, x ∈ p.nd.kids) → Calls Try.prog F (#[.int .i64 x] ++ lb) wr fun e w' => e = .returned (.int .i64 (f x)) ∧ Ext wr w') :
    Calls Try.prog 99 #[.slice A ps.length c, .func (.func F) #[] lb] w (PartsRet w ((nds ps).map (Nd.by f))) := by
  have CE := Lib.hid (eachParts f w.heap.size A c ps (w.alloc (.cells #[.func (.func F) #[] lb] 96)) (hP.ext (by repeat (first | exact Ext.refl _ | refine Ext.alloc ?_ _ | refine Ext.more ?_ _ _ | refine Ext.drew ?_ | refine Ext.drewN ?_ _ | refine Ext.setCell ?_ (by simp <;> omega) _))) (hO.ext (by repeat (first | exact Ext.refl _ | refine Ext.alloc ?_ _ | refine Ext.more ?_ _ _ | refine Ext.drew ?_ | refine Ext.drewN ?_ _ | refine Ext.setCell ?_ (by simp <;> omega) _))) (by have := hw.len; omega) hfi
    (fun wr p h1 h2 => moved1_any F lb f p w.heap.size wr ((hO p h2).ext (Ext.trans (by repeat (first | exact Ext.refl _ | refine Ext.alloc ?_ _ | refine Ext.more ?_ _ _ | refine Ext.drew ?_ | refine Ext.drewN ?_ _ | refine Ext.setCell ?_ (by simp <;> omega) _)) h1)) (hw.kids_le h2) eg (ext_block (heap_alloc_new w _) h1) (fun w1 x h3 h4 => hf w1 x (Ext.trans (by repeat (first | exact Ext.refl _ | refine Ext.alloc ?_ _ | refine Ext.more ?_ _ _ | refine Ext.drew ?_ | refine Ext.drewN ?_ _ | refine Ext.setCell ?_ (by simp <;> omega) _)) (h1.trans h3)) ⟨p, h2, h4⟩)))
  have hl := hw.len
  clear hP hO hw hfi eg hf
  go_enter Try.func99, Try.ntmps99
  go_wp2_with fail
  refine CE.out.mono ?_
  rintro e w2 ⟨A2, c2, qs, rfl, hn, ho, hx⟩
  have HN := Lib.hid hn
  have HO := Lib.hid ho
  have HX := Lib.hid hx
  clear hn ho hx
  go_wp2_with fail
  go_ret
  exact ⟨A2, c2, qs, rfl, HN.out, HO.out.base (by simp), Ext.trans (by repeat (first | exact Ext.refl _ | refine Ext.alloc ?_ _ | refine Ext.more ?_ _ _ | refine Ext.drew ?_ | refine Ext.drewN ?_ _ | refine Ext.setCell ?_ (by simp <;> omega) _)) HX.out⟩
set_option maxRecDepth 100000 in
set_option maxHeartbeats 1000000 in
theorem copy_any (A : Option Addr) (c : Nat) (ps : List Prt) (w : World) (hP : Prts w A ps) (hO : PrtsOk w ps) (hw : Few ps) : Calls Try.prog 40 #[.slice A ps.length c] w (PartsRet w (nds ps)) := by
  have CM := Lib.hid (moved_any 149 #[pt w.heap.size] (fun x => x + 0) A c ps (w.alloc (.cells #[.int .i64 0] 3)) (hP.ext (by repeat (first | exact Ext.refl _ | refine Ext.alloc ?_ _ | refine Ext.more ?_ _ _ | refine Ext.drew ?_ | refine Ext.drewN ?_ _ | refine Ext.setCell ?_ (by simp <;> omega) _))) (hO.ext (by repeat (first | exact Ext.refl _ | refine Ext.alloc ?_ _ | refine Ext.more ?_ _ _ | refine Ext.drew ?_ | refine Ext.drewN ?_ _ | refine Ext.setCell ?_ (by simp <;> omega) _))) hw (fun p hp x hx => by rw [Int.add_zero]; exact (hO p hp).ks x hx)
    (enters_of Try.func149 (by kernel_rfl) rfl) (fun wr x h1 ⟨p, hp, hx⟩ => plus1_any x 0 w.heap.size wr (ext_block (heap_alloc_new w _) h1) (by rw [Int.add_zero]; exact (hO p hp).ks x hx)))
  have HID : Hid ((nds ps).map (Nd.by fun x => x + 0) = nds ps) := Lib.hid (by
    exact (List.map_congr_left (g := id) fun p _ => Nd.by_id fun k _ => Int.add_zero k).trans (List.map_id _))
  clear hP hO hw
  go_enter Try.func40, Try.ntmps40
  go_wp2_with fail
  refine (plus_any 0 w).mono ?_
  rintro e w1 ⟨rfl, rfl⟩
  go_wp2_with fail
  refine CM.out.mono ?_
  rintro e w2 ⟨A2, c2, qs, rfl, hn, ho, hx⟩
  rw [HID.out] at hn
  have HN := Lib.hid hn
  have HO := Lib.hid ho
  have HX := Lib.hid hx
  clear hn ho hx
  go_wp2_with fail
  go_ret
  exact ⟨A2, c2, qs, rfl, HN.out, HO.out.base (by simp), Ext.trans (by repeat (first | exact Ext.refl _ | refine Ext.alloc ?_ _ | refine Ext.more ?_ _ _ | refine Ext.drew ?_ | refine Ext.drewN ?_ _ | refine Ext.setCell ?_ (by simp <;> omega) _)) HX.out⟩
end Go.Proofs.Ytaffaeompdlecaa
