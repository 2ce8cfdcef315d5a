/- R5: 3 texts in one. -/
import Derived.Test.YtggmljookcmnkaaR2
import Derived.Test.YtggmljookcmnkaaTx
import Derived.Test.YtggmljookcmnkaaH3
import Derived.Test.YtggmljookcmnkaaG1
import Derived.Test.YtggmljookcmnkaaD3
import Derived.Test.YtggmljookcmnkaaB1
import Derived.Test.YtggmljookcmnkaaE1
import Derived.WalkSpells
import Derived.WalkLawsBesides
import Derived.BigRegion
import Derived.Deep.RegionWith
import Derived.Deep.QuietTactic
import Derived.Deep.DeepCutAuto
import Derived.Deep.RegionHeld3
import Derived.Deep.RegionLaw
import Derived.BigQuiet
import Derived.Lib.Hide
/- The contract of the document's moved (viewportref16). -/
namespace Go.Proofs.Ytggmljookcmnkaa
open Go.RowKit
attribute [local go_sem] more_drew more_drewN more_size more_cell more_frozen more_setCell drew_more drewN_more lt_add_r lt_add_r2 lt_add_r3 lt_add_r4 lt_add_r5 lt_add_r6 lt_add_r7 lt_add_r8 lt_add_r9 lt_add_r10 lt_self_r lt_self_r2

/-- where a part's kids are copied -/
structure MvV (w : World) (m : Nat) (v : Value) (qs : List Prt) (p : Prt) (d : Int) (k : Nat) (A : Option Addr) (c : Nat) (W : World) : Prop where
  low : Low m W (fun U => RowP U w.heap.size v qs ∧ Below w.heap.size w U)
  part : W.heap[m]? = some (.cells (prtCells ⟨{ p.nd with kids := (p.nd.kids.take k).map (· + d) }, A, c⟩).toArray 33)
  own : OwnI W m A c ((p.nd.kids.take k).map (· + d))
theorem MvV.ext {w : World} {m : Nat} {v : Value} {qs : List Prt} {p : Prt} {d : Int} {k : Nat} {A : Option Addr} {c : Nat} {W W' : World} (h : MvV w m v qs p d k A c W) (e : Ext W W') : MvV w m v qs p d k A c W' :=
  ⟨h.low.below (e.below.mono h.low.size), ext_block h.part e, h.own.ext e⟩
theorem RowP.below {w w' : World} {base : Nat} {v : Value} {qs : List Prt} (h : RowP w base v qs) (e : Below w.heap.size w w') : RowP w' base v qs := by
  obtain ⟨A, c, hv, ho⟩ := h
  exact ⟨A, c, hv, own_keep ho.row fun g hg => e.block g (own_old ho.row g hg), fun q hq => (ho.kids q hq).below e, ho.fine⟩
theorem MvV.rowP {w : World} {m : Nat} {v : Value} {qs : List Prt} {p : Prt} {d : Int} {k : Nat} {A : Option Addr} {c : Nat} {W : World} (h : MvV w m v qs p d k A c W) : RowP W w.heap.size v qs :=
  Low.up (Φ := fun U => RowP U w.heap.size v qs) (h.low.imp fun _ h => h.1) fun _ h e => h.below e
theorem MvV.below {w : World} {m : Nat} {v : Value} {qs : List Prt} {p : Prt} {d : Int} {k : Nat} {A : Option Addr} {c : Nat} {W : World} (h : MvV w m v qs p d k A c W) : Below w.heap.size w W :=
  Low.up (Φ := Below w.heap.size w) (h.low.imp fun _ h => h.2) fun _ h e => h.trans (e.mono h.size)
set_option maxRecDepth 100000 in
set_option maxHeartbeats 2000000 in
theorem rmoved_any (d : Int) (A : Option Addr) (c : Nat) (ps : List Prt) (w : World) (hP : Prts w A ps) (hO : PrtsOk w ps) (hf : Few ps) (_ : ps.length ≤ c) (hfi : ∀ p ∈ ps, ∀ x ∈ p.nd.kids, I64 (x + d)) :
    Calls Try.prog 108 #[.slice A ps.length c, .int .i64 d] w (PartsRet w ((nds ps).map (Nd.by (· + d)))) := by
  have hl := hf.len
  have HP := Lib.hid hP
  have HO := Lib.hid hO
  have HFI := Lib.hid hfi
  have HFW := Lib.hid hf
  clear hP hO hfi hf
  go_enter Try.func108, Try.ntmps108
  go_wp2_with fail
  go_loopw [5, 6] (fun v i wr => ∃ (j : Nat) (qs : List Prt), j ≤ ps.length ∧ i = .int .i64 j ∧ Hid (qs.length = j ∧ nds qs = ((nds ps).take j).map (Nd.by (· + d))) ∧ Hid (RowP wr w.heap.size v qs) ∧ Hid (Ext w wr)) (fun _ i _ => ps.length - (intOf i).toNat)
  case atStart => exact ⟨0, [], Nat.zero_le _, rfl, Lib.hid ⟨rfl, rfl⟩, Lib.hid ⟨none, 0, rfl, OwnP.nil _ _⟩, Lib.hid (Ext.refl _)⟩
  case round =>
    obtain ⟨j, qs, hj, rfl, hq, hr, hx⟩ := hrel
    by_cases hlt : j < ps.length
    · obtain ⟨p, hp⟩ : ∃ p, ps[j]? = some p := ⟨_, List.getElem?_eq_getElem hlt⟩
      obtain ⟨b, off, rfl, hb, hcell⟩ := (HP.out.ext hx.out) (by omega)
      obtain ⟨d0, d1, d2, d3, d4, d5, d6, d7⟩ := hcell j _ hp
      have hpo := HO.out.get hp
      have hkn := HFW.out.kids_le (List.mem_of_getElem? hp)
      have HS : Hid (((nds ps).take (j + 1)).map (Nd.by (· + d)) = ((nds ps).take j).map (Nd.by (· + d)) ++ [p.nd.by (· + d)]) := Lib.hid (by
        have h1 := nds_get hp
        rw [List.getElem?_eq_getElem (by rw [nds_length]; exact hlt)] at h1
        injection h1 with h1
        rw [List.take_succ_eq_append_getElem (by rw [nds_length]; exact hlt), h1, List.map_append]
        rfl)
      have HPO := Lib.hid hpo
      have HPP := Lib.hid hp
      have HFK := Lib.hid (HFI.out p (List.mem_of_getElem? hp))
      clear hcell hp hpo
      go_upto_region 7 with fail
      obtain ⟨m, hm⟩ : ∃ m, wr.heap.size = m := ⟨_, rfl⟩
      obtain ⟨W4, hW4⟩ : ∃ W4, wr.alloc (.cells #[.int .i64 p.nd.sym, .int .i64 p.nd.kind, .int .i64 p.nd.lo, .int .i64 p.nd.inn, .int .i64 p.nd.hi, .int .i64 p.nd.look, .slice none 0 0, .int .u64 p.nd.met] 33) = W4 := ⟨_, rfl⟩
      have X4 : Ext wr W4 := by rw [← hW4]; exact (by repeat (first | exact Ext.refl _ | refine Ext.alloc ?_ _ | refine Ext.more ?_ _ _ | refine Ext.drew ?_ | refine Ext.drewN ?_ _ | refine Ext.setCell ?_ (by simp <;> omega) _))
      have P4 : W4.heap[m]? = some (.cells (prtCells ⟨{ p.nd with kids := (p.nd.kids.take 0).map (· + d) }, none, 0⟩).toArray 33) := by
        rw [← hW4, ← hm]
        exact heap_alloc_new _ _
      have MV0 : Hid (MvV w m u5 qs p d 0 none 0 W4) := Lib.hid ⟨⟨wr, hm, (X4.below).mono (by omega), hr.out, hx.out.below⟩, P4, World.ownsRow_nil _ _ _ _⟩
      have HWM : Hid (w.heap.size ≤ m) := Lib.hid (by have := hx.out.size; omega)
      obtain ⟨wr0, hwr0⟩ : ∃ wr0 : World, wr0.heap.size = m := ⟨wr, hm⟩
      have HWR := Lib.hid hwr0
      rw [hm, hW4]
      clear hW4 X4 P4 d0 d1 d2 d3 d4 d5 d6 d7 hwr0 hm
      go_wp2_with fail
      go_loopw [8] (fun v wr2 => ∃ (k : Nat) (A2 : Option Addr) (c2 : Nat), k ≤ p.nd.kids.length ∧ v = .int .i64 k ∧ Hid (MvV w m u5 qs p d k A2 c2 wr2)) (fun v _ => p.nd.kids.length - (intOf v).toNat)
      case atStart => exact ⟨0, none, 0, Nat.zero_le _, rfl, MV0⟩
      case round =>
        obtain ⟨k, A2, c2, hk, rfl, hmv⟩ := hrel
        obtain ⟨b', off', hA', hb', hcell⟩ := (HP.out.below hmv.out.below) (by omega)
        injection hA' with hA'
        injection hA' with ea eb
        subst ea eb
        have d6 := (hcell j p HPP.out).2.2.2.2.2.2.1
        obtain ⟨ly, y0, y1, y2, y3, y4, y5, y6, y7⟩ := part_cells hmv.out.part
        have f6 : wr.frozen? ⟨m, 6, none⟩ = false := by simp [World.frozen?, hmv.out.part]
        have ko1 := HPO.out.cap
        have ko2 := HPO.out.top
        clear hcell
        by_cases hkl : k < p.nd.kids.length
        · obtain ⟨x, hxk⟩ : ∃ x, p.nd.kids[k]? = some x := ⟨_, List.getElem?_eq_getElem hkl⟩
          obtain ⟨bk, offk, hkA, hbk, hck⟩ := (HPO.out.below hmv.out.below).kids (by omega)
          have e1 := hck k hkl
          rw [List.getD_eq_getElem?_getD, hxk] at e1
          dsimp only [Option.getD_some] at e1
          have hxd := HFK.out x (List.mem_of_getElem? hxk)
          unfold I64 at hxd
          have b1 : IntKind.i64.wrap (x + d) = x + d := IntWalk.i64_in _ hxd
          have HTK : Hid ((p.nd.kids.take (k + 1)).map (· + d) = (p.nd.kids.take k).map (· + d) ++ [x + d]) := Lib.hid (by
            obtain ⟨hl', hx'⟩ := List.getElem?_eq_some_iff.1 hxk
            rw [List.take_succ_eq_append_getElem hl', List.map_append, hx']
            rfl)
          obtain ⟨xs, hxs⟩ : ∃ xs, (p.nd.kids.take k).map (· + d) = xs := ⟨_, rfl⟩
          have hxl : xs.length = k := by rw [← hxs, List.length_map, List.length_take]; omega
          have HOI : Hid (OwnI wr m A2 c2 xs) := Lib.hid (by rw [← hxs]; exact hmv.out.own)
          have HPM : Hid (wr.heap[m]? = some (.cells (prtCells ⟨{ p.nd with kids := xs }, A2, c2⟩).toArray 33)) := Lib.hid (by rw [← hxs]; exact hmv.out.part)
          have HLW := Lib.hid hmv.out.low
          have hmv0 := hmv.out.low
          change wr.cell? ⟨m, 6, none⟩ = some (.slice A2 ((p.nd.kids.take k).map (· + d)).length c2) at y6
          rw [hxs] at y6 HTK
          have HXL : Hid (xs.length ≤ 1000000) := Lib.hid (by omega)
          rw [hkA] at d6
          clear hck hxk hkA hxs hxl hmv hxd y0 y1 y2 y3 y4 y5 y7
          go_upto_region 10 with fail
          refine wp_region_segsT (13) [14, 15] [([0, 1, 2, 3, 4, 5, 6, 7, 8, 9, 10, 11], 12)] [] (by kernel_rfl) (by kernel_rfl) ?_
          (refine segsT_cons fun K hK => ?_); (first | (simp only [pick_nil]) | (simp only [pick, nthC])); (repeat (go_big_quiet_step (fail))); (refine wpQuiet_nil (hK _ fun next hn => ?_)); (clear hK K); (simp only [pick, nthC])
          go_wp2_with fail
          refine segQ_mk (fun _ => laid (by repeat (first | exact Ext.refl _ | refine Ext.alloc ?_ _ | refine Ext.more ?_ _ _ | refine Ext.drew ?_ | refine Ext.drewN ?_ _ | refine Ext.setCell ?_ (by simp <;> omega) _))) (hn _ _ ?_)
          clear hn next
          (refine segsT_nil fun K hK => ?_); (first | (simp only [pick_nil]) | (simp only [pick, nthC])); (repeat (go_big_quiet_step (fail))); (refine wpQuiet_nil (hK _ ?_)); (clear hK K); (simp only [pick, nthC])
          have hm2 := hmv0.size
          have HR2 := Lib.hid (show RowI (wr.alloc (.cells #[.int .i64 (x + d)] 3)).drew wr0.heap.size (.slice A2 xs.length c2) xs from ⟨A2, c2, rfl, by rw [HWR.out]; exact HOI.out.ext (by repeat (first | exact Ext.refl _ | refine Ext.alloc ?_ _ | refine Ext.more ?_ _ _ | refine Ext.drew ?_ | refine Ext.drewN ?_ _ | refine Ext.setCell ?_ (by simp <;> omega) _))⟩)
          at_builtin
          refine app_intO wr0 (by rfl) (.tmp 31) (.tmp 42) rfl HR2.out (x + d) wr.heap.size rfl rfl (by simp) (by show (wr.alloc (.cells #[.int .i64 (x + d)] 3)).cell? ⟨wr.heap.size, 0, none⟩ = _; rw [cell_of_row _ _ 0 _ _ _ (heap_alloc_new wr (.cells #[.int .i64 (x + d)] 3))]; rfl) HXL.out (by rw [HWR.out]; simp; omega) ?_
          intro v' w' hr' hg' hb'
          obtain ⟨A', c', hv', ho'⟩ := hr'
          obtain ⟨ln, hln⟩ : ∃ ln, (xs ++ [x + d]).length = ln := ⟨_, rfl⟩
          rw [hln] at hv'
          subst hv'
          rw [HWR.out] at ho'
          have hbn : some m ≠ (Value.slice A2 xs.length c2).ownBlock := fun he => by
            obtain ⟨cur, h2⟩ := own_obj HOI.out m he.symm
            rw [HPM.out] at h2
            injection h2 with h2
            injection h2 with _ h2
            exact absurd h2 (by decide)
          have hm1 : w'.heap[m]? = some (.cells (prtCells ⟨{ p.nd with kids := xs }, A2, c2⟩).toArray 33) := (hg'.block m (by simp; omega) hbn).trans (ext_block HPM.out (by repeat (first | exact Ext.refl _ | refine Ext.alloc ?_ _ | refine Ext.more ?_ _ _ | refine Ext.drew ?_ | refine Ext.drewN ?_ _ | refine Ext.setCell ?_ (by simp <;> omega) _)))
          have hown : ∀ g, (Value.slice A' ln c').ownBlock = some g → g ≠ m := fun g hg he => by
            obtain ⟨cur, h2⟩ := own_obj ho' g (hln.symm ▸ hg)
            rw [he, hm1] at h2
            injection h2 with h2
            injection h2 with _ h2
            exact absurd h2 (by decide)
          have fm : w'.frozen? ⟨m, 6, none⟩ = false := by simp [World.frozen?, hm1]
          have km := cell_of_row _ _ 6 _ _ _ hm1
          have lm := lt_of_heap hm1
          have HM1 := Lib.hid hm1
          have HOW := Lib.hid hown
          have HO' := Lib.hid ho'
          have HLN := Lib.hid hln
          have HG := Lib.hid hg'
          clear hm1 hown ho' hln hg' hb' hbn HR2
          go_wp2_with fail
          refine onlyN_mk ?_
          have T0 : Turn (fun k => m ≤ k) wr ((wr.alloc (.cells #[.int .i64 (x + d)] 3)).drew) := Turn.of_ext (by repeat (first | exact Ext.refl _ | refine Ext.alloc ?_ _ | refine Ext.more ?_ _ _ | refine Ext.drew ?_ | refine Ext.drewN ?_ _ | refine Ext.setCell ?_ (by simp <;> omega) _))
          have T1 : Turn (fun k => m ≤ k) ((wr.alloc (.cells #[.int .i64 (x + d)] 3)).drew) w' := Turn.grown HG.out fun k hk _ => own_block HOI.out k hk
          have T2 : Turn (fun k => m ≤ k) w' (w'.setCell ⟨m, 6, none⟩ (.slice A' ln c')) := Turn.setCell w' (p := ⟨m, 6, none⟩) (Nat.le_refl m) _
          have TT := (T0.trans T1).trans T2
          have MVN : Hid (MvV w m u5 qs p d (k + 1) A' c' (w'.setCell ⟨m, 6, none⟩ (.slice A' ln c'))) := Lib.hid ⟨HLW.out.below (TT.below (by omega) fun k hk => hk), by
            rw [HTK.out, ← HLN.out]
            simp [World.setCell, Array.getElem?_modify, HM1.out, prtCells], by
            rw [HTK.out]
            refine own_keep HO'.out fun g hg => ?_
            have := HOW.out g (HLN.out ▸ hg)
            simp [World.setCell, Array.getElem?_modify, Ne.symm this]⟩
          clear T0 T1 T2 TT
          go_wp2_with fail
          go_roundw
          case rel => exact ⟨k + 1, A', c', by omega, by go_num, MVN⟩
          case measure => simp [intOf]; omega
        · obtain rfl : k = p.nd.kids.length := by omega
          have HR2 := Lib.hid hmv.out.rowP
          have HX2 : Hid (Ext w wr) := Lib.hid (Ext.of_below hmv.out.below)
          have hkk : (p.nd.kids.take p.nd.kids.length).map (· + d) = (p.nd.by (· + d)).kids := by rw [List.take_of_length_le (Nat.le_refl _)]; rfl
          have HO2 : Hid (OwnI wr w.heap.size A2 c2 (p.nd.by (· + d)).kids) := Lib.hid (hkk ▸ hmv.out.own.base HWM.out)
          have HPM : Hid (wr.heap[m]? = some (.cells (prtCells ⟨p.nd.by (· + d), A2, c2⟩).toArray 33)) := Lib.hid (by have := hmv.out.part; rw [hkk] at this; exact this)
          have HL : Hid (qs.length ≤ 1000000) := Lib.hid (by have := hq.out.1; omega)
          have HFN : Hid (FineP ⟨p.nd.by (· + d), A2, c2⟩) := by
            have hf := HPO.out.fine
            exact ⟨hf.sym, hf.kind, hf.lo, hf.inn, hf.hi, hf.look, hf.met, fun k hk => by
              obtain ⟨x, hx, rfl⟩ := List.mem_map.1 hk
              exact HFK.out x hx⟩
          clear hkk hmv y0 y1 y2 y3 y4 y5 y6 y7 f6
          obtain ⟨_, y0, y1, y2, y3, y4, y5, y6, y7⟩ := part_cells HPM.out
          go_wp2_with (at_builtin; refine app_part w (by rfl) (.tmp 45) (.tmp 47) rfl (HR2.out.ext (by repeat (first | exact Ext.refl _ | refine Ext.alloc ?_ _ | refine Ext.more ?_ _ _ | refine Ext.drew ?_ | refine Ext.drewN ?_ _ | refine Ext.setCell ?_ (by simp <;> omega) _))) ⟨p.nd.by (· + d), A2, c2⟩ wr.heap.size rfl rfl (cells_lit _ _ _ _ _ rfl (by simp [prtCells, Nd.by])) (HO2.out.ext (by repeat (first | exact Ext.refl _ | refine Ext.alloc ?_ _ | refine Ext.more ?_ _ _ | refine Ext.drew ?_ | refine Ext.drewN ?_ _ | refine Ext.setCell ?_ (by simp <;> omega) _))) HFN.out HL.out (HX2.out.trans (by repeat (first | exact Ext.refl _ | refine Ext.alloc ?_ _ | refine Ext.more ?_ _ _ | refine Ext.drew ?_ | refine Ext.drewN ?_ _ | refine Ext.setCell ?_ (by simp <;> omega) _))) ?_; intro v7 w7 hr7 hx7)
          have HR7 := Lib.hid hr7
          have HX7 := Lib.hid hx7
          clear hr7 hx7
          go_roundw
          case rel => exact ⟨j + 1, _, by omega, by go_num, Lib.hid ⟨by rw [List.length_append, hq.out.1]; rfl, by rw [HS.out, ← hq.out.2]; simp [nds]⟩, HR7, HX7⟩
          case measure => simp [intOf]; omega
    · obtain rfl : j = ps.length := by omega
      obtain ⟨A1, c1, rfl, ho⟩ := hr.out
      have HO1 := Lib.hid ho
      clear ho
      go_wp2_with fail
      go_ret
      refine ⟨A1, c1, qs, rfl, ?_, HO1.out, hx.out⟩
      rw [hq.out.2, List.take_of_length_le (by rw [nds_length]; omega)]
end Go.Proofs.Ytggmljookcmnkaa

/- The contracts of the document's Copy, Sub, Find (viewportref16). -/
namespace Go.Proofs.Ytggmljookcmnkaa
open Go.RowKit
attribute [local go_sem] more_drew more_drewN more_size more_cell more_frozen more_setCell drew_more drewN_more lt_add_r lt_add_r2 lt_add_r3 lt_add_r4 lt_add_r5 lt_add_r6 lt_add_r7 lt_add_r8 lt_add_r9 lt_add_r10 lt_self_r lt_self_r2

theorem firstF_at {α : Type} {f : α → Bool} {l : List α} {j : Nat} {p : α} (hp : l[j]? = some p) (hf : f p = true) (hb : ∀ k q, k < j → l[k]? = some q → f q = false) : firstF f 0 l = (j : Int) := by
  rcases firstF_cases f l 0 with ⟨_, h2⟩ | ⟨k, q, h1, h2, h3, h4⟩
  · rw [h2 p (List.mem_of_getElem? hp)] at hf
    cases hf
  · rw [h1, Nat.zero_add]
    rcases Nat.lt_trichotomy k j with hlt | rfl | hlt
    · rw [hb k q hlt h2] at h3; cases h3
    · rfl
    · rw [h4 j p hlt hp] at hf; cases hf
theorem firstF_none {α : Type} {f : α → Bool} {l : List α} (hb : ∀ k q, k < l.length → l[k]? = some q → f q = false) : firstF f 0 l = -1 := by
  rcases firstF_cases f l 0 with ⟨h1, _⟩ | ⟨k, q, _, h2, h3, _⟩
  · exact h1
  · rw [hb k q (List.getElem?_eq_some_iff.1 h2).1 h2] at h3; cases h3
section
variable {A : Option Addr} {c : Nat} {ps : List Prt} {w : World}
theorem ris_true (i : Int) (h : PS w A c ps) (T : IsP (nds ps) i) : Calls Try.prog 67 #[.slice A ps.length c, .int .i64 i] w fun e w' => e = .returned (.bool true) ∧ Ext w w' := by
  obtain ⟨T, h0, h1⟩ := T
  rw [nds_length] at h1
  refine (ris_yes i h T).mono ?_
  rintro e w' ⟨rfl, hx⟩
  exact ⟨ret_bool (by rw [decide_eq_true h0, decide_eq_true h1]; rfl), hx⟩
theorem ris_false (i : Int) (h : PS w A c ps) (T : ¬ IsP (nds ps) i) : Calls Try.prog 67 #[.slice A ps.length c, .int .i64 i] w fun e w' => e = .returned (.bool false) ∧ Ext w w' := by
  by_cases hT : Tree (nds ps)
  · refine (ris_yes i h hT).mono ?_
    rintro e w' ⟨rfl, hx⟩
    refine ⟨ret_bool ?_, hx⟩
    rw [Bool.and_eq_false_iff, decide_eq_false_iff_not, decide_eq_false_iff_not]
    by_cases h0 : 0 ≤ i
    · exact .inr fun h1 => T ⟨hT, h0, by rw [nds_length]; exact h1⟩
    · exact .inl h0
  · exact ris_no i h hT
set_option maxRecDepth 100000 in
set_option maxHeartbeats 1000000 in
theorem rcopy_any (h : PS w A c ps) : Calls Try.prog 110 #[.slice A ps.length c] w (PartsRet w (nds ps)) := by
  have CM := Lib.hid (rmoved_any 0 A c ps w h.parts h.oks h.few h.cap (fun p hp x hx => by rw [Int.add_zero]; exact (h.oks p hp).ks x hx))
  have HID : Hid ((nds ps).map (Nd.by fun x => x + 0) = nds ps) := Lib.hid (by
    exact (List.map_congr_left (g := id) fun p _ => Nd.by_id fun k _ => Int.add_zero k).trans (List.map_id _))
  clear h
  go_enter Try.func110, Try.ntmps110
  go_wp2_with fail
  refine CM.out.mono ?_
  rintro e w2 ⟨A2, c2, qs, rfl, hn, ho, hx⟩
  rw [HID.out] at hn
  have HN := Lib.hid hn
  have HO := Lib.hid ho
  have HX := Lib.hid hx
  clear hn ho hx
  go_wp2_with fail
  go_ret
  exact ⟨A2, c2, qs, rfl, HN.out, HO.out, HX.out⟩
theorem rsub_no (i : Int) (h : PS w A c ps) (T : ¬ IsP (nds ps) i) : Calls Try.prog 55 #[.slice A ps.length c, .int .i64 i] w fun e w' => e = .returned (.slice none 0 0) ∧ Ext w w' := by
  have CH := Lib.hid (ris_false i h T)
  clear h T
  go_enter Try.func55, Try.ntmps55
  go_wp2_with fail
  refine CH.out.mono ?_
  rintro e w3 ⟨rfl, hx3⟩
  have HX3 := Lib.hid hx3
  clear hx3
  go_wp2_with fail
  go_ret
  exact ⟨rfl, HX3.out⟩
set_option maxRecDepth 100000 in
set_option maxHeartbeats 2000000 in
theorem rsub_yes (i m : Nat) (h : PS w A c ps) (T : Tree (nds ps)) (hp : Part (nds ps) i m) : Calls Try.prog 55 #[.slice A ps.length c, .int .i64 i] w (PartsRet w (subF (nds ps) i m)) := by
  have CH := Lib.hid (ris_true i h ⟨T, by omega, by have := hp.lt; omega⟩)
  have hil := hp.lt
  rw [nds_length] at hil
  obtain ⟨p, hpp⟩ : ∃ p, ps[i]? = some p := ⟨_, List.getElem?_eq_getElem hil⟩
  obtain ⟨ok, m', ht⟩ := trek_all (nds ps) ps.length p.nd.kids (i + 1) (by rw [nds_length]; omega)
  have CE := Lib.hid (fun (V : World) (x : Ext w V) => rend_any A c ps ps.length i m' ok p V (h.ext x) (by omega) hpp ht)
  rw [endR_tree T (nds_get hpp) hp ht] at CE
  clear hpp ht hil
  have HS := Lib.hid h
  have hl := h.few.len
  have hc1 := h.cap
  have hc2 := h.top
  have hlt := hp.lt
  have hme := hp.lt_end
  have hml := hp.le
  rw [nds_length] at hlt hml
  obtain ⟨b, off, rfl, hb, _⟩ := h.parts (by omega)
  have KF : Hid (∀ p ∈ (ps.drop i).take (m - i), ∀ x ∈ p.nd.kids, ∃ k : Nat, x = (k : Int) ∧ i < k ∧ k < m) := Lib.hid (by
    intro p hpm x hx
    obtain ⟨j, hj, rfl⟩ := List.getElem_of_mem hpm
    rw [List.length_take, List.length_drop] at hj
    have e : ps[i + j]? = some (((ps.drop i).take (m - i))[j]) := by
      rw [← List.getElem?_drop, ← List.getElem?_take_of_lt (show j < m - i by omega), List.getElem?_eq_getElem]
    obtain ⟨k, h1, h2, h3⟩ := hp.kid_in (show i ≤ i + j by omega) (by omega) (nds_get e) x hx
    exact ⟨k, h1, by omega, h3⟩)
  clear h T hp
  have s1 : IntKind.i64.wrap (-(i : Int)) = -(i : Int) := IntWalk.i64_in _ (by omega)
  go_enter Try.func55, Try.ntmps55
  go_wp2_with fail
  refine CH.out.mono ?_
  rintro e w2 ⟨rfl, hx2⟩
  have HX := Lib.hid hx2
  clear hx2
  go_wp2_with fail
  refine (CE.out _ HX.out).mono ?_
  rintro e w3 ⟨rfl, hx3⟩
  have X3 : Hid (Ext w w3) := Lib.hid (HX.out.trans hx3)
  clear hx3
  have hln : ((ps.drop i).take (m - i)).length = m - i := by rw [List.length_take, List.length_drop]; omega
  have CM := rmoved_any (-(i : Int)) (some ⟨b, off + i * 8, none⟩) (c - i) ((ps.drop i).take (m - i)) w3
    ((HS.out.parts.slice i (m - i)).ext X3.out) ((HS.out.oks.slice i (m - i)).ext X3.out) (HS.out.few.slice i (m - i)) (by rw [hln]; omega) (fun p hp x hx => by obtain ⟨k, rfl, h1, h2⟩ := KF.out p hp x hx; unfold I64; omega)
  rw [hln] at CM
  have HCM := Lib.hid CM
  clear CM hln
  go_wp2_with fail
  refine HCM.out.mono ?_
  rintro e w5 ⟨A5, c5, qs, rfl, hn5, ho5, hx5⟩
  have X5 : Hid (Ext w w5) := Lib.hid (X3.out.trans hx5)
  have HO5 : Hid (OwnP w5 w.heap.size A5 c5 qs) := Lib.hid (ho5.base X3.out.size)
  have HN5 : Hid (nds qs = subF (nds ps) i m) := Lib.hid (by rw [hn5, nds_take, nds_drop]; rfl)
  clear hn5 ho5 hx5 HCM
  go_wp2_with fail
  go_ret
  exact ⟨A5, c5, qs, rfl, HN5.out, HO5.out, X5.out⟩
set_option maxRecDepth 100000 in
set_option maxHeartbeats 1000000 in
theorem rfind_no (sym at_ : Int) (h : PS w A c ps) (T : ¬ Tree (nds ps)) : Calls Try.prog 53 #[.slice A ps.length c, .int .i64 sym, .int .i64 at_] w fun e w' =>
    e = .returned (.tuple #[.int .i64 0, .bool false]) ∧ Ext w w' := by
  have CH := Lib.hid (fun (w1 : World) (hx : Ext w w1) => rcheck_no (h.ext hx) T)
  have hl := h.few.len
  clear h T
  go_enter Try.func53, Try.ntmps53
  go_wp2_with fail
  go_loopw [8] (fun i wr => i = .int .i64 0 ∧ Hid (Ext w wr)) (fun _ _ => 0)
  case atStart => exact ⟨rfl, Lib.hid (Ext.refl _)⟩
  case round =>
    obtain ⟨rfl, hx⟩ := hrel
    by_cases h0 : 0 < ps.length
    · go_wp2_with fail
      refine (CH.out _ hx.out).mono ?_
      rintro e w3 ⟨rfl, hx3⟩
      have HX3 := Lib.hid (hx.out.trans hx3)
      clear hx3
      go_wp2_with fail
      go_ret2
      exact ⟨rfl, HX3.out⟩
    · go_wp2_with fail
      go_ret2
      exact ⟨rfl, hx.out⟩
set_option maxRecDepth 100000 in
set_option maxHeartbeats 2000000 in
theorem rfind_yes (sym at_ : Int) (h : PS w A c ps) (T : Tree (nds ps)) : Calls Try.prog 53 #[.slice A ps.length c, .int .i64 sym, .int .i64 at_] w fun e w' =>
    e = .returned (.tuple #[.int .i64 (max 0 (firstF (fun p : Prt => findB sym at_ p.nd) 0 ps)), .bool (decide (0 ≤ firstF (fun p : Prt => findB sym at_ p.nd) 0 ps))]) ∧ Ext w w' := by
  have CH := Lib.hid (fun (w1 : World) (hx : Ext w w1) => rcheck_ok (h.ext hx) T)
  have HS := Lib.hid h
  have hl := h.few.len
  clear h T
  generalize hr : firstF (fun p : Prt => findB sym at_ p.nd) 0 ps = r
  have HR := Lib.hid hr
  clear hr
  go_enter Try.func53, Try.ntmps53
  go_wp2_with fail
  go_loopw [8] (fun i wr => ∃ j : Nat, j ≤ ps.length ∧ i = .int .i64 j ∧ Hid (∀ k p, k < j → ps[k]? = some p → findB sym at_ p.nd = false) ∧ Hid (Ext w wr)) (fun i _ => ps.length - (intOf i).toNat)
  case atStart => exact ⟨0, Nat.zero_le _, rfl, Lib.hid (fun k p hk => by omega), Lib.hid (Ext.refl _)⟩
  case round =>
    obtain ⟨j, hj, rfl, hb, hx⟩ := hrel
    by_cases hlt : j < ps.length
    · obtain ⟨p, hp⟩ : ∃ p, ps[j]? = some p := ⟨_, List.getElem?_eq_getElem hlt⟩
      have HP := Lib.hid hp
      clear hp
      go_wp2_with fail
      refine (CH.out _ hx.out).mono ?_
      rintro e w3 ⟨rfl, hx3⟩
      have HX3 := Lib.hid (hx.out.trans hx3)
      clear hx3
      obtain ⟨b, off, rfl, hb', hcell⟩ := (HS.out.ext HX3.out).parts (by omega)
      obtain ⟨d0, d1, d2, d3, d4, d5, d6, d7⟩ := hcell j _ HP.out
      clear hcell d3 d4 d5 d6 d7
      obtain ⟨⟨sym', kind, lo, inn, hi, look, kids, met⟩, kA, kc⟩ := p
      go_wp2_with (first | (go_at_call 109; refine (leafR_any _ _).mono ?_; rintro e w' ⟨rfl, rfl⟩) | go_in)
      all_goals first
        | (go_ret2
           have hfb : findB sym at_ ⟨sym', kind, lo, inn, hi, look, kids, met⟩ = true := by unfold findB; simp [*]
           have hrj := (HR.out.symm.trans (firstF_at (f := fun p : Prt => findB sym at_ p.nd) HP.out hfb hb.out))
           exact ⟨ret_ib (by rw [hrj]; omega) (by rw [hrj]; exact (decide_eq_true (by omega)).symm), HX3.out⟩)
        | (have hfb : findB sym at_ ⟨sym', kind, lo, inn, hi, look, kids, met⟩ = false := by unfold findB; simp [*]
           have hb2 : Hid (∀ k p, k < j + 1 → ps[k]? = some p → findB sym at_ p.nd = false) := Lib.hid (fun k q hk hq => by
             rcases Nat.lt_succ_iff_lt_or_eq.1 hk with hk | rfl
             · exact hb.out k q hk hq
             · rw [HP.out] at hq
               cases hq
               exact hfb)
           go_roundw
           case rel => exact ⟨j + 1, by omega, by go_num, hb2, HX3⟩
           case measure => simp [intOf]; omega)
    · obtain rfl : j = ps.length := by omega
      obtain rfl : r = -1 := HR.out.symm.trans (firstF_none (f := fun p : Prt => findB sym at_ p.nd) hb.out)
      go_wp2_with fail
      go_ret2
      exact ⟨rfl, hx.out⟩
end
end Go.Proofs.Ytggmljookcmnkaa

/- The contract of the document's Same (viewportref16). -/
namespace Go.Proofs.Ytggmljookcmnkaa
open Go.RowKit
attribute [local go_sem] more_drew more_drewN more_size more_cell more_frozen more_setCell drew_more drewN_more lt_add_r lt_add_r2 lt_add_r3 lt_add_r4 lt_add_r5 lt_add_r6 lt_add_r7 lt_add_r8 lt_add_r9 lt_add_r10 lt_self_r lt_self_r2

def headB (p q : Nd) : Bool := (p.sym == q.sym) && (p.kind == q.kind) && (p.lo == q.lo) && (p.inn == q.inn) && (p.hi == q.hi) && (p.look == q.look) && (p.met == q.met) && ((p.kids.length : Int) == (q.kids.length : Int))
theorem headB_no {p q : Nd} (h : headB p q = false) : p ≠ q := by
  rintro rfl
  simp [headB] at h
theorem headB_yes {p q : Nd} (h : headB p q = true) : p.kids.length = q.kids.length ∧ (p.kids = q.kids → p = q) := by
  obtain ⟨a, b, c, d, e, f, g, h⟩ := p
  obtain ⟨a', b', c', d', e', f', g', h'⟩ := q
  simp only [headB, Bool.and_eq_true, beq_iff_eq] at h
  obtain ⟨⟨⟨⟨⟨⟨⟨rfl, rfl⟩, rfl⟩, rfl⟩, rfl⟩, rfl⟩, rfl⟩, hl⟩ := h
  exact ⟨Int.ofNat.inj hl, fun h => by dsimp only at h; rw [h]⟩
theorem takeNd {l : List Nd} {k : Nat} {p : Nd} (h : l[k]? = some p) : l.take (k + 1) = l.take k ++ [p] := by
  rw [List.take_add_one, h]
  rfl
set_option maxRecDepth 100000 in
set_option maxHeartbeats 2000000 in
theorem rsame_any (A B : Option Addr) (ps qs : List Prt) (c d : Nat) (w : World) (hP : Prts w A ps) (hO : PrtsOk w ps) (hQ : Prts w B qs) (hOq : PrtsOk w qs) (bx : ps.length ≤ 1000000) (_ : qs.length ≤ 1000000) :
    Calls Try.prog 27 #[.slice A ps.length c, .slice B qs.length d] w fun e w' => e = .returned (.bool (decide (nds ps = nds qs))) ∧ Ext w w' := by
  have HP := Lib.hid hP
  have HO := Lib.hid hO
  have HQ := Lib.hid hQ
  have HOQ := Lib.hid hOq
  clear hP hO hQ hOq
  by_cases hlen : ps.length = qs.length
  · have HLEN := Lib.hid hlen
    have hl2 : ((ps.length : Int) != (qs.length : Int)) = false := by simp; omega
    clear hlen
    go_enter Try.func27, Try.ntmps27
    go_wp2_with fail
    go_loopw [5] (fun i wr => ∃ j : Nat, j ≤ ps.length ∧ i = .int .i64 j ∧ Hid ((nds ps).take j = (nds qs).take j) ∧ Hid (Ext w wr)) (fun i _ => ps.length - (intOf i).toNat)
    case atStart => exact ⟨0, Nat.zero_le _, rfl, Lib.hid rfl, Lib.hid (Ext.refl _)⟩
    case round =>
      obtain ⟨j, hj, rfl, he, hx⟩ := hrel
      by_cases hlt : j < ps.length
      · obtain ⟨p, hp⟩ : ∃ p, ps[j]? = some p := ⟨_, List.getElem?_eq_getElem hlt⟩
        obtain ⟨q, hq⟩ : ∃ q, qs[j]? = some q := ⟨_, List.getElem?_eq_getElem (by have := HLEN.out; omega)⟩
        obtain ⟨b, off, rfl, hb, hcell⟩ := (HP.out.ext hx.out) (by omega)
        obtain ⟨d0, d1, d2, d3, d4, d5, d6, d7⟩ := hcell j _ hp
        obtain ⟨b', off', rfl, hb', hcell'⟩ := (HQ.out.ext hx.out) (by have := HLEN.out; omega)
        obtain ⟨e0, e1, e2, e3, e4, e5, e6, e7⟩ := hcell' j _ hq
        have hlt' : j < qs.length := by have := HLEN.out; omega
        have HPP := Lib.hid hp
        have HQQ := Lib.hid hq
        have HPO := Lib.hid (HO.out.get hp)
        have HQO := Lib.hid (HOQ.out.get hq)
        clear hcell hcell' hp hq
        go_upto_region 6 with fail
        go_cut [6, 7] (fun x y wx => ∃ g h, x = pt g ∧ y = pt h ∧ Hid (wx.heap[g]? = some (.cells (prtCells p).toArray 33)) ∧ Hid (wx.heap[h]? = some (.cells (prtCells q).toArray 33)) ∧ Hid (Ext w wx))
        case first =>
          refine wp_region_segsB 11 (.two (.step 8 (.step 9 (.step 10 (.step 11 .fin)))) (.step 9 (.step 8 (.step 10 (.step 11 .fin))))) [0, 1, 2, 3, 4, 5, 6, 7] (by kernel_rfl) (by kernel_rfl) ?_
          intro K hK
          simp only [pick, nthC]
          repeat (go_big_quiet_step (fail))
          refine wpQuiet_nil (hK _ ?_)
          clear hK K
          simp only [wpBr, pick, nthC]
          refine ⟨?_, ?_⟩
          · go_wp2_with fail
            refine segQ_mk (fun _ => laid (by repeat (first | exact Ext.refl _ | refine Ext.alloc ?_ _ | refine Ext.more ?_ _ _ | refine Ext.drew ?_ | refine Ext.drewN ?_ _ | refine Ext.setCell ?_ (by simp <;> omega) _))) ?_
            go_wp2_with fail
            refine segQ_mk (fun _ => laid (by repeat (first | exact Ext.refl _ | refine Ext.alloc ?_ _ | refine Ext.more ?_ _ _ | refine Ext.drew ?_ | refine Ext.drewN ?_ _ | refine Ext.setCell ?_ (by simp <;> omega) _))) ?_
            go_wp2_with fail
            refine segQ_mk (fun _ => laid (by repeat (first | exact Ext.refl _ | refine Ext.alloc ?_ _ | refine Ext.more ?_ _ _ | refine Ext.drew ?_ | refine Ext.drewN ?_ _ | refine Ext.setCell ?_ (by simp <;> omega) _))) ?_
            go_wp2_with fail
            refine segQ_mk (fun h => absurd rfl h) ?_
            go_wp2_with fail
            go_meet
            exact ⟨_, _, rfl, rfl, Lib.hid (by show ((wr.alloc _).alloc _).heap[_]? = _; exact (by simp only [heap_alloc_get, World.size_alloc]; (repeat (split; (first | rfl | (exfalso; omega)))); (try (first | (exfalso; omega) | simp_all)))), Lib.hid (by show ((wr.alloc _).alloc _).heap[_]? = _; exact (by simp only [heap_alloc_get, World.size_alloc]; (repeat (split; (first | rfl | (exfalso; omega)))); (try (first | (exfalso; omega) | simp_all)))), Lib.hid (hx.out.trans (by repeat (first | exact Ext.refl _ | refine Ext.alloc ?_ _ | refine Ext.more ?_ _ _ | refine Ext.drew ?_ | refine Ext.drewN ?_ _ | refine Ext.setCell ?_ (by simp <;> omega) _)))⟩
          · go_wp2_with fail
            refine segQ_mk (fun _ => laid (by repeat (first | exact Ext.refl _ | refine Ext.alloc ?_ _ | refine Ext.more ?_ _ _ | refine Ext.drew ?_ | refine Ext.drewN ?_ _ | refine Ext.setCell ?_ (by simp <;> omega) _))) ?_
            go_wp2_with fail
            refine segQ_mk (fun _ => laid (by repeat (first | exact Ext.refl _ | refine Ext.alloc ?_ _ | refine Ext.more ?_ _ _ | refine Ext.drew ?_ | refine Ext.drewN ?_ _ | refine Ext.setCell ?_ (by simp <;> omega) _))) ?_
            go_wp2_with fail
            refine segQ_mk (fun _ => laid (by repeat (first | exact Ext.refl _ | refine Ext.alloc ?_ _ | refine Ext.more ?_ _ _ | refine Ext.drew ?_ | refine Ext.drewN ?_ _ | refine Ext.setCell ?_ (by simp <;> omega) _))) ?_
            go_wp2_with fail
            refine segQ_mk (fun h => absurd rfl h) ?_
            go_wp2_with fail
            go_meet
            exact ⟨_, _, rfl, rfl, Lib.hid (by show ((wr.alloc _).alloc _).heap[_]? = _; exact (by simp only [heap_alloc_get, World.size_alloc]; (repeat (split; (first | rfl | (exfalso; omega)))); (try (first | (exfalso; omega) | simp_all)))), Lib.hid (by show ((wr.alloc _).alloc _).heap[_]? = _; exact (by simp only [heap_alloc_get, World.size_alloc]; (repeat (split; (first | rfl | (exfalso; omega)))); (try (first | (exfalso; omega) | simp_all)))), Lib.hid (hx.out.trans (by repeat (first | exact Ext.refl _ | refine Ext.alloc ?_ _ | refine Ext.more ?_ _ _ | refine Ext.drew ?_ | refine Ext.drewN ?_ _ | refine Ext.setCell ?_ (by simp <;> omega) _)))⟩
        case rest =>
          obtain ⟨g, h, rfl, rfl, G, H, X⟩ := hcut
          obtain ⟨lg, x0, x1, x2, x3, x4, x5, x6, x7⟩ := part_cells G.out
          obtain ⟨lh, y0, y1, y2, y3, y4, y5, y6, y7⟩ := part_cells H.out
          clear d0 d1 d2 d3 d4 d5 d6 d7 e0 e1 e2 e3 e4 e5 e6 e7 hb hb'
          go_upto_region 7 with fail
          go_cut [83] (fun t wx => t = .bool (!(headB p.nd q.nd)) ∧ wc = wx)
          case first =>
            obtain ⟨⟨s1, k1, l1, i1, h1', o1, ks1, m1⟩, kA1, kc1⟩ := p
            obtain ⟨⟨s2, k2, l2, i2, h2', o2, ks2, m2⟩, kA2, kc2⟩ := q
            dsimp only at *
            go_wp2_with go_in
            all_goals go_meet
            all_goals exact ⟨by unfold headB; simp_all [bne], rfl⟩
          case rest =>
            obtain ⟨rfl, rfl⟩ := hcut
            obtain ⟨hb, hhb⟩ : ∃ hb, headB p.nd q.nd = hb := ⟨_, rfl⟩
            have HHB := Lib.hid hhb
            rw [hhb]
            clear hhb x0 x1 x2 x3 x4 x5 x7 y0 y1 y2 y3 y4 y5 y7
            cases hb with
            | false =>
              go_wp2_with fail
              go_ret
              refine ⟨ret_bool ?_, X.out⟩
              symm
              refine decide_eq_false fun heq => headB_no HHB.out ?_
              have h1 := nds_get HPP.out
              rw [heq, nds_get HQQ.out] at h1
              injection h1 with h1
              exact h1.symm
            | true =>
              have hkl := (headB_yes HHB.out).1
              have HKL := Lib.hid hkl
              have ko1 := Nat.le_trans HPO.out.cap HPO.out.top
              have ko2 := HPO.out.cap
              have ko3 := HQO.out.cap
              have ko4 := HQO.out.top
              clear hkl
              go_wp2_with fail
              go_loopw [8] (fun i wr2 => ∃ k : Nat, k ≤ p.nd.kids.length ∧ i = .int .i64 k ∧ Hid (p.nd.kids.take k = q.nd.kids.take k) ∧ Hid (Ext wc wr2)) (fun i _ => p.nd.kids.length - (intOf i).toNat)
              case atStart => exact ⟨0, Nat.zero_le _, rfl, Lib.hid rfl, Lib.hid (Ext.refl _)⟩
              case round =>
                obtain ⟨k, hk, rfl, hkt, hx2⟩ := hrel
                have XX := Lib.hid (X.out.trans hx2.out)
                obtain ⟨mg, _, _, _, _, _, _, x6, _⟩ := part_cells (ext_block G.out hx2.out)
                obtain ⟨mh, _, _, _, _, _, _, y6, _⟩ := part_cells (ext_block H.out hx2.out)
                by_cases hkl : k < p.nd.kids.length
                · have hkl' : k < q.nd.kids.length := by have := HKL.out; omega
                  obtain ⟨b1, o1, hA1, hb1, hc1⟩ := (HPO.out.ext XX.out).kids (by omega)
                  obtain ⟨b2, o2, hA2, hb2, hc2⟩ := (HQO.out.ext XX.out).kids (by omega)
                  have c1 := hc1 k hkl
                  have c2 := hc2 k hkl'
                  rw [hA1] at x6
                  rw [hA2] at y6
                  have hti := take_next hkl
                  have htj := take_next hkl'
                  generalize p.nd.kids.getD k 0 = u at *
                  generalize q.nd.kids.getD k 0 = v at *
                  have HTI := Lib.hid hti
                  have HTJ := Lib.hid htj
                  clear hc1 hc2 hA1 hA2 hti htj
                  by_cases e : u = v
                  · have e1 : (u != v) = false := by simp [e]
                    have E := Lib.hid e
                    clear e
                    go_upto_region 12 with fail
                    go_quiet (fail)
                    go_wp2_with fail
                    go_roundw
                    case rel => exact ⟨k + 1, by omega, by go_num, Lib.hid (by rw [HTI.out, HTJ.out, hkt.out, E.out]), Lib.hid (hx2.out.trans (by repeat (first | exact Ext.refl _ | refine Ext.alloc ?_ _ | refine Ext.more ?_ _ _ | refine Ext.drew ?_ | refine Ext.drewN ?_ _ | refine Ext.setCell ?_ (by simp <;> omega) _)))⟩
                    case measure => simp [intOf]; omega
                  · have e1 : (u != v) = true := by simp [e]
                    have E := Lib.hid e
                    clear e
                    go_upto_region 12 with fail
                    go_quiet (fail)
                    go_wp2_with fail
                    go_ret
                    refine ⟨ret_bool ?_, XX.out.trans (by repeat (first | exact Ext.refl _ | refine Ext.alloc ?_ _ | refine Ext.more ?_ _ _ | refine Ext.drew ?_ | refine Ext.drewN ?_ _ | refine Ext.setCell ?_ (by simp <;> omega) _))⟩
                    symm
                    refine decide_eq_false fun heq => E.out ?_
                    have h1 := nds_get HPP.out
                    rw [heq, nds_get HQQ.out] at h1
                    injection h1 with h1
                    have h2 := HTI.out
                    rw [← h1, HTJ.out, ← hkt.out] at h2
                    exact (List.singleton_inj.1 (List.append_cancel_left h2)).symm
                · obtain rfl : k = p.nd.kids.length := by omega
                  have HEQ : Hid (p.nd = q.nd) := Lib.hid ((headB_yes HHB.out).2 (by
                    have h1 := hkt.out
                    have h2 := HKL.out
                    rwa [List.take_of_length_le (Nat.le_refl _), List.take_of_length_le (by omega)] at h1))
                  go_wp2_with fail
                  go_roundw
                  case rel => exact ⟨j + 1, by omega, by go_num, Lib.hid (by rw [takeNd (nds_get HPP.out), takeNd (nds_get HQQ.out), he.out, HEQ.out]), XX⟩
                  case measure => simp [intOf]; omega
      · obtain rfl : j = ps.length := by omega
        go_wp2_with fail
        go_ret
        refine ⟨ret_bool ?_, hx.out⟩
        symm
        rw [decide_eq_true_eq]
        have := he.out
        have h2 := HLEN.out
        rwa [List.take_of_length_le (by rw [nds_length]; omega), List.take_of_length_le (by rw [nds_length]; omega)] at this
  · go_enter Try.func27, Try.ntmps27
    go_wp2_with fail
    go_ret
    exact ⟨ret_bool (by symm; exact decide_eq_false fun h => hlen (by have := congrArg List.length h; rwa [nds_length, nds_length] at this)), (by repeat (first | exact Ext.refl _ | refine Ext.alloc ?_ _ | refine Ext.more ?_ _ _ | refine Ext.drew ?_ | refine Ext.drewN ?_ _ | refine Ext.setCell ?_ (by simp <;> omega) _))⟩
end Go.Proofs.Ytggmljookcmnkaa
