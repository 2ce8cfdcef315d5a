/- The contract of the document's Put (viewportref16). -/
import Derived.Test.YtggmljookcmnkaaR5
import Derived.Test.YtggmljookcmnkaaD5
import Derived.WalkSpells
import Derived.WalkLawsBesides
import Derived.BigRegion
import Derived.Deep.RegionWith
import Derived.Deep.QuietTactic
import Derived.Deep.DeepCutAuto
import Derived.Deep.RegionHeld3
import Derived.Deep.RegionLaw
import Derived.BigQuiet
import Derived.Lib.Hide
namespace Go.Proofs.Ytggmljookcmnkaa
open Go.RowKit
attribute [local go_sem] more_drew more_drewN more_size more_cell more_frozen more_setCell drew_more drewN_more lt_add_r lt_add_r2 lt_add_r3 lt_add_r4 lt_add_r5 lt_add_r6 lt_add_r7 lt_add_r8 lt_add_r9 lt_add_r10 lt_self_r lt_self_r2

section
variable {A B : Option Addr} {c d : Nat} {ps ss : List Prt} {w : World}
set_option maxRecDepth 100000 in
set_option maxHeartbeats 1000000 in
theorem rPut_no1 (i : Int) (h : PS w A c ps) (T : ¬ Tree (nds ps)) (v : Value) : Calls Try.prog 52 #[.slice A ps.length c, .int .i64 i, v] w fun e w' => e = .returned (.tuple #[.slice none 0 0, .int .i64 2]) ∧ Ext w w' := by
  have CH := Lib.hid (rcheck_no h T)
  clear h T
  go_enter Try.func52, Try.ntmps52
  go_wp2_with fail
  refine CH.out.mono ?_
  rintro e w3 ⟨rfl, hx3⟩
  have HX3 := Lib.hid hx3
  clear hx3
  go_wp2_with fail
  go_ret2
  exact ⟨rfl, HX3.out⟩
set_option maxRecDepth 100000 in
set_option maxHeartbeats 1000000 in
theorem rPut_no2 (i : Int) (h : PS w A c ps) (T : Tree (nds ps)) (hs : PS w B d ss) (T2 : ¬ Tree (nds ss)) : Calls Try.prog 52 #[.slice A ps.length c, .int .i64 i, .slice B ss.length d] w fun e w' => e = .returned (.tuple #[.slice none 0 0, .int .i64 2]) ∧ Ext w w' := by
  have CH := Lib.hid (rcheck_ok h T)
  have CS := Lib.hid (fun w1 (x : Ext w w1) => rcheck_no (hs.ext x) T2)
  clear h T hs T2
  go_enter Try.func52, Try.ntmps52
  go_wp2_with fail
  refine CH.out.mono ?_
  rintro e w3 ⟨rfl, hx3⟩
  have HX3 := Lib.hid hx3
  clear hx3
  go_wp2_with fail
  refine (CS.out _ HX3.out).mono ?_
  rintro e w4 ⟨rfl, hx4⟩
  have HX4 : Hid (Ext w w4) := Lib.hid (HX3.out.trans hx4)
  clear hx4
  go_wp2_with fail
  go_ret2
  exact ⟨rfl, HX4.out⟩
set_option maxRecDepth 100000 in
set_option maxHeartbeats 2000000 in
theorem rPut_bad (i : Int) (h : PS w A c ps) (T : Tree (nds ps)) (hs : PS w B d ss) (T2 : Tree (nds ss)) (hn : ¬ FitsP (nds ps) (nds ss) i) : Calls Try.prog 52 #[.slice A ps.length c, .int .i64 i, .slice B ss.length d] w fun e w' => e = .returned (.tuple #[.slice none 0 0, .int .i64 2]) ∧ Ext w w' := by
  have CH := Lib.hid (rcheck_ok h T)
  have CS := Lib.hid (fun w1 (x : Ext w w1) => rcheck_ok (hs.ext x) T2)
  have HL := h.few.len
  have hs0 := T2.pos
  rw [nds_length] at hs0
  have HS := Lib.hid hs
  have H := Lib.hid h
  have HN := Lib.hid hn
  have hcp := h.cap
  have htp := h.top
  have hdp := hs.cap
  have hdt := hs.top
  clear h T hs T2 hn
  go_enter Try.func52, Try.ntmps52
  go_wp2_with fail
  refine CH.out.mono ?_
  rintro e w3 ⟨rfl, hx3⟩
  have HX3 := Lib.hid hx3
  clear hx3
  go_wp2_with fail
  refine (CS.out _ HX3.out).mono ?_
  rintro e w4 ⟨rfl, hx4⟩
  have HX4 : Hid (Ext w w4) := Lib.hid (HX3.out.trans hx4)
  clear hx4
  go_upto_region 6 with fail
  go_cut [80] (fun t wx => t = .bool true ∧ Hid (Ext w4 wx))
  case first =>
    rcases Int.lt_or_le i 0 with hi0 | hi0
    · have g0 : decide (i < 0) = true := decide_eq_true hi0
      clear hi0
      go_quiet (fail)
      go_wp2_with fail
      go_meet
      exact ⟨rfl, Lib.hid (by repeat (first | exact Ext.refl _ | refine Ext.alloc ?_ _ | refine Ext.more ?_ _ _ | refine Ext.drew ?_ | refine Ext.drewN ?_ _ | refine Ext.setCell ?_ (by simp <;> omega) _))⟩
    · have g0 : decide (i < 0) = false := decide_eq_false (by omega)
      rcases Int.lt_or_le i (ps.length : Int) with hi1 | hi1
      · obtain ⟨j, rfl⟩ : ∃ j : Nat, i = (j : Int) := ⟨i.toNat, by omega⟩
        have hjl : j < ps.length := by omega
        have g1 : decide (ps.length ≤ j) = false := decide_eq_false (by omega)
        obtain ⟨p, hp⟩ : ∃ p, ps[j]? = some p := ⟨_, List.getElem?_eq_getElem hjl⟩
        obtain ⟨q, hq⟩ : ∃ q, ss[0]? = some q := ⟨_, List.getElem?_eq_getElem hs0⟩
        obtain ⟨b1, o1, rfl, hb1, hc1⟩ := (H.out.ext HX4.out).parts (by omega)
        obtain ⟨b2, o2, rfl, hb2, hc2⟩ := (HS.out.ext HX4.out).parts (by omega)
        obtain ⟨x0, x1, x2, _, x4, _⟩ := hc1 j p hp
        obtain ⟨y0, y1, y2, _, y4, _⟩ := hc2 0 q hq
        simp only [Nat.zero_mul, Nat.add_zero] at y0 y1 y2 y4
        have HF := Lib.hid (fun (a : p.nd.sym = q.nd.sym) (b : p.nd.kind = q.nd.kind) (cc : p.nd.lo = q.nd.lo) (dd : p.nd.hi = q.nd.hi) => HN.out ⟨j, p.nd, q.nd, rfl, nds_get hp, nds_get hq, a, b, cc, dd⟩)
        clear hc1 hc2 hp hq hi0 hi1
        by_cases a1 : p.nd.sym = q.nd.sym
        · have k1 : (p.nd.sym != q.nd.sym) = false := by simp [a1]
          have A1 := Lib.hid a1
          clear a1
          by_cases a2 : p.nd.kind = q.nd.kind
          · have k2 : (p.nd.kind != q.nd.kind) = false := by simp [a2]
            have A2 := Lib.hid a2
            clear a2
            by_cases a3 : p.nd.lo = q.nd.lo
            · have k3 : (p.nd.lo != q.nd.lo) = false := by simp [a3]
              have A3 := Lib.hid a3
              clear a3
              by_cases a4 : p.nd.hi = q.nd.hi
              · exact absurd a4 (fun a4 => HF.out A1.out A2.out A3.out a4)
              · have k4 : (p.nd.hi != q.nd.hi) = true := by simp [a4]
                clear a4
                go_quiet (fail)
                go_wp2_with fail
                go_meet
                exact ⟨rfl, Lib.hid (by repeat (first | exact Ext.refl _ | refine Ext.alloc ?_ _ | refine Ext.more ?_ _ _ | refine Ext.drew ?_ | refine Ext.drewN ?_ _ | refine Ext.setCell ?_ (by simp <;> omega) _))⟩
            · have k3 : (p.nd.lo != q.nd.lo) = true := by simp [a3]
              clear a3
              go_quiet (fail)
              go_wp2_with fail
              go_meet
              exact ⟨rfl, Lib.hid (by repeat (first | exact Ext.refl _ | refine Ext.alloc ?_ _ | refine Ext.more ?_ _ _ | refine Ext.drew ?_ | refine Ext.drewN ?_ _ | refine Ext.setCell ?_ (by simp <;> omega) _))⟩
          · have k2 : (p.nd.kind != q.nd.kind) = true := by simp [a2]
            clear a2
            go_quiet (fail)
            go_wp2_with fail
            go_meet
            exact ⟨rfl, Lib.hid (by repeat (first | exact Ext.refl _ | refine Ext.alloc ?_ _ | refine Ext.more ?_ _ _ | refine Ext.drew ?_ | refine Ext.drewN ?_ _ | refine Ext.setCell ?_ (by simp <;> omega) _))⟩
        · have k1 : (p.nd.sym != q.nd.sym) = true := by simp [a1]
          clear a1
          go_quiet (fail)
          go_wp2_with fail
          go_meet
          exact ⟨rfl, Lib.hid (by repeat (first | exact Ext.refl _ | refine Ext.alloc ?_ _ | refine Ext.more ?_ _ _ | refine Ext.drew ?_ | refine Ext.drewN ?_ _ | refine Ext.setCell ?_ (by simp <;> omega) _))⟩
      · have g1 : decide ((ps.length : Int) ≤ i) = true := decide_eq_true hi1
        clear hi0 hi1
        go_quiet (fail)
        go_wp2_with fail
        go_meet
        exact ⟨rfl, Lib.hid (by repeat (first | exact Ext.refl _ | refine Ext.alloc ?_ _ | refine Ext.more ?_ _ _ | refine Ext.drew ?_ | refine Ext.drewN ?_ _ | refine Ext.setCell ?_ (by simp <;> omega) _))⟩
  case rest =>
    obtain ⟨rfl, hx5⟩ := hcut
    go_wp2_with fail
    go_ret2
    exact ⟨rfl, HX4.out.trans hx5.out⟩

/-- where a part's kids are copied, each by a function -/
structure MvF (w : World) (m : Nat) (v : Value) (qs : List Prt) (p : Prt) (f : Int → Int) (k : Nat) (A : Option Addr) (c : Nat) (W : World) : Prop where
  low : Low m W (fun U => RowP U w.heap.size v qs ∧ Below w.heap.size w U)
  part : W.heap[m]? = some (.cells (prtCells ⟨{ p.nd with kids := (p.nd.kids.take k).map f }, A, c⟩).toArray 33)
  own : OwnI W m A c ((p.nd.kids.take k).map f)
theorem MvF.rowP {m : Nat} {v : Value} {qs : List Prt} {p : Prt} {f : Int → Int} {k : Nat} {W : World} (h : MvF w m v qs p f k A c W) : RowP W w.heap.size v qs :=
  Low.up (Φ := fun U => RowP U w.heap.size v qs) (h.low.imp fun _ h => h.1) fun _ h e => h.below e
theorem MvF.below {m : Nat} {v : Value} {qs : List Prt} {p : Prt} {f : Int → Int} {k : Nat} {W : World} (h : MvF w m v qs p f k A c W) : Below w.heap.size w W :=
  Low.up (Φ := Below w.heap.size w) (h.low.imp fun _ h => h.2) fun _ h e => h.trans (e.mono h.size)
theorem MvF.step {wr w8 : World} {m : Nat} {v v' : Value} {qs : List Prt} {p : Prt} {f : Int → Int} {k : Nat} {x y : Int} (h : MvF w m v qs p f k A c wr) (hk : p.nd.kids[k]? = some x) (hy : f x = y)
    (hr : RowI w8 m v' ((p.nd.kids.take k).map f ++ [y])) (hg : (wr.alloc (.cells #[.int .i64 y] 3)).grownBy w8 (Value.slice A ((p.nd.kids.take k).map f).length c).ownBlock) :
    ∃ A' ln c', v' = .slice A' ln c' ∧ w8.frozen? ⟨m, 6, none⟩ = false ∧ m < w8.heap.size ∧ (∃ z, w8.cell? ⟨m, 6, none⟩ = some z) ∧ MvF w m v qs p f (k + 1) A' c' (w8.setCell ⟨m, 6, none⟩ (.slice A' ln c')) := by
  have HTK : (p.nd.kids.take (k + 1)).map f = (p.nd.kids.take k).map f ++ [y] := by
    obtain ⟨hl', hx'⟩ := List.getElem?_eq_some_iff.1 hk
    rw [List.take_succ_eq_append_getElem hl', List.map_append, hx', List.map_cons, hy]
    rfl
  have HL := h.low
  have HP := h.part
  have HO := h.own
  obtain ⟨xs, hxs⟩ : ∃ xs, (p.nd.kids.take k).map f = xs := ⟨_, rfl⟩
  rw [hxs] at HTK HP HO hr hg
  obtain ⟨A', c', hv', ho'⟩ := hr
  have hbn : some m ≠ (Value.slice A xs.length c).ownBlock := fun he => by
    obtain ⟨cur, h2⟩ := own_obj HO m he.symm
    rw [HP] at h2
    injection h2 with h2
    injection h2 with _ h2
    exact absurd h2 (by decide)
  have hm0 := lt_of_heap HP
  have hm1 : w8.heap[m]? = some (.cells (prtCells ⟨{ p.nd with kids := xs }, A, c⟩).toArray 33) := (hg.block m (by simp; omega) hbn).trans (ext_block HP (by repeat (first | exact Ext.refl _ | refine Ext.alloc ?_ _ | refine Ext.more ?_ _ _ | refine Ext.drew ?_ | refine Ext.drewN ?_ _ | refine Ext.setCell ?_ (by simp <;> omega) _)))
  have hown : ∀ g, (Value.slice A' (xs ++ [y]).length c').ownBlock = some g → g ≠ m := fun g hg he => by
    obtain ⟨cur, h2⟩ := own_obj ho' g hg
    rw [he, hm1] at h2
    injection h2 with h2
    injection h2 with _ h2
    exact absurd h2 (by decide)
  have fm : w8.frozen? ⟨m, 6, none⟩ = false := by simp [World.frozen?, hm1]
  have km := cell_of_row _ _ 6 _ _ _ hm1
  simp [prtCells] at km
  have T0 : Turn (fun k => m ≤ k) wr (wr.alloc (.cells #[.int .i64 y] 3)) := Turn.of_ext (by repeat (first | exact Ext.refl _ | refine Ext.alloc ?_ _ | refine Ext.more ?_ _ _ | refine Ext.drew ?_ | refine Ext.drewN ?_ _ | refine Ext.setCell ?_ (by simp <;> omega) _))
  have T1 : Turn (fun k => m ≤ k) (wr.alloc (.cells #[.int .i64 y] 3)) w8 := Turn.grown hg fun k hk _ => own_block HO k hk
  have T2 : Turn (fun k => m ≤ k) w8 (w8.setCell ⟨m, 6, none⟩ (.slice A' (xs ++ [y]).length c')) := Turn.setCell w8 (p := ⟨m, 6, none⟩) (Nat.le_refl m) _
  have TT := (T0.trans T1).trans T2
  refine ⟨A', (xs ++ [y]).length, c', hv', fm, lt_of_heap hm1, ⟨_, km⟩, HL.below (TT.below (by omega) fun k hk => hk), ?_, ?_⟩
  · rw [HTK]
    simp [World.setCell, Array.getElem?_modify, hm1, prtCells]
  · rw [HTK]
    refine own_keep ho' fun g hg => ?_
    have := hown g hg
    simp [World.setCell, Array.getElem?_modify, Ne.symm this]
theorem RowP.rowQ {base kb : Nat} {v : Value} {qs : List Prt} (h : RowP w base v qs) (hb : kb ≤ base) : RowQ w base kb v qs := by
  obtain ⟨A, c, hv, ho⟩ := h
  exact ⟨A, c, hv, ho.row, fun q hq => (ho.kids q hq).base hb, ho.fine⟩
set_option maxRecDepth 100000 in
set_option maxHeartbeats 4000000 in
theorem rPut_ok (i m : Nat) (h : PS w A c ps) (T : Tree (nds ps)) (hs : PS w B d ss) (T2 : Tree (nds ss)) (hf : FitsP (nds ps) (nds ss) i) (hp : Part (nds ps) i m) :
    Calls Try.prog 52 #[.slice A ps.length c, .int .i64 i, .slice B ss.length d] w (PartsErr w (putF (nds ps) i m (nds ss)) 0) := by
  have CH := Lib.hid (rcheck_ok h T)
  have CS := Lib.hid (fun w1 (x : Ext w w1) => rcheck_ok (hs.ext x) T2)
  have HL := h.few.len
  have HL2 := hs.few.len
  have hs0 := T2.pos
  rw [nds_length] at hs0
  have hjl := hp.lt
  have hme := hp.lt_end
  have hml := hp.le
  rw [nds_length] at hjl hml
  have HS := Lib.hid hs
  have H := Lib.hid h
  have hcp := h.cap
  have htp := h.top
  have hdp := hs.cap
  have hdt := hs.top
  have HP := Lib.hid hp
  have HT := Lib.hid T
  have HT2 := Lib.hid T2
  obtain ⟨i', p, q, hi', hpi, hq0, f1, f2, f3, f4⟩ := hf
  obtain rfl : i = i' := by omega
  obtain ⟨pp, hpp, rfl⟩ := nds_get' hpi
  obtain ⟨qq, hqq, rfl⟩ := nds_get' hq0
  have CE := Lib.hid (fun (V : World) (x : Ext w V) => by
    obtain ⟨ok, m', ht⟩ := trek_all (nds ps) ps.length pp.nd.kids (i + 1) (by rw [nds_length]; omega)
    have := rend_any A c ps ps.length i m' ok pp V (h.ext x) (by omega) hpp ht
    rw [endR_tree T (nds_get hpp) hp ht] at this
    exact this)
  obtain ⟨b1, o1, rfl, hb1, hc1⟩ := h.parts (by omega)
  obtain ⟨b2, o2, rfl, hb2, hc2⟩ := hs.parts (by omega)
  obtain ⟨x0, x1, x2, _, x4, _⟩ := hc1 i pp hpp
  obtain ⟨y0, y1, y2, _, y4, _⟩ := hc2 0 qq hqq
  simp only [Nat.zero_mul, Nat.add_zero] at y0 y1 y2 y4
  rw [f1] at x0
  rw [f2] at x1
  rw [f3] at x2
  rw [f4] at x4
  clear h T hs T2 hp hc1 hc2 hi' hpi hq0 hpp hqq f1 f2 f3 f4
  go_enter Try.func52, Try.ntmps52
  go_wp2_with fail
  refine CH.out.mono ?_
  rintro e w3 ⟨rfl, hx3⟩
  have HX3 := Lib.hid hx3
  clear hx3
  go_wp2_with fail
  refine (CS.out _ HX3.out).mono ?_
  rintro e w4 ⟨rfl, hx4⟩
  have HX4 : Hid (Ext w w4) := Lib.hid (HX3.out.trans hx4)
  have z0 := (HX4.out.below.cell (p := ⟨b1, o1 + i * 8, none⟩) hb1).trans x0
  have z1 := (HX4.out.below.cell (p := ⟨b1, o1 + i * 8 + 1, none⟩) hb1).trans x1
  have z2 := (HX4.out.below.cell (p := ⟨b1, o1 + i * 8 + 2, none⟩) hb1).trans x2
  have z4 := (HX4.out.below.cell (p := ⟨b1, o1 + i * 8 + 4, none⟩) hb1).trans x4
  have u0 := (HX4.out.below.cell (p := ⟨b2, o2, none⟩) hb2).trans y0
  have u1 := (HX4.out.below.cell (p := ⟨b2, o2 + 1, none⟩) hb2).trans y1
  have u2 := (HX4.out.below.cell (p := ⟨b2, o2 + 2, none⟩) hb2).trans y2
  have u4 := (HX4.out.below.cell (p := ⟨b2, o2 + 4, none⟩) hb2).trans y4
  have hbw1 := Nat.lt_of_lt_of_le hb1 HX4.out.size
  have hbw2 := Nat.lt_of_lt_of_le hb2 HX4.out.size
  have g0 : decide ((i : Int) < 0) = false := decide_eq_false (by omega)
  have g1 : decide (ps.length ≤ i) = false := decide_eq_false (by omega)
  clear hx4 x0 x1 x2 x4 y0 y1 y2 y4 HX3 CH CS
  go_upto_region 6 with fail
  go_quiet (fail)
  clear z0 z1 z2 z4 u0 u1 u2 u4 g0 g1 hbw1 hbw2
  have X5 : Hid (Ext w (w4.drewN nq)) := Lib.hid (HX4.out.trans (by repeat (first | exact Ext.refl _ | refine Ext.alloc ?_ _ | refine Ext.more ?_ _ _ | refine Ext.drew ?_ | refine Ext.drewN ?_ _ | refine Ext.setCell ?_ (by simp <;> omega) _)))
  go_wp2_with fail
  refine (CE.out _ X5.out).mono ?_
  rintro e w6 ⟨rfl, hx6⟩
  have X6 : Hid (Ext w w6) := Lib.hid (X5.out.trans hx6)
  clear hx6 X5 HX4 CE
  obtain ⟨By, hBy⟩ : ∃ By : Int, (ss.length : Int) - ((m : Int) - (i : Int)) = By := ⟨_, rfl⟩
  have hByb : -1000 ≤ By ∧ By ≤ 1000 := by omega
  have HBy := Lib.hid hBy
  go_upto_region 12 with fail
  clear hBy
  have AH : Hid (∀ p ∈ ps, ∀ x ∈ p.nd.kids, I64 (aheadK (i : Int) By x) ∧ IntKind.i64.wrap (x + By) = x + By ∧ wrap64 (x + By) = x + By) := Lib.hid (by
    intro p hp x hx
    obtain ⟨k, rfl, hk⟩ := HT.out.kidsOk p hp x hx
    refine ⟨by unfold aheadK I64; split <;> omega, IntWalk.i64_in _ (by omega), IntWalk.wrap64_in _ (by omega)⟩)
  go_wp2_with fail
  go_loopw [11, 12] (fun v i' wr => ∃ (j : Nat) (qs : List Prt), j ≤ i ∧ i' = .int .i64 j ∧ Hid (qs.length = j ∧ nds qs = ((nds ps).take j).map (Nd.by (aheadK (i : Int) By))) ∧ Hid (RowP wr w.heap.size v qs) ∧ Hid (Ext w wr)) (fun _ x _ => i - (intOf x).toNat)
  case atStart => exact ⟨0, [], Nat.zero_le _, rfl, Lib.hid ⟨rfl, rfl⟩, Lib.hid ⟨none, 0, rfl, OwnP.nil _ _⟩, X6⟩
  case round =>
    obtain ⟨j, qs, hj, rfl, hq, hr, hx⟩ := hrel
    by_cases hlt : j < i
    · obtain ⟨p, hp⟩ : ∃ p, ps[j]? = some p := ⟨_, List.getElem?_eq_getElem (by omega)⟩
      obtain ⟨b', off', hA', hb, hcell⟩ := (H.out.ext hx.out).parts (by omega)
      injection hA' with hA'
      injection hA' with ea eb
      subst ea eb
      obtain ⟨d0, d1, d2, d3, d4, d5, d6, d7⟩ := hcell j _ hp
      have hpo := H.out.oks.get hp
      have hkn := H.out.few.kids_le (List.mem_of_getElem? hp)
      have HSS : Hid (((nds ps).take (j + 1)).map (Nd.by (aheadK (i : Int) By)) = ((nds ps).take j).map (Nd.by (aheadK (i : Int) By)) ++ [p.nd.by (aheadK (i : Int) By)]) := Lib.hid (by
        have h1 := nds_get hp
        rw [List.getElem?_eq_getElem (by rw [nds_length]; omega)] at h1
        injection h1 with h1
        rw [List.take_succ_eq_append_getElem (by rw [nds_length]; omega), h1, List.map_append]
        rfl)
      have HPO := Lib.hid hpo
      have HPP := Lib.hid hp
      have HFK := Lib.hid (AH.out p (List.mem_of_getElem? hp))
      clear hcell hp hpo
      go_upto_region 18 with fail
      obtain ⟨m2, hm2⟩ : ∃ m2, wr.heap.size = m2 := ⟨_, rfl⟩
      obtain ⟨W4, hW4⟩ : ∃ W4, wr.alloc (.cells #[.int .i64 p.nd.sym, .int .i64 p.nd.kind, .int .i64 p.nd.lo, .int .i64 p.nd.inn, .int .i64 p.nd.hi, .int .i64 p.nd.look, .slice none 0 0, .int .u64 p.nd.met] 33) = W4 := ⟨_, rfl⟩
      have X4 : Ext wr W4 := by rw [← hW4]; exact (by repeat (first | exact Ext.refl _ | refine Ext.alloc ?_ _ | refine Ext.more ?_ _ _ | refine Ext.drew ?_ | refine Ext.drewN ?_ _ | refine Ext.setCell ?_ (by simp <;> omega) _))
      have P4 : W4.heap[m2]? = some (.cells (prtCells ⟨{ p.nd with kids := (p.nd.kids.take 0).map (aheadK (i : Int) By) }, none, 0⟩).toArray 33) := by
        rw [← hW4, ← hm2]
        exact heap_alloc_new _ _
      have MV0 : Hid (MvF w m2 u11 qs p (aheadK (i : Int) By) 0 none 0 W4) := Lib.hid ⟨⟨wr, hm2, (X4.below).mono (by omega), hr.out, hx.out.below⟩, P4, World.ownsRow_nil _ _ _ _⟩
      have HWM : Hid (w.heap.size ≤ m2) := Lib.hid (by have := hx.out.size; omega)
      obtain ⟨wr0, hwr0⟩ : ∃ wr0 : World, wr0.heap.size = m2 := ⟨wr, hm2⟩
      have HWR := Lib.hid hwr0
      rw [hm2, hW4]
      clear hW4 X4 P4 d0 d1 d2 d3 d4 d5 d6 d7 hwr0 hm2
      go_wp2_with fail
      go_loopw [14, 15] (fun v _ wr2 => ∃ (k : Nat) (A2 : Option Addr) (c2 : Nat), k ≤ p.nd.kids.length ∧ v = .int .i64 k ∧ Hid (MvF w m2 u11 qs p (aheadK (i : Int) By) k A2 c2 wr2)) (fun v _ _ => p.nd.kids.length - (intOf v).toNat)
      case atStart => exact ⟨0, none, 0, Nat.zero_le _, rfl, MV0⟩
      case round =>
        obtain ⟨k, A2, c2, hk, rfl, hmv⟩ := hrel
        obtain ⟨b', off', hA', hb', hcell⟩ := (H.out.parts.below hmv.out.below) (by omega)
        injection hA' with hA'
        injection hA' with ea eb
        subst ea eb
        have d6 := (hcell j p HPP.out).2.2.2.2.2.2.1
        obtain ⟨ly, y0, y1, y2, y3, y4, y5, y6, y7⟩ := part_cells hmv.out.part
        have f6 : wr.frozen? ⟨m2, 6, none⟩ = false := by simp [World.frozen?, hmv.out.part]
        have ko1 := HPO.out.cap
        have ko2 := HPO.out.top
        clear hcell
        by_cases hkl : k < p.nd.kids.length
        · obtain ⟨x, hxk⟩ : ∃ x, p.nd.kids[k]? = some x := ⟨_, List.getElem?_eq_getElem hkl⟩
          obtain ⟨bk, offk, hkA, hbk, hck⟩ := (HPO.out.below hmv.out.below).kids (by omega)
          have e1 := hck k hkl
          rw [List.getD_eq_getElem?_getD, hxk] at e1
          dsimp only [Option.getD_some] at e1
          obtain ⟨y, hy⟩ : ∃ y, aheadK (i : Int) By x = y := ⟨_, rfl⟩
          obtain ⟨_, w1, w2⟩ := HFK.out x (List.mem_of_getElem? hxk)
          have HC : ((i : Int) < x ∧ wrap64 (x + By) = y) ∨ (¬ (i : Int) < x ∧ y = x) := by
            unfold aheadK at hy
            split at hy
            · rename_i h; exact .inl ⟨h, w2.trans hy⟩
            · rename_i h; exact .inr ⟨h, hy.symm⟩
          obtain ⟨xs, hxs⟩ : ∃ xs, (p.nd.kids.take k).map (aheadK (i : Int) By) = xs := ⟨_, rfl⟩
          have hxl : xs.length = k := by rw [← hxs, List.length_map, List.length_take]; omega
          have HK := Lib.hid (fun (v' : Value) (w8 : World) (hr : RowI w8 wr0.heap.size v' (xs ++ [y])) (hg : (wr.alloc (.cells #[.int .i64 y] 3)).grownBy w8 (Value.slice A2 xs.length c2).ownBlock) => hmv.out.step hxk hy (v' := v') (w8 := w8) (by rw [hxs, ← HWR.out]; exact hr) (by rw [hxs]; exact hg))
          have HR2 := Lib.hid (show RowI (wr.alloc (.cells #[.int .i64 y] 3)) wr0.heap.size (.slice A2 xs.length c2) xs from ⟨A2, c2, rfl, by rw [HWR.out, ← hxs]; exact hmv.out.own.ext (by repeat (first | exact Ext.refl _ | refine Ext.alloc ?_ _ | refine Ext.more ?_ _ _ | refine Ext.drew ?_ | refine Ext.drewN ?_ _ | refine Ext.setCell ?_ (by simp <;> omega) _))⟩)
          have HBS : Hid (wr0.heap.size ≤ (wr.alloc (.cells #[.int .i64 y] 3)).heap.size) := Lib.hid (by rw [HWR.out, World.size_alloc]; omega)
          have HXL : Hid (xs.length ≤ 1000000) := Lib.hid (by omega)
          change wr.cell? ⟨m2, 6, none⟩ = some (.slice A2 ((p.nd.kids.take k).map (aheadK (i : Int) By)).length c2) at y6
          rw [hxs] at y6
          rw [hkA] at d6
          clear hck hxk hkA hxs hxl hmv y0 y1 y2 y3 y4 y5 y7 hy w1 w2
          rcases HC with ⟨hc1, hc2⟩ | ⟨hc1, rfl⟩
          all_goals
            go_upto_region 24 with fail
            go_wp2_with (at_builtin; refine app_intO wr0 (by rfl) (.tmp 130) (.tmp 132) rfl HR2.out y wr.heap.size rfl rfl (by simp) (by simp [go_sem]) HXL.out HBS.out ?_; intro v8 w8 hr8 hg8 hb8; obtain ⟨A8, ln8, c8, rfl, q1, q2, ⟨z, q3⟩, hmv8⟩ := HK.out v8 w8 hr8 hg8; have HMV := Lib.hid hmv8; clear hr8 hg8 hb8 hmv8)
            go_roundw
            case rel => exact ⟨k + 1, A8, c8, by omega, by go_num, HMV⟩
            case measure => simp [intOf]; omega
        · obtain rfl : k = p.nd.kids.length := by omega
          have HR2 := Lib.hid hmv.out.rowP
          have HX2 : Hid (Ext w wr) := Lib.hid (Ext.of_below hmv.out.below)
          have hkk : (p.nd.kids.take p.nd.kids.length).map (aheadK (i : Int) By) = (p.nd.by (aheadK (i : Int) By)).kids := by rw [List.take_of_length_le (Nat.le_refl _)]; rfl
          have HO2 : Hid (OwnI wr w.heap.size A2 c2 (p.nd.by (aheadK (i : Int) By)).kids) := Lib.hid (hkk ▸ hmv.out.own.base HWM.out)
          have HPM : Hid (wr.heap[m2]? = some (.cells (prtCells ⟨p.nd.by (aheadK (i : Int) By), A2, c2⟩).toArray 33)) := Lib.hid (by have := hmv.out.part; rw [hkk] at this; exact this)
          have HLQ : Hid (qs.length ≤ 1000000) := Lib.hid (by have := hq.out.1; omega)
          have HFN : Hid (FineP ⟨p.nd.by (aheadK (i : Int) By), A2, c2⟩) := by
            have hf := HPO.out.fine
            exact ⟨hf.sym, hf.kind, hf.lo, hf.inn, hf.hi, hf.look, hf.met, fun k hk => by
              obtain ⟨x, hx, rfl⟩ := List.mem_map.1 hk
              exact (HFK.out x hx).1⟩
          clear hkk hmv y0 y1 y2 y3 y4 y5 y6 y7 f6
          obtain ⟨_, y0, y1, y2, y3, y4, y5, y6, y7⟩ := part_cells HPM.out
          go_wp2_with (at_builtin; refine app_part w (by rfl) (.tmp 135) (.tmp 137) rfl (HR2.out.ext (by repeat (first | exact Ext.refl _ | refine Ext.alloc ?_ _ | refine Ext.more ?_ _ _ | refine Ext.drew ?_ | refine Ext.drewN ?_ _ | refine Ext.setCell ?_ (by simp <;> omega) _))) ⟨p.nd.by (aheadK (i : Int) By), A2, c2⟩ wr.heap.size rfl rfl (cells_lit _ _ _ _ _ rfl (by simp [prtCells, Nd.by])) (HO2.out.ext (by repeat (first | exact Ext.refl _ | refine Ext.alloc ?_ _ | refine Ext.more ?_ _ _ | refine Ext.drew ?_ | refine Ext.drewN ?_ _ | refine Ext.setCell ?_ (by simp <;> omega) _))) HFN.out HLQ.out (HX2.out.trans (by repeat (first | exact Ext.refl _ | refine Ext.alloc ?_ _ | refine Ext.more ?_ _ _ | refine Ext.drew ?_ | refine Ext.drewN ?_ _ | refine Ext.setCell ?_ (by simp <;> omega) _))) ?_; intro v7 w7 hr7 hx7)
          have HR7 := Lib.hid hr7
          have HX7 := Lib.hid hx7
          clear hr7 hx7
          go_roundw
          case rel => exact ⟨j + 1, _, by omega, by go_num, Lib.hid ⟨by rw [List.length_append, hq.out.1]; rfl, by rw [HSS.out, ← hq.out.2]; simp [nds]⟩, HR7, HX7⟩
          case measure => simp [intOf]; omega
    · obtain rfl : j = i := by omega
      have KS : Hid (∀ p ∈ ss, ∀ x ∈ p.nd.kids, I64 (x + (j : Int))) := Lib.hid (by
        intro p hp x hx
        obtain ⟨k, rfl, hk⟩ := HT2.out.kidsOk p hp x hx
        unfold I64
        omega)
      have KB : Hid (∀ p ∈ (ps.drop m).take (ps.length - m), ∀ x ∈ p.nd.kids, I64 (x + By)) := Lib.hid (by
        intro p hp x hx
        obtain ⟨k, rfl, hk⟩ := HT.out.kidsOk p (List.mem_of_mem_drop (List.mem_of_mem_take hp)) x hx
        unfold I64
        omega)
      have HRQ : Hid (RowQ wr w.heap.size w.heap.size u11 qs) := Lib.hid (hr.out.rowQ (Nat.le_refl _))
      have HQL : Hid (qs.length = j) := Lib.hid hq.out.1
      have CM1 := Lib.hid (rmoved_any (j : Int) (some ⟨b2, o2, none⟩) d ss wr (HS.out.parts.ext hx.out) (HS.out.oks.ext hx.out) HS.out.few hdp KS.out)
      obtain ⟨A9, hA9⟩ : ∃ A9 : Option Addr, (if c = m then (some ⟨b1, o1, none⟩ : Option Addr) else some ⟨b1, o1 + m * 8, none⟩) = A9 := ⟨_, rfl⟩
      have P9 : Hid (Prts w A9 ((ps.drop m).take (ps.length - m))) := Lib.hid (by
        rw [← hA9]
        split
        · rename_i hcm
          have : (ps.drop m).take (ps.length - m) = [] := by rw [List.drop_eq_nil_of_le (by omega), List.take_nil]
          rw [this]
          exact Prts.nil
        · exact H.out.parts.slice m (ps.length - m))
      go_wp2_with fail
      refine CM1.out.mono ?_
      rintro e w7 ⟨A7, c7, q7, rfl, hn7, ho7, hx7⟩
      have HR7 := Lib.hid (HRQ.out.ext hx7)
      have HX7 := Lib.hid (hx.out.trans hx7)
      have HN7 := Lib.hid hn7
      have HO7 := Lib.hid (ho7.base hx.out.size)
      have l7 : q7.length = ss.length := by have := congrArg List.length hn7; simpa [nds_length] using this
      have HL7 : Hid (qs.length + q7.length ≤ 1000000) := Lib.hid (by rw [HQL.out, l7]; omega)
      have HLL := Lib.hid l7
      clear hn7 ho7 hx7 l7 CM1
      go_wp2_with (at_builtin; refine app_parts w w.heap.size (by rfl) (.tmp 139) (.tmp 142) rfl HR7.out q7 A7 c7 rfl rfl HO7.out.cells.2.2.2 HO7.out.cells.1 HO7.out.kids HO7.out.fine HL7.out HX7.out ?_; intro v8 w8 hr8 hx8; have HR8 := Lib.hid hr8; have HX8 := Lib.hid hx8; clear hr8 hx8)
      have CM2 := rmoved_any By A9 (c - m) ((ps.drop m).take (ps.length - m)) w8 (P9.out.ext HX8.out) ((H.out.oks.slice m (ps.length - m)).ext HX8.out) (H.out.few.slice m (ps.length - m)) (by rw [List.length_take, List.length_drop]; omega) KB.out
      rw [show ((ps.drop m).take (ps.length - m)).length = ps.length - m by rw [List.length_take, List.length_drop]; omega] at CM2
      have HCM2 := Lib.hid CM2
      clear CM2
      refine HCM2.out.mono ?_
      rintro e w9 ⟨A10, c10, q10, rfl, hn10, ho10, hx10⟩
      have HR10 := Lib.hid (HR8.out.ext hx10)
      have HX10 := Lib.hid (HX8.out.trans hx10)
      have HN10 := Lib.hid hn10
      have HO10 := Lib.hid (ho10.base HX8.out.size)
      have l10 : q10.length = ps.length - m := by have := congrArg List.length hn10; simp [nds_length] at this; omega
      have HL10 : Hid ((qs ++ q7).length + q10.length ≤ 1000000) := Lib.hid (by rw [List.length_append, HQL.out, HLL.out, l10]; omega)
      clear hn10 ho10 hx10 l10 HCM2
      go_wp2_with (at_builtin; refine app_parts w w.heap.size (by rfl) (.tmp 144) (.tmp 149) rfl HR10.out q10 A10 c10 rfl rfl HO10.out.cells.2.2.2 HO10.out.cells.1 HO10.out.kids HO10.out.fine HL10.out HX10.out ?_; intro v11 w11 hr11 hx11; have HR11 := Lib.hid hr11; have HX11 := Lib.hid hx11; clear hr11 hx11)
      obtain ⟨A12, c12, hv12, r1, r2, r3⟩ := HR11.out
      subst hv12
      go_ret2
      refine ⟨A12, c12, _, rfl, ?_, ⟨r1, r2, r3⟩, HX11.out⟩
      have e1 : nds (qs ++ q7 ++ q10) = nds qs ++ (nds q7 ++ nds q10) := by simp [nds]
      rw [e1, hq.out.2, HN7.out, HN10.out]
      unfold putF movedF
      rw [nds_length, HBy.out, nds_take, nds_drop, List.take_of_length_le (l := (nds ps).drop m) (by rw [List.length_drop, nds_length]; omega)]
end
end Go.Proofs.Ytggmljookcmnkaa
