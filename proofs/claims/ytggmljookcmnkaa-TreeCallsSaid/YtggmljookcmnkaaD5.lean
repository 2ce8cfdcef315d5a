/- D5: 2 texts in one. -/
import Derived.Test.YtggmljookcmnkaaD3
import Derived.Test.YtggmljookcmnkaaD4
/- The contract of Put. -/
namespace Go.Proofs.Ytggmljookcmnkaa
open Go.RowKit
attribute [local go_sem] more_drew more_drewN more_size more_cell more_frozen more_setCell drew_more drewN_more lt_add_r lt_add_r2 lt_add_r3 lt_add_r4 lt_add_r5 lt_add_r6 lt_add_r7 lt_add_r8 lt_add_r9 lt_add_r10 lt_self_r lt_self_r2

theorem put1_any (x i B : Int) (b1 b2 : Nat) (w : World) (h1 : w.heap[b1]? = some (.cells #[.int .i64 i] 3)) (h2 : w.heap[b2]? = some (.cells #[.int .i64 B] 3)) (h : I64 (x + B)) :
    Calls Try.prog 90 #[.int .i64 x, pt b1, pt b2] w fun e w' => e = .returned (.int .i64 (aheadK i B x)) ∧ Ext w w' := by
  have c1 := cell_of_row _ _ 0 _ _ _ h1
  have c2 := cell_of_row _ _ 0 _ _ _ h2
  simp at c1 c2
  have l1 := lt_of_heap h1
  have l2 := lt_of_heap h2
  have hw : IntKind.i64.wrap (x + B) = x + B := IntWalk.i64_in _ h
  unfold I64 at h
  clear h1 h2
  by_cases hc : i < x
  · have H : Hid (aheadK i B x = x + B) := Lib.hid (if_pos hc)
    go_enter Try.func90, Try.ntmps90
    go_wp2_with fail
    go_ret
    exact ⟨ret_int H.out.symm, Ext.refl _⟩
  · have H : Hid (aheadK i B x = x) := Lib.hid (if_neg hc)
    go_enter Try.func90, Try.ntmps90
    go_wp2_with fail
    go_ret
    exact ⟨ret_int H.out.symm, Ext.refl _⟩
/-- a tree fits in a part's place -/
def FitsP (l s : List Nd) (i : Int) : Prop := ∃ (j : Nat) (p q : Nd), i = (j : Int) ∧ l[j]? = some p ∧ s[0]? = some q ∧ p.sym = q.sym ∧ p.kind = q.kind ∧ p.lo = q.lo ∧ p.hi = q.hi
section
variable {A B : Option Addr} {c d : Nat} {ps ss : List Prt} {w : World}
set_option maxRecDepth 100000 in
set_option maxHeartbeats 1000000 in
theorem Put_no1 (i : Int) (h : PS w A c ps) (T : ¬ Tree (nds ps)) (v : Value) : Calls Try.prog 40 #[.slice A ps.length c, .int .i64 i, v] w fun e w' => e = .returned (.tuple #[.slice none 0 0, .int .i64 2]) ∧ Ext w w' := by
  have CH := Lib.hid (fun w1 (x : Ext w w1) => check_no (h.ext x) T)
  clear h T
  go_enter Try.func40, Try.ntmps40
  go_wp2_with fail
  refine (CH.out _ (by repeat (first | exact Ext.refl _ | refine Ext.alloc ?_ _ | refine Ext.more ?_ _ _ | refine Ext.drew ?_ | refine Ext.drewN ?_ _ | refine Ext.setCell ?_ (by simp <;> omega) _))).mono ?_
  rintro e w3 ⟨rfl, hx3⟩
  have HX3 : Hid (Ext w w3) := Lib.hid (Ext.trans (by repeat (first | exact Ext.refl _ | refine Ext.alloc ?_ _ | refine Ext.more ?_ _ _ | refine Ext.drew ?_ | refine Ext.drewN ?_ _ | refine Ext.setCell ?_ (by simp <;> omega) _)) hx3)
  clear hx3
  go_wp2_with fail
  go_ret2
  exact ⟨rfl, HX3.out⟩
set_option maxRecDepth 100000 in
set_option maxHeartbeats 1000000 in
theorem Put_no2 (i : Int) (h : PS w A c ps) (T : Tree (nds ps)) (hs : PS w B d ss) (T2 : ¬ Tree (nds ss)) : Calls Try.prog 40 #[.slice A ps.length c, .int .i64 i, .slice B ss.length d] w fun e w' => e = .returned (.tuple #[.slice none 0 0, .int .i64 2]) ∧ Ext w w' := by
  have CH := Lib.hid (fun w1 (x : Ext w w1) => check_ok (h.ext x) T)
  have CS := Lib.hid (fun w1 (x : Ext w w1) => check_no (hs.ext x) T2)
  clear h T hs T2
  go_enter Try.func40, Try.ntmps40
  go_wp2_with fail
  refine (CH.out _ (by repeat (first | exact Ext.refl _ | refine Ext.alloc ?_ _ | refine Ext.more ?_ _ _ | refine Ext.drew ?_ | refine Ext.drewN ?_ _ | refine Ext.setCell ?_ (by simp <;> omega) _))).mono ?_
  rintro e w3 ⟨rfl, hx3⟩
  have HX3 : Hid (Ext w w3) := Lib.hid (Ext.trans (by repeat (first | exact Ext.refl _ | refine Ext.alloc ?_ _ | refine Ext.more ?_ _ _ | refine Ext.drew ?_ | refine Ext.drewN ?_ _ | refine Ext.setCell ?_ (by simp <;> omega) _)) hx3)
  clear hx3
  go_wp2_with fail
  refine (CS.out _ HX3.out).mono ?_
  rintro e w4 ⟨rfl, hx4⟩
  have HX4 : Hid (Ext w w4) := Lib.hid (HX3.out.trans hx4)
  clear hx4
  go_wp2_with fail
  go_ret2
  exact ⟨rfl, HX4.out⟩
set_option maxRecDepth 100000 in
set_option maxHeartbeats 2000000 in
theorem Put_bad (i : Int) (h : PS w A c ps) (T : Tree (nds ps)) (hs : PS w B d ss) (T2 : Tree (nds ss)) (hn : ¬ FitsP (nds ps) (nds ss) i) : Calls Try.prog 40 #[.slice A ps.length c, .int .i64 i, .slice B ss.length d] w fun e w' => e = .returned (.tuple #[.slice none 0 0, .int .i64 2]) ∧ Ext w w' := by
  have CH := Lib.hid (fun w1 (x : Ext w w1) => check_ok (h.ext x) T)
  have CS := Lib.hid (fun w1 (x : Ext w w1) => check_ok (hs.ext x) T2)
  have HL := h.few.len
  have hs0 := T2.pos
  rw [nds_length] at hs0
  have HS := Lib.hid hs
  have H := Lib.hid h
  have HN := Lib.hid hn
  have hcp := h.cap
  have htp := h.top
  have hdp := hs.cap
  have hdt := hs.top
  clear h T hs T2 hn
  go_enter Try.func40, Try.ntmps40
  go_wp2_with fail
  refine (CH.out _ (by repeat (first | exact Ext.refl _ | refine Ext.alloc ?_ _ | refine Ext.more ?_ _ _ | refine Ext.drew ?_ | refine Ext.drewN ?_ _ | refine Ext.setCell ?_ (by simp <;> omega) _))).mono ?_
  rintro e w3 ⟨rfl, hx3⟩
  have HX3 : Hid (Ext w w3) := Lib.hid (Ext.trans (by repeat (first | exact Ext.refl _ | refine Ext.alloc ?_ _ | refine Ext.more ?_ _ _ | refine Ext.drew ?_ | refine Ext.drewN ?_ _ | refine Ext.setCell ?_ (by simp <;> omega) _)) hx3)
  have hb3 := ext_block (heap_alloc_new w (.cells #[.int .i64 i] 3)) hx3
  have HB3 := Lib.hid hb3
  clear hx3 hb3
  go_wp2_with fail
  refine (CS.out _ HX3.out).mono ?_
  rintro e w4 ⟨rfl, hx4⟩
  have HX4 : Hid (Ext w w4) := Lib.hid (HX3.out.trans hx4)
  have hb4 := ext_block HB3.out hx4
  have e1 := cell_of_row _ _ 0 _ _ _ hb4
  simp at e1
  have e2 := lt_of_heap hb4
  clear hx4 hb4
  go_upto_region 7 with fail
  go_cut [78] (fun t wx => t = .bool true ∧ Hid (Ext w4 wx))
  case first =>
    rcases Int.lt_or_le i 0 with hi0 | hi0
    · have g0 : decide (i < 0) = true := decide_eq_true hi0
      clear hi0
      go_quiet (fail)
      go_wp2_with fail
      go_meet
      exact ⟨rfl, Lib.hid (by repeat (first | exact Ext.refl _ | refine Ext.alloc ?_ _ | refine Ext.more ?_ _ _ | refine Ext.drew ?_ | refine Ext.drewN ?_ _ | refine Ext.setCell ?_ (by simp <;> omega) _))⟩
    · have g0 : decide (i < 0) = false := decide_eq_false (by omega)
      rcases Int.lt_or_le i (ps.length : Int) with hi1 | hi1
      · obtain ⟨j, rfl⟩ : ∃ j : Nat, i = (j : Int) := ⟨i.toNat, by omega⟩
        have hjl : j < ps.length := by omega
        have g1 : decide (ps.length ≤ j) = false := decide_eq_false (by omega)
        obtain ⟨p, hp⟩ : ∃ p, ps[j]? = some p := ⟨_, List.getElem?_eq_getElem hjl⟩
        obtain ⟨q, hq⟩ : ∃ q, ss[0]? = some q := ⟨_, List.getElem?_eq_getElem hs0⟩
        obtain ⟨b1, o1, rfl, hb1, hc1⟩ := (H.out.ext HX4.out).parts (by omega)
        obtain ⟨b2, o2, rfl, hb2, hc2⟩ := (HS.out.ext HX4.out).parts (by omega)
        obtain ⟨x0, x1, x2, _, x4, _⟩ := hc1 j p hp
        obtain ⟨y0, y1, y2, _, y4, _⟩ := hc2 0 q hq
        simp only [Nat.zero_mul, Nat.add_zero] at y0 y1 y2 y4
        have HF := Lib.hid (fun (a : p.nd.sym = q.nd.sym) (b : p.nd.kind = q.nd.kind) (cc : p.nd.lo = q.nd.lo) (dd : p.nd.hi = q.nd.hi) => HN.out ⟨j, p.nd, q.nd, rfl, nds_get hp, nds_get hq, a, b, cc, dd⟩)
        clear hc1 hc2 hp hq hi0 hi1
        by_cases a1 : p.nd.sym = q.nd.sym
        · have k1 : (p.nd.sym != q.nd.sym) = false := by simp [a1]
          have A1 := Lib.hid a1
          clear a1
          by_cases a2 : p.nd.kind = q.nd.kind
          · have k2 : (p.nd.kind != q.nd.kind) = false := by simp [a2]
            have A2 := Lib.hid a2
            clear a2
            by_cases a3 : p.nd.lo = q.nd.lo
            · have k3 : (p.nd.lo != q.nd.lo) = false := by simp [a3]
              have A3 := Lib.hid a3
              clear a3
              by_cases a4 : p.nd.hi = q.nd.hi
              · exact absurd a4 (fun a4 => HF.out A1.out A2.out A3.out a4)
              · have k4 : (p.nd.hi != q.nd.hi) = true := by simp [a4]
                clear a4
                go_quiet (fail)
                go_wp2_with fail
                go_meet
                exact ⟨rfl, Lib.hid (by repeat (first | exact Ext.refl _ | refine Ext.alloc ?_ _ | refine Ext.more ?_ _ _ | refine Ext.drew ?_ | refine Ext.drewN ?_ _ | refine Ext.setCell ?_ (by simp <;> omega) _))⟩
            · have k3 : (p.nd.lo != q.nd.lo) = true := by simp [a3]
              clear a3
              go_quiet (fail)
              go_wp2_with fail
              go_meet
              exact ⟨rfl, Lib.hid (by repeat (first | exact Ext.refl _ | refine Ext.alloc ?_ _ | refine Ext.more ?_ _ _ | refine Ext.drew ?_ | refine Ext.drewN ?_ _ | refine Ext.setCell ?_ (by simp <;> omega) _))⟩
          · have k2 : (p.nd.kind != q.nd.kind) = true := by simp [a2]
            clear a2
            go_quiet (fail)
            go_wp2_with fail
            go_meet
            exact ⟨rfl, Lib.hid (by repeat (first | exact Ext.refl _ | refine Ext.alloc ?_ _ | refine Ext.more ?_ _ _ | refine Ext.drew ?_ | refine Ext.drewN ?_ _ | refine Ext.setCell ?_ (by simp <;> omega) _))⟩
        · have k1 : (p.nd.sym != q.nd.sym) = true := by simp [a1]
          clear a1
          go_quiet (fail)
          go_wp2_with fail
          go_meet
          exact ⟨rfl, Lib.hid (by repeat (first | exact Ext.refl _ | refine Ext.alloc ?_ _ | refine Ext.more ?_ _ _ | refine Ext.drew ?_ | refine Ext.drewN ?_ _ | refine Ext.setCell ?_ (by simp <;> omega) _))⟩
      · have g1 : decide ((ps.length : Int) ≤ i) = true := decide_eq_true hi1
        clear hi0 hi1
        go_quiet (fail)
        go_wp2_with fail
        go_meet
        exact ⟨rfl, Lib.hid (by repeat (first | exact Ext.refl _ | refine Ext.alloc ?_ _ | refine Ext.more ?_ _ _ | refine Ext.drew ?_ | refine Ext.drewN ?_ _ | refine Ext.setCell ?_ (by simp <;> omega) _))⟩
  case rest =>
    obtain ⟨rfl, hx5⟩ := hcut
    go_wp2_with fail
    go_ret2
    exact ⟨rfl, HX4.out.trans hx5.out⟩
end
end Go.Proofs.Ytggmljookcmnkaa

/- The contract of Put, where it fits. -/
namespace Go.Proofs.Ytggmljookcmnkaa
open Go.RowKit
attribute [local go_sem] more_drew more_drewN more_size more_cell more_frozen more_setCell drew_more drewN_more lt_add_r lt_add_r2 lt_add_r3 lt_add_r4 lt_add_r5 lt_add_r6 lt_add_r7 lt_add_r8 lt_add_r9 lt_add_r10 lt_self_r lt_self_r2

section
variable {A B : Option Addr} {c d : Nat} {ps ss : List Prt} {w : World}
theorem ret_sl2 {A : Option Addr} {n n' c : Nat} {x : Int} (h : n = n') : Ending.returned (.tuple #[.slice A n c, .int .i64 x]) = .returned (.tuple #[.slice A n' c, .int .i64 x]) := by rw [h]
/-- a result that is a row of parts, and an errno -/
def PartsErr (w : World) (l : List Nd) (n : Int) (e : Ending) (w' : World) : Prop := ∃ A c qs, e = .returned (.tuple #[.slice A (qs : List Prt).length c, .int .i64 n]) ∧ nds qs = l ∧ OwnP w' w.heap.size A c qs ∧ Ext w w'
set_option maxRecDepth 100000 in
set_option maxHeartbeats 4000000 in
theorem Put_ok (i m : Nat) (h : PS w A c ps) (T : Tree (nds ps)) (hs : PS w B d ss) (T2 : Tree (nds ss)) (hf : FitsP (nds ps) (nds ss) i) (hp : Part (nds ps) i m) :
    Calls Try.prog 40 #[.slice A ps.length c, .int .i64 i, .slice B ss.length d] w (PartsErr w (putF (nds ps) i m (nds ss)) 0) := by
  have CH := Lib.hid (fun w1 (x : Ext w w1) => check_ok (h.ext x) T)
  have CS := Lib.hid (fun w1 (x : Ext w w1) => check_ok (hs.ext x) T2)
  have HL := h.few.len
  have HL2 := hs.few.len
  have hs0 := T2.pos
  rw [nds_length] at hs0
  have hjl := hp.lt
  have hme := hp.lt_end
  have hml := hp.le
  rw [nds_length] at hjl hml
  have HS := Lib.hid hs
  have H := Lib.hid h
  have hcp := h.cap
  have htp := h.top
  have hdp := hs.cap
  have hdt := hs.top
  have HP := Lib.hid hp
  have HT := Lib.hid T
  have HT2 := Lib.hid T2
  obtain ⟨i', p, q, hi', hpi, hq0, f1, f2, f3, f4⟩ := hf
  obtain rfl : i = i' := by omega
  obtain ⟨pp, hpp, rfl⟩ := nds_get' hpi
  obtain ⟨qq, hqq, rfl⟩ := nds_get' hq0
  obtain ⟨b1, o1, rfl, hb1, hc1⟩ := h.parts (by omega)
  obtain ⟨b2, o2, rfl, hb2, hc2⟩ := hs.parts (by omega)
  obtain ⟨x0, x1, x2, _, x4, _⟩ := hc1 i pp hpp
  obtain ⟨y0, y1, y2, _, y4, _⟩ := hc2 0 qq hqq
  simp only [Nat.zero_mul, Nat.add_zero] at y0 y1 y2 y4
  rw [f1] at x0
  rw [f2] at x1
  rw [f3] at x2
  rw [f4] at x4
  clear h T hs T2 hp hc1 hc2 hi' hpi hq0 hpp hqq f1 f2 f3 f4
  go_enter Try.func40, Try.ntmps40
  go_wp2_with fail
  refine (CH.out _ (by repeat (first | exact Ext.refl _ | refine Ext.alloc ?_ _ | refine Ext.more ?_ _ _ | refine Ext.drew ?_ | refine Ext.drewN ?_ _ | refine Ext.setCell ?_ (by simp <;> omega) _))).mono ?_
  rintro e w3 ⟨rfl, hx3⟩
  have HX3 : Hid (Ext w w3) := Lib.hid (Ext.trans (by repeat (first | exact Ext.refl _ | refine Ext.alloc ?_ _ | refine Ext.more ?_ _ _ | refine Ext.drew ?_ | refine Ext.drewN ?_ _ | refine Ext.setCell ?_ (by simp <;> omega) _)) hx3)
  have HB3 := Lib.hid (ext_block (heap_alloc_new w (.cells #[.int .i64 (i : Int)] 3)) hx3)
  clear hx3
  go_wp2_with fail
  refine (CS.out _ HX3.out).mono ?_
  rintro e w4 ⟨rfl, hx4⟩
  have HX4 : Hid (Ext w w4) := Lib.hid (HX3.out.trans hx4)
  have HB4 := Lib.hid (ext_block HB3.out hx4)
  have e1 := cell_of_row _ _ 0 _ _ _ HB4.out
  simp at e1
  have e2 := lt_of_heap HB4.out
  have z0 := (HX4.out.below.cell (p := ⟨b1, o1 + i * 8, none⟩) hb1).trans x0
  have z1 := (HX4.out.below.cell (p := ⟨b1, o1 + i * 8 + 1, none⟩) hb1).trans x1
  have z2 := (HX4.out.below.cell (p := ⟨b1, o1 + i * 8 + 2, none⟩) hb1).trans x2
  have z4 := (HX4.out.below.cell (p := ⟨b1, o1 + i * 8 + 4, none⟩) hb1).trans x4
  have u0 := (HX4.out.below.cell (p := ⟨b2, o2, none⟩) hb2).trans y0
  have u1 := (HX4.out.below.cell (p := ⟨b2, o2 + 1, none⟩) hb2).trans y1
  have u2 := (HX4.out.below.cell (p := ⟨b2, o2 + 2, none⟩) hb2).trans y2
  have u4 := (HX4.out.below.cell (p := ⟨b2, o2 + 4, none⟩) hb2).trans y4
  have hbw1 := Nat.lt_of_lt_of_le hb1 HX4.out.size
  have hbw2 := Nat.lt_of_lt_of_le hb2 HX4.out.size
  have g0 : decide ((i : Int) < 0) = false := decide_eq_false (by omega)
  have g1 : decide (ps.length ≤ i) = false := decide_eq_false (by omega)
  clear hx4 x0 x1 x2 x4 y0 y1 y2 y4
  go_upto_region 7 with fail
  go_quiet (fail)
  clear z0 z1 z2 z4 u0 u1 u2 u4 g0 g1
  have X5 : Hid (Ext w (w4.drewN nq)) := Lib.hid (HX4.out.trans (by repeat (first | exact Ext.refl _ | refine Ext.alloc ?_ _ | refine Ext.more ?_ _ _ | refine Ext.drew ?_ | refine Ext.drewN ?_ _ | refine Ext.setCell ?_ (by simp <;> omega) _)))
  have HB5 : Hid ((w4.drewN nq).heap[w.heap.size]? = some (.cells #[.int .i64 (i : Int)] 3)) := Lib.hid HB4.out
  go_wp2_with fail
  refine (end_any' i m (H.out.ext X5.out) HP.out).mono ?_
  rintro e w6 ⟨rfl, hx6⟩
  have X6 : Hid (Ext w w6) := Lib.hid (X5.out.trans hx6)
  have HB6 := Lib.hid (ext_block HB5.out hx6)
  have k1 := cell_of_row _ _ 0 _ _ _ HB6.out
  simp at k1
  have k2 := lt_of_heap HB6.out
  clear hx6 e1 e2 X5 HB5 HB4 HB3 HX3 HX4 CH CS
  go_wp2_with fail
  obtain ⟨By, hBy⟩ : ∃ By : Int, (ss.length : Int) - ((m : Int) - (i : Int)) = By := ⟨_, rfl⟩
  rw [hBy]
  have hByb : -1000 ≤ By ∧ By ≤ 1000 := by omega
  have HBy := Lib.hid hBy
  obtain ⟨W7, hW7⟩ : ∃ W7, w6.alloc (.cells #[.int .i64 By] 3) = W7 := ⟨_, rfl⟩
  have X7 : Hid (Ext w W7) := Lib.hid (hW7 ▸ X6.out.alloc _)
  have B7i : Hid (W7.heap[w.heap.size]? = some (.cells #[.int .i64 (i : Int)] 3)) := Lib.hid (hW7 ▸ ext_block HB6.out ((Ext.refl _).alloc _))
  have B7b : Hid (W7.heap[w6.heap.size]? = some (.cells #[.int .i64 By] 3)) := Lib.hid (hW7 ▸ heap_alloc_new w6 _)
  rw [hW7]
  obtain ⟨bb, hbb⟩ : ∃ bb, w6.heap.size = bb := ⟨_, rfl⟩
  rw [hbb] at B7b ⊢
  clear hW7 hBy hbb HB6 k1 k2 X6 hbw1 hbw2
  have KA : Hid (∀ p ∈ ps.take i, ∀ x ∈ p.nd.kids, ∃ k : Nat, x = (k : Int) ∧ k < 1000) := Lib.hid (by
    intro p hp x hx
    obtain ⟨k, rfl, hk⟩ := HT.out.kidsOk p (List.mem_of_mem_take hp) x hx
    exact ⟨k, rfl, by omega⟩)
  have KS : Hid (∀ p ∈ ss, ∀ x ∈ p.nd.kids, ∃ k : Nat, x = (k : Int) ∧ k < 1000) := Lib.hid (by
    intro p hp x hx
    obtain ⟨k, rfl, hk⟩ := HT2.out.kidsOk p hp x hx
    exact ⟨k, rfl, by omega⟩)
  have KB : Hid (∀ p ∈ (ps.drop m).take (ps.length - m), ∀ x ∈ p.nd.kids, ∃ k : Nat, x = (k : Int) ∧ k < 1000) := Lib.hid (by
    intro p hp x hx
    obtain ⟨k, rfl, hk⟩ := HT.out.kidsOk p (List.mem_of_mem_drop (List.mem_of_mem_take hp)) x hx
    exact ⟨k, rfl, by omega⟩)
  have AH : Hid (∀ k : Nat, k < 1000 → I64 (aheadK (i : Int) By (k : Int))) := Lib.hid (by intro k hk; unfold aheadK I64; split <;> omega)
  have P1 : Hid (Prts w (some ⟨b1, o1, none⟩) (ps.take i)) := Lib.hid (by have := H.out.parts.slice 0 i; simpa using this)
  have CM1 := Lib.hid (moved_any 90 #[pt w.heap.size, pt bb] (aheadK (i : Int) By) (some ⟨b1, o1, none⟩) c (ps.take i) W7 (P1.out.ext X7.out) (fun p hp => (H.out.oks p (List.mem_of_mem_take hp)).ext X7.out) (by have := H.out.few.slice 0 i; simpa using this)
    (fun p hp x hx => by obtain ⟨k, rfl, hk⟩ := KA.out p hp x hx; exact AH.out k hk) (enters_of Try.func90 (by kernel_rfl) rfl)
    (fun wr x h1 ⟨p, hp, hx⟩ => put1_any x i By w.heap.size bb wr (ext_block B7i.out h1) (ext_block B7b.out h1) (by obtain ⟨k, rfl, hk⟩ := KA.out p hp x hx; unfold I64; omega)))
  rw [show (ps.take i).length = i by rw [List.length_take]; omega] at CM1
  refine CM1.out.mono ?_
  rintro e w8 ⟨A8, c8, q8, rfl, hn8, ho8, hx8⟩
  have X8 : Hid (Ext w w8) := Lib.hid (X7.out.trans hx8)
  have HO8 : Hid (OwnP w8 w.heap.size A8 c8 q8) := Lib.hid (ho8.base X7.out.size)
  have HN8 := Lib.hid hn8
  have B8i := Lib.hid (ext_block B7i.out hx8)
  have B8b := Lib.hid (ext_block B7b.out hx8)
  have k1 := cell_of_row _ _ 0 _ _ _ B8i.out
  have k2 := cell_of_row _ _ 0 _ _ _ B8b.out
  simp at k1 k2
  have k3 := lt_of_heap B8i.out
  have k4 := lt_of_heap B8b.out
  clear CM1 hn8 ho8 hx8 B7i B7b
  obtain ⟨A9, hA9⟩ : ∃ A9 : Option Addr, (if c = m then (some ⟨b1, o1, none⟩ : Option Addr) else some ⟨b1, o1 + m * 8, none⟩) = A9 := ⟨_, rfl⟩
  have P9 : Hid (Prts w A9 ((ps.drop m).take (ps.length - m))) := Lib.hid (by
    rw [← hA9]
    split
    · rename_i hcm
      have : (ps.drop m).take (ps.length - m) = [] := by rw [List.drop_eq_nil_of_le (by omega), List.take_nil]
      rw [this]
      exact Prts.nil
    · exact H.out.parts.slice m (ps.length - m))
  have hA9n : Hid (A9 = none → c - m = 0) := Lib.hid (by
    rw [← hA9]
    split <;> exact nofun)
  go_upto_region 14 with fail
  refine wp_region_segs (15) [([0, 1, 2, 5, 6, 7, 8], 3), ([], 4), ([], 9), ([], 10), ([], 11), ([], 12)] [13, 14] (by kernel_rfl) (by kernel_rfl) ?_
  (refine segs_cons fun K hK => ?_); (first | (simp only [pick_nil]) | (simp only [pick, nthC])); (repeat (go_big_quiet_step (fail))); (refine wpQuiet_nil (hK _ fun next hn => ?_)); (clear hK K); (simp only [pick, nthC])
  go_wp2_with fail
  refine (plus_any _ _).mono ?_
  rintro e w9' ⟨rfl, rfl⟩
  obtain ⟨W9, hW9⟩ : ∃ W9, w8.drew.alloc (.cells #[.int .i64 (i : Int)] 3) = W9 := ⟨_, rfl⟩
  have X9 : Hid (Ext w8 W9) := Lib.hid (hW9 ▸ (by repeat (first | exact Ext.refl _ | refine Ext.alloc ?_ _ | refine Ext.more ?_ _ _ | refine Ext.drew ?_ | refine Ext.drewN ?_ _ | refine Ext.setCell ?_ (by simp <;> omega) _)))
  have B9 : Hid (W9.heap[w8.heap.size]? = some (.cells #[.int .i64 (i : Int)] 3)) := Lib.hid (hW9 ▸ heap_alloc_new w8.drew _)
  rw [hW9]
  clear hW9
  go_wp2_with fail
  refine segQ_mk (fun _ => laid X9.out) (hn _ _ ?_)
  clear hn next
  (refine segs_cons fun K hK => ?_); (first | (simp only [pick_nil]) | (simp only [pick, nthC])); (repeat (go_big_quiet_step (fail))); (refine wpQuiet_nil (hK _ fun next hn => ?_)); (clear hK K); (simp only [pick, nthC])
  go_wp2_with fail
  have CM2 := Lib.hid (moved_any 125 #[pt w8.heap.size] (fun x => x + (i : Int)) (some ⟨b2, o2, none⟩) d ss W9 (HS.out.parts.ext (X8.out.trans X9.out)) (HS.out.oks.ext (X8.out.trans X9.out)) HS.out.few
    (fun p hp x hx => by obtain ⟨k, rfl, hk⟩ := KS.out p hp x hx; unfold I64; omega) (enters_of Try.func125 (by kernel_rfl) rfl)
    (fun wr x h1 ⟨p, hp, hx⟩ => plus1_any x i w8.heap.size wr (ext_block B9.out h1) (by obtain ⟨k, rfl, hk⟩ := KS.out p hp x hx; unfold I64; omega)))
  refine CM2.out.mono ?_
  rintro e w10 ⟨A10, c10, q10, rfl, hn10, ho10, hx10⟩
  have X10 : Hid (Ext w8 w10) := Lib.hid (X9.out.trans hx10)
  have HO10 : Hid (OwnP w10 w.heap.size A10 c10 q10) := Lib.hid (ho10.base (X8.out.trans X9.out).size)
  have HN10 := Lib.hid hn10
  clear CM2 hn10 ho10 hx10 X9 B9
  go_wp2_with fail
  refine segQ_mk (fun _ => laid X10.out) (hn _ _ ?_)
  clear hn next
  (refine segs_cons fun K hK => ?_); (first | (simp only [pick_nil]) | (simp only [pick, nthC])); (repeat (go_big_quiet_step (fail))); (refine wpQuiet_nil (hK _ fun next hn => ?_)); (clear hK K); (simp only [pick, nthC])
  go_wp2_with fail
  refine (plus_any _ _).mono ?_
  rintro e w11' ⟨rfl, rfl⟩
  obtain ⟨W11, hW11⟩ : ∃ W11, w10.alloc (.cells #[.int .i64 By] 3) = W11 := ⟨_, rfl⟩
  have X11a : Hid (Ext w10 W11) := Lib.hid (hW11 ▸ (by repeat (first | exact Ext.refl _ | refine Ext.alloc ?_ _ | refine Ext.more ?_ _ _ | refine Ext.drew ?_ | refine Ext.drewN ?_ _ | refine Ext.setCell ?_ (by simp <;> omega) _)))
  have X11 : Hid (Ext w8 W11) := Lib.hid (X10.out.trans X11a.out)
  have B11 : Hid (W11.heap[w10.heap.size]? = some (.cells #[.int .i64 By] 3)) := Lib.hid (hW11 ▸ heap_alloc_new w10 _)
  rw [hW11]
  clear hW11
  go_wp2_with fail
  refine segQ_mk (fun _ => laid X11.out) (hn _ _ ?_)
  clear hn next
  (refine segs_cons fun K hK => ?_); (first | (simp only [pick_nil]) | (simp only [pick, nthC])); (repeat (go_big_quiet_step (fail))); (refine wpQuiet_nil (hK _ fun next hn => ?_)); (clear hK K); (simp only [pick, nthC])
  go_wp2_with fail
  have CM3 := Lib.hid (moved_any 125 #[pt w10.heap.size] (fun x => x + By) A9 (c - m) ((ps.drop m).take (ps.length - m)) W11 (P9.out.ext (X8.out.trans X11.out)) ((H.out.oks.slice m (ps.length - m)).ext (X8.out.trans X11.out)) (H.out.few.slice m (ps.length - m))
    (fun p hp x hx => by obtain ⟨k, rfl, hk⟩ := KB.out p hp x hx; unfold I64; omega) (enters_of Try.func125 (by kernel_rfl) rfl)
    (fun wr x h1 ⟨p, hp, hx⟩ => plus1_any x By w10.heap.size wr (ext_block B11.out h1) (by obtain ⟨k, rfl, hk⟩ := KB.out p hp x hx; unfold I64; omega)))
  rw [show ((ps.drop m).take (ps.length - m)).length = ps.length - m by rw [List.length_take, List.length_drop]; omega] at CM3
  refine CM3.out.mono ?_
  rintro e w12 ⟨A12, c12, q12, rfl, hn12, ho12, hx12⟩
  have X12 : Hid (Ext w8 w12) := Lib.hid (X11.out.trans hx12)
  have HO12 : Hid (OwnP w12 w.heap.size A12 c12 q12) := Lib.hid (ho12.base (X8.out.trans X11.out).size)
  have HO10b : Hid (OwnP w12 w.heap.size A10 c10 q10) := Lib.hid ((HO10.out.ext X11a.out).ext hx12)
  have HN12 := Lib.hid hn12
  clear CM3 hn12 ho12 hx12 X11 B11 X11a HO10
  go_wp2_with fail
  refine segQ_mk (fun _ => laid X12.out) (hn _ _ ?_)
  clear hn next
  (refine segs_cons fun K hK => ?_); (first | (simp only [pick_nil]) | (simp only [pick, nthC])); (repeat (go_big_quiet_step (fail))); (refine wpQuiet_nil (hK _ fun next hn => ?_)); (clear hK K); (simp only [pick, nthC])
  go_wp2_with fail
  obtain ⟨W13, hW13⟩ : ∃ W13, w12.alloc (.cells #[.slice A8 q8.length c8, .slice A10 q10.length c10, .slice A12 q12.length c12] 23) = W13 := ⟨_, rfl⟩
  have X13a : Hid (Ext w12 W13) := Lib.hid (hW13 ▸ (by repeat (first | exact Ext.refl _ | refine Ext.alloc ?_ _ | refine Ext.more ?_ _ _ | refine Ext.drew ?_ | refine Ext.drewN ?_ _ | refine Ext.setCell ?_ (by simp <;> omega) _)))
  have X13 : Hid (Ext w8 W13) := Lib.hid (X12.out.trans X13a.out)
  have B13 : Hid (W13.heap[w12.heap.size]? = some (.cells #[.slice A8 q8.length c8, .slice A10 q10.length c10, .slice A12 q12.length c12] 23)) := Lib.hid (hW13 ▸ heap_alloc_new w12 _)
  rw [hW13]
  clear hW13
  refine segQ_mk (fun _ => laid X13.out) (hn _ _ ?_)
  clear hn next
  (refine segs_cons fun K hK => ?_); (first | (simp only [pick_nil]) | (simp only [pick, nthC])); (repeat (go_big_quiet_step (fail))); (refine wpQuiet_nil (hK _ fun next hn => ?_)); (clear hK K); (simp only [pick, nthC])
  go_wp2_with fail
  have l8 : q8.length = i := by have := congrArg List.length HN8.out; simp [nds_length] at this; omega
  have l10 : q10.length = ss.length := by have := congrArg List.length HN10.out; simpa [nds_length] using this
  have l12 : q12.length = ps.length - m := by have := congrArg List.length HN12.out; simp [nds_length] at this; omega
  have CC := Lib.hid (concat3 w12.heap.size w.heap.size A8 A10 A12 c8 c10 c12 q8 q10 q12 W13 B13.out (X8.out.trans X13.out).size (HO8.out.ext X13.out) (HO10b.out.ext X13a.out) (HO12.out.ext X13a.out) (by omega) (by omega))
  clear l8 l10 l12
  refine CC.out.mono ?_
  rintro e w14 ⟨A14, c14, rfl, ho14, hx14⟩
  have X14 : Hid (Ext w8 w14) := Lib.hid (X13.out.trans hx14)
  have HO14 := Lib.hid ho14
  clear CC ho14 hx14
  go_wp2_with fail
  refine segQ_mk (fun _ => laid X14.out) (hn _ _ ?_)
  clear hn next
  (refine segs_nil fun K hK => ?_); (first | (simp only [pick_nil]) | (simp only [pick, nthC])); (repeat (go_big_quiet_step (fail))); (refine wpQuiet_nil (hK _ ?_)); (clear hK K)
  go_wp2_with fail
  go_ret2
  refine ⟨A14, c14, _, ret_sl2 (by simp), ?_, HO14.out, X8.out.trans X14.out⟩
  have e1 : nds (q8 ++ (q10 ++ q12)) = nds q8 ++ (nds q10 ++ nds q12) := by simp [nds]
  rw [e1, HN8.out, HN10.out, HN12.out]
  unfold putF movedF
  rw [nds_length, HBy.out, nds_take, nds_take, nds_drop, List.take_of_length_le (l := (nds ps).drop m) (by rw [List.length_drop, nds_length]; omega)]
end
end Go.Proofs.Ytggmljookcmnkaa
