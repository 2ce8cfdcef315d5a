/- The contract of Put. -/
import Derived.Test.YtaffaeompdlecaaD3
import Derived.Test.YtaffaeompdlecaaD4
namespace Go.Proofs.Ytaffaeompdlecaa
open Go.RowKit
attribute [local go_sem] more_drew more_drewN more_size more_cell more_frozen more_setCell drew_more drewN_more lt_add_r lt_add_r2 lt_add_r3 lt_add_r4 lt_add_r5 lt_add_r6 lt_add_r7 lt_add_r8 lt_add_r9 lt_add_r10 lt_self_r lt_self_r2

theorem put1_any (x i B : Int) (b1 b2 : Nat) (w : World) (h1 : w.heap[b1]? = some (.cells #[.int .i64 i] 3)) (h2 : w.heap[b2]? = some (.cells #[.int .i64 B] 3)) (h : I64 (x + B)) :
    Calls Try.prog 101 #[.int .i64 x, pt b1, pt b2] w fun e w' => e = .returned (.int .i64 (aheadK i B x)) ∧ Ext w w' := by
  have c1 := cell_of_row _ _ 0 _ _ _ h1
  have c2 := cell_of_row _ _ 0 _ _ _ h2
  simp at c1 c2
  have l1 := lt_of_heap h1
  have l2 := lt_of_heap h2
  have hw : IntKind.i64.wrap (x + B) = x + B := IntWalk.i64_in _ h
  unfold I64 at h
  clear h1 h2
  by_cases hc : i < x
  · have H : Hid (aheadK i B x = x + B) := Lib.hid (if_pos hc)
    go_enter Try.func101, Try.ntmps101
    go_wp2_with fail
    go_ret
    exact ⟨ret_int H.out.symm, Ext.refl _⟩
  · have H : Hid (aheadK i B x = x) := Lib.hid (if_neg hc)
    go_enter Try.func101, Try.ntmps101
    go_wp2_with fail
    go_ret
    exact ⟨ret_int H.out.symm, Ext.refl _⟩
/-- a tree fits in a part's place -/
def FitsP (l s : List Nd) (i : Int) : Prop := ∃ (j : Nat) (p q : Nd), i = (j : Int) ∧ l[j]? = some p ∧ s[0]? = some q ∧ p.sym = q.sym ∧ p.kind = q.kind ∧ p.lo = q.lo ∧ p.hi = q.hi
section
variable {A B : Option Addr} {c d : Nat} {ps ss : List Prt} {w : World}
set_option maxRecDepth 100000 in
set_option maxHeartbeats 1000000 in
theorem Put_no1 (i : Int) (h : PS w A c ps) (T : ¬ Tree (nds ps)) (v : Value) : Calls Try.prog 31 #[.slice A ps.length c, .int .i64 i, v] w fun e w' => e = .returned (.tuple #[.slice none 0 0, .int .i64 2]) ∧ Ext w w' := by
  have CH := Lib.hid (fun w1 (x : Ext w w1) => check_no (h.ext x) T)
  clear h T
  go_enter Try.func31, Try.ntmps31
  go_wp2_with fail
  refine (CH.out _ (by repeat (first | exact Ext.refl _ | refine Ext.alloc ?_ _ | refine Ext.more ?_ _ _ | refine Ext.drew ?_ | refine Ext.drewN ?_ _ | refine Ext.setCell ?_ (by simp <;> omega) _))).mono ?_
  rintro e w3 ⟨rfl, hx3⟩
  have HX3 : Hid (Ext w w3) := Lib.hid (Ext.trans (by repeat (first | exact Ext.refl _ | refine Ext.alloc ?_ _ | refine Ext.more ?_ _ _ | refine Ext.drew ?_ | refine Ext.drewN ?_ _ | refine Ext.setCell ?_ (by simp <;> omega) _)) hx3)
  clear hx3
  go_wp2_with fail
  go_ret2
  exact ⟨rfl, HX3.out⟩
set_option maxRecDepth 100000 in
set_option maxHeartbeats 1000000 in
theorem Put_no2 (i : Int) (h : PS w A c ps) (T : Tree (nds ps)) (hs : PS w B d ss) (T2 : ¬ Tree (nds ss)) : Calls Try.prog 31 #[.slice A ps.length c, .int .i64 i, .slice B ss.length d] w fun e w' => e = .returned (.tuple #[.slice none 0 0, .int .i64 2]) ∧ Ext w w' := by
  have CH := Lib.hid (fun w1 (x : Ext w w1) => check_ok (h.ext x) T)
  have CS := Lib.hid (fun w1 (x : Ext w w1) => check_no (hs.ext x) T2)
  clear h T hs T2
  go_enter Try.func31, Try.ntmps31
  go_wp2_with fail
  refine (CH.out _ (by repeat (first | exact Ext.refl _ | refine Ext.alloc ?_ _ | refine Ext.more ?_ _ _ | refine Ext.drew ?_ | refine Ext.drewN ?_ _ | refine Ext.setCell ?_ (by simp <;> omega) _))).mono ?_
  rintro e w3 ⟨rfl, hx3⟩
  have HX3 : Hid (Ext w w3) := Lib.hid (Ext.trans (by repeat (first | exact Ext.refl _ | refine Ext.alloc ?_ _ | refine Ext.more ?_ _ _ | refine Ext.drew ?_ | refine Ext.drewN ?_ _ | refine Ext.setCell ?_ (by simp <;> omega) _)) hx3)
  clear hx3
  go_wp2_with fail
  refine (CS.out _ HX3.out).mono ?_
  rintro e w4 ⟨rfl, hx4⟩
  have HX4 : Hid (Ext w w4) := Lib.hid (HX3.out.trans hx4)
  clear hx4
  go_wp2_with fail
  go_ret2
  exact ⟨rfl, HX4.out⟩
set_option maxRecDepth 100000 in
set_option maxHeartbeats 2000000 in
theorem Put_bad (i : Int) (h : PS w A c ps) (T : Tree (nds ps)) (hs : PS w B d ss) (T2 : Tree (nds ss)) (hn : ¬ FitsP (nds ps) (nds ss) i) : Calls Try.prog 31 #[.slice A ps.length c, .int .i64 i, .slice B ss.length d] w fun e w' => e = .returned (.tuple #[.slice none 0 0, .int .i64 2]) ∧ Ext w w' := by
  have CH := Lib.hid (fun w1 (x : Ext w w1) => check_ok (h.ext x) T)
  have CS := Lib.hid (fun w1 (x : Ext w w1) => check_ok (hs.ext x) T2)
  have HL := h.few.len
  have hs0 := T2.pos
  rw [nds_length] at hs0
  have HS := Lib.hid hs
  have H := Lib.hid h
  have HN := Lib.hid hn
  have hcp := h.cap
  have htp := h.top
  have hdp := hs.cap
  have hdt := hs.top
  clear h T hs T2 hn
  go_enter Try.func31, Try.ntmps31
  go_wp2_with fail
  refine (CH.out _ (by repeat (first | exact Ext.refl _ | refine Ext.alloc ?_ _ | refine Ext.more ?_ _ _ | refine Ext.drew ?_ | refine Ext.drewN ?_ _ | refine Ext.setCell ?_ (by simp <;> omega) _))).mono ?_
  rintro e w3 ⟨rfl, hx3⟩
  have HX3 : Hid (Ext w w3) := Lib.hid (Ext.trans (by repeat (first | exact Ext.refl _ | refine Ext.alloc ?_ _ | refine Ext.more ?_ _ _ | refine Ext.drew ?_ | refine Ext.drewN ?_ _ | refine Ext.setCell ?_ (by simp <;> omega) _)) hx3)
  have hb3 := ext_block (heap_alloc_new w (.cells #[.int .i64 i] 3)) hx3
  have HB3 := Lib.hid hb3
  clear hx3 hb3
  go_wp2_with fail
  refine (CS.out _ HX3.out).mono ?_
  rintro e w4 ⟨rfl, hx4⟩
  have HX4 : Hid (Ext w w4) := Lib.hid (HX3.out.trans hx4)
  have hb4 := ext_block HB3.out hx4
  have e1 := cell_of_row _ _ 0 _ _ _ hb4
  simp at e1
  have e2 := lt_of_heap hb4
  clear hx4 hb4
  go_upto_region 7 with fail
  go_cut [78] (fun t wx => t = .bool true ∧ Hid (Ext w4 wx))
  case first =>
    rcases Int.lt_or_le i 0 with hi0 | hi0
    · have g0 : decide (i < 0) = true := decide_eq_true hi0
      clear hi0
      go_quiet (fail)
      go_wp2_with fail
      go_meet
      exact ⟨rfl, Lib.hid (by repeat (first | exact Ext.refl _ | refine Ext.alloc ?_ _ | refine Ext.more ?_ _ _ | refine Ext.drew ?_ | refine Ext.drewN ?_ _ | refine Ext.setCell ?_ (by simp <;> omega) _))⟩
    · have g0 : decide (i < 0) = false := decide_eq_false (by omega)
      rcases Int.lt_or_le i (ps.length : Int) with hi1 | hi1
      · obtain ⟨j, rfl⟩ : ∃ j : Nat, i = (j : Int) := ⟨i.toNat, by omega⟩
        have hjl : j < ps.length := by omega
        have g1 : decide (ps.length ≤ j) = false := decide_eq_false (by omega)
        obtain ⟨p, hp⟩ : ∃ p, ps[j]? = some p := ⟨_, List.getElem?_eq_getElem hjl⟩
        obtain ⟨q, hq⟩ : ∃ q, ss[0]? = some q := ⟨_, List.getElem?_eq_getElem hs0⟩
        obtain ⟨b1, o1, rfl, hb1, hc1⟩ := (H.out.ext HX4.out).parts (by omega)
        obtain ⟨b2, o2, rfl, hb2, hc2⟩ := (HS.out.ext HX4.out).parts (by omega)
        obtain ⟨x0, x1, x2, _, x4, _⟩ := hc1 j p hp
        obtain ⟨y0, y1, y2, _, y4, _⟩ := hc2 0 q hq
        simp only [Nat.zero_mul, Nat.add_zero] at y0 y1 y2 y4
        have HF := Lib.hid (fun (a : p.nd.sym = q.nd.sym) (b : p.nd.kind = q.nd.kind) (cc : p.nd.lo = q.nd.lo) (dd : p.nd.hi = q.nd.hi) => HN.out ⟨j, p.nd, q.nd, rfl, nds_get hp, nds_get hq, a, b, cc, dd⟩)
        clear hc1 hc2 hp hq hi0 hi1
        by_cases a1 : p.nd.sym = q.nd.sym
        · have k1 : (p.nd.sym != q.nd.sym) = false := by simp [a1]
          have A1 := Lib.hid a1
          clear a1
          by_cases a2 : p.nd.kind = q.nd.kind
          · have k2 : (p.nd.kind != q.nd.kind) = false := by simp [a2]
            have A2 := Lib.hid a2
            clear a2
            by_cases a3 : p.nd.lo = q.nd.lo
            · have k3 : (p.nd.lo != q.nd.lo) = false := by simp [a3]
              have A3 := Lib.hid a3
              clear a3
              by_cases a4 : p.nd.hi = q.nd.hi
              · exact absurd a4 (fun a4 => HF.out A1.out A2.out A3.out a4)
              · have k4 : (p.nd.hi != q.nd.hi) = true := by simp [a4]
                clear a4
                go_quiet (fail)
                go_wp2_with fail
                go_meet
                exact ⟨rfl, Lib.hid (by repeat (first | exact Ext.refl _ | refine Ext.alloc ?_ _ | refine Ext.more ?_ _ _ | refine Ext.drew ?_ | refine Ext.drewN ?_ _ | refine Ext.setCell ?_ (by simp <;> omega) _))⟩
            · have k3 : (p.nd.lo != q.nd.lo) = true := by simp [a3]
              clear a3
              go_quiet (fail)
              go_wp2_with fail
              go_meet
              exact ⟨rfl, Lib.hid (by repeat (first | exact Ext.refl _ | refine Ext.alloc ?_ _ | refine Ext.more ?_ _ _ | refine Ext.drew ?_ | refine Ext.drewN ?_ _ | refine Ext.setCell ?_ (by simp <;> omega) _))⟩
          · have k2 : (p.nd.kind != q.nd.kind) = true := by simp [a2]
            clear a2
            go_quiet (fail)
            go_wp2_with fail
            go_meet
            exact ⟨rfl, Lib.hid (by repeat (first | exact Ext.refl _ | refine Ext.alloc ?_ _ | refine Ext.more ?_ _ _ | refine Ext.drew ?_ | refine Ext.drewN ?_ _ | refine Ext.setCell ?_ (by simp <;> omega) _))⟩
        · have k1 : (p.nd.sym != q.nd.sym) = true := by simp [a1]
          clear a1
          go_quiet (fail)
          go_wp2_with fail
          go_meet
          exact ⟨rfl, Lib.hid (by repeat (first | exact Ext.refl _ | refine Ext.alloc ?_ _ | refine Ext.more ?_ _ _ | refine Ext.drew ?_ | refine Ext.drewN ?_ _ | refine Ext.setCell ?_ (by simp <;> omega) _))⟩
      · have g1 : decide ((ps.length : Int) ≤ i) = true := decide_eq_true hi1
        clear hi0 hi1
        go_quiet (fail)
        go_wp2_with fail
        go_meet
        exact ⟨rfl, Lib.hid (by repeat (first | exact Ext.refl _ | refine Ext.alloc ?_ _ | refine Ext.more ?_ _ _ | refine Ext.drew ?_ | refine Ext.drewN ?_ _ | refine Ext.setCell ?_ (by simp <;> omega) _))⟩
  case rest =>
    obtain ⟨rfl, hx5⟩ := hcut
    go_wp2_with fail
    go_ret2
    exact ⟨rfl, HX4.out.trans hx5.out⟩
end
end Go.Proofs.Ytaffaeompdlecaa
