/- HeapNames: the walk. -/
import Derived.Test.YtjllikpocfppoaaU
import Derived.Test.YtjllikpocfppoaaS
import Derived.Shelf.Abstract
import Derived.WalkSpells
import Derived.WalkLawsBesides
import Derived.BigRegion
import Derived.Deep.RegionWith
import Derived.Deep.QuietTactic
import Derived.Deep.DeepCutAuto
import Derived.Deep.RegionHeld3
import Derived.Deep.RegionLaw
import Derived.BigQuiet
import Derived.Lib.Hide
namespace Go.Proofs.Ytjllikpocfppoaa
open Go.RowKit
attribute [local go_sem] more_drew more_drewN more_size more_cell more_frozen more_setCell drew_more drewN_more lt_add_r lt_add_r2 lt_add_r3 lt_add_r4 lt_add_r5 lt_add_r6 lt_add_r7 lt_add_r8 lt_add_r9 lt_add_r10 lt_self_r lt_self_r2

attribute [local go_sem] Oper.semAt_some
abbrev nilB : Obj := .cells #[.nilFunc, .slice none 0 0, .int .i64 0] 66
set_option maxRecDepth 100000 in
set_option maxHeartbeats 3000000 in
theorem newI (w : World) : Calls Try.prog 17 #[.nilFunc] w fun e w' => e = .returned (.pointer (some ⟨w.heap.size, 0, none⟩)) ∧ w' = w.alloc nilB := by
  go_enter Try.func17, Try.ntmps17
  go_wp2
  go_ret
  exact ⟨rfl, rfl⟩
set_option maxRecDepth 100000 in
set_option maxHeartbeats 3000000 in
theorem noneI (o : Nat) (w : World) (h : w.heap[o]? = some nilB) : Calls Try.prog 31 #[.pointer (some ⟨o, 0, none⟩)] w fun e w' => e = .returned (.bool true) ∧ Ext w w' := by
  have c0 := cell_of_row _ _ 0 _ _ _ h
  have hp := lt_of_heap h
  simp at c0
  have e31 := fun w1 => run_eql_nilfunc_nil (P := Try.prog) w1 31 _ _ _ Try.underlying31
  clear h
  go_enter Try.func31, Try.ntmps31
  go_wp2
  go_ret
  exact ⟨rfl, (by repeat (first | exact Ext.refl _ | refine Ext.alloc ?_ _ | refine Ext.more ?_ _ _ | refine Ext.drew ?_ | refine Ext.drewN ?_ _ | refine Ext.setCell ?_ (by simp <;> omega) _))⟩
theorem ext_block {w w' : World} {o : Nat} {ob : Obj} (h : w.heap[o]? = some ob) (e : Ext w w') : w'.heap[o]? = some ob := (e.below.block o (lt_of_heap h)).trans h
set_option maxRecDepth 100000 in
set_option maxHeartbeats 3000000 in
theorem putI (o : Nat) (k : Int) (w : World) (h : w.heap[o]? = some nilB) : Calls Try.prog 18 #[.pointer (some ⟨o, 0, none⟩), .int .i64 k] w fun e w' => e = .returned (.tuple #[]) ∧ Ext w w' := by
  have NO := Lib.hid (fun w1 g1 => noneI o w1 g1)
  have H := Lib.hid h
  clear h
  go_enter Try.func18, Try.ntmps18
  go_wp2_with (first | (go_at_call 31; refine (NO.out _ (ext_block H.out (by repeat (first | exact Ext.refl _ | refine Ext.alloc ?_ _ | refine Ext.more ?_ _ _ | refine Ext.drew ?_ | refine Ext.drewN ?_ _ | refine Ext.setCell ?_ (by simp <;> omega) _)))).mono ?_; rintro e w1 ⟨rfl, os1, k1, rfl⟩))
  refine bodyPost_ret (results_none rfl _ _ _) rfl ?_
  exact ⟨rfl, (by repeat (first | exact Ext.refl _ | refine Ext.alloc ?_ _ | refine Ext.more ?_ _ _ | refine Ext.drew ?_ | refine Ext.drewN ?_ _ | refine Ext.setCell ?_ (by simp <;> omega) _))⟩
set_option maxRecDepth 100000 in
set_option maxHeartbeats 3000000 in
theorem leastI (o : Nat) (w : World) (h : w.heap[o]? = some nilB) : Calls Try.prog 33 #[.pointer (some ⟨o, 0, none⟩)] w fun e w' => e = .returned (.tuple #[.int .i64 0, .bool false]) ∧ Ext w w' := by
  have NO := Lib.hid (fun w1 g1 => noneI o w1 g1)
  have H := Lib.hid h
  clear h
  go_enter Try.func33, Try.ntmps33
  go_wp2_with (first | (go_at_call 31; refine (NO.out _ (ext_block H.out (by repeat (first | exact Ext.refl _ | refine Ext.alloc ?_ _ | refine Ext.more ?_ _ _ | refine Ext.drew ?_ | refine Ext.drewN ?_ _ | refine Ext.setCell ?_ (by simp <;> omega) _)))).mono ?_; rintro e w1 ⟨rfl, os1, k1, rfl⟩))
  go_ret2
  exact ⟨rfl, (by repeat (first | exact Ext.refl _ | refine Ext.alloc ?_ _ | refine Ext.more ?_ _ _ | refine Ext.drew ?_ | refine Ext.drewN ?_ _ | refine Ext.setCell ?_ (by simp <;> omega) _))⟩
set_option maxRecDepth 100000 in
set_option maxHeartbeats 3000000 in
theorem takeI (o : Nat) (w : World) (h : w.heap[o]? = some nilB) : Calls Try.prog 19 #[.pointer (some ⟨o, 0, none⟩)] w fun e w' => e = .returned (.tuple #[.int .i64 0, .bool false]) ∧ Ext w w' := by
  have NO := Lib.hid (fun w1 g1 => leastI o w1 g1)
  have H := Lib.hid h
  clear h
  go_enter Try.func19, Try.ntmps19
  go_wp2_with (first | (go_at_call 33; refine (NO.out _ (ext_block H.out (by repeat (first | exact Ext.refl _ | refine Ext.alloc ?_ _ | refine Ext.more ?_ _ _ | refine Ext.drew ?_ | refine Ext.drewN ?_ _ | refine Ext.setCell ?_ (by simp <;> omega) _)))).mono ?_; rintro e w1 ⟨rfl, os1, k1, rfl⟩))
  go_ret2
  exact ⟨rfl, (by repeat (first | exact Ext.refl _ | refine Ext.alloc ?_ _ | refine Ext.more ?_ _ _ | refine Ext.drew ?_ | refine Ext.drewN ?_ _ | refine Ext.setCell ?_ (by simp <;> omega) _))⟩
set_option maxRecDepth 100000 in
set_option maxHeartbeats 3000000 in
theorem lenI (o : Nat) (w : World) (h : w.heap[o]? = some nilB) : Calls Try.prog 20 #[.pointer (some ⟨o, 0, none⟩)] w fun e w' => e = .returned (.int .i64 0) ∧ Ext w w' := by
  have NO := Lib.hid (fun w1 g1 => noneI o w1 g1)
  have H := Lib.hid h
  clear h
  go_enter Try.func20, Try.ntmps20
  go_wp2_with (first | (go_at_call 31; refine (NO.out _ (ext_block H.out (by repeat (first | exact Ext.refl _ | refine Ext.alloc ?_ _ | refine Ext.more ?_ _ _ | refine Ext.drew ?_ | refine Ext.drewN ?_ _ | refine Ext.setCell ?_ (by simp <;> omega) _)))).mono ?_; rintro e w1 ⟨rfl, os1, k1, rfl⟩))
  go_ret
  exact ⟨rfl, (by repeat (first | exact Ext.refl _ | refine Ext.alloc ?_ _ | refine Ext.more ?_ _ _ | refine Ext.drew ?_ | refine Ext.drewN ?_ _ | refine Ext.setCell ?_ (by simp <;> omega) _))⟩

theorem HeapR.mine_lt {w : World} {p : Nat} {v : Value} {R : List It} {c : Int} (h : HeapR w p v R c) : ∀ b, mine p v b → b < w.heap.size := by
  obtain ⟨X, h, _⟩ := h
  rintro b (rfl | hb)
  · exact h.lt
  · exact own_old h.row b hb
theorem HeapR.kept {w w' : World} {p n : Nat} {v : Value} {R : List It} {c : Int} (h : HeapR w p v R c) (hb : Below n w w') (hn : ∀ b, mine p v b → b < n) : HeapR w' p v R c := by
  obtain ⟨X, h, hm⟩ := h
  have t : Turn (fun b => n ≤ b) w w' := Turn.of_below hb hb.size (fun k hk _ => hk)
  exact ⟨X, h.turn t (fun hs => by have := hn p (.inl rfl); omega) (fun g hg hs => by have := hn g (.inr hg); omega), hm⟩
section
variable {B p : Nat} {W wr : World} {R : List It} {c : Int} {r : It}
theorem St.least_nil (h : St B p W [] c wr) : Calls Try.prog 15 #[.pointer (some ⟨p, 0, none⟩)] wr fun e w' => e = .returned (.tuple #[.agg #[.int .i64 0, .int .i64 0], .bool false]) ∧ Ext wr w' := by
  obtain ⟨v, h1, _⟩ := h
  exact leastR_nil p v c wr h1
theorem St.least (h : St B p W (r :: R) c wr) : Calls Try.prog 15 #[.pointer (some ⟨p, 0, none⟩)] wr fun e w' => e = .returned (.tuple #[.agg #[.int .i64 r.2.1, .int .i64 r.2.2], .bool true]) ∧ Ext wr w' := by
  obtain ⟨v, h1, _⟩ := h
  exact leastR p v r R c wr h1
end
set_option maxRecDepth 100000 in
set_option maxHeartbeats 3000000 in
theorem names_any (W : World) : Calls Try.prog 4 #[] W fun r w' => r = .returned (.bool true) ∧ Below W.heap.size W w' := by
  have e39 := fun w1 b => run_eql_func_nil (P := Try.prog) w1 39 (.func 29) #[] b _ _ _ Try.underlying39
  refine calls_of_marks Try.func4 rfl ?_
  simp only [Try.ntmps4, List.size_toArray, List.length_cons, List.length_nil, Nat.reduceAdd, Nat.reduceSub, Array.replicate_succ, Array.replicate_zero, List.push_toArray, List.append_toArray, List.nil_append, List.cons_append]
  go_wp2_with (first
    | (go_at_call 8; refine (new_any _).mono ?_; rintro e w2 ⟨rfl, rfl⟩))
  have HS : Hid (St W.heap.size W.heap.size W [] 0 (W.alloc (.cells #[byKeyV, .slice none 0 0, .int .i64 0] 56))) := St.new (Below.refl _ _) (Nat.le_refl _)
  obtain ⟨p, hp⟩ : ∃ p, W.heap.size = p := ⟨_, rfl⟩
  have HP := Lib.hid hp
  rw [hp] at HS ⊢
  generalize hWW : W.alloc (.cells #[byKeyV, .slice none 0 0, .int .i64 0] 56) = W1 at *
  clear hWW hp
  refine (lives_any W1).mono ?_
  rintro e w2 ⟨rfl, hb2⟩
  replace HS := Lib.hid (HS.out.ext (Ext.of_below hb2))
  clear hb2
  go_wp2_with fail
  refine (St.least_nil HS.out).mono ?_
  rintro e w3 ⟨rfl, hx3⟩
  replace HS := Lib.hid ((HS.out.ext hx3).ext ((Ext.refl _).alloc (.cells #[.int .i64 0, .int .i64 0] 27)))
  clear hx3
  go_wp2_with fail
  refine (one_any _ _ _).mono ?_
  rintro e w4 ⟨rfl, hx4⟩
  replace HS := Lib.hid (HS.out.ext hx4)
  clear hx4
  go_wp2_with fail
  refine (St.put HS.out 5 1 (by simp) (by omega)).mono ?_
  rintro e w5 ⟨rfl, hs5, _⟩
  replace HS := Lib.hid hs5
  clear hs5
  go_wp2_with fail
  refine (one_any _ _ _).mono ?_
  rintro e w6 ⟨rfl, hx6⟩
  replace HS := Lib.hid (HS.out.ext hx6)
  clear hx6
  go_wp2_with fail
  refine (St.put HS.out 3 1 (by simp [insL]) (by omega)).mono ?_
  rintro e w7 ⟨rfl, hs7, _⟩
  have e7 : insL (insL [] (0, 5, 1)) (0 + 1, 3, 1) = [(1, 3, 1), (0, 5, 1)] := by decide
  rw [e7] at hs7
  replace HS := Lib.hid hs7
  clear hs7 e7
  go_wp2_with fail
  refine (St.least HS.out).mono ?_
  rintro e w8 ⟨rfl, hx8⟩
  have HX := Lib.hid (heap_alloc_new w8 (.cells #[.int .i64 3, .int .i64 1] 27))
  replace HS := Lib.hid ((HS.out.ext hx8).ext ((Ext.refl _).alloc (.cells #[.int .i64 3, .int .i64 1] 27)))
  clear hx8
  go_wp2_with fail
  refine (all_any p _).mono ?_
  rintro e w9 ⟨rfl, rfl⟩
  go_wp2_with fail
  obtain ⟨v, HR, HBe, HF⟩ := (HS.out.ext ((((Ext.refl _).alloc (.cells #[.pointer (some ⟨p, 0, none⟩)] 24))).alloc (.cells #[.int .i64 0] 3)))
  obtain ⟨b4, hb4⟩ : ∃ b4, w8.heap.size = b4 := ⟨_, rfl⟩
  have hpb : p < b4 + 1 := by
    have := HS.out.lt
    rw [World.size_alloc] at this
    omega
  have H4 : (((w8.alloc (.cells #[.int .i64 3, .int .i64 1] 27)).alloc (.cells #[.pointer (some ⟨p, 0, none⟩)] 24)).alloc (.cells #[.int .i64 0] 3)).heap[b4]? = some (.cells #[.int .i64 3, .int .i64 1] 27) := by
    rw [← hb4]
    exact ext_block HX.out ((((Ext.refl _).alloc (.cells #[.pointer (some ⟨p, 0, none⟩)] 24))).alloc (.cells #[.int .i64 0] 3))
  have HBX : (((w8.alloc (.cells #[.int .i64 3, .int .i64 1] 27)).alloc (.cells #[.pointer (some ⟨p, 0, none⟩)] 24)).alloc (.cells #[.int .i64 0] 3)).heap[b4 + 1]? = some (.cells #[.pointer (some ⟨p, 0, none⟩)] 24) := by
    rw [← hb4]
    have := heap_alloc_new (w8.alloc (.cells #[.int .i64 3, .int .i64 1] 27)) (.cells #[.pointer (some ⟨p, 0, none⟩)] 24)
    rw [show (w8.alloc (.cells #[.int .i64 3, .int .i64 1] 27)).heap.size = w8.heap.size + 1 by simp] at this
    exact ext_block this ((Ext.refl _).alloc (.cells #[.int .i64 0] 3))
  have HBN : (((w8.alloc (.cells #[.int .i64 3, .int .i64 1] 27)).alloc (.cells #[.pointer (some ⟨p, 0, none⟩)] 24)).alloc (.cells #[.int .i64 0] 3)).heap[b4 + 1 + 1]? = some (.cells #[.int .i64 0] 3) := by
    rw [← hb4]
    have := heap_alloc_new ((w8.alloc (.cells #[.int .i64 3, .int .i64 1] 27)).alloc (.cells #[.pointer (some ⟨p, 0, none⟩)] 24)) (.cells #[.int .i64 0] 3)
    rw [show ((w8.alloc (.cells #[.int .i64 3, .int .i64 1] 27)).alloc (.cells #[.pointer (some ⟨p, 0, none⟩)] 24)).heap.size = w8.heap.size + 1 + 1 by simp] at this
    exact this
  rw [hb4]
  generalize hWW : ((w8.alloc (.cells #[.int .i64 3, .int .i64 1] 27)).alloc (.cells #[.pointer (some ⟨p, 0, none⟩)] 24)).alloc (.cells #[.int .i64 0] 3) = W9 at *
  clear hWW hb4 HS HX
  obtain ⟨bn, hbn⟩ : ∃ bn, b4 + 1 + 1 = bn := ⟨_, rfl⟩
  have hpn : p ≤ bn := by omega
  have hbn4 : b4 ≠ bn := by omega
  rw [hbn] at HBN ⊢
  clear hbn
  have hml := HR.mine_lt
  have hb4l := lt_of_heap H4
  have hbnl := lt_of_heap HBN
  have hpp : p ≤ W9.heap.size := Nat.le_of_lt HR.lt
  refine wp_range (gf := 29) (lb := #[.pointer (some ⟨b4 + 1, 0, none⟩)]) (encs := encIt) (xs := [((3 : Int), (1 : Int)), (5, 1)]) (lo := bn) rfl (enters_of Try.func29 (by kernel_rfl) rfl) (fun _ => rfl) (by omega)
    (fun w1 hx _ => all_iter p v [(1, 3, 1), (0, 5, 1)] _ w1 (b4 + 1) _ (HR.ext hx) (ext_block HBX hx) (by simp))
    (fun j W' => HeapR W' p v [(1, 3, 1), (0, 5, 1)] (0 + 1 + 1) ∧ W'.heap[bn]? = some (.cells #[.int .i64 (j : Int)] 3) ∧ W'.heap[b4]? = some (.cells #[.int .i64 3, .int .i64 1] 27) ∧ Below p W W')
    (fun _ _ _ => False) ?_ ?_ ⟨HR, HBN, H4, HBe⟩ ?_ ?_ ?_
  · rintro j A B hb hsz ⟨i1, i2, i3, i4⟩
    exact ⟨i1.kept hb hml, (hb.block _ hbnl).trans i2, (hb.block _ hb4l).trans i3, i4.trans (hb.mono hpp)⟩
  · rintro c j A B hb hsz h
    exact h
  · rintro l j x W' hx ⟨i1, i2, i3, i4⟩ hsz
    simp only [encIt]
    gi_wp2
    refine ⟨Ext.refl _, ?_⟩
    rintro W2 t2 ⟨i1, i2, i3, i4⟩ hsz2
    have x0 := cell_of_row _ _ 0 _ _ _ i2
    simp at x0
    have xl := lt_of_heap i2
    have xf : W2.frozen? ⟨bn, 0, none⟩ = false := by simp [World.frozen?, i2]
    have I1 := Lib.hid i1
    have I2 := Lib.hid i2
    have I3 := Lib.hid i3
    have I4 := Lib.hid i4
    have hjl : j < 2 := by
      have := (List.getElem?_eq_some_iff.1 hx).1
      simpa using this
    clear i1 i2 i3 i4 hx t2
    gi_wp2
    have T := Turn.setCell (S := fun b => b = bn) W2 (p := ⟨bn, 0, none⟩) rfl (.int .i64 ((j : Int) + 1))
    refine ⟨T.mono fun k _ hk => .inl ⟨by omega, by omega⟩, I1.out.turn T ?_, ?_, ?_, ?_⟩
    · rintro b rfl
      exact ⟨_, I2.out, other_kind _ 3 (0, 0) (by decide) (by decide)⟩
    · simp [World.setCell, Array.getElem?_modify, I2.out]
    · exact (T.block _ (by omega) (by omega)).trans I3.out
    · exact I4.out.trans (T.below (by omega) fun b hb => by omega)
  · rintro D W' ⟨i1, i2, i3, i4⟩ hD hsz hk
    have x0 := cell_of_row _ _ 0 _ _ _ i2
    have y0 := cell_of_row _ _ 0 _ _ _ i3
    simp at x0 y0
    have xl := lt_of_heap i2
    have yl := lt_of_heap i3
    have hdl := lt_of_heap hk
    have I1 := Lib.hid i1
    have I4 := Lib.hid i4
    have HK := Lib.hid hk
    have LE := Lib.hid (fun w1 h1 => lenR p v [(1, 3, 1), (0, 5, 1)] (0 + 1 + 1) w1 h1)
    have I1L := i1.lt
    clear i1 i2 i3 i4 hk hml HR H4 HBX HBN HBe HF
    go_wp2_with (first
      | (go_at_call 17; refine (newI _).mono ?_; rintro e w10 ⟨rfl, rfl⟩)
      | (go_at_call 18; refine (putI _ 1 _ (ext_block (heap_alloc_new W' nilB) (by repeat (first | exact Ext.refl _ | refine Ext.alloc ?_ _ | refine Ext.more ?_ _ _ | refine Ext.drew ?_ | refine Ext.drewN ?_ _ | refine Ext.setCell ?_ (by simp <;> omega) _)))).mono ?_; rintro e w11 ⟨rfl, os1, k1, rfl⟩)
      | (go_at_call 19; refine (takeI _ _ (ext_block (heap_alloc_new W' nilB) (by repeat (first | exact Ext.refl _ | refine Ext.alloc ?_ _ | refine Ext.more ?_ _ _ | refine Ext.drew ?_ | refine Ext.drewN ?_ _ | refine Ext.setCell ?_ (by simp <;> omega) _)))).mono ?_; rintro e w12 ⟨rfl, os2, k2, rfl⟩)
      | (go_at_call 14; refine (LE.out _ (I1.out.ext (by repeat (first | exact Ext.refl _ | refine Ext.alloc ?_ _ | refine Ext.more ?_ _ _ | refine Ext.drew ?_ | refine Ext.drewN ?_ _ | refine Ext.setCell ?_ (by simp <;> omega) _)))).mono ?_; rintro e w13 ⟨rfl, os3, k3, rfl⟩)
      | (go_at_call 20; refine (lenI _ _ (ext_block (heap_alloc_new W' nilB) (by repeat (first | exact Ext.refl _ | refine Ext.alloc ?_ _ | refine Ext.more ?_ _ _ | refine Ext.drew ?_ | refine Ext.drewN ?_ _ | refine Ext.setCell ?_ (by simp <;> omega) _)))).mono ?_; rintro e w14 ⟨rfl, os4, k4, rfl⟩))
    refine marks_ret1 (D := D) rfl (ext_block HK.out (by repeat (first | exact Ext.refl _ | refine Ext.alloc ?_ _ | refine Ext.more ?_ _ _ | refine Ext.drew ?_ | refine Ext.drewN ?_ _ | refine Ext.setCell ?_ (by simp <;> omega) _))) (results_tmp rfl _ _ _) ⟨rfl, ?_⟩
    rw [HP.out]
    refine (I4.out.trans (Below.mono (Ext.below (w := W') (by repeat (first | exact Ext.refl _ | refine Ext.alloc ?_ _ | refine Ext.more ?_ _ _ | refine Ext.drew ?_ | refine Ext.drewN ?_ _ | refine Ext.setCell ?_ (by simp <;> omega) _))) (by omega))).trans ((putObj_turn (S := fun b => b = D) _ _ rfl).below ?_ (fun b hb => by omega))
    refine Nat.le_trans (Nat.le_of_lt I1L) (Ext.size (w := W') (by repeat (first | exact Ext.refl _ | refine Ext.alloc ?_ _ | refine Ext.more ?_ _ _ | refine Ext.drew ?_ | refine Ext.drewN ?_ _ | refine Ext.setCell ?_ (by simp <;> omega) _)))
  · rintro D c j W' hj h
    exact h.elim
end Go.Proofs.Ytjllikpocfppoaa
