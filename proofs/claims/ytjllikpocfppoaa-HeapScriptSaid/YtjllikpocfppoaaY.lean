/- HeapLeaves: the walk. -/
import Derived.Test.YtjllikpocfppoaaX
import Derived.Test.YtjllikpocfppoaaTk
import Derived.WalkSpells
import Derived.WalkLawsBesides
import Derived.BigRegion
import Derived.Deep.RegionWith
import Derived.Deep.QuietTactic
import Derived.Deep.DeepCutAuto
import Derived.Deep.RegionHeld3
import Derived.Deep.RegionLaw
import Derived.BigQuiet
import Derived.Lib.Hide
namespace Go.Proofs.Ytjllikpocfppoaa
open Go.RowKit
attribute [local go_sem] more_drew more_drewN more_size more_cell more_frozen more_setCell drew_more drewN_more lt_add_r lt_add_r2 lt_add_r3 lt_add_r4 lt_add_r5 lt_add_r6 lt_add_r7 lt_add_r8 lt_add_r9 lt_add_r10 lt_self_r lt_self_r2

attribute [local go_sem] Oper.semAt_some
/-- the least of numbers -/
def minL : List Int → Int
  | [] => 0
  | x :: l => l.foldl min x
theorem min_le (l : List Int) (x : Int) : l.foldl min x ≤ x ∧ (∀ y ∈ l, l.foldl min x ≤ y) ∧ (l.foldl min x = x ∨ l.foldl min x ∈ l) := by
  induction l generalizing x with
  | nil => exact ⟨Int.le_refl _, by simp, .inl rfl⟩
  | cons y l ih =>
    obtain ⟨a, b, c⟩ := ih (min x y)
    simp only [List.foldl_cons]
    refine ⟨by omega, ?_, ?_⟩
    · intro z hz
      rcases List.mem_cons.1 hz with rfl | hz
      · omega
      · exact b z hz
    · rcases c with c | c
      · rw [c]
        rcases (show min x y = x ∨ min x y = y by omega) with e | e
        · left; exact e
        · right; rw [e]; exact List.mem_cons_self
      · right; exact List.mem_cons_of_mem _ c
theorem minL_spec (xs : List Int) (h : 0 < xs.length) : (∀ y ∈ xs, minL xs ≤ y) ∧ minL xs ∈ xs := by
  cases xs with
  | nil => simp at h
  | cons x l =>
    obtain ⟨a, b, c⟩ := min_le l x
    refine ⟨fun y hy => ?_, ?_⟩
    · rcases List.mem_cons.1 hy with rfl | hy
      · exact a
      · exact b y hy
    · rcases c with c | c
      · show l.foldl min x ∈ x :: l
        rw [c]
        exact List.mem_cons_self
      · exact List.mem_cons_of_mem _ c
/-- the least of the first k + 1 -/
theorem minL_take (xs : List Int) (k : Nat) (h0 : 0 < k) (h : k < xs.length) : minL (xs.take (k + 1)) = min (minL (xs.take k)) (xs.getD k 0) := by
  cases xs with
  | nil => simp at h
  | cons x l =>
    obtain ⟨j, rfl⟩ : ∃ j, k = j + 1 := ⟨k - 1, by omega⟩
    simp only [List.length_cons] at h
    have e : l.take (j + 1) = l.take j ++ [l.getD j 0] := by
      rw [List.take_succ_eq_append_getElem (by omega), List.getD_eq_getElem?_getD, List.getElem?_eq_getElem (by omega)]
      rfl
    simp only [List.take_succ_cons, minL]
    rw [e, List.foldl_append]
    simp [List.getD_eq_getElem?_getD]
theorem r1_first (xs : List Int) (h : 0 < xs.length) (hs : (r1 xs xs.length).Pairwise fun a b => ltI a b = true) : ((r1 xs xs.length).getD 0 z3).2.1 = minL xs := by
  obtain ⟨a, b⟩ := minL_spec xs h
  have hl := r1_length xs xs.length
  have hm : ∀ q, q < xs.length → (xs.getD q 0, (q : Int)) ∈ (r1 xs xs.length).map pr := fun q hq => by
    rw [(r1_pr xs xs.length).mem_iff, List.mem_map]
    exact ⟨q, List.mem_range.2 hq, rfl⟩
  obtain ⟨q, hq, he⟩ := List.getElem_of_mem b
  have h1 := hm q hq
  rw [List.mem_map] at h1
  obtain ⟨r, hr, hrp⟩ := h1
  have hk : r.2.1 = minL xs := by
    have := congrArg Prod.fst hrp
    rw [List.getD_eq_getElem?_getD, List.getElem?_eq_getElem hq] at this
    exact this.trans he
  have h0 := getD_mem (r1 xs xs.length) 0 (by omega)
  have h2 : ((r1 xs xs.length).getD 0 z3).2.1 ≤ r.2.1 := by
    cases hR : r1 xs xs.length with
    | nil => rw [hR] at hl; simp at hl; omega
    | cons r0 R =>
      rw [hR] at hr hs
      rcases List.mem_cons.1 hr with rfl | hr
      · exact Int.le_refl _
      · have := (ltI_iff _ _).1 ((List.pairwise_cons.1 hs).1 r hr)
        show r0.2.1 ≤ r.2.1
        omega
  have h3 : pr ((r1 xs xs.length).getD 0 z3) ∈ (r1 xs xs.length).map pr := List.mem_map_of_mem h0
  rw [(r1_pr xs xs.length).mem_iff, List.mem_map] at h3
  obtain ⟨j, hj, hje⟩ := h3
  have h4 : ((r1 xs xs.length).getD 0 z3).2.1 = xs.getD j 0 := (congrArg Prod.fst hje).symm
  have hj' := List.mem_range.1 hj
  have h5 := a (xs.getD j 0) (by rw [List.getD_eq_getElem?_getD, List.getElem?_eq_getElem hj']; exact List.getElem_mem hj')
  omega
theorem r1_item (xs : List Int) (i : Nat) (hi : i < xs.length) : ∃ j : Nat, j < xs.length ∧ ((r1 xs xs.length).getD i z3).2 = (xs.getD j 0, (j : Int)) := by
  have hm : pr ((r1 xs xs.length).getD i z3) ∈ (r1 xs xs.length).map pr := List.mem_map_of_mem (getD_mem _ _ (by rw [r1_length]; exact hi))
  rw [(r1_pr xs xs.length).mem_iff, List.mem_map] at hm
  obtain ⟨j, hj, hp⟩ := hm
  exact ⟨j, List.mem_range.1 hj, hp.symm⟩

set_option maxRecDepth 100000 in
set_option maxHeartbeats 3000000 in
theorem least_call (A : Option Addr) (xs : List Int) (c : Nat) (h0 : 0 < xs.length) (hc : xs.length ≤ c) (hcm : c ≤ 9223372036854775807) (w : World) (hI : Ints w A xs) : Calls Try.prog 24 #[.slice A xs.length c] w fun e w' => e = .returned (.int .i64 (minL xs)) ∧ w = w' := by
  obtain ⟨b, off, rfl, hb, hcell⟩ := hI h0
  have c0 := hcell 0 h0
  obtain ⟨x0, hx0⟩ : ∃ x, xs.getD 0 0 = x := ⟨_, rfl⟩
  rw [hx0, Nat.add_zero] at c0
  have HC := Lib.hid hcell
  have HX := Lib.hid hx0
  have hll : (0 : Int) < (xs.length : Int) := by omega
  clear hcell hI hx0
  go_enter Try.func24, Try.ntmps24
  go_wp2_with fail
  go_loop [3, 4] (fun s3 s4 => ∃ (k : Nat) (m : Int), 1 ≤ k ∧ k ≤ xs.length ∧ s4 = .int .i64 (k : Int) ∧ s3 = .int .i64 m ∧ Hid (m = minL (xs.take k))) (fun _ s => xs.length - (intOf s).toNat)
  case atStart => exact ⟨1, x0, by omega, h0, rfl, rfl, Lib.hid (by
    cases xs with
    | nil => simp at h0
    | cons x l => rw [← HX.out]; rfl)⟩
  case round =>
    obtain ⟨k, m, hk1, hk2, rfl, rfl, hm⟩ := hrel
    by_cases hlt : k < xs.length
    · have ck := HC.out k hlt
      obtain ⟨xk, hxk⟩ : ∃ x, xs.getD k 0 = x := ⟨_, rfl⟩
      rw [hxk] at ck
      have HXK := Lib.hid hxk
      obtain ⟨mk, hmk⟩ : ∃ mk, (if xk < m then xk else m) = mk := ⟨_, rfl⟩
      have hms : Hid (mk = minL (xs.take (k + 1))) := by
        show _ = _
        rw [minL_take xs k hk1 hlt, ← hm.out, HXK.out, ← hmk]
        split <;> omega
      clear hxk
      go_wp2_with fail
      go_round
      case rel => exact ⟨k + 1, mk, by omega, by omega, by go_num, rfl, hms⟩
      case measure => simp [intOf]; omega
    · obtain rfl : k = xs.length := by omega
      have HM : Hid (m = minL xs) := by
        have := hm.out
        rw [List.take_length] at this
        exact this
      clear hm
      go_wp2_with fail
      go_ret
      exact ⟨ret_int HM.out, rfl⟩
set_option maxRecDepth 100000 in
set_option maxHeartbeats 3000000 in
theorem leaves_any (A : Option Addr) (xs : List Int) (c : Nat) (e : Int) (W : World) (hI : Ints W A xs) (hc : xs.length ≤ c) (hcm : c ≤ 9223372036854775807) (he : -9223372036854775808 ≤ e ∧ e ≤ 9223372036854775807) :
    Calls Try.prog 6 #[.slice A xs.length c, .int .i64 e] W fun r w' => r = .returned (.bool true) ∧ Below W.heap.size W w' := by
  by_cases hlen : 200 < xs.length
  · clear hI
    have hlen' : (200 : Int) < (xs.length : Int) := by omega
    refine calls_of_marks Try.func6 rfl ?_
    simp only [Try.ntmps6, List.size_toArray, List.length_cons, List.length_nil, Nat.reduceAdd, Nat.reduceSub, Array.replicate_succ, Array.replicate_zero, List.push_toArray, List.append_toArray, List.nil_append, List.cons_append]
    go_wp2_with (first | (go_at_call 7; refine (lives_any _).mono ?_; rintro e w1 ⟨rfl, hx⟩; obtain ⟨os1, k1, rfl⟩ := Ext.of_below hx; clear hx))
    refine marks_ret (v := .bool true) rfl (by simp [results, Try.results6, go_sem]) ⟨rfl, ?_⟩
    exact Ext.below (by repeat (first | exact Ext.refl _ | refine Ext.alloc ?_ _ | refine Ext.more ?_ _ _ | refine Ext.drew ?_ | refine Ext.drewN ?_ _ | refine Ext.setCell ?_ (by simp <;> omega) _))
  · have hlen' : (xs.length : Int) ≤ 200 := by omega
    have HI := Lib.hid hI
    obtain ⟨E, hE0, hE⟩ : ∃ E : Nat, E ≤ xs.length ∧ pickF e ((xs.length : Int) + 1) = (E : Int) := by
      have := pickF_bd e ((xs.length : Int) + 1) (by omega)
      exact ⟨(pickF e ((xs.length : Int) + 1)).toNat, by omega, by omega⟩
    have PK := Lib.hid (fun w1 => pick_any e ((xs.length : Int) + 1) w1 (by omega) he)
    rw [hE] at PK
    have e39 := fun w1 b => run_eql_func_nil (P := Try.prog) w1 39 (.func 29) #[] b _ _ _ Try.underlying39
    have HBL := Lib.hid (heap_alloc_new W (.cells #[.slice A xs.length c] 22))
    have HBE := Lib.hid (heap_alloc_new (W.alloc (.cells #[.slice A xs.length c] 22)) (.cells #[.int .i64 e] 3))
    have HBR := Lib.hid (heap_alloc_new ((W.alloc (.cells #[.slice A xs.length c] 22)).alloc (.cells #[.int .i64 e] 3)) (.cells #[.bool false] 4))
    clear hI hlen hE he
    refine calls_of_marks Try.func6 rfl ?_
    simp only [Try.ntmps6, List.size_toArray, List.length_cons, List.length_nil, Nat.reduceAdd, Nat.reduceSub, Array.replicate_succ, Array.replicate_zero, List.push_toArray, List.append_toArray, List.nil_append, List.cons_append]
    go_wp2_with fail
    refine (lives_any _).mono ?_
    rintro e' w1 ⟨rfl, hx⟩
    replace hx := Ext.of_below hx
    have hBL : w1.heap[W.heap.size]? = some (.cells #[.slice A xs.length c] 22) := ext_block (ext_block HBL.out (((Ext.refl _).alloc (.cells #[.int .i64 e] 3)).alloc (.cells #[.bool false] 4))) hx
    have hBE : w1.heap[W.heap.size + 1]? = some (.cells #[.int .i64 e] 3) := by
      have := ext_block (ext_block HBE.out ((Ext.refl _).alloc (.cells #[.bool false] 4))) hx
      rwa [World.size_alloc] at this
    have hBR : w1.heap[W.heap.size + 1 + 1]? = some (.cells #[.bool false] 4) := by
      have := ext_block HBR.out hx
      rwa [World.size_alloc, World.size_alloc] at this
    have hxW : Hid (Ext W w1) := (Ext.alloc (Ext.alloc (Ext.alloc (Ext.refl W) _) _) _).trans hx
    obtain ⟨be, hbe⟩ : ∃ be, W.heap.size + 1 = be := ⟨_, rfl⟩
    rw [hbe] at hBE hBR ⊢
    obtain ⟨br, hbr⟩ : ∃ br, be + 1 = br := ⟨_, rfl⟩
    rw [hbr] at hBR ⊢
    obtain ⟨bl, hbl⟩ : ∃ bl, W.heap.size = bl := ⟨_, rfl⟩
    have HBLE := Lib.hid hbl
    rw [hbl] at hBL
    have n1 : bl < be := by omega
    have n2 : be < br := by omega
    have n3 : W.heap.size ≤ bl := by omega
    clear hbe hbr HBL HBE HBR hx
    have x0 := cell_of_row _ _ 0 _ _ _ hBL
    have y0 := cell_of_row _ _ 0 _ _ _ hBE
    simp at x0 y0
    have xl := lt_of_heap hBL
    have yl := lt_of_heap hBE
    have rl := lt_of_heap hBR
    rw [hbl]
    clear hbl
    have HBL := Lib.hid hBL
    have HBE := Lib.hid hBE
    have HBR := Lib.hid hBR
    clear hBL hBE hBR
    go_wp2_with (first | (go_at_call 8; refine (new_any _).mono ?_; rintro e' w2 ⟨rfl, rfl⟩))
    have HS : Hid (St w1.heap.size w1.heap.size w1 [] 0 (w1.alloc (.cells #[byKeyV, .slice none 0 0, .int .i64 0] 56))) := St.new (Below.refl _ _) (Nat.le_refl _)
    have hps : w1.heap.size < (w1.alloc (.cells #[byKeyV, .slice none 0 0, .int .i64 0] 56)).heap.size := HS.out.lt
    obtain ⟨p, hp⟩ : ∃ p, w1.heap.size = p := ⟨_, rfl⟩
    have HP := Lib.hid hp
    rw [hp] at HS hps xl yl rl ⊢
    generalize hWW : w1.alloc (.cells #[byKeyV, .slice none 0 0, .int .i64 0] 56) = W2 at *
    clear hWW hp x0 y0
    go_loopw [6] (fun s wr => ∃ k : Nat, k ≤ xs.length ∧ s = .int .i64 (k : Int) ∧ Hid (St p p w1 (r1 xs k) k wr)) (fun s _ => xs.length - (intOf s).toNat)
    case atStart => exact ⟨0, by omega, rfl, HS⟩
    case round =>
      obtain ⟨k, hk, rfl, hst⟩ := hrel
      have hBL := (hst.out.below.block _ xl).trans HBL.out
      have x0 := cell_of_row _ _ 0 _ _ _ hBL
      simp at x0
      have xl' := lt_of_heap hBL
      by_cases hlt : k < xs.length
      · have hIr := ((HI.out.ext hxW.out).below' HP.out.symm hst.out.below)
        obtain ⟨b, off, rfl, hb, hcell⟩ := hIr (by omega)
        have hck := hcell k hlt
        have hpr := hst.out.lt
        obtain ⟨xk, hxk⟩ : ∃ x, xs.getD k 0 = x := ⟨_, rfl⟩
        rw [hxk] at hck
        have HXK := Lib.hid hxk
        clear hcell hIr hxk hBL
        go_wp2_with (first | (go_at_call 11; refine (one_any _ _ _).mono ?_; rintro e w2 ⟨rfl, hx⟩))
        refine (St.put (hst.out.ext hx) _ _ (by rw [r1_length]; omega) (by omega)).mono ?_
        rintro e w3 ⟨rfl, hs3, _⟩
        have HS3 : Hid (St p p w1 (r1 xs (k + 1)) ((k + 1 : Nat) : Int) w3) := by
          show St _ _ _ (insL (r1 xs k) (k, xs.getD k 0, k)) _ _
          rw [HXK.out]
          exact hs3
        clear hs3 hst hx
        go_wp2_with fail
        go_roundw
        case rel => exact ⟨k + 1, by omega, by go_num, HS3⟩
        case measure => simp [intOf]; omega
      · obtain rfl : k = xs.length := by omega
        have hBE := (hst.out.below.block _ yl).trans HBE.out
        have y0 := cell_of_row _ _ 0 _ _ _ hBE
        simp at y0
        have yl' := lt_of_heap hBE
        have yf : wr.frozen? ⟨be, 0, none⟩ = false := by simp [World.frozen?, hBE]
        have hpr := hst.out.lt
        clear hlt HS
        go_wp2_with fail
        refine (all_any p _).mono ?_
        rintro e' w9 ⟨rfl, rfl⟩
        go_wp2_with (first | (go_at_call 12; refine (PK.out _).mono ?_; rintro e' w2 ⟨rfl, rfl⟩))
        obtain ⟨v, HR0, HBe0, HF0⟩ := hst.out
        have T0 := Turn.setCell (S := fun b => b = be) wr (p := ⟨be, 0, none⟩) rfl (.int .i64 (E : Int))
        have HR1 : HeapR (wr.setCell ⟨be, 0, none⟩ (.int .i64 (E : Int))) p v (r1 xs xs.length) xs.length := HR0.turn T0 (by
          rintro b rfl
          exact ⟨_, hBE, other_kind _ 3 (0, 0) (by decide) (by decide)⟩)
        have hSO : (r1 xs xs.length).Pairwise fun a b => ltI a b = true := hst.out.sorted
        have B1 : (wr.setCell ⟨be, 0, none⟩ (.int .i64 (E : Int))).heap[bl]? = some (.cells #[.slice A xs.length c] 22) := (T0.block _ xl' (by omega)).trans hBL
        have B2 : (wr.setCell ⟨be, 0, none⟩ (.int .i64 (E : Int))).heap[be]? = some (.cells #[.int .i64 (E : Int)] 3) := by simp [World.setCell, Array.getElem?_modify, hBE]
        have hBR := (hst.out.below.block _ rl).trans HBR.out
        have B3 : (wr.setCell ⟨be, 0, none⟩ (.int .i64 (E : Int))).heap[br]? = some (.cells #[.bool false] 4) := (T0.block _ (lt_of_heap hBR) (by omega)).trans hBR
        have hWp : W.heap.size ≤ p := by have := hxW.out.size; rw [HP.out] at this; exact this
        have B4 : Below W.heap.size W (wr.setCell ⟨be, 0, none⟩ (.int .i64 (E : Int))) := (hxW.out.below.trans (HBe0.mono hWp)).trans (T0.below (by have := HBe0.size; omega) (fun b hb => by omega))
        obtain ⟨Wa, hWa⟩ : ∃ Wa, wr.setCell ⟨be, 0, none⟩ (.int .i64 (E : Int)) = Wa := ⟨_, rfl⟩
        have hWs : wr.heap.size = Wa.heap.size := by rw [← hWa]; simp [World.setCell]
        rw [hWs]
        rw [hWa] at HR1 B1 B2 B3 B4 ⊢
        clear hWa hWs T0 HR0 HBe0 HF0 hBL hBE hBR x0 y0 yf xl' yl' hpr hst
        have EX : Ext Wa ((Wa.alloc (.cells #[.pointer (some ⟨p, 0, none⟩)] 24)).alloc (.cells #[.int .i64 0] 3)) := ((Ext.refl Wa).alloc _).alloc _
        have HR := HR1.ext EX
        have D1 := ext_block B1 EX
        have D2 := ext_block B2 EX
        have D3 := ext_block B3 EX
        have D4 := B4.trans (EX.below.mono (by have := B4.size; exact this))
        have DX : ((Wa.alloc (.cells #[.pointer (some ⟨p, 0, none⟩)] 24)).alloc (.cells #[.int .i64 0] 3)).heap[Wa.heap.size]? = some (.cells #[.pointer (some ⟨p, 0, none⟩)] 24) := ext_block (heap_alloc_new _ _) ((Ext.refl _).alloc _)
        have DN : ((Wa.alloc (.cells #[.pointer (some ⟨p, 0, none⟩)] 24)).alloc (.cells #[.int .i64 0] 3)).heap[Wa.heap.size + 1]? = some (.cells #[.int .i64 0] 3) := by
          have := heap_alloc_new (Wa.alloc (.cells #[.pointer (some ⟨p, 0, none⟩)] 24)) (.cells #[.int .i64 0] 3)
          rwa [World.size_alloc] at this
        have hbrl := lt_of_heap B3
        obtain ⟨bn, hbn⟩ : ∃ bn, Wa.heap.size + 1 = bn := ⟨_, rfl⟩
        obtain ⟨bx, hbx⟩ : ∃ bx, Wa.heap.size = bx := ⟨_, rfl⟩
        rw [hbn] at DN ⊢
        rw [hbx] at DX ⊢
        have n4 : br < bn := by omega
        generalize hW9 : (Wa.alloc (.cells #[.pointer (some ⟨p, 0, none⟩)] 24)).alloc (.cells #[.int .i64 0] 3) = W9 at *
        clear hW9 hbn hbx EX HR1 B1 B2 B3 B4
        have hml := HR.mine_lt
        have hl1 := lt_of_heap D1
        have hl2 := lt_of_heap D2
        have hl3 := lt_of_heap D3
        have hl4 := lt_of_heap DN
        have hW9 : W.heap.size ≤ W9.heap.size := by omega
        have HSO := Lib.hid hSO
        clear hSO
        refine wp_range (gf := 29) (lb := #[.pointer (some ⟨bx, 0, none⟩)]) (encs := encIt) (xs := (r1 xs xs.length).map fun r => r.2) (lo := bn) rfl (enters_of Try.func29 (by kernel_rfl) rfl) (fun _ => rfl) (by omega)
          (fun w1 hx _ => all_iter p v (r1 xs xs.length) _ w1 bx _ (HR.ext hx) (ext_block DX hx) (by rw [r1_length]; omega))
          (fun j W' => (HeapR W' p v (r1 xs xs.length) xs.length ∧ W'.heap[bl]? = some (.cells #[.slice A xs.length c] 22) ∧ W'.heap[be]? = some (.cells #[.int .i64 (E : Int)] 3) ∧ W'.heap[br]? = some (.cells #[.bool false] 4) ∧ Below W.heap.size W W') ∧ W'.heap[bn]? = some (.cells #[.int .i64 (j : Int)] 3) ∧ j ≤ E)
          (fun cc _ W' => cc = .exit 2 ∧ (HeapR W' p v (r1 xs xs.length) xs.length ∧ W'.heap[bl]? = some (.cells #[.slice A xs.length c] 22) ∧ W'.heap[be]? = some (.cells #[.int .i64 (E : Int)] 3) ∧ W'.heap[br]? = some (.cells #[.bool false] 4) ∧ Below W.heap.size W W') ∧ W'.heap[bn]? = some (.cells #[.int .i64 (E : Int)] 3)) ?_ ?_ ⟨⟨HR, D1, D2, D3, D4⟩, DN, Nat.zero_le _⟩ ?_ ?_ ?_
        · rintro j A' B' hb hsz ⟨⟨i1, i2, i3, i4, i5⟩, i6, i7⟩
          exact ⟨⟨i1.kept hb hml, (hb.block _ hl1).trans i2, (hb.block _ hl2).trans i3, (hb.block _ hl3).trans i4, i5.trans (hb.mono hW9)⟩, (hb.block _ hl4).trans i6, i7⟩
        · rintro cc j A' B' hb hsz ⟨i0, ⟨i1, i2, i3, i4, i5⟩, i6⟩
          exact ⟨i0, ⟨i1.kept hb hml, (hb.block _ hl1).trans i2, (hb.block _ hl2).trans i3, (hb.block _ hl3).trans i4, i5.trans (hb.mono hW9)⟩, (hb.block _ hl4).trans i6⟩
        · rintro l j x W' hx _ hsz
          have hjl : j < xs.length := by
            have := (List.getElem?_eq_some_iff.1 hx).1
            rw [List.length_map, r1_length] at this
            exact this
          obtain ⟨q, hq, hqe⟩ := r1_item xs j hjl
          have hxe : x = (xs.getD q 0, (q : Int)) := by
            rw [← hqe]
            rw [List.getElem?_map, List.getElem?_eq_getElem (by rw [r1_length]; exact hjl)] at hx
            rw [List.getD_eq_getElem?_getD, List.getElem?_eq_getElem (by rw [r1_length]; exact hjl)]
            injection hx with hx
            exact hx.symm
          have hmin : j = 0 → xs.getD q 0 = minL xs := fun h0 => by
            subst h0
            rw [← r1_first xs hjl HSO.out, hqe]
          obtain ⟨kx, hkx⟩ : ∃ kx, xs.getD q 0 = kx := ⟨_, rfl⟩
          rw [hkx] at hxe hmin
          subst hxe
          have HKX := Lib.hid hkx
          have HMIN := Lib.hid hmin
          clear hkx hmin hx hqe
          simp only [encIt]
          gi_wp2
          refine ⟨(Ext.refl _).alloc _, ?_⟩
          rintro W2 t2 ⟨⟨i1, i2, i3, i4, i5⟩, i6, i7⟩ hsz2
          have hX2 := (t2.block W'.heap.size (by simp) (by omega)).trans (heap_alloc_new W' (.cells #[.int .i64 kx, .int .i64 (q : Int)] 27))
          obtain ⟨bb, hbb⟩ : ∃ bb, W'.heap.size = bb := ⟨_, rfl⟩
          rw [hbb] at hX2 ⊢
          have c1 := cell_of_row _ _ 0 _ _ _ i2
          have c2 := cell_of_row _ _ 0 _ _ _ i3
          have c3 := cell_of_row _ _ 0 _ _ _ i6
          have c4 := cell_of_row _ _ 0 _ _ _ hX2
          have c5 := cell_of_row _ _ 1 _ _ _ hX2
          simp at c1 c2 c3 c4 c5
          have d1 := lt_of_heap i2
          have d2 := lt_of_heap i3
          have d3 := lt_of_heap i6
          have d4 := lt_of_heap hX2
          have df : W2.frozen? ⟨bn, 0, none⟩ = false := by simp [World.frozen?, i6]
          have I1 := Lib.hid i1
          have I2 := Lib.hid i2
          have I3 := Lib.hid i3
          have I4 := Lib.hid i4
          have I5 := Lib.hid i5
          have I6 := Lib.hid i6
          clear i1 i2 i3 i4 i5 i6 hX2 hbb t2
          rcases (show j = E ∨ j < E by omega) with rfl | hjE
          · gi_wp2
            exact ⟨Turn.refl _, rfl, ⟨I1.out, I2.out, I3.out, I4.out, I5.out⟩, I6.out⟩
          · have g0 : ((j : Int) == (E : Int)) = false := by simp; omega
            gi_wp2
            obtain ⟨b, off, rfl, hb, hcell⟩ := HI.out.below' rfl I5.out (by omega)
            have hck := hcell q hq
            rw [HKX.out] at hck
            have t0 : decide ((q : Int) < 0) = false := by simp
            have t1 : decide (xs.length ≤ q) = false := by simp; omega
            have q0 : (0 : Int) ≤ (q : Int) := by omega
            have q1 : (q : Int) < (xs.length : Int) := by omega
            have I9 := Lib.hid (show Ints W2 (some ⟨b, off, none⟩) xs from HI.out.below' rfl I5.out)
            clear hcell
            rcases (show j = 0 ∨ 0 < j by omega) with hj0 | hj0
            · have g1 : ((j : Int) == 0) = true := by simp [hj0]
              have LC := Lib.hid (fun w1 h1 => least_call (some ⟨b, off, none⟩) xs c (by omega) hc hcm w1 h1)
              rw [← HMIN.out hj0] at LC
              clear hj0
              refine wpIn_region_ext (by kernel_rfl) (by kernel_rfl) (by kernel_rfl) ?_
              repeat (go_big_quiet_step ((go_at_call 24; exact calls_ext_same (LC.out _ (I9.out.ext (by repeat (first | exact Ext.refl _ | refine Ext.alloc ?_ _ | refine Ext.more ?_ _ _ | refine Ext.drew ?_ | refine Ext.drewN ?_ _ | refine Ext.setCell ?_ (by simp <;> omega) _)))))))
              refine wpQuiet_nil ?_
              intro _ hw'
              obtain ⟨x9, rfl⟩ := hw'
              clear LC
              have hE9 : Ext W2 (more W2 x9.os x9.k) := ⟨x9.os, x9.k, rfl⟩
              gi_wp2
              have T := Turn.setCell (S := fun b => b = bn) W2 (p := ⟨bn, 0, none⟩) rfl (.int .i64 ((j : Int) + 1))
              have hE10 : Ext (W2.setCell ⟨bn, 0, none⟩ (.int .i64 ((j : Int) + 1))) (more (W2.setCell ⟨bn, 0, none⟩ (.int .i64 ((j : Int) + 1))) x9.os x9.k) := ⟨x9.os, x9.k, rfl⟩
              have T' : Turn (fun b => b = bn) W2 (more (W2.setCell ⟨bn, 0, none⟩ (.int .i64 ((j : Int) + 1))) x9.os x9.k) := T.trans (Turn.of_ext hE10)
              refine ⟨T'.mono fun k _ hk => .inl ⟨by omega, by omega⟩, ⟨(I1.out.turn T ?_).ext hE10, (T'.block _ d1 (by omega)).trans I2.out, (T'.block _ d2 (by omega)).trans I3.out, (T'.block _ (lt_of_heap I4.out) (by omega)).trans I4.out, I5.out.trans (T'.below (by omega) fun b hb => by omega)⟩, ?_, by omega⟩
              · rintro b rfl
                exact ⟨_, I6.out, other_kind _ 3 (0, 0) (by decide) (by decide)⟩
              · refine ext_block ?_ hE10
                simp [World.setCell, Array.getElem?_modify, I6.out]
            · have g1 : ((j : Int) == 0) = false := by simp; omega
              refine wpIn_region_ext (by kernel_rfl) (by kernel_rfl) (by kernel_rfl) ?_
              repeat (go_big_quiet_step (fail))
              refine wpQuiet_nil ?_
              intro _ hw'
              obtain ⟨x9, rfl⟩ := hw'
              have hE9 : Ext W2 (more W2 x9.os x9.k) := ⟨x9.os, x9.k, rfl⟩
              gi_wp2
              have T := Turn.setCell (S := fun b => b = bn) W2 (p := ⟨bn, 0, none⟩) rfl (.int .i64 ((j : Int) + 1))
              have hE10 : Ext (W2.setCell ⟨bn, 0, none⟩ (.int .i64 ((j : Int) + 1))) (more (W2.setCell ⟨bn, 0, none⟩ (.int .i64 ((j : Int) + 1))) x9.os x9.k) := ⟨x9.os, x9.k, rfl⟩
              have T' : Turn (fun b => b = bn) W2 (more (W2.setCell ⟨bn, 0, none⟩ (.int .i64 ((j : Int) + 1))) x9.os x9.k) := T.trans (Turn.of_ext hE10)
              refine ⟨T'.mono fun k _ hk => .inl ⟨by omega, by omega⟩, ⟨(I1.out.turn T ?_).ext hE10, (T'.block _ d1 (by omega)).trans I2.out, (T'.block _ d2 (by omega)).trans I3.out, (T'.block _ (lt_of_heap I4.out) (by omega)).trans I4.out, I5.out.trans (T'.below (by omega) fun b hb => by omega)⟩, ?_, by omega⟩
              · rintro b rfl
                exact ⟨_, I6.out, other_kind _ 3 (0, 0) (by decide) (by decide)⟩
              · refine ext_block ?_ hE10
                simp [World.setCell, Array.getElem?_modify, I6.out]
        · rintro D W' ⟨⟨i1, i2, i3, i4, i5⟩, i6, i7⟩ hD hsz hk
          have hlE : xs.length = E := by
            rw [List.length_map, r1_length] at i7
            omega
          rw [List.length_map, r1_length, hlE] at i6
          clear i7 hlE
          have c1 := cell_of_row _ _ 0 _ _ _ i2
          have c2 := cell_of_row _ _ 0 _ _ _ i3
          have c3 := cell_of_row _ _ 0 _ _ _ i6
          have c4 := cell_of_row _ _ 0 _ _ _ i4
          simp at c1 c2 c3 c4
          have d1 := lt_of_heap i2
          have d2 := lt_of_heap i3
          have d3 := lt_of_heap i6
          have d4 := lt_of_heap i4
          have df : W'.frozen? ⟨br, 0, none⟩ = false := by simp [World.frozen?, i4]
          have I1 := Lib.hid i1
          have I4 := Lib.hid i4
          have I5 := Lib.hid i5
          have HK := Lib.hid hk
          have LE := Lib.hid (fun w1 h1 => lenR p v (r1 xs xs.length) (xs.length : Int) w1 h1)
          rw [r1_length] at LE
          have hdl := lt_of_heap hk
          clear i1 i2 i3 i4 i5 i6 hk
          have ne1 : bn ≠ br := by omega
          have ne2 : be ≠ br := by omega
          have ne3 : bl ≠ br := by omega
          go_wp2_with fail
          go_region_held3 (fun w' => w'.cell? ⟨bn, 0, none⟩ = some (.int .i64 (E : Int)) ∧ w'.cell? ⟨be, 0, none⟩ = some (.int .i64 (E : Int)) ∧ w'.cell? ⟨bl, 0, none⟩ = some (.slice A xs.length c)) (first | go_keep | (refine ⟨(more_cell _ _ _ _ _ (by first | exact d3 | (rw [World.size_setCell]; exact d3))).trans ?_, (more_cell _ _ _ _ _ (by first | exact d2 | (rw [World.size_setCell]; exact d2))).trans ?_, (more_cell _ _ _ _ _ (by first | exact d1 | (rw [World.size_setCell]; exact d1))).trans ?_⟩ <;> simp [go_sem, *])) (first | (go_at_call 14; refine (LE.out _ (I1.out.ext (by repeat (first | exact Ext.refl _ | refine Ext.alloc ?_ _ | refine Ext.more ?_ _ _ | refine Ext.drew ?_ | refine Ext.drewN ?_ _ | refine Ext.setCell ?_ (by simp <;> omega) _)))).mono ?_; rintro e' w13 ⟨rfl, os3, k3, rfl⟩; have cz4 := (more_cell W' os3 k3 br 0 d4).trans c4; have cf4 := (more_frozen W' os3 k3 br 0 d4).trans df))
          all_goals go_wp2_with fail
          have hE9 : Ext (W'.setCell ⟨br, 0, none⟩ (.bool true)) (more (W'.setCell ⟨br, 0, none⟩ (.bool true)) os3 k3) := ⟨os3, k3, rfl⟩
          have T9 := Turn.setCell (S := fun b => b = br) W' (p := ⟨br, 0, none⟩) rfl (.bool true)
          have hB4 : (W'.setCell ⟨br, 0, none⟩ (.bool true)).heap[br]? = some (.cells #[.bool true] 4) := by simp [World.setCell, Array.getElem?_modify, I4.out]
          have hKD : (W'.setCell ⟨br, 0, none⟩ (.bool true)).heap[D]? = some (.deferred (some [])) := (T9.block _ hdl (by omega)).trans HK.out
          have hcl : ((more (W'.setCell ⟨br, 0, none⟩ (.bool true)) os3 k3).putObj D (.deferred none)).cell? ⟨br, 0, none⟩ = some (.bool true) :=
            (World.cell?_of_block (w := more (W'.setCell ⟨br, 0, none⟩ (.bool true)) os3 k3) (World.putObj_heap_other (show br ≠ D by omega))).trans (cell_of_row _ _ 0 _ _ _ (ext_block hB4 hE9))
          refine marks_ret1 (D := D) (v := .bool true) rfl (ext_block hKD hE9) (by simp [results, Try.results6, go_sem, hcl]) ⟨rfl, ?_⟩
          refine ((I5.out.trans (T9.below (by omega) (fun b hb => by omega))).trans (hE9.below.mono (by rw [World.size_setCell]; omega))).trans ((putObj_turn (S := fun b => b = D) _ _ rfl).below ?_ (fun b hb => by omega))
          have := hE9.size
          rw [World.size_setCell] at this
          omega
        · rintro D cc j W' hj ⟨rfl, ⟨i1, i2, i3, i4, i5⟩, i6⟩ hD hsz hk
          have c1 := cell_of_row _ _ 0 _ _ _ i2
          have c2 := cell_of_row _ _ 0 _ _ _ i3
          have c3 := cell_of_row _ _ 0 _ _ _ i6
          have c4 := cell_of_row _ _ 0 _ _ _ i4
          simp at c1 c2 c3 c4
          have d1 := lt_of_heap i2
          have d2 := lt_of_heap i3
          have d3 := lt_of_heap i6
          have d4 := lt_of_heap i4
          have df : W'.frozen? ⟨br, 0, none⟩ = false := by simp [World.frozen?, i4]
          have I1 := Lib.hid i1
          have I4 := Lib.hid i4
          have I5 := Lib.hid i5
          have HK := Lib.hid hk
          have LE := Lib.hid (fun w1 h1 => lenR p v (r1 xs xs.length) (xs.length : Int) w1 h1)
          rw [r1_length] at LE
          have hdl := lt_of_heap hk
          clear i1 i2 i3 i4 i5 i6 hk
          have ne1 : bn ≠ br := by omega
          have ne2 : be ≠ br := by omega
          have ne3 : bl ≠ br := by omega
          go_wp2_with fail
          go_region_held3 (fun w' => w'.cell? ⟨bn, 0, none⟩ = some (.int .i64 (E : Int)) ∧ w'.cell? ⟨be, 0, none⟩ = some (.int .i64 (E : Int)) ∧ w'.cell? ⟨bl, 0, none⟩ = some (.slice A xs.length c)) (first | go_keep | (refine ⟨(more_cell _ _ _ _ _ (by first | exact d3 | (rw [World.size_setCell]; exact d3))).trans ?_, (more_cell _ _ _ _ _ (by first | exact d2 | (rw [World.size_setCell]; exact d2))).trans ?_, (more_cell _ _ _ _ _ (by first | exact d1 | (rw [World.size_setCell]; exact d1))).trans ?_⟩ <;> simp [go_sem, *])) (first | (go_at_call 14; refine (LE.out _ (I1.out.ext (by repeat (first | exact Ext.refl _ | refine Ext.alloc ?_ _ | refine Ext.more ?_ _ _ | refine Ext.drew ?_ | refine Ext.drewN ?_ _ | refine Ext.setCell ?_ (by simp <;> omega) _)))).mono ?_; rintro e' w13 ⟨rfl, os3, k3, rfl⟩; have cz4 := (more_cell W' os3 k3 br 0 d4).trans c4; have cf4 := (more_frozen W' os3 k3 br 0 d4).trans df))
          all_goals go_wp2_with fail
          have hE9 : Ext (W'.setCell ⟨br, 0, none⟩ (.bool true)) (more (W'.setCell ⟨br, 0, none⟩ (.bool true)) os3 k3) := ⟨os3, k3, rfl⟩
          have T9 := Turn.setCell (S := fun b => b = br) W' (p := ⟨br, 0, none⟩) rfl (.bool true)
          have hB4 : (W'.setCell ⟨br, 0, none⟩ (.bool true)).heap[br]? = some (.cells #[.bool true] 4) := by simp [World.setCell, Array.getElem?_modify, I4.out]
          have hKD : (W'.setCell ⟨br, 0, none⟩ (.bool true)).heap[D]? = some (.deferred (some [])) := (T9.block _ hdl (by omega)).trans HK.out
          have hcl : ((more (W'.setCell ⟨br, 0, none⟩ (.bool true)) os3 k3).putObj D (.deferred none)).cell? ⟨br, 0, none⟩ = some (.bool true) :=
            (World.cell?_of_block (w := more (W'.setCell ⟨br, 0, none⟩ (.bool true)) os3 k3) (World.putObj_heap_other (show br ≠ D by omega))).trans (cell_of_row _ _ 0 _ _ _ (ext_block hB4 hE9))
          refine marks_ret1 (D := D) (v := .bool true) rfl (ext_block hKD hE9) (by simp [results, Try.results6, go_sem, hcl]) ⟨rfl, ?_⟩
          refine ((I5.out.trans (T9.below (by omega) (fun b hb => by omega))).trans (hE9.below.mono (by rw [World.size_setCell]; omega))).trans ((putObj_turn (S := fun b => b = D) _ _ rfl).below ?_ (fun b hb => by omega))
          have := hE9.size
          rw [World.size_setCell] at this
          omega
end Go.Proofs.Ytjllikpocfppoaa
