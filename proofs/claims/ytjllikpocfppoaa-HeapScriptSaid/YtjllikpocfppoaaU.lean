/- Clone, All. -/
import Derived.Test.YtjllikpocfppoaaQ
import Derived.Test.YtjllikpocfppoaaTr
import Derived.OwnWalkIn
import Derived.TacticsInMore
import Derived.LoopNIn
import Derived.LoopIn
import Derived.Deep.LoopGhost
import Derived.WalkSpells
import Derived.WalkLawsBesides
import Derived.BigRegion
import Derived.Deep.RegionWith
import Derived.Deep.QuietTactic
import Derived.Deep.DeepCutAuto
import Derived.Deep.RegionHeld3
import Derived.Deep.RegionLaw
import Derived.BigQuiet
import Derived.Lib.Hide
namespace Go.Proofs.Ytjllikpocfppoaa
open Go.RowKit
attribute [local go_sem] more_drew more_drewN more_size more_cell more_frozen more_setCell drew_more drewN_more lt_add_r lt_add_r2 lt_add_r3 lt_add_r4 lt_add_r5 lt_add_r6 lt_add_r7 lt_add_r8 lt_add_r9 lt_add_r10 lt_self_r lt_self_r2

attribute [local go_sem] Oper.semAt_some
theorem flat_one' (X : List It) : ∀ u ∈ flat X, u.oneCell' = true := by
  intro u hu
  obtain ⟨x, _, hx⟩ := List.mem_flatMap.1 hu
  simp only [enc3, List.mem_cons, List.not_mem_nil, or_false] at hx
  rcases hx with rfl | rfl | rfl <;> rfl
set_option maxRecDepth 100000 in
set_option maxHeartbeats 3000000 in
theorem clone_any (p : Nat) (v : Value) (X : List It) (c : Int) (hX : X.length ≤ 100000) (w : World) (h : HeapAt w p byKeyV v X c) :
    Calls Try.prog 30 #[v] w fun e w' => ∃ v', e = .returned v' ∧ w'.ownsRow w.heap.size 60 3 v' X.length (flat X) ∧ Ext w w' := by
  obtain ⟨i60, hi, hz0, hz1, hz2⟩ := info_parts info60
  obtain ⟨A, cap, hv, hcA, hc1, hc2, hc3⟩ := own_cells h.row
  subst hv
  have e54 := fun w1 a n c => Lib.run_eql_slice_nil (P := Try.prog) w1 54 60 a n c 0 0 Try.underlying54
  cases A with
  | none =>
    obtain rfl : cap = 0 := hc3 rfl
    have hX0 : X = [] := List.eq_nil_of_length_eq_zero (by omega)
    subst hX0
    clear h hcA
    go_enter Try.func30, Try.ntmps30
    go_wp2_with fail
    go_ret
    exact ⟨_, rfl, World.ownsRow_nil _ _ _ _, Ext.refl _⟩
  | some ad =>
    have HC := Lib.hid hcA
    clear hcA h hc3
    go_enter Try.func30, Try.ntmps30
    go_wp2_with (at_builtin; refine wpList_append_cells _ (by rfl) (.tmp 5) (.tmp 6) 54 rfl w.heap.size 60 i60 _ 3 24 Try.underlying54 hi hz0 hz1 hz2 rfl (by omega) (.slice (some ⟨w.heap.size, 0, none⟩) 0 0) 0 [] rfl (own_lit _ _ _ _ _ 0 _ rfl (Nat.le_refl _) rfl (by unfold maxLen; omega)) (some ad) X.length cap (flat X) rfl (by intro h; cases h) (flat_length X) (HC.out.ext (by repeat (first | exact Ext.refl _ | refine Ext.alloc ?_ _ | refine Ext.more ?_ _ _ | refine Ext.drew ?_ | refine Ext.drewN ?_ _ | refine Ext.setCell ?_ (by simp <;> omega) _))) (flat_one' X) (by unfold maxLen; omega) (by omega) (by simp <;> omega) ?_; intro v7 w7 hown7 hg7 hat7)
    go_ret
    refine ⟨v7, rfl, by simpa using hown7, Ext.of_below ?_⟩
    refine ((Below.refl _ w).alloc (Nat.le_refl _) _).grown hg7 (by simp) (fun g hg => ?_)
    simp [Value.ownBlock] at hg
    omega
/-- the heap as things in order, whatever its count -/
def HeapM (w : World) (p : Nat) (v : Value) (R : List It) (c : Int) : Prop := ∃ X, HeapAt w p byKeyV v X c ∧ Models X R
theorem HeapM.lt {w : World} {p : Nat} {v : Value} {R : List It} {c : Int} (h : HeapM w p v R c) : p < w.heap.size := by
  obtain ⟨X, h, _⟩ := h
  exact h.lt
theorem HeapM.turn {w w' : World} {p : Nat} {v : Value} {R : List It} {c : Int} (h : HeapM w p v R c) {S : Nat → Prop} (t : Turn S w w') (hS : ∀ b, mine p v b → ¬ S b) : HeapM w' p v R c := by
  obtain ⟨X, h, hm⟩ := h
  exact ⟨X, h.turn t (hS p (.inl rfl)) (fun g hg => hS g (.inr hg)), hm⟩
theorem HeapM.ext {w w' : World} {p : Nat} {v : Value} {R : List It} {c : Int} (h : HeapM w p v R c) (e : Ext w w') : HeapM w' p v R c := by
  obtain ⟨X, h, hm⟩ := h
  exact ⟨X, h.ext e, hm⟩
theorem HeapM.apart27 {w : World} {p : Nat} {v : Value} {R : List It} {c : Int} (h : HeapM w p v R c) {b : Nat} {cs : Array Value} (ho : w.heap[b]? = some (.cells cs 27)) : ¬ mine p v b := by
  obtain ⟨X, h, _⟩ := h
  rintro (rfl | hb)
  · rw [h.blk] at ho
    injection ho with ho
    injection ho with _ ho
    cases ho
  · obtain ⟨cur, hc⟩ := own_obj h.row b hb
    rw [hc] at ho
    injection ho with ho
    injection ho with _ ho
    cases ho
theorem HeapM.stays {w w' : World} {p : Nat} {v v' : Value} {R : List It} {c : Int} (h : HeapM w p v R c) (m : Moves p v v' w w') {b : Nat} {cs : Array Value} (ho : w.heap[b]? = some (.cells cs 27)) : w'.heap[b]? = some (.cells cs 27) := by
  refine (m.turn.block b (lt_of_heap ho) ?_).trans ho
  obtain ⟨X, h, _⟩ := h
  rintro (rfl | hb)
  · rw [h.blk] at ho
    injection ho with ho
    injection ho with _ ho
    cases ho
  · obtain ⟨cur, hc⟩ := own_obj h.row b hb
    rw [hc] at ho
    injection ho with ho
    injection ho with _ ho
    cases ho
/-- the heap's state behind a Take -/
def NextM (B p : Nat) (R : List It) (c : Int) (w w' : World) : Prop := ∃ v', HeapM w' p v' R c ∧ From B p v' ∧ Below B w w' ∧ ∀ (b : Nat) (cs : Array Value), w.heap[b]? = some (Obj.cells cs 27) → w'.heap[b]? = some (Obj.cells cs 27)
theorem takeM_nil (p : Nat) (v : Value) (c : Int) (w : World) (h : HeapM w p v [] c) : Calls Try.prog 13 #[.pointer (some ⟨p, 0, none⟩)] w fun e w' => e = .returned (.tuple #[.agg #[.int .i64 0, .int .i64 0], .bool false]) ∧ Ext w w' := by
  obtain ⟨X, h, hm⟩ := h
  obtain rfl : X = [] := List.eq_nil_of_length_eq_zero (models_length hm)
  exact take_nil p v c w h
theorem takeM (B p : Nat) (v : Value) (r : It) (R : List It) (c : Int) (w : World) (hX : R.length ≤ 100000) (h : HeapM w p v (r :: R) c) (hB : From B p v) :
    Calls Try.prog 13 #[.pointer (some ⟨p, 0, none⟩)] w fun e w' => e = .returned (.tuple #[.agg #[.int .i64 r.2.1, .int .i64 r.2.2], .bool true]) ∧ NextM B p R c w w' := by
  have hh := h
  obtain ⟨X, h, hm⟩ := h
  have hl := models_length hm
  simp at hl
  refine (take_any p v X c w (by omega) (by omega) h).mono ?_
  rintro e w' ⟨he, v', h', m⟩
  rw [least_models hm] at he
  have hp : B ≤ w.heap.size := Nat.le_of_lt (Nat.lt_of_le_of_lt (hB p (.inl rfl)) h.lt)
  exact ⟨he, v', ⟨_, h', take_models hm⟩, fun b hb => (m.own b hb).elim (hB b) (Nat.le_trans hp), m.turn.below hp hB, fun b cs ho => hh.stays m ho⟩

theorem takeU (B p : Nat) (v : Value) (R : List It) (c : Int) (w : World) (hX : R.length ≤ 100000) (h : HeapM w p v R c) (hB : From B p v) :
    Calls Try.prog 13 #[.pointer (some ⟨p, 0, none⟩)] w fun e w' => ∃ k d : Int, e = .returned (.tuple #[.agg #[.int .i64 k, .int .i64 d], .bool (decide (0 < R.length))]) ∧ (0 < R.length → (R.getD 0 z3).2 = (k, d)) ∧ NextM B p (R.drop 1) c w w' := by
  cases R with
  | nil =>
    have hp : B ≤ w.heap.size := Nat.le_of_lt (Nat.lt_of_le_of_lt (hB p (.inl rfl)) h.lt)
    refine (takeM_nil p v c w h).mono ?_
    rintro e w' ⟨he, ext⟩
    exact ⟨0, 0, he, fun h0 => by simp at h0, v, h.ext ext, hB, ext.below.mono hp, fun b cs ho => (ext.below.block b (lt_of_heap ho)).trans ho⟩
  | cons r R =>
    refine (takeM B p v r R c w (by simp at hX; omega) h hB).mono ?_
    rintro e w' ⟨he, hn⟩
    exact ⟨_, _, by simpa using he, fun _ => rfl, hn⟩

def encIt (x : Int × Int) : Array Value := #[.agg #[.int .i64 x.1, .int .i64 x.2]]
set_option maxRecDepth 100000 in
set_option maxHeartbeats 3000000 in
theorem all_any (p : Nat) (w : World) : Calls Try.prog 16 #[.pointer (some ⟨p, 0, none⟩)] w fun e w' => e = .returned (.func (.func 29) #[] #[.pointer (some ⟨w.heap.size, 0, none⟩)]) ∧ w' = w.alloc (.cells #[.pointer (some ⟨p, 0, none⟩)] 24) := by
  go_enter Try.func16, Try.ntmps16
  go_wp2_with fail
  go_ret
  exact ⟨rfl, rfl⟩
theorem own_base {w : World} {base base' : Nat} {e : TypeId} {size : Nat} {v : Value} {n : Nat} {xs : List Value} (h : w.ownsRow base e size v n xs) (hb : base' ≤ base) : w.ownsRow base' e size v n xs :=
  ⟨h.1, h.2.imp id fun ⟨g, cap, cur, h1, h2, h3⟩ => ⟨g, cap, cur, h1, Nat.le_trans hb h2, h3⟩⟩
/-- the iterator's own things, the j-th in the box bs -/
def AllAt (B q bs : Nat) (R : List It) (j : Nat) (wr : World) : Prop :=
  ∃ (v' : Value) (k d : Int), HeapM wr q v' (R.drop (j + 1)) 0 ∧ From B q v' ∧ B ≤ bs ∧ wr.heap[bs]? = some (.cells #[.int .i64 k, .int .i64 d] 27) ∧ (j < R.length → (R.getD j z3).2 = (k, d))
set_option maxRecDepth 100000 in
set_option maxHeartbeats 3000000 in
theorem all_iter (p : Nat) (v : Value) (R : List It) (c : Int) (w1 : World) (bx lo : Nat) (h : HeapR w1 p v R c) (hbx : w1.heap[bx]? = some (.cells #[.pointer (some ⟨p, 0, none⟩)] 24)) (hR : R.length ≤ 100000) :
    IterB Try.prog 29 #[.pointer (some ⟨bx, 0, none⟩)] encIt (R.map fun r => r.2) lo w1 := by
  intro l J Jx hJ hJx hY h0
  obtain ⟨X, hX, hm, _⟩ := h
  have hb0 := cell_of_row _ _ 0 _ _ _ hbx
  simp at hb0
  have hbl := lt_of_heap hbx
  have hpl := hX.lt
  obtain ⟨c0, c1, c2⟩ := hX.cell
  have NO := Lib.hid (fun w1 g1 => none_any p v X c w1 g1)
  have CL := Lib.hid (fun w1 g1 => clone_any p v X c (by rw [models_length hm]; exact hR) w1 g1)
  have HX := Lib.hid hX
  have HM := Lib.hid hm
  have HY := Lib.hid hY
  have HJ := Lib.hid hJ
  have HJX := Lib.hid hJx
  have H0 := Lib.hid h0
  clear hY hJ hJx h0 hX hm
  simp only [List.append_toArray, List.cons_append, List.nil_append]
  go_enter Try.func29, Try.ntmps29
  go_wp2_with (first | (go_at_call 25; refine (NO.out _ (HX.out.ext (by repeat (first | exact Ext.refl _ | refine Ext.alloc ?_ _ | refine Ext.more ?_ _ _ | refine Ext.drew ?_ | refine Ext.drewN ?_ _ | refine Ext.setCell ?_ (by simp <;> omega) _)))).mono ?_; rintro e w2 ⟨rfl, os1, k1, rfl⟩))
  have HE := Lib.hid (show Ext w1 (more w1 os1 k1) from ⟨os1, k1, rfl⟩)
  generalize hW : more w1 os1 k1 = W at *
  clear hW
  have d0 := (cell_of_row _ _ 0 _ _ _ ((HE.out.below.block bx hbl).trans hbx))
  obtain ⟨e0, e1, e2⟩ := (HX.out.ext HE.out).cell
  have hbW := Nat.lt_of_lt_of_le hbl HE.out.size
  have hpW := Nat.lt_of_lt_of_le hpl HE.out.size
  simp at d0
  unfold byKeyV at e0
  clear hb0 c0 c1 c2 hbl hpl hbx
  go_region_held3 (fun w' => w'.cell? ⟨bx, 0, none⟩ = some (.pointer (some ⟨p, 0, none⟩)) ∧ w'.cell? ⟨p, 0, none⟩ = some (.func (.func 9) #[] #[]) ∧ w'.cell? ⟨p, 1, none⟩ = some v) (first | go_keep | (refine ⟨(more_cell _ _ _ _ _ hbW).trans ?_, (more_cell _ _ _ _ _ hpW).trans ?_, (more_cell _ _ _ _ _ hpW).trans ?_⟩ <;> simp [go_sem, *])) (first | (go_at_call 30; refine (CL.out _ ((HX.out.ext HE.out).ext (by repeat (first | exact Ext.refl _ | refine Ext.alloc ?_ _ | refine Ext.more ?_ _ _ | refine Ext.drew ?_ | refine Ext.drewN ?_ _ | refine Ext.setCell ?_ (by simp <;> omega) _)))).mono ?_; rintro e w5 ⟨v5, rfl, hown5, os5, k5, rfl⟩; obtain ⟨A5, cap5, rfl, _⟩ := own_cells hown5))
  have HQ : Hid (HeapM ((more W os5 k5).alloc (.cells #[byKeyV, .slice A5 X.length cap5, .int .i64 0] 56)) (W.heap.size + os5.length) (.slice A5 X.length cap5) R 0) := by
    have ho := own_ext (own_base hown5 (Nat.zero_le _)) (w' := (more W os5 k5).alloc (.cells #[byKeyV, .slice A5 X.length cap5, .int .i64 0] 56)) ((Ext.refl _).alloc _)
    have hb := heap_alloc_new (more W os5 k5) (.cells #[byKeyV, .slice A5 X.length cap5, .int .i64 0] 56)
    rw [more_size] at hb
    exact ⟨X, ⟨hb, ho⟩, HM.out⟩
  have HF : Hid (From w1.heap.size (W.heap.size + os5.length) (.slice A5 X.length cap5)) := by
    have := HE.out.size
    rintro b (rfl | hb)
    · omega
    · have := own_block hown5 b hb
      simp at this
      omega
  have HB0 : Hid (Below w1.heap.size w1 ((more W os5 k5).alloc (.cells #[byKeyV, .slice A5 X.length cap5, .int .i64 0] 56))) :=
    HE.out.below.trans ((((Ext.refl W).more os5 k5).alloc _).below.mono HE.out.size)
  clear hown5
  go_wp2_with fail
  unfold byKeyV at HQ HB0
  obtain ⟨q, hq⟩ : ∃ q, W.heap.size + os5.length = q := ⟨_, rfl⟩
  rw [hq] at HQ HF ⊢
  generalize hW5 : (more W os5 k5).alloc (.cells #[.func (.func 9) #[] #[], .slice A5 X.length cap5, .int .i64 0] 56) = W5 at *
  have HJ0 := Lib.hid (HJ.out 0 _ _ HB0.out H0.out)
  have hq5 := HQ.out.lt
  clear hW5 hq NO CL HX HM H0 HE d0 e0 e1 e2 hbW hpW
  obtain ⟨B, hB⟩ : ∃ B, w1.heap.size = B := ⟨_, rfl⟩
  have HBB := Lib.hid hB
  rw [hB] at HF HB0
  clear hB
  refine (takeU B q _ R 0 W5 hR HQ.out HF.out).mono ?_
  rintro e w6 ⟨k6, d6, rfl, hkd, v6, h6, f6, b6, s6⟩
  have hsz6 : B ≤ w6.heap.size := by
    have := f6 q (.inl rfl)
    have := h6.lt
    omega
  have HA0 : Hid (AllAt B q w6.heap.size R 0 (w6.alloc (.cells #[.int .i64 k6, .int .i64 d6] 27))) :=
    ⟨v6, k6, d6, h6.ext ((Ext.refl _).alloc _), f6, hsz6, heap_alloc_new _ _, hkd⟩
  have HJ1 : Hid (J 0 (w6.alloc (.cells #[.int .i64 k6, .int .i64 d6] 27))) := HJ.out 0 _ _ (by rw [HBB.out]; exact b6.alloc hsz6 _) HJ0.out
  clear hkd h6 f6 b6 s6 HQ HF HJ0
  go_wp2_with fail
  go_loopg [4, 5] R.length (fun g s4 s5 wr => ∃ j bs : Nat, j ≤ R.length ∧ Hid (g = R.length - j) ∧ s4 = .pointer (some ⟨bs, 0, none⟩) ∧ s5 = .bool (decide (j < R.length)) ∧ Hid (AllAt B q bs R j wr) ∧ Hid (J j wr))
  case atStart => exact ⟨0, _, Nat.zero_le _, Lib.hid rfl, rfl, rfl, HA0, HJ1⟩
  case round =>
    obtain ⟨j, bs, hj, hg, rfl, rfl, hA, hJj⟩ := hrel
    by_cases hlt : j < R.length
    · have hd : decide (j < R.length) = true := by simp [hlt]
      rw [hd]
      obtain ⟨v7, k, d, h7, f7, hbs, hbb, hkd⟩ := hA.out
      have hgk := hkd hlt
      have x0 := cell_of_row _ _ 0 _ _ _ hbb
      have x1 := cell_of_row _ _ 1 _ _ _ hbb
      simp at x0 x1
      have hq7 := h7.lt
      have hb7 := lt_of_heap hbb
      obtain ⟨fn, tmps, assign, body, hy, hRound⟩ := HY.out j ((R.getD j z3).2) wr (by
        rw [List.getElem?_map, List.getElem?_eq_getElem hlt, List.getD_eq_getElem?_getD, List.getElem?_eq_getElem hlt]; rfl) (by rw [HBB.out]; have := f7 q (.inl rfl); omega) hJj.out
      rw [hgk] at hy
      rw [HBB.out] at hRound
      unfold encIt at hy
      have HR7 := Lib.hid hRound
      have H7 := Lib.hid h7
      have F7 := Lib.hid f7
      have B7 := Lib.hid hbb
      clear hRound h7 f7 hbb hkd hgk hA hJj hd
      go_upto_region 5 with fail
      refine (wpIn_wide (n := 1)).1 ?_
      gi_wp2
      refine HR7.out.mono ?_
      rintro e w8 (⟨rfl, hJ8, t8⟩ | ⟨rfl, hJ8, t8⟩)
      · have h8 := H7.out.turn t8 (fun b hb hS => by have := F7.out b hb; omega)
        have hb8 := (t8.block _ hb7 (by omega)).trans B7.out
        have y0 := cell_of_row _ _ 0 _ _ _ hb8
        have y1 := cell_of_row _ _ 1 _ _ _ hb8
        simp at y0 y1
        have hb9 := lt_of_heap hb8
        have hq9 := h8.lt
        have hn8 := heap_alloc_new w8 (.cells #[.int .i64 k, .int .i64 d] 27)
        have H8 := Lib.hid (h8.ext (w' := w8.alloc (.cells #[.int .i64 k, .int .i64 d] 27)) ((Ext.refl _).alloc _))
        have N8 := Lib.hid hn8
        have hB8 : B ≤ w8.heap.size := by have := F7.out q (.inl rfl); omega
        have J8 : Hid (J (j + 1) (w8.alloc (.cells #[.int .i64 k, .int .i64 d] 27))) := HJ.out _ _ _ (by rw [HBB.out]; exact (Below.refl B w8).alloc hB8 _) hJ8
        clear h8 hb8 t8 hJ8 H7 B7 HR7 hy x0 x1 hn8
        gi_wp2
        go_wp2_with fail
        refine (takeU B q v7 _ 0 _ (by rw [List.length_drop]; omega) H8.out F7.out).mono ?_
        rintro e w9 ⟨k9, d9, rfl, hkd9, v9, h9, f9, b9, s9⟩
        have hn9 := s9 _ _ N8.out
        have m0 := cell_of_row _ _ 0 _ _ _ hn9
        have m1 := cell_of_row _ _ 1 _ _ _ hn9
        have f0 : ∀ i, w9.frozen? ⟨w8.heap.size, i, none⟩ = false := fun i => by simp [World.frozen?, hn9]
        have f1 := f0 0
        have f2 := f0 1
        have hl9 := lt_of_heap hn9
        simp at m0 m1
        have H9 := Lib.hid h9
        have N9 := Lib.hid hn9
        have K9 := Lib.hid hkd9
        have J9 : Hid (J (j + 1) w9) := HJ.out _ _ _ (by rw [HBB.out]; exact b9) J8.out
        clear h9 hn9 hkd9 b9 s9 f0 H8 N8 J8
        go_wp2_with fail
        have hdec : decide (0 < R.length - (j + 1)) = decide (j + 1 < R.length) := by
          rw [decide_eq_decide]
          omega
        have T10 : Turn (fun b => b = w8.heap.size) w9 ((w9.setCell ⟨w8.heap.size, 0, none⟩ (.int .i64 k9)).setCell ⟨w8.heap.size, 1, none⟩ (.int .i64 d9)) :=
          (Turn.setCell (S := fun b => b = w8.heap.size) w9 (p := ⟨w8.heap.size, 0, none⟩) rfl _).trans (Turn.setCell (S := fun b => b = w8.heap.size) _ (p := ⟨w8.heap.size, 1, none⟩) rfl _)
        have hA10 : AllAt B q w8.heap.size R (j + 1) ((w9.setCell ⟨w8.heap.size, 0, none⟩ (.int .i64 k9)).setCell ⟨w8.heap.size, 1, none⟩ (.int .i64 d9)) := by
          refine ⟨v9, k9, d9, ?_, f9, hB8, ?_, fun hlt2 => ?_⟩
          · have h10 := H9.out
            rw [List.drop_drop] at h10
            exact h10.turn T10 (fun b hb he => h10.apart27 (he ▸ N9.out) hb)
          · simp [World.setCell, Array.getElem?_modify, N9.out]
          · have := K9.out (by rw [List.length_drop]; omega)
            have e : (R.drop (j + 1)).getD 0 z3 = R.getD (j + 1) z3 := by rw [List.getD_eq_getElem?_getD, List.getD_eq_getElem?_getD, List.getElem?_drop, Nat.add_zero]
            rw [e] at this
            exact this
        have hJ10 : J (j + 1) ((w9.setCell ⟨w8.heap.size, 0, none⟩ (.int .i64 k9)).setCell ⟨w8.heap.size, 1, none⟩ (.int .i64 d9)) := HJ.out _ _ _ (by
          rw [HBB.out]
          exact T10.below (by omega) (fun b hb => by omega)) J9.out
        have HA10 := Lib.hid hA10
        have HJ10 := Lib.hid hJ10
        clear hA10 hJ10 T10 H9 N9 K9 J9
        go_roundg (R.length - (j + 1))
        case measure => have := hg.out; omega
        case rel => exact ⟨j + 1, _, by omega, Lib.hid rfl, rfl, by rw [hdec], HA10, HJ10⟩
      · have hB8 : B ≤ w8.heap.size := by have := F7.out q (.inl rfl); have := t8.size; omega
        gi_wp2
        go_wp2_with fail
        refine bodyPost_ret (results_none rfl _ _ _) rfl ?_
        exact ⟨⟨_, rfl⟩, by rw [HBB.out]; exact hB8, .inr ⟨j + 1, by rw [List.length_map]; omega, hJ8⟩⟩
    · obtain rfl : j = R.length := by omega
      have hd : decide (R.length < R.length) = false := by simp
      rw [hd]
      have hsz : B ≤ wr.heap.size := by
        obtain ⟨v7, k, d, h7, f7, _⟩ := hA.out
        have := f7 q (.inl rfl)
        have := h7.lt
        omega
      clear hd hlt
      go_wp2_with fail
      go_end0
      exact ⟨⟨_, rfl⟩, by rw [HBB.out]; exact hsz, .inl (by rw [List.length_map]; exact hJj.out)⟩
end Go.Proofs.Ytjllikpocfppoaa
