/- The chapter's example. -/
import Derived.Test.YtjllikpocfppoaaO
import Derived.WalkSpells
import Derived.WalkLawsBesides
import Derived.BigRegion
import Derived.Deep.RegionWith
import Derived.Deep.QuietTactic
import Derived.Deep.DeepCutAuto
import Derived.Deep.RegionHeld3
import Derived.Deep.RegionLaw
import Derived.BigQuiet
import Derived.Lib.Hide
namespace Go.Proofs.Ytjllikpocfppoaa
open Go.RowKit
attribute [local go_sem] more_drew more_drewN more_size more_cell more_frozen more_setCell drew_more drewN_more lt_add_r lt_add_r2 lt_add_r3 lt_add_r4 lt_add_r5 lt_add_r6 lt_add_r7 lt_add_r8 lt_add_r9 lt_add_r10 lt_self_r lt_self_r2

def keyOf : Nat → Int
  | 0 => 2
  | 1 => 1
  | 2 => 2
  | _ => 1
def idOf : Nat → Int
  | 0 => 1
  | 1 => 1
  | 2 => 2
  | _ => 2
def litR : Nat → List It
  | 0 => []
  | k + 1 => insL (litR k) (k, keyOf k, idOf k)
theorem litR_length (k : Nat) : (litR k).length = k := by
  induction k with
  | zero => rfl
  | succ k ih =>
    simp only [litR]
    rw [(insL_perm _ _).length_eq]
    simp [ih]
theorem litR4 : litR 4 = [(1, 1, 1), (3, 1, 2), (0, 2, 1), (2, 2, 2)] := by decide
/-- the heap of an own call, what lies ahead of B untouched -/
abbrev litB : Obj := .cells #[.int .i64 2, .int .i64 1, .int .i64 1, .int .i64 1, .int .i64 2, .int .i64 2, .int .i64 1, .int .i64 2] 27
def LitAt (w : World) (p bl k : Nat) (wr : World) : Prop := ∃ v, HeapR wr p v (litR k) k ∧ wr.heap[bl]? = some litB ∧ Below p w wr ∧ bl ≠ p ∧ From p p v
/-- what was taken lies in blocks of its own -/
def Taken (p : Nat) (w : World) (L : List (Nat × Int × Int)) (R : List It) (c : Int) (wr : World) : Prop :=
  ∃ v, HeapR wr p v R c ∧ Below p w wr ∧ From p p v ∧ ∀ x ∈ L, wr.heap[x.1]? = some (.cells #[.int .i64 x.2.1, .int .i64 x.2.2] 27)
section
variable {p : Nat} {w wr : World} {L : List (Nat × Int × Int)} {R : List It} {c : Int} {r : It}
theorem Taken.ext {w' : World} (h : Taken p w L R c wr) (e : Ext wr w') : Taken p w L R c w' := by
  obtain ⟨v, h1, h2, hF, h3⟩ := h
  exact ⟨v, h1.ext e, h2.trans (e.below.mono (Nat.le_of_lt h1.lt)), hF, fun x hx => (e.below.block _ (lt_of_heap (h3 x hx))).trans (h3 x hx)⟩
theorem Taken.add (h : Taken p w L R c wr) (k d : Int) : Taken p w ((wr.heap.size, k, d) :: L) R c (wr.alloc (.cells #[.int .i64 k, .int .i64 d] 27)) := by
  obtain ⟨v, h1, h2, hF, h3⟩ := h.ext ((Ext.refl wr).alloc (.cells #[.int .i64 k, .int .i64 d] 27))
  refine ⟨v, h1, h2, hF, fun x hx => ?_⟩
  rcases List.mem_cons.1 hx with rfl | hx
  · exact heap_alloc_new _ _
  · exact h3 x hx
theorem Taken.lt (h : Taken p w L R c wr) : p < wr.heap.size := by
  obtain ⟨v, h1, _⟩ := h
  exact h1.lt
theorem Taken.moves {w' : World} {v v' : Value} {R' : List It} {c' : Int} (h1 : HeapR wr p v R c) (h2 : Below p w wr) (hF : From p p v) (h3 : ∀ x ∈ L, wr.heap[x.1]? = some (.cells #[.int .i64 x.2.1, .int .i64 x.2.2] 27)) (h : HeapR w' p v' R' c') (m : Moves p v v' wr w') : Taken p w L R' c' w' :=
  ⟨v', h, h2.trans (h1.below m hF), hF.moves h1 m, fun x hx => h1.stays m (h3 x hx) (kind27 _)⟩
theorem takeT (hX : R.length ≤ 100000) (h : Taken p w L (r :: R) c wr) : Calls Try.prog 13 #[.pointer (some ⟨p, 0, none⟩)] wr fun e w' => e = .returned (.tuple #[.agg #[.int .i64 r.2.1, .int .i64 r.2.2], .bool true]) ∧ Taken p w L R c w' := by
  obtain ⟨v, h1, h2, hF, h3⟩ := h
  refine (takeR p v r R c wr hX h1).mono ?_
  rintro e w' ⟨he, v', h', m⟩
  exact ⟨he, Taken.moves h1 h2 hF h3 h' m⟩
theorem takeT_nil (h : Taken p w L [] c wr) : Calls Try.prog 13 #[.pointer (some ⟨p, 0, none⟩)] wr fun e w' => e = .returned (.tuple #[.agg #[.int .i64 0, .int .i64 0], .bool false]) ∧ Taken p w L [] c w' := by
  have hh := h
  obtain ⟨v, h1, h2, hF, h3⟩ := h
  refine (takeR_nil p v c wr h1).mono ?_
  rintro e w' ⟨he, ext⟩
  exact ⟨he, hh.ext ext⟩
theorem Taken.cell (h : Taken p w L R c wr) {x : Nat × Int × Int} (hx : x ∈ L) : wr.cell? ⟨x.1, 0, none⟩ = some (.int .i64 x.2.1) ∧ wr.cell? ⟨x.1, 1, none⟩ = some (.int .i64 x.2.2) ∧ x.1 < wr.heap.size := by
  obtain ⟨v, h1, h2, hF, h3⟩ := h
  have := h3 x hx
  exact ⟨cell_of_row _ _ _ _ _ _ this, cell_of_row _ _ _ _ _ _ this, lt_of_heap this⟩
end

set_option maxRecDepth 100000 in
set_option maxHeartbeats 3000000 in
theorem lives_any (w : World) : Calls Try.prog 7 #[] w fun e w' => e = .returned (.bool true) ∧ Below w.heap.size w w' := by
  have HA := Lib.hid (Ext.refl (w.alloc (.cells #[byKeyV, .slice none 0 0, .int .i64 0] 56)))
  go_enter Try.func7, Try.ntmps7
  go_wp2_with (first
    | (go_at_call 8; refine (new_any _).mono ?_; rintro e w1 ⟨rfl, rfl⟩)
    | (go_at_call 11; refine (one_any _ _ _).mono ?_; rintro e w1 ⟨rfl, hx⟩; replace HA := Lib.hid ((HA.out.trans (by repeat (first | exact Ext.refl _ | refine Ext.alloc ?_ _ | refine Ext.more ?_ _ _ | refine Ext.drew ?_ | refine Ext.drewN ?_ _ | refine Ext.setCell ?_ (by simp <;> omega) _))).trans hx); clear hx))
  obtain ⟨w4, rfl⟩ : ∃ w4, w4 = w1 := ⟨_, rfl⟩
  have hA := HA.out
  have hL := ((newR w).ext hA).ext ((Ext.refl w4).alloc litB)
  have hB : (w4.alloc litB).heap[w4.heap.size]? = some litB := heap_alloc_new _ _
  have hW : Below w.heap.size w (w4.alloc litB) := (((Below.refl _ _).alloc (Nat.le_refl _) _).trans (hA.below.mono (by simp))).alloc (by have := hA.size; simp at this; omega) _
  have hpb : w.heap.size < (w4.alloc litB).heap.size := hL.lt
  obtain ⟨bl, hbl⟩ : ∃ bl, w4.heap.size = bl := ⟨_, rfl⟩
  obtain ⟨p, hp⟩ : ∃ p, w.heap.size = p := ⟨_, rfl⟩
  rw [hbl] at hB ⊢
  rw [hp] at hL hW hpb ⊢
  have hne : bl ≠ p := by have := hA.size; simp at this; omega
  have HP := Lib.hid hp
  generalize hWW : w4.alloc litB = W at *
  clear hWW hbl hp hA HA w4
  have HL : Hid (LitAt w p bl 0 W) := ⟨_, hL, hB, hW, hne, From.new p p (Nat.le_refl _)⟩
  clear hL hB hW hne
  go_loopw [3] (fun s wr => ∃ k : Nat, k ≤ 4 ∧ s = .int .i64 (k : Int) ∧ Hid (LitAt w p bl k wr)) (fun s _ => 4 - (intOf s).toNat)
  case atStart => exact ⟨0, by omega, rfl, HL⟩
  case round =>
    obtain ⟨k, hk, rfl, hlit⟩ := hrel
    obtain ⟨v, h1, h2, h3, h4, h5⟩ := hlit.out
    have hpr := h1.lt
    have hbr := lt_of_heap h2
    by_cases hlt : k < 4
    · have c0 : wr.cell? ⟨bl, k * 2, none⟩ = some (.int .i64 (keyOf k)) := by
        rw [cell_of_row _ _ _ _ _ _ h2]
        rcases (show k = 0 ∨ k = 1 ∨ k = 2 ∨ k = 3 by omega) with rfl | rfl | rfl | rfl <;> rfl
      have c1 : wr.cell? ⟨bl, k * 2 + 1, none⟩ = some (.int .i64 (idOf k)) := by
        rw [cell_of_row _ _ _ _ _ _ h2]
        rcases (show k = 0 ∨ k = 1 ∨ k = 2 ∨ k = 3 by omega) with rfl | rfl | rfl | rfl <;> rfl
      have H1 := Lib.hid h1
      have H2 := Lib.hid h2
      have H3 := Lib.hid h3
      have H5 := Lib.hid h5
      clear h1 h2 h3 h5 hlit
      go_wp2_with fail
      refine (putR p v (litR k) k (keyOf k) (idOf k) (by rw [litR_length]; omega) (by omega) wr H1.out).mono ?_
      rintro e w1 ⟨rfl, v1, hr1, m1⟩
      have HX : Hid (LitAt w p bl (k + 1) w1) := ⟨v1, hr1, H1.out.stays m1 H2.out (kind27 _), H3.out.trans (H1.out.below m1 H5.out), h4, H5.out.moves H1.out m1⟩
      clear hr1 m1
      go_wp2_with fail
      go_roundw
      case rel => exact ⟨k + 1, by omega, by go_num, HX⟩
      case measure => simp [intOf]; omega
    · obtain rfl : k = 4 := by omega
      rw [litR4] at h1
      have HT : Hid (Taken p w [] [(1, 1, 1), (3, 1, 2), (0, 2, 1), (2, 2, 2)] 4 wr) := ⟨v, h1, h3, h5, by simp⟩
      clear h1 h2 h3 h5 hlit hlt
      go_wp2_with fail
      refine (takeT (by simp) HT.out).mono ?_
      rintro e w1 ⟨rfl, ht⟩
      replace HT := Lib.hid (ht.add 1 1)
      have q1 := ht.lt
      clear ht
      go_wp2_with fail
      refine (takeT (by simp) HT.out).mono ?_
      rintro e w2 ⟨rfl, ht⟩
      replace HT := Lib.hid (ht.add 1 2)
      have q2 := ht.lt
      clear ht
      go_wp2_with fail
      refine (takeT (by simp) HT.out).mono ?_
      rintro e w3 ⟨rfl, ht⟩
      replace HT := Lib.hid (ht.add 2 1)
      have q3 := ht.lt
      clear ht
      go_wp2_with fail
      refine (takeT (by simp) HT.out).mono ?_
      rintro e w4 ⟨rfl, ht⟩
      replace HT := Lib.hid (ht.add 2 2)
      have q4 := ht.lt
      clear ht
      go_wp2_with fail
      refine (takeT_nil HT.out).mono ?_
      rintro e w5 ⟨rfl, ht⟩
      replace HT := Lib.hid (ht.add 0 0)
      obtain ⟨a0, a1, a2⟩ := ht.cell (x := (w1.heap.size, 1, 1)) (by simp)
      obtain ⟨b0, b1, b2⟩ := ht.cell (x := (w2.heap.size, 1, 2)) (by simp)
      obtain ⟨c0, c1, c2⟩ := ht.cell (x := (w3.heap.size, 2, 1)) (by simp)
      obtain ⟨d0, d1, d2⟩ := ht.cell (x := (w4.heap.size, 2, 2)) (by simp)
      simp only at a0 a1 a2 b0 b1 b2 c0 c1 c2 d0 d1 d2
      clear ht
      go_wp2_with fail
      have HF := Lib.hid (HT.out)
      clear HT
      refine wp_region_ext (by kernel_rfl) (by kernel_rfl) ?_
      repeat (go_big_quiet_step ((go_at_call 11; exact calls_ext (one_any _ _ _))))
      refine wpQuiet_nil ?_
      intro _ hw'
      obtain ⟨x9, rfl⟩ := hw'
      go_wp2_with fail
      go_ret
      obtain ⟨v9, h9, b9, _⟩ := HF.out
      exact ⟨rfl, by rw [HP.out]; exact b9.trans (Ext.below ⟨x9.os, x9.k, rfl⟩ |>.mono (Nat.le_of_lt h9.lt))⟩
end Go.Proofs.Ytjllikpocfppoaa
