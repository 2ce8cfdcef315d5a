/- A thing rises. -/
import Derived.Test.YtmgpofdmfmeljaaJc
import Derived.WalkSpells
import Derived.WalkLawsBesides
import Derived.BigRegion
import Derived.Deep.RegionWith
import Derived.Deep.QuietTactic
import Derived.Deep.DeepCutAuto
import Derived.Deep.RegionHeld3
import Derived.Deep.RegionLaw
import Derived.BigQuiet
import Derived.Lib.Hide
namespace Go.Proofs.Ytmgpofdmfmeljaa
open Go.RowKit
attribute [local go_sem] more_drew more_drewN more_size more_cell more_frozen more_setCell drew_more drewN_more lt_add_r lt_add_r2 lt_add_r3 lt_add_r4 lt_add_r5 lt_add_r6 lt_add_r7 lt_add_r8 lt_add_r9 lt_add_r10 lt_self_r lt_self_r2

/-- two items change places -/
def swp (X : List It) (i k : Nat) : List It := (X.set i (X.getD k z6)).set k (X.getD i z6)
theorem swp_length (X : List It) (i k : Nat) : (swp X i k).length = X.length := by simp [swp]
/-- the rise -/
def upL (kv : Kv) : Nat → List It → Nat → List It
  | 0, X, _ => X
  | f + 1, X, i => if 0 < i ∧ ltI kv (X.getD i z6) (X.getD ((i - 1) / 2) z6) = true then upL kv f (swp X i ((i - 1) / 2)) ((i - 1) / 2) else X

theorem upL_fuel (kv : Kv) : ∀ (f f' i : Nat) (X : List It), i ≤ f → i ≤ f' → upL kv f X i = upL kv f' X i
  | 0, f', i, X, h, h' => by
    obtain rfl : i = 0 := by omega
    cases f' with
    | zero => rfl
    | succ f' => simp [upL]
  | f + 1, 0, i, X, h, h' => by
    obtain rfl : i = 0 := by omega
    simp [upL]
  | f + 1, f' + 1, i, X, h, h' => by
    simp only [upL]
    split
    · exact upL_fuel kv f f' _ _ (by omega) (by omega)
    · rfl

set_option maxRecDepth 100000 in
set_option maxHeartbeats 3000000 in
theorem up_any {p : Nat} {o : Od} {v : Value} {X : List It} {c : Int} (i : Nat) (hi : i < X.length) (w : World) (h : HeapAt w p o v X c) : Calls Try.prog 35 #[.pointer (some ⟨p, 0, none⟩), .int .i64 (i : Int)] w fun e w' => e = .returned (.tuple #[]) ∧ HeapAt w' p o v (upL o.k i X i) c ∧ Turn (mine p v) w w' := by
  obtain ⟨g, cap, rfl, hpg, hg, hlc, hcm⟩ := h.form (by omega)
  have hm : X.length ≤ 9223372036854775807 := by unfold maxLen at hcm; omega
  have H := Lib.hid h
  clear h
  go_enter Try.func35, Try.ntmps35
  go_wp2_with fail
  go_loopw [1] (fun s wr => ∃ (k : Nat) (Y : List It), k < X.length ∧ s = .int .i64 k ∧ Y.length = X.length ∧ Hid (upL o.k k Y k = upL o.k i X i) ∧ HeapAt wr p o (.slice (some ⟨g, 0, none⟩) X.length cap) Y c ∧ Turn (mine p (.slice (some ⟨g, 0, none⟩) X.length cap)) w wr) (fun s _ => (intOf s).toNat)
  case atStart => exact ⟨i, X, hi, rfl, rfl, Lib.hid rfl, H.out, Turn.refl _⟩
  case round =>
    obtain ⟨k, Y, hk, rfl, hY, hU, hHY, hT⟩ := hrel
    rcases (show k = 0 ∨ 0 < k by omega) with rfl | k0
    · have hY2 : Y = upL o.k i X i := hU.out
      clear hU
      go_wp2_with fail
      go_end0
      exact ⟨rfl, hY2 ▸ hHY, hT⟩
    · obtain ⟨m, hmm⟩ : ∃ m, (k - 1) / 2 = m := ⟨_, rfl⟩
      have e2 : ((k : Int) - 1) / 2 = (m : Int) := by omega
      have hmk : m < k := by omega
      go_wp2_with fail
      refine (less_any k m (by omega) (by omega) wr (hY.symm ▸ hHY)).mono ?_
      rintro e w1 ⟨rfl, hE⟩
      have HQ := hHY.ext hE
      have hT1 := hT.trans (Turn.of_ext hE)
      clear hHY hE hT
      cases hlt : ltI o.k (Y.getD k z6) (Y.getD m z6)
      · have hY2 : Hid (Y = upL o.k i X i) := by
          show _ = _
          rw [← hU.out]
          cases k with
          | zero => omega
          | succ k => simp only [upL]; rw [if_neg (by rw [hmm, hlt]; simp)]
        clear hU
        go_wp2_with fail
        go_end0
        exact ⟨rfl, hY2.out ▸ HQ, hT1⟩
      · have HQ' : HeapAt w1 p o (.slice (some ⟨g, 0, none⟩) Y.length cap) Y c := hY.symm ▸ HQ
        have hg1 : g < w1.heap.size := Nat.lt_of_lt_of_le hg hT1.size
        obtain ⟨i0, i1, i2, i3, i4, i5⟩ := HQ'.item k (by omega)
        obtain ⟨j0, j1, j2, j3, j4, j5⟩ := HQ'.item m (by omega)
        obtain ⟨_, c1, _⟩ := HQ'.cell
        rw [hY] at c1
        have z0 := HQ'.row.frozenAt (k * 6)
        have z1 := HQ'.row.frozenAt (k * 6 + 1)
        have z2 := HQ'.row.frozenAt (k * 6 + 2)
        have z3 := HQ'.row.frozenAt (k * 6 + 3)
        have z4 := HQ'.row.frozenAt (k * 6 + 4)
        have z5 := HQ'.row.frozenAt (k * 6 + 5)
        have y0 := HQ'.row.frozenAt (m * 6)
        have y1 := HQ'.row.frozenAt (m * 6 + 1)
        have y2 := HQ'.row.frozenAt (m * 6 + 2)
        have y3 := HQ'.row.frozenAt (m * 6 + 3)
        have y4 := HQ'.row.frozenAt (m * 6 + 4)
        have y5 := HQ'.row.frozenAt (m * 6 + 5)
        have HH := Lib.hid HQ'
        have hp1 := HQ'.lt
        have hU2 : Hid (upL o.k m (swp Y k m) m = upL o.k i X i) := by
          show _ = _
          rw [← hU.out]
          cases k with
          | zero => omega
          | succ k =>
            simp only [upL]
            rw [if_pos (by rw [hmm, hlt]; exact ⟨by omega, rfl⟩), hmm]
            exact upL_fuel _ _ _ _ _ (by omega) (by omega)
        clear HQ HQ' hU hlt
        obtain ⟨xk, hxk⟩ : ∃ x, Y.getD k z6 = x := ⟨_, rfl⟩
        obtain ⟨xm, hxm⟩ : ∃ x, Y.getD m z6 = x := ⟨_, rfl⟩
        rw [hxk] at i0 i1 i2 i3 i4 i5
        rw [hxm] at j0 j1 j2 j3 j4 j5
        have HXK := Lib.hid hxk
        have HXM := Lib.hid hxm
        clear hxk hxm
        have b0 : (k : Int) < (X.length : Int) := by omega
        have b1 : (m : Int) < (X.length : Int) := by omega
        have b2 : (0 : Int) ≤ (k : Int) := by omega
        have b3 : (0 : Int) ≤ (m : Int) := by omega
        go_wp2_with fail
        go_region
        go_wp2_with fail
        obtain ⟨l1, t1⟩ := HH.out.lay k xm
        have l1' : HeapAt (lay6 w1 g k xm) p o (.slice (some ⟨g, 0, none⟩) (Y.set k xm).length cap) (Y.set k xm) c := by rw [List.length_set]; exact l1
        obtain ⟨l2, t2⟩ := l1'.lay m xk
        rw [List.length_set, hY] at l2
        rw [List.length_set, hY] at t2
        rw [hY] at t1
        have l3 := l2.ext ((Ext.refl _).drew)
        have t3 := ((hT1.trans t1).trans t2).trans (Turn.of_ext ((Ext.refl _).drew))
        unfold lay6 at l3 t3
        have ee : swp Y k m = (Y.set k xm).set m xk := by unfold swp; rw [HXK.out, HXM.out]
        refine ⟨⟨m, swp Y k m, by omega, rfl, by rw [swp_length, hY], hU2, ?_, ?_⟩, by show ((m : Int)).toNat < ((k : Int)).toNat; omega⟩
        · rw [ee]
          exact l3
        · exact t3
end Go.Proofs.Ytmgpofdmfmeljaa
