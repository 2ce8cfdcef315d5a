/- slices.Backward over parts: the iterator. -/
import Derived.Test.YtggmljookcmnkaaA5
import Derived.Test.YtggmljookcmnkaaD1
import Derived.WalkSpells
import Derived.WalkLawsBesides
import Derived.BigRegion
import Derived.Deep.RegionWith
import Derived.Deep.QuietTactic
import Derived.Deep.DeepCutAuto
import Derived.Deep.RegionHeld3
import Derived.Deep.RegionLaw
import Derived.BigQuiet
import Derived.Lib.Hide
namespace Go.Proofs.Ytggmljookcmnkaa
open Go.RowKit
attribute [local go_sem] more_drew more_drewN more_size more_cell more_frozen more_setCell drew_more drewN_more lt_add_r lt_add_r2 lt_add_r3 lt_add_r4 lt_add_r5 lt_add_r6 lt_add_r7 lt_add_r8 lt_add_r9 lt_add_r10 lt_self_r lt_self_r2
attribute [local go_sem] Oper.semAt_some

def encB (x : Nat × Prt) : Array Value := #[.int .i64 (x.1 : Int), aggV x.2]
def backs (ps : List Prt) : List (Nat × Prt) := (ps.mapIdx fun i p => (i, p)).reverse
theorem backs_length (ps : List Prt) : (backs ps).length = ps.length := by simp [backs]
theorem backs_at {ps : List Prt} {j : Nat} {p : Prt} (hj : j < ps.length) (hp : ps[ps.length - 1 - j]? = some p) : (backs ps)[j]? = some (ps.length - 1 - j, p) := by
  unfold backs
  rw [List.getElem?_reverse (by simpa using hj), List.length_mapIdx, List.getElem?_mapIdx, hp]
  rfl
theorem backs_get {ps : List Prt} {j : Nat} {x : Nat × Prt} (h : (backs ps)[j]? = some x) : j < ps.length ∧ x.1 = ps.length - 1 - j ∧ ps[x.1]? = some x.2 := by
  have hj : j < ps.length := by have := (List.getElem?_eq_some_iff.1 h).1; rwa [backs_length] at this
  obtain ⟨p, hp⟩ : ∃ p, ps[ps.length - 1 - j]? = some p := ⟨_, List.getElem?_eq_getElem (by omega)⟩
  rw [backs_at hj hp] at h
  injection h with h
  subst h
  exact ⟨hj, rfl, hp⟩
theorem back_make (A : Option Addr) (n c : Nat) (w : World) :
    Calls Try.prog 92 #[.slice A n c] w fun e w' => e = .returned (.func (.func 127) #[] #[pt w.heap.size]) ∧ w' = w.alloc (.cells #[.slice A n c] 23) := by
  go_enter Try.func92, Try.ntmps92
  go_wp2_with fail
  go_ret
  exact ⟨rfl, rfl⟩
set_option maxRecDepth 100000 in
set_option maxHeartbeats 3000000 in
theorem back_iter (A : Option Addr) (c : Nat) (ps : List Prt) (w0 w1 : World) (fb : Nat) (S : Nat → Prop) (hP : Prts w0 A ps) (hlen : ps.length ≤ 1000000) (_ : ps.length ≤ c) (_ : c ≤ 9223372036854775807)
    (h0 : Below w0.heap.size w0 w1) (hfb : w1.heap[fb]? = some (.cells #[.slice A ps.length c] 23)) (hfS : ¬ S fb) (hfree : ∀ b, b < w0.heap.size → ¬ S b) :
    IterB Try.prog 127 #[pt fb] encB (backs ps) S w1 := by
  intro l J Jx hJ hJx hY hJ0
  have HP := Lib.hid hP
  have HFR := Lib.hid hfree
  have HFS := Lib.hid hfS
  have HY := Lib.hid (fun (j : Nat) (p : Prt) (W : World) (hj : j < ps.length) (hp : ps[ps.length - 1 - j]? = some p) hB hJj => hY j _ W (backs_at hj hp) hB hJj)
  have HJ := Lib.hid hJ
  have S0 : Hid (Below w0.heap.size w0 w1 ∧ w1.heap[fb]? = some (.cells #[.slice A ps.length c] 23) ∧ w1.heap.size ≤ w1.heap.size ∧ J 0 w1) := Lib.hid ⟨h0, hfb, Nat.le_refl _, hJ0⟩
  have c0 := cell_of_row _ _ 0 _ _ _ hfb
  simp at c0
  have l0 := lt_of_heap hfb
  have b1 : wrap64 ((ps.length : Int) - 1) = (ps.length : Int) - 1 := IntWalk.wrap64_in _ (by omega)
  have HW1 := Lib.hid h0.size
  clear hP hfree hfS hY hJ hJx hJ0 h0 hfb
  simp only [List.append_toArray, List.cons_append, List.nil_append]
  go_enter Try.func127, Try.ntmps127
  go_wp2_with fail
  clear c0 l0 b1
  go_loopg [3] ps.length (fun g i wr => ∃ j : Nat, j ≤ ps.length ∧ Hid (g = ps.length - j) ∧ i = .int .i64 ((ps.length : Int) - 1 - (j : Int)) ∧ Hid (Below w0.heap.size w0 wr ∧ wr.heap[fb]? = some (.cells #[.slice A ps.length c] 23) ∧ w1.heap.size ≤ wr.heap.size ∧ J j wr))
  case atStart => exact ⟨0, Nat.zero_le _, Lib.hid rfl, by congr 1; omega, S0⟩
  case round =>
    obtain ⟨j, hj, hg, rfl, hs⟩ := hrel
    by_cases hlt : j < ps.length
    · obtain ⟨p, hp⟩ : ∃ p, ps[ps.length - 1 - j]? = some p := ⟨_, List.getElem?_eq_getElem (by omega)⟩
      obtain ⟨k, hk⟩ : ∃ k, ps.length - 1 - j = k := ⟨_, rfl⟩
      have hki : ((ps.length : Int) - 1 - (j : Int)) = (k : Int) := by omega
      have hkl : k < ps.length := by omega
      rw [hki]
      have hY := HY.out j p wr hlt hp hs.out.2.2.1 hs.out.2.2.2
      rw [hk] at hp hY
      obtain ⟨s1, s2, s3, s4⟩ := hs.out
      obtain ⟨b, off, rfl, hb, hcell⟩ := (HP.out.below s1) (by omega)
      obtain ⟨d0, d1, d2, d3, d4, d5, d6, d7⟩ := hcell k p hp
      have c0 := cell_of_row _ _ 0 _ _ _ s2
      simp at c0
      have l0 := lt_of_heap s2
      obtain ⟨fn, tmps, assign, body, hy, hRound⟩ := hY
      unfold encB at hy
      have HR := Lib.hid hRound
      have S2 := Lib.hid s2
      have S1 := Lib.hid s1
      have S3 := Lib.hid s3
      clear hRound s1 s2 s3 s4 hcell hp
      go_upto_region 3 with fail
      refine (wpIn_wide (n := 1)).1 ?_
      gi_wp2
      refine HR.out.mono ?_
      rintro e w8 (⟨rfl, hJ8, t8⟩ | ⟨rfl, hJ8, t8⟩)
      · have n1 := S1.out.trans (t8.below S1.out.size fun k hk => Nat.le_of_not_lt fun h => HFR.out k h hk.1)
        have n2 := (t8.block _ l0 (fun hk => HFS.out hk.1)).trans S2.out
        have n3 := Nat.le_trans S3.out t8.size
        have N8 : Hid (Below w0.heap.size w0 w8 ∧ w8.heap[fb]? = some (.cells #[.slice (some ⟨b, off, none⟩) ps.length c] 23) ∧ w1.heap.size ≤ w8.heap.size ∧ J (j + 1) w8) := Lib.hid ⟨n1, n2, n3, hJ8⟩
        have b1 : wrap64 ((k : Int) - 1) = (ps.length : Int) - 1 - ((j + 1 : Nat) : Int) := by
          rw [show ((k : Int) - 1) = (ps.length : Int) - 1 - ((j + 1 : Nat) : Int) by omega]
          exact IntWalk.wrap64_in _ (by omega)
        clear n1 n2 n3 t8 hJ8 hs
        gi_wp2
        go_wp2_with fail
        go_roundg (ps.length - (j + 1))
        case rel => exact ⟨j + 1, by omega, Lib.hid rfl, by first | exact congrArg (Value.int .i64) b1 | (congr 1; omega), N8⟩
        case measure => have := hg.out; omega
      · have n3 := Nat.le_trans S3.out t8.size
        clear t8 hs
        gi_wp2
        go_wp2_with fail
        refine bodyPost_ret (results_none rfl _ _ _) rfl ?_
        exact ⟨⟨_, rfl⟩, n3, .inr ⟨j + 1, by rw [backs_length]; omega, hJ8⟩⟩
    · obtain rfl : j = ps.length := by omega
      have hki : ((ps.length : Int) - 1 - (ps.length : Int)) = -1 := by omega
      rw [hki]
      go_wp2_with fail
      go_end0
      exact ⟨⟨_, rfl⟩, hs.out.2.2.1, .inl (by rw [backs_length]; exact hs.out.2.2.2)⟩
end Go.Proofs.Ytggmljookcmnkaa
