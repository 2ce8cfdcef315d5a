/- The contract of an index's Edit, given that of slices.Replace. -/
import Derived.Test.YtfjkghbnlmhcnaaLb
import Derived.Test.YtfjkghbnlmhcnaaTz
import Derived.WalkSpells
import Derived.WalkLawsBesides
import Derived.BigRegion
import Derived.Deep.RegionWith
import Derived.Deep.QuietTactic
import Derived.Deep.DeepCutAuto
import Derived.Deep.RegionHeld3
import Derived.Deep.RegionLaw
import Derived.BigQuiet
import Derived.Lib.Hide
namespace Go.Proofs.Ytfjkghbnlmhcnaa
open Go.RowKit
attribute [local go_sem] more_drew more_drewN more_size more_cell more_frozen more_setCell drew_more drewN_more lt_add_r lt_add_r2 lt_add_r3 lt_add_r4 lt_add_r5 lt_add_r6 lt_add_r7 lt_add_r8 lt_add_r9 lt_add_r10 lt_self_r lt_self_r2

theorem found_ex {xs : List Int} (h : Mono xs) (t : Int) : ∃ i f, FoundAt xs t i f := by
  have key : ∀ (n : Nat), n ≤ xs.length → (∀ (k : Nat) (x : Int), xs[k]? = some x → k < n → x < t) → ∃ i f, FoundAt xs t i f := by
    intro n
    induction hd : xs.length - n generalizing n with
    | zero =>
      intro hn hlt
      obtain rfl : n = xs.length := by omega
      exact ⟨xs.length, false, Nat.le_refl _, fun k x hk => ⟨fun h' => hlt k x hk h', fun _ => (List.getElem?_eq_some_iff.1 hk).1⟩, ⟨nofun, fun h' => by rw [List.getElem?_eq_none (Nat.le_refl _)] at h'; cases h'⟩⟩
    | succ d ih =>
      intro hn hlt
      obtain ⟨x, hx⟩ : ∃ x, xs[n]? = some x := ⟨_, List.getElem?_eq_getElem (by omega)⟩
      by_cases hxt : x < t
      · refine ih (n + 1) (by omega) (by omega) fun k y hk hkn => ?_
        rcases (show k < n ∨ k = n by omega) with h1 | h1
        · exact hlt k y hk h1
        · rw [h1, hx] at hk
          rw [← Option.some.inj hk]
          exact hxt
      · refine ⟨n, decide (x = t), hn, fun k y hk => ⟨fun hkn => hlt k y hk hkn, fun hyt => ?_⟩, ?_⟩
        · rcases Nat.lt_or_ge k n with h1 | h1
          · exact h1
          · have := h n k x y h1 hx hk
            omega
        · rw [hx, decide_eq_true_iff, Option.some.injEq]
  exact key 0 (Nat.zero_le _) fun k x _ hk => by omega
theorem FoundAt.det {xs : List Int} {t : Int} {i i' : Nat} {f f' : Bool} (h : FoundAt xs t i f) (h' : FoundAt xs t i' f') : i' = i ∧ f' = f := by
  have hi : i' = i := by
    rcases Nat.lt_trichotomy i i' with h1 | h1 | h1
    · obtain ⟨x, hx⟩ : ∃ x, xs[i]? = some x := ⟨_, List.getElem?_eq_getElem (by have := h'.1; omega)⟩
      have a := (h'.2.1 i x hx).1 h1
      have b := (h.2.1 i x hx).2 a
      omega
    · exact h1.symm
    · obtain ⟨x, hx⟩ : ∃ x, xs[i']? = some x := ⟨_, List.getElem?_eq_getElem (by have := h.1; omega)⟩
      have a := (h.2.1 i' x hx).1 h1
      have b := (h'.2.1 i' x hx).2 a
      omega
  subst hi
  exact ⟨rfl, Bool.eq_iff_iff.2 (h'.2.2.trans h.2.2.symm)⟩
theorem search_fix {xs : List Int} {t : Int} {i : Nat} {f : Bool} (A : Option Addr) (c : Nat) (w : World) (hI : Ints w A xs) (hl : xs.length ≤ 1000000) (hc : xs.length ≤ c) (hm : Mono xs) (hf : FoundAt xs t i f) :
    Calls Try.prog 42 #[.slice A xs.length c, .int .i64 t] w fun e w' => e = .returned (.tuple #[.int .i64 i, .bool f]) ∧ w = w' := by
  refine (search_any A c xs t w hI hl hc hm).mono ?_
  rintro e w' ⟨i', f', rfl, hf', rfl⟩
  obtain ⟨rfl, rfl⟩ := hf.det hf'
  exact ⟨rfl, rfl⟩
/-- the block of a slice -/
def blkOf (A : Option Addr) : Option Nat := A.map (·.block)
/-- what Replace makes of a row of the call's own -/
def RepRet (V : World) (base : Nat) (A : Option Addr) (ys : List Int) (e : Ending) (V' : World) : Prop :=
  ∃ A' c', e = .returned (.slice A' ys.length c') ∧ OwnI V' base A' c' ys ∧ Turn (fun k => blkOf A = some k ∨ V.heap.size ≤ k) V V' ∧ ∀ b, blkOf A' = some b → blkOf A = some b ∨ V.heap.size ≤ b
/-- Replace's contract at some rows -/
def RepOk (base : Nat) (xs vs ys : List Int) (i j : Nat) : Prop :=
  ∀ (V : World) (A : Option Addr) (c : Nat) (B : Option Addr) (cb : Nat), OwnI V base A c xs → OwnI V base B cb vs → (∀ b, blkOf A = some b → blkOf B ≠ some b) → base ≤ V.heap.size →
    Calls Try.prog 43 #[.slice A xs.length c, .int .i64 i, .int .i64 j, .slice B vs.length cb] V (RepRet V base A ys)
set_option maxRecDepth 100000 in
set_option maxHeartbeats 300000 in
/-- nothing goes, nothing comes -/
theorem rep_same (base : Nat) (xs : List Int) (i : Nat) (hi : i ≤ xs.length) (hl : xs.length ≤ 1000000) : RepOk base xs [] xs i i := fun V A c B cb hA hB _ hb => by
  obtain ⟨_, a1, a2, a3⟩ := hA.ints
  unfold maxLen at a2
  have HA := Lib.hid hA
  have HA3 := Lib.hid a3
  clear hA hB a3
  show Calls Try.prog 43 #[.slice A xs.length c, .int .i64 i, .int .i64 i, .slice B 0 cb] V (RepRet V base A xs)
  obtain ⟨A9, hA9⟩ : ∃ A9 : Option Addr, (if c = i then A else A.map (fun x => x.add i)) = A9 := ⟨_, rfl⟩
  go_enter Try.func43, Try.ntmps43
  go_wp2_with fail
  have HI : Hid (Calls Try.prog 56 #[.slice A xs.length c, .int .i64 i, .slice B 0 cb] V fun e V' => e = .returned (.slice A xs.length c) ∧ V = V') := Lib.hid (by
    go_enter Try.func56, Try.ntmps56
    go_wp2_with fail
    go_ret
    exact ⟨rfl, rfl⟩)
  clear hA9
  refine HI.out.mono ?_
  rintro e V' ⟨rfl, rfl⟩
  go_wp2_with fail
  go_ret
  exact ⟨A, c, rfl, HA.out, Turn.refl _, fun b hb => .inl hb⟩
theorem iv_set (xs : List Int) (k : Nat) (x : Int) : iv (xs.set k x) = (iv xs).set k (.int .i64 x) := List.map_set ..
theorem OwnI.set {w : World} {base g c : Nat} {xs : List Int} (h : OwnI w base (some ⟨g, 0, none⟩) c xs) (k : Nat) (x : Int) : OwnI (w.setCell ⟨g, k, none⟩ (.int .i64 x)) base (some ⟨g, 0, none⟩) c (xs.set k x) := by
  obtain ⟨h1, h2⟩ := h
  unfold OwnI
  rw [iv_set, List.length_set]
  rcases h2 with ⟨h2, _⟩ | ⟨g', cap, cur, h2, h3, h4, h5, h6, h7, h8⟩
  · cases h2
  · injection h2 with a1 a2 a3
    injection a1 with a1
    injection a1 with a1
    subst a1 a3
    refine ⟨by rw [List.length_set]; exact h1, .inr ⟨g, c, cur.setIfInBounds k (.int .i64 x), rfl, h3, by simp [World.setCell, Array.getElem?_modify, h4], h5, h6, by rw [Array.size_setIfInBounds]; exact h7, ?_⟩⟩
    rw [Array.toList_setIfInBounds, List.take_set, h8]
/-- those from m to k are moved on -/
def ShiftTo (ys : List Int) (m k : Nat) (by_ : Int) (zs : List Int) : Prop := zs.length = ys.length ∧ ∀ (i : Nat) (y : Int), ys[i]? = some y → zs[i]? = some (if m ≤ i ∧ i < k then y + by_ else y)
theorem ShiftTo.start (ys : List Int) (m : Nat) (by_ : Int) : ShiftTo ys m m by_ ys := ⟨rfl, fun i y hy => by rw [if_neg (by omega)]; exact hy⟩
theorem ShiftTo.step {ys zs : List Int} {m k : Nat} {by_ y : Int} (h : ShiftTo ys m k by_ zs) (hk : ys[k]? = some y) (hm : m ≤ k) : zs[k]? = some y ∧ ShiftTo ys m (k + 1) by_ (zs.set k (y + by_)) := by
  have h1 := h.2 k y hk
  rw [if_neg (by omega)] at h1
  refine ⟨h1, by rw [List.length_set]; exact h.1, fun i z hz => ?_⟩
  rw [List.getElem?_set]
  by_cases hik : k = i
  · subst hik
    rw [hk] at hz
    injection hz with hz
    subst hz
    rw [if_pos rfl, if_pos (List.getElem?_eq_some_iff.1 h1).1, if_pos (by omega)]
  · rw [if_neg hik, h.2 i z hz]
    by_cases hi : m ≤ i ∧ i < k
    · rw [if_pos hi, if_pos (by omega)]
    · rw [if_neg hi, if_neg (by omega)]
theorem ShiftTo.det {ys zs zs' : List Int} {m k : Nat} {by_ : Int} (h : ShiftTo ys m k by_ zs) (h' : ShiftTo ys m k by_ zs') : zs' = zs := by
  apply List.ext_getElem?
  intro i
  rcases Nat.lt_or_ge i ys.length with hi | hi
  · obtain ⟨y, hy⟩ : ∃ y, ys[i]? = some y := ⟨_, List.getElem?_eq_getElem hi⟩
    rw [h.2 i y hy, h'.2 i y hy]
  · rw [List.getElem?_eq_none (by rw [h'.1]; exact hi), List.getElem?_eq_none (by rw [h.1]; exact hi)]
/-- the block of an index's row -/
def RowAt (w : World) (g k : Nat) : Prop := ∃ A n c v t, w.heap[g]? = some (.cells #[.slice A n c, v] t) ∧ blkOf A = some k
theorem RowAt.of {w : World} {g n k : Nat} {A : Option Addr} {c : Nat} {v : Value} {t : TypeId} (h : w.heap[g]? = some (.cells #[.slice A n c, v] t)) (hr : RowAt w g k) : blkOf A = some k := by
  obtain ⟨A', n', c', v', t', h1, h2⟩ := hr
  rw [h] at h1
  injection h1 with h1
  injection h1 with h1
  simp at h1
  rw [h1.1.1]
  exact h2
def EditRet (w : World) (base g : Nat) (ys : List Int) (m : Nat) (by_ : Int) (n' : Nat) (e : Ending) (w' : World) : Prop :=
  ∃ zs, e = .returned (.int .i64 0) ∧ ShiftTo ys m ys.length by_ zs ∧ IdxAt w' base g zs n' ∧ Turn (fun k => k = g ∨ RowAt w g k ∨ w.heap.size ≤ k) w w'
/-- what an edit has while it goes on: its index and its box stand -/
structure EdS (w0 : World) (g bx : Nat) where
  V : World
  idx : V.heap[g]? = w0.heap[g]?
  box : V.heap[bx]? = w0.heap[bx]?
instance edNonempty (w0 : World) (g bx : Nat) : Nonempty (EdS w0 g bx) := ⟨⟨w0, rfl, rfl⟩⟩
end Go.Proofs.Ytfjkghbnlmhcnaa
