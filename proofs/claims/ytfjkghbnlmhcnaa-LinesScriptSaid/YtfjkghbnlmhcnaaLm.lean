/- The program's index and the document's answer alike: contracts beside each other; what an edit of one leaves of the other. -/
import Derived.Test.YtfjkghbnlmhcnaaLj
import Derived.Test.YtfjkghbnlmhcnaaLg
import Derived.WalkSpells
import Derived.WalkLawsBesides
import Derived.BigRegion
import Derived.Deep.RegionWith
import Derived.Deep.QuietTactic
import Derived.Deep.DeepCutAuto
import Derived.Deep.RegionHeld3
import Derived.Deep.RegionLaw
import Derived.BigQuiet
import Derived.Lib.Hide
namespace Go.Proofs.Ytfjkghbnlmhcnaa
open Go.RowKit
attribute [local go_sem] more_drew more_drewN more_size more_cell more_frozen more_setCell drew_more drewN_more lt_add_r lt_add_r2 lt_add_r3 lt_add_r4 lt_add_r5 lt_add_r6 lt_add_r7 lt_add_r8 lt_add_r9 lt_add_r10 lt_self_r lt_self_r2

def StartB (xs : List Int) (line v : Int) (ok : Bool) : Prop := (ok = false ∧ v = 0 ∧ (line < 0 ∨ (xs.length : Int) ≤ line)) ∨ (ok = true ∧ ∃ k : Nat, line = k ∧ xs[k]? = some v)
theorem StartB.det {xs : List Int} {line v v' : Int} {ok ok' : Bool} (h : StartB xs line v ok) (h' : StartB xs line v' ok') : v' = v ∧ ok' = ok := by
  rcases h with ⟨rfl, rfl, h⟩ | ⟨rfl, k, rfl, h⟩ <;> rcases h' with ⟨rfl, rfl, h'⟩ | ⟨rfl, k', e, h'⟩
  · exact ⟨rfl, rfl⟩
  · have := (List.getElem?_eq_some_iff.1 h').1; omega
  · have := (List.getElem?_eq_some_iff.1 h).1; omega
  · obtain rfl : k = k' := by omega
    rw [h] at h'
    cases h'
    exact ⟨rfl, rfl⟩
def StartBRet (w : World) (xs : List Int) (line : Int) (e : Ending) (w' : World) : Prop := ∃ v ok, e = .returned (.tuple #[.int .i64 v, .bool ok]) ∧ StartB xs line v ok ∧ Ext w w'
def LineB (xs : List Int) (n : Nat) (t a b : Int) (ok : Bool) : Prop := (ok = false ∧ a = 0 ∧ b = 0 ∧ (t < 0 ∨ (n : Int) < t)) ∨ (ok = true ∧ 0 ≤ t ∧ t ≤ n ∧ ∃ (i : Nat) (x : Int), LineAt xs t i x ∧ a = i ∧ b = t - x)
theorem LineB.det {xs : List Int} {n : Nat} {t a b a' b' : Int} {ok ok' : Bool} (h : LineB xs n t a b ok) (h' : LineB xs n t a' b' ok') : a' = a ∧ b' = b ∧ ok' = ok := by
  rcases h with ⟨rfl, rfl, rfl, h⟩ | ⟨rfl, h0, h1, i, x, h, rfl, rfl⟩ <;> rcases h' with ⟨rfl, rfl, rfl, h'⟩ | ⟨rfl, h0', h1', i', x', h', rfl, rfl⟩
  · exact ⟨rfl, rfl, rfl⟩
  · omega
  · omega
  · obtain ⟨rfl, rfl⟩ := h.det h'
    exact ⟨rfl, rfl, rfl⟩
def LineBRet (w : World) (xs : List Int) (n : Nat) (t : Int) (e : Ending) (w' : World) : Prop := ∃ a b ok, e = .returned (.tuple #[.int .i64 a, .int .i64 b, .bool ok]) ∧ LineB xs n t a b ok ∧ Ext w w'
def PlaceB (xs : List Int) (n : Nat) (line col p : Int) (ok : Bool) : Prop := (ok = true ∧ PlaceOk xs n line col p) ∨ (ok = false ∧ p = 0 ∧ ¬ ∃ p, PlaceOk xs n line col p)
theorem PlaceB.det {xs : List Int} {n : Nat} {line col p p' : Int} {ok ok' : Bool} (h : PlaceB xs n line col p ok) (h' : PlaceB xs n line col p' ok') : p' = p ∧ ok' = ok := by
  rcases h with ⟨rfl, h⟩ | ⟨rfl, rfl, h⟩ <;> rcases h' with ⟨rfl, h'⟩ | ⟨rfl, rfl, h'⟩
  · exact ⟨h.det h', rfl⟩
  · exact absurd ⟨_, h⟩ h'
  · exact absurd ⟨_, h'⟩ h
  · exact ⟨rfl, rfl⟩
def PlaceBRet (w : World) (xs : List Int) (n : Nat) (line col : Int) (e : Ending) (w' : World) : Prop := ∃ p ok, e = .returned (.tuple #[.int .i64 p, .bool ok]) ∧ PlaceB xs n line col p ok ∧ Ext w w'
section
variable {w : World} {base g n : Nat} {xs : List Int} {s : ByteArray}
theorem start_all (line : Int) (h : IdxAt w base g xs n) : Calls Try.prog 18 #[pt g, .int .i64 line] w (StartBRet w xs line) := by
  by_cases hl : line < 0 ∨ (xs.length : Int) ≤ line
  · refine (start_no line h hl).mono ?_
    rintro e w' ⟨rfl, rfl⟩
    exact ⟨0, false, rfl, .inl ⟨rfl, rfl, hl⟩, Ext.refl _⟩
  · obtain ⟨k, rfl⟩ : ∃ k : Nat, line = k := ⟨line.toNat, by omega⟩
    obtain ⟨x, hx⟩ : ∃ x, xs[k]? = some x := ⟨_, List.getElem?_eq_getElem (by omega)⟩
    refine (start_yes k x h hx).mono ?_
    rintro e w' ⟨rfl, rfl⟩
    exact ⟨x, true, rfl, .inr ⟨rfl, k, rfl, hx⟩, Ext.refl _⟩
theorem rstart_all (line : Int) (h : TxtAt w g s) (hs : s.size ≤ 900000) : Calls Try.prog 24 #[pt g, .int .i64 line] w (StartBRet w (startsF s.data.toList) line) := by
  by_cases hl : line < 0 ∨ ((startsF s.data.toList).length : Int) ≤ line
  · refine (rstart_no line h hs hl).mono ?_
    rintro e w' ⟨rfl, hx⟩
    exact ⟨0, false, rfl, .inl ⟨rfl, rfl, hl⟩, hx⟩
  · obtain ⟨k, rfl⟩ : ∃ k : Nat, line = k := ⟨line.toNat, by omega⟩
    obtain ⟨x, hx⟩ : ∃ x, (startsF s.data.toList)[k]? = some x := ⟨_, List.getElem?_eq_getElem (by omega)⟩
    refine (rstart_yes k x h hs hx).mono ?_
    rintro e w' ⟨rfl, hx'⟩
    exact ⟨x, true, rfl, .inr ⟨rfl, k, rfl, hx⟩, hx'⟩
theorem line_all (t : Int) (h : IdxAt w base g xs n) (hn : n ≤ 1000000) (hl : xs.length ≤ 1000000) (h0 : xs[0]? = some 0) (hr : Rise xs) : Calls Try.prog 20 #[pt g, .int .i64 t] w (LineBRet w xs n t) := by
  by_cases ht : t < 0 ∨ (n : Int) < t
  · refine (line_no t h ht).mono ?_
    rintro e w' ⟨rfl, rfl⟩
    exact ⟨0, 0, false, rfl, .inl ⟨rfl, rfl, rfl, ht⟩, Ext.refl _⟩
  · obtain ⟨k, rfl⟩ : ∃ k : Nat, t = k := ⟨t.toNat, by omega⟩
    refine (line_yes k h (by omega) hn hl h0 hr).mono ?_
    rintro e w' ⟨i, x, rfl, hla, hx⟩
    exact ⟨i, k - x, true, rfl, .inr ⟨rfl, by omega, by omega, i, x, hla, rfl, rfl⟩, hx⟩
theorem rline_all (t : Int) (h : TxtAt w g s) (hs : s.size ≤ 900000) : Calls Try.prog 25 #[pt g, .int .i64 t] w (LineBRet w (startsF s.data.toList) s.size t) := by
  by_cases ht : t < 0 ∨ (s.size : Int) < t
  · refine (rline_no t h ht).mono ?_
    rintro e w' ⟨rfl, hx⟩
    exact ⟨0, 0, false, rfl, .inl ⟨rfl, rfl, rfl, ht⟩, hx⟩
  · obtain ⟨k, rfl⟩ : ∃ k : Nat, t = k := ⟨t.toNat, by omega⟩
    refine (rline_yes k h hs (by omega)).mono ?_
    rintro e w' ⟨i, x, rfl, hla, hx⟩
    exact ⟨i, k - x, true, rfl, .inr ⟨rfl, by omega, by omega, i, x, hla, rfl, rfl⟩, hx⟩
theorem place_all (line col : Int) (h : IdxAt w base g xs n) (hn : n ≤ 1000000) (hw : Within xs n) (hl : xs.length ≤ 1000000) : Calls Try.prog 21 #[pt g, .int .i64 line, .int .i64 col] w (PlaceBRet w xs n line col) := by
  by_cases hp : ∃ p, PlaceOk xs n line col p
  · obtain ⟨p, hp⟩ := hp
    refine (place_yes line col p h hn hw hl hp).mono ?_
    rintro e w' ⟨rfl, rfl⟩
    exact ⟨p, true, rfl, .inl ⟨rfl, hp⟩, Ext.refl _⟩
  · refine (place_no line col h hn hw hl hp).mono ?_
    rintro e w' ⟨rfl, rfl⟩
    exact ⟨0, false, rfl, .inr ⟨rfl, rfl, hp⟩, Ext.refl _⟩
theorem rplace_all (line col : Int) (h : TxtAt w g s) (hs : s.size ≤ 900000) : Calls Try.prog 26 #[pt g, .int .i64 line, .int .i64 col] w (PlaceBRet w (startsF s.data.toList) s.size line col) := by
  refine (rplace_any line col h hs).mono ?_
  rintro e w' ⟨⟨p, hp, rfl⟩ | ⟨hp, rfl⟩, hx⟩
  · exact ⟨p, true, rfl, .inl ⟨rfl, hp⟩, hx⟩
  · exact ⟨0, false, rfl, .inr ⟨rfl, rfl, hp⟩, hx⟩
theorem own_not_txt {A : Option Addr} {c go : Nat} (h : OwnI w base A c xs) (ht : TxtAt w go s) : blkOf A ≠ some go := fun he => by
  obtain ⟨cur, h2⟩ := own_obj h go (blk_own he)
  rw [show w.heap[go]? = _ from ht] at h2
  injection h2 with h2
  injection h2 with _ h2
  exact absurd h2 (by decide)
theorem idx_ne_txt {go : Nat} (h : IdxAt w base g xs n) (ht : TxtAt w go s) : g ≠ go := fun he => by
  obtain ⟨A, c, h1, _⟩ := h
  subst he
  rw [show w.heap[g]? = _ from ht] at h1
  injection h1 with h1
  injection h1 with _ h1
  exact absurd h1 (by decide)
/-- an edit of the document's index leaves the program's -/
theorem IdxAt.keepR {w' : World} {go : Nat} (h : IdxAt w base g xs n) (ht : TxtAt w go s) (t : Turn (fun k => k = go ∨ w.heap.size ≤ k) w w') : IdxAt w' base g xs n := by
  have hne := idx_ne_txt h ht
  obtain ⟨A, c, h1, h2, h3⟩ := h
  have hg := lt_of_heap h1
  refine ⟨A, c, (t.block g hg (by omega)).trans h1, own_keep h2 fun b hb => ?_, h3⟩
  have hbl := own_old h2 b hb
  refine t.block b hbl fun hk => ?_
  rcases hk with rfl | hk
  · obtain ⟨cur, h4⟩ := own_obj h2 b hb
    rw [show w.heap[b]? = _ from ht] at h4
    injection h4 with h4
    injection h4 with _ h4
    exact absurd h4 (by decide)
  · omega
/-- an edit of the program's index leaves the document's -/
theorem TxtAt.keepX {w' : World} {go : Nat} (h : IdxAt w base g xs n) (ht : TxtAt w go s) (t : Turn (fun k => k = g ∨ RowAt w g k ∨ w.heap.size ≤ k) w w') : TxtAt w' go s := by
  have hne := idx_ne_txt h ht
  obtain ⟨A, c, h1, h2, h3⟩ := h
  have hg := lt_of_heap (show w.heap[go]? = _ from ht)
  refine (t.block go hg fun hk => ?_).trans ht
  rcases hk with rfl | hk | hk
  · exact hne rfl
  · exact own_not_txt h2 ht (RowAt.of h1 hk)
  · omega
end
end Go.Proofs.Ytfjkghbnlmhcnaa
