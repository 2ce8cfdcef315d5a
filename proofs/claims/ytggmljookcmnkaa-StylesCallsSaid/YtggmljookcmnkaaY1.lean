/- The contracts of styles.ends, Matches, Style. -/
import Derived.Test.YtggmljookcmnkaaE1
import Derived.WalkSpells
import Derived.WalkLawsBesides
import Derived.BigRegion
import Derived.Deep.RegionWith
import Derived.Deep.QuietTactic
import Derived.Deep.DeepCutAuto
import Derived.Deep.RegionHeld3
import Derived.Deep.RegionLaw
import Derived.BigQuiet
import Derived.Lib.Hide
namespace Go.Proofs.Ytggmljookcmnkaa
open Go.RowKit
attribute [local go_sem] more_drew more_drewN more_size more_cell more_frozen more_setCell drew_more drewN_more lt_add_r lt_add_r2 lt_add_r3 lt_add_r4 lt_add_r5 lt_add_r6 lt_add_r7 lt_add_r8 lt_add_r9 lt_add_r10 lt_self_r lt_self_r2


def endsB (way path : List Int) : Bool := decide (path.length ≤ way.length) && decide (way.drop (way.length - path.length) = path)

set_option maxRecDepth 100000 in
set_option maxHeartbeats 1000000 in
theorem ends_any (A B : Option Addr) (way path : List Int) (c d : Nat) (w : World) (hx : Ints w A way) (hy : Ints w B path) (bx : way.length ≤ c) (bc : c ≤ 9223372036854775807) (by_ : path.length ≤ 9223372036854775807) :
    Calls Try.prog 69 #[.slice A way.length c, .slice B path.length d] w fun e w' => e = .returned (.bool (endsB way path)) ∧ Ext w w' := by
  by_cases hl : path.length ≤ way.length
  · have hE : endsB way path = decide (way.drop (way.length - path.length) = path) := by
      unfold endsB
      rw [decide_eq_true hl, Bool.true_and]
    have HE := Lib.hid hE
    have hd := hx.drop (way.length - path.length) c bx
    have eq := fun w1 h1 h2 => equalInts (if c = way.length - path.length then A else A.map (·.add (way.length - path.length))) B (way.drop (way.length - path.length)) path (c - (way.length - path.length)) d w1 h1 h2 (by rw [List.length_drop]; omega) by_
    rw [List.length_drop] at eq
    obtain ⟨A', hif⟩ : ∃ A', (if c = way.length - path.length then A else A.map (·.add (way.length - path.length))) = A' := ⟨_, rfl⟩
    rw [hif] at eq hd
    have EQ := Lib.hid eq
    have HD := Lib.hid hd
    have HX := Lib.hid hx
    have HY := Lib.hid hy
    clear hE eq hd hx hy
    have hn : way.length - path.length ≤ way.length := by omega
    have e1 : IntKind.i64.wrap ((way.length : Int) - (path.length : Int)) = ((way.length - path.length : Nat) : Int) := by rw [IntWalk.i64_in _ (by omega)]; omega
    go_enter Try.func69, Try.ntmps69
    go_wp2_with fail
    refine (EQ.out _ HD.out HY.out).mono ?_
    rintro e w1 ⟨rfl, os1, k1, rfl⟩
    go_wp2
    go_ret
    exact ⟨ret_bool HE.out.symm, (by repeat (first | exact Ext.refl _ | refine Ext.alloc ?_ _ | refine Ext.more ?_ _ _ | refine Ext.drew ?_ | refine Ext.drewN ?_ _ | refine Ext.setCell ?_ (by simp <;> omega) _))⟩
  · have hl2 : ¬ ((path.length : Int) ≤ (way.length : Int)) := by omega
    have hE : endsB way path = false := by
      unfold endsB
      rw [decide_eq_false hl, Bool.false_and]
    have HE := Lib.hid hE
    clear hE
    go_enter Try.func69, Try.ntmps69
    go_wp2
    go_ret
    exact ⟨ret_bool HE.out.symm, (by repeat (first | exact Ext.refl _ | refine Ext.alloc ?_ _ | refine Ext.more ?_ _ _ | refine Ext.drew ?_ | refine Ext.drewN ?_ _ | refine Ext.setCell ?_ (by simp <;> omega) _))⟩

/-- A style: its kind, its path's header, the path, its number, its priority. -/
structure Sty where
  kind : Int
  pA : Option Addr
  pc : Nat
  path : List Int
  st : Int
  prio : Int

def styOk (w : World) (s : Sty) : Prop := Ints w s.pA s.path ∧ s.path.length ≤ 9223372036854775807

set_option maxRecDepth 100000 in
set_option maxHeartbeats 1000000 in
theorem matches_any (s : Sty) (kind : Int) (A : Option Addr) (way : List Int) (c : Nat) (w : World) (hs : styOk w s) (hx : Ints w A way) (bx : way.length ≤ c) (bc : c ≤ 9223372036854775807) :
    Calls Try.prog 16 #[.agg #[.int .i64 s.kind, .slice s.pA s.path.length s.pc, .int .i64 s.st, .int .i64 s.prio], .int .i64 kind, .slice A way.length c] w
      fun e w' => e = .returned (.bool (decide (s.kind = kind) && endsB way s.path)) ∧ Ext w w' := by
  obtain ⟨h1, h2⟩ := hs
  have EN := Lib.hid (fun w1 g1 g2 => ends_any A s.pA way s.path c s.pc w1 g1 g2 bx bc h2)
  have H1 := Lib.hid h1
  have HX := Lib.hid hx
  clear h1 hx
  by_cases hk : s.kind = kind
  · have hk1 : (s.kind == kind) = true := by simp [hk]
    have hk2 : decide (s.kind = kind) = true := by simp [hk]
    have HK := Lib.hid hk
    clear hk
    go_enter Try.func16, Try.ntmps16
    go_wp2_with (first | (go_at_call 69; refine (EN.out _ (HX.out.ext ((by repeat (first | exact Ext.refl _ | refine Ext.alloc ?_ _ | refine Ext.more ?_ _ _ | refine Ext.drew ?_ | refine Ext.drewN ?_ _ | refine Ext.setCell ?_ (by simp <;> omega) _)))) (H1.out.ext ((by repeat (first | exact Ext.refl _ | refine Ext.alloc ?_ _ | refine Ext.more ?_ _ _ | refine Ext.drew ?_ | refine Ext.drewN ?_ _ | refine Ext.setCell ?_ (by simp <;> omega) _))))).mono ?_; rintro e w1 ⟨rfl, os1, k1, rfl⟩))
    go_ret
    exact ⟨ret_bool (by simp [HK.out]), (by repeat (first | exact Ext.refl _ | refine Ext.alloc ?_ _ | refine Ext.more ?_ _ _ | refine Ext.drew ?_ | refine Ext.drewN ?_ _ | refine Ext.setCell ?_ (by simp <;> omega) _))⟩
  · have hk1 : (s.kind == kind) = false := by simp [hk]
    have hk2 : decide (s.kind = kind) = false := by simp [hk]
    have HK := Lib.hid hk
    clear hk
    go_enter Try.func16, Try.ntmps16
    go_wp2_with fail
    go_ret
    exact ⟨ret_bool (by simp [HK.out]), (by repeat (first | exact Ext.refl _ | refine Ext.alloc ?_ _ | refine Ext.more ?_ _ _ | refine Ext.drew ?_ | refine Ext.drewN ?_ _ | refine Ext.setCell ?_ (by simp <;> omega) _))⟩

/-- the styles of a slice lie in the cells from A on -/
def Styles (w : World) (A : Option Addr) (ss : List Sty) : Prop :=
  0 < ss.length → ∃ b off, A = some ⟨b, off, none⟩ ∧ b < w.heap.size ∧ ∀ k s, ss[k]? = some s →
    w.cell? ⟨b, off + k * 4, none⟩ = some (.int .i64 s.kind) ∧ w.cell? ⟨b, off + k * 4 + 1, none⟩ = some (.slice s.pA s.path.length s.pc) ∧
    w.cell? ⟨b, off + k * 4 + 2, none⟩ = some (.int .i64 s.st) ∧ w.cell? ⟨b, off + k * 4 + 3, none⟩ = some (.int .i64 s.prio)
def StylesOk (w : World) (ss : List Sty) : Prop := ∀ s ∈ ss, styOk w s
theorem Styles.ext {w w' : World} {A : Option Addr} {ss : List Sty} (h : Styles w A ss) (e : Ext w w') : Styles w' A ss := fun h0 => by
  obtain ⟨b, off, hA, hb, hc⟩ := h h0
  obtain ⟨os, k, rfl⟩ := e
  refine ⟨b, off, hA, by rw [more_size]; omega, fun j s hj => ?_⟩
  rw [more_cell _ _ _ _ _ hb, more_cell _ _ _ _ _ hb, more_cell _ _ _ _ _ hb, more_cell _ _ _ _ _ hb]
  exact hc j s hj
theorem StylesOk.ext {w w' : World} {ss : List Sty} (h : StylesOk w ss) (e : Ext w w') : StylesOk w' ss := fun s hs => ⟨(h s hs).1.ext e, (h s hs).2⟩
def matchB (s : Sty) (kind : Int) (way : List Int) : Bool := decide (s.kind = kind) && endsB way s.path

set_option maxRecDepth 100000 in
set_option maxHeartbeats 1000000 in
theorem better_none (p : Option Addr) (g : Nat) (w : World) (hg : w.cell? ⟨g, 0, none⟩ = some (.pointer none)) :
    Calls Try.prog 68 #[.pointer p, .pointer (some ⟨g, 0, none⟩)] w fun e w' => e = .returned (.bool true) ∧ Ext w w' := by
  go_enter Try.func68, Try.ntmps68
  go_wp2_with fail
  go_quiet (fail)
  go_wp2
  go_ret
  exact ⟨rfl, (by repeat (first | exact Ext.refl _ | refine Ext.alloc ?_ _ | refine Ext.more ?_ _ _ | refine Ext.drew ?_ | refine Ext.drewN ?_ _ | refine Ext.setCell ?_ (by simp <;> omega) _))⟩
set_option maxRecDepth 100000 in
set_option maxHeartbeats 1000000 in
theorem better_some (b off b' off' g : Nat) (x y : Int) (w : World) (hg : w.cell? ⟨g, 0, none⟩ = some (.pointer (some ⟨b', off', none⟩)))
    (hx : w.cell? ⟨b, off + 3, none⟩ = some (.int .i64 x)) (hy : w.cell? ⟨b', off' + 3, none⟩ = some (.int .i64 y)) :
    Calls Try.prog 68 #[.pointer (some ⟨b, off, none⟩), .pointer (some ⟨g, 0, none⟩)] w fun e w' => e = .returned (.bool (decide (y < x))) ∧ Ext w w' := by
  go_enter Try.func68, Try.ntmps68
  go_wp2_with fail
  go_quiet (fail)
  go_wp2
  go_ret
  exact ⟨rfl, (by repeat (first | exact Ext.refl _ | refine Ext.alloc ?_ _ | refine Ext.more ?_ _ _ | refine Ext.drew ?_ | refine Ext.drewN ?_ _ | refine Ext.setCell ?_ (by simp <;> omega) _))⟩

def prioAt (ss : List Sty) (j : Nat) : Int := (ss[j]?.map (·.prio)).getD 0
def stAt (ss : List Sty) (j : Nat) : Int := (ss[j]?.map (·.st)).getD 0
def betterB (ss : List Sty) (s : Sty) : Option Nat → Bool
  | none => true
  | some j => decide (prioAt ss j < s.prio)
def stOf (ss : List Sty) : Option Nat → Int
  | none => 0
  | some j => stAt ss j
/-- the best style of the first k -/
def bestIx (ss : List Sty) (kind : Int) (way : List Int) : Nat → Option Nat
  | 0 => none
  | k + 1 => match ss[k]? with
    | some s => if matchB s kind way && betterB ss s (bestIx ss kind way k) then some k else bestIx ss kind way k
    | none => bestIx ss kind way k
theorem bestIx_lt (ss : List Sty) (kind : Int) (way : List Int) : ∀ k j, bestIx ss kind way k = some j → j < k ∧ j < ss.length
  | 0, j, h => by simp [bestIx] at h
  | k + 1, j, h => by
    rw [bestIx] at h
    cases hs : ss[k]? with
    | none =>
      rw [hs] at h
      have := bestIx_lt ss kind way k j h
      omega
    | some s =>
      rw [hs] at h
      have hl : k < ss.length := (List.getElem?_eq_some_iff.1 hs).1
      have ih := bestIx_lt ss kind way k
      generalize bestIx ss kind way k = o at h ih
      by_cases hc : (matchB s kind way && betterB ss s o) = true
      · simp only [hc, if_true, Option.some.injEq] at h
        omega
      · simp only [hc, Bool.false_eq_true, if_false] at h
        have := ih j h
        omega
def styleF (ss : List Sty) (kind : Int) (way : List Int) : Int := stOf ss (bestIx ss kind way ss.length)
/-- the pointer to the best one -/
def bestPtr (b off : Nat) : Option Nat → Value
  | none => .pointer none
  | some j => .pointer (some ⟨b, off + j * 4, none⟩)

set_option maxRecDepth 100000 in
set_option maxHeartbeats 1000000 in
theorem style_any (B : Option Addr) (ss : List Sty) (c : Nat) (kind : Int) (A : Option Addr) (way : List Int) (d : Nat) (w : World) (hS : Styles w B ss) (hO : StylesOk w ss) (bs : ss.length ≤ 9223372036854775807)
    (hx : Ints w A way) (bx : way.length ≤ d) (bd : d ≤ 9223372036854775807) :
    Calls Try.prog 14 #[.slice B ss.length c, .int .i64 kind, .slice A way.length d] w fun e w' => e = .returned (.int .i64 (styleF ss kind way)) ∧ Ext w w' := by
  rcases (show ss.length = 0 ∨ 0 < ss.length by omega) with h0 | h0
  · obtain rfl := List.eq_nil_of_length_eq_zero h0
    go_enter Try.func14, Try.ntmps14
    go_wp2
    refine wp_loop_rounds 1 ?_
    rw [rounds_succ]
    go_wp2
    go_ret
    exact ⟨ret_int (by simp [styleF, bestIx, stOf]), (by repeat (first | exact Ext.refl _ | refine Ext.alloc ?_ _ | refine Ext.more ?_ _ _ | refine Ext.drew ?_ | refine Ext.drewN ?_ _ | refine Ext.setCell ?_ (by simp <;> omega) _))⟩
  · obtain ⟨b, off, rfl, hb, hc⟩ := hS h0
    have MA := Lib.hid (fun (s : Sty) (w1 : World) g1 g2 => matches_any s kind A way d w1 g1 g2 bx bd)
    have HC := Lib.hid hc
    have HO := Lib.hid hO
    have HX := Lib.hid hx
    have HL := Lib.hid (bestIx_lt ss kind way)
    clear hS hc hO hx
    go_enter Try.func14, Try.ntmps14
    go_wp2
    go_loopw [14] (fun i wr => ∃ k : Nat, k ≤ ss.length ∧ i = .int .i64 k ∧ Ext (w.alloc (.cells #[bestPtr b off (bestIx ss kind way k)] 73)) wr) (fun i _ => ss.length - (intOf i).toNat)
    case atStart => exact ⟨0, by omega, rfl, by unfold bestIx bestPtr; exact (by repeat (first | exact Ext.refl _ | refine Ext.alloc ?_ _ | refine Ext.more ?_ _ _ | refine Ext.drew ?_ | refine Ext.drewN ?_ _ | refine Ext.setCell ?_ (by simp <;> omega) _))⟩
    case round =>
      obtain ⟨k, hk, rfl, hE⟩ := hrel
      by_cases hlt : k < ss.length
      · obtain ⟨s, hs⟩ : ∃ s, ss[k]? = some s := ⟨_, List.getElem?_eq_getElem hlt⟩
        obtain ⟨c1, c2, c3, c4⟩ := HC.out k s hs
        have HOK := Lib.hid (HO.out s (List.mem_of_getElem? hs))
        have E0 : Hid (bestIx ss kind way (k + 1) = if matchB s kind way && betterB ss s (bestIx ss kind way k) then some k else bestIx ss kind way k) := by
          show _ = _
          rw [bestIx, hs]
        clear hs
        have LK := Lib.hid (HL.out k)
        generalize bestIx ss kind way k = o at *
        cases hm : matchB s kind way
        · have hm' : (decide (s.kind = kind) && endsB way s.path) = false := hm
          have EN : Hid (bestIx ss kind way (k + 1) = o) := by
            have := E0.out
            rw [hm] at this
            exact this
          clear hm E0 LK
          obtain ⟨os, kk, rfl⟩ := hE
          go_wp2_with (first | (go_at_call 16; refine (MA.out s _ (by exact ⟨HOK.out.1.ext ((by repeat (first | exact Ext.refl _ | refine Ext.alloc ?_ _ | refine Ext.more ?_ _ _ | refine Ext.drew ?_ | refine Ext.drewN ?_ _ | refine Ext.setCell ?_ (by simp <;> omega) _))), HOK.out.2⟩) (HX.out.ext ((by repeat (first | exact Ext.refl _ | refine Ext.alloc ?_ _ | refine Ext.more ?_ _ _ | refine Ext.drew ?_ | refine Ext.drewN ?_ _ | refine Ext.setCell ?_ (by simp <;> omega) _))))).mono ?_; rintro e w1 ⟨rfl, os1, k1, rfl⟩))
          go_roundw
          case rel => exact ⟨k + 1, by omega, by go_num, by rw [EN.out]; exact (by repeat (first | exact Ext.refl _ | refine Ext.alloc ?_ _ | refine Ext.more ?_ _ _ | refine Ext.drew ?_ | refine Ext.drewN ?_ _ | refine Ext.setCell ?_ (by simp <;> omega) _))⟩
          case measure => simp [intOf]; omega
        · have hm' : (decide (s.kind = kind) && endsB way s.path) = true := hm
          cases o with
          | none =>
            have EN : Hid (bestIx ss kind way (k + 1) = some k) := by
              have := E0.out
              rw [hm] at this
              exact this
            clear hm E0 LK
            simp only [bestPtr] at hE
            obtain ⟨os, kk, rfl⟩ := hE
            go_wp2_with (first | (go_at_call 16; refine (MA.out s _ (by exact ⟨HOK.out.1.ext ((by repeat (first | exact Ext.refl _ | refine Ext.alloc ?_ _ | refine Ext.more ?_ _ _ | refine Ext.drew ?_ | refine Ext.drewN ?_ _ | refine Ext.setCell ?_ (by simp <;> omega) _))), HOK.out.2⟩) (HX.out.ext ((by repeat (first | exact Ext.refl _ | refine Ext.alloc ?_ _ | refine Ext.more ?_ _ _ | refine Ext.drew ?_ | refine Ext.drewN ?_ _ | refine Ext.setCell ?_ (by simp <;> omega) _))))).mono ?_; rintro e w1 ⟨rfl, os1, k1, rfl⟩) | (go_at_call 68; refine (better_none _ _ _ (by simp [go_sem])).mono ?_; rintro e w1 ⟨rfl, os2, k2, rfl⟩))
            go_roundw
            case rel => exact ⟨k + 1, by omega, by go_num, by rw [EN.out]; simp only [bestPtr]; exact (by repeat (first | exact Ext.refl _ | refine Ext.alloc ?_ _ | refine Ext.more ?_ _ _ | refine Ext.drew ?_ | refine Ext.drewN ?_ _ | refine Ext.setCell ?_ (by simp <;> omega) _))⟩
            case measure => simp [intOf]; omega
          | some j =>
            obtain ⟨lj, lj2⟩ := LK.out j rfl
            obtain ⟨t, ht⟩ : ∃ t, ss[j]? = some t := ⟨_, List.getElem?_eq_getElem lj2⟩
            obtain ⟨d1, d2, d3, d4⟩ := HC.out j t ht
            have hp : prioAt ss j = t.prio := by simp [prioAt, ht]
            clear d1 d2 d3 ht LK
            by_cases hq : t.prio < s.prio
            · have hq' : decide (t.prio < s.prio) = true := decide_eq_true hq
              have EN : Hid (bestIx ss kind way (k + 1) = some k) := by
                have := E0.out
                rw [hm] at this
                simp only [betterB, hp, hq', Bool.and_self, if_true] at this
                exact this
              clear hm E0 hp
              simp only [bestPtr] at hE
              obtain ⟨os, kk, rfl⟩ := hE
              go_wp2_with (first | (go_at_call 16; refine (MA.out s _ (by exact ⟨HOK.out.1.ext ((by repeat (first | exact Ext.refl _ | refine Ext.alloc ?_ _ | refine Ext.more ?_ _ _ | refine Ext.drew ?_ | refine Ext.drewN ?_ _ | refine Ext.setCell ?_ (by simp <;> omega) _))), HOK.out.2⟩) (HX.out.ext ((by repeat (first | exact Ext.refl _ | refine Ext.alloc ?_ _ | refine Ext.more ?_ _ _ | refine Ext.drew ?_ | refine Ext.drewN ?_ _ | refine Ext.setCell ?_ (by simp <;> omega) _))))).mono ?_; rintro e w1 ⟨rfl, os1, k1, rfl⟩) | (go_at_call 68; go_must (refine (better_some b (off + k * 4) b (off + j * 4) w.heap.size s.prio t.prio _ (by simp [go_sem]) (by simp [go_sem, hb, c4]) (by simp [go_sem, hb, d4])).mono ?_); rintro e w1 ⟨rfl, os2, k2, rfl⟩))
              go_roundw
              case rel => exact ⟨k + 1, by omega, by go_num, by rw [EN.out]; simp only [bestPtr]; exact (by repeat (first | exact Ext.refl _ | refine Ext.alloc ?_ _ | refine Ext.more ?_ _ _ | refine Ext.drew ?_ | refine Ext.drewN ?_ _ | refine Ext.setCell ?_ (by simp <;> omega) _))⟩
              case measure => simp [intOf]; omega
            · have hq' : decide (t.prio < s.prio) = false := decide_eq_false hq
              have EN : Hid (bestIx ss kind way (k + 1) = some j) := by
                have := E0.out
                rw [hm] at this
                simp only [betterB, hp, hq', Bool.and_false, Bool.false_eq_true, if_false] at this
                exact this
              clear hm E0 hp
              simp only [bestPtr] at hE
              obtain ⟨os, kk, rfl⟩ := hE
              go_wp2_with (first | (go_at_call 16; refine (MA.out s _ (by exact ⟨HOK.out.1.ext ((by repeat (first | exact Ext.refl _ | refine Ext.alloc ?_ _ | refine Ext.more ?_ _ _ | refine Ext.drew ?_ | refine Ext.drewN ?_ _ | refine Ext.setCell ?_ (by simp <;> omega) _))), HOK.out.2⟩) (HX.out.ext ((by repeat (first | exact Ext.refl _ | refine Ext.alloc ?_ _ | refine Ext.more ?_ _ _ | refine Ext.drew ?_ | refine Ext.drewN ?_ _ | refine Ext.setCell ?_ (by simp <;> omega) _))))).mono ?_; rintro e w1 ⟨rfl, os1, k1, rfl⟩) | (go_at_call 68; go_must (refine (better_some b (off + k * 4) b (off + j * 4) w.heap.size s.prio t.prio _ (by simp [go_sem]) (by simp [go_sem, hb, c4]) (by simp [go_sem, hb, d4])).mono ?_); rintro e w1 ⟨rfl, os2, k2, rfl⟩))
              go_roundw
              case rel => exact ⟨k + 1, by omega, by go_num, by rw [EN.out]; simp only [bestPtr]; exact (by repeat (first | exact Ext.refl _ | refine Ext.alloc ?_ _ | refine Ext.more ?_ _ _ | refine Ext.drew ?_ | refine Ext.drewN ?_ _ | refine Ext.setCell ?_ (by simp <;> omega) _))⟩
              case measure => simp [intOf]; omega
      · obtain rfl : k = ss.length := by omega
        obtain ⟨o, ho⟩ : ∃ o, bestIx ss kind way ss.length = o := ⟨_, rfl⟩
        have LK := Lib.hid (HL.out ss.length)
        have EN : Hid (styleF ss kind way = stOf ss o) := by
          show _ = _
          rw [styleF, ho]
        rw [ho] at hE LK
        clear ho
        cases o with
        | none =>
          simp only [bestPtr] at hE
          obtain ⟨os, kk, rfl⟩ := hE
          go_wp2
          go_ret
          exact ⟨ret_int EN.out.symm, (by repeat (first | exact Ext.refl _ | refine Ext.alloc ?_ _ | refine Ext.more ?_ _ _ | refine Ext.drew ?_ | refine Ext.drewN ?_ _ | refine Ext.setCell ?_ (by simp <;> omega) _))⟩
        | some j =>
          obtain ⟨lj, lj2⟩ := LK.out j rfl
          obtain ⟨t, ht⟩ : ∃ t, ss[j]? = some t := ⟨_, List.getElem?_eq_getElem lj2⟩
          obtain ⟨d1, d2, d3, d4⟩ := HC.out j t ht
          have hp : stAt ss j = t.st := by simp [stAt, ht]
          have EN' : Hid (styleF ss kind way = t.st) := EN.out.trans hp
          clear d1 d2 d4 ht LK hp EN
          simp only [bestPtr] at hE
          obtain ⟨os, kk, rfl⟩ := hE
          go_wp2
          go_ret
          exact ⟨ret_int EN'.out.symm, (by repeat (first | exact Ext.refl _ | refine Ext.alloc ?_ _ | refine Ext.more ?_ _ _ | refine Ext.drew ?_ | refine Ext.drewN ?_ _ | refine Ext.setCell ?_ (by simp <;> omega) _))⟩
end Go.Proofs.Ytggmljookcmnkaa
