/- TreeNames: plain facts of the chapter's tree; slices of bools that are the same. -/
import Derived.Test.YtggmljookcmnkaaN1
import Derived.Test.YtggmljookcmnkaaTz
import Derived.Test.YtggmljookcmnkaaG4
import Derived.Test.YtggmljookcmnkaaG1
import Derived.WalkSpells
import Derived.WalkLawsBesides
import Derived.BigRegion
import Derived.Deep.RegionWith
import Derived.Deep.QuietTactic
import Derived.Deep.DeepCutAuto
import Derived.Deep.RegionHeld3
import Derived.Deep.RegionLaw
import Derived.BigQuiet
import Derived.Lib.Hide
namespace Go.Proofs.Ytggmljookcmnkaa
open Go.RowKit
attribute [local go_sem] more_drew more_drewN more_size more_cell more_frozen more_setCell drew_more drewN_more lt_add_r lt_add_r2 lt_add_r3 lt_add_r4 lt_add_r5 lt_add_r6 lt_add_r7 lt_add_r8 lt_add_r9 lt_add_r10 lt_self_r lt_self_r2

/-- the slice at A reads as the bools bs -/
def Bls (w : World) (A : Option Addr) (bs : List Bool) : Prop :=
  0 < bs.length → ∃ b off, A = some ⟨b, off, none⟩ ∧ b < w.heap.size ∧ ∀ k v, bs[k]? = some v → w.cell? ⟨b, off + k, none⟩ = some (.bool v)
theorem Bls.ext {w w' : World} {A : Option Addr} {bs : List Bool} (h : Bls w A bs) (e : Ext w w') : Bls w' A bs := fun h0 => by
  obtain ⟨b, off, hA, hb, hc⟩ := h h0
  exact ⟨b, off, hA, Nat.lt_of_lt_of_le hb e.size, fun k v hk => (World.cell?_of_block (e.below.block b hb)).trans (hc k v hk)⟩
theorem Bls.of_block {w : World} {g : Nat} {bs : List Bool} {T : TypeId} (h : w.heap[g]? = some (.cells (bs.map Value.bool).toArray T)) : Bls w (some ⟨g, 0, none⟩) bs := fun _ =>
  ⟨g, 0, rfl, lt_of_heap h, fun k v hk => by
    rw [Nat.zero_add, cell_of_row _ _ k _ _ (0, 0) h]
    simp [hk]⟩
set_option maxRecDepth 100000 in
set_option maxHeartbeats 1000000 in
theorem same_bools (A B : Option Addr) (bs : List Bool) (c d : Nat) (w : World) (hA : Bls w A bs) (hB : Bls w B bs) (hl : bs.length ≤ 1000000) :
    Calls Try.prog 48 #[.slice A bs.length c, .slice B bs.length d] w fun e w' => e = .returned (.bool true) ∧ Ext w w' := by
  have HP := Lib.hid hA
  have HQ := Lib.hid hB
  clear hA hB
  go_enter Try.func48, Try.ntmps48
  go_wp2_with fail
  go_loopw [5] (fun i wr => ∃ k : Nat, k ≤ bs.length ∧ i = .int .i64 k ∧ Hid (Ext w wr)) (fun i _ => bs.length - (intOf i).toNat)
  case atStart => exact ⟨0, by omega, rfl, Lib.hid (by repeat (first | exact Ext.refl _ | refine Ext.alloc ?_ _ | refine Ext.more ?_ _ _ | refine Ext.drew ?_ | refine Ext.drewN ?_ _ | refine Ext.setCell ?_ (by simp <;> omega) _))⟩
  case round =>
    obtain ⟨k, hk, rfl, hx⟩ := hrel
    by_cases hlt : k < bs.length
    · obtain ⟨p, hp⟩ : ∃ p, bs[k]? = some p := ⟨_, List.getElem?_eq_getElem hlt⟩
      obtain ⟨b1, o1, rfl, hb1, hc1⟩ := (HP.out.ext hx.out) (by omega)
      obtain ⟨b2, o2, rfl, hb2, hc2⟩ := (HQ.out.ext hx.out) (by omega)
      have x0 := hc1 k p hp
      have y0 := hc2 k p hp
      have qq : (p != p) = false := by cases p <;> rfl
      clear hc1 hc2 hp
      go_upto_region 6 with fail
      refine wp_region_bt (9) (softs_bt [0, 1, 2, 3, 4, 5, 6, 7, 8] .fin) (by kernel_rfl) (by kernel_rfl) ?_
      (refine bt_softs _ fun K hK => ?_); (simp only [pick, nthC]); (repeat (go_big_quiet_step (fail))); (refine wpQuiet_nil (hK _ ?_)); (clear hK K)
      (refine bt_fin ?_)
      go_wp2_with fail
      go_roundw
      case rel => exact ⟨k + 1, by omega, by go_num, Lib.hid (hx.out.trans (by repeat (first | exact Ext.refl _ | refine Ext.alloc ?_ _ | refine Ext.more ?_ _ _ | refine Ext.drew ?_ | refine Ext.drewN ?_ _ | refine Ext.setCell ?_ (by simp <;> omega) _)))⟩
      case measure => simp [intOf]; omega
    · obtain rfl : k = bs.length := by omega
      go_wp2_with fail
      go_ret
      exact ⟨rfl, hx.out⟩
theorem exN_part : Part exN 1 3 := ⟨by decide, Trek.one (l := exN) (n := 1) (p := ⟨1, 2, 0, 0, 2, 3, [2], 0⟩) rfl (Trek.one (l := exN) (n := 2) (p := ⟨0, 3, 0, 0, 2, 3, [], 0⟩) rfl (.nil 3)), by decide⟩
def exNs : List Nd := [⟨1, 2, 0, 0, 2, 3, [1], 0⟩, ⟨0, 3, 0, 0, 2, 3, [], 0⟩]
theorem exN_sub : subF exN 1 3 = exNs := by decide
theorem exN_put : putF exN 1 3 exNs = exN := by decide
theorem exNs_tree : Tree exNs := exN_sub ▸ exN_tree.sub exN_part
theorem exN_fits : FitsP exN exNs 1 := ⟨1, _, _, rfl, rfl, rfl, rfl, rfl, rfl, rfl⟩
theorem exN_misfit : ¬ FitsP exN exNs 3 := by
  rintro ⟨j, p, q, hj, hp, hq, h1, _⟩
  obtain rfl : j = 3 := by omega
  cases hp
  cases hq
  exact absurd h1 (by decide)
/-- edited within the token; ahead of all -/
def exX (m : Int) : List Nd := [⟨-3, 1, 0, 0, 4, 1, [1, 3], 0⟩, ⟨1, 2, 0, 0, 4, 5, [2], m⟩, ⟨0, 3, 0, 0, 4, 5, [], m⟩, ⟨-2, 6, 4, 4, 4, 5, [], 0⟩]
def exY : List Nd := [⟨-3, 1, 0, 0, 4, 1, [1, 3], 1⟩, ⟨1, 2, 2, 2, 4, 5, [2], 0⟩, ⟨0, 3, 2, 2, 4, 5, [], 0⟩, ⟨-2, 6, 4, 4, 4, 5, [], 0⟩]
theorem exX_edit (m : Int) (hm : bitOr m 0 = m) : EditedR ⟨1, 0, 2, bitOr m⟩ exN (exX m) := by
  have he : ∀ (l : List Int) (p : Nd), editedF ⟨1, 0, 2, bitOr m⟩ (maxTo (exX m) l) p = editedF ⟨1, 0, 2, bitOr m⟩ (maxTo (exX 0) l) p := fun l p => by
    congr 1
    unfold maxTo
    congr 1
    funext t k
    congr 1
    unfold hiAt
    match k.toNat with
    | 0 => rfl
    | 1 => rfl
    | 2 => rfl
    | 3 => rfl
    | n + 4 => rfl
  refine ⟨rfl, fun j p h => ?_⟩
  rw [he]
  rcases get4 h with ⟨rfl, rfl⟩ | ⟨rfl, rfl⟩ | ⟨rfl, rfl⟩ | ⟨rfl, rfl⟩
  · rfl
  · show some _ = some _
    congr 1
    show (⟨1, 2, 0, 0, 4, 5, [2], m⟩ : Nd) = ⟨1, 2, 0, 0, 4, 5, [2], bitOr m 0⟩
    rw [hm]
  · show some _ = some _
    congr 1
    show (⟨0, 3, 0, 0, 4, 5, [], m⟩ : Nd) = ⟨0, 3, 0, 0, 4, 5, [], bitOr m 0⟩
    rw [hm]
  · rfl
theorem exY_edit : EditedR ⟨0, 0, 2, bitOr 1⟩ exN exY := by
  refine ⟨rfl, fun j p h => ?_⟩
  rcases get4 h with ⟨rfl, rfl⟩ | ⟨rfl, rfl⟩ | ⟨rfl, rfl⟩ | ⟨rfl, rfl⟩ <;> rfl
theorem exX_tree : Tree (exX 4) := edited_tree exN_tree (by decide) (by decide) (by decide) (exX_edit 4 (by decide))
theorem exX_stale : StaleOk (exX 4) [true, true, true, false] := by
  refine ⟨rfl, fun j p h => ?_⟩
  rcases get4 h with ⟨rfl, rfl⟩ | ⟨rfl, rfl⟩ | ⟨rfl, rfl⟩ | ⟨rfl, rfl⟩ <;> rfl
theorem exX_bare : (exX 4).map Nd.unmet = exX 0 := rfl
/-- the token's end moved out of its part -/
def exB3 : List Nd := [⟨-3, 1, 0, 0, 2, 1, [1, 3], 0⟩, ⟨1, 2, 0, 0, 2, 3, [2], 0⟩, ⟨0, 3, 0, 0, 3, 3, [], 0⟩, ⟨-2, 6, 2, 2, 2, 3, [], 0⟩]
theorem exB3_no : ¬ Tree exB3 := fun T => by
  have := T.lies ⟨1, 2, 0, 0, 2, 3, [2], 0⟩ (by decide)
  revert this
  decide
theorem exN_move : ¬ MvOk exN (-1) := fun h => by
  have := (h.2.2.2.bare 0 _ rfl).1.2.2.1
  revert this
  decide
theorem exN_way : Way exN 2 [-3, 1, 0] := .step 2 1 ⟨0, 3, 0, 0, 2, 3, [], 0⟩ [-3, 1] ⟨_, rfl, by decide⟩ rfl (.step 1 0 ⟨1, 2, 0, 0, 2, 3, [2], 0⟩ [-3] ⟨_, rfl, by decide⟩ rfl (.root ⟨-3, 1, 0, 0, 2, 1, [1, 3], 0⟩ rfl))
theorem exN_pars : ParOk exN [-1, 0, 1, 0] := by
  refine ⟨rfl, rfl, fun i j h => ?_⟩
  obtain ⟨p, hp, hk⟩ := h
  rcases get4 hp with ⟨rfl, rfl⟩ | ⟨rfl, rfl⟩ | ⟨rfl, rfl⟩ | ⟨rfl, rfl⟩
  · simp only [List.mem_cons, List.not_mem_nil, or_false] at hk
    rcases hk with hk | hk
    · obtain rfl : i = 1 := by omega
      rfl
    · obtain rfl : i = 3 := by omega
      rfl
  · simp only [List.mem_cons, List.not_mem_nil, or_false] at hk
    obtain rfl : i = 2 := by omega
    rfl
  · cases hk
  · cases hk
theorem exN_find (b : Nat) : firstF (fun p : Prt => findB 1 0 p.nd) 0 (exP b) = 1 := rfl
theorem exN_nofind (b : Nat) : firstF (fun p : Prt => findB 0 0 p.nd) 0 (exP b) = -1 := rfl
theorem exN_near : ∀ p ∈ exN, Near p := fun p hp => by
  simp only [exN, List.mem_cons, List.not_mem_nil, or_false] at hp
  rcases hp with rfl | rfl | rfl | rfl <;> constructor <;> (unfold Lt30'; dsimp only; omega)
theorem exN_nearN : ∀ p ∈ exN, NearN p := fun p hp => by
  simp only [exN, List.mem_cons, List.not_mem_nil, or_false] at hp
  rcases hp with rfl | rfl | rfl | rfl <;> (unfold NearN; dsimp only; omega)
end Go.Proofs.Ytggmljookcmnkaa
