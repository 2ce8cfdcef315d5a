/- What HeapSorts puts and takes: plain. And the map of what was seen. -/
import Derived.Test.YtjllikpocfppoaaQ
import Derived.Maps.OwnOps
import Derived.Maps.Views
import Derived.WalkSpells
import Derived.WalkLawsBesides
import Derived.BigRegion
import Derived.Deep.RegionWith
import Derived.Deep.QuietTactic
import Derived.Deep.DeepCutAuto
import Derived.Deep.RegionHeld3
import Derived.Deep.RegionLaw
import Derived.BigQuiet
import Derived.Lib.Hide
namespace Go.Proofs.Ytjllikpocfppoaa
open Go.RowKit
attribute [local go_sem] more_drew more_drewN more_size more_cell more_frozen more_setCell drew_more drewN_more lt_add_r lt_add_r2 lt_add_r3 lt_add_r4 lt_add_r5 lt_add_r6 lt_add_r7 lt_add_r8 lt_add_r9 lt_add_r10 lt_self_r lt_self_r2

/-- a thing's key and id -/
def pr (r : It) : Int × Int := r.2
/-- the things behind k puts of l -/
def r1 (xs : List Int) : Nat → List It
  | 0 => []
  | k + 1 => insL (r1 xs k) (k, xs.getD k 0, k)
/-- .. behind e takes, and i puts of what was taken -/
def r3 (xs : List Int) (e : Nat) : Nat → List It
  | 0 => (r1 xs xs.length).drop e
  | i + 1 => insL (r3 xs e i) ((xs.length + i : Nat), ((r1 xs xs.length).getD i z3).2.1, ((r1 xs xs.length).getD i z3).2.2)
theorem r1_length (xs : List Int) (k : Nat) : (r1 xs k).length = k := by
  induction k with
  | zero => rfl
  | succ k ih =>
    simp only [r1]
    rw [(insL_perm _ _).length_eq]
    simp [ih]
theorem r3_length (xs : List Int) (e i : Nat) : (r3 xs e i).length = xs.length - e + i := by
  induction i with
  | zero =>
    simp only [r3]
    rw [List.length_drop, r1_length]
    omega
  | succ i ih =>
    simp only [r3]
    rw [(insL_perm _ _).length_eq]
    simp [ih]
    omega
theorem r1_pr (xs : List Int) (k : Nat) : ((r1 xs k).map pr).Perm ((List.range k).map fun j => (xs.getD j 0, (j : Int))) := by
  induction k with
  | zero => exact List.Perm.refl _
  | succ k ih =>
    simp only [r1]
    rw [List.range_succ, List.map_append]
    exact ((insL_perm _ _).map pr).trans (by rw [List.map_append]; exact ih.append_right _)
theorem r1_num (xs : List Int) (k : Nat) : ∀ y ∈ r1 xs k, y.1 = y.2.2 := by
  induction k with
  | zero => simp [r1]
  | succ k ih =>
    intro y hy
    simp only [r1] at hy
    rcases (insL_mem _ _ y).1 hy with hy | rfl
    · exact ih y hy
    · rfl
theorem take_snoc (R : List It) (i : Nat) (h : i < R.length) : R.take (i + 1) = R.take i ++ [R.getD i z3] := by
  rw [List.take_succ_eq_append_getElem h, List.getD_eq_getElem?_getD, List.getElem?_eq_getElem h]
  rfl
theorem drop_cons (R : List It) (i : Nat) (h : i < R.length) : R.drop i = R.getD i z3 :: R.drop (i + 1) := by
  rw [List.drop_eq_getElem_cons h, List.getD_eq_getElem?_getD, List.getElem?_eq_getElem h]
  rfl
theorem r3_pr (xs : List Int) (e i : Nat) (he : e ≤ xs.length) (hi : i ≤ e) : ((r3 xs e i).map pr).Perm (((r1 xs xs.length).drop e ++ (r1 xs xs.length).take i).map pr) := by
  induction i with
  | zero =>
    simp only [r3]
    simp
  | succ i ih =>
    simp only [r3]
    refine ((insL_perm _ _).map pr).trans ?_
    rw [take_snoc _ _ (by rw [r1_length]; omega), List.map_append, ← List.append_assoc, List.map_append (l₂ := [_])]
    exact (ih (by omega)).append_right _
theorem r3_all (xs : List Int) (e : Nat) (he : e ≤ xs.length) : ((r3 xs e e).map pr).Perm ((List.range xs.length).map fun j => (xs.getD j 0, (j : Int))) := by
  refine (r3_pr xs e e he (Nat.le_refl _)).trans (List.Perm.trans ?_ (r1_pr xs xs.length))
  refine List.Perm.map pr ?_
  have := List.perm_append_comm (l₁ := (r1 xs xs.length).drop e) (l₂ := (r1 xs xs.length).take e)
  rwa [List.take_append_drop] at this
/-- what is told of what is taken at last -/
theorem r3_item (xs : List Int) (e i : Nat) (he : e ≤ xs.length) (hi : i < xs.length) :
    ∃ j : Nat, j < xs.length ∧ ((r3 xs e e).getD i z3).2.2 = (j : Int) ∧ ((r3 xs e e).getD i z3).2.1 = xs.getD j 0 := by
  have hl : i < (r3 xs e e).length := by rw [r3_length]; omega
  have hm : pr ((r3 xs e e).getD i z3) ∈ (r3 xs e e).map pr := List.mem_map_of_mem (getD_mem _ _ hl)
  rw [(r3_all xs e he).mem_iff, List.mem_map] at hm
  obtain ⟨j, hj, hp⟩ := hm
  rw [List.mem_range] at hj
  have h1 := congrArg Prod.fst hp
  have h2 := congrArg Prod.snd hp
  exact ⟨j, hj, h2.symm, h1.symm⟩
/-- the ids of the first i -/
def ids (R : List It) (i : Nat) : List Int := (R.take i).map fun r => r.2.2
theorem ids_succ (R : List It) (i : Nat) (h : i < R.length) : ids R (i + 1) = ids R i ++ [(R.getD i z3).2.2] := by
  unfold ids
  rw [take_snoc R i h, List.map_append]
  rfl
theorem nodup_ids (xs : List Int) (e : Nat) (he : e ≤ xs.length) : ((r3 xs e e).map fun r => r.2.2).Nodup := by
  have h1 : ((r3 xs e e).map fun r => r.2.2).Perm ((List.range xs.length).map fun j : Nat => (j : Int)) := by
    have := (r3_all xs e he).map Prod.snd
    rw [List.map_map, List.map_map] at this
    exact this
  refine h1.symm.nodup ?_
  exact List.Pairwise.map _ (fun (a b : Nat) (h : a ≠ b) (h' : (a : Int) = (b : Int)) => h (by omega)) List.nodup_range
theorem fresh_id (xs : List Int) (e i : Nat) (he : e ≤ xs.length) (hi : i < xs.length) : ((r3 xs e e).getD i z3).2.2 ∉ ids (r3 xs e e) i := by
  have hl : i < (r3 xs e e).length := by rw [r3_length]; omega
  have hn := nodup_ids xs e he
  rw [← List.take_append_drop (i + 1) (r3 xs e e), List.map_append] at hn
  have h1 := (List.nodup_append.1 hn).1
  rw [show ((r3 xs e e).take (i + 1)).map (fun r => r.2.2) = ids (r3 xs e e) (i + 1) from rfl, ids_succ _ _ hl] at h1
  intro hm
  exact (List.nodup_append.1 h1).2.2 _ hm _ (List.mem_singleton.2 rfl) rfl
theorem pair_lt (R : List It) (h : R.Pairwise fun a b => ltI a b = true) (i : Nat) (hi : i + 1 < R.length) : (R.getD i z3).2.1 < (R.getD (i + 1) z3).2.1 ∨ ((R.getD i z3).2.1 = (R.getD (i + 1) z3).2.1 ∧ (R.getD i z3).1 < (R.getD (i + 1) z3).1) := by
  have h1 := h.drop (i := i)
  rw [drop_cons R i (by omega)] at h1
  have h2 := (List.pairwise_cons.1 h1).1 _ (by rw [drop_cons R (i + 1) hi]; exact List.mem_cons_self)
  exact (ltI_iff _ _).1 h2
theorem r3_num (xs : List Int) (i : Nat) (hi : i < xs.length) : ((r3 xs 0 0).getD i z3).1 = ((r3 xs 0 0).getD i z3).2.2 := by
  have e : r3 xs 0 0 = r1 xs xs.length := by simp [r3]
  rw [e]
  exact r1_num xs _ _ (getD_mem _ _ (by rw [r1_length]; exact hi))

/-- the map at block b has just the numbers S, with 1 -/
def Seen (w : World) (b n : Nat) (S : List Int) : Prop :=
  ∃ D : DataW Unit, w.ownsMap Try.prog 3 (plainElem Try.prog 3) b n D ∧ Maps.IsMap D ∧ ∀ x : Int, (Lit.int .i64 x).wf = true → D.atKey (.int .i64 x) (.lit (.int .i64 0)) = .lit (.int .i64 (if x ∈ S then 1 else 0))
theorem zero3 : ∀ w, (zeroValue 3).run Try.prog w = .ok (.int .i64 0) w := fun w => by kernel_rfl
theorem Seen.made (w : World) : Seen (w.alloc (.map #[] 0)) w.heap.size 0 [] :=
  ⟨.map [], World.ownsMap_made w _ _ _, Maps.isMap_empty, fun x _ => by simp [DataW.atKey]⟩
theorem Seen.keep {w w' : World} {b n : Nat} {S : List Int} (h : Seen w b n S) (hb : w'.heap[b]? = w.heap[b]?) : Seen w' b n S := by
  obtain ⟨D, ⟨es, clock, h1, h2⟩, hD⟩ := h
  exact ⟨D, ⟨es, clock, hb.trans h1, h2⟩, hD⟩
theorem Seen.obj {w : World} {b n : Nat} {S : List Int} (h : Seen w b n S) : ∃ es clock, w.heap[b]? = some (.map es clock) := by
  obtain ⟨D, ⟨es, clock, h1, h2⟩, hD⟩ := h
  exact ⟨es, clock, h1⟩
theorem Seen.lookup {w : World} {b n : Nat} {S : List Int} (h : Seen w b n S) (x : Int) (hx : (Lit.int .i64 x).wf = true) (hn : x ∉ S) : (Instr.lookup 35 (.map (some b)) (.int .i64 x) false).run Try.prog w = .ok (.int .i64 0) w := by
  obtain ⟨D, ho, _, hD⟩ := h
  obtain ⟨c, hrun, hat, _⟩ := ho.lookup_int (Maps.int_keyed Try.underlying3) Try.underlying35 Try.underlying3 (zero3 w) (Maps.keyOf_int_mk Try.underlying3 hx)
  rw [hD x hx, if_neg hn] at hat
  injection hat with hat
  injection hat with _ hat
  rw [hrun, ← hat]
theorem Seen.update {w : World} {b n : Nat} {S : List Int} (h : Seen w b n S) (hn : n < maxLen) (x : Int) (hx : (Lit.int .i64 x).wf = true) : ∃ w', (Instr.mapUpdate 35 (.map (some b)) (.int .i64 x) (.int .i64 1)).run Try.prog w = .ok () w' ∧ Seen w' b (n + 1) (S ++ [x]) ∧ w.grownBy w' (some b) := by
  obtain ⟨D, ho, hm, hD⟩ := h
  obtain ⟨w', hrun, ho', hg⟩ := ho.update (Maps.int_keyed Try.underlying3) Try.underlying35 hn (Maps.keyOf_int_mk Try.underlying3 hx) (plainElem_int Try.underlying3 (show (Lit.int .i64 1).wf = true by decide))
  refine ⟨w', hrun, ⟨_, ho', hm.put _ _, fun y hy => ?_⟩, hg⟩
  by_cases hxy : y = x
  · subst hxy
    rw [Maps.atKey_put_same hm (by exact trivial)]
    simp
  · rw [Maps.atKey_put_other (by intro e; injection e with _ e; exact hxy e), hD y hy]
    simp [hxy]
end Go.Proofs.Ytjllikpocfppoaa
