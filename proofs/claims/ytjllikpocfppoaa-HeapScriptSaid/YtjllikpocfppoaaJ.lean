/- The last thing is taken out of the row. -/
import Derived.Test.YtjllikpocfppoaaH
import Derived.Lib.SliceRun
import Derived.Laws.IdiomCopy
import Derived.WalkSpells
import Derived.WalkLawsBesides
import Derived.BigRegion
import Derived.Deep.RegionWith
import Derived.Deep.QuietTactic
import Derived.Deep.DeepCutAuto
import Derived.Deep.RegionHeld3
import Derived.Deep.RegionLaw
import Derived.BigQuiet
import Derived.Lib.Hide
namespace Go.Proofs.Ytjllikpocfppoaa
open Go.RowKit
attribute [local go_sem] more_drew more_drewN more_size more_cell more_frozen more_setCell drew_more drewN_more lt_add_r lt_add_r2 lt_add_r3 lt_add_r4 lt_add_r5 lt_add_r6 lt_add_r7 lt_add_r8 lt_add_r9 lt_add_r10 lt_self_r lt_self_r2

theorem zero60 : ∀ w, (zeroValue 60).run Try.prog w = .ok (.agg #[.int .i64 0, .int .i64 0, .int .i64 0]) w := fun w => by
  obtain ⟨i60, hi, hz0, hz1, hz2⟩ := info_parts info60
  simp [zeroValue, typeInfo, hi, hz0]
theorem zc3 : (Builtin.zeroCells #[.int .i64 0, .int .i64 0, .int .i64 0] 1).toList = [.int .i64 0, .int .i64 0, .int .i64 0] := by kernel_rfl
theorem run_clear_item (w : World) (ty : TypeId) (b o c : Nat) (hc : ∀ j, j < 3 → (w.cell? ⟨b, o + j, none⟩).isSome = true) (hf : ∀ j, j < 3 → w.frozen? ⟨b, o + j, none⟩ = false) :
    (Builtin.clear_ #[54] ty #[.slice (some ⟨b, o, none⟩) 1 c]).run Try.prog w = .ok (.tuple #[]) (w.setCells b o [.int .i64 0, .int .i64 0, .int .i64 0]) := by
  have hst := run_storeCells_cells (P := Try.prog) b o [.int .i64 0, .int .i64 0, .int .i64 0] 0 w (by simpa using hc) (by simpa using hf) (by intro v hv; simp at hv; subst hv; rfl)
  simp only [Nat.add_zero] at hst
  simp [Builtin.clear_, run_underlying Try.underlying54, Value.cells, zc3, hst]

set_option maxRecDepth 100000 in
set_option maxHeartbeats 3000000 in
theorem delete_last (g n cap : Nat) (hn : n + 1 ≤ cap) (hm : cap ≤ maxLen) (w : World) (hc : ∀ j, j < 3 → (w.cell? ⟨g, n * 3 + j, none⟩).isSome = true) (hf : ∀ j, j < 3 → w.frozen? ⟨g, n * 3 + j, none⟩ = false) :
    Calls Try.prog 27 #[.slice (some ⟨g, 0, none⟩) (n + 1) cap, .int .i64 (n : Int), .int .i64 ((n : Int) + 1)] w fun e w' => e = .returned (.slice (some ⟨g, 0, none⟩) n cap) ∧ w' = w.drew.setCells g (n * 3) [.int .i64 0, .int .i64 0, .int .i64 0] := by
  have hm' : cap ≤ 9223372036854775807 := by unfold maxLen at hm; omega
  obtain ⟨i60, hi, hz0, hz1, hz2⟩ := info_parts info60
  obtain ⟨A, hA⟩ : ∃ A : Addr, (if cap = n + 1 then some (⟨g, 0, none⟩ : Addr) else some ⟨g, (n + 1) * 3, none⟩) = some A := by split <;> exact ⟨_, rfl⟩
  have hcl : ∀ ty c, (Builtin.clear_ #[54] ty #[.slice (some ⟨g, n * 3, none⟩) 1 c]).run Try.prog w.drew = .ok (.tuple #[]) (w.drew.setCells g (n * 3) [.int .i64 0, .int .i64 0, .int .i64 0]) :=
    fun ty c => run_clear_item w.drew ty g (n * 3) c hc hf
  have hsc : w.drew.setCells g (n * 3) [] = w.drew := rfl
  have e1 : ((n : Int) == (n : Int) + 1) = false := by simp; omega
  have hic : n ≤ cap := by omega
  have h0 : (0 : Int) ≤ (n : Int) + 1 := by omega
  clear hc hf
  go_enter Try.func27, Try.ntmps27
  go_wp2_with fail
  go_region_law (refine step_append_room rfl (.tmp 22) (.tmp 25) 54 rfl 60 i60 3 Try.underlying54 hi hz1 g 0 n cap (by simp [Act.eval, Act.put]) A 0 (cap - (n + 1)) [] (by simp [Act.eval, Act.put]) rfl (by simp) (by simp) (by omega) (by simp) ?_)
  go_wp2_with fail
  go_ret
  exact ⟨rfl, rfl⟩
end Go.Proofs.Ytjllikpocfppoaa
