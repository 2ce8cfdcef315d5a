/- TreeNames: the chapter's example comes out as it tells. No condition. -/
import Derived.Test.YtggmljookcmnkaaN4
import Derived.Test.YtggmljookcmnkaaL
namespace Go.Proofs.Ytggmljookcmnkaa
open Go.ChangeShapes Go.WideShapes Go.ChangeAt Go.RowKit Go.Joins

set_option maxRecDepth 100000 in
theorem treeNames_lifted (os : Os) (started : os.Started) (H : Type) (enc : TypeId × Value → H) :
    ReturnsInHanded {} Try.checked os 6 .any (Rows.treeNamesSpec.pre6 enc Try.prog Try.f6 Rows.treeNamesRow.domain false) (Rows.treeNamesSpec.post enc Try.prog Try.f6 false true false false) := by
  refine law_lifted (fn := Try.f6) started (by kernel_rfl) Try.func6
    (ChangeSpec.witness6 (enc := enc) (C := Try.checked) false ⟨#[], #[], []⟩ 8 (by kernel_rfl) (by kernel_rfl) (by kernel_rfl) (by kernel_rfl))
    rfl (by kernel_rfl) Try.underlying4 (of_decide_eq_true (by kernel_rfl)) ?_ ?_
  · intro ds hl
    match ds, hl with
    | [], _ => rfl
  · intro W base args ds ps hval hA _
    have hp : Try.f6.params.toList = [] := by kernel_rfl
    rw [hp] at hA hval
    obtain ⟨hargs, rfl, rfl⟩ := trodAll_nil hA
    obtain rfl : args = #[] := by cases args; simp_all
    exact (treeNames_any W).mono fun e w' ⟨he, hx⟩ => ⟨he, hx.below⟩

theorem treeNames_holds : Rows.TreeNamesSaid :=
  OpenClaim.holds_of_wide 6 Try.f6 rfl rfl rfl rfl rfl rfl rfl ⟨rfl, rfl, rfl, rfl, rfl⟩ rfl rfl rfl rfl rfl (by kernel_rfl) Try.func6 (by kernel_rfl)
    (of_decide_eq_true (by kernel_rfl)) (by unfold Func.isWrapper; first | (rw [if_pos (by decide +kernel)]; kernel_rfl) | (rw [if_neg (by decide +kernel)]; exact ⟨rfl, rfl⟩))
    (fun os started H enc _ => treeNames_lifted os started H enc)
#print axioms treeNames_holds
end Go.Proofs.Ytggmljookcmnkaa
