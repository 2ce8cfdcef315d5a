/- The heap's order, and its small functions. -/
import Derived.Test.YtjllikpocfppoaaChecked
import Derived.Test.YtjllikpocfppoaaA
import Derived.Test.YtjllikpocfppoaaV
import Derived.WalkSpells
import Derived.WalkLawsBesides
import Derived.BigRegion
import Derived.Deep.RegionWith
import Derived.Deep.QuietTactic
import Derived.Deep.DeepCutAuto
import Derived.Deep.RegionHeld3
import Derived.Deep.RegionLaw
import Derived.BigQuiet
import Derived.Lib.Hide
namespace Go.Proofs.Ytjllikpocfppoaa
open Go.RowKit
attribute [local go_sem] more_drew more_drewN more_size more_cell more_frozen more_setCell drew_more drewN_more lt_add_r lt_add_r2 lt_add_r3 lt_add_r4 lt_add_r5 lt_add_r6 lt_add_r7 lt_add_r8 lt_add_r9 lt_add_r10 lt_self_r lt_self_r2

/-- the order's answer -/
def cmpK (a b : Int) : Int := if a < b then -1 else if b < a then 1 else 0
/-- one item is ahead of another one -/
def ltI (a b : It) : Bool := if cmpK a.2.1 b.2.1 = 0 then decide (a.1 < b.1) else decide (cmpK a.2.1 b.2.1 < 0)
section
variable {P : Program}
theorem run_equalIn_func_nil (w : World) (d : Nat) (t : TypeId) (f : Fn) (a b : Array Value) (ps rs : Array TypeId) (va : Bool) (h : P.underlying t = some (.func ps rs va)) : (Op.equalIn (d + 1) t (.func f a b) .nilFunc).run P w = .ok false w := by
  simp [Op.equalIn, run_underlying h]
theorem run_eql_func_nil (w : World) (t : TypeId) (f : Fn) (a b : Array Value) (ps rs : Array TypeId) (va : Bool) (h : P.underlying t = some (.func ps rs va)) : (binOp .eql t (.func f a b) .nilFunc).run P w = .ok (.bool false) w := by
  simp only [binOp]
  simp [Op.equal, Op.maxDepth, run_equalIn_func_nil w 9999 t f a b ps rs va h]
theorem run_equalIn_nilfunc_nil (w : World) (d : Nat) (t : TypeId) (ps rs : Array TypeId) (va : Bool) (h : P.underlying t = some (.func ps rs va)) : (Op.equalIn (d + 1) t .nilFunc .nilFunc).run P w = .ok true w := by
  simp [Op.equalIn, run_underlying h]
theorem run_eql_nilfunc_nil (w : World) (t : TypeId) (ps rs : Array TypeId) (va : Bool) (h : P.underlying t = some (.func ps rs va)) : (binOp .eql t .nilFunc .nilFunc).run P w = .ok (.bool true) w := by
  simp only [binOp]
  simp [Op.equal, Op.maxDepth, run_equalIn_nilfunc_nil w 9999 t ps rs va h]
end
/-- the order as a value -/
def byKeyV : Value := .func (.func 9) #[] #[]

set_option maxRecDepth 100000 in
set_option maxHeartbeats 3000000 in
theorem byKey_any (ka ia kb ib : Int) (w : World) : Calls Try.prog 9 #[.agg #[.int .i64 ka, .int .i64 ia], .agg #[.int .i64 kb, .int .i64 ib]] w fun e w' => e = .returned (.int .i64 (cmpK ka kb)) ∧ Ext w w' := by
  go_enter Try.func9, Try.ntmps9
  go_wp2
  all_goals go_ret
  all_goals refine ⟨ret_int ?_, (by repeat (first | exact Ext.refl _ | refine Ext.alloc ?_ _ | refine Ext.more ?_ _ _ | refine Ext.drew ?_ | refine Ext.drewN ?_ _ | refine Ext.setCell ?_ (by simp <;> omega) _))⟩
  all_goals (unfold cmpK; repeat (first | omega | split))

set_option maxRecDepth 100000 in
set_option maxHeartbeats 3000000 in
theorem one_any (k i : Int) (w : World) : Calls Try.prog 11 #[.int .i64 k, .int .i64 i] w fun e w' => e = .returned (.agg #[.int .i64 k, .int .i64 i]) ∧ Ext w w' := by
  go_enter Try.func11, Try.ntmps11
  go_wp2
  go_returns
  exact ⟨rfl, (by repeat (first | exact Ext.refl _ | refine Ext.alloc ?_ _ | refine Ext.more ?_ _ _ | refine Ext.drew ?_ | refine Ext.drewN ?_ _ | refine Ext.setCell ?_ (by simp <;> omega) _))⟩

set_option maxRecDepth 100000 in
set_option maxHeartbeats 3000000 in
theorem none_any (p : Nat) (v : Value) (X : List It) (c : Int) (w : World) (h : HeapAt w p byKeyV v X c) : Calls Try.prog 25 #[.pointer (some ⟨p, 0, none⟩)] w fun e w' => e = .returned (.bool false) ∧ Ext w w' := by
  have c0 := h.cell.1
  have hp := h.lt
  unfold byKeyV at c0
  have e28 := fun w1 => run_eql_func_nil (P := Try.prog) w1 28 (.func 9) #[] #[] _ _ _ Try.underlying28
  clear h
  go_enter Try.func25, Try.ntmps25
  go_wp2
  go_ret
  exact ⟨rfl, (by repeat (first | exact Ext.refl _ | refine Ext.alloc ?_ _ | refine Ext.more ?_ _ _ | refine Ext.drew ?_ | refine Ext.drewN ?_ _ | refine Ext.setCell ?_ (by simp <;> omega) _))⟩
end Go.Proofs.Ytjllikpocfppoaa
