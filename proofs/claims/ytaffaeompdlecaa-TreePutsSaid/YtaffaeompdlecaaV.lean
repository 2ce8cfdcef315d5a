/- A region that draws its order, whose operations only read and whose callees only make new memory: one walk of the text's order serves every order. No program is named here. -/
import Derived.Test.YtaffaeompdlecaaW
import Derived.BigQuiet
import Derived.Lib.Hide
namespace Go.Proofs.Ytaffaeompdlecaa
open Go.RowKit

/-- new blocks and draws -/
structure Lay where
  os : List Obj
  k : Nat
instance layNonempty : Nonempty Lay := ⟨⟨[], 0⟩⟩

theorem wp_region_ext {P : Program} {id : Nat} {Q : Exit → Act → World → Prop} {a : Act} {w : World} {l : List Oper} (hm : P.follows .mixedOrders = true) (hB : Region.lexB .any l.toArray = true)
    (h : wpQuiet P l.toArray (fun w' => ∃ x : Lay, w' = more w x.os x.k) (fun a' => ∀ w', (∃ x : Lay, w' = more w x.os x.k) → Q .normal a' w') l a) : (Code.region id l.toArray true).wp P Q a w :=
  wp_region_quiet (C := fun w' => ∃ x : Lay, w' = more w x.os x.k) hm hB ⟨⟨[], w.drawn + 1⟩, by simp [more]⟩ (by simpa using h)

theorem calls_ext {P : Program} {f : FuncId} {args : Array Value} {w : World} {x : Lay} {v : Value}
    (h : Calls P f args (more w x.os x.k) fun e w' => e = .returned v ∧ Ext (more w x.os x.k) w') : Calls P f args (more w x.os x.k) fun e w'' => e = .returned v ∧ ∃ y : Lay, w'' = more w y.os y.k :=
  h.mono fun _ _ ⟨he, os, k, hw⟩ => ⟨he, ⟨x.os ++ os, k⟩, by rw [hw, more_more]⟩

theorem calls_ext_same {P : Program} {f : FuncId} {args : Array Value} {w : World} {x : Lay} {v : Value}
    (h : Calls P f args (more w x.os x.k) fun e w' => e = .returned v ∧ more w x.os x.k = w') : Calls P f args (more w x.os x.k) fun e w'' => e = .returned v ∧ ∃ y : Lay, w'' = more w y.os y.k :=
  h.mono fun _ _ ⟨he, hw⟩ => ⟨he, x, hw.symm⟩

end Go.Proofs.Ytaffaeompdlecaa
