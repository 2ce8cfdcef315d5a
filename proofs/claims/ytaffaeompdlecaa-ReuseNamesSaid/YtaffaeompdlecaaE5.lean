/- Small facts behind TreePuts. -/
import Derived.Test.YtaffaeompdlecaaE4
import Derived.Test.YtaffaeompdlecaaD6
import Derived.Test.YtaffaeompdlecaaE2
namespace Go.Proofs.Ytaffaeompdlecaa
open Go.RowKit

theorem Few.of_tree {ps : List Prt} (T : Tree (nds ps)) (h : ps.length ≤ 1000) : Few ps := ⟨h, fun j => by
  have h1 := kc_all (nds ps) j
  have h2 := (trek_ok T.trek).2 rfl
  have h3 := nds_length ps
  omega⟩
theorem Few.of_tree' {ps : List Prt} {l : List Nd} (e : nds ps = l) (T : Tree l) (h : l.length ≤ 1000) : Few ps := Few.of_tree (by rw [e]; exact T) (by rw [← nds_length, e]; exact h)
/-- a part alone, marked anew -/
def Nd.lone (met : Int) (p : Nd) : Nd := { p with kids := [], met := met }
theorem Bare.lone {p : Nd} (h : Bare p) (met : Int) : Bare (p.lone met) := by
  unfold Bare Nd.lone at *
  obtain ⟨a, b, c, d, e, f, g, i, j⟩ := h
  exact ⟨a, b, c, d, e, f, g, i, fun _ => rfl⟩
theorem lone_tree {p : Nd} (h : Bare p) (met : Int) : Tree [p.lone met] := by
  refine ⟨fun i q hq => ?_, ?_, fun q hq => ?_⟩
  · cases i with
    | zero =>
      simp at hq
      subst hq
      exact ⟨h.lone met, fun h => by omega⟩
    | succ i => simp at hq
  · exact Trek.one (l := [p.lone met]) (n := 0) rfl (.nil _)
  · rw [List.mem_singleton.1 hq]
    show decide ((p.lone met).lo ≤ (p.lone met).hi) = true
    exact decide_eq_true h.2.2.2.1
theorem fits_sub {l : List Nd} {i m : Nat} (h : Part l i m) : FitsP l (subF l i m) i := by
  have h1 := h.lt_end
  obtain ⟨p, h2⟩ : ∃ p, l[i]? = some p := ⟨_, List.getElem?_eq_getElem h.lt⟩
  refine ⟨i, p, p.by (· + -(i : Int)), rfl, h2, by rw [get_sub (by omega), Nat.add_zero, h2]; rfl, rfl, rfl, rfl, rfl⟩
/-- what is put, marked anew and alone -/
structure Puts (l : List Nd) (i m : Nat) (met : Int) (o : Nd) : Prop where
  sub0 : (subF l i m)[0]? = some o
  tree1 : Tree [o.lone met]
  fit1 : FitsP l [o.lone met] i
  out : Tree (putF l i m [o.lone met])
  part : Part (putF l i m [o.lone met]) i (i + 1)
  same : subF (putF l i m [o.lone met]) i (i + 1) = [o.lone met]
  len : (putF l i m [o.lone met]).length = i + 1 + (l.length - m)
  fit2 : FitsP (putF l i m [o.lone met]) (subF l i m) i
  back : putF (putF l i m [o.lone met]) i (i + 1) (subF l i m) = l
theorem Tree.puts {l : List Nd} (T : Tree l) {i m : Nat} (h : Part l i m) (met : Int) : ∃ o, Puts l i m met o := by
  have h1 := h.lt_end
  obtain ⟨p, h2⟩ : ∃ p, l[i]? = some p := ⟨_, List.getElem?_eq_getElem h.lt⟩
  have h3 : (subF l i m)[0]? = some (p.by (· + -(i : Int))) := by rw [get_sub (by omega), Nat.add_zero, h2]; rfl
  have hb : Bare (p.by (· + -(i : Int))) := (T.bare i _ h2).1.by _
  have t1 := lone_tree hb met
  refine ⟨_, h3, t1, ⟨i, _, _, rfl, h2, rfl, rfl, rfl, rfl, rfl⟩, T.put h t1 h2 rfl rfl rfl rfl, h.of_put t1, sub_put (by have := h.lt; omega) h.le, len_put (by have := h.lt; omega) h.le, ?_, put_put T h (by simp)⟩
  refine ⟨i, _, _, rfl, (get_put_in (s := [_]) (j := 0) (by have := h.lt; omega) (by simp)), h3, rfl, rfl, rfl, rfl⟩
end Go.Proofs.Ytaffaeompdlecaa
