/- Grammars: their productions in memory, what may be; slices.IndexFunc, ContainsFunc over productions. -/
import Derived.Test.YtggmljookcmnkaaA7
import Derived.Test.YtggmljookcmnkaaA1
import Derived.WalkSpells
import Derived.WalkLawsBesides
import Derived.BigRegion
import Derived.Deep.RegionWith
import Derived.Deep.QuietTactic
import Derived.Deep.DeepCutAuto
import Derived.Deep.RegionHeld3
import Derived.Deep.RegionLaw
import Derived.BigQuiet
import Derived.Lib.Hide
namespace Go.Proofs.Ytggmljookcmnkaa
open Go.RowKit
attribute [local go_sem] more_drew more_drewN more_size more_cell more_frozen more_setCell drew_more drewN_more lt_add_r lt_add_r2 lt_add_r3 lt_add_r4 lt_add_r5 lt_add_r6 lt_add_r7 lt_add_r8 lt_add_r9 lt_add_r10 lt_self_r lt_self_r2

/-- a production: its left side, its right side's header, the right side -/
structure Prd where
  left : Int
  rA : Option Addr
  rc : Nat
  right : List Int
def prdV (p : Prd) : Value := .agg #[.int .i64 p.left, .slice p.rA p.right.length p.rc]
structure PrdOk (w : World) (p : Prd) : Prop where
  right : Ints w p.rA p.right
  cap : p.right.length ≤ p.rc
  top : p.rc ≤ 9223372036854775807
theorem PrdOk.ext {w w' : World} {p : Prd} (h : PrdOk w p) (e : Ext w w') : PrdOk w' p := ⟨h.right.ext e, h.cap, h.top⟩
def Prds (w : World) (A : Option Addr) (ps : List Prd) : Prop :=
  0 < ps.length → ∃ b off, A = some ⟨b, off, none⟩ ∧ b < w.heap.size ∧ ∀ k p, ps[k]? = some p →
    w.cell? ⟨b, off + k * 2, none⟩ = some (.int .i64 p.left) ∧ w.cell? ⟨b, off + k * 2 + 1, none⟩ = some (.slice p.rA p.right.length p.rc)
theorem Prds.ext {w w' : World} {A : Option Addr} {ps : List Prd} (h : Prds w A ps) (e : Ext w w') : Prds w' A ps := fun h0 => by
  obtain ⟨b, off, hA, hb, hc⟩ := h h0
  have hb' := e.below
  refine ⟨b, off, hA, Nat.lt_of_lt_of_le hb e.size, fun k d hk => ?_⟩
  obtain ⟨c0, c1⟩ := hc k d hk
  exact ⟨(World.cell?_of_block (hb'.block b hb)).trans c0, (World.cell?_of_block (hb'.block b hb)).trans c1⟩
/-- a grammar: numbers, its productions' header, these -/
structure Gr where
  terms : Int
  nons : Int
  k : Int
  pA : Option Addr
  pc : Nat
  prods : List Prd
def grV (g : Gr) : Value := .agg #[.int .i64 g.terms, .int .i64 g.nons, .int .i64 g.k, .slice g.pA g.prods.length g.pc]
structure GrOk (w : World) (g : Gr) : Prop where
  prods : Prds w g.pA g.prods
  oks : ∀ p ∈ g.prods, PrdOk w p
  cap : g.prods.length ≤ g.pc
  top : g.pc ≤ 9223372036854775807
theorem GrOk.ext {w w' : World} {g : Gr} (h : GrOk w g) (e : Ext w w') : GrOk w' g := ⟨h.prods.ext e, fun p hp => (h.oks p hp).ext e, h.cap, h.top⟩
/-- a symbol that is none -/
def badS (g : Gr) (s : Int) : Bool := decide (s < 0) || decide (g.terms + g.nons ≤ s)
def badP (g : Gr) (p : Prd) : Bool := decide (p.left < 0) || decide (g.nons ≤ p.left) || p.right.any (badS g)
def longP (p : Prd) : Bool := decide (8 < p.right.length)
def GrBig (g : Gr) : Prop := 8 < g.terms ∨ 16 < g.nons ∨ 3 < g.k ∨ 64 < g.prods.length
def GrFew (g : Gr) : Prop := g.terms < 1 ∨ g.nons < 1 ∨ g.k < 1 ∨ g.prods.length < 1
instance grBigDec (g : Gr) : Decidable (GrBig g) := by unfold GrBig; infer_instance
instance grFewDec (g : Gr) : Decidable (GrFew g) := by unfold GrFew; infer_instance
/-- what is told of a grammar -/
def gramF (g : Gr) : Int := if GrBig g then 3 else if g.prods.any longP then 3 else if GrFew g then 2 else if g.prods.any (badP g) then 2 else 0
theorem any_drop {α : Type} {l : List α} {k : Nat} {p : α} (f : α → Bool) (h : l[k]? = some p) : (l.drop k).any f = (f p || (l.drop (k + 1)).any f) := by
  obtain ⟨h1, rfl⟩ := List.getElem?_eq_some_iff.1 h
  rw [← List.getElem_cons_drop h1, List.any_cons]
set_option maxRecDepth 100000 in
set_option maxHeartbeats 1000000 in
theorem idxPrds (F : Nat) (lb : Array Value) (f : Prd → Bool) (A : Option Addr) (c : Nat) (ps : List Prd) (w : World) (hP : Prds w A ps) (hl : ps.length ≤ 9223372036854775807) (eg : Enters Try.prog F)
    (hf : ∀ (wr : World) (p : Prd), Ext w wr → p ∈ ps → Calls Try.prog F (#[prdV p] ++ lb) wr fun e w' => e = .returned (.bool (f p)) ∧ Ext wr w') :
    Calls Try.prog 139 #[.slice A ps.length c, .func (.func F) #[] lb] w fun e w' => e = .returned (.int .i64 (firstF f 0 ps)) ∧ Ext w w' := by
  have HP := Lib.hid hP
  have HF := Lib.hid hf
  unfold Enters at eg
  clear hP hf
  go_enter Try.func139, Try.ntmps139
  go_wp2
  go_loopw [8] (fun i wr => ∃ j : Nat, j ≤ ps.length ∧ i = .int .i64 j ∧ Hid (firstF f 0 ps = firstF f j (ps.drop j)) ∧ Ext w wr) (fun i _ => ps.length - (intOf i).toNat)
  case atStart => exact ⟨0, Nat.zero_le _, rfl, Lib.hid rfl, (by repeat (first | exact Ext.refl _ | refine Ext.alloc ?_ _ | refine Ext.more ?_ _ _ | refine Ext.drew ?_ | refine Ext.drewN ?_ _ | refine Ext.setCell ?_ (by simp <;> omega) _))⟩
  case round =>
    obtain ⟨j, hj, rfl, he, hx⟩ := hrel
    by_cases hlt : j < ps.length
    · obtain ⟨p, hp⟩ : ∃ p, ps[j]? = some p := ⟨_, List.getElem?_eq_getElem hlt⟩
      obtain ⟨b, off, rfl, hb, hcell⟩ := (HP.out.ext hx) (by omega)
      obtain ⟨d0, d1⟩ := hcell j p hp
      have CF := Lib.hid (HF.out wr p hx (List.mem_of_getElem? hp))
      have HS : Hid (firstF f j (ps.drop j) = if f p then (j : Int) else firstF f (j + 1) (ps.drop (j + 1))) := by
        rw [List.drop_eq_getElem_cons hlt]
        rw [List.getElem?_eq_getElem hlt] at hp
        injection hp with hp
        rw [hp]
        exact Lib.hid rfl
      have HX := Lib.hid hx
      clear hcell hp hx
      go_wp2_with fail
      refine CF.out.mono ?_
      rintro e w2 ⟨rfl, hx2⟩
      have HX2 := Lib.hid (HX.out.trans hx2)
      clear hx2
      cases hfp : f p with
      | true =>
        rw [hfp] at HS
        have HS' := Lib.hid HS.out
        clear hfp HS
        go_wp2_with fail
        go_ret
        exact ⟨ret_int (by rw [he.out, HS'.out]; rfl), HX2.out⟩
      | false =>
        rw [hfp] at HS
        have HS' := Lib.hid HS.out
        clear hfp HS
        go_wp2_with fail
        go_roundw
        case rel => exact ⟨j + 1, by omega, by go_num, Lib.hid (by rw [he.out, HS'.out]; rfl), HX2.out⟩
        case measure => simp [intOf]; omega
    · obtain rfl : j = ps.length := by omega
      have HX := Lib.hid hx
      clear hx
      go_wp2_with fail
      go_ret
      exact ⟨ret_int (by rw [he.out, List.drop_eq_nil_of_le (Nat.le_refl _)]; rfl), HX.out⟩
theorem hasPrds (F : Nat) (lb : Array Value) (f : Prd → Bool) (A : Option Addr) (c : Nat) (ps : List Prd) (w : World) (hP : Prds w A ps) (hl : ps.length ≤ 9223372036854775000) (eg : Enters Try.prog F)
    (hf : ∀ (wr : World) (p : Prd), Ext w wr → p ∈ ps → Calls Try.prog F (#[prdV p] ++ lb) wr fun e w' => e = .returned (.bool (f p)) ∧ Ext wr w') :
    Calls Try.prog 115 #[.slice A ps.length c, .func (.func F) #[] lb] w fun e w' => e = .returned (.bool (ps.any f)) ∧ Ext w w' := by
  have CF := Lib.hid (idxPrds F lb f A c ps w hP (by omega) eg hf)
  have HB := firstF_bd f ps 0
  have HA := Lib.hid (firstF_any f ps 0)
  clear hP hf eg
  go_enter Try.func115, Try.ntmps115
  go_wp2_with fail
  refine CF.out.mono ?_
  rintro e w2 ⟨rfl, hx2⟩
  have HX2 := Lib.hid hx2
  clear hx2
  go_wp2_with fail
  go_ret
  exact ⟨ret_bool HA.out, HX2.out⟩
end Go.Proofs.Ytggmljookcmnkaa
