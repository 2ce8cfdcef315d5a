/- Sn: texts that the proof rests on, part 13. -/
import Derived.Test.YthpmncdfaggkiaaGreatSn1
import Derived.Test.YthpmncdfaggkiaaGreatSn11
import Derived.Test.YthpmncdfaggkiaaGreatSn12
import Derived.Laws.EntriesVeiled
import Derived.Shelf.Abstract
import Derived.WalkSpells
import Derived.WalkLawsBesides
import Derived.BigRegion
import Derived.Deep.RegionWith
import Derived.Deep.QuietTactic
import Derived.Deep.DeepCutAuto
import Derived.Deep.RegionHeld3
import Derived.Deep.RegionLaw
import Derived.BigQuiet
import Derived.Lib.Hide
import Derived.Lib.AppendZeros
import Derived.Test.YthpmncdfaggkiaaGreatRows
import Derived.LoopIn
import Derived.WalkKit
import Derived.ProofKit
import Derived.OpenShut
import Derived.SizedLaws
import Derived.Lib.SmallJoins
import Derived.Deep.Slices
import Derived.Deep.Fields
import Derived.ChangeSame
/- The contract of Sub. -/
namespace Go.Proofs.YthpmncdfaggkiaaGreat
open Go.RowKit
attribute [local go_sem] more_drew more_drewN more_size more_cell more_frozen more_setCell drew_more drewN_more lt_add_r lt_add_r2 lt_add_r3 lt_add_r4 lt_add_r5 lt_add_r6 lt_add_r7 lt_add_r8 lt_add_r9 lt_add_r10 lt_self_r lt_self_r2
theorem nds_drop (ps : List Prt) (i : Nat) : nds (ps.drop i) = (nds ps).drop i := by unfold nds; rw [List.map_drop]
theorem nds_take (ps : List Prt) (i : Nat) : nds (ps.take i) = (nds ps).take i := by unfold nds; rw [List.map_take]
theorem Prts.slice {w : World} {b off : Nat} {ps : List Prt} (h : Prts w (some ⟨b, off, none⟩) ps) (i n : Nat) : Prts w (some ⟨b, off + i * 8, none⟩) ((ps.drop i).take n) := fun h0 => by
  rw [List.length_take, List.length_drop] at h0
  obtain ⟨b', off', hA, hb, hcell⟩ := h (by omega)
  injection hA with hA
  injection hA with hA hB
  subst hA hB
  refine ⟨b, off + i * 8, rfl, hb, fun k p hk => ?_⟩
  rw [List.getElem?_take] at hk
  split at hk
  · rw [List.getElem?_drop] at hk
    have := hcell (i + k) p hk
    rw [Nat.add_mul, ← Nat.add_assoc] at this
    exact this
  · cases hk
theorem PrtsOk.slice {w : World} {ps : List Prt} (h : PrtsOk w ps) (i n : Nat) : PrtsOk w ((ps.drop i).take n) := fun p hp => h p (List.mem_of_mem_drop (List.mem_of_mem_take hp))
theorem kc_slice (l : List Nd) (i n j : Nat) : kc ((l.drop i).take n) 0 j ≤ kc l 0 (i + min j n) := by
  have e : kc ((l.drop i).take n) 0 j = kc l i (i + min j n) := by
    unfold kc
    rw [List.drop_zero, List.take_take, List.drop_take, Nat.add_sub_cancel_left]
  rw [e, kc_add l (Nat.zero_le i) (show i ≤ i + min j n by omega)]
  omega
theorem Few.slice {ps : List Prt} (h : Few ps) (i n : Nat) : Few ((ps.drop i).take n) := by
  refine ⟨by rw [List.length_take, List.length_drop]; have := h.len; omega, fun j => ?_⟩
  rw [nds_take, nds_drop]
  exact Nat.le_trans (kc_slice _ _ _ _) (h.kids _)
section
variable {A : Option Addr} {c : Nat} {ps : List Prt} {w : World}
end
end Go.Proofs.YthpmncdfaggkiaaGreat
/- G1: 2 texts in one. -/
/- What an edit does, bits aside. -/
namespace Go.Proofs.YthpmncdfaggkiaaGreat
def Ed.none (E : Ed) : Ed := ⟨E.a, E.d, E.i, fun _ => 0⟩
end Go.Proofs.YthpmncdfaggkiaaGreat
/- The first blocks of a world; a row of parts in them that is stored into. -/
namespace Go.Proofs.YthpmncdfaggkiaaGreat
open Go.RowKit
theorem OwnI.below {w w' : World} {base : Nat} {A : Option Addr} {c : Nat} {xs : List Int} (h : OwnI w base A c xs) (e : Below w.heap.size w w') : OwnI w' base A c xs := own_keep h fun g hg => e.block g (own_old h g hg)
end Go.Proofs.YthpmncdfaggkiaaGreat
/- StylesLeaf: the walk. -/
namespace Go.Proofs.YthpmncdfaggkiaaGreat
open Go.RowKit
attribute [local go_sem] more_drew more_drewN more_size more_cell more_frozen more_setCell drew_more drewN_more lt_add_r lt_add_r2 lt_add_r3 lt_add_r4 lt_add_r5 lt_add_r6 lt_add_r7 lt_add_r8 lt_add_r9 lt_add_r10 lt_self_r lt_self_r2
/-- is place i a leaf of a token -/
def LeafAt (l : List Nd) (i : Int) : Prop := Tree l ∧ ∃ (j : Nat) (p : Nd), i = (j : Int) ∧ l[j]? = some p ∧ (p.kind = 3 ∨ p.kind = 5)
section
variable {B : Option Addr} {ss : List Sty} {cs : Nat} {A : Option Addr} {c : Nat} {ts : List Prt} {w : World}
set_option maxRecDepth 100000 in
set_option maxHeartbeats 2000000 in
theorem leaf26_no (i : Int) (v : Value) (h : PS w A c ts) (hn : ¬ LeafAt (nds ts) i) :
    Calls Tryz.prog 28 #[v, .slice A ts.length c, .int .i64 i] w fun e w' => e = .returned (.int .i64 0) ∧ Ext w w' := by
  have hl := h.few.len
  have S := Lib.hid h
  by_cases T : Tree (nds ts)
  · have CK := Lib.hid (check_ok h T)
    clear h
    by_cases h0 : i < 0
    · clear hn T
      go_enter Tryz.func28, Tryz.ntmps28
      go_wp2_with fail
      refine CK.out.mono ?_
      rintro e w1 ⟨rfl, hx1⟩
      have HX1 := Lib.hid hx1
      clear hx1
      go_wp2_with fail
      go_ret
      exact ⟨rfl, HX1.out⟩
    · by_cases h1 : i < (ts.length : Int)
      · obtain ⟨j, rfl⟩ : ∃ j : Nat, i = (j : Int) := ⟨i.toNat, by omega⟩
        have hjl : j < ts.length := by omega
        obtain ⟨p, hp⟩ : ∃ p, ts[j]? = some p := ⟨_, List.getElem?_eq_getElem hjl⟩
        have hk : ¬ (p.nd.kind = 3 ∨ p.nd.kind = 5) := fun h => hn ⟨T, j, p.nd, rfl, nds_get hp, h⟩
        have k1 : (p.nd.kind != 3) = true := by simp; omega
        have k2 : (p.nd.kind != 5) = true := by simp; omega
        have HPP := Lib.hid hp
        clear hn T hp hk h0 h1
        go_enter Tryz.func28, Tryz.ntmps28
        go_wp2_with fail
        refine CK.out.mono ?_
        rintro e w1 ⟨rfl, hx1⟩
        have HX1 := Lib.hid hx1
        obtain ⟨b, off, rfl, hb, hcell⟩ := (S.out.ext hx1).parts (by omega)
        have d1 := (hcell j p HPP.out).2.1
        clear hx1 hcell
        go_wp2_with fail
        go_ret
        exact ⟨rfl, HX1.out⟩
      · clear hn T
        go_enter Tryz.func28, Tryz.ntmps28
        go_wp2_with fail
        refine CK.out.mono ?_
        rintro e w1 ⟨rfl, hx1⟩
        have HX1 := Lib.hid hx1
        clear hx1
        go_wp2_with fail
        go_ret
        exact ⟨rfl, HX1.out⟩
  · have CK := Lib.hid (check_no h T)
    clear h hn T
    go_enter Tryz.func28, Tryz.ntmps28
    go_wp2_with fail
    refine CK.out.mono ?_
    rintro e w1 ⟨rfl, hx1⟩
    have HX1 := Lib.hid hx1
    clear hx1
    go_wp2_with fail
    go_ret
    exact ⟨rfl, HX1.out⟩
end
end Go.Proofs.YthpmncdfaggkiaaGreat
/- Grammars: their productions in memory, what may be; slices.IndexFunc, ContainsFunc over productions. -/
namespace Go.Proofs.YthpmncdfaggkiaaGreat
open Go.RowKit
attribute [local go_sem] more_drew more_drewN more_size more_cell more_frozen more_setCell drew_more drewN_more lt_add_r lt_add_r2 lt_add_r3 lt_add_r4 lt_add_r5 lt_add_r6 lt_add_r7 lt_add_r8 lt_add_r9 lt_add_r10 lt_self_r lt_self_r2
/-- a production: its left side, its right side's header, the right side -/
structure Prd where
  left : Int
  rA : Option Addr
  rc : Nat
  right : List Int
def prdV (p : Prd) : Value := .agg #[.int .i64 p.left, .slice p.rA p.right.length p.rc]
structure PrdOk (w : World) (p : Prd) : Prop where
  right : Ints w p.rA p.right
  cap : p.right.length ≤ p.rc
  top : p.rc ≤ 9223372036854775807
theorem PrdOk.ext {w w' : World} {p : Prd} (h : PrdOk w p) (e : Ext w w') : PrdOk w' p := ⟨h.right.ext e, h.cap, h.top⟩
def Prds (w : World) (A : Option Addr) (ps : List Prd) : Prop :=
  0 < ps.length → ∃ b off, A = some ⟨b, off, none⟩ ∧ b < w.heap.size ∧ ∀ k p, ps[k]? = some p →
    w.cell? ⟨b, off + k * 2, none⟩ = some (.int .i64 p.left) ∧ w.cell? ⟨b, off + k * 2 + 1, none⟩ = some (.slice p.rA p.right.length p.rc)
theorem Prds.ext {w w' : World} {A : Option Addr} {ps : List Prd} (h : Prds w A ps) (e : Ext w w') : Prds w' A ps := fun h0 => by
  obtain ⟨b, off, hA, hb, hc⟩ := h h0
  have hb' := e.below
  refine ⟨b, off, hA, Nat.lt_of_lt_of_le hb e.size, fun k d hk => ?_⟩
  obtain ⟨c0, c1⟩ := hc k d hk
  exact ⟨(World.cell?_of_block (hb'.block b hb)).trans c0, (World.cell?_of_block (hb'.block b hb)).trans c1⟩
/-- a grammar: numbers, its productions' header, these -/
structure Gr where
  terms : Int
  nons : Int
  k : Int
  pA : Option Addr
  pc : Nat
  prods : List Prd
def grV (g : Gr) : Value := .agg #[.int .i64 g.terms, .int .i64 g.nons, .int .i64 g.k, .slice g.pA g.prods.length g.pc]
structure GrOk (w : World) (g : Gr) : Prop where
  prods : Prds w g.pA g.prods
  oks : ∀ p ∈ g.prods, PrdOk w p
  cap : g.prods.length ≤ g.pc
  top : g.pc ≤ 9223372036854775807
theorem GrOk.ext {w w' : World} {g : Gr} (h : GrOk w g) (e : Ext w w') : GrOk w' g := ⟨h.prods.ext e, fun p hp => (h.oks p hp).ext e, h.cap, h.top⟩
/-- a symbol that is none -/
def badS (g : Gr) (s : Int) : Bool := decide (s < 0) || decide (g.terms + g.nons ≤ s)
def badP (g : Gr) (p : Prd) : Bool := decide (p.left < 0) || decide (g.nons ≤ p.left) || p.right.any (badS g)
def longP (p : Prd) : Bool := decide (8 < p.right.length)
def GrBig (g : Gr) : Prop := 8 < g.terms ∨ 16 < g.nons ∨ 3 < g.k ∨ 64 < g.prods.length
def GrFew (g : Gr) : Prop := g.terms < 1 ∨ g.nons < 1 ∨ g.k < 1 ∨ g.prods.length < 1
instance grBigDec (g : Gr) : Decidable (GrBig g) := by unfold GrBig; infer_instance
instance grFewDec (g : Gr) : Decidable (GrFew g) := by unfold GrFew; infer_instance
/-- what is told of a grammar -/
def gramF (g : Gr) : Int := if GrBig g then 3 else if g.prods.any longP then 3 else if GrFew g then 2 else if g.prods.any (badP g) then 2 else 0
set_option maxRecDepth 100000 in
set_option maxHeartbeats 1000000 in
theorem idxPrds (F : Nat) (lb : Array Value) (f : Prd → Bool) (A : Option Addr) (c : Nat) (ps : List Prd) (w : World) (hP : Prds w A ps) (hl : ps.length ≤ 9223372036854775807) (eg : Enters Tryz.prog F)
    (hf : ∀ (wr : World) (p : Prd), Ext w wr → p ∈ ps → Calls Tryz.prog F (#[prdV p] ++ lb) wr fun e w' => e = .returned (.bool (f p)) ∧ Ext wr w') :
    Calls Tryz.prog 164 #[.slice A ps.length c, .func (.func F) #[] lb] w fun e w' => e = .returned (.int .i64 (firstF f 0 ps)) ∧ Ext w w' := by
  have HP := Lib.hid hP
  have HF := Lib.hid hf
  unfold Enters at eg
  clear hP hf
  go_enter Tryz.func164, Tryz.ntmps164
  go_wp2
  go_loopw [8] (fun i wr => ∃ j : Nat, j ≤ ps.length ∧ i = .int .i64 j ∧ Hid (firstF f 0 ps = firstF f j (ps.drop j)) ∧ Ext w wr) (fun i _ => ps.length - (intOf i).toNat)
  case atStart => exact ⟨0, Nat.zero_le _, rfl, Lib.hid rfl, (by repeat (first | exact Ext.refl _ | refine Ext.alloc ?_ _ | refine Ext.more ?_ _ _ | refine Ext.drew ?_ | refine Ext.drewN ?_ _ | refine Ext.setCell ?_ (by simp <;> omega) _))⟩
  case round =>
    obtain ⟨j, hj, rfl, he, hx⟩ := hrel
    by_cases hlt : j < ps.length
    · obtain ⟨p, hp⟩ : ∃ p, ps[j]? = some p := ⟨_, List.getElem?_eq_getElem hlt⟩
      obtain ⟨b, off, rfl, hb, hcell⟩ := (HP.out.ext hx) (by omega)
      obtain ⟨d0, d1⟩ := hcell j p hp
      have CF := Lib.hid (HF.out wr p hx (List.mem_of_getElem? hp))
      have HS : Hid (firstF f j (ps.drop j) = if f p then (j : Int) else firstF f (j + 1) (ps.drop (j + 1))) := by
        rw [List.drop_eq_getElem_cons hlt]
        rw [List.getElem?_eq_getElem hlt] at hp
        injection hp with hp
        rw [hp]
        exact Lib.hid rfl
      have HX := Lib.hid hx
      clear hcell hp hx
      go_wp2_with fail
      refine CF.out.mono ?_
      rintro e w2 ⟨rfl, hx2⟩
      have HX2 := Lib.hid (HX.out.trans hx2)
      clear hx2
      cases hfp : f p with
      | true =>
        rw [hfp] at HS
        have HS' := Lib.hid HS.out
        clear hfp HS
        go_wp2_with fail
        go_ret
        exact ⟨ret_int (by rw [he.out, HS'.out]; rfl), HX2.out⟩
      | false =>
        rw [hfp] at HS
        have HS' := Lib.hid HS.out
        clear hfp HS
        go_wp2_with fail
        go_roundw
        case rel => exact ⟨j + 1, by omega, by go_num, Lib.hid (by rw [he.out, HS'.out]; rfl), HX2.out⟩
        case measure => simp [intOf]; omega
    · obtain rfl : j = ps.length := by omega
      have HX := Lib.hid hx
      clear hx
      go_wp2_with fail
      go_ret
      exact ⟨ret_int (by rw [he.out, List.drop_eq_nil_of_le (Nat.le_refl _)]; rfl), HX.out⟩
theorem hasPrds (F : Nat) (lb : Array Value) (f : Prd → Bool) (A : Option Addr) (c : Nat) (ps : List Prd) (w : World) (hP : Prds w A ps) (hl : ps.length ≤ 9223372036854775000) (eg : Enters Tryz.prog F)
    (hf : ∀ (wr : World) (p : Prd), Ext w wr → p ∈ ps → Calls Tryz.prog F (#[prdV p] ++ lb) wr fun e w' => e = .returned (.bool (f p)) ∧ Ext wr w') :
    Calls Tryz.prog 114 #[.slice A ps.length c, .func (.func F) #[] lb] w fun e w' => e = .returned (.bool (ps.any f)) ∧ Ext w w' := by
  have CF := Lib.hid (idxPrds F lb f A c ps w hP (by omega) eg hf)
  have HB := firstF_bd f ps 0
  have HA := Lib.hid (firstF_any f ps 0)
  clear hP hf eg
  go_enter Tryz.func114, Tryz.ntmps114
  go_wp2_with fail
  refine CF.out.mono ?_
  rintro e w2 ⟨rfl, hx2⟩
  have HX2 := Lib.hid hx2
  clear hx2
  go_wp2_with fail
  go_ret
  exact ⟨ret_bool HA.out, HX2.out⟩
end Go.Proofs.YthpmncdfaggkiaaGreat
/- The contract of gram.Check. -/
namespace Go.Proofs.YthpmncdfaggkiaaGreat
open Go.RowKit
attribute [local go_sem] more_drew more_drewN more_size more_cell more_frozen more_setCell drew_more drewN_more lt_add_r lt_add_r2 lt_add_r3 lt_add_r4 lt_add_r5 lt_add_r6 lt_add_r7 lt_add_r8 lt_add_r9 lt_add_r10 lt_self_r lt_self_r2
theorem anyT_next {α : Type} {l : List α} {k : Nat} {s : α} (f : α → Bool) (h : l[k]? = some s) : (l.take (k + 1)).any f = ((l.take k).any f || f s) := by
  rw [List.take_add_one, h, List.any_append]
  simp
theorem any_hit {α : Type} {l : List α} {k : Nat} {s : α} {f : α → Bool} (h : l[k]? = some s) (hf : f s = true) : l.any f = true := by
  rw [List.any_eq_true]
  exact ⟨s, List.mem_of_getElem? h, hf⟩
theorem long1 (p : Prd) (w : World) : Calls Tryz.prog 115 #[prdV p] w fun e w' => e = .returned (.bool (longP p)) ∧ Ext w w' := by
  have HL : Hid (decide ((8 : Int) < (p.right.length : Int)) = longP p) := Lib.hid (by unfold longP; rw [decide_eq_decide]; omega)
  obtain ⟨left, rA, rc, right⟩ := p
  unfold prdV
  dsimp only at *
  go_enter Tryz.func115, Tryz.ntmps115
  go_wp2_with fail
  go_ret
  exact ⟨ret_bool HL.out, (by repeat (first | exact Ext.refl _ | refine Ext.alloc ?_ _ | refine Ext.more ?_ _ _ | refine Ext.drew ?_ | refine Ext.drewN ?_ _ | refine Ext.setCell ?_ (by simp <;> omega) _))⟩
/-- a grammar's cells -/
structure GrAtT (w : World) (b : Nat) (g : Gr) : Prop where
  c0 : w.cell? ⟨b, 0, none⟩ = some (.int .i64 g.terms)
  c1 : w.cell? ⟨b, 1, none⟩ = some (.int .i64 g.nons)
  c2 : w.cell? ⟨b, 2, none⟩ = some (.int .i64 g.k)
  c3 : w.cell? ⟨b, 3, none⟩ = some (.slice g.pA g.prods.length g.pc)
  lt : b < w.heap.size
theorem GrAtT.of {w : World} {b : Nat} {g : Gr} (h : w.heap[b]? = some (.cells #[.int .i64 g.terms, .int .i64 g.nons, .int .i64 g.k, .slice g.pA g.prods.length g.pc] 46)) : GrAtT w b g := by
  have c0 := cell_of_row _ _ 0 _ _ _ h
  have c1 := cell_of_row _ _ 1 _ _ _ h
  have c2 := cell_of_row _ _ 2 _ _ _ h
  have c3 := cell_of_row _ _ 3 _ _ _ h
  simp at c0 c1 c2 c3
  exact ⟨c0, c1, c2, c3, lt_of_heap h⟩
theorem GrAtT.ext {w w' : World} {b : Nat} {g : Gr} (h : GrAtT w b g) (e : Ext w w') : GrAtT w' b g := by
  have hb := e.below.block b h.lt
  exact ⟨(World.cell?_of_block hb).trans h.c0, (World.cell?_of_block hb).trans h.c1, (World.cell?_of_block hb).trans h.c2, (World.cell?_of_block hb).trans h.c3, Nat.lt_of_lt_of_le h.lt e.size⟩
theorem bad1 (g : Gr) (b : Nat) (s : Int) (w : World) (h : GrAtT w b g) (ht : 1 ≤ g.terms ∧ g.terms ≤ 8) (hn : 1 ≤ g.nons ∧ g.nons ≤ 16) :
    Calls Tryz.prog 117 #[.int .i64 s, .pointer (some ⟨b, 0, none⟩)] w fun e w' => e = .returned (.bool (badS g s)) ∧ Ext w w' := by
  obtain ⟨c0, c1, _, _, hl⟩ := h
  have w1 : wrap64 (g.terms + g.nons) = g.terms + g.nons := IntWalk.wrap64_in _ (by omega)
  have HB : Hid (badS g s = (decide (s < 0) || decide (g.terms + g.nons ≤ s))) := Lib.hid rfl
  by_cases h0 : s < 0
  · have q0 : decide (s < 0) = true := decide_eq_true h0
    go_enter Tryz.func117, Tryz.ntmps117
    go_wp2_with fail
    go_ret
    exact ⟨ret_bool (by rw [HB.out, q0]; rfl), (by repeat (first | exact Ext.refl _ | refine Ext.alloc ?_ _ | refine Ext.more ?_ _ _ | refine Ext.drew ?_ | refine Ext.drewN ?_ _ | refine Ext.setCell ?_ (by simp <;> omega) _))⟩
  · have q0 : decide (s < 0) = false := decide_eq_false h0
    go_enter Tryz.func117, Tryz.ntmps117
    go_wp2_with fail
    go_ret
    exact ⟨ret_bool (by rw [HB.out, q0]; rfl), (by repeat (first | exact Ext.refl _ | refine Ext.alloc ?_ _ | refine Ext.more ?_ _ _ | refine Ext.drew ?_ | refine Ext.drewN ?_ _ | refine Ext.setCell ?_ (by simp <;> omega) _))⟩
theorem min4_run (a b c d : Int) : ∃ m : Int, (∀ (ts : Array TypeId) (t : TypeId) (w : World), (Builtin.min_ ts t #[.int .i64 a, .int .i64 b, .int .i64 c, .int .i64 d]).run Tryz.prog w = .ok (.int .i64 m) w) ∧ (m < 1 ↔ (a < 1 ∨ b < 1 ∨ c < 1 ∨ d < 1)) := by
  refine ⟨if d < (if c < (if b < a then b else a) then c else if b < a then b else a) then d else if c < (if b < a then b else a) then c else if b < a then b else a, fun ts t w => by simp [Builtin.min_, Builtin.min2], ?_⟩
  repeat (first | omega | split)
set_option maxRecDepth 100000 in
set_option maxHeartbeats 2000000 in
theorem gram_any (g : Gr) (w : World) (h : GrOk w g) : Calls Tryz.prog 68 #[grV g] w fun e w' => e = .returned (.int .i64 (gramF g)) ∧ Ext w w' := by
  have H := Lib.hid h
  have HG : Hid (gramF g = if GrBig g then 3 else if g.prods.any longP then 3 else if GrFew g then 2 else if g.prods.any (badP g) then 2 else 0) := Lib.hid rfl
  have hpl : g.prods.length ≤ 9223372036854775000 ∨ 64 < g.prods.length := by omega
  unfold grV
  clear h
  by_cases c1 : 8 < g.terms
  · have q1 : decide (8 < g.terms) = true := decide_eq_true c1
    have HR : Hid (gramF g = 3) := Lib.hid (by rw [HG.out, if_pos (.inl c1)])
    go_enter Tryz.func68, Tryz.ntmps68
    go_wp2_with fail
    go_ret
    exact ⟨ret_int HR.out.symm, (by repeat (first | exact Ext.refl _ | refine Ext.alloc ?_ _ | refine Ext.more ?_ _ _ | refine Ext.drew ?_ | refine Ext.drewN ?_ _ | refine Ext.setCell ?_ (by simp <;> omega) _))⟩
  have q1 : decide (8 < g.terms) = false := decide_eq_false c1
  by_cases c2 : 16 < g.nons
  · have q2 : decide (16 < g.nons) = true := decide_eq_true c2
    have HR : Hid (gramF g = 3) := Lib.hid (by rw [HG.out, if_pos (.inr (.inl c2))])
    go_enter Tryz.func68, Tryz.ntmps68
    go_wp2_with fail
    go_ret
    exact ⟨ret_int HR.out.symm, (by repeat (first | exact Ext.refl _ | refine Ext.alloc ?_ _ | refine Ext.more ?_ _ _ | refine Ext.drew ?_ | refine Ext.drewN ?_ _ | refine Ext.setCell ?_ (by simp <;> omega) _))⟩
  have q2 : decide (16 < g.nons) = false := decide_eq_false c2
  by_cases c3 : 3 < g.k
  · have q3 : decide (3 < g.k) = true := decide_eq_true c3
    have HR : Hid (gramF g = 3) := Lib.hid (by rw [HG.out, if_pos (.inr (.inr (.inl c3)))])
    go_enter Tryz.func68, Tryz.ntmps68
    go_wp2_with fail
    go_ret
    exact ⟨ret_int HR.out.symm, (by repeat (first | exact Ext.refl _ | refine Ext.alloc ?_ _ | refine Ext.more ?_ _ _ | refine Ext.drew ?_ | refine Ext.drewN ?_ _ | refine Ext.setCell ?_ (by simp <;> omega) _))⟩
  have q3 : decide (3 < g.k) = false := decide_eq_false c3
  by_cases c4 : 64 < g.prods.length
  · have q4 : decide ((64 : Int) < (g.prods.length : Int)) = true := decide_eq_true (by omega)
    have HR : Hid (gramF g = 3) := Lib.hid (by rw [HG.out, if_pos (.inr (.inr (.inr c4)))])
    go_enter Tryz.func68, Tryz.ntmps68
    go_wp2_with fail
    go_ret
    exact ⟨ret_int HR.out.symm, (by repeat (first | exact Ext.refl _ | refine Ext.alloc ?_ _ | refine Ext.more ?_ _ _ | refine Ext.drew ?_ | refine Ext.drewN ?_ _ | refine Ext.setCell ?_ (by simp <;> omega) _))⟩
  have q4 : decide ((64 : Int) < (g.prods.length : Int)) = false := decide_eq_false (by omega)
  have HB : Hid (¬ GrBig g) := Lib.hid (by unfold GrBig; omega)
  have CL := Lib.hid (fun w1 (x : Ext w w1) => hasPrds 115 #[] longP g.pA g.pc g.prods w1 (H.out.ext x).prods (by omega) (enters_of Tryz.func115 (by kernel_rfl) rfl) (fun w2 p _ _ => long1 p w2))
  obtain ⟨lb, hlb⟩ : ∃ lb, g.prods.any longP = lb := ⟨_, rfl⟩
  have HLP : Hid (lb = false → ∀ p ∈ g.prods, p.right.length ≤ 8) := Lib.hid (fun h p hp => by
    rw [h, List.any_eq_false] at hlb
    have := hlb p hp
    unfold longP at this
    simp at this
    exact this)
  rw [hlb] at CL HG
  have T1 : Hid (g.terms ≤ 8) := Lib.hid (by omega)
  have N1 : Hid (g.nons ≤ 16) := Lib.hid (by omega)
  clear c1 c2 c3 hlb hpl
  obtain ⟨b1, hb1⟩ : ∃ b1, w.heap.size = b1 := ⟨_, rfl⟩
  obtain ⟨W1, hW1⟩ : ∃ W1, w.alloc (.cells #[.int .i64 g.terms, .int .i64 g.nons, .int .i64 g.k, .slice g.pA g.prods.length g.pc] 46) = W1 := ⟨_, rfl⟩
  have X1 : Hid (Ext w W1) := Lib.hid (by rw [← hW1]; exact (by repeat (first | exact Ext.refl _ | refine Ext.alloc ?_ _ | refine Ext.more ?_ _ _ | refine Ext.drew ?_ | refine Ext.drewN ?_ _ | refine Ext.setCell ?_ (by simp <;> omega) _)))
  have GA : Hid (GrAtT W1 b1 g) := Lib.hid (GrAtT.of (by rw [← hW1, ← hb1]; exact heap_alloc_new _ _))
  go_enter Tryz.func68, Tryz.ntmps68
  go_upto_region 1 with fail
  skip
  clear hW1 hb1
  obtain ⟨e0, e1, e2, e3, el⟩ := GA.out
  go_wp2_with fail
  refine (CL.out _ X1.out).mono ?_
  rintro e w1 ⟨rfl, hx⟩
  have HX := Lib.hid hx
  obtain ⟨e0, e1, e2, e3, el⟩ := GA.out.ext hx
  clear hx
  cases lb with
  | true =>
    go_wp2_with fail
    go_ret
    exact ⟨ret_int (by rw [HG.out, if_neg HB.out]; rfl), X1.out.trans HX.out⟩
  | false =>
    obtain ⟨mn, hrun, hmn⟩ := min4_run g.terms g.nons g.k (g.prods.length : Int)
    have HG2 : Hid (gramF g = if GrFew g then 2 else if g.prods.any (badP g) then 2 else 0) := Lib.hid (by rw [HG.out, if_neg HB.out]; simp)
    by_cases hf : mn < 1
    · have q5 : decide (mn < 1) = true := decide_eq_true hf
      have HR : Hid (gramF g = 2) := Lib.hid (by rw [HG2.out, if_pos (by unfold GrFew; have := hmn.1 hf; omega)])
      clear hmn hf
      go_wp2_with fail
      go_ret
      exact ⟨ret_int HR.out.symm, X1.out.trans HX.out⟩
    · have q5 : decide (mn < 1) = false := decide_eq_false hf
      have hff : ¬ GrFew g := by unfold GrFew; have := fun h => hf (hmn.2 h); omega
      have HFW := Lib.hid hff
      have HG3 : Hid (gramF g = if g.prods.any (badP g) then 2 else 0) := Lib.hid (by rw [HG2.out, if_neg hff])
      unfold GrFew at hff
      have HT : Hid (1 ≤ g.terms ∧ g.terms ≤ 8) := Lib.hid ⟨by omega, T1.out⟩
      have HN : Hid (1 ≤ g.nons ∧ g.nons ≤ 16) := Lib.hid ⟨by omega, N1.out⟩
      clear hmn hf hff
      go_wp2_with fail
      clear e0 e1 e2 e3 el
      go_loopw [41] (fun s wi => ∃ i : Nat, i ≤ g.prods.length ∧ s = .int .i64 i ∧ Hid ((g.prods.take i).any (badP g) = false) ∧ Hid (Ext W1 wi)) (fun s _ => g.prods.length - (intOf s).toNat)
      case atStart => exact ⟨0, by omega, rfl, Lib.hid rfl, Lib.hid (HX.out.trans (by repeat (first | exact Ext.refl _ | refine Ext.alloc ?_ _ | refine Ext.more ?_ _ _ | refine Ext.drew ?_ | refine Ext.drewN ?_ _ | refine Ext.setCell ?_ (by simp <;> omega) _)))⟩
      case round =>
        clear HX
        obtain ⟨i, hi, rfl, hno, hx⟩ := hrel
        have HX := Lib.hid hx.out
        obtain ⟨e0, e1, e2, e3, el⟩ := GA.out.ext hx.out
        by_cases hlt : i < g.prods.length
        · obtain ⟨p, hp⟩ : ∃ p, g.prods[i]? = some p := ⟨_, List.getElem?_eq_getElem hlt⟩
          obtain ⟨b, off, hA, hb, hcell⟩ := (H.out.ext (X1.out.trans hx.out)).prods (by omega)
          obtain ⟨d0, d1⟩ := hcell i p hp
          rw [hA] at e3 ⊢
          have HP := Lib.hid hp
          have HPO := Lib.hid ((H.out.ext (X1.out.trans hx.out)).oks p (List.mem_of_getElem? hp))
          clear hcell hp hx
          by_cases l1 : p.left < 0
          · have q6 : decide (p.left < 0) = true := decide_eq_true l1
            have HR : Hid (gramF g = 2) := Lib.hid (by rw [HG3.out, if_pos (any_hit HP.out (by unfold badP; rw [q6]; rfl))])
            go_wp2_with fail
            go_ret
            exact ⟨ret_int HR.out.symm, (X1.out.trans HX.out).trans (by repeat (first | exact Ext.refl _ | refine Ext.alloc ?_ _ | refine Ext.more ?_ _ _ | refine Ext.drew ?_ | refine Ext.drewN ?_ _ | refine Ext.setCell ?_ (by simp <;> omega) _))⟩
          have q6 : decide (p.left < 0) = false := decide_eq_false l1
          by_cases l2 : g.nons ≤ p.left
          · have q7 : decide (g.nons ≤ p.left) = true := decide_eq_true l2
            have HR : Hid (gramF g = 2) := Lib.hid (by rw [HG3.out, if_pos (any_hit HP.out (by unfold badP; rw [q6, q7]; rfl))])
            go_wp2_with fail
            go_ret
            exact ⟨ret_int HR.out.symm, (X1.out.trans HX.out).trans (by repeat (first | exact Ext.refl _ | refine Ext.alloc ?_ _ | refine Ext.more ?_ _ _ | refine Ext.drew ?_ | refine Ext.drewN ?_ _ | refine Ext.setCell ?_ (by simp <;> omega) _))⟩
          have q7 : decide (g.nons ≤ p.left) = false := decide_eq_false l2
          have HBP : Hid (badP g p = p.right.any (badS g)) := Lib.hid (by unfold badP; rw [q6, q7]; rfl)
          have hcap : p.right.length ≤ 9223372036854775000 ∨ 9223372036854775000 < p.right.length := by omega
          have CB := Lib.hid (fun w2 (x : Ext wr w2) => hasInts 117 #[.pointer (some ⟨b1, 0, none⟩)] (badS g) p.rA p.rc p.right w2 (HPO.out.right.ext x) (by have := HLP.out (by trivial) p (List.mem_of_getElem? HP.out); omega) (enters_of Tryz.func117 (by kernel_rfl) rfl)
            (fun w3 s hx3 _ => bad1 g b1 s w3 ((GA.out.ext (HX.out.trans x)).ext hx3) HT.out HN.out))
          obtain ⟨bb, hbb⟩ : ∃ bb, p.right.any (badS g) = bb := ⟨_, rfl⟩
          rw [hbb] at CB HBP
          clear l1 l2 hbb hcap
          go_wp2_with fail
          refine (CB.out _ (by repeat (first | exact Ext.refl _ | refine Ext.alloc ?_ _ | refine Ext.more ?_ _ _ | refine Ext.drew ?_ | refine Ext.drewN ?_ _ | refine Ext.setCell ?_ (by simp <;> omega) _))).mono ?_
          rintro e w4 ⟨rfl, os4, k4, rfl⟩
          cases bb with
          | true =>
            have HR : Hid (gramF g = 2) := Lib.hid (by rw [HG3.out, if_pos (any_hit HP.out HBP.out)])
            go_wp2_with fail
            go_ret
            exact ⟨ret_int HR.out.symm, (X1.out.trans HX.out).trans (by repeat (first | exact Ext.refl _ | refine Ext.alloc ?_ _ | refine Ext.more ?_ _ _ | refine Ext.drew ?_ | refine Ext.drewN ?_ _ | refine Ext.setCell ?_ (by simp <;> omega) _))⟩
          | false =>
            have HNX : Hid ((g.prods.take (i + 1)).any (badP g) = false) := Lib.hid (by rw [anyT_next (badP g) HP.out, hno.out, HBP.out]; rfl)
            go_wp2_with fail
            go_roundw
            case rel => exact ⟨i + 1, by omega, by go_num, HNX, Lib.hid (HX.out.trans (by repeat (first | exact Ext.refl _ | refine Ext.alloc ?_ _ | refine Ext.more ?_ _ _ | refine Ext.drew ?_ | refine Ext.drewN ?_ _ | refine Ext.setCell ?_ (by simp <;> omega) _)))⟩
            case measure => simp [intOf]; omega
        · obtain rfl : i = g.prods.length := by omega
          have HR : Hid (gramF g = 0) := Lib.hid (by have h1 := hno.out; rw [List.take_length] at h1; rw [HG3.out, h1]; rfl)
          go_wp2_with fail
          go_ret
          exact ⟨ret_int HR.out.symm, (X1.out.trans HX.out).trans (by repeat (first | exact Ext.refl _ | refine Ext.alloc ?_ _ | refine Ext.more ?_ _ _ | refine Ext.drew ?_ | refine Ext.drewN ?_ _ | refine Ext.setCell ?_ (by simp <;> omega) _))⟩
end Go.Proofs.YthpmncdfaggkiaaGreat
/- L: 3 texts in one. -/
/- The row of a law, once for all: a law whose call returns true and leaves all memory that was there as it was. No function is named here. -/
namespace Go.Proofs.YthpmncdfaggkiaaGreat
open Go.ChangeShapes Go.WideShapes Go.ChangeAt Go.RowKit
theorem own : ownKnob Tryz.prog.godebug = none := by kernel_rfl
theorem laidOut : laidOutB Tryz.prog = true := by kernel_rfl
theorem trodAll_below {H : Type} {enc : TypeId × Value → H} {P : Program} (hl : laidOutB P = true) {W W' : World} (hb : Below W.heap.size W W') :
    ∀ {ts : List TypeId} {vs : List Value} {ds : List (DataW H)} {ps : List MemPlace}, (∀ t ∈ ts, P.readableRec t = true ∧ t < P.types.size) →
      DataW.TrodAll enc P W 0 (fun _ => true) true ts vs ds ps → (∀ x ∈ ps, x.block < W.heap.size) → DataW.TrodAll enc P W' 0 (fun b => decide (b < W.heap.size)) true ts vs ds ps
  | [], [], [], _, _, h, _ => h
  | t :: ts, v :: vs, d :: ds, ps, hr, h, hlt => by
    obtain ⟨p, q, h1, h2, rfl⟩ := h
    exact ⟨p, q, Below.trod hl (hr t (by simp)).1 (hr t (by simp)).2 h1 hb (fun x hx => hlt x (by simp [hx])),
      trodAll_below hl hb (fun u hu => hr u (by simp [hu])) h2 (fun x hx => hlt x (by simp [hx])), rfl⟩
  | [], [], _ :: _, _, _, h, _ => h.elim
  | [], _ :: _, [], _, _, h, _ => h.elim
  | [], _ :: _, _ :: _, _, _, h, _ => h.elim
  | _ :: _, [], [], _, _, h, _ => h.elim
  | _ :: _, [], _ :: _, _, _, h, _ => h.elim
  | _ :: _, _ :: _, [], _, _, h, _ => h.elim
theorem trodAll_length {H : Type} {enc : TypeId × Value → H} {P : Program} {W : World} {b : Nat} {sp : Nat → Bool} {hd : Bool} :
    ∀ {ts : List TypeId} {vs : List Value} {ds : List (DataW H)} {ps : List MemPlace}, DataW.TrodAll enc P W b sp hd ts vs ds ps → ds.length = ts.length ∧ vs.length = ts.length
  | [], [], [], _, _ => ⟨rfl, rfl⟩
  | t :: ts, v :: vs, d :: ds, ps, h => by
    obtain ⟨p, q, h1, h2, rfl⟩ := h
    have := trodAll_length h2
    simp [this.1, this.2]
  | [], [], _ :: _, _, h => h.elim
  | [], _ :: _, [], _, h => h.elim
  | [], _ :: _, _ :: _, _, h => h.elim
  | _ :: _, [], [], _, h => h.elim
  | _ :: _, [], _ :: _, _, h => h.elim
  | _ :: _, _ :: _, [], _, h => h.elim
set_option maxRecDepth 100000 in
/-- A LAW's STEP: the walk gives 'true' and 'below the old heap all is as it was'. -/
theorem law_lifted {os : Os} (started : os.Started) {H : Type} {enc : TypeId × Value → H} {f : FuncId} {fn : Func} {s : ChangeSpec} {conds : List PathCond}
    (noInit : Tryz.checked.prog.inits.idxOf? f = none) (hfn : Tryz.checked.prog.funcs[f]? = some fn)
    (witness : ∃ (w : World) (tape : Tape) (i : Input), w.os = os ∧ (w.forCall tape i).Shaped Tryz.checked.prog ∧ i.vars = [] ∧ Input.okWide Tryz.checked.prog (w.forCall tape i) .any w.heap.size f i ∧
      s.pre6 enc Tryz.checked.prog fn conds false (w.forCall tape i).memory i.args ∧ Assume.holds {} Tryz.checked.prog (lone (Frame.enter Tryz.checked.prog f i.args .normal) [] (w.forCall tape i)))
    (hvars : s.vars = [])
    (hres : fn.resultTypes = #[4]) (hu : Tryz.prog.underlying 4 = some .bool)
    (hread : ∀ t ∈ fn.params.toList, Tryz.prog.readableRec t = true ∧ t < Tryz.prog.types.size)
    (hspec : ∀ ds : List (DataW H), ds.length = fn.params.toList.length → s.fn H ds = { results := [.lit (.bool true)], args := ds })
    (walk : ∀ (W : World) (base : Nat) (args : Array Value) (ds : List (DataW H)) (ps : List MemPlace),
      (∀ (j : Nat) t v, fn.params.toList[j]? = some t → args.toList[j]? = some v → Value.okWide Tryz.prog W .any base t v) →
      DataW.TrodAll enc Tryz.prog W 0 (fun _ => true) true fn.params.toList args.toList ds ps →
      (DataW.weightsEach Tryz.prog fn.params.toList ds).all (· ≤ reachBytes) = true →
      Calls Tryz.prog f args W fun e w' => e = .returned (.bool true) ∧ Below W.heap.size W w') :
    ReturnsInHanded {} Tryz.checked os f .any (s.pre6 enc Tryz.checked.prog fn conds false) (s.post enc Tryz.checked.prog fn false true false false) := by
  refine returnsInHanded_of_change_sized own started noInit hfn witness ?_
  intro W base args ds gs before hval hW _ hsz _
  have hW' := hW
  obtain ⟨p, q, hA, hV, hps, _, _⟩ := hW
  rw [hvars] at hV
  obtain ⟨rfl, rfl⟩ := trodVars_none hV
  rw [List.append_nil] at hps
  subst hps
  have hsz' : (DataW.weightsEach Tryz.prog fn.params.toList ds).all (· ≤ reachBytes) = true := by
    have hv : s.plain.varTypes Tryz.checked.prog = [] := by
      show (s.vars.filterMap _) = []
      rw [hvars]
      rfl
    rw [hv, List.append_nil, List.append_nil] at hsz
    exact hsz
  have hlen := trodAll_length hA
  refine (walk W base args ds before (fun j t v ht hv => hval j t v (by rw [← Array.getElem?_toList]; exact ht) (by rw [← Array.getElem?_toList]; exact hv)) hA hsz').mono fun e W' ⟨he, hb⟩ => ⟨_, he, ?_⟩
  have hsp := hspec ds hlen.1
  refine ⟨ds, [], before, [], before, [], hW', ?_, ?_, ?_, hb.frame _, fun h => by cases h⟩
  · rw [List.append_nil, hsp, hres]
    exact trodAll_cons_mk (shut_bool hu _) trodAll_mk0
  · rw [List.append_nil, hsp]
    exact trodAll_below laidOut hb hread hA (fun x hx => by simpa using hW'.lt x hx)
  · rw [List.append_nil, hsp, hvars]
    rfl
end Go.Proofs.YthpmncdfaggkiaaGreat
/- Arguments that are numbers, slices of numbers: opened. -/
namespace Go.Proofs.YthpmncdfaggkiaaGreat
open Go.ChangeShapes Go.WideShapes Go.ChangeAt Go.RowKit Go.Joins Go.Deep
section
variable {H : Type} {enc : TypeId × Value → H} {P : Program} {w : World} {base : Nat} {spare : Nat → Bool} {held : Bool}
end
section
variable {H : Type} {enc : TypeId × Value → H} {W : World} {b0 : Nat} {v : Value} {d : DataW H} {p : List MemPlace}
end
end Go.Proofs.YthpmncdfaggkiaaGreat
/- Arguments that are slices of styles: opened. -/
namespace Go.Proofs.YthpmncdfaggkiaaGreat
open Go.ChangeShapes Go.WideShapes Go.ChangeAt Go.RowKit Go.Joins Go.Deep
structure StyB (s : Sty) : Prop where
  kind : I64 s.kind
  st : I64 s.st
  prio : I64 s.prio
  path : ∀ x ∈ s.path, I64 x
  cap : s.path.length ≤ s.pc
  top : s.pc ≤ 9223372036854775807
  none : s.pA = .none → s.pc = 0
section
variable {H : Type} {enc : TypeId × Value → H} {W : World} {b0 : Nat} {v : Value} {d : DataW H} {p : List MemPlace}
end
end Go.Proofs.YthpmncdfaggkiaaGreat
/- The contracts of styles.may, styles.Check. -/
namespace Go.Proofs.YthpmncdfaggkiaaGreat
open Go.RowKit
attribute [local go_sem] more_drew more_drewN more_size more_cell more_frozen more_setCell drew_more drewN_more lt_add_r lt_add_r2 lt_add_r3 lt_add_r4 lt_add_r5 lt_add_r6 lt_add_r7 lt_add_r8 lt_add_r9 lt_add_r10 lt_self_r lt_self_r2
theorem gram_ok {g : Gr} (h : gramF g = 0) : (1 ≤ g.terms ∧ g.terms ≤ 8) ∧ (1 ≤ g.nons ∧ g.nons ≤ 16) := by
  unfold gramF at h
  by_cases h1 : GrBig g
  · rw [if_pos h1] at h; cases h
  · rw [if_neg h1] at h
    by_cases h2 : g.prods.any longP = true
    · rw [if_pos h2] at h; cases h
    · rw [if_neg h2] at h
      by_cases h3 : GrFew g
      · rw [if_pos h3] at h; cases h
      · unfold GrBig at h1
        unfold GrFew at h3
        omega
def styV (s : Sty) : Value := .agg #[.int .i64 s.kind, .slice s.pA s.path.length s.pc, .int .i64 s.st, .int .i64 s.prio]
/-- a symbol that no path has -/
def badX (g : Gr) (x : Int) : Bool := decide (x ≠ -3) && (decide (x < g.terms) || decide (g.terms + g.nons ≤ x))
def oddS (g : Gr) (s : Sty) : Bool := decide (s.kind < -1) || decide (g.terms ≤ s.kind) || decide (s.st < 1) || decide (s.prio < -1000) || decide (1000 < s.prio) || decide (8 < s.path.length)
def mayB (g : Gr) (s : Sty) : Bool := !oddS g s && !s.path.any (badX g)
/-- what is told of styles -/
def stylesF (g : Gr) (ss : List Sty) : Int := if gramF g ≠ 0 then gramF g else if 64 < ss.length then 3 else if ss.any (fun s => !mayB g s) then 2 else 0
set_option maxHeartbeats 1000000 in
theorem badX1 (g : Gr) (b : Nat) (x : Int) (w : World) (h : GrAtT w b g) (ht : 1 ≤ g.terms ∧ g.terms ≤ 8) (hn : 1 ≤ g.nons ∧ g.nons ≤ 16) :
    Calls Tryz.prog 118 #[.int .i64 x, .pointer (some ⟨b, 0, none⟩)] w fun e w' => e = .returned (.bool (badX g x)) ∧ Ext w w' := by
  obtain ⟨c0, c1, _, _, hl⟩ := h
  have w1 : wrap64 (g.terms + g.nons) = g.terms + g.nons := IntWalk.wrap64_in _ (by omega)
  have HB : Hid (badX g x = (decide (x ≠ -3) && (decide (x < g.terms) || decide (g.terms + g.nons ≤ x)))) := Lib.hid rfl
  by_cases h0 : x = -3
  · have q0 : (x != -3) = false := by simp [h0]
    have HR : Hid (badX g x = false) := Lib.hid (by rw [HB.out]; simp [h0])
    clear h0
    go_enter Tryz.func118, Tryz.ntmps118
    go_wp2_with fail
    go_ret
    exact ⟨ret_bool HR.out.symm, (by repeat (first | exact Ext.refl _ | refine Ext.alloc ?_ _ | refine Ext.more ?_ _ _ | refine Ext.drew ?_ | refine Ext.drewN ?_ _ | refine Ext.setCell ?_ (by simp <;> omega) _))⟩
  · have q0 : (x != -3) = true := by simp [h0]
    have q9 : decide (x ≠ -3) = true := by simp [h0]
    clear h0
    by_cases h1 : x < g.terms
    · have q1 : decide (x < g.terms) = true := decide_eq_true h1
      have HR : Hid (badX g x = true) := Lib.hid (by rw [HB.out, q9, q1]; rfl)
      clear q9
      go_enter Tryz.func118, Tryz.ntmps118
      go_wp2_with fail
      go_ret
      exact ⟨ret_bool HR.out.symm, (by repeat (first | exact Ext.refl _ | refine Ext.alloc ?_ _ | refine Ext.more ?_ _ _ | refine Ext.drew ?_ | refine Ext.drewN ?_ _ | refine Ext.setCell ?_ (by simp <;> omega) _))⟩
    · have q1 : decide (x < g.terms) = false := decide_eq_false h1
      have HR : Hid (badX g x = decide (g.terms + g.nons ≤ x)) := Lib.hid (by rw [HB.out, q9, q1]; rfl)
      clear q9
      go_enter Tryz.func118, Tryz.ntmps118
      go_wp2_with fail
      go_ret
      exact ⟨ret_bool HR.out.symm, (by repeat (first | exact Ext.refl _ | refine Ext.alloc ?_ _ | refine Ext.more ?_ _ _ | refine Ext.drew ?_ | refine Ext.drewN ?_ _ | refine Ext.setCell ?_ (by simp <;> omega) _))⟩
theorem prio_abs (pr : Int) (hp : I64 pr) : ∃ np mx : Int, wrap64 (-pr) = np ∧ IntKind.i64.wrap (-pr) = np ∧ (if pr < np then np else pr) = mx ∧ (1000 < mx → pr < -1000 ∨ 1000 < pr) ∧ (¬ 1000 < mx → pr ≤ 1000) := by
  unfold I64 at hp
  by_cases h : pr = -9223372036854775808
  · subst h
    exact ⟨-9223372036854775808, -9223372036854775808, by unfold wrap64; decide, by rw [IntKind.wrap_i64]; decide, by decide, by omega, by omega⟩
  · refine ⟨-pr, if pr < -pr then -pr else pr, IntWalk.wrap64_in _ (by omega), IntWalk.i64_in _ (by omega), rfl, ?_, ?_⟩
    · split <;> omega
    · split <;> omega
set_option maxRecDepth 100000 in
set_option maxHeartbeats 4000000 in
theorem may_any (g : Gr) (s : Sty) (w : World) (hs : styOk w s) (hp : I64 s.prio) (hcap : s.path.length ≤ 9223372036854775000 ∨ 8 < s.path.length) (ht : 1 ≤ g.terms ∧ g.terms ≤ 8) (hn : 1 ≤ g.nons ∧ g.nons ≤ 16) :
    Calls Tryz.prog 69 #[styV s, grV g] w fun e w' => e = .returned (.bool (mayB g s)) ∧ Ext w w' := by
  have HM : Hid (mayB g s = (!oddS g s && !s.path.any (badX g))) := Lib.hid rfl
  have HOD : Hid (oddS g s = (decide (s.kind < -1) || decide (g.terms ≤ s.kind) || decide (s.st < 1) || decide (s.prio < -1000) || decide (1000 < s.prio) || decide (8 < s.path.length))) := Lib.hid rfl
  obtain ⟨np, mx, m1, m2, m3, m4, m5⟩ := prio_abs s.prio hp
  have M4 := Lib.hid m4
  have M5 := Lib.hid m5
  have HPI := Lib.hid hs.1
  have HTT := Lib.hid ht
  have HNN := Lib.hid hn
  have h63 := hs.2
  have hrun : ∀ (ts : Array TypeId) (t : TypeId) (v : World), (Builtin.max_ ts t #[.int .i64 s.prio, .int .i64 np]).run Tryz.prog v = .ok (.int .i64 mx) v := fun ts t v => by
    have := run_max_int2 (P := Tryz.prog) (w := v) ts t .i64 .i64 s.prio np
    rw [this, ← m3]
  unfold styV grV
  clear m3 m4 m5 hs ht hn hp
  by_cases k1 : s.kind < -1
  · have q1 : decide (s.kind < -1) = true := decide_eq_true k1
    have HR : Hid (mayB g s = false) := Lib.hid (by rw [HM.out, HOD.out, q1]; rfl)
    go_enter Tryz.func69, Tryz.ntmps69
    go_wp2_with fail
    go_ret
    exact ⟨ret_bool HR.out.symm, (by repeat (first | exact Ext.refl _ | refine Ext.alloc ?_ _ | refine Ext.more ?_ _ _ | refine Ext.drew ?_ | refine Ext.drewN ?_ _ | refine Ext.setCell ?_ (by simp <;> omega) _))⟩
  have q1 : decide (s.kind < -1) = false := decide_eq_false k1
  by_cases k2 : g.terms ≤ s.kind
  · have q2 : decide (g.terms ≤ s.kind) = true := decide_eq_true k2
    have HR : Hid (mayB g s = false) := Lib.hid (by rw [HM.out, HOD.out, q1, q2]; rfl)
    go_enter Tryz.func69, Tryz.ntmps69
    go_wp2_with fail
    go_ret
    exact ⟨ret_bool HR.out.symm, (by repeat (first | exact Ext.refl _ | refine Ext.alloc ?_ _ | refine Ext.more ?_ _ _ | refine Ext.drew ?_ | refine Ext.drewN ?_ _ | refine Ext.setCell ?_ (by simp <;> omega) _))⟩
  have q2 : decide (g.terms ≤ s.kind) = false := decide_eq_false k2
  by_cases k3 : s.st < 1
  · have q3 : decide (s.st < 1) = true := decide_eq_true k3
    have HR : Hid (mayB g s = false) := Lib.hid (by rw [HM.out, HOD.out, q1, q2, q3]; rfl)
    go_enter Tryz.func69, Tryz.ntmps69
    go_wp2_with fail
    go_ret
    exact ⟨ret_bool HR.out.symm, (by repeat (first | exact Ext.refl _ | refine Ext.alloc ?_ _ | refine Ext.more ?_ _ _ | refine Ext.drew ?_ | refine Ext.drewN ?_ _ | refine Ext.setCell ?_ (by simp <;> omega) _))⟩
  have q3 : decide (s.st < 1) = false := decide_eq_false k3
  by_cases k4 : 1000 < mx
  · have q4 : decide (1000 < mx) = true := decide_eq_true k4
    have HR : Hid (mayB g s = false) := Lib.hid (by
      rw [HM.out, HOD.out]
      rcases M4.out k4 with h | h <;> simp [h])
    go_enter Tryz.func69, Tryz.ntmps69
    go_wp2_with fail
    go_ret
    exact ⟨ret_bool HR.out.symm, (by repeat (first | exact Ext.refl _ | refine Ext.alloc ?_ _ | refine Ext.more ?_ _ _ | refine Ext.drew ?_ | refine Ext.drewN ?_ _ | refine Ext.setCell ?_ (by simp <;> omega) _))⟩
  have q4 : decide (1000 < mx) = false := decide_eq_false k4
  by_cases k5 : s.prio < -1000
  · have q5 : decide (s.prio < -1000) = true := decide_eq_true k5
    have HR : Hid (mayB g s = false) := Lib.hid (by rw [HM.out, HOD.out, q5]; simp)
    go_enter Tryz.func69, Tryz.ntmps69
    go_wp2_with fail
    go_ret
    exact ⟨ret_bool HR.out.symm, (by repeat (first | exact Ext.refl _ | refine Ext.alloc ?_ _ | refine Ext.more ?_ _ _ | refine Ext.drew ?_ | refine Ext.drewN ?_ _ | refine Ext.setCell ?_ (by simp <;> omega) _))⟩
  have q5 : decide (s.prio < -1000) = false := decide_eq_false k5
  have HP1 : Hid (decide (1000 < s.prio) = false) := Lib.hid (decide_eq_false (by have := M5.out k4; omega))
  by_cases k6 : 8 < s.path.length
  · have q6 : decide ((8 : Int) < (s.path.length : Int)) = true := decide_eq_true (by omega)
    have HR : Hid (mayB g s = false) := Lib.hid (by rw [HM.out, HOD.out, decide_eq_true k6]; simp)
    go_enter Tryz.func69, Tryz.ntmps69
    go_wp2_with fail
    go_ret
    exact ⟨ret_bool HR.out.symm, (by repeat (first | exact Ext.refl _ | refine Ext.alloc ?_ _ | refine Ext.more ?_ _ _ | refine Ext.drew ?_ | refine Ext.drewN ?_ _ | refine Ext.setCell ?_ (by simp <;> omega) _))⟩
  have q6 : decide ((8 : Int) < (s.path.length : Int)) = false := decide_eq_false (by omega)
  have HR : Hid (mayB g s = !s.path.any (badX g)) := Lib.hid (by rw [HM.out, HOD.out, q1, q2, q3, q5, HP1.out, decide_eq_false k6]; rfl)
  obtain ⟨bg, hbg⟩ : ∃ bg, w.heap.size + 1 = bg := ⟨_, rfl⟩
  obtain ⟨W2, hW2⟩ : ∃ W2, (w.alloc (.cells #[.int .i64 s.kind, .slice s.pA s.path.length s.pc, .int .i64 s.st, .int .i64 s.prio] 55)).alloc (.cells #[.int .i64 g.terms, .int .i64 g.nons, .int .i64 g.k, .slice g.pA g.prods.length g.pc] 46) = W2 := ⟨_, rfl⟩
  have X2 : Hid (Ext w W2) := Lib.hid (by rw [← hW2]; exact (by repeat (first | exact Ext.refl _ | refine Ext.alloc ?_ _ | refine Ext.more ?_ _ _ | refine Ext.drew ?_ | refine Ext.drewN ?_ _ | refine Ext.setCell ?_ (by simp <;> omega) _)))
  have GA : Hid (GrAtT W2 bg g) := Lib.hid (GrAtT.of (by
    have h := heap_alloc_new (w.alloc (.cells #[.int .i64 s.kind, .slice s.pA s.path.length s.pc, .int .i64 s.st, .int .i64 s.prio] 55)) (.cells #[.int .i64 g.terms, .int .i64 g.nons, .int .i64 g.k, .slice g.pA g.prods.length g.pc] 46)
    rw [World.size_alloc, hbg, hW2] at h
    exact h))
  have CB := Lib.hid (hasInts 118 #[.pointer (some ⟨bg, 0, none⟩)] (badX g) s.pA s.pc s.path W2 (HPI.out.ext X2.out) (by omega) (enters_of Tryz.func118 (by kernel_rfl) rfl)
    (fun w3 x hx3 _ => badX1 g bg x w3 (GA.out.ext hx3) HTT.out HNN.out))
  obtain ⟨bb, hbb⟩ : ∃ bb, s.path.any (badX g) = bb := ⟨_, rfl⟩
  rw [hbb] at CB HR
  rw [← hW2, ← hbg] at CB
  have HW2 := Lib.hid hW2
  clear hbb hW2 hbg k1 k2 k3 k4 k5 k6
  go_enter Tryz.func69, Tryz.ntmps69
  go_wp2_with fail
  refine CB.out.mono ?_
  rintro e w4 ⟨rfl, hx4⟩
  have HX4 := Lib.hid hx4
  clear hx4 CB
  go_wp2_with fail
  go_ret
  exact ⟨ret_bool HR.out.symm, (by have := X2.out; rw [← HW2.out] at this; exact this.trans HX4.out)⟩
end Go.Proofs.YthpmncdfaggkiaaGreat
/- The contracts of styles.Check, viewportref26.Check. -/
namespace Go.Proofs.YthpmncdfaggkiaaGreat
open Go.RowKit
attribute [local go_sem] more_drew more_drewN more_size more_cell more_frozen more_setCell drew_more drewN_more lt_add_r lt_add_r2 lt_add_r3 lt_add_r4 lt_add_r5 lt_add_r6 lt_add_r7 lt_add_r8 lt_add_r9 lt_add_r10 lt_self_r lt_self_r2
set_option maxRecDepth 100000 in
set_option maxHeartbeats 4000000 in
theorem scheck_any (B : Option Addr) (ss : List Sty) (cs : Nat) (g : Gr) (w : World) (hS : Styles w B ss) (hO : StylesOk w ss) (hB : ∀ s ∈ ss, StyB s) (hl : ss.length ≤ 70) (hG : GrOk w g) :
    Calls Tryz.prog 24 #[.slice B ss.length cs, grV g] w fun e w' => e = .returned (.int .i64 (stylesF g ss)) ∧ Ext w w' := by
  have HS := Lib.hid hS
  have HO := Lib.hid hO
  have HB := Lib.hid hB
  have HGR := Lib.hid hG
  have HF : Hid (stylesF g ss = if gramF g ≠ 0 then gramF g else if 64 < ss.length then 3 else if ss.any (fun s => !mayB g s) then 2 else 0) := Lib.hid rfl
  obtain ⟨b1, hb1⟩ : ∃ b1, w.heap.size = b1 := ⟨_, rfl⟩
  obtain ⟨W1, hW1⟩ : ∃ W1, w.alloc (.cells #[.int .i64 g.terms, .int .i64 g.nons, .int .i64 g.k, .slice g.pA g.prods.length g.pc] 46) = W1 := ⟨_, rfl⟩
  have X1 : Hid (Ext w W1) := Lib.hid (by rw [← hW1]; exact (by repeat (first | exact Ext.refl _ | refine Ext.alloc ?_ _ | refine Ext.more ?_ _ _ | refine Ext.drew ?_ | refine Ext.drewN ?_ _ | refine Ext.setCell ?_ (by simp <;> omega) _)))
  have GA : Hid (GrAtT W1 b1 g) := Lib.hid (GrAtT.of (by rw [← hW1, ← hb1]; exact heap_alloc_new _ _))
  have CG := Lib.hid (gram_any g W1 (hG.ext X1.out))
  unfold grV at CG ⊢
  clear hS hO hB hG
  go_enter Tryz.func24, Tryz.ntmps24
  go_upto_region 1 with fail
  clear hW1 hb1
  obtain ⟨e0, e1, e2, e3, el⟩ := GA.out
  go_wp2_with fail
  refine CG.out.mono ?_
  rintro e w1 ⟨rfl, hx⟩
  have HX := Lib.hid hx
  obtain ⟨e0, e1, e2, e3, el⟩ := GA.out.ext hx
  clear hx CG
  by_cases h0 : gramF g = 0
  · have HTN := Lib.hid (gram_ok h0)
    have HF2 : Hid (stylesF g ss = if 64 < ss.length then 3 else if ss.any (fun s => !mayB g s) then 2 else 0) := Lib.hid (by rw [HF.out, if_neg (by simp [h0])])
    rw [h0]
    clear h0
    by_cases h64 : 64 < ss.length
    · have q0 : decide ((64 : Int) < (ss.length : Int)) = true := decide_eq_true (by omega)
      have HR : Hid (stylesF g ss = 3) := Lib.hid (by rw [HF2.out, if_pos h64])
      clear h64
      go_wp2_with fail
      go_ret
      exact ⟨ret_int HR.out.symm, (X1.out.trans HX.out).trans (by repeat (first | exact Ext.refl _ | refine Ext.alloc ?_ _ | refine Ext.more ?_ _ _ | refine Ext.drew ?_ | refine Ext.drewN ?_ _ | refine Ext.setCell ?_ (by simp <;> omega) _))⟩
    · have q0 : decide ((64 : Int) < (ss.length : Int)) = false := decide_eq_false (by omega)
      have HF3 : Hid (stylesF g ss = if ss.any (fun s => !mayB g s) then 2 else 0) := Lib.hid (by rw [HF2.out, if_neg h64])
      clear h64
      go_wp2_with fail
      clear e0 e1 e2 e3 el
      go_loopw [18] (fun s wi => ∃ i : Nat, i ≤ ss.length ∧ s = .int .i64 i ∧ Hid ((ss.take i).any (fun s => !mayB g s) = false) ∧ Hid (Ext W1 wi)) (fun s _ => ss.length - (intOf s).toNat)
      case atStart => exact ⟨0, by omega, rfl, Lib.hid rfl, Lib.hid (HX.out.trans (by repeat (first | exact Ext.refl _ | refine Ext.alloc ?_ _ | refine Ext.more ?_ _ _ | refine Ext.drew ?_ | refine Ext.drewN ?_ _ | refine Ext.setCell ?_ (by simp <;> omega) _)))⟩
      case round =>
        clear HX
        obtain ⟨i, hi, rfl, hno, hx⟩ := hrel
        have HX := Lib.hid hx.out
        by_cases hlt : i < ss.length
        · obtain ⟨s, hs⟩ : ∃ s, ss[i]? = some s := ⟨_, List.getElem?_eq_getElem hlt⟩
          obtain ⟨b, off, rfl, hb, hcell⟩ := (HS.out.ext (X1.out.trans hx.out)) (by omega)
          obtain ⟨d0, d1, d2, d3⟩ := hcell i s hs
          obtain ⟨e0, e1, e2, e3, el⟩ := GA.out.ext hx.out
          have HSM := Lib.hid hs
          have HSB := Lib.hid (HB.out s (List.mem_of_getElem? hs))
          have HSO := Lib.hid ((HO.out.ext (X1.out.trans hx.out)) s (List.mem_of_getElem? hs))
          clear hcell hs hx
          have CM := Lib.hid (fun w2 (x : Ext wr w2) => may_any g s w2 ⟨HSO.out.1.ext x, HSO.out.2⟩ HSB.out.prio (by omega) HTN.out.1 HTN.out.2)
          unfold styV grV at CM
          obtain ⟨mb, hmb⟩ : ∃ mb, mayB g s = mb := ⟨_, rfl⟩
          rw [hmb] at CM
          have HMB := Lib.hid hmb
          clear hmb
          go_wp2_with fail
          refine (CM.out _ (by repeat (first | exact Ext.refl _ | refine Ext.alloc ?_ _ | refine Ext.more ?_ _ _ | refine Ext.drew ?_ | refine Ext.drewN ?_ _ | refine Ext.setCell ?_ (by simp <;> omega) _))).mono ?_
          rintro e w4 ⟨rfl, hx4⟩
          have HX4 := Lib.hid hx4
          clear hx4 CM e0 e1 e2 e3 el d0 d1 d2 d3
          cases mb with
          | true =>
            have HNX : Hid ((ss.take (i + 1)).any (fun s => !mayB g s) = false) := Lib.hid (by rw [anyT_next (fun s => !mayB g s) HSM.out, hno.out, HMB.out]; rfl)
            go_wp2_with fail
            go_roundw
            case rel => exact ⟨i + 1, by omega, by go_num, HNX, Lib.hid ((HX.out.trans (by repeat (first | exact Ext.refl _ | refine Ext.alloc ?_ _ | refine Ext.more ?_ _ _ | refine Ext.drew ?_ | refine Ext.drewN ?_ _ | refine Ext.setCell ?_ (by simp <;> omega) _))).trans HX4.out)⟩
            case measure => simp [intOf]; omega
          | false =>
            have HR : Hid (stylesF g ss = 2) := Lib.hid (by rw [HF3.out, if_pos (any_hit HSM.out (by rw [HMB.out]; rfl))])
            go_wp2_with fail
            go_ret
            exact ⟨ret_int HR.out.symm, (X1.out.trans (HX.out.trans (by repeat (first | exact Ext.refl _ | refine Ext.alloc ?_ _ | refine Ext.more ?_ _ _ | refine Ext.drew ?_ | refine Ext.drewN ?_ _ | refine Ext.setCell ?_ (by simp <;> omega) _)))).trans HX4.out⟩
        · obtain rfl : i = ss.length := by omega
          have HR : Hid (stylesF g ss = 0) := Lib.hid (by have h1 := hno.out; rw [List.take_length] at h1; rw [HF3.out, h1]; rfl)
          clear hx
          go_wp2_with fail
          go_ret
          exact ⟨ret_int HR.out.symm, (X1.out.trans HX.out).trans (by repeat (first | exact Ext.refl _ | refine Ext.alloc ?_ _ | refine Ext.more ?_ _ _ | refine Ext.drew ?_ | refine Ext.drewN ?_ _ | refine Ext.setCell ?_ (by simp <;> omega) _))⟩
  · have q0 : (gramF g != 0) = true := by simp [h0]
    have HR : Hid (stylesF g ss = gramF g) := Lib.hid (by rw [HF.out, if_pos h0])
    clear h0
    obtain ⟨gv, hgv⟩ : ∃ gv, gramF g = gv := ⟨_, rfl⟩
    rw [hgv] at q0 HR ⊢
    clear hgv
    go_wp2_with fail
    go_ret
    exact ⟨ret_int HR.out.symm, (X1.out.trans HX.out).trans (by repeat (first | exact Ext.refl _ | refine Ext.alloc ?_ _ | refine Ext.more ?_ _ _ | refine Ext.drew ?_ | refine Ext.drewN ?_ _ | refine Ext.setCell ?_ (by simp <;> omega) _))⟩
end Go.Proofs.YthpmncdfaggkiaaGreat
/- The tree of 'a 1' as the texts of trees and styles see it. -/
namespace Go.Proofs.YthpmncdfaggkiaaGreat
open Go.RowKit
def nd1 (p : Sh) : Nd := ⟨p.sym, p.kind, p.lo, p.inn, p.hi, p.look, p.ks, 0⟩
def toPrt (p : Pt) : Prt := ⟨nd1 p.nd, p.kA, p.kc⟩
theorem pv_toPrt (ps : List Pt) : pv (ps.map toPrt) = pw ps := by
  unfold pv pw
  rw [List.flatMap_map]
  rfl
theorem nds_toPrt (ps : List Pt) : nds (ps.map toPrt) = (shs ps).map nd1 := by simp [nds, shs, toPrt]
def I64s (t : Sh) : Prop := I64 t.sym ∧ I64 t.kind ∧ I64 t.lo ∧ I64 t.inn ∧ I64 t.hi ∧ I64 t.look ∧ ∀ k ∈ t.ks, I64 k
theorem kc_le (l : List Nd) (j : Nat) : kc l 0 j ≤ kc l 0 l.length := by
  by_cases h : j ≤ l.length
  · have := kc_add l (Nat.zero_le j) h
    omega
  · unfold kc
    rw [List.take_of_length_le (by omega), List.take_of_length_le (Nat.le_refl _)]
    exact Nat.le_refl _
/-- a row of parts, as the texts of trees read it -/
theorem RowA.ps {w : World} {base : Nat} {v : Value} {rs : List Pt} {ts : List Sh} (h : RowA w base v rs) (hs : shs rs = ts) (hb : ∀ t ∈ ts, I64s t) (hl : ts.length ≤ 1000) (hk : kc (ts.map nd1) 0 (ts.map nd1).length ≤ 1000000) : ∃ A c, v = .slice A rs.length c ∧ PS w A c (rs.map toPrt) := by
  obtain ⟨A, c, hv, hc, hlc, hcm, hn⟩ := own_cells h.own
  have hlen := shs_length hs
  refine ⟨A, c, hv, ?_⟩
  refine ⟨Prts.of_cells (by rw [pv_toPrt]; exact hc), fun p hp => ?_, ⟨by rw [List.length_map]; omega, fun j => ?_⟩, by rw [List.length_map]; exact hlc, by unfold maxLen at hcm; exact hcm, hn⟩
  · obtain ⟨q, hq, rfl⟩ := List.mem_map.1 hp
    have hkk := h.kids q hq
    have hm : q.nd ∈ ts := by rw [← hs]; exact List.mem_map_of_mem hq
    obtain ⟨b1, b2, b3, b4, b5, b6, b7⟩ := hb _ hm
    have htop := hkk.top
    unfold maxLen at htop
    exact ⟨hkk.ints, hkk.cap, htop, hkk.nil, b1, b2, b3, b4, b5, b6, by show 0 ≤ (0 : Int) ∧ (0 : Int) ≤ 18446744073709551615; omega, b7⟩
  · have h1 := kc_le (nds (rs.map toPrt)) j
    rw [nds_toPrt, hs] at h1 ⊢
    exact Nat.le_trans h1 hk
abbrev ndA1 : List Nd := treeA1.map nd1
theorem treeA1_tree : Tree ndA1 := by
  refine ⟨fun i p hp => ?_, ?_, ?_⟩
  · have hi : i < 6 := (List.getElem?_eq_some_iff.1 hp).1
    rcases (show i = 0 ∨ i = 1 ∨ i = 2 ∨ i = 3 ∨ i = 4 ∨ i = 5 by omega) with rfl | rfl | rfl | rfl | rfl | rfl
    all_goals
      injection hp with hp
      subst hp
      exact ⟨by decide, by decide⟩
  · refine .cons _ _ 0 6 _ _ rfl ?_ (.nil 6)
    refine .cons _ _ 1 5 _ _ rfl ?_ (.cons _ _ 5 6 _ _ rfl (.nil 6) (.nil 6))
    refine .cons _ _ 2 3 _ _ rfl (.nil 3) (.cons _ _ 3 5 _ _ rfl ?_ (.nil 5))
    exact .cons _ _ 4 5 _ _ rfl (.nil 5) (.nil 5)
  · decide
theorem treeA1_way : Way ndA1 2 ([-3, 1] ++ [0]) := by
  have h0 : Way ndA1 0 [-3] := Way.root (nd1 ⟨-3, 1, 0, 0, 3, 1, [1, 5]⟩) rfl
  have h1 : Way ndA1 1 ([-3] ++ [1]) := Way.step 1 0 (nd1 ⟨1, 2, 0, 0, 3, 2, [2, 3]⟩) [-3] ⟨nd1 ⟨-3, 1, 0, 0, 3, 1, [1, 5]⟩, rfl, by decide⟩ rfl h0
  exact Way.step 2 1 (nd1 ⟨0, 3, 0, 0, 1, 2, []⟩) [-3, 1] ⟨nd1 ⟨1, 2, 0, 0, 3, 2, [2, 3]⟩, rfl, by decide⟩ rfl h1
theorem treeA1_no : ¬ LeafAt ndA1 0 := by
  rintro ⟨_, j, p, hj, hp, hk⟩
  obtain rfl : j = 0 := by omega
  injection hp with hp
  subst hp
  revert hk
  decide
theorem treeA1_i64 : ∀ t ∈ treeA1, I64s t := by
  unfold treeA1 I64s I64
  decide
end Go.Proofs.YthpmncdfaggkiaaGreat
/- The check of a tree of orders, by lists and numbers. -/
namespace Go.Proofs.YthpmncdfaggkiaaGreat
open Go.RowKit
/-- what an operation waits for -/
def predsOf (md : Region.Mode) (o : Oper) : List Nat := (o.after.toList.filter (Region.binds md)).map (·.on)
theorem all_preds (md : Region.Mode) (o : Oper) (f : Nat → Bool) : (o.after.all fun e => !Region.binds md e || f e.on) = (predsOf md o).all f := by
  rw [← Array.all_toList]
  unfold predsOf
  induction o.after.toList with
  | nil => rfl
  | cons e es ih =>
    rw [List.all_cons, ih, List.filter_cons]
    cases h : Region.binds md e with
    | false => simp
    | true => simp
theorem any_preds (md : Region.Mode) (o : Oper) (i : Nat) : (o.after.any fun e => Region.binds md e && e.on == i) = (predsOf md o).any (· == i) := by
  rw [← Array.any_toList]
  unfold predsOf
  induction o.after.toList with
  | nil => rfl
  | cons e es ih =>
    rw [List.any_cons, ih, List.filter_cons]
    cases h : Region.binds md e with
    | false => simp
    | true => simp
def readyL (ps : List (List Nat)) (n L : Nat) : List Nat := (List.range n).filter fun i => !L.testBit i && (ps.getD i []).all fun j => L.testBit j
structure Rep (n L : Nat) (listed : Array Bool) : Prop where
  size : listed.size = n
  bit : ∀ i, L.testBit i = listed.getD i false
theorem Rep.set {n L i : Nat} {listed : Array Bool} (h : Rep n L listed) (hi : i < n) : Rep n (L ||| 2 ^ i) (listed.setIfInBounds i true) := by
  refine ⟨by rw [Array.size_setIfInBounds]; exact h.size, fun j => ?_⟩
  rw [Nat.testBit_or, Nat.testBit_two_pow, h.bit j, Array.getD_eq_getD_getElem?, Array.getD_eq_getD_getElem?, Array.getElem?_setIfInBounds]
  by_cases hij : i = j
  · subst hij
    simp [h.size, hi]
  · simp [hij]
theorem getD_tf {listed : Array Bool} {i : Nat} (h : i < listed.size) : listed.getD i true = listed.getD i false := by
  rw [Array.getD_eq_getD_getElem?, Array.getD_eq_getD_getElem?, Array.getElem?_eq_getElem h]
  rfl
theorem ready_eq {md : Region.Mode} {l : List Oper} {L : Nat} {listed : Array Bool} (h : Rep l.length L listed) : Region.ready md l.toArray listed = readyL (l.map (predsOf md)) l.length L := by
  unfold Region.ready readyL
  simp only [List.size_toArray]
  apply List.filter_congr
  intro i hi
  have hi := List.mem_range.1 hi
  rw [getD_tf (by rw [h.size]; exact hi), h.bit i]
  congr 1
  rw [List.getElem?_toArray, List.getElem?_eq_getElem hi, List.getD_eq_getElem?_getD, List.getElem?_map, List.getElem?_eq_getElem hi]
  simp only [Option.map_some, Option.getD_some]
  refine (all_preds md l[i] (fun j => listed.getD j false)).trans ?_
  congr 1
  funext j
  exact (h.bit j).symm
def freeL (ps : List (List Nat)) (l : List Oper) (L i : Nat) : Bool :=
  match l[i]? with
  | none => false
  | some oi => (List.range l.length).all fun j => j == i || L.testBit j || match l[j]? with
    | some oj => (ps.getD j []).any (· == i) || oi.apart l.toArray oj
    | none => true
theorem free_eq {md : Region.Mode} {l : List Oper} {L i : Nat} {listed : Array Bool} (h : Rep l.length L listed) : Region.free md l.toArray listed i = freeL (l.map (predsOf md)) l L i := by
  unfold Region.free freeL
  simp only [List.size_toArray, List.getElem?_toArray]
  cases hi : l[i]? with
  | none => rfl
  | some oi =>
    simp only
    rw [Bool.eq_iff_iff, List.all_eq_true, List.all_eq_true]
    refine forall_congr' fun j => forall_congr' fun hj => ?_
    have hj := List.mem_range.1 hj
    rw [getD_tf (by rw [h.size]; exact hj), h.bit j, List.getElem?_eq_getElem hj, List.getD_eq_getElem?_getD, List.getElem?_map, List.getElem?_eq_getElem hj]
    simp only [Option.map_some, Option.getD_some]
    rw [any_preds]
def btL (ps : List (List Nat)) (l : List Oper) (s : Nat) : Bool → Bt → Nat → Bool
  | top, .fin, L => !top || (readyL ps l.length L == [])
  | top, .soft i t, L => decide (i < l.length) && top && (L.testBit s == false) && i != s && (readyL ps l.length L).contains i && freeL ps l L i && ((l[i]?).map softOp).getD false && decide (l.length ≤ s) && btL ps l s true t (L ||| 2 ^ i)
  | top, .pure i t, L => decide (i < l.length) && top && i != s && (readyL ps l.length L).contains i && freeL ps l L i && ((l[i]?).map softOp).getD false && btL ps l s true t (L ||| 2 ^ i)
  | top, .step i t, L => decide (i < l.length) && (!top || (readyL ps l.length L == [i])) && btL ps l s true t (L ||| 2 ^ i)
  | top, .late i t, L => decide (i < l.length) && (!top || (readyL ps l.length L == [i])) && L.testBit s && btL ps l s true t (L ||| 2 ^ i)
  | top, .two a b, L => (!top || (readyL ps l.length L == a.heads ++ b.heads)) && btL ps l s false a L && btL ps l s false b L
theorem btL_btB {md : Region.Mode} {l : List Oper} {s : Nat} : ∀ (t : Bt) (top : Bool) (L : Nat) (listed : Array Bool), Rep l.length L listed → btL (l.map (predsOf md)) l s top t L = true → btB md l.toArray s top t listed = true := by
  intro t
  induction t with
  | fin =>
    intro top L listed hr h
    unfold btB
    rw [ready_eq hr]
    exact h
  | soft i t ih =>
    intro top L listed hr h
    unfold btL at h
    simp only [Bool.and_eq_true] at h
    obtain ⟨⟨⟨⟨⟨⟨⟨⟨h1, h2⟩, h3⟩, h4⟩, h5⟩, h6⟩, h7⟩, h8⟩, h9⟩ := h
    unfold btB
    simp only [Bool.and_eq_true]
    rw [ready_eq hr, free_eq hr, ← hr.bit s, List.getElem?_toArray]
    refine ⟨⟨⟨⟨⟨⟨⟨h2, h3⟩, h4⟩, h5⟩, h6⟩, h7⟩, ?_⟩, ih true _ _ (hr.set (of_decide_eq_true h1)) h9⟩
    unfold waitB
    rw [List.size_toArray, h8]
    rfl
  | pure i t ih =>
    intro top L listed hr h
    unfold btL at h
    simp only [Bool.and_eq_true] at h
    obtain ⟨⟨⟨⟨⟨⟨h1, h2⟩, h4⟩, h5⟩, h6⟩, h7⟩, h9⟩ := h
    unfold btB
    simp only [Bool.and_eq_true]
    rw [ready_eq hr, free_eq hr, List.getElem?_toArray]
    exact ⟨⟨⟨⟨⟨h2, h4⟩, h5⟩, h6⟩, h7⟩, ih true _ _ (hr.set (of_decide_eq_true h1)) h9⟩
  | step i t ih =>
    intro top L listed hr h
    unfold btL at h
    simp only [Bool.and_eq_true] at h
    obtain ⟨⟨h1, h2⟩, h9⟩ := h
    unfold btB
    simp only [Bool.and_eq_true]
    rw [ready_eq hr, List.size_toArray, hr.size]
    exact ⟨⟨⟨h2, h1⟩, h1⟩, ih true _ _ (hr.set (of_decide_eq_true h1)) h9⟩
  | late i t ih =>
    intro top L listed hr h
    unfold btL at h
    simp only [Bool.and_eq_true] at h
    obtain ⟨⟨⟨h1, h2⟩, h3⟩, h9⟩ := h
    unfold btB
    simp only [Bool.and_eq_true]
    rw [ready_eq hr, List.size_toArray, hr.size, ← hr.bit s]
    exact ⟨⟨⟨⟨h2, h1⟩, h1⟩, h3⟩, ih true _ _ (hr.set (of_decide_eq_true h1)) h9⟩
  | two a b iha ihb =>
    intro top L listed hr h
    unfold btL at h
    simp only [Bool.and_eq_true] at h
    obtain ⟨⟨h1, h2⟩, h3⟩ := h
    unfold btB
    simp only [Bool.and_eq_true]
    rw [ready_eq hr]
    exact ⟨⟨h1, iha false _ _ hr h2⟩, ihb false _ _ hr h3⟩
def btOkL (l : List Oper) (s : Nat) (t : Bt) : Bool := Region.noSelect l.toArray && t.even && btL (l.map (predsOf .any)) l s true t 0 && (t.len == l.length)
theorem btOk_of (l : List Oper) (s : Nat) (t : Bt) (h : btOkL l s t = true) : btOkB l s t = true := by
  unfold btOkL at h
  unfold btOkB
  simp only [Bool.and_eq_true] at h ⊢
  obtain ⟨⟨⟨h1, h2⟩, h3⟩, h4⟩ := h
  refine ⟨⟨⟨h1, h2⟩, btL_btB t true 0 _ ⟨by simp, fun i => ?_⟩ h3⟩, h4⟩
  rw [Nat.zero_testBit, Array.getD_eq_getD_getElem?, Array.getElem?_replicate]
  split <;> rfl
end Go.Proofs.YthpmncdfaggkiaaGreat
/- The check of a tree of orders, by a table of numbers. -/
namespace Go.Proofs.YthpmncdfaggkiaaGreat
open Go.RowKit
/-- an operation in numbers: what it waits for, what it writes, what it looks at; is it one that reads? -/
structure RowN where
  pm : Nat
  dm : Nat
  lm : Nat
  so : Bool
def maskL : List Nat → Nat
  | [] => 0
  | i :: is => Nat.lor (maskL is) (2 ^ i)
theorem maskL_bit (l : List Nat) (j : Nat) : (maskL l).testBit j = l.contains j := by
  induction l with
  | nil => simp [maskL]
  | cons i is ih =>
    show (maskL is ||| 2 ^ i).testBit j = _
    rw [Nat.testBit_or, Nat.testBit_two_pow, ih, List.contains_cons, Bool.or_comm]
    congr 1
    rw [Bool.eq_iff_iff, decide_eq_true_iff, beq_iff_eq]
    exact eq_comm
def dstM (o : Oper) : Nat := match o.dst with | some d => 2 ^ d | none => 0
def rowN (md : Region.Mode) (l : List Oper) (o : Oper) : RowN := ⟨maskL (predsOf md o), dstM o, maskL (o.looksAt l.toArray), softOp o⟩
def bitLn (L i : Nat) : Bool := Nat.beq (Nat.mod (Nat.div L (Nat.pow 2 i)) 2) 1
theorem bitLn_eq (L i : Nat) : bitLn L i = L.testBit i := by
  rw [Nat.testBit_eq_decide_div_mod_eq]
  rw [Bool.eq_iff_iff, decide_eq_true_iff]
  show Nat.beq (L / 2 ^ i % 2) 1 = true ↔ _
  rw [Nat.beq_eq]
def subN (p L : Nat) : Bool := Nat.beq (Nat.land p L) p
def apN (a b : Nat) : Bool := Nat.beq (Nat.land a b) 0
theorem subN_eq (p : List Nat) (L : Nat) : subN (maskL p) L = p.all fun j => L.testBit j := by
  rw [Bool.eq_iff_iff, List.all_eq_true]
  show Nat.beq (maskL p &&& L) (maskL p) = true ↔ _
  rw [Nat.beq_eq]
  constructor
  · intro h j hj
    have h1 : (maskL p).testBit j = true := by rw [maskL_bit]; exact List.contains_iff_mem.2 hj
    have h2 := congrArg (fun m => Nat.testBit m j) h
    simp only [Nat.testBit_and, h1, Bool.true_and] at h2
    exact h2
  · intro h
    apply Nat.eq_of_testBit_eq
    intro j
    rw [Nat.testBit_and]
    cases hb : (maskL p).testBit j with
    | false => rfl
    | true =>
      rw [maskL_bit] at hb
      rw [h j (List.contains_iff_mem.1 hb)]
      rfl
theorem apN_bit {a b j : Nat} (h : apN a b = true) : ¬ (a.testBit j = true ∧ b.testBit j = true) := by
  intro ⟨h1, h2⟩
  have h : (a &&& b) = 0 := Nat.eq_of_beq_eq_true h
  have h3 := congrArg (fun m => Nat.testBit m j) h
  simp only [Nat.testBit_and, h1, h2, Nat.zero_testBit] at h3
  exact absurd h3 (by decide)
def readyG (L : Nat) : Nat → List RowN → List Nat
  | _, [] => []
  | k, r :: rs => bif bitLn L k then readyG L (k + 1) rs else bif subN r.pm L then k :: readyG L (k + 1) rs else readyG L (k + 1) rs
theorem readyG_eq {md : Region.Mode} {l : List Oper} {L : Nat} : ∀ (pre suf : List Oper), pre ++ suf = l → readyG L pre.length (suf.map (rowN md l)) = (List.range' pre.length suf.length).filter fun i => !L.testBit i && ((l.map (predsOf md)).getD i []).all fun j => L.testBit j := by
  intro pre suf
  induction suf generalizing pre with
  | nil => intro _; rfl
  | cons o suf ih =>
    intro h
    have ih := ih (pre ++ [o]) (by rw [List.append_assoc]; exact h)
    rw [List.length_append, List.length_singleton] at ih
    have hg : (l.map (predsOf md)).getD pre.length [] = predsOf md o := by
      rw [← h, List.getD_eq_getElem?_getD, List.getElem?_map]
      simp
    rw [List.map_cons, List.length_cons, List.range'_succ, List.filter_cons]
    simp only [readyG, hg, ih, bitLn_eq]
    show (bif L.testBit pre.length then _ else bif subN (maskL (predsOf md o)) L then _ else _) = _
    rw [subN_eq]
    cases L.testBit pre.length with
    | true => simp
    | false => cases (predsOf md o).all fun j => L.testBit j <;> simp
theorem readyL_eq {md : Region.Mode} {l : List Oper} {L : Nat} : readyL (l.map (predsOf md)) l.length L = readyG L 0 (l.map (rowN md l)) := by
  unfold readyL
  rw [List.range_eq_range']
  exact (readyG_eq (md := md) [] l rfl).symm
def freeG (L i dm lm : Nat) : Nat → List RowN → Bool
  | _, [] => true
  | k, r :: rs => (bif bitLn L k then true else bif Nat.beq k i then true else bif bitLn r.pm i then true else apN dm r.lm && apN dm r.dm && apN r.dm lm) && freeG L i dm lm (k + 1) rs
theorem dstM_bit {o : Oper} {d : Nat} (h : o.dst = some d) : (dstM o).testBit d = true := by
  unfold dstM
  rw [h]
  simp [Nat.testBit_two_pow]
theorem looks_bit {l : List Oper} {o : Oper} {d : Nat} : (maskL (o.looksAt l.toArray)).testBit d = true ↔ d ∈ o.looksAt l.toArray := by
  rw [maskL_bit]
  exact List.contains_iff_mem
theorem apart_of {l : List Oper} {x y : Oper} (h1 : apN (dstM x) (maskL (y.looksAt l.toArray)) = true) (h2 : apN (dstM x) (dstM y) = true) (h3 : apN (dstM y) (maskL (x.looksAt l.toArray)) = true) : x.apart l.toArray y = true := by
  unfold Oper.apart
  rw [Bool.and_eq_true]
  constructor
  · split
    · rename_i d hd
      rw [Bool.and_eq_true]
      constructor
      · rw [Bool.not_eq_true', Bool.eq_false_iff]
        intro hc
        exact apN_bit h1 ⟨dstM_bit hd, looks_bit.2 (List.contains_iff_mem.1 hc)⟩
      · rw [bne_iff_ne]
        intro he
        exact apN_bit h2 ⟨dstM_bit hd, dstM_bit he⟩
    · rfl
  · split
    · rename_i d hd
      rw [Bool.not_eq_true', Bool.eq_false_iff]
      intro hc
      exact apN_bit h3 ⟨dstM_bit hd, looks_bit.2 (List.contains_iff_mem.1 hc)⟩
    · rfl
theorem freeG_mem {md : Region.Mode} {l : List Oper} {L i : Nat} {oi : Oper} : ∀ (suf : List Oper) (k : Nat), freeG L i (dstM oi) (maskL (oi.looksAt l.toArray)) k (suf.map (rowN md l)) = true → ∀ (m : Nat) (o : Oper), suf[m]? = some o → (k + m == i || L.testBit (k + m) || ((predsOf md o).any (· == i) || oi.apart l.toArray o)) = true := by
  intro suf
  induction suf with
  | nil => intro k _ m o h; simp at h
  | cons o' suf ih =>
    intro k h m o hm
    simp only [List.map_cons, freeG, Bool.and_eq_true] at h
    match m, hm with
    | 0, hm =>
      obtain rfl : o' = o := by simpa using hm
      have h := h.1
      rw [bitLn_eq] at h
      show (k == i || L.testBit k || _) = true
      cases hb : L.testBit k with
      | true => simp
      | false =>
        rw [hb] at h
        simp only [cond_false] at h
        cases hk : Nat.beq k i with
        | true => rw [show (k == i) = true from by rw [beq_iff_eq]; exact Nat.eq_of_beq_eq_true hk]; rfl
        | false =>
          rw [hk] at h
          simp only [cond_false, rowN, bitLn_eq, maskL_bit] at h
          cases hc : (predsOf md o').contains i with
          | true =>
            have : (predsOf md o').any (· == i) = true := by
              rw [List.any_eq_true]
              exact ⟨i, List.contains_iff_mem.1 hc, by simp⟩
            rw [this]
            simp
          | false =>
            rw [hc] at h
            simp only [cond_false, Bool.and_eq_true] at h
            rw [apart_of h.1.1 h.1.2 h.2]
            simp
    | m + 1, hm =>
      have := ih (k + 1) h.2 m o (by simpa using hm)
      rwa [show k + 1 + m = k + (m + 1) from by omega] at this
theorem freeL_of {md : Region.Mode} {l : List Oper} {L i : Nat} {oi : Oper} (hi : l[i]? = some oi) (h : freeG L i (dstM oi) (maskL (oi.looksAt l.toArray)) 0 (l.map (rowN md l)) = true) : freeL (l.map (predsOf md)) l L i = true := by
  unfold freeL
  rw [hi]
  simp only
  rw [List.all_eq_true]
  intro j hj
  have hj := List.mem_range.1 hj
  have hh := freeG_mem l 0 h j l[j] (List.getElem?_eq_getElem hj)
  rw [Nat.zero_add] at hh
  rw [List.getElem?_eq_getElem hj]
  simp only
  rwa [show (l.map (predsOf md)).getD j [] = predsOf md l[j] from by rw [List.getD_eq_getElem?_getD, List.getElem?_map, List.getElem?_eq_getElem hj]; rfl]
def btT (tab : List RowN) (n s : Nat) : Bool → Bt → Nat → Bool
  | top, .fin, L => !top || (match readyG L 0 tab with | [] => true | _ => false)
  | top, .soft i t, L => match tab[i]? with
    | none => false
    | some r => top && !bitLn L s && !Nat.beq i s && !bitLn L i && subN r.pm L && r.so && Nat.ble n s && freeG L i r.dm r.lm 0 tab && btT tab n s true t (Nat.lor L (Nat.pow 2 i))
  | top, .pure i t, L => match tab[i]? with
    | none => false
    | some r => top && !Nat.beq i s && !bitLn L i && subN r.pm L && r.so && freeG L i r.dm r.lm 0 tab && btT tab n s true t (Nat.lor L (Nat.pow 2 i))
  | top, .step i t, L => Nat.blt i n && (!top || (match readyG L 0 tab with | [j] => Nat.beq j i | _ => false)) && btT tab n s true t (Nat.lor L (Nat.pow 2 i))
  | top, .late i t, L => Nat.blt i n && (!top || (match readyG L 0 tab with | [j] => Nat.beq j i | _ => false)) && bitLn L s && btT tab n s true t (Nat.lor L (Nat.pow 2 i))
  | top, .two a b, L => (!top || (readyG L 0 tab == a.heads ++ b.heads)) && btT tab n s false a L && btT tab n s false b L
theorem ready_mem {md : Region.Mode} {l : List Oper} {L i : Nat} {oi : Oper} (hi : l[i]? = some oi) (h1 : L.testBit i = false) (h2 : subN (maskL (predsOf md oi)) L = true) : (readyL (l.map (predsOf md)) l.length L).contains i = true := by
  rw [subN_eq] at h2
  unfold readyL
  refine List.contains_iff_mem.2 (List.mem_filter.2 ⟨List.mem_range.2 (List.getElem?_eq_some_iff.1 hi).1, ?_⟩)
  rw [h1, List.getD_eq_getElem?_getD, List.getElem?_map, hi]
  simpa using h2
theorem one_of {x : List Nat} {i : Nat} (h : (match x with | [j] => Nat.beq j i | _ => false) = true) : (x == [i]) = true := by
  split at h
  · rw [Nat.eq_of_beq_eq_true h]; simp
  · exact absurd h (by decide)
theorem nil_of {x : List Nat} (h : (match x with | [] => true | _ => false) = true) : (x == []) = true := by
  split at h
  · rfl
  · exact absurd h (by decide)
theorem btT_btL {md : Region.Mode} {l : List Oper} {s : Nat} : ∀ (t : Bt) (top : Bool) (L : Nat), btT (l.map (rowN md l)) l.length s top t L = true → btL (l.map (predsOf md)) l s top t L = true := by
  intro t
  induction t with
  | fin =>
    intro top L h
    unfold btT at h
    unfold btL
    rw [readyL_eq]
    cases top with
    | false => rfl
    | true => exact nil_of (by simpa using h)
  | soft i t ih =>
    intro top L h
    unfold btT at h
    unfold btL
    rw [List.getElem?_map] at h
    cases hi : l[i]? with
    | none => rw [hi] at h; simp at h
    | some oi =>
      rw [hi] at h
      simp only [Option.map_some, Bool.and_eq_true, rowN, bitLn_eq, Bool.not_eq_true'] at h
      obtain ⟨⟨⟨⟨⟨⟨⟨⟨h1, h2⟩, h3⟩, h4⟩, h5⟩, h6⟩, h7⟩, h8⟩, h9⟩ := h
      simp only [Bool.and_eq_true]
      refine ⟨⟨⟨⟨⟨⟨⟨⟨decide_eq_true (List.getElem?_eq_some_iff.1 hi).1, h1⟩, by rw [h2]; rfl⟩, ?_⟩, ready_mem hi h4 h5⟩, freeL_of hi h8⟩, h6⟩, decide_eq_true (Nat.le_of_ble_eq_true h7)⟩, ih _ _ h9⟩
      rw [bne_iff_ne]
      rintro rfl
      exact absurd h3 (by simp)
  | pure i t ih =>
    intro top L h
    unfold btT at h
    unfold btL
    rw [List.getElem?_map] at h
    cases hi : l[i]? with
    | none => rw [hi] at h; simp at h
    | some oi =>
      rw [hi] at h
      simp only [Option.map_some, Bool.and_eq_true, rowN, bitLn_eq, Bool.not_eq_true'] at h
      obtain ⟨⟨⟨⟨⟨⟨h1, h3⟩, h4⟩, h5⟩, h6⟩, h8⟩, h9⟩ := h
      simp only [Bool.and_eq_true]
      refine ⟨⟨⟨⟨⟨⟨decide_eq_true (List.getElem?_eq_some_iff.1 hi).1, h1⟩, ?_⟩, ready_mem hi h4 h5⟩, freeL_of hi h8⟩, h6⟩, ih _ _ h9⟩
      rw [bne_iff_ne]
      rintro rfl
      exact absurd h3 (by simp)
  | step i t ih =>
    intro top L h
    unfold btT at h
    unfold btL
    simp only [Bool.and_eq_true] at h ⊢
    obtain ⟨⟨h1, h2⟩, h9⟩ := h
    rw [readyL_eq]
    refine ⟨⟨decide_eq_true (Nat.le_of_ble_eq_true h1), ?_⟩, ih _ _ h9⟩
    cases top with
    | false => rfl
    | true => exact one_of (by simpa using h2)
  | late i t ih =>
    intro top L h
    unfold btT at h
    unfold btL
    simp only [Bool.and_eq_true, bitLn_eq] at h ⊢
    obtain ⟨⟨⟨h1, h2⟩, h3⟩, h9⟩ := h
    rw [readyL_eq]
    refine ⟨⟨⟨decide_eq_true (Nat.le_of_ble_eq_true h1), ?_⟩, h3⟩, ih _ _ h9⟩
    cases top with
    | false => rfl
    | true => exact one_of (by simpa using h2)
  | two a b iha ihb =>
    intro top L h
    unfold btT at h
    unfold btL
    simp only [Bool.and_eq_true] at h ⊢
    obtain ⟨⟨h1, h2⟩, h3⟩ := h
    rw [readyL_eq]
    exact ⟨⟨h1, iha _ _ h2⟩, ihb _ _ h3⟩
theorem btOk_tab (l : List Oper) (s : Nat) (t : Bt) (tab : List RowN) (n : Nat) (hn : l.length = n) (hs : Region.noSelect l.toArray = true) (ht : l.map (rowN .any l) = tab) (h : (t.even && (Nat.beq t.len n) && btT tab n s true t 0) = true) : btOkB l s t = true := by
  subst hn ht
  simp only [Bool.and_eq_true] at h
  obtain ⟨⟨h1, h2⟩, h3⟩ := h
  refine btOk_of l s t ?_
  unfold btOkL
  simp only [Bool.and_eq_true]
  exact ⟨⟨⟨hs, h1⟩, btT_btL t true 0 h3⟩, beq_iff_eq.2 (Nat.eq_of_beq_eq_true h2)⟩
end Go.Proofs.YthpmncdfaggkiaaGreat
