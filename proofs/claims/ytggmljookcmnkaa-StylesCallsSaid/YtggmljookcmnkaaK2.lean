/- The contract of gram.Check. -/
import Derived.Test.YtggmljookcmnkaaK1
import Derived.Test.YtggmljookcmnkaaTr
import Derived.WalkSpells
import Derived.WalkLawsBesides
import Derived.BigRegion
import Derived.Deep.RegionWith
import Derived.Deep.QuietTactic
import Derived.Deep.DeepCutAuto
import Derived.Deep.RegionHeld3
import Derived.Deep.RegionLaw
import Derived.BigQuiet
import Derived.Lib.Hide
namespace Go.Proofs.Ytggmljookcmnkaa
open Go.RowKit
attribute [local go_sem] more_drew more_drewN more_size more_cell more_frozen more_setCell drew_more drewN_more lt_add_r lt_add_r2 lt_add_r3 lt_add_r4 lt_add_r5 lt_add_r6 lt_add_r7 lt_add_r8 lt_add_r9 lt_add_r10 lt_self_r lt_self_r2

theorem anyT_next {α : Type} {l : List α} {k : Nat} {s : α} (f : α → Bool) (h : l[k]? = some s) : (l.take (k + 1)).any f = ((l.take k).any f || f s) := by
  rw [List.take_add_one, h, List.any_append]
  simp
theorem any_hit {α : Type} {l : List α} {k : Nat} {s : α} {f : α → Bool} (h : l[k]? = some s) (hf : f s = true) : l.any f = true := by
  rw [List.any_eq_true]
  exact ⟨s, List.mem_of_getElem? h, hf⟩
theorem long1 (p : Prd) (w : World) : Calls Try.prog 116 #[prdV p] w fun e w' => e = .returned (.bool (longP p)) ∧ Ext w w' := by
  have HL : Hid (decide ((8 : Int) < (p.right.length : Int)) = longP p) := Lib.hid (by unfold longP; rw [decide_eq_decide]; omega)
  obtain ⟨left, rA, rc, right⟩ := p
  unfold prdV
  dsimp only at *
  go_enter Try.func116, Try.ntmps116
  go_wp2_with fail
  go_ret
  exact ⟨ret_bool HL.out, (by repeat (first | exact Ext.refl _ | refine Ext.alloc ?_ _ | refine Ext.more ?_ _ _ | refine Ext.drew ?_ | refine Ext.drewN ?_ _ | refine Ext.setCell ?_ (by simp <;> omega) _))⟩
/-- a grammar's cells -/
structure GrAt (w : World) (b : Nat) (g : Gr) : Prop where
  c0 : w.cell? ⟨b, 0, none⟩ = some (.int .i64 g.terms)
  c1 : w.cell? ⟨b, 1, none⟩ = some (.int .i64 g.nons)
  c2 : w.cell? ⟨b, 2, none⟩ = some (.int .i64 g.k)
  c3 : w.cell? ⟨b, 3, none⟩ = some (.slice g.pA g.prods.length g.pc)
  lt : b < w.heap.size
theorem GrAt.of {w : World} {b : Nat} {g : Gr} (h : w.heap[b]? = some (.cells #[.int .i64 g.terms, .int .i64 g.nons, .int .i64 g.k, .slice g.pA g.prods.length g.pc] 39)) : GrAt w b g := by
  have c0 := cell_of_row _ _ 0 _ _ _ h
  have c1 := cell_of_row _ _ 1 _ _ _ h
  have c2 := cell_of_row _ _ 2 _ _ _ h
  have c3 := cell_of_row _ _ 3 _ _ _ h
  simp at c0 c1 c2 c3
  exact ⟨c0, c1, c2, c3, lt_of_heap h⟩
theorem GrAt.ext {w w' : World} {b : Nat} {g : Gr} (h : GrAt w b g) (e : Ext w w') : GrAt w' b g := by
  have hb := e.below.block b h.lt
  exact ⟨(World.cell?_of_block hb).trans h.c0, (World.cell?_of_block hb).trans h.c1, (World.cell?_of_block hb).trans h.c2, (World.cell?_of_block hb).trans h.c3, Nat.lt_of_lt_of_le h.lt e.size⟩
theorem bad1 (g : Gr) (b : Nat) (s : Int) (w : World) (h : GrAt w b g) (ht : 1 ≤ g.terms ∧ g.terms ≤ 8) (hn : 1 ≤ g.nons ∧ g.nons ≤ 16) :
    Calls Try.prog 117 #[.int .i64 s, .pointer (some ⟨b, 0, none⟩)] w fun e w' => e = .returned (.bool (badS g s)) ∧ Ext w w' := by
  obtain ⟨c0, c1, _, _, hl⟩ := h
  have w1 : wrap64 (g.terms + g.nons) = g.terms + g.nons := IntWalk.wrap64_in _ (by omega)
  have HB : Hid (badS g s = (decide (s < 0) || decide (g.terms + g.nons ≤ s))) := Lib.hid rfl
  by_cases h0 : s < 0
  · have q0 : decide (s < 0) = true := decide_eq_true h0
    go_enter Try.func117, Try.ntmps117
    go_wp2_with fail
    go_ret
    exact ⟨ret_bool (by rw [HB.out, q0]; rfl), (by repeat (first | exact Ext.refl _ | refine Ext.alloc ?_ _ | refine Ext.more ?_ _ _ | refine Ext.drew ?_ | refine Ext.drewN ?_ _ | refine Ext.setCell ?_ (by simp <;> omega) _))⟩
  · have q0 : decide (s < 0) = false := decide_eq_false h0
    go_enter Try.func117, Try.ntmps117
    go_wp2_with fail
    go_ret
    exact ⟨ret_bool (by rw [HB.out, q0]; rfl), (by repeat (first | exact Ext.refl _ | refine Ext.alloc ?_ _ | refine Ext.more ?_ _ _ | refine Ext.drew ?_ | refine Ext.drewN ?_ _ | refine Ext.setCell ?_ (by simp <;> omega) _))⟩
theorem min4_run (a b c d : Int) : ∃ m : Int, (∀ (ts : Array TypeId) (t : TypeId) (w : World), (Builtin.min_ ts t #[.int .i64 a, .int .i64 b, .int .i64 c, .int .i64 d]).run Try.prog w = .ok (.int .i64 m) w) ∧ (m < 1 ↔ (a < 1 ∨ b < 1 ∨ c < 1 ∨ d < 1)) := by
  refine ⟨if d < (if c < (if b < a then b else a) then c else if b < a then b else a) then d else if c < (if b < a then b else a) then c else if b < a then b else a, fun ts t w => by simp [Builtin.min_, Builtin.min2], ?_⟩
  repeat (first | omega | split)
set_option maxRecDepth 100000 in
set_option maxHeartbeats 2000000 in
theorem gram_any (g : Gr) (w : World) (h : GrOk w g) : Calls Try.prog 70 #[grV g] w fun e w' => e = .returned (.int .i64 (gramF g)) ∧ Ext w w' := by
  have H := Lib.hid h
  have HG : Hid (gramF g = if GrBig g then 3 else if g.prods.any longP then 3 else if GrFew g then 2 else if g.prods.any (badP g) then 2 else 0) := Lib.hid rfl
  have hpl : g.prods.length ≤ 9223372036854775000 ∨ 64 < g.prods.length := by omega
  unfold grV
  clear h
  by_cases c1 : 8 < g.terms
  · have q1 : decide (8 < g.terms) = true := decide_eq_true c1
    have HR : Hid (gramF g = 3) := Lib.hid (by rw [HG.out, if_pos (.inl c1)])
    go_enter Try.func70, Try.ntmps70
    go_wp2_with fail
    go_ret
    exact ⟨ret_int HR.out.symm, (by repeat (first | exact Ext.refl _ | refine Ext.alloc ?_ _ | refine Ext.more ?_ _ _ | refine Ext.drew ?_ | refine Ext.drewN ?_ _ | refine Ext.setCell ?_ (by simp <;> omega) _))⟩
  have q1 : decide (8 < g.terms) = false := decide_eq_false c1
  by_cases c2 : 16 < g.nons
  · have q2 : decide (16 < g.nons) = true := decide_eq_true c2
    have HR : Hid (gramF g = 3) := Lib.hid (by rw [HG.out, if_pos (.inr (.inl c2))])
    go_enter Try.func70, Try.ntmps70
    go_wp2_with fail
    go_ret
    exact ⟨ret_int HR.out.symm, (by repeat (first | exact Ext.refl _ | refine Ext.alloc ?_ _ | refine Ext.more ?_ _ _ | refine Ext.drew ?_ | refine Ext.drewN ?_ _ | refine Ext.setCell ?_ (by simp <;> omega) _))⟩
  have q2 : decide (16 < g.nons) = false := decide_eq_false c2
  by_cases c3 : 3 < g.k
  · have q3 : decide (3 < g.k) = true := decide_eq_true c3
    have HR : Hid (gramF g = 3) := Lib.hid (by rw [HG.out, if_pos (.inr (.inr (.inl c3)))])
    go_enter Try.func70, Try.ntmps70
    go_wp2_with fail
    go_ret
    exact ⟨ret_int HR.out.symm, (by repeat (first | exact Ext.refl _ | refine Ext.alloc ?_ _ | refine Ext.more ?_ _ _ | refine Ext.drew ?_ | refine Ext.drewN ?_ _ | refine Ext.setCell ?_ (by simp <;> omega) _))⟩
  have q3 : decide (3 < g.k) = false := decide_eq_false c3
  by_cases c4 : 64 < g.prods.length
  · have q4 : decide ((64 : Int) < (g.prods.length : Int)) = true := decide_eq_true (by omega)
    have HR : Hid (gramF g = 3) := Lib.hid (by rw [HG.out, if_pos (.inr (.inr (.inr c4)))])
    go_enter Try.func70, Try.ntmps70
    go_wp2_with fail
    go_ret
    exact ⟨ret_int HR.out.symm, (by repeat (first | exact Ext.refl _ | refine Ext.alloc ?_ _ | refine Ext.more ?_ _ _ | refine Ext.drew ?_ | refine Ext.drewN ?_ _ | refine Ext.setCell ?_ (by simp <;> omega) _))⟩
  have q4 : decide ((64 : Int) < (g.prods.length : Int)) = false := decide_eq_false (by omega)
  have HB : Hid (¬ GrBig g) := Lib.hid (by unfold GrBig; omega)
  have CL := Lib.hid (fun w1 (x : Ext w w1) => hasPrds 116 #[] longP g.pA g.pc g.prods w1 (H.out.ext x).prods (by omega) (enters_of Try.func116 (by kernel_rfl) rfl) (fun w2 p _ _ => long1 p w2))
  obtain ⟨lb, hlb⟩ : ∃ lb, g.prods.any longP = lb := ⟨_, rfl⟩
  have HLP : Hid (lb = false → ∀ p ∈ g.prods, p.right.length ≤ 8) := Lib.hid (fun h p hp => by
    rw [h, List.any_eq_false] at hlb
    have := hlb p hp
    unfold longP at this
    simp at this
    exact this)
  rw [hlb] at CL HG
  have T1 : Hid (g.terms ≤ 8) := Lib.hid (by omega)
  have N1 : Hid (g.nons ≤ 16) := Lib.hid (by omega)
  clear c1 c2 c3 hlb hpl
  obtain ⟨b1, hb1⟩ : ∃ b1, w.heap.size = b1 := ⟨_, rfl⟩
  obtain ⟨W1, hW1⟩ : ∃ W1, w.alloc (.cells #[.int .i64 g.terms, .int .i64 g.nons, .int .i64 g.k, .slice g.pA g.prods.length g.pc] 39) = W1 := ⟨_, rfl⟩
  have X1 : Hid (Ext w W1) := Lib.hid (by rw [← hW1]; exact (by repeat (first | exact Ext.refl _ | refine Ext.alloc ?_ _ | refine Ext.more ?_ _ _ | refine Ext.drew ?_ | refine Ext.drewN ?_ _ | refine Ext.setCell ?_ (by simp <;> omega) _)))
  have GA : Hid (GrAt W1 b1 g) := Lib.hid (GrAt.of (by rw [← hW1, ← hb1]; exact heap_alloc_new _ _))
  go_enter Try.func70, Try.ntmps70
  go_upto_region 1 with fail
  skip
  clear hW1 hb1
  obtain ⟨e0, e1, e2, e3, el⟩ := GA.out
  go_wp2_with fail
  refine (CL.out _ X1.out).mono ?_
  rintro e w1 ⟨rfl, hx⟩
  have HX := Lib.hid hx
  obtain ⟨e0, e1, e2, e3, el⟩ := GA.out.ext hx
  clear hx
  cases lb with
  | true =>
    go_wp2_with fail
    go_ret
    exact ⟨ret_int (by rw [HG.out, if_neg HB.out]; rfl), X1.out.trans HX.out⟩
  | false =>
    obtain ⟨mn, hrun, hmn⟩ := min4_run g.terms g.nons g.k (g.prods.length : Int)
    have HG2 : Hid (gramF g = if GrFew g then 2 else if g.prods.any (badP g) then 2 else 0) := Lib.hid (by rw [HG.out, if_neg HB.out]; simp)
    by_cases hf : mn < 1
    · have q5 : decide (mn < 1) = true := decide_eq_true hf
      have HR : Hid (gramF g = 2) := Lib.hid (by rw [HG2.out, if_pos (by unfold GrFew; have := hmn.1 hf; omega)])
      clear hmn hf
      go_wp2_with fail
      go_ret
      exact ⟨ret_int HR.out.symm, X1.out.trans HX.out⟩
    · have q5 : decide (mn < 1) = false := decide_eq_false hf
      have hff : ¬ GrFew g := by unfold GrFew; have := fun h => hf (hmn.2 h); omega
      have HFW := Lib.hid hff
      have HG3 : Hid (gramF g = if g.prods.any (badP g) then 2 else 0) := Lib.hid (by rw [HG2.out, if_neg hff])
      unfold GrFew at hff
      have HT : Hid (1 ≤ g.terms ∧ g.terms ≤ 8) := Lib.hid ⟨by omega, T1.out⟩
      have HN : Hid (1 ≤ g.nons ∧ g.nons ≤ 16) := Lib.hid ⟨by omega, N1.out⟩
      clear hmn hf hff
      go_wp2_with fail
      clear e0 e1 e2 e3 el
      go_loopw [41] (fun s wi => ∃ i : Nat, i ≤ g.prods.length ∧ s = .int .i64 i ∧ Hid ((g.prods.take i).any (badP g) = false) ∧ Hid (Ext W1 wi)) (fun s _ => g.prods.length - (intOf s).toNat)
      case atStart => exact ⟨0, by omega, rfl, Lib.hid rfl, Lib.hid (HX.out.trans (by repeat (first | exact Ext.refl _ | refine Ext.alloc ?_ _ | refine Ext.more ?_ _ _ | refine Ext.drew ?_ | refine Ext.drewN ?_ _ | refine Ext.setCell ?_ (by simp <;> omega) _)))⟩
      case round =>
        clear HX
        obtain ⟨i, hi, rfl, hno, hx⟩ := hrel
        have HX := Lib.hid hx.out
        obtain ⟨e0, e1, e2, e3, el⟩ := GA.out.ext hx.out
        by_cases hlt : i < g.prods.length
        · obtain ⟨p, hp⟩ : ∃ p, g.prods[i]? = some p := ⟨_, List.getElem?_eq_getElem hlt⟩
          obtain ⟨b, off, hA, hb, hcell⟩ := (H.out.ext (X1.out.trans hx.out)).prods (by omega)
          obtain ⟨d0, d1⟩ := hcell i p hp
          rw [hA] at e3 ⊢
          have HP := Lib.hid hp
          have HPO := Lib.hid ((H.out.ext (X1.out.trans hx.out)).oks p (List.mem_of_getElem? hp))
          clear hcell hp hx
          by_cases l1 : p.left < 0
          · have q6 : decide (p.left < 0) = true := decide_eq_true l1
            have HR : Hid (gramF g = 2) := Lib.hid (by rw [HG3.out, if_pos (any_hit HP.out (by unfold badP; rw [q6]; rfl))])
            go_wp2_with fail
            go_ret
            exact ⟨ret_int HR.out.symm, (X1.out.trans HX.out).trans (by repeat (first | exact Ext.refl _ | refine Ext.alloc ?_ _ | refine Ext.more ?_ _ _ | refine Ext.drew ?_ | refine Ext.drewN ?_ _ | refine Ext.setCell ?_ (by simp <;> omega) _))⟩
          have q6 : decide (p.left < 0) = false := decide_eq_false l1
          by_cases l2 : g.nons ≤ p.left
          · have q7 : decide (g.nons ≤ p.left) = true := decide_eq_true l2
            have HR : Hid (gramF g = 2) := Lib.hid (by rw [HG3.out, if_pos (any_hit HP.out (by unfold badP; rw [q6, q7]; rfl))])
            go_wp2_with fail
            go_ret
            exact ⟨ret_int HR.out.symm, (X1.out.trans HX.out).trans (by repeat (first | exact Ext.refl _ | refine Ext.alloc ?_ _ | refine Ext.more ?_ _ _ | refine Ext.drew ?_ | refine Ext.drewN ?_ _ | refine Ext.setCell ?_ (by simp <;> omega) _))⟩
          have q7 : decide (g.nons ≤ p.left) = false := decide_eq_false l2
          have HBP : Hid (badP g p = p.right.any (badS g)) := Lib.hid (by unfold badP; rw [q6, q7]; rfl)
          have hcap : p.right.length ≤ 9223372036854775000 ∨ 9223372036854775000 < p.right.length := by omega
          have CB := Lib.hid (fun w2 (x : Ext wr w2) => hasInts 117 #[.pointer (some ⟨b1, 0, none⟩)] (badS g) p.rA p.rc p.right w2 (HPO.out.right.ext x) (by have := HLP.out (by trivial) p (List.mem_of_getElem? HP.out); omega) (enters_of Try.func117 (by kernel_rfl) rfl)
            (fun w3 s hx3 _ => bad1 g b1 s w3 ((GA.out.ext (HX.out.trans x)).ext hx3) HT.out HN.out))
          obtain ⟨bb, hbb⟩ : ∃ bb, p.right.any (badS g) = bb := ⟨_, rfl⟩
          rw [hbb] at CB HBP
          clear l1 l2 hbb hcap
          go_wp2_with fail
          refine (CB.out _ (by repeat (first | exact Ext.refl _ | refine Ext.alloc ?_ _ | refine Ext.more ?_ _ _ | refine Ext.drew ?_ | refine Ext.drewN ?_ _ | refine Ext.setCell ?_ (by simp <;> omega) _))).mono ?_
          rintro e w4 ⟨rfl, os4, k4, rfl⟩
          cases bb with
          | true =>
            have HR : Hid (gramF g = 2) := Lib.hid (by rw [HG3.out, if_pos (any_hit HP.out HBP.out)])
            go_wp2_with fail
            go_ret
            exact ⟨ret_int HR.out.symm, (X1.out.trans HX.out).trans (by repeat (first | exact Ext.refl _ | refine Ext.alloc ?_ _ | refine Ext.more ?_ _ _ | refine Ext.drew ?_ | refine Ext.drewN ?_ _ | refine Ext.setCell ?_ (by simp <;> omega) _))⟩
          | false =>
            have HNX : Hid ((g.prods.take (i + 1)).any (badP g) = false) := Lib.hid (by rw [anyT_next (badP g) HP.out, hno.out, HBP.out]; rfl)
            go_wp2_with fail
            go_roundw
            case rel => exact ⟨i + 1, by omega, by go_num, HNX, Lib.hid (HX.out.trans (by repeat (first | exact Ext.refl _ | refine Ext.alloc ?_ _ | refine Ext.more ?_ _ _ | refine Ext.drew ?_ | refine Ext.drewN ?_ _ | refine Ext.setCell ?_ (by simp <;> omega) _)))⟩
            case measure => simp [intOf]; omega
        · obtain rfl : i = g.prods.length := by omega
          have HR : Hid (gramF g = 0) := Lib.hid (by have h1 := hno.out; rw [List.take_length] at h1; rw [HG3.out, h1]; rfl)
          go_wp2_with fail
          go_ret
          exact ⟨ret_int HR.out.symm, (X1.out.trans HX.out).trans (by repeat (first | exact Ext.refl _ | refine Ext.alloc ?_ _ | refine Ext.more ?_ _ _ | refine Ext.drew ?_ | refine Ext.drewN ?_ _ | refine Ext.setCell ?_ (by simp <;> omega) _))⟩
end Go.Proofs.Ytggmljookcmnkaa
