/- The contract of splice.Done. -/
import Derived.Test.YtaffaeompdlecaaU3
import Derived.Test.YtaffaeompdlecaaB1
import Derived.Test.YtaffaeompdlecaaV2
import Derived.Test.YtaffaeompdlecaaTz
import Derived.WalkSpells
import Derived.WalkLawsBesides
import Derived.BigRegion
import Derived.Deep.RegionWith
import Derived.Deep.QuietTactic
import Derived.Deep.DeepCutAuto
import Derived.Deep.RegionHeld3
import Derived.Deep.RegionLaw
import Derived.BigQuiet
import Derived.Lib.Hide
namespace Go.Proofs.Ytaffaeompdlecaa
open Go.RowKit
attribute [local go_sem] more_drew more_drewN more_size more_cell more_frozen more_setCell drew_more drewN_more lt_add_r lt_add_r2 lt_add_r3 lt_add_r4 lt_add_r5 lt_add_r6 lt_add_r7 lt_add_r8 lt_add_r9 lt_add_r10 lt_self_r lt_self_r2
attribute [local go_sem] Oper.semAt_some

/-- a job: its slot, its bytes, its age, its level -/
structure Dty where
  slot : Int
  lo : Int
  hi : Int
  age : Int
  level : Int
def dyV (d : Dty) : Value := .agg #[.int .i64 d.slot, .int .i64 d.lo, .int .i64 d.hi, .int .i64 d.age, .int .i64 d.level]
def DoneOk (l : List Nd) (i : Int) (d : Dty) : Prop := Tree l ∧ SlotN d.slot ∧ d.lo ≤ d.hi ∧ ∃ (k m : Nat) (p : Nd), i = (k : Int) ∧ l[k]? = some p ∧ Part l k m ∧ p.lo ≤ d.lo ∧ d.hi ≤ p.hi ∧ ∀ (n : Nat) (q : Nd), l[n]? = some q → tb q.met d.slot.toNat = true → k ≤ n ∧ n < m
theorem Prt.metU {w : World} {p : Prt} (h : PrtOk w p) : U64 p.nd.met := h.met
section
variable {A : Option Addr} {c : Nat} {ps : List Prt} {w : World}
set_option maxRecDepth 100000 in
set_option maxHeartbeats 4000000 in
theorem done_any (i : Int) (d : Dty) (h : PS w A c ps) : Calls Try.prog 80 #[.slice A ps.length c, .int .i64 i, dyV d] w (TellsB w (DoneOk (nds ps) i d)) := by
  have HL := h.few.len
  have S := Lib.hid h
  clear h
  obtain ⟨slot, lo, hi', age, level⟩ := d
  unfold dyV
  dsimp only
  refine calls_of_marks Try.func80 rfl ?_
  simp only [Try.ntmps80, List.size_toArray, List.length_cons, List.length_nil, Nat.reduceAdd, Nat.reduceSub, Array.replicate_succ, Array.replicate_zero, List.push_toArray, List.append_toArray, List.nil_append, List.cons_append]
  go_upto_region 1 with fail
  obtain ⟨b, hb⟩ : ∃ b, w.heap.size = b := ⟨_, rfl⟩
  obtain ⟨W3, hW3⟩ : ∃ W3, ((w.alloc (.cells #[.int .i64 i] 3)).alloc (.cells #[.int .i64 slot, .int .i64 lo, .int .i64 hi', .int .i64 age, .int .i64 level] 82)).alloc (.cells #[.bool false] 4) = W3 := ⟨_, rfl⟩
  have X3 : Ext w W3 := by rw [← hW3]; exact (by repeat (first | exact Ext.refl _ | refine Ext.alloc ?_ _ | refine Ext.more ?_ _ _ | refine Ext.drew ?_ | refine Ext.drewN ?_ _ | refine Ext.setCell ?_ (by simp <;> omega) _))
  have S3 : W3.heap.size = b + 3 := by rw [← hW3, ← hb]; simp
  have G0 : W3.heap[b]? = some (.cells #[.int .i64 i] 3) := by rw [← hW3, ← hb]; exact (by simp only [heap_alloc_get, World.size_alloc]; (repeat (split; (first | rfl | (exfalso; omega)))); (try (first | (exfalso; omega) | simp_all)))
  have G1 : W3.heap[b + 1]? = some (.cells #[.int .i64 slot, .int .i64 lo, .int .i64 hi', .int .i64 age, .int .i64 level] 82) := by rw [← hW3, ← hb]; exact (by simp only [heap_alloc_get, World.size_alloc]; (repeat (split; (first | rfl | (exfalso; omega)))); (try (first | (exfalso; omega) | simp_all)))
  have G2 : W3.heap[b + 1 + 1]? = some (.cells #[.bool false] 4) := by rw [← hW3, ← hb]; exact (by simp only [heap_alloc_get, World.size_alloc]; (repeat (split; (first | rfl | (exfalso; omega)))); (try (first | (exfalso; omega) | simp_all)))
  rw [hW3, hb]
  have HBW : Hid (w.heap.size = b) := Lib.hid hb
  have HX3 := Lib.hid X3
  have HG1 := Lib.hid G1
  have HG2 := Lib.hid G2
  have HG0 := Lib.hid G0
  have CEL := Lib.hid (fun (V : World) (x : Ext W3 V) => (⟨by simpa using cell_of_row _ _ 0 _ _ _ (ext_block HG0.out x), by simpa using cell_of_row _ _ 0 _ _ _ (ext_block HG1.out x), by simpa using cell_of_row _ _ 1 _ _ _ (ext_block HG1.out x), by simpa using cell_of_row _ _ 2 _ _ _ (ext_block HG1.out x),
    by simpa using cell_of_row _ _ 0 _ _ _ (ext_block HG2.out x), by simp [World.frozen?, ext_block HG2.out x], lt_of_heap (ext_block HG0.out x), lt_of_heap (ext_block HG1.out x), lt_of_heap (ext_block HG2.out x)⟩ :
    V.cell? ⟨b, 0, none⟩ = some (.int .i64 i) ∧ V.cell? ⟨b + 1, 0, none⟩ = some (.int .i64 slot) ∧ V.cell? ⟨b + 1, 1, none⟩ = some (.int .i64 lo) ∧ V.cell? ⟨b + 1, 2, none⟩ = some (.int .i64 hi') ∧ V.cell? ⟨b + 1 + 1, 0, none⟩ = some (.bool false) ∧ V.frozen? ⟨b + 1 + 1, 0, none⟩ = false ∧
      b < V.heap.size ∧ b + 1 < V.heap.size ∧ b + 1 + 1 < V.heap.size))
  have FIN : Hid (∀ (v : Bool) (V : World), Ext W3 V → Ext w (V.setCell ⟨b + 1 + 1, 0, none⟩ (.bool v)) ∧ (V.setCell ⟨b + 1 + 1, 0, none⟩ (.bool v)).cell? ⟨b + 1 + 1, 0, none⟩ = some (.bool v)) := Lib.hid fun v V x => by
    refine ⟨(HX3.out.trans x).setCell (by show w.heap.size ≤ b + 1 + 1; have := HBW.out; omega) _, ?_⟩
    have h1 := ext_block HG2.out x
    have h2 : (V.setCell ⟨b + 1 + 1, 0, none⟩ (.bool v)).heap[b + 1 + 1]? = some (.cells #[.bool v] 4) := by simp [World.setCell, Array.getElem?_modify, h1]
    simpa using cell_of_row _ _ 0 _ _ _ h2
  obtain ⟨k0, k1, k2, k3, k4, k5, l0, l1, l2⟩ := CEL.out W3 (Ext.refl _)
  clear hW3 hb X3 G0 G1 G2
  by_cases T : Tree (nds ps)
  · have HT := Lib.hid T
    clear T
    by_cases h0 : i < 0
    · have NO : Hid (¬ DoneOk (nds ps) i ⟨slot, lo, hi', age, level⟩) := Lib.hid (fun ⟨_, _, _, k, m, p, e, _⟩ => by omega)
      go_wp2_with fail
      refine (check_ok (S.out.ext HX3.out) HT.out).mono ?_
      rintro e w1 ⟨rfl, hx1⟩
      have HX1 := Lib.hid hx1
      clear k0 k1 k2 k3 k4 k5 l0 l1 l2
      obtain ⟨k0, k1, k2, k3, k4, k5, l0, l1, l2⟩ := CEL.out w1 HX1.out
      clear hx1
      go_wp2_with fail
      exact marks_ret (v := .bool false) rfl (by simp [results, Try.results80, go_sem, (FIN.out false _ HX1.out).2]) ⟨false, rfl, ⟨nofun, fun h => absurd h NO.out⟩, (FIN.out false _ HX1.out).1⟩
    · by_cases h1 : i < (ps.length : Int)
      · by_cases hs : SlotN slot
        · have h12 : 0 ≤ slot ∧ slot < 64 := hs
          obtain ⟨j, rfl⟩ : ∃ j : Nat, i = (j : Int) := ⟨i.toNat, by omega⟩
          have hjl : j < ps.length := by omega
          obtain ⟨p, hp⟩ : ∃ p, ps[j]? = some p := ⟨_, List.getElem?_eq_getElem hjl⟩
          have HPP := Lib.hid hp
          have HS := Lib.hid hs
          have HS12 := Lib.hid h12
          clear hp hs h0 h1 h12
          go_wp2_with fail
          refine (check_ok (S.out.ext HX3.out) HT.out).mono ?_
          rintro e w1 ⟨rfl, hx1⟩
          have HX1 := Lib.hid hx1
          clear k0 k1 k2 k3 k4 k5 l0 l1 l2
          obtain ⟨k0, k1, k2, k3, k4, k5, l0, l1, l2⟩ := CEL.out w1 HX1.out
          clear hx1
          go_wp2_with fail
          refine (slot_any slot _).mono ?_
          rintro e w2 ⟨rfl, rfl⟩
          rw [decide_eq_true HS12.out]
          go_upto_region 4 with fail
          obtain ⟨m4, hm4⟩ : ∃ m4, w1.heap.size = m4 := ⟨_, rfl⟩
          obtain ⟨W4, hW4⟩ : ∃ W4, w1.alloc (.cells #[.int .i64 lo, .int .i64 hi'] 53) = W4 := ⟨_, rfl⟩
          have X4 : Ext w1 W4 := by rw [← hW4]; exact (by repeat (first | exact Ext.refl _ | refine Ext.alloc ?_ _ | refine Ext.more ?_ _ _ | refine Ext.drew ?_ | refine Ext.drewN ?_ _ | refine Ext.setCell ?_ (by simp <;> omega) _))
          have P4 : W4.heap[m4]? = some (.cells #[.int .i64 lo, .int .i64 hi'] 53) := by rw [← hW4, ← hm4]; exact heap_alloc_new _ _
          rw [hW4, hm4]
          have x0 := cell_of_row _ _ 0 _ _ _ P4
          have x1 := cell_of_row _ _ 1 _ _ _ P4
          simp at x0 x1
          have lm := lt_of_heap P4
          have HX4 := Lib.hid (HX1.out.trans X4)
          clear k0 k1 k2 k3 k4 k5 l0 l1 l2 hW4 hm4 X4 P4
          obtain ⟨k0, k1, k2, k3, k4, k5, l0, l1, l2⟩ := CEL.out W4 HX4.out
          obtain ⟨bA, off, rfl, hbA, hcell⟩ := (S.out.ext (HX3.out.trans HX4.out)).parts (by omega)
          have d2 := (hcell j p HPP.out).2.2.1
          have d4 := (hcell j p HPP.out).2.2.2.2.1
          obtain ⟨m, hpart⟩ := HT.out.part (i := j) (by rw [nds_length]; exact hjl)
          have HPT := Lib.hid hpart
          clear hcell hpart
          by_cases c1 : hi' < lo
          · have NO : Hid (¬ DoneOk (nds ps) (j : Int) ⟨slot, lo, hi', age, level⟩) := Lib.hid (fun ⟨_, _, h, _⟩ => by dsimp only at h; omega)
            refine wp_region_bt (25) (softs_bt [0, 1, 2, 3, 4, 5, 6, 7, 8, 9, 10, 11, 12, 13, 14, 15, 16, 17, 18, 19, 20, 21, 22, 23, 24] .fin) (by kernel_rfl) (by kernel_rfl) ?_
            (refine bt_softs _ fun K hK => ?_); (simp only [pick, nthC]); (repeat (go_big_quiet_step (fail))); (refine wpQuiet_nil (hK _ ?_)); (clear hK K)
            (refine bt_fin ?_)
            go_wp2_with fail
            exact marks_ret (v := .bool false) rfl (by simp [results, Try.results80, go_sem, (FIN.out false W4 HX4.out).2]) ⟨false, rfl, ⟨nofun, fun h => absurd h NO.out⟩, (FIN.out false W4 HX4.out).1.drew⟩
          · by_cases c2 : lo < p.nd.lo
            · have NO : Hid (¬ DoneOk (nds ps) (j : Int) ⟨slot, lo, hi', age, level⟩) := Lib.hid (fun ⟨_, _, _, k', m', p', e, hp', _, h, _⟩ => by
                obtain rfl : j = k' := by omega
                rw [nds_get HPP.out] at hp'
                cases hp'
                dsimp only at h
                omega)
              refine wp_region_bt (25) (softs_bt [0, 1, 2, 3, 4, 5, 6, 7, 8, 9, 10, 11, 12, 13, 14, 15, 16, 17, 18, 19, 20, 21, 22, 23, 24] .fin) (by kernel_rfl) (by kernel_rfl) ?_
              (refine bt_softs _ fun K hK => ?_); (simp only [pick, nthC]); (repeat (go_big_quiet_step (fail))); (refine wpQuiet_nil (hK _ ?_)); (clear hK K)
              (refine bt_fin ?_)
              go_wp2_with fail
              exact marks_ret (v := .bool false) rfl (by simp [results, Try.results80, go_sem, (FIN.out false W4 HX4.out).2]) ⟨false, rfl, ⟨nofun, fun h => absurd h NO.out⟩, (FIN.out false W4 HX4.out).1.drew⟩
            · by_cases c3 : p.nd.hi < hi'
              · have NO : Hid (¬ DoneOk (nds ps) (j : Int) ⟨slot, lo, hi', age, level⟩) := Lib.hid (fun ⟨_, _, _, k', m', p', e, hp', _, _, h, _⟩ => by
                  obtain rfl : j = k' := by omega
                  rw [nds_get HPP.out] at hp'
                  cases hp'
                  dsimp only at h
                  omega)
                refine wp_region_bt (25) (softs_bt [0, 1, 2, 3, 4, 5, 6, 7, 8, 9, 10, 11, 12, 13, 14, 15, 16, 17, 18, 19, 20, 21, 22, 23, 24] .fin) (by kernel_rfl) (by kernel_rfl) ?_
                (refine bt_softs _ fun K hK => ?_); (simp only [pick, nthC]); (repeat (go_big_quiet_step (fail))); (refine wpQuiet_nil (hK _ ?_)); (clear hK K)
                (refine bt_fin ?_)
                go_wp2_with fail
                exact marks_ret (v := .bool false) rfl (by simp [results, Try.results80, go_sem, (FIN.out false W4 HX4.out).2]) ⟨false, rfl, ⟨nofun, fun h => absurd h NO.out⟩, (FIN.out false W4 HX4.out).1.drew⟩
              · have HC : Hid (lo ≤ hi' ∧ p.nd.lo ≤ lo ∧ hi' ≤ p.nd.hi) := Lib.hid ⟨by omega, by omega, by omega⟩
                have CE := Lib.hid (End_yes j m (S.out.ext (HX3.out.trans HX4.out.drew)) HT.out HPT.out)
                have YES : Hid ((∀ (n : Nat) (q : Nd), (nds ps)[n]? = some q → tb q.met slot.toNat = true → j ≤ n ∧ n < m) ↔ DoneOk (nds ps) (j : Int) ⟨slot, lo, hi', age, level⟩) := Lib.hid ⟨fun h => ⟨HT.out, HS.out, HC.out.1, j, m, p.nd, rfl, nds_get HPP.out, HPT.out, HC.out.2.1, HC.out.2.2, h⟩, fun ⟨_, _, _, k', m', p', e, hp', hm', _, _, h⟩ => by
                  obtain rfl : j = k' := by omega
                  obtain rfl := HPT.out.det hm'
                  exact h⟩
                refine wp_region_bt (25) (softs_bt [0, 1, 2, 3, 4, 5, 6, 7, 8, 9, 10, 11, 12, 13, 14, 15, 16, 17, 18, 19, 20, 21, 22, 23, 24] .fin) (by kernel_rfl) (by kernel_rfl) ?_
                (refine bt_softs _ fun K hK => ?_); (simp only [pick, nthC]); (repeat (go_big_quiet_step (fail))); (refine wpQuiet_nil (hK _ ?_)); (clear hK K)
                (refine bt_fin ?_)
                clear x0 x1 lm d2 d4 c1 c2 c3
                go_wp2_with fail
                refine CE.out.mono ?_
                rintro e w5 ⟨rfl, hx5⟩
                have HX5 := Lib.hid (HX4.out.drew.trans hx5)
                clear k0 k1 k2 k3 k4 k5 l0 l1 l2 hx5
                obtain ⟨k0, k1, k2, k3, k4, k5, l0, l1, l2⟩ := CEL.out w5 HX5.out
                go_wp2_with fail
                obtain ⟨g, hg⟩ : ∃ g, w5.heap.size = g := ⟨_, rfl⟩
                refine (met_make _ ps.length c _).mono ?_
                rintro e w6 ⟨rfl, hw6⟩
                have X6 : Ext w5 w6 := by rw [hw6]; exact (by repeat (first | exact Ext.refl _ | refine Ext.alloc ?_ _ | refine Ext.more ?_ _ _ | refine Ext.drew ?_ | refine Ext.drewN ?_ _ | refine Ext.setCell ?_ (by simp <;> omega) _))
                have S6 : w6.heap.size = g + 2 := by rw [hw6, ← hg]; simp
                have G6 : w6.heap[g]? = some (.cells #[.int .i64 m] 3) := by rw [hw6, ← hg]; exact (by simp only [heap_alloc_get, World.size_alloc]; (repeat (split; (first | rfl | (exfalso; omega)))); (try (first | (exfalso; omega) | simp_all)))
                have G7 : w6.heap[g + 1]? = some (.cells #[.slice (some ⟨bA, off, none⟩) ps.length c] 22) := by rw [hw6, ← hg]; exact (by simp only [heap_alloc_get, World.size_alloc]; (repeat (split; (first | rfl | (exfalso; omega)))); (try (first | (exfalso; omega) | simp_all)))
                have hgb : b + 3 ≤ g := by have := HX5.out.size; omega
                have HX6 := Lib.hid (HX5.out.trans X6)
                rw [World.size_alloc, hg]
                clear k0 k1 k2 k3 k4 k5 l0 l1 l2 hw6 X6 hg
                go_wp2_with fail
                refine wp_rangeG (gf := 164) (lb := #[pt (g + 1)]) (encs := encM) (xs := mets (nds ps)) (S := fun k => w.heap.size ≤ k) (R := From (some ⟨bA, off, none⟩) ps) rfl (enters_of Try.func164 (by kernel_rfl) rfl) (fun _ => rfl) (by have := HBW.out; omega)
                  (fun w7 hx _ => met_iter (some ⟨bA, off, none⟩) c ps w7 (g + 1) _ HL S.out.cap S.out.top (ext_block G7 hx))
                  (fun n K W => W.heap[b]? = some (.cells #[.int .i64 (j : Int)] 3) ∧ W.heap[b + 1]? = some (.cells #[.int .i64 slot, .int .i64 lo, .int .i64 hi', .int .i64 age, .int .i64 level] 82) ∧ W.heap[b + 1 + 1]? = some (.cells #[.bool false] 4) ∧ W.heap[g]? = some (.cells #[.int .i64 m] 3) ∧
                    Below w.heap.size w W ∧ (∀ k, K k ↔ k = b + 1 + 1) ∧ ∀ (k : Nat) (q : Nd), k < n → (nds ps)[k]? = some q → tb q.met slot.toNat = true → j ≤ k ∧ k < m)
                  (fun cd _ W => cd = .ret ∧ ¬ DoneOk (nds ps) (j : Int) ⟨slot, lo, hi', age, level⟩ ∧ W.heap[b + 1 + 1]? = some (.cells #[.bool false] 4) ∧ Below w.heap.size w W) (fun k => k = b + 1 + 1)
                  (fun k hk => ⟨by have := HBW.out; omega, by omega⟩) ?_ ?_ ?_ ?_ ?_ ?_ ?_ ?_
                · rintro n K U U' ht hsz ⟨i1, i2, i3, i4, i5, i6, i7⟩
                  rw [S6] at ht hsz
                  have hbw := HBW.out
                  exact ⟨(ht.block _ (lt_of_heap i1) (by omega)).trans i1, (ht.block _ (lt_of_heap i2) (by omega)).trans i2, (ht.block _ (lt_of_heap i3) (by omega)).trans i3, (ht.block _ (lt_of_heap i4) (by omega)).trans i4, i5.trans (ht.below (by omega) fun k hk => by omega), i6, i7⟩
                · rintro cd n U U' ht hsz ⟨i1, i2, i3, i4⟩
                  rw [S6] at ht hsz
                  have hbw := HBW.out
                  exact ⟨i1, i2, (ht.block _ (lt_of_heap i3) (by omega)).trans i3, i4.trans (ht.below (by omega) fun k hk => by omega)⟩
                · rintro n K U ⟨i1, i2, i3, i4, i5, i6, i7⟩
                  rw [S6]
                  exact ⟨fun h => by have := (i6 _).1 h; omega, fun h => by have := (i6 _).1 h; omega⟩
                · rintro n K U ⟨i1, i2, i3, i4, i5, i6, i7⟩
                  exact From.of_prts (S.out.parts.below i5) n
                · intro U hU
                  have hU6 := HX6.out.trans hU
                  exact ⟨ext_block HG0.out hU6, ext_block HG1.out hU6, ext_block HG2.out hU6, ext_block G6 hU, (HX3.out.trans hU6).below, fun _ => Iff.rfl, fun k q hk => by omega⟩
                · rintro l n x K W hx hI hsz
                  clear hI
                  rw [mets_get] at hx
                  obtain ⟨nd, hnd, rfl⟩ := Option.map_eq_some_iff.1 hx
                  clear hx
                  simp only [encM]
                  gi_wp2
                  refine ⟨(by repeat (first | exact Ext.refl _ | refine Ext.alloc ?_ _ | refine Ext.more ?_ _ _ | refine Ext.drew ?_ | refine Ext.drewN ?_ _ | refine Ext.setCell ?_ (by simp <;> omega) _)), ?_⟩
                  rintro W2 t2 ⟨i1, i2, i3, i4, i5, i6, i7⟩ hsz2
                  obtain ⟨qp, hqp, rfl⟩ := nds_get' hnd
                  have hmu : U64 qp.nd.met := (S.out.oks.get hqp).met
                  have hz := last_bit hmu slot.toNat
                  have y0 := cell_of_row _ _ 0 _ _ _ i1
                  have y1 := cell_of_row _ _ 0 _ _ _ i2
                  have y2 := cell_of_row _ _ 0 _ _ _ i3
                  have y3 := cell_of_row _ _ 0 _ _ _ i4
                  simp at y0 y1 y2 y3
                  have l0 := lt_of_heap i1
                  have l1 := lt_of_heap i2
                  have l2 := lt_of_heap i3
                  have l3 := lt_of_heap i4
                  have f2 : W2.frozen? ⟨b + 1 + 1, 0, none⟩ = false := by simp [World.frozen?, i3]
                  have I1 := Lib.hid i1
                  have I2 := Lib.hid i2
                  have I3 := Lib.hid i3
                  have I4 := Lib.hid i4
                  have I5 := Lib.hid i5
                  have I6 := Lib.hid i6
                  have I7 := Lib.hid i7
                  have HND := Lib.hid hnd
                  obtain ⟨hs1, hs2⟩ := HS12.out
                  have FNO : Hid ((¬ (j ≤ n ∧ n < m) ∧ tb qp.nd.met slot.toNat = true) → ∀ (V : World), Ext W2 V → Turn (fun k => K k ∨ W.heap.size ≤ k) W2 (V.setCell ⟨b + 1 + 1, 0, none⟩ (.bool false)) ∧ ¬ DoneOk (nds ps) (j : Int) ⟨slot, lo, hi', age, level⟩ ∧ (V.setCell ⟨b + 1 + 1, 0, none⟩ (.bool false)).heap[b + 1 + 1]? = some (.cells #[.bool false] 4) ∧ Below w.heap.size w (V.setCell ⟨b + 1 + 1, 0, none⟩ (.bool false))) := Lib.hid fun ⟨hn, ht⟩ V hV => by
                    have T1 : Turn (fun k => K k ∨ W.heap.size ≤ k) W2 (V.setCell ⟨b + 1 + 1, 0, none⟩ (.bool false)) := (Turn.of_ext hV).trans (Turn.setCell V (p := ⟨b + 1 + 1, 0, none⟩) (.inl ((I6.out _).2 rfl)) _)
                    refine ⟨T1, fun h => hn (YES.out.2 h n qp.nd HND.out ht), ?_, I5.out.trans (T1.below I5.out.size fun k hk => ?_)⟩
                    · have := ext_block I3.out hV
                      simp [World.setCell, Array.getElem?_modify, this]
                    · have hbw := HBW.out
                      rcases hk with hk | hk
                      · have := (I6.out k).1 hk; omega
                      · have := HX6.out.size; have := HX3.out.size; omega
                  have FOK : Hid (((j ≤ n ∧ n < m) ∨ tb qp.nd.met slot.toNat = false) → ∀ (k : Nat) (q : Nd), k < n + 1 → (nds ps)[k]? = some q → tb q.met slot.toNat = true → j ≤ k ∧ k < m) := Lib.hid fun h k q hk hq ht => by
                    rcases (show k < n ∨ k = n by omega) with h1 | rfl
                    · exact I7.out k q h1 hq ht
                    · rw [HND.out] at hq
                      cases hq
                      rcases h with h | h
                      · exact h
                      · rw [h] at ht; cases ht
                  clear i1 i2 i3 i4 i5 i6 i7 hnd hqp hmu t2
                  by_cases a1 : n < j
                  · cases ht : tb qp.nd.met slot.toNat with
                    | true =>
                      rw [ht, if_pos rfl] at hz
                      have R := Lib.hid (FNO.out ⟨by omega, ht⟩)
                      clear ht
                      gi_wp2
                      exact ⟨(R.out _ (Ext.refl _)).1, rfl, (R.out _ (Ext.refl _)).2⟩
                    | false =>
                      rw [ht, if_neg Bool.false_ne_true] at hz
                      have R := Lib.hid (FOK.out (.inr ht))
                      clear ht
                      gi_wp2
                      exact ⟨Turn.refl _, K, fun k hk => .inl hk, I1.out, I2.out, I3.out, I4.out, I5.out, I6.out, R.out⟩
                  · by_cases a2 : m ≤ n
                    · cases ht : tb qp.nd.met slot.toNat with
                      | true =>
                        rw [ht, if_pos rfl] at hz
                        have R := Lib.hid (FNO.out ⟨by omega, ht⟩)
                        clear ht
                        gi_wp2
                        exact ⟨(R.out _ (Ext.refl _)).1, rfl, (R.out _ (Ext.refl _)).2⟩
                      | false =>
                        rw [ht, if_neg Bool.false_ne_true] at hz
                        have R := Lib.hid (FOK.out (.inr ht))
                        clear ht
                        gi_wp2
                        exact ⟨Turn.refl _, K, fun k hk => .inl hk, I1.out, I2.out, I3.out, I4.out, I5.out, I6.out, R.out⟩
                    · have R := Lib.hid (FOK.out (.inl ⟨by omega, by omega⟩))
                      clear hz
                      gi_wp2
                      exact ⟨Turn.refl _, K, fun k hk => .inl hk, I1.out, I2.out, I3.out, I4.out, I5.out, I6.out, R.out⟩
                · rintro K V ⟨i1, i2, i3, i4, i5, i6, i7⟩ hsz hk
                  rw [S6] at hsz hk ⊢
                  rw [mets_length, nds_length] at i7
                  have y2 := cell_of_row _ _ 0 _ _ _ i3
                  simp at y2
                  have l2 := lt_of_heap i3
                  have f2 : V.frozen? ⟨b + 1 + 1, 0, none⟩ = false := by simp [World.frozen?, i3]
                  have D0 := YES.out.1 fun k q hq ht => i7 k q (by have := (List.getElem?_eq_some_iff.1 hq).1; rwa [nds_length] at this) hq ht
                  have T1 : Turn (fun k => k = b + 1 + 1 ∨ k = g + 2) V (V.setCell ⟨b + 1 + 1, 0, none⟩ (.bool true)) := Turn.setCell V (p := ⟨b + 1 + 1, 0, none⟩) (.inl rfl) _
                  have tD : Turn (fun k => k = b + 1 + 1 ∨ k = g + 2) (V.setCell ⟨b + 1 + 1, 0, none⟩ (.bool true)) ((V.setCell ⟨b + 1 + 1, 0, none⟩ (.bool true)).putObj (g + 2) (.deferred none)) := putObj_turn _ _ (.inr rfl)
                  have hbw := HBW.out
                  have OUT := Lib.hid (Ext.of_below (i5.trans ((T1.trans tD).below (n := w.heap.size) (by omega) fun k hk => by omega)))
                  have hk2 := ((Turn.setCell (S := fun k => k = b + 1 + 1) V (p := ⟨b + 1 + 1, 0, none⟩) rfl (.bool true)).block _ (lt_of_heap hk) (by omega)).trans hk
                  have hc2 : (V.setCell ⟨b + 1 + 1, 0, none⟩ (.bool true)).heap[b + 1 + 1]? = some (.cells #[.bool true] 4) := by simp [World.setCell, Array.getElem?_modify, i3]
                  have hc3 := cell_of_row _ _ 0 _ _ _ ((putObj_other (V.setCell ⟨b + 1 + 1, 0, none⟩ (.bool true)) (.deferred none) (show g + 2 ≠ b + 1 + 1 by omega)).trans hc2)
                  simp at hc3
                  have DD := Lib.hid D0
                  have HK2 := Lib.hid hk2
                  have HC3 := Lib.hid hc3
                  clear T1 tD i1 i2 i3 i4 i5 i6 i7 D0 hk2 hc2 hc3
                  go_wp2_with fail
                  exact marks_ret1 (D := g + 2) (v := .bool true) rfl HK2.out (by simp [results, Try.results80, go_sem, HC3.out]) ⟨true, rfl, ⟨fun _ => DD.out, fun _ => rfl⟩, OUT.out⟩
                · rintro cd n V hn ⟨rfl, hD, i3, i4⟩ hsz hk
                  rw [S6] at hsz hk ⊢
                  have tD : Turn (fun k => k = g + 2) V (V.putObj (g + 2) (.deferred none)) := putObj_turn _ _ rfl
                  have hbw := HBW.out
                  have OUT := Lib.hid (Ext.of_below (i4.trans (tD.below (n := w.heap.size) (by omega) fun k hk => by omega)))
                  have hc3 := cell_of_row _ _ 0 _ _ _ ((putObj_other V (.deferred none) (show g + 2 ≠ b + 1 + 1 by omega)).trans i3)
                  simp at hc3
                  go_wp2_with fail
                  exact marks_ret1 (D := g + 2) (v := .bool false) rfl hk (by simp [results, Try.results80, go_sem, hc3]) ⟨false, rfl, ⟨nofun, fun h => absurd h hD⟩, OUT.out⟩
        · have NO : Hid (¬ DoneOk (nds ps) i ⟨slot, lo, hi', age, level⟩) := Lib.hid (fun ⟨_, h, _⟩ => hs h)
          have h12 : ¬ (0 ≤ slot ∧ slot < 64) := hs
          have HS12 := Lib.hid h12
          clear hs h12
          go_wp2_with fail
          refine (check_ok (S.out.ext HX3.out) HT.out).mono ?_
          rintro e w1 ⟨rfl, hx1⟩
          have HX1 := Lib.hid hx1
          clear k0 k1 k2 k3 k4 k5 l0 l1 l2
          obtain ⟨k0, k1, k2, k3, k4, k5, l0, l1, l2⟩ := CEL.out w1 HX1.out
          clear hx1
          go_wp2_with fail
          refine (slot_any slot _).mono ?_
          rintro e w2 ⟨rfl, rfl⟩
          rw [decide_eq_false HS12.out]
          go_wp2_with fail
          exact marks_ret (v := .bool false) rfl (by simp [results, Try.results80, go_sem, (FIN.out false _ HX1.out).2]) ⟨false, rfl, ⟨nofun, fun h => absurd h NO.out⟩, (FIN.out false _ HX1.out).1⟩
      · have NO : Hid (¬ DoneOk (nds ps) i ⟨slot, lo, hi', age, level⟩) := Lib.hid (fun ⟨_, _, _, k, m, p, e, hk, _⟩ => by have := (List.getElem?_eq_some_iff.1 hk).1; rw [nds_length] at this; omega)
        go_wp2_with fail
        refine (check_ok (S.out.ext HX3.out) HT.out).mono ?_
        rintro e w1 ⟨rfl, hx1⟩
        have HX1 := Lib.hid hx1
        clear k0 k1 k2 k3 k4 k5 l0 l1 l2
        obtain ⟨k0, k1, k2, k3, k4, k5, l0, l1, l2⟩ := CEL.out w1 HX1.out
        clear hx1
        go_wp2_with fail
        exact marks_ret (v := .bool false) rfl (by simp [results, Try.results80, go_sem, (FIN.out false _ HX1.out).2]) ⟨false, rfl, ⟨nofun, fun h => absurd h NO.out⟩, (FIN.out false _ HX1.out).1⟩
  · have NO : Hid (¬ DoneOk (nds ps) i ⟨slot, lo, hi', age, level⟩) := Lib.hid (fun ⟨h, _⟩ => T h)
    have CH := Lib.hid (check_no (S.out.ext HX3.out) T)
    clear T
    go_wp2_with fail
    refine (CH.out).mono ?_
    rintro e w1 ⟨rfl, hx1⟩
    have HX1 := Lib.hid hx1
    clear k0 k1 k2 k3 k4 k5 l0 l1 l2
    obtain ⟨k0, k1, k2, k3, k4, k5, l0, l1, l2⟩ := CEL.out w1 HX1.out
    clear hx1
    go_wp2_with fail
    exact marks_ret (v := .bool false) rfl (by simp [results, Try.results80, go_sem, (FIN.out false _ HX1.out).2]) ⟨false, rfl, ⟨nofun, fun h => absurd h NO.out⟩, (FIN.out false _ HX1.out).1⟩
end
end Go.Proofs.Ytaffaeompdlecaa
