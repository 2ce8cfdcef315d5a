/- The contracts of splice.met, fold, bits. -/
import Derived.Test.YtaffaeompdlecaaH5
import Derived.WalkSpells
import Derived.WalkLawsBesides
import Derived.BigRegion
import Derived.Deep.RegionWith
import Derived.Deep.QuietTactic
import Derived.Deep.DeepCutAuto
import Derived.Deep.RegionHeld3
import Derived.Deep.RegionLaw
import Derived.BigQuiet
import Derived.Lib.Hide
namespace Go.Proofs.Ytaffaeompdlecaa
open Go.RowKit
attribute [local go_sem] more_drew more_drewN more_size more_cell more_frozen more_setCell drew_more drewN_more lt_add_r lt_add_r2 lt_add_r3 lt_add_r4 lt_add_r5 lt_add_r6 lt_add_r7 lt_add_r8 lt_add_r9 lt_add_r10 lt_self_r lt_self_r2
attribute [local go_sem] Oper.semAt_some

def encM (x : Nat × Int) : Array Value := #[.int .i64 (x.1 : Int), .int .u64 x.2]
/-- the parts' bits, with their places -/
def mets (l : List Nd) : List (Nat × Int) := l.mapIdx fun i p => (i, p.met)
theorem mets_length (l : List Nd) : (mets l).length = l.length := List.length_mapIdx
theorem mets_get (l : List Nd) (j : Nat) : (mets l)[j]? = (l[j]?).map fun p => (j, p.met) := List.getElem?_mapIdx
theorem mets_fold {α : Type} (l : List Nd) (f : α → Int → α) (x : α) : (mets l).foldl (fun a y => f a y.2) x = l.foldl (fun a p => f a p.met) x := by
  have h : ∀ (l : List Nd), (mets l).map (·.2) = l.map (·.met) := fun l => by
    apply List.ext_getElem?
    intro i
    rw [List.getElem?_map, mets_get, List.getElem?_map]
    cases l[i]? <;> rfl
  have h1 : (mets l).foldl (fun a y => f a y.2) x = ((mets l).map (·.2)).foldl f x := by rw [List.foldl_map]
  rw [h1, h l, List.foldl_map]
theorem met_make (A : Option Addr) (n c : Nat) (w : World) :
    Calls Try.prog 140 #[.slice A n c] w fun e w' => e = .returned (.func (.func 164) #[] #[pt w.heap.size]) ∧ w' = w.alloc (.cells #[.slice A n c] 22) := by
  go_enter Try.func140, Try.ntmps140
  go_wp2_with fail
  go_ret
  exact ⟨rfl, rfl⟩
/-- the parts from j on are there -/
def From (A : Option Addr) (ps : List Prt) (j : Nat) (W : World) : Prop := ∃ qs, Prts W A qs ∧ qs.length = ps.length ∧ ∀ k, j ≤ k → qs[k]? = ps[k]?
set_option maxRecDepth 100000 in
set_option maxHeartbeats 2000000 in
theorem met_iter (A : Option Addr) (c : Nat) (ps : List Prt) (w1 : World) (fb : Nat) (S : Nat → Prop) (hlen : ps.length ≤ 1000) (hcap : ps.length ≤ c) (htop : c ≤ 9223372036854775807)
    (hfb : w1.heap[fb]? = some (.cells #[.slice A ps.length c] 22)) :
    IterG Try.prog 164 #[pt fb] encM (mets (nds ps)) S (From A ps) w1 := by
  intro l J Jx K0 hSl hlw hK0 hJ hJx hR hY hJ0
  have HY := Lib.hid hY
  have HJ := Lib.hid hJ
  have HR0 := Lib.hid hR
  have c0 := cell_of_row _ _ 0 _ _ _ hfb
  simp at c0
  have l0 := lt_of_heap hfb
  have S0 : Hid (w1.heap.size ≤ w1.heap.size ∧ J 0 K0 w1) := Lib.hid ⟨Nat.le_refl _, hJ0⟩
  clear hY hJ hJx hJ0 hfb hSl hlw hK0 hR
  simp only [List.append_toArray, List.cons_append, List.nil_append]
  go_enter Try.func164, Try.ntmps164
  go_wp2_with fail
  clear c0 l0
  go_loopw [7] (fun v wr => ∃ (j : Nat) (K : Nat → Prop), j ≤ ps.length ∧ v = .int .i64 j ∧ Hid (w1.heap.size ≤ wr.heap.size ∧ J j K wr)) (fun v _ => ps.length - (intOf v).toNat)
  case atStart => exact ⟨0, K0, Nat.zero_le _, rfl, S0⟩
  case round =>
    obtain ⟨j, K, hj, rfl, hs⟩ := hrel
    by_cases hlt : j < ps.length
    · obtain ⟨p, hp⟩ : ∃ p, ps[j]? = some p := ⟨_, List.getElem?_eq_getElem hlt⟩
      obtain ⟨s2, s3⟩ := hs.out
      obtain ⟨qs, hq1, hq2, hq3⟩ := HR0.out _ _ _ s3
      obtain ⟨b, off, hA, hb, hcell⟩ := hq1 (by omega)
      obtain ⟨d0, d1, d2, d3, d4, d5, d6, d7⟩ := hcell j p ((hq3 j (Nat.le_refl _)).trans hp)
      have hpm : (mets (nds ps))[j]? = some (j, p.nd.met) := by rw [mets_get, nds_get hp]; rfl
      obtain ⟨W4, hW4⟩ : ∃ W4, wr.alloc (.cells (prtCells p).toArray 35) = W4 := ⟨_, rfl⟩
      have X4 : Ext wr W4 := by rw [← hW4]; exact (by repeat (first | exact Ext.refl _ | refine Ext.alloc ?_ _ | refine Ext.more ?_ _ _ | refine Ext.drew ?_ | refine Ext.drewN ?_ _ | refine Ext.setCell ?_ (by simp <;> omega) _))
      have hP4 : W4.heap[wr.heap.size]? = some (.cells (prtCells p).toArray 35) := by rw [← hW4]; exact heap_alloc_new _ _
      obtain ⟨fn, tmps, assign, body, hy, hRound⟩ := HY.out j _ K W4 hpm (Nat.le_trans s2 X4.size) (HJ.out _ _ _ _ X4 s3)
      unfold encM at hy
      have HR := Lib.hid hRound
      have HW4 := Lib.hid hW4
      obtain ⟨ly, y0, y1, y2, y3, y4, y5, y6, y7⟩ := part_cells hP4
      rw [hA]
      have HX4 := Lib.hid X4
      clear hRound hcell hp s2 s3 hA hW4 X4 hP4 hq1 hq2 hq3 hpm
      go_upto_region 3 with fail
      rw [show wr.alloc (.cells #[.int .i64 p.nd.sym, .int .i64 p.nd.kind, .int .i64 p.nd.lo, .int .i64 p.nd.inn, .int .i64 p.nd.hi, .int .i64 p.nd.look, .slice p.kA p.nd.kids.length p.kc, .int .u64 p.nd.met] 35) = W4 from HW4.out]
      refine (wpIn_wide (n := 1)).1 ?_
      gi_wp2
      refine HR.out.mono ?_
      rintro e w8 ⟨t8, (⟨rfl, K', hK', hJ8⟩ | ⟨rfl, hJ8⟩)⟩
      · have n2 := Nat.le_trans hs.out.1 (Nat.le_trans HX4.out.size t8.size)
        have N8 := Lib.hid (show w1.heap.size ≤ w8.heap.size ∧ J (j + 1) K' w8 from ⟨n2, hJ8⟩)
        clear n2 hK' t8 hJ8 hs y0 y1 y2 y3 y4 y5 y6 y7 ly
        gi_wp2
        go_wp2_with fail
        go_roundw
        case rel => exact ⟨j + 1, K', by omega, by go_num, N8⟩
        case measure => simp [intOf]; omega
      · have n3 := Nat.le_trans hs.out.1 (Nat.le_trans HX4.out.size t8.size)
        clear t8 hs
        gi_wp2
        go_wp2_with fail
        refine bodyPost_ret (results_none rfl _ _ _) rfl ?_
        exact ⟨⟨_, rfl⟩, n3, .inr ⟨j + 1, by rw [mets_length, nds_length]; omega, hJ8⟩⟩
    · obtain rfl : j = ps.length := by omega
      go_wp2_with fail
      go_end0
      exact ⟨⟨_, rfl⟩, hs.out.1, .inl ⟨K, by rw [mets_length, nds_length]; exact hs.out.2⟩⟩
end Go.Proofs.Ytaffaeompdlecaa
