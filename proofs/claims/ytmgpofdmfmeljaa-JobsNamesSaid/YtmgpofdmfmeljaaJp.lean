/- A map of integers; rows of jobs cloned, served, ticked. -/
import Derived.Test.YtmgpofdmfmeljaaJo
import Derived.Maps.OwnOps
import Derived.Maps.Views
import Derived.WalkSpells
import Derived.WalkLawsBesides
import Derived.BigRegion
import Derived.Deep.RegionWith
import Derived.Deep.QuietTactic
import Derived.Deep.DeepCutAuto
import Derived.Deep.RegionHeld3
import Derived.Deep.RegionLaw
import Derived.BigQuiet
import Derived.Lib.Hide
namespace Go.Proofs.Ytmgpofdmfmeljaa
open Go.RowKit Go.Maps
attribute [local go_sem] more_drew more_drewN more_size more_cell more_frozen more_setCell drew_more drewN_more lt_add_r lt_add_r2 lt_add_r3 lt_add_r4 lt_add_r5 lt_add_r6 lt_add_r7 lt_add_r8 lt_add_r9 lt_add_r10 lt_self_r lt_self_r2

theorem law_int : Keyed Try.prog 3 := int_keyed Try.underlying3
theorem zero_int (w : World) : (zeroValue 3).run Try.prog w = .ok (.int .i64 0) w := by kernel_rfl
/-- block b is a map that answers f -/
def MapI (w : World) (b n : Nat) (f : Int → Int) : Prop :=
  ∃ D : DataW Unit, w.ownsMap Try.prog 3 (plainElem Try.prog 3) b n D ∧ IsMap D ∧ ∀ x : Int, D.atKey (.int .i64 x) (.lit (.int .i64 0)) = .lit (.int .i64 (f x))
theorem MapI.made (w : World) : MapI (w.alloc (.map #[] 0)) w.heap.size 0 fun _ => 0 := ⟨.map [], World.ownsMap_made _ _ _ _, isMap_empty, fun _ => rfl⟩
theorem MapI.mono {w : World} {b n m : Nat} {f : Int → Int} (h : MapI w b n f) (hn : n ≤ m) : MapI w b m f := by
  obtain ⟨D, h1, h2⟩ := h
  exact ⟨D, h1.mono hn, h2⟩
theorem MapI.keep {w w' : World} {b n : Nat} {f : Int → Int} {S : Nat → Prop} (h : MapI w b n f) (t : Turn S w w') (hS : ¬ S b) : MapI w' b n f := by
  obtain ⟨D, ⟨es, cl, h1, h3⟩, h2⟩ := h
  exact ⟨D, ⟨es, cl, (t.block b (lt_of_heap h1) hS).trans h1, h3⟩, h2⟩
theorem MapI.ext {w w' : World} {b n : Nat} {f : Int → Int} (h : MapI w b n f) (e : Ext w w') : MapI w' b n f := by
  obtain ⟨D, ⟨es, cl, h1, h3⟩, h2⟩ := h
  exact ⟨D, ⟨es, cl, ext_block h1 e, h3⟩, h2⟩
theorem MapI.lt {w : World} {b n : Nat} {f : Int → Int} (h : MapI w b n f) : b < w.heap.size := by
  obtain ⟨D, h1, _⟩ := h
  exact h1.lt
theorem wf_int {x : Int} (h1 : -9223372036854775808 ≤ x) (h2 : x ≤ 9223372036854775807) : (Lit.int .i64 x).wf = true := by
  simp [Lit.wf, IntKind.min, IntKind.max, IntKind.signed, IntKind.bits]
  omega
theorem look_map {w : World} {ops : Array Oper} {rest : List Oper} {o : Oper} {a : Act} {Q : Exit → Act → World → Prop} (hg : o.guard = none) (m x : Operand) (hop : o.op = Op.lookup 33 m x false)
    (b n : Nat) (f : Int → Int) (hm : a.eval m = .map (some b)) (h : MapI w b n f) (k : Int) (hx : a.eval x = .int .i64 k) (h1 : -9223372036854775808 ≤ k) (h2 : k ≤ 9223372036854775807)
    (hK : wpList Try.prog ops Q rest (a.put o.dst (.int .i64 (f k))) w) : wpList Try.prog ops Q (o :: rest) a w := by
  obtain ⟨D, h3, _, h4⟩ := h
  refine wpList_lookup_own_int w hg m x 33 hop 3 3 .i64 law_int Try.underlying33 Try.underlying3 (zero_int w) b n D hm h3 _ (.int .i64 k) hx (keyOf_int_mk Try.underlying3 (wf_int h1 h2)) fun c hc _ => ?_
  rw [h4] at hc
  injection hc with hc
  injection hc with _ hc
  rw [← hc]
  exact hK
theorem put_map {w : World} {ops : Array Oper} {rest : List Oper} {o : Oper} {a : Act} {Q : Exit → Act → World → Prop} (hg : o.guard = none) (m x v : Operand) (hop : o.op = Op.mapUpdate 33 m x v)
    (b n : Nat) (f : Int → Int) (hm : a.eval m = .map (some b)) (h : MapI w b n f) (hn : n ≤ 1000000000) (k u : Int) (hx : a.eval x = .int .i64 k) (hv : a.eval v = .int .i64 u) (h1 : -9223372036854775808 ≤ k) (h2 : k ≤ 9223372036854775807)
    (h3 : -9223372036854775808 ≤ u) (h4 : u ≤ 9223372036854775807) (w0 : World) (he : Ext w0 w) (hb : w0.heap.size ≤ b)
    (hK : ∀ w', MapI w' b (n + 1) (fun y => if y = k then u else f y) → Turn (fun i => i = b) w w' → Ext w0 w' → wpList Try.prog ops Q rest (a.put o.dst undef) w') : wpList Try.prog ops Q (o :: rest) a w := by
  obtain ⟨D, h5, h6, h7⟩ := h
  refine wpList_mapUpdate_own w hg m x v 33 hop 3 3 law_int Try.underlying33 _ b n D hm h5 (by unfold maxLen; omega) _ _ (.int .i64 k) hx hv (keyOf_int_mk Try.underlying3 (wf_int h1 h2)) _ [] (plainElem_int Try.underlying3 (wf_int h3 h4)) fun w' ho hgr => ?_
  refine hK w' ⟨_, ho, h6.put _ _, fun y => ?_⟩ (Turn.grown hgr fun i hi _ => by injection hi with hi; exact hi.symm) (he.grown hgr fun g hg => by injection hg with hg; omega)
  show _ = DataW.lit (.int .i64 (if y = k then u else f y))
  by_cases hy : y = k
  · rw [if_pos hy, hy, atKey_put_same h6 (by trivial)]
  · rw [if_neg hy, atKey_put_other (fun he => hy (by injection he)), h7]
/-- each job, up to place k, turned by F -/
def upTo (F : Dt → Dt) (ds : List Dt) (k : Nat) : List Dt := (ds.take k).map F ++ ds.drop k
theorem upTo_zero (F : Dt → Dt) (ds : List Dt) : upTo F ds 0 = ds := by simp [upTo]
theorem upTo_all (F : Dt → Dt) (ds : List Dt) : upTo F ds ds.length = ds.map F := by simp [upTo]
theorem upTo_length (F : Dt → Dt) (ds : List Dt) (k : Nat) : (upTo F ds k).length = ds.length := by simp [upTo]; omega
theorem upTo_get (F : Dt → Dt) {ds : List Dt} {k : Nat} (h : k < ds.length) : (upTo F ds k).getD k d0 = ds.getD k d0 := by
  unfold upTo
  rw [List.getD_eq_getElem?_getD, List.getD_eq_getElem?_getD, List.getElem?_append_right (by simp; omega), List.getElem?_drop]
  congr 2
  simp
  omega
theorem upTo_step (F : Dt → Dt) {ds : List Dt} {k : Nat} (h : k < ds.length) : (upTo F ds k).set k (F (ds.getD k d0)) = upTo F ds (k + 1) := by
  unfold upTo
  have h1 : ((ds.take k).map F).length = k := by simp; omega
  rw [List.set_append_right _ _ (by omega), h1, Nat.sub_self, take_succ' ds k h, List.map_append, List.append_assoc]
  congr 1
  rw [show ds.drop k = ds[k] :: ds.drop (k + 1) from List.drop_eq_getElem_cons h, List.set_cons_zero, getD_at h]
  rfl
theorem upTo_same (F : Dt → Dt) {ds : List Dt} {k : Nat} (h : k < ds.length) (hF : F (ds.getD k d0) = ds.getD k d0) : upTo F ds (k + 1) = upTo F ds k := by
  rw [← upTo_step F h, hF, ← upTo_get F h]
  rw [getD_at (by rw [upTo_length]; exact h)]
  exact List.set_getElem_self _
theorem dv_set (ds : List Dt) (k : Nat) (hk : k < ds.length) (a : Int) : (dv ds).set (k * 5 + 3) (.int .i64 a) = dv (ds.set k { ds.getD k d0 with age := a }) := by
  induction ds generalizing k with
  | nil => simp at hk
  | cons x X ih =>
    cases k with
    | zero => rw [dv_cons]; rfl
    | succ k =>
      rw [dv_cons, show (k + 1) * 5 + 3 = k * 5 + 3 + 1 + 1 + 1 + 1 + 1 by omega]
      simp only [List.set_cons_succ]
      rw [ih k (by simpa using hk), dv_cons]
      rfl
/-- an age of a row of the call's own is written -/
theorem OwnD.age {w : World} {base g c : Nat} {ds : List Dt} (h : OwnD w base (some ⟨g, 0, none⟩) c ds) {k : Nat} (hk : k < ds.length) (a : Int) :
    OwnD (w.setCell ⟨g, k * 5 + 3, none⟩ (.int .i64 a)) base (some ⟨g, 0, none⟩) c (ds.set k { ds.getD k d0 with age := a }) := by
  obtain ⟨h1, h2⟩ := h
  unfold OwnD
  rw [List.length_set, ← dv_set ds k hk a]
  refine ⟨by rw [List.length_set]; exact h1, ?_⟩
  rcases h2 with ⟨h2, _⟩ | ⟨g', cap, cur, h2, h3, h4, h5, h6, h7, h8⟩
  · cases h2
  · injection h2 with a1 a2 a3
    injection a1 with a1
    injection a1 with a1
    subst a1 a3
    refine .inr ⟨g, c, cur.setIfInBounds (k * 5 + 3) (.int .i64 a), rfl, h3, by simp [World.setCell, Array.getElem?_modify, h4], h5, h6, by rw [Array.size_setIfInBounds]; exact h7, ?_⟩
    rw [Array.toList_setIfInBounds, List.take_set, h8]
theorem OwnD.at {w : World} {base c : Nat} {A : Option Addr} {ds : List Dt} (h : OwnD w base A c ds) (h0 : 0 < ds.length) : ∃ g, A = some ⟨g, 0, none⟩ ∧ base ≤ g ∧ g < w.heap.size ∧ ∀ k, w.frozen? ⟨g, k, none⟩ = false := by
  rcases h.2 with ⟨_, h2⟩ | ⟨g', cap, cur, h2, h3, h4, h5⟩
  · omega
  · injection h2 with a1 a2 a3
    subst a1
    exact ⟨g', rfl, h3, lt_of_heap h4, fun k => by simp [World.frozen?, h4]⟩
theorem Jobs.cells {w : World} {A : Option Addr} {ds : List Dt} (h : Jobs w A ds) : CellsAt w A (dv ds) := fun h0 => by
  rw [dv_length] at h0
  obtain ⟨b, off, hA, hb, hc⟩ := h (by omega)
  refine ⟨b, off, hA, hb, fun j v hj => ?_⟩
  have hjl := (List.getElem?_eq_some_iff.1 hj).1
  rw [dv_length] at hjl
  obtain ⟨k, r, hr, rfl⟩ : ∃ k r, r < 5 ∧ j = k * 5 + r := ⟨j / 5, j % 5, by omega, by omega⟩
  obtain ⟨g0, g1, g2, g3, g4⟩ := dv_get ds k (by omega)
  obtain ⟨c0, c1, c2, c3, c4⟩ := hc k (by omega)
  have hr5 : r = 0 ∨ r = 1 ∨ r = 2 ∨ r = 3 ∨ r = 4 := by omega
  rcases hr5 with rfl | rfl | rfl | rfl | rfl
  · exact c0.trans (g0.symm.trans hj)
  · exact c1.trans (g1.symm.trans hj)
  · exact c2.trans (g2.symm.trans hj)
  · exact c3.trans (g3.symm.trans hj)
  · exact c4.trans (g4.symm.trans hj)
set_option maxRecDepth 100000 in
set_option maxHeartbeats 2000000 in
theorem clonej_any (A : Option Addr) (c : Nat) (ds : List Dt) (w : World) (h : Jobs w A ds) (hn : A = none → c = 0) (hl : ds.length ≤ 100000) :
    Calls Try.prog 20 #[.slice A ds.length c] w (JobsRet w ds) := by
  have e54 := fun w1 a n c => Lib.run_eql_slice_nil (P := Try.prog) w1 22 31 a n c 0 0 Try.underlying22
  cases A with
  | none =>
    have hd : ds = [] := by
      cases ds with
      | nil => rfl
      | cons x X => obtain ⟨b, off, hA, _⟩ := h (by simp); cases hA
    subst hd
    obtain rfl := hn rfl
    clear h hn
    go_enter Try.func20, Try.ntmps20
    go_wp2_with fail
    go_ret
    exact ⟨none, 0, rfl, OwnD.nil _ _, Ext.refl _⟩
  | some ad =>
    have HC : Hid (CellsAt w (some ad) (dv ds)) := Lib.hid h.cells
    have HE : Hid (OwnD (w.alloc (.cells #[] 31)) w.heap.size (some ⟨w.heap.size, 0, none⟩) 0 []) := Lib.hid (own_lit w w.heap.size _ 5 _ 0 _ rfl (Nat.le_refl _) rfl (by unfold maxLen; omega))
    clear h hn
    go_enter Try.func20, Try.ntmps20
    go_wp2_with (at_builtin; refine app_job w (by rfl) (.tmp 5) (.tmp 6) rfl (ds := []) ⟨_, 0, rfl, HE.out⟩ _ _ c ds rfl rfl rfl (by intro h; cases h) (HC.out.ext (by repeat (first | exact Ext.refl _ | refine Ext.alloc ?_ _ | refine Ext.more ?_ _ _ | refine Ext.drew ?_ | refine Ext.drewN ?_ _ | refine Ext.setCell ?_ (by simp <;> omega) _))) (by simp; omega) (by repeat (first | exact Ext.refl _ | refine Ext.alloc ?_ _ | refine Ext.more ?_ _ _ | refine Ext.drew ?_ | refine Ext.drewN ?_ _ | refine Ext.setCell ?_ (by simp <;> omega) _)) ?_; intro v7 w7 hr7 hx7)
    obtain ⟨A7, c7, rfl, ho7⟩ := hr7
    have HO7 := Lib.hid ho7
    clear ho7
    simp only [List.nil_append] at HO7
    go_ret
    exact ⟨A7, c7, rfl, HO7.out, hx7⟩
end Go.Proofs.Ytmgpofdmfmeljaa
