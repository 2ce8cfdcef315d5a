/- The heap as the things in order; Clone, All. -/
import Derived.Test.YtmgpofdmfmeljaaJh
import Derived.Test.YtmgpofdmfmeljaaTk
import Derived.OwnWalkIn
import Derived.TacticsInMore
import Derived.LoopNIn
import Derived.LoopIn
import Derived.Deep.LoopGhost
import Derived.WalkSpells
import Derived.WalkLawsBesides
import Derived.BigRegion
import Derived.Deep.RegionWith
import Derived.Deep.QuietTactic
import Derived.Deep.DeepCutAuto
import Derived.Deep.RegionHeld3
import Derived.Deep.RegionLaw
import Derived.BigQuiet
import Derived.Lib.Hide
namespace Go.Proofs.Ytmgpofdmfmeljaa
open Go.RowKit
attribute [local go_sem] more_drew more_drewN more_size more_cell more_frozen more_setCell drew_more drewN_more lt_add_r lt_add_r2 lt_add_r3 lt_add_r4 lt_add_r5 lt_add_r6 lt_add_r7 lt_add_r8 lt_add_r9 lt_add_r10 lt_self_r lt_self_r2

attribute [local go_sem] Oper.semAt_some
/-- the heap as things in order -/
def HeapM (w : World) (p : Nat) (o : Od) (v : Value) (R : List It) (c : Int) : Prop := ∃ X, HeapAt w p o v X c ∧ Models o.k X R
/-- the same; the next one's number is c -/
def HeapR (w : World) (p : Nat) (o : Od) (v : Value) (R : List It) (c : Int) : Prop := HeapM w p o v R c ∧ 0 ≤ c ∧ ∀ y ∈ R, y.1 < c
/-- all blocks of the heap's lie from B on -/
def From (B p : Nat) (v : Value) : Prop := ∀ b, mine p v b → B ≤ b
theorem From.new (B p : Nat) (h : B ≤ p) : From B p (.slice none 0 0) := fun b hb => hb.elim (fun e => by omega) (fun e => by cases e)
section
variable {w w' : World} {p : Nat} {o : Od} {v : Value} {R : List It} {c : Int}
theorem HeapM.lt (h : HeapM w p o v R c) : p < w.heap.size := by
  obtain ⟨X, h, _⟩ := h
  exact h.lt
theorem HeapM.ord (h : HeapM w p o v R c) : o.At w := by
  obtain ⟨X, h, _⟩ := h
  exact h.ord
theorem HeapM.turn (h : HeapM w p o v R c) {S : Nat → Prop} (t : Turn S w w') (hS : ∀ b, mine p v b → ¬ S b) (h1 : ¬ S o.bl) (h2 : ¬ S o.bv) (h3 : ¬ S o.bw) : HeapM w' p o v R c := by
  obtain ⟨X, h, hm⟩ := h
  exact ⟨X, h.turn t (hS p (.inl rfl)) (fun g hg => hS g (.inr hg)) h1 h2 h3, hm⟩
theorem HeapM.ext (h : HeapM w p o v R c) (e : Ext w w') : HeapM w' p o v R c := by
  obtain ⟨X, h, hm⟩ := h
  exact ⟨X, h.ext e, hm⟩
theorem HeapM.other (h : HeapM w p o v R c) {b : Nat} {cs : Array Value} {T : TypeId} (hb : w.heap[b]? = some (.cells cs T)) (h1 : T ≠ 59) (h2 : T ≠ 63) : ¬ mine p v b := by
  obtain ⟨X, h, _⟩ := h
  exact h.other hb h1 h2
theorem HeapM.mine_lt (h : HeapM w p o v R c) {b : Nat} (hb : mine p v b) : b < w.heap.size := by
  obtain ⟨X, h, _⟩ := h
  rcases hb with rfl | hb
  · exact h.lt
  · exact own_old h.row b hb
theorem HeapM.row_lt (h : HeapM w p o v R c) : ∃ A cap, v = .slice A R.length cap ∧ R.length ≤ cap ∧ cap ≤ maxLen := by
  obtain ⟨X, h, hm⟩ := h
  obtain ⟨A, cap, hv, h1, h2, _⟩ := h.val
  rw [models_length hm] at hv h1
  exact ⟨A, cap, hv, h1, h2⟩
theorem From.moves {B : Nat} {v' : Value} (hB : From B p v) (hs : B ≤ w.heap.size) (m : Moves p v v' w w') : From B p v' := fun b hb =>
  (m.own b hb).elim (hB b) fun hle => Nat.le_trans hs hle
theorem newM (o : Od) (w : World) (h : o.At w) : HeapR (w.alloc (.cells #[o.V, .slice none 0 0, .int .i64 0] 59)) w.heap.size o (.slice none 0 0) [] 0 := ⟨⟨[], new_heap o w h, models_nil o.k⟩, by omega, by simp⟩
theorem putR (d : Dt) (hX : R.length ≤ 100000) (hc1 : c ≤ 100000) (h : HeapR w p o v R c) :
    Calls Try.prog 25 #[.pointer (some ⟨p, 0, none⟩), agD d] w fun e w' => e = .returned (.tuple #[]) ∧ ∃ v', HeapR w' p o v' (insL o.k R (c, d)) (c + 1) ∧ Moves p v v' w w' := by
  obtain ⟨⟨X, h, hm⟩, h0, hc⟩ := h
  refine (put_any d (by rw [models_length hm]; exact hX) h0 hc1 w h).mono ?_
  rintro e w' ⟨he, v', h', m⟩
  refine ⟨he, v', ⟨⟨_, h', put_models hm hc⟩, by omega, fun y hy => ?_⟩, m⟩
  rcases (insL_mem _ _ _ _).1 hy with hy | rfl
  · have := hc y hy
    omega
  · show c < c + 1
    omega
theorem leastM (h : HeapM w p o v R c) :
    Calls Try.prog 19 #[.pointer (some ⟨p, 0, none⟩)] w fun e w' => e = .returned (.tuple #[agD (R.getD 0 z6).2, .bool (decide (0 < R.length))]) ∧ Ext w w' := by
  obtain ⟨X, h, hm⟩ := h
  refine (least_any w h).mono ?_
  rintro e w' ⟨he, hx⟩
  refine ⟨?_, hx⟩
  rw [he, models_length hm]
  cases R with
  | nil =>
    obtain rfl : X = [] := List.eq_nil_of_length_eq_zero (models_length hm)
    rfl
  | cons r R => rw [least_models hm]; rfl
theorem takeU (hX : R.length ≤ 100000) (h : HeapM w p o v R c) :
    Calls Try.prog 29 #[.pointer (some ⟨p, 0, none⟩)] w fun e w' => e = .returned (.tuple #[agD (R.getD 0 z6).2, .bool (decide (0 < R.length))]) ∧ ∃ v', HeapM w' p o v' (R.drop 1) c ∧ Moves p v v' w w' := by
  have hh := h
  obtain ⟨X, h, hm⟩ := h
  cases R with
  | nil =>
    obtain rfl : X = [] := List.eq_nil_of_length_eq_zero (models_length hm)
    refine (take_nil w h).mono ?_
    rintro e w' ⟨he, ext⟩
    exact ⟨he, v, hh.ext ext, Moves.of_ext ext⟩
  | cons r R =>
    have hl := models_length hm
    simp at hl hX
    refine (take_any w (by omega) (by omega) h).mono ?_
    rintro e w' ⟨he, v', h', m⟩
    rw [least_models hm] at he
    exact ⟨by rw [he]; simp, v', ⟨_, h', take_models hm⟩, m⟩
end
theorem flat_one' (X : List It) : ∀ u ∈ flat X, u.oneCell' = true := by
  intro u hu
  obtain ⟨x, _, hx⟩ := List.mem_flatMap.1 hu
  simp only [enc6, dCells, List.mem_cons, List.not_mem_nil, or_false] at hx
  rcases hx with rfl | rfl | rfl | rfl | rfl | rfl <;> rfl
set_option maxRecDepth 100000 in
set_option maxHeartbeats 3000000 in
theorem clone_any {p : Nat} {o : Od} {v : Value} {X : List It} {c : Int} (hX : X.length ≤ 100000) (w : World) (h : HeapAt w p o v X c) :
    Calls Try.prog 28 #[v] w fun e w' => ∃ v', e = .returned v' ∧ w'.ownsRow w.heap.size 63 6 v' X.length (flat X) ∧ Ext w w' := by
  obtain ⟨i60, hi, hz0, hz1, hz2⟩ := info_parts infoIt
  obtain ⟨A, cap, hv, hcA, hc1, hc2, hc3⟩ := own_cells h.row
  subst hv
  have e54 := fun w1 a n c => Lib.run_eql_slice_nil (P := Try.prog) w1 57 63 a n c 0 0 Try.underlying57
  cases A with
  | none =>
    obtain rfl : cap = 0 := hc3 rfl
    have hX0 : X = [] := List.eq_nil_of_length_eq_zero (by omega)
    subst hX0
    clear h hcA
    go_enter Try.func28, Try.ntmps28
    go_wp2_with fail
    go_ret
    exact ⟨_, rfl, World.ownsRow_nil _ _ _ _, Ext.refl _⟩
  | some ad =>
    have HC := Lib.hid hcA
    clear hcA h hc3
    go_enter Try.func28, Try.ntmps28
    go_wp2_with (at_builtin; refine wpList_append_cells _ (by rfl) (.tmp 5) (.tmp 6) 57 rfl w.heap.size 63 i60 _ 6 48 Try.underlying57 hi hz0 hz1 hz2 rfl (by omega) (.slice (some ⟨w.heap.size, 0, none⟩) 0 0) 0 [] rfl (own_lit _ _ _ _ _ 0 _ rfl (Nat.le_refl _) rfl (by unfold maxLen; omega)) (some ad) X.length cap (flat X) rfl (by intro h; cases h) (flat_length X) (HC.out.ext (by repeat (first | exact Ext.refl _ | refine Ext.alloc ?_ _ | refine Ext.more ?_ _ _ | refine Ext.drew ?_ | refine Ext.drewN ?_ _ | refine Ext.setCell ?_ (by simp <;> omega) _))) (flat_one' X) (by unfold maxLen; omega) (by omega) (by simp <;> omega) ?_; intro v7 w7 hown7 hg7 hat7)
    go_ret
    refine ⟨v7, rfl, by simpa using hown7, Ext.of_below ?_⟩
    refine ((Below.refl _ w).alloc (Nat.le_refl _) _).grown hg7 (by simp) (fun g hg => ?_)
    simp [Value.ownBlock] at hg
    omega
theorem own_baseX {w : World} {base base' : Nat} {e : TypeId} {size : Nat} {v : Value} {n : Nat} {xs : List Value} (h : w.ownsRow base e size v n xs) (hb : base' ≤ base) : w.ownsRow base' e size v n xs :=
  ⟨h.1, h.2.imp id fun ⟨g, cap, cur, h1, h2, h3⟩ => ⟨g, cap, cur, h1, Nat.le_trans hb h2, h3⟩⟩
def encIt (d : Dt) : Array Value := #[agD d]
set_option maxRecDepth 100000 in
set_option maxHeartbeats 3000000 in
theorem all_any (p : Nat) (w : World) : Calls Try.prog 21 #[.pointer (some ⟨p, 0, none⟩)] w fun e w' => e = .returned (.func (.func 27) #[] #[.pointer (some ⟨w.heap.size, 0, none⟩)]) ∧ w' = w.alloc (.cells #[.pointer (some ⟨p, 0, none⟩)] 46) := by
  go_enter Try.func21, Try.ntmps21
  go_wp2_with fail
  go_ret
  exact ⟨rfl, rfl⟩
def dArr (d : Dt) : Array Value := #[.int .i64 d.slot, .int .i64 d.lo, .int .i64 d.hi, .int .i64 d.age, .int .i64 d.lev]
/-- the iterator's own things, the j-th in the box bs; K: the blocks that are the caller's -/
structure AllAt (B q bs : Nat) (o : Od) (R : List It) (j : Nat) (K : Nat → Prop) (wr : World) (v : Value) (d : Dt) : Prop where
  heap : HeapM wr q o v (R.drop (j + 1)) 0
  fr : From B q v
  low1 : B ≤ bs
  box : wr.heap[bs]? = some (.cells (dArr d) 31)
  it : (R.getD j z6).2 = d
  k1 : ∀ b, mine q v b → ¬ K b
  k2 : ¬ K bs
  o1 : ¬ K o.bl
  o2 : ¬ K o.bv
  o3 : ¬ K o.bw
  low : o.bl < B ∧ o.bv < B ∧ o.bw < B
/-- a job laid into its box -/
def setD5 (w : World) (b : Nat) (d : Dt) : World := ((((w.setCell ⟨b, 0, none⟩ (.int .i64 d.slot)).setCell ⟨b, 1, none⟩ (.int .i64 d.lo)).setCell ⟨b, 2, none⟩ (.int .i64 d.hi)).setCell ⟨b, 3, none⟩ (.int .i64 d.age)).setCell ⟨b, 4, none⟩ (.int .i64 d.lev)
theorem setD5_turn (w : World) (b : Nat) (d : Dt) : Turn (fun k => k = b) w (setD5 w b d) := by
  have T : ∀ (W : World) (k : Nat) (u : Value), Turn (fun k => k = b) W (W.setCell ⟨b, k, none⟩ u) := fun W k u => Turn.setCell (S := fun k => k = b) W (p := ⟨b, k, none⟩) rfl u
  exact ((((T w 0 _).trans (T _ 1 _)).trans (T _ 2 _)).trans (T _ 3 _)).trans (T _ 4 _)
theorem setD5_at {w : World} {b : Nat} {d0 : Dt} {T : TypeId} (h : w.heap[b]? = some (.cells (dArr d0) T)) (d : Dt) : (setD5 w b d).heap[b]? = some (.cells (dArr d) T) := by
  unfold dArr at h
  simp [setD5, World.setCell, Array.getElem?_modify, h, dArr]
theorem getD_drop (R : List It) (j : Nat) : (R.drop (j + 1)).getD 0 z6 = R.getD (j + 1) z6 := by rw [List.getD_eq_getElem?_getD, List.getD_eq_getElem?_getD, List.getElem?_drop, Nat.add_zero]
set_option maxRecDepth 100000 in
set_option maxHeartbeats 4000000 in
theorem all_iter {p : Nat} {o : Od} {v : Value} {R : List It} {c : Int} (w1 : World) (bx : Nat) (S : Nat → Prop) (RR : Nat → World → Prop) (h : HeapM w1 p o v R c) (hbx : w1.heap[bx]? = some (.cells #[.pointer (some ⟨p, 0, none⟩)] 46)) (hR : R.length ≤ 100000)
    (s1 : ¬ S o.bl) (s2 : ¬ S o.bv) (s3 : ¬ S o.bw) :
    IterK Try.prog 27 #[.pointer (some ⟨bx, 0, none⟩)] encIt (R.map fun r => r.2) S RR w1 := by
  intro l J Jx K0 hSl hll hK0 hJ hKb hJx hRR hY h0
  have hlow : o.bl < w1.heap.size ∧ o.bv < w1.heap.size ∧ o.bw < w1.heap.size := ⟨lt_of_heap h.ord.late, lt_of_heap h.ord.view, lt_of_heap h.ord.wait⟩
  obtain ⟨X, hX, hm⟩ := h
  have hb0 := cell_of_row _ _ 0 _ _ _ hbx
  simp at hb0
  have hbl := lt_of_heap hbx
  have hpl := hX.lt
  obtain ⟨c0, c1, c2⟩ := hX.cell
  have NO := Lib.hid (fun w1 g1 => none_any (p := p) (o := o) (v := v) (X := X) (c := c) w1 g1)
  have CL := Lib.hid (fun w1 g1 => clone_any (p := p) (o := o) (v := v) (X := X) (c := c) (by rw [models_length hm]; exact hR) w1 g1)
  have HX := Lib.hid hX
  have HM := Lib.hid hm
  have HY := Lib.hid hY
  have HJ := Lib.hid hJ
  have HKB := Lib.hid hKb
  have HK0 := Lib.hid hK0
  have H0 := Lib.hid h0
  have HLO := Lib.hid hlow
  have HS := Lib.hid (show (¬ S o.bl ∧ ¬ S o.bv ∧ ¬ S o.bw) ∧ S l ∧ l < w1.heap.size from ⟨⟨s1, s2, s3⟩, hSl, hll⟩)
  clear hY hJ hJx h0 hX hm hKb hK0 hRR hSl hll hlow s1 s2 s3
  simp only [List.append_toArray, List.cons_append, List.nil_append]
  go_enter Try.func27, Try.ntmps27
  go_wp2_with (first | (go_at_call 26; refine (NO.out _ (HX.out.ext (by repeat (first | exact Ext.refl _ | refine Ext.alloc ?_ _ | refine Ext.more ?_ _ _ | refine Ext.drew ?_ | refine Ext.drewN ?_ _ | refine Ext.setCell ?_ (by simp <;> omega) _)))).mono ?_; rintro e w2 ⟨rfl, os1, k1, rfl⟩))
  have HE := Lib.hid (show Ext w1 (more w1 os1 k1) from ⟨os1, k1, rfl⟩)
  generalize hW : more w1 os1 k1 = W at *
  clear hW
  have d0 := (cell_of_row _ _ 0 _ _ _ ((HE.out.below.block bx hbl).trans hbx))
  obtain ⟨e0, e1, e2⟩ := (HX.out.ext HE.out).cell
  have hbW := Nat.lt_of_lt_of_le hbl HE.out.size
  have hpW := Nat.lt_of_lt_of_le hpl HE.out.size
  simp at d0
  unfold Od.V ordV at e0
  clear hb0 c0 c1 c2 hbl hpl hbx
  go_upto_region 1 with fail
  refine wp_region_bt (12) (softs_bt [0, 1, 2, 3, 4, 5, 6, 7] (.step 8 (softs_bt [9] (.step 10 (softs_bt [11] .fin))))) (by kernel_rfl) (by kernel_rfl) ?_
  (refine bt_softs _ fun K hK => ?_); (simp only [pick, nthC]); (repeat (go_big_quiet_step (fail))); (refine wpQuiet_nil (hK _ ?_)); (clear hK K)
  (refine bt_step fun next hn => ?_); (simp only [pick, nthC])
  go_wp2_with fail
  refine (CL.out _ ((HX.out.ext HE.out).ext (by repeat (first | exact Ext.refl _ | refine Ext.alloc ?_ _ | refine Ext.more ?_ _ _ | refine Ext.drew ?_ | refine Ext.drewN ?_ _ | refine Ext.setCell ?_ (by simp <;> omega) _)))).mono ?_
  rintro e w5 ⟨v5, rfl, hown5, hx5⟩
  obtain ⟨A5, cap5, rfl, _⟩ := own_cells hown5
  have HW5 := Lib.hid hown5
  have X5 : Hid (Ext W w5) := Lib.hid (Ext.trans (by repeat (first | exact Ext.refl _ | refine Ext.alloc ?_ _ | refine Ext.more ?_ _ _ | refine Ext.drew ?_ | refine Ext.drewN ?_ _ | refine Ext.setCell ?_ (by simp <;> omega) _)) hx5)
  clear hown5 hx5
  go_wp2_with fail
  refine segQ_mk (fun _ => laid X5.out) (hn _ _ ?_)
  clear hn next
  (refine bt_softs _ fun K hK => ?_); (simp only [pick, nthC]); (repeat (go_big_quiet_step (fail))); (refine wpQuiet_nil (hK _ ?_)); (clear hK K)
  (refine bt_step fun next hn => ?_); (simp only [pick, nthC])
  go_wp2_with fail
  refine segQ_mk (fun _ => laid (X5.out.alloc _)) (hn _ _ ?_)
  clear hn next
  (refine bt_softs _ fun K hK => ?_); (simp only [pick, nthC]); (repeat (go_big_quiet_step (fail))); (refine wpQuiet_nil (hK _ ?_)); (clear hK K)
  (refine bt_fin ?_)
  obtain ⟨q, hq⟩ : ∃ q, w5.heap.size = q := ⟨_, rfl⟩
  obtain ⟨W6, hW6⟩ : ∃ W6, w5.alloc (.cells #[o.V, .slice A5 X.length cap5, .int .i64 0] 59) = W6 := ⟨_, rfl⟩
  obtain ⟨B, hB⟩ : ∃ B, w1.heap.size = B := ⟨_, rfl⟩
  have hBq : B ≤ q := by have := HE.out.size; have := X5.out.size; omega
  have HQ : Hid (HeapM W6 q o (.slice A5 X.length cap5) R 0) := Lib.hid (by
    rw [← hW6, ← hq]
    exact ⟨X, ⟨heap_alloc_new w5 _, own_ext (own_baseX HW5.out (Nat.zero_le _)) ((Ext.refl _).alloc _), OrdAt.ext HX.out.ord ((HE.out.trans X5.out).trans ((Ext.refl _).alloc _))⟩, HM.out⟩)
  have HF : Hid (From B q (.slice A5 X.length cap5)) := Lib.hid (by
    have := HE.out.size
    rintro b (rfl | hb)
    · exact hBq
    · have := own_block HW5.out b hb
      simp at this
      omega)
  have X6 : Hid (Ext w1 W6) := Lib.hid (by rw [← hW6]; exact (HE.out.trans X5.out).alloc _)
  have HJ0 : Hid (J 0 K0 W6) := Lib.hid (HJ.out _ _ _ _ (Turn.of_ext X6.out) H0.out)
  have KN : Hid (∀ b, B ≤ b → ¬ K0 b) := Lib.hid (fun b hb hk => by have := (HK0.out b hk).2; omega)
  have KO : Hid (¬ K0 o.bl ∧ ¬ K0 o.bv ∧ ¬ K0 o.bw) := Lib.hid ⟨fun hk => HS.out.1.1 (HK0.out _ hk).1, fun hk => HS.out.1.2.1 (HK0.out _ hk).1, fun hk => HS.out.1.2.2 (HK0.out _ hk).1⟩
  rw [hB] at HLO HS
  have HBB := Lib.hid hB
  unfold Od.V ordV at hW6
  rw [hW6, hq]
  clear hW6 hq hB NO CL HX HM H0 HE X5 X6 HW5 d0 e0 e1 e2 hbW hpW HK0
  have CT := takeU hR HQ.out
  unfold agD at CT
  have HCT := Lib.hid CT
  clear CT
  go_wp2_with fail
  refine HCT.out.mono ?_
  rintro e w6 ⟨rfl, v6, h6, m6⟩
  obtain ⟨d, hd⟩ : ∃ d, (R.getD 0 z6).2 = d := ⟨_, rfl⟩
  rw [hd]
  have hsz6 : B ≤ w6.heap.size := Nat.le_trans hBq (Nat.le_of_lt h6.lt)
  have T6 : Turn (fun b => B ≤ b ∧ ¬ K0 b) W6 w6 := m6.turn.mono fun b _ hb => ⟨HF.out b hb, KN.out b (HF.out b hb)⟩
  have HA0 : Hid (AllAt B q w6.heap.size o R 0 K0 (w6.alloc (.cells (dArr d) 31)) v6 d) := Lib.hid
    ⟨h6.ext ((Ext.refl _).alloc _), HF.out.moves (Nat.le_trans hBq (Nat.le_of_lt HQ.out.lt)) m6, hsz6, heap_alloc_new _ _, hd, fun b hb => KN.out b (HF.out.moves (Nat.le_trans hBq (Nat.le_of_lt HQ.out.lt)) m6 b hb), KN.out _ hsz6, KO.out.1, KO.out.2.1, KO.out.2.2, HLO.out⟩
  have HJ1 : Hid (J 0 K0 (w6.alloc (.cells (dArr d) 31))) := Lib.hid (HJ.out _ _ _ _ (by rw [HBB.out]; exact T6.trans (Turn.of_ext ((Ext.refl _).alloc _))) HJ0.out)
  unfold dArr at HA0 HJ1
  clear hd h6 m6 T6 HQ HF HJ0 KN KO HCT
  go_wp2_with fail
  go_loopg [4, 5] R.length (fun g s4 s5 wr => ∃ (j bs : Nat) (K : Nat → Prop) (v7 : Value) (d : Dt), j ≤ R.length ∧ Hid (g = R.length - j) ∧ s4 = .pointer (some ⟨bs, 0, none⟩) ∧ s5 = .bool (decide (j < R.length)) ∧ Hid (AllAt B q bs o R j K wr v7 d) ∧ Hid (J j K wr))
  case atStart => exact ⟨0, _, K0, v6, d, Nat.zero_le _, Lib.hid rfl, rfl, rfl, HA0, HJ1⟩
  case round =>
    obtain ⟨j, bs, K, v7, d, hj, hg, rfl, rfl, hA, hJj⟩ := hrel
    clear HA0 HJ1
    by_cases hlt : j < R.length
    · have hd : decide (j < R.length) = true := by simp [hlt]
      rw [hd]
      have hbb := hA.out.box
      have x0 := cell_of_row _ _ 0 _ _ _ hbb
      have x1 := cell_of_row _ _ 1 _ _ _ hbb
      have x2 := cell_of_row _ _ 2 _ _ _ hbb
      have x3 := cell_of_row _ _ 3 _ _ _ hbb
      have x4 := cell_of_row _ _ 4 _ _ _ hbb
      simp [dArr] at x0 x1 x2 x3 x4
      have hq7 := hA.out.heap.lt
      have hb7 := lt_of_heap hbb
      have hB7 : B ≤ wr.heap.size := by have := hA.out.low1; omega
      obtain ⟨fn, tmps, assign, body, hy, hRound⟩ := HY.out j d K wr (by
        rw [List.getElem?_map, List.getElem?_eq_getElem hlt]
        have := hA.out.it
        rw [List.getD_eq_getElem?_getD, List.getElem?_eq_getElem hlt] at this
        rw [← this]
        rfl) (by rw [HBB.out]; exact hB7) hJj.out
      unfold encIt agD at hy
      have HR7 := Lib.hid hRound
      have HB7 := Lib.hid hB7
      clear hRound hbb hJj hd
      go_upto_region 5 with fail
      refine (wpIn_wide (n := 1)).1 ?_
      gi_wp2
      refine HR7.out.mono ?_
      rintro e w8 ⟨t8, (⟨rfl, K', hK', hJ8⟩ | ⟨rfl, hJ8⟩)⟩
      · have nl : ∀ b, B ≤ b → b ≠ l := fun b hb he => by have := HS.out.2.2; omega
        have hk8 : ∀ b, b < wr.heap.size → ¬ K b → ¬ K' b := fun b hb hk hk' => (hK' b hk').elim hk (fun h => by omega)
        have h8 : HeapM w8 q o v7 (R.drop (j + 1)) 0 := hA.out.heap.turn t8 (fun b hb hS => hS.elim (hA.out.k1 b hb) (nl b (hA.out.fr b hb))) (fun hS => hS.elim hA.out.o1 (fun he => HS.out.1.1 (by rw [he]; exact HS.out.2.1))) (fun hS => hS.elim hA.out.o2 (fun he => HS.out.1.2.1 (by rw [he]; exact HS.out.2.1))) (fun hS => hS.elim hA.out.o3 (fun he => HS.out.1.2.2 (by rw [he]; exact HS.out.2.1)))
        have hb8 := (t8.block _ hb7 (fun hS => hS.elim hA.out.k2 (nl bs hA.out.low1))).trans hA.out.box
        have y0 := cell_of_row _ _ 0 _ _ _ hb8
        have y1 := cell_of_row _ _ 1 _ _ _ hb8
        have y2 := cell_of_row _ _ 2 _ _ _ hb8
        have y3 := cell_of_row _ _ 3 _ _ _ hb8
        have y4 := cell_of_row _ _ 4 _ _ _ hb8
        simp [dArr] at y0 y1 y2 y3 y4
        have hb9 := lt_of_heap hb8
        have hs8 : wr.heap.size ≤ w8.heap.size := t8.size
        have hK8 : ¬ K' w8.heap.size := fun hk => by have := HKB.out _ _ _ hJ8 _ hk; omega
        obtain ⟨W9, hW9⟩ : ∃ W9, w8.alloc (.cells (dArr d) 31) = W9 := ⟨_, rfl⟩
        have X9 : Ext w8 W9 := by rw [← hW9]; exact (Ext.refl _).alloc _
        have N9 : Hid (W9.heap[w8.heap.size]? = some (.cells (dArr d) 31)) := Lib.hid (by rw [← hW9]; exact heap_alloc_new w8 _)
        have H9 := Lib.hid (h8.ext X9)
        have J9 : Hid (J (j + 1) K' W9) := Lib.hid (HJ.out _ _ _ _ (Turn.of_ext X9) hJ8)
        have KA : Hid (∀ b, mine q v7 b → ¬ K' b) := Lib.hid (fun b hb => hk8 b (hA.out.heap.mine_lt hb) (hA.out.k1 b hb))
        have KO : Hid (¬ K' o.bl ∧ ¬ K' o.bv ∧ ¬ K' o.bw) := Lib.hid ⟨hk8 _ (by have := hA.out.low; omega) hA.out.o1, hk8 _ (by have := hA.out.low; omega) hA.out.o2, hk8 _ (by have := hA.out.low; omega) hA.out.o3⟩
        have HK8 := Lib.hid hK8
        have hB8 : B ≤ w8.heap.size := Nat.le_trans HB7.out hs8
        have hN9 := lt_of_heap N9.out
        clear h8 hb8 t8 hJ8 hK' hk8 nl HR7 hy x0 x1 x2 x3 x4 hK8 X9
        unfold dArr at hW9
        gi_wp2
        have CT := takeU (by rw [List.length_drop]; omega) H9.out
        rw [getD_drop, List.drop_drop] at CT
        obtain ⟨d9, hd9⟩ : ∃ d9, (R.getD (j + 1) z6).2 = d9 := ⟨_, rfl⟩
        have hdec : decide (0 < (R.drop (j + 1)).length) = decide (j + 1 < R.length) := by
          rw [List.length_drop, decide_eq_decide]
          omega
        rw [hd9, hdec] at CT
        unfold agD at CT
        have HCT := Lib.hid CT
        have HD9 := Lib.hid hd9
        clear CT hd9 hdec
        go_wp2_with fail
        clear hW9
        refine HCT.out.mono ?_
        rintro e w9 ⟨rfl, v9, h9, m9⟩
        have hn9 := (m9.turn.block _ hN9 (H9.out.other N9.out (by decide) (by decide))).trans N9.out
        have m0 := cell_of_row _ _ 0 _ _ _ hn9
        have m1 := cell_of_row _ _ 1 _ _ _ hn9
        have m2 := cell_of_row _ _ 2 _ _ _ hn9
        have m3 := cell_of_row _ _ 3 _ _ _ hn9
        have m4 := cell_of_row _ _ 4 _ _ _ hn9
        have f0 : ∀ i, w9.frozen? ⟨w8.heap.size, i, none⟩ = false := fun i => by simp [World.frozen?, hn9]
        have g0 := f0 0
        have g1 := f0 1
        have g2 := f0 2
        have g3 := f0 3
        have g4 := f0 4
        have hl9 := lt_of_heap hn9
        simp [dArr] at m0 m1 m2 m3 m4
        have FR9 : From B q v9 := (fun b hb => (m9.own b hb).elim (hA.out.fr b) fun hle => Nat.le_trans hB8 (Nat.le_trans (Nat.le_of_lt hN9) hle))
        have KA9 : ∀ b, mine q v9 b → ¬ K' b := fun b hb => (m9.own b hb).elim (KA.out b) fun hle hk => by have := HKB.out _ _ _ J9.out _ hk; omega
        have J9' : J (j + 1) K' w9 := HJ.out _ _ _ _ (by rw [HBB.out]; exact m9.turn.mono fun b _ hb => ⟨hA.out.fr b hb, KA.out b hb⟩) J9.out
        have HH9 := Lib.hid h9
        have HN9 := Lib.hid hn9
        have HFR := Lib.hid FR9
        have HKA := Lib.hid KA9
        have JJ9 := Lib.hid J9'
        have hne : ¬ mine q v9 w8.heap.size := h9.other hn9 (by decide) (by decide)
        have HNE := Lib.hid hne
        clear h9 hn9 FR9 KA9 J9' f0 m9 hne H9 N9 J9 KA HCT hN9 y0 y1 y2 y3 y4
        go_wp2_with fail
        obtain ⟨bn, hbn⟩ : ∃ bn, w8.heap.size = bn := ⟨_, rfl⟩
        rw [hbn] at HN9 HNE HK8 hB8 hl9 ⊢
        have T10 : Turn (fun b => b = bn) w9 (setD5 w9 bn d9) := setD5_turn w9 bn d9
        have hA10 : AllAt B q bn o R (j + 1) K' (setD5 w9 bn d9) v9 d9 := by
          refine ⟨?_, HFR.out, hB8, setD5_at HN9.out d9, HD9.out, HKA.out, HK8.out, KO.out.1, KO.out.2.1, KO.out.2.2, hA.out.low⟩
          have hlw := hA.out.low
          exact HH9.out.turn T10 (fun b hb he => HNE.out (he ▸ hb)) (fun he => by omega) (fun he => by omega) (fun he => by omega)
        have hJ10 : J (j + 1) K' (setD5 w9 bn d9) := HJ.out _ _ _ _ (by
          rw [HBB.out]
          exact T10.mono fun b _ hb => ⟨by rw [hb]; exact hB8, by rw [hb]; exact HK8.out⟩) JJ9.out
        have HA10 := Lib.hid hA10
        have HJ10 := Lib.hid hJ10
        unfold setD5 at HA10 HJ10
        clear hA10 hJ10 T10 HH9 HN9 HFR HKA JJ9 HNE hbn
        go_roundg (R.length - (j + 1))
        case measure => have := hg.out; omega
        case rel => exact ⟨j + 1, _, K', v9, d9, by omega, Lib.hid rfl, rfl, rfl, HA10, HJ10⟩
      · have hB8 : B ≤ w8.heap.size := Nat.le_trans HB7.out t8.size
        gi_wp2
        go_wp2_with fail
        refine bodyPost_ret (results_none rfl _ _ _) rfl ?_
        exact ⟨⟨_, rfl⟩, by rw [HBB.out]; exact hB8, .inr ⟨j + 1, by rw [List.length_map]; omega, hJ8⟩⟩
    · obtain rfl : j = R.length := by omega
      have hd : decide (R.length < R.length) = false := by simp
      rw [hd]
      have hsz : B ≤ wr.heap.size := by
        have h1 := hA.out.fr q (.inl rfl)
        have h2 := hA.out.heap.lt
        omega
      clear hd hlt
      go_wp2_with fail
      go_end0
      exact ⟨⟨_, rfl⟩, by rw [HBB.out]; exact hsz, .inl ⟨K, by rw [List.length_map]; exact hJj.out⟩⟩
end Go.Proofs.Ytmgpofdmfmeljaa
