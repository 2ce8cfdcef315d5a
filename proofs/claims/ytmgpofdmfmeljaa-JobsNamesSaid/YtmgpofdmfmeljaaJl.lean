/- Rows of jobs; Drop; queue, Next. -/
import Derived.Test.YtmgpofdmfmeljaaJk
import Derived.WalkSpells
import Derived.WalkLawsBesides
import Derived.BigRegion
import Derived.Deep.RegionWith
import Derived.Deep.QuietTactic
import Derived.Deep.DeepCutAuto
import Derived.Deep.RegionHeld3
import Derived.Deep.RegionLaw
import Derived.BigQuiet
import Derived.Lib.Hide
namespace Go.Proofs.Ytmgpofdmfmeljaa
open Go.RowKit
attribute [local go_sem] more_drew more_drewN more_size more_cell more_frozen more_setCell drew_more drewN_more lt_add_r lt_add_r2 lt_add_r3 lt_add_r4 lt_add_r5 lt_add_r6 lt_add_r7 lt_add_r8 lt_add_r9 lt_add_r10 lt_self_r lt_self_r2

def dv (ds : List Dt) : List Value := ds.flatMap dCells
theorem dv_cons (d : Dt) (ds : List Dt) : dv (d :: ds) = .int .i64 d.slot :: .int .i64 d.lo :: .int .i64 d.hi :: .int .i64 d.age :: .int .i64 d.lev :: dv ds := rfl
theorem dv_length (ds : List Dt) : (dv ds).length = ds.length * 5 := by
  induction ds with
  | nil => rfl
  | cons x X ih => rw [dv_cons]; simp only [List.length_cons, ih]; omega
theorem dv_append (X Y : List Dt) : dv (X ++ Y) = dv X ++ dv Y := by simp [dv]
theorem dv_get (X : List Dt) (j : Nat) (hj : j < X.length) : (dv X)[j * 5]? = some (.int .i64 (X.getD j d0).slot) ∧ (dv X)[j * 5 + 1]? = some (.int .i64 (X.getD j d0).lo) ∧ (dv X)[j * 5 + 2]? = some (.int .i64 (X.getD j d0).hi) ∧
    (dv X)[j * 5 + 3]? = some (.int .i64 (X.getD j d0).age) ∧ (dv X)[j * 5 + 4]? = some (.int .i64 (X.getD j d0).lev) := by
  induction X generalizing j with
  | nil => simp at hj
  | cons x X ih =>
    rw [dv_cons]
    cases j with
    | zero => simp
    | succ j =>
      have := ih j (by simpa using hj)
      rw [show (j + 1) * 5 = j * 5 + 1 + 1 + 1 + 1 + 1 by omega]
      simpa using this
theorem dv_one (X : List Dt) : ∀ u ∈ dv X, u.oneCell' = true := by
  intro u hu
  obtain ⟨x, _, hx⟩ := List.mem_flatMap.1 hu
  simp only [dCells, List.mem_cons, List.not_mem_nil, or_false] at hx
  rcases hx with rfl | rfl | rfl | rfl | rfl <;> rfl
/-- a row of jobs of the call's own -/
def OwnD (w : World) (base : Nat) (A : Option Addr) (c : Nat) (ds : List Dt) : Prop := w.ownsRow base 31 5 (.slice A ds.length c) ds.length (dv ds)
theorem OwnD.jobs {w : World} {base : Nat} {A : Option Addr} {c : Nat} {ds : List Dt} (h : OwnD w base A c ds) : Jobs w A ds ∧ ds.length ≤ c ∧ c ≤ maxLen ∧ (A = none → c = 0) := by
  obtain ⟨A', cap, hv, h1, h2, h3, h4⟩ := own_cells h
  injection hv with a1 a2 a3
  subst a1 a3
  refine ⟨fun h0 => ?_, h2, h3, h4⟩
  obtain ⟨b, off, hA, hb, hc⟩ := h1 (by rw [dv_length]; omega)
  refine ⟨b, off, hA, hb, fun k hk => ?_⟩
  obtain ⟨g0, g1, g2, g3, g4⟩ := dv_get ds k hk
  exact ⟨hc _ _ g0, hc _ _ g1, hc _ _ g2, hc _ _ g3, hc _ _ g4⟩
theorem OwnD.nil (w : World) (base : Nat) : OwnD w base none 0 [] := World.ownsRow_nil _ _ _ _
theorem OwnD.ext {w w' : World} {base : Nat} {A : Option Addr} {c : Nat} {ds : List Dt} (h : OwnD w base A c ds) (e : Ext w w') : OwnD w' base A c ds := own_ext h e
theorem OwnD.base {w : World} {base base' : Nat} {A : Option Addr} {c : Nat} {ds : List Dt} (h : OwnD w base A c ds) (hb : base' ≤ base) : OwnD w base' A c ds := own_baseX h hb
def RowD (w : World) (base : Nat) (v : Value) (ds : List Dt) : Prop := ∃ A c, v = .slice A ds.length c ∧ OwnD w base A c ds
theorem RowD.ext {w w' : World} {base : Nat} {v : Value} {ds : List Dt} (h : RowD w base v ds) (e : Ext w w') : RowD w' base v ds := by
  obtain ⟨A, c, hv, ho⟩ := h
  exact ⟨A, c, hv, ho.ext e⟩
def JobsRet (w : World) (ds : List Dt) (e : Ending) (w' : World) : Prop := ∃ A c, e = .returned (.slice A ds.length c) ∧ OwnD w' w.heap.size A c ds ∧ Ext w w'
theorem infoD : (Try.prog.info? 31).map (fun i => (i.zero, i.size, i.bytes)) = some (some (.agg #[.int .i64 0, .int .i64 0, .int .i64 0, .int .i64 0, .int .i64 0]), 5, 40) := by kernel_rfl
theorem app_job (w0 : World) {w : World} {ops : Array Oper} {rest : List Oper} {o : Oper} {a : Act} {Q : Exit → Act → World → Prop} (hw : Region.wanted o (yielded ops a.tmps) = true) (s x : Operand)
    (ho : o.op = .call { callee := .builtin .append, args := #[s, x], argTypes := #[22, 22] }) {ds : List Dt} {v : Value} (hr : RowD w w0.heap.size v ds) (A : Option Addr) (m c : Nat) (es : List Dt)
    (hs : a.eval s = v) (hx : a.eval x = .slice A m c) (hm : m = es.length) (hA : A = none → c = 0) (hc : CellsAt w A (dv es)) (hlen : ds.length + es.length ≤ 1000000) (hext : Ext w0 w)
    (h : ∀ v' w', RowD w' w0.heap.size v' (ds ++ es) → Ext w0 w' → wpList Try.prog ops Q rest (a.put o.dst v') w') : wpList Try.prog ops Q (o :: rest) a w := by
  obtain ⟨A1, c1, rfl, hown⟩ := hr
  obtain ⟨i3, hi, hz0, hz1, hz2⟩ := info_parts infoD
  subst hm
  refine wpList_append_cells w hw s x 22 ho w0.heap.size 31 i3 _ 5 40 Try.underlying22 hi hz0 hz1 hz2 rfl (by omega) _ ds.length (dv ds) hs hown A es.length c (dv es) hx hA (dv_length _)
    hc (dv_one _) (by unfold maxLen; omega) (by omega) hext.size fun v' w' h2 h3 h4 => ?_
  obtain ⟨A', c', hv', _⟩ := own_cells h2
  subst hv'
  refine h _ w' ⟨A', c', by rw [List.length_append], ?_⟩ (hext.grown h3 fun g hg => own_block hown g hg)
  unfold OwnD
  rw [dv_append, List.length_append]
  exact h2
/-- without a slot's -/
def keepF (n : Int) (ds : List Dt) : List Dt := ds.filter fun d => d.slot != n
theorem take_succ' (ds : List Dt) (k : Nat) (h : k < ds.length) : ds.take (k + 1) = ds.take k ++ [ds.getD k d0] := by
  rw [List.take_succ_eq_append_getElem h, List.getD_eq_getElem?_getD, List.getElem?_eq_getElem h]
  rfl
theorem keepF_yes {n : Int} {ds : List Dt} {k : Nat} (h : k < ds.length) (hn : (ds.getD k d0).slot ≠ n) : keepF n (ds.take (k + 1)) = keepF n (ds.take k) ++ [ds.getD k d0] := by
  unfold keepF
  rw [take_succ' ds k h, List.filter_append]
  congr 1
  rw [List.filter_cons_of_pos (by simpa using hn)]
  rfl
theorem keepF_no {n : Int} {ds : List Dt} {k : Nat} (h : k < ds.length) (hn : (ds.getD k d0).slot = n) : keepF n (ds.take (k + 1)) = keepF n (ds.take k) := by
  unfold keepF
  rw [take_succ' ds k h, List.filter_append]
  rw [List.filter_cons_of_neg (by simpa using hn)]
  simp
set_option maxRecDepth 100000 in
set_option maxHeartbeats 2000000 in
theorem drop_any (A : Option Addr) (c : Nat) (ds : List Dt) (n : Int) (w : World) (h : Jobs w A ds) (hl : ds.length ≤ 1000) : Calls Try.prog 15 #[.slice A ds.length c, .int .i64 n] w (JobsRet w (keepF n ds)) := by
  have H := Lib.hid h
  clear h
  go_enter Try.func15, Try.ntmps15
  go_wp2_with fail
  go_loopw [5, 6] (fun v i wr => ∃ k : Nat, k ≤ ds.length ∧ i = .int .i64 k ∧ Hid (RowD wr w.heap.size v (keepF n (ds.take k))) ∧ Hid (Ext w wr)) (fun _ i _ => ds.length - (intOf i).toNat)
  case atStart => exact ⟨0, Nat.zero_le _, rfl, Lib.hid ⟨none, 0, rfl, OwnD.nil _ _⟩, Lib.hid (Ext.refl _)⟩
  case round =>
    obtain ⟨k, hk, rfl, hr, hx⟩ := hrel
    by_cases hlt : k < ds.length
    · obtain ⟨b, off, rfl, hb, hcl⟩ := (H.out.ext hx.out) (by omega)
      obtain ⟨x0, x1, x2, x3, x4⟩ := hcl k hlt
      obtain ⟨d, hd⟩ : ∃ d, ds.getD k d0 = d := ⟨_, rfl⟩
      rw [hd] at x0 x1 x2 x3 x4
      by_cases hn : d.slot = n
      · have q : (d.slot == n) = true := by simp [hn]
        have q2 : (d.slot != n) = false := by simp [hn]
        have HK := Lib.hid (keepF_no (n := n) hlt (by rw [hd]; exact hn))
        clear hcl hd hn
        go_wp2_with fail
        go_roundw
        case rel => exact ⟨k + 1, by omega, by go_num, Lib.hid (by rw [HK.out]; exact hr.out), hx⟩
        case measure => simp [intOf]; omega
      · have q : (d.slot == n) = false := by simp [hn]
        have q2 : (d.slot != n) = true := by simp [hn]
        have HK := Lib.hid (keepF_yes (n := n) hlt (by rw [hd]; exact hn))
        have HKL : Hid ((keepF n (ds.take k)).length ≤ 1000) := Lib.hid (by unfold keepF; have := List.length_filter_le (fun d => d.slot != n) (ds.take k); rw [List.length_take] at this; omega)
        have HD := Lib.hid hd
        clear hcl hd hn
        go_wp2_with (at_builtin; refine app_job w (by rfl) (.tmp 20) (.tmp 25) rfl (hr.out.ext (by repeat (first | exact Ext.refl _ | refine Ext.alloc ?_ _ | refine Ext.more ?_ _ _ | refine Ext.drew ?_ | refine Ext.drewN ?_ _ | refine Ext.setCell ?_ (by simp <;> omega) _))) _ 1 1 [d] rfl rfl rfl (by intro h; cases h) (cells_lit _ _ _ _ _ rfl rfl) (by have := HKL.out; simp only [List.length_singleton]; omega) (hx.out.trans (by repeat (first | exact Ext.refl _ | refine Ext.alloc ?_ _ | refine Ext.more ?_ _ _ | refine Ext.drew ?_ | refine Ext.drewN ?_ _ | refine Ext.setCell ?_ (by simp <;> omega) _))) ?_; intro v7 w7 hr7 hx7)
        have HR7 := Lib.hid hr7
        have HX7 := Lib.hid hx7
        clear hr7 hx7
        go_roundw
        case rel => exact ⟨k + 1, by omega, by go_num, Lib.hid (by rw [HK.out, HD.out]; exact HR7.out), HX7⟩
        case measure => simp [intOf]; omega
    · obtain rfl : k = ds.length := by omega
      have h0 := hr.out
      rw [List.take_length] at h0
      obtain ⟨A1, c1, rfl, ho⟩ := h0
      have HO := Lib.hid ho
      clear ho hr
      go_wp2_with fail
      go_ret
      exact ⟨A1, c1, rfl, HO.out, hx.out⟩
/-- put one by one into the queue -/
def qL (kv : Kv) (ds : List Dt) : Nat → List It
  | 0 => []
  | i + 1 => insL kv (qL kv ds i) ((i : Int), ds.getD i d0)
theorem qL_length (kv : Kv) (ds : List Dt) (i : Nat) : (qL kv ds i).length = i := by
  induction i with
  | zero => rfl
  | succ i ih =>
    show (insL kv (qL kv ds i) _).length = _
    rw [(insL_perm kv _ _).length_eq, List.length_append, ih]
    rfl
def qR (kv : Kv) (ds : List Dt) : List It := qL kv ds ds.length
/-- the queue of jobs, made by a call -/
def QRet (w : World) (k : Kv) (ds : List Dt) (e : Ending) (w' : World) : Prop := ∃ p o v, e = .returned (.pointer (some ⟨p, 0, none⟩)) ∧ o.k = k ∧ HeapR w' p o v (qR k ds) ds.length ∧ (w.heap.size ≤ o.bl ∧ w.heap.size ≤ o.bv ∧ w.heap.size ≤ o.bw) ∧ From w.heap.size p v ∧ Ext w w'
set_option maxRecDepth 100000 in
set_option maxHeartbeats 2000000 in
theorem queue_any (k : Kv) (A : Option Addr) (c : Nat) (ds : List Dt) (w : World) (h : Jobs w A ds) (hc : CheckP ds) : Calls Try.prog 18 #[.slice A ds.length c, .agg #[.int .i64 k.lo, .int .i64 k.hi], .int .i64 k.wait] w (QRet w k ds) := by
  have H := Lib.hid h
  have HC := Lib.hid hc
  have hl := hc.1
  clear h hc
  go_enter Try.func18, Try.ntmps18
  go_wp2_with fail
  refine (order_any k _).mono ?_
  rintro e w2 ⟨o, rfl, hok, hat, hlow, hx2⟩
  have HX2 : Hid (Ext w w2) := Lib.hid (Ext.trans (by repeat (first | exact Ext.refl _ | refine Ext.alloc ?_ _ | refine Ext.more ?_ _ _ | refine Ext.drew ?_ | refine Ext.drewN ?_ _ | refine Ext.setCell ?_ (by simp <;> omega) _)) hx2)
  have HLO : Hid (w.heap.size ≤ o.bl ∧ w.heap.size ≤ o.bv ∧ w.heap.size ≤ o.bw) := Lib.hid (by simp at hlow; omega)
  have HAT := Lib.hid hat
  have HOK := Lib.hid hok
  clear hok hat hlow hx2
  go_wp2_with fail
  refine (new_any o w2).mono ?_
  rintro e w3 ⟨rfl, hw3⟩
  obtain ⟨p, hp⟩ : ∃ p, w2.heap.size = p := ⟨_, rfl⟩
  have HN : Hid (HeapR w3 p o (.slice none 0 0) [] 0) := Lib.hid (by rw [hw3, ← hp]; exact newM o w2 HAT.out)
  have HX3 : Hid (Ext w w3) := Lib.hid (by rw [hw3]; exact HX2.out.alloc _)
  have HF : Hid (From w.heap.size p (.slice none 0 0)) := Lib.hid (From.new _ _ (by rw [← hp]; exact HX2.out.size))
  rw [hp]
  clear hw3 hp HX2 HAT
  go_wp2_with fail
  refine (dcheck_ok A c ds w3 (H.out.ext HX3.out) HC.out).mono ?_
  rintro e w4 ⟨rfl, hx4⟩
  have HX4 := Lib.hid (HX3.out.trans hx4)
  have HN4 : Hid (HeapR w4 p o (.slice none 0 0) [] 0) := Lib.hid ⟨HN.out.1.ext hx4, HN.out.2⟩
  clear hx4 HN HX3
  go_wp2_with fail
  go_loopw [20] (fun i wr => ∃ k2 : Nat, k2 ≤ ds.length ∧ i = .int .i64 k2 ∧ Hid (∃ v, HeapR wr p o v (qL o.k ds k2) k2 ∧ From w.heap.size p v) ∧ Hid (Ext w wr)) (fun i _ => ds.length - (intOf i).toNat)
  case atStart => exact ⟨0, Nat.zero_le _, rfl, Lib.hid ⟨_, HN4.out, HF.out⟩, HX4⟩
  case round =>
    obtain ⟨k2, hk, rfl, hr, hx⟩ := hrel
    clear HN4 HX4 HF
    obtain ⟨v, hR, hF⟩ := hr.out
    have HR := Lib.hid hR
    have HF := Lib.hid hF
    clear hR hF hr
    by_cases hlt : k2 < ds.length
    · obtain ⟨b, off, rfl, hb, hcl⟩ := (H.out.ext hx.out) (by omega)
      obtain ⟨x0, x1, x2, x3, x4⟩ := hcl k2 hlt
      obtain ⟨d, hd⟩ : ∃ d, ds.getD k2 d0 = d := ⟨_, rfl⟩
      rw [hd] at x0 x1 x2 x3 x4
      have HD := Lib.hid hd
      have H7 : HeapR (wr.alloc (.cells #[.int .i64 d.slot, .int .i64 d.lo, .int .i64 d.hi, .int .i64 d.age, .int .i64 d.lev] 31)) p o v (qL o.k ds k2) k2 := ⟨HR.out.1.ext (by repeat (first | exact Ext.refl _ | refine Ext.alloc ?_ _ | refine Ext.more ?_ _ _ | refine Ext.drew ?_ | refine Ext.drewN ?_ _ | refine Ext.setCell ?_ (by simp <;> omega) _)), HR.out.2⟩
      have CP := putR d (by rw [qL_length]; omega) (by omega) H7
      unfold agD at CP
      have HCP := Lib.hid CP
      clear hcl hd CP H7
      go_wp2_with fail
      refine HCP.out.mono ?_
      rintro e w8 ⟨rfl, v8, h8, m8⟩
      have hsz : w.heap.size ≤ (wr.alloc (.cells #[.int .i64 d.slot, .int .i64 d.lo, .int .i64 d.hi, .int .i64 d.age, .int .i64 d.lev] 31)).heap.size := by have := hx.out.size; simp; omega
      have HX8 : Hid (Ext w w8) := Lib.hid (Ext.of_below ((Ext.below (hx.out.alloc _)).trans (m8.turn.below hsz HF.out)))
      have HF8 := Lib.hid (HF.out.moves hsz m8)
      have H8 : Hid (HeapR w8 p o v8 (qL o.k ds (k2 + 1)) ((k2 + 1 : Nat) : Int)) := Lib.hid (by
        show HeapR w8 p o v8 (insL o.k (qL o.k ds k2) ((k2 : Int), ds.getD k2 d0)) ((k2 + 1 : Nat) : Int)
        rw [HD.out]
        exact h8)
      clear h8 m8 hsz HCP HR HF
      go_wp2_with fail
      go_roundw
      case rel => exact ⟨k2 + 1, by omega, by go_num, Lib.hid ⟨v8, H8.out, HF8.out⟩, HX8⟩
      case measure => simp [intOf]; omega
    · obtain rfl : k2 = ds.length := by omega
      go_wp2_with fail
      go_ret
      exact ⟨p, o, v, rfl, HOK.out, by unfold qR; rw [← HOK.out]; exact HR.out, HLO.out, HF.out, hx.out⟩
theorem qR_length (kv : Kv) (ds : List Dt) : (qR kv ds).length = ds.length := qL_length kv ds ds.length
set_option maxRecDepth 100000 in
set_option maxHeartbeats 2000000 in
theorem next_any (k : Kv) (A : Option Addr) (c : Nat) (ds : List Dt) (w : World) (h : Jobs w A ds) (hc : CheckP ds) :
    Calls Try.prog 10 #[.slice A ds.length c, .agg #[.int .i64 k.lo, .int .i64 k.hi], .int .i64 k.wait] w fun e w' => e = .returned (.tuple #[.int .i64 ((qR k ds).getD 0 z6).2.slot, .bool (decide (0 < ds.length))]) ∧ Ext w w' := by
  have H := Lib.hid h
  have HC := Lib.hid hc
  obtain ⟨d, hd⟩ : ∃ d, ((qR k ds).getD 0 z6).2 = d := ⟨_, rfl⟩
  rw [hd]
  have HDD := Lib.hid hd
  clear h hc hd
  go_enter Try.func10, Try.ntmps10
  go_wp2_with fail
  refine (queue_any k A c ds _ (H.out.ext (by repeat (first | exact Ext.refl _ | refine Ext.alloc ?_ _ | refine Ext.more ?_ _ _ | refine Ext.drew ?_ | refine Ext.drewN ?_ _ | refine Ext.setCell ?_ (by simp <;> omega) _))) HC.out).mono ?_
  rintro e w2 ⟨p, o, v, rfl, hok, hr, _, _, hx⟩
  have HX2 : Hid (Ext w w2) := Lib.hid (Ext.trans (by repeat (first | exact Ext.refl _ | refine Ext.alloc ?_ _ | refine Ext.more ?_ _ _ | refine Ext.drew ?_ | refine Ext.drewN ?_ _ | refine Ext.setCell ?_ (by simp <;> omega) _)) hx)
  have CL := leastM hr.1
  rw [qR_length] at CL
  unfold agD at CL
  rw [HDD.out] at CL
  have HCL := Lib.hid CL
  clear hok hr hx CL
  go_wp2_with fail
  refine HCL.out.mono ?_
  rintro e w3 ⟨rfl, hx3⟩
  have HX3 := Lib.hid (HX2.out.trans hx3)
  clear hx3 HCL HX2
  go_wp2_with fail
  go_ret2
  exact ⟨rfl, HX3.out.trans (by repeat (first | exact Ext.refl _ | refine Ext.alloc ?_ _ | refine Ext.more ?_ _ _ | refine Ext.drew ?_ | refine Ext.drewN ?_ _ | refine Ext.setCell ?_ (by simp <;> omega) _))⟩
end Go.Proofs.Ytmgpofdmfmeljaa
