/- slices.Insert and slices.Replace at rows of the call's own, in general: the walk. -/
import Derived.Test.YtfjkghbnlmhcnaaLs
import Derived.WalkSpells
import Derived.WalkLawsBesides
import Derived.BigRegion
import Derived.Deep.RegionWith
import Derived.Deep.QuietTactic
import Derived.Deep.DeepCutAuto
import Derived.Deep.RegionHeld3
import Derived.Deep.RegionLaw
import Derived.BigQuiet
import Derived.Lib.Hide
namespace Go.Proofs.Ytfjkghbnlmhcnaa
open Go.RowKit
attribute [local go_sem] more_drew more_drewN more_size more_cell more_frozen more_setCell drew_more drewN_more lt_add_r lt_add_r2 lt_add_r3 lt_add_r4 lt_add_r5 lt_add_r6 lt_add_r7 lt_add_r8 lt_add_r9 lt_add_r10 lt_self_r lt_self_r2

theorem src_of {V : World} {base cb : Nat} {B : Option Addr} {vs : List Int} (hB : OwnI V base B cb vs) : Src Try.prog 1 29 (.slice B vs.length cb) vs.length (iv vs) V := by
  obtain ⟨hI, _, _, h3⟩ := hB.ints
  rcases Nat.eq_zero_or_pos vs.length with h0 | h0
  · have hv : vs = [] := List.eq_nil_of_length_eq_zero h0
    subst hv
    cases B with
    | none => exact Src.ofNil V Try.underlying29 cb
    | some a => exact Src.ofSlice V Try.underlying29 a 0 cb [] rfl (fun j u hj => by cases hj) (fun u hu => by cases hu)
  · obtain ⟨g, rfl⟩ := hB.some h0
    have RB := OwnR.of hB
    exact Src.ofSlice V Try.underlying29 _ vs.length cb (iv vs) (by rw [iv_length, Nat.mul_one]) (fun j u hj => by rw [Addr.add_lit, Nat.zero_add]; exact RB.cell hj) (fun u hu => iv_one hu)
/-- copy of a row, be it nil -/
theorem copy_row {V : World} {base g c cb : Nat} {cs : List Value} {B : Option Addr} {vs : List Int} (h : OwnR V base g c cs) (hB : OwnI V base B cb vs) (k dl : Nat) (hk : k + vs.length ≤ cs.length) (hdl : vs.length ≤ dl) (ty : TypeId) (dc : Nat) :
    (Builtin.copy_ #[29, 29] ty #[.slice (some ⟨g, k, none⟩) dl dc, .slice B vs.length cb]).run Try.prog V = .ok (goInt vs.length) (V.setCells g k (iv vs)) := by
  rcases Nat.eq_zero_or_pos vs.length with h0 | h0
  · have hv : vs = [] := List.eq_nil_of_length_eq_zero h0
    subst hv
    exact run_copy_none V _ _ ty 3 _ B dl dc 0 cb Try.underlying29 sizeInt (by simp [Nat.min_def])
  · obtain ⟨b', rfl⟩ := hB.some h0
    have h1 := copy_run h k ⟨b', 0, none⟩ (iv vs) (by rw [iv_length]; exact hk) vs.length dl (by rw [iv_length]; simp only [Nat.min_def]; split <;> omega) (fun j v hj => by rw [Addr.add_lit, Nat.zero_add]; exact (OwnR.of hB).cell hj) (fun v hv => iv_one hv) ty dc cb
    rw [iv_length] at h1
    exact h1
theorem wp_clear_runI {P : Program} (w : World) {o : Oper} {a : Act} {K : Act → World → Prop} {Q : Exit → Act → World → Prop} (d : Operand) (t : TypeId)
    (ho : o.op = .call { callee := .builtin .clear, args := #[d], argTypes := #[t] }) (v : Value) (hd : a.eval d = v) {v' : Value} {w' : World}
    (hr : (Builtin.clear_ #[t] o.type #[v]).run P w = .ok v' w') (h : K (a.put o.dst v') w') : o.wp P a w K Q := by
  unfold Oper.wp execOp
  simp only [ho, resolve, invoke, builtin, Sem.run_bind, Sem.run_pure, Result.andThen_ok, List.map_toArray, List.map_cons, List.map_nil, hd, hr]
  exact h
theorem wpList_clear_runI {P : Program} (w : World) {ops : Array Oper} {rest : List Oper} {o : Oper} {a : Act} {Q : Exit → Act → World → Prop} (hgd : o.guard = none) (d : Operand) (t : TypeId)
    (ho : o.op = .call { callee := .builtin .clear, args := #[d], argTypes := #[t] }) (v : Value) (hd : a.eval d = v) {v' : Value} {w' : World}
    (hr : (Builtin.clear_ #[t] o.type #[v]).run P w = .ok v' w') (h : wpList P ops Q rest (a.put o.dst v') w') : wpList P ops Q (o :: rest) a w :=
  wpList_plain hgd fun _ hK => wp_clear_runI w d t ho v hd hr (hK _ _ h)
theorem zeroInt (w : World) : (Go.zeroValue 3).run Try.prog w = .ok (.int .i64 0) w := by
  obtain ⟨i3, hi, hz0, hz1, hz2⟩ := info_parts infoInt
  simp [Go.zeroValue, Go.typeInfo, hi, hz0]
/-- the end of a row is cleared -/
theorem clear_tail {V : World} {base g c : Nat} {ys : List Int} {ds : List Value} (h : OwnR V base g c (iv ys ++ ds)) (ty : TypeId) (A9 : Option Addr) (hA9 : 0 < ds.length → A9 = some ⟨g, ys.length, none⟩) (dc : Nat) :
    ∃ V', (∀ dl, dl = ds.length → (Builtin.clear_ #[29] ty #[.slice A9 dl dc]).run Try.prog V = .ok (.tuple #[]) V') ∧ OwnR V' base g c (iv ys) ∧ Turn (· = g) V V' := by
  have hyl : (iv ys).length = ys.length := iv_length ys
  have hn : ((iv ys ++ ds).take ys.length) = iv ys := by rw [List.take_append_of_le_length (by omega), List.take_of_length_le (by omega)]
  rcases Nat.eq_zero_or_pos ds.length with h0 | h0
  · refine ⟨V, fun dl hdl => ?_, hn ▸ h.narrow ys.length, Turn.refl _⟩
    rw [hdl, h0]
    cases A9 <;> simp [Builtin.clear_, run_underlying Try.underlying29]
  · obtain rfl := hA9 h0
    have hr := Lib.run_clear_slice V 29 3 ty (.int .i64 0) Try.underlying29 zeroInt rfl rfl g ys.length ds.length dc h0 (fun j hj => h.here (by obtain ⟨cur, _, _, h3, _⟩ := h; rw [List.length_append, hyl] at h3; omega)) (fun j _ => h.frozen _)
    have O := h.put ys.length (List.replicate ds.length (.int .i64 0)) (by rw [List.length_replicate, List.length_append, hyl]; omega)
    have e : (((iv ys ++ ds).take ys.length ++ List.replicate ds.length (Value.int .i64 0) ++ (iv ys ++ ds).drop (ys.length + (List.replicate ds.length (Value.int .i64 0)).length))).take ys.length = iv ys := by
      rw [hn, List.append_assoc, List.take_append_of_le_length (by omega), List.take_of_length_le (by omega)]
    exact ⟨_, fun dl hdl => by rw [hdl]; exact hr, e ▸ O.narrow ys.length, Turn.setCells (S := (· = g)) rfl _ _ _⟩
set_option maxRecDepth 100000 in
set_option maxHeartbeats 1000000 in
/-- Insert at the end -/
theorem ins_end (base g c cb : Nat) (xs vs : List Int) (B : Option Addr) (V : World) (hm : 0 < vs.length) (hl : xs.length ≤ 1000000) (hv : vs.length ≤ 1000000) (hA : OwnI V base (some ⟨g, 0, none⟩) c xs) (hB : OwnI V base B cb vs) (hb : base ≤ V.heap.size) :
    Calls Try.prog 56 #[.slice (some ⟨g, 0, none⟩) xs.length c, .int .i64 xs.length, .slice B vs.length cb] V (RepRet V base (some ⟨g, 0, none⟩) (xs ++ vs)) := by
  have HA := Lib.hid hA
  have HB := Lib.hid hB
  have a1 := hA.ints.2.1
  have a2 := hA.ints.2.2.1
  unfold maxLen at a2
  have HLN : Hid (xs.length + vs.length ≤ 10000000) := Lib.hid (by omega)
  have hz1 : ¬ ((vs.length : Int) = 0) := by omega
  obtain ⟨A9, hA9⟩ : ∃ A9 : Option Addr, (if c = xs.length then (some ⟨g, 0, none⟩ : Option Addr) else some ⟨g, xs.length, none⟩) = A9 := ⟨_, rfl⟩
  clear hA hB
  go_enter Try.func56, Try.ntmps56
  go_wp2_with (at_builtin; refine app_intsO V (by rfl) (.tmp 23) (.tmp 24) rfl base HA.out vs B cb rfl rfl HB.out.ints.2.2.2 HB.out.ints.1 HLN.out hb ?_; intro A' c' w' ho' hg' hw'; obtain ⟨ln, hln⟩ : ∃ ln, (xs ++ vs).length = ln := ⟨_, rfl⟩; rw [hln]; have HO := Lib.hid ho'; have HG := Lib.hid hg'; have HW := Lib.hid hw'; have HLL := Lib.hid hln; clear ho' hg' hw' hln)
  go_ret
  refine ⟨A', c', by rw [HLL.out]; rfl, HO.out, Turn.grown HG.out fun g hg _ => .inl ?_, fun k hk => ?_⟩
  · exact hg
  · have h1 := blk_own (n := (xs ++ vs).length) (c := c') hk
    rcases HW.out with h2 | h2
    · rw [h1] at h2
      exact .inl h2.symm
    · rw [h1] at h2
      exact .inr (by have := Option.some.inj h2; omega)
theorem ins_any (base : Nat) (xs vs : List Int) (i : Nat) (hi : i ≤ xs.length) (h0 : 0 < xs.length) (hm : 0 < vs.length) (hl : xs.length ≤ 1000000) (hv : vs.length ≤ 1000000) : InsOk base xs vs (xs.take i ++ vs ++ xs.drop i) i := fun V A c B cb hA hB hne hb => by
  obtain ⟨g, rfl⟩ := hA.some h0
  obtain ⟨b', rfl⟩ := hB.some hm
  have hn : b' ≠ g := fun h => hne g rfl (by rw [h]; rfl)
  rcases Nat.lt_or_ge i xs.length with h | h
  · rcases Nat.lt_or_ge c (xs.length + vs.length) with hc | hc
    · exact ins_grow base g c b' cb xs vs i V h hm hc hl hv hA hB hb
    · exact ins_place base g c b' cb xs vs i V h hm hc hA hB hn
  · obtain rfl : i = xs.length := by omega
    rw [List.take_length, List.drop_length, List.append_nil]
    exact ins_end base g c cb xs vs _ V hm hl hv hA hB hb
set_option maxRecDepth 100000 in
set_option maxHeartbeats 1000000 in
/-- Replace where nothing goes -/
theorem rep_ins (base : Nat) (xs vs : List Int) (i : Nat) (hi : i ≤ xs.length) (h0 : 0 < xs.length) (hm : 0 < vs.length) (hl : xs.length ≤ 1000000) (hv : vs.length ≤ 1000000) : RepOk base xs vs (xs.take i ++ vs ++ xs.drop i) i i := fun V A c B cb hA hB hne hb => by
  have HC := Lib.hid (ins_any base xs vs i hi h0 hm hl hv V A c B cb hA hB hne hb)
  have a1 := hA.ints.2.1
  have a2 := hA.ints.2.2.1
  unfold maxLen at a2
  obtain ⟨A9, hA9⟩ : ∃ A9 : Option Addr, (if c = i then A else A.map (fun x => x.add i)) = A9 := ⟨_, rfl⟩
  obtain ⟨ys, hys⟩ : ∃ ys, xs.take i ++ vs ++ xs.drop i = ys := ⟨_, rfl⟩
  rw [hys] at HC ⊢
  clear hA hB hne hys
  go_enter Try.func43, Try.ntmps43
  go_wp2_with fail
  refine HC.out.mono ?_
  rintro e V' ⟨A', c', rfl, ho, ht, hk⟩
  go_wp2_with fail
  go_ret
  exact ⟨A', c', rfl, ho, ht, hk⟩
end Go.Proofs.Ytfjkghbnlmhcnaa
