/- Acts as arguments; viewportlaw09.light: the walk. -/
import Derived.Test.YtfjkghbnlmhcnaaLx
import Derived.Test.YtfjkghbnlmhcnaaL
import Derived.ChangeArms
import Derived.WalkSpells
import Derived.WalkLawsBesides
import Derived.BigRegion
import Derived.Deep.RegionWith
import Derived.Deep.QuietTactic
import Derived.Deep.DeepCutAuto
import Derived.Deep.RegionHeld3
import Derived.Deep.RegionLaw
import Derived.BigQuiet
import Derived.Lib.Hide
namespace Go.Proofs.Ytfjkghbnlmhcnaa
section
open Go.ChangeShapes Go.WideShapes Go.ChangeAt Go.RowKit Go.Joins Go.Deep
structure Actn where
  at_ : Int
  del : Int
  ins : ByteArray
  more : Int
structure AcB (x : Actn) : Prop where
  at_ : -9223372036854775808 ≤ x.at_ ∧ x.at_ ≤ 9223372036854775807
  del : -9223372036854775808 ≤ x.del ∧ x.del ≤ 9223372036854775807
  ins : x.ins.size ≤ 9223372036854775807
  more : -9223372036854775808 ≤ x.more ∧ x.more ≤ 9223372036854775807
def ActsAt (w : World) (J : Option Addr) (js : List Actn) : Prop :=
  0 < js.length → ∃ b off, J = some ⟨b, off, none⟩ ∧ b < w.heap.size ∧ ∀ k d, js[k]? = some d →
    w.cell? ⟨b, off + k * 4, none⟩ = some (.int .i64 d.at_) ∧ w.cell? ⟨b, off + k * 4 + 1, none⟩ = some (.int .i64 d.del) ∧ w.cell? ⟨b, off + k * 4 + 2, none⟩ = some (.string d.ins) ∧
    w.cell? ⟨b, off + k * 4 + 3, none⟩ = some (.int .i64 d.more)
theorem ActsAt.ext {w w' : World} {J : Option Addr} {js : List Actn} (h : ActsAt w J js) (e : Ext w w') : ActsAt w' J js := fun h0 => by
  obtain ⟨b, off, hA, hb, hc⟩ := h h0
  have hb' := e.below
  refine ⟨b, off, hA, Nat.lt_of_lt_of_le hb e.size, fun k d hk => ?_⟩
  obtain ⟨c0, c1, c2, c3⟩ := hc k d hk
  exact ⟨(World.cell?_of_block (hb'.block b hb)).trans c0, (World.cell?_of_block (hb'.block b hb)).trans c1, (World.cell?_of_block (hb'.block b hb)).trans c2, (World.cell?_of_block (hb'.block b hb)).trans c3⟩
theorem cellsAct : Try.prog.cellsOf 32 = 4 := by kernel_rfl
variable {H : Type} {enc : TypeId × Value → H} {W : World} {b0 : Nat} {v : Value} {d : DataW H} {p : List MemPlace}
set_option maxRecDepth 100000 in
theorem open_acts (hv : Value.okWide Try.prog W .any b0 22 v) (h : DataW.Trod enc Try.prog W 0 (fun _ => true) true 22 v d p) :
    ∃ A c js, v = .slice A (js : List Actn).length c ∧ ActsAt W A js ∧ js.length ≤ c ∧ c ≤ 9223372036854775807 ∧ (A = none → c = 0) ∧ ∀ d ∈ js, AcB d := by
  obtain ⟨A0, len0, cap0, rfl⟩ := okWide_slice Try.underlying22 hv
  obtain ⟨fuel, hf⟩ := h
  rcases open_slice Try.underlying22 (show DataW.trod enc Try.prog W 0 (fun _ => true) true fuel 22 [.slice A0 len0 cap0] = _ by simpa [Value.cells] using hf) with ⟨hcs, _⟩ | ⟨a, len, cap, m, n, D, Pl, hcs, _, hl, hm, hmm, _, hcell⟩
  · injection hcs with hcs
    exact ⟨none, 0, [], hcs, (fun h => by simp at h), by simp, by omega, fun _ => rfl, fun s hs => by simp at hs⟩
  · injection hcs with hcs
    have hmm : m = cap := hmm
    obtain ⟨ss, hlen, hss⟩ := ex_list len (fun i (s : Actn) => (W.cell? ((a.add (i * 4)).add 0) = some (.int .i64 s.at_) ∧ W.cell? ((a.add (i * 4)).add 1) = some (.int .i64 s.del) ∧ W.cell? ((a.add (i * 4)).add 2) = some (.string s.ins) ∧ W.cell? ((a.add (i * 4)).add 3) = some (.int .i64 s.more)) ∧ AcB s) (by
      intro i hi
      obtain ⟨cs', hc', ht'⟩ := hcell i (by omega)
      have hf := struct_cells Try.underlying32 (by kernel_rfl) cellsAct hc' ht'
      obtain ⟨n0, v0, y0, c0, t0⟩ := hf 0 _ rfl
      obtain ⟨n1, v1, y1, c1, t1⟩ := hf 1 _ rfl
      obtain ⟨n2, v2, y2, c2, t2⟩ := hf 2 _ rfl
      obtain ⟨n3, v3, y3, c3, t3⟩ := hf 3 _ rfl
      rw [cellsAct] at c0 c1 c2 c3
      obtain ⟨x0, e0, _, w0⟩ := DataW.trod_int Try.underlying3 t0
      obtain ⟨x1, e1, _, w1⟩ := DataW.trod_int Try.underlying3 t1
      obtain ⟨x2, e2, _, w2⟩ := DataW.trod_string Try.underlying9 t2
      obtain ⟨x3, e3, _, w3⟩ := DataW.trod_int Try.underlying3 t3
      simp at e0 e1 e2 e3
      subst e0 e1 e2 e3
      unfold maxLen at w2
      exact ⟨⟨x0, x1, x2, x3⟩, ⟨c0, c1, c2, c3⟩, i64_bd w0, i64_bd w1, w2, i64_bd w3⟩)
    refine ⟨some a, cap, ss, by rw [hcs, hlen], ?_, by omega, by unfold maxLen at hm; omega, (fun h => by cases h), ?_⟩
    · intro h0
      obtain ⟨s, hs⟩ : ∃ s, ss[0]? = some s := ⟨_, List.getElem?_eq_getElem h0⟩
      have h1 := (hss 0 s hs).1.1
      obtain ⟨b, off, spot⟩ := a
      have hspot : spot = none := by simpa [Addr.add] using World.cell?_spot h1
      subst hspot
      refine ⟨b, off, rfl, ?_, ?_⟩
      · simp only [add_plain'] at h1
        exact World.block_lt_of_cell? _ _ h1
      · intro k s hk
        obtain ⟨g0, g1, g2, g3⟩ := (hss k s hk).1
        simp only [add_plain'] at g0 g1 g2 g3
        exact ⟨g0, g1, g2, g3⟩
    · intro s hs
      obtain ⟨i, hi, rfl⟩ := List.getElem_of_mem hs
      exact (hss i _ (List.getElem?_eq_getElem hi)).2
end
open Go.RowKit
attribute [local go_sem] more_drew more_drewN more_size more_cell more_frozen more_setCell drew_more drewN_more lt_add_r lt_add_r2 lt_add_r3 lt_add_r4 lt_add_r5 lt_add_r6 lt_add_r7 lt_add_r8 lt_add_r9 lt_add_r10 lt_self_r lt_self_r2
def Light (s : ByteArray) (js : List Actn) : Prop := (∀ (k : Nat) (x : Actn), js[k]? = some x → x.ins.size ≤ 40) ∧ s.size ≤ 200 ∧ js.length ≤ 40
def LightRet (w : World) (s : ByteArray) (js : List Actn) (e : Ending) (w' : World) : Prop := ∃ b, e = .returned (.bool b) ∧ (b = true → Light s js) ∧ w = w'
set_option maxRecDepth 100000 in
set_option maxHeartbeats 1000000 in
theorem light_any (s : ByteArray) (J : Option Addr) (c : Nat) (js : List Actn) (w : World) (hJ : ActsAt w J js) (hl : js.length ≤ c) (hc : c ≤ 9223372036854775807) (hs : s.size ≤ 9223372036854775807) (hB : ∀ d ∈ js, AcB d) :
    Calls Try.prog 12 #[.string s, .slice J js.length c] w (LightRet w s js) := by
  have HJ := Lib.hid hJ
  have HB := Lib.hid hB
  clear hJ hB
  go_enter Try.func12, Try.ntmps12
  go_wp2_with fail
  go_loop [5] (fun v => ∃ i : Nat, i ≤ js.length ∧ v = .int .i64 i ∧ Hid (∀ (k : Nat) (x : Actn), js[k]? = some x → k < i → x.ins.size ≤ 40)) (fun v => js.length - (intOf v).toNat)
  case atStart => exact ⟨0, Nat.zero_le _, rfl, Lib.hid fun k x _ h => absurd h (Nat.not_lt_zero _)⟩
  case round =>
    obtain ⟨i, hi, rfl, hall⟩ := hrel
    by_cases hlt : i < js.length
    · obtain ⟨x, hx⟩ : ∃ x, js[i]? = some x := ⟨_, List.getElem?_eq_getElem hlt⟩
      have xb := (HB.out x (List.mem_of_getElem? hx)).ins
      obtain ⟨b, off, rfl, hb, hcs⟩ := HJ.out (by omega)
      obtain ⟨c0, c1, c2, c3⟩ := hcs i x hx
      have HXI := Lib.hid hx
      clear hcs hx
      by_cases h40 : 40 < x.ins.size
      · have q : decide ((40 : Int) < (x.ins.size : Int)) = true := decide_eq_true (by omega)
        go_wp2_with fail
        go_ret
        exact ⟨false, rfl, (fun h => by cases h), rfl⟩
      · have q : decide ((40 : Int) < (x.ins.size : Int)) = false := decide_eq_false (by omega)
        go_wp2_with fail
        go_round
        case rel =>
          refine ⟨i + 1, by omega, by go_num, Lib.hid fun k y hk hki => ?_⟩
          rcases Nat.lt_or_ge k i with h | h
          · exact hall.out k y hk h
          · obtain rfl : k = i := by omega
            rw [HXI.out] at hk
            cases hk
            omega
        case measure => simp [intOf]; omega
    · obtain rfl : i = js.length := by omega
      by_cases h1 : s.size ≤ 200
      · by_cases h2 : js.length ≤ 40
        · have q : decide ((js.length : Int) ≤ 40) = true := decide_eq_true (by omega)
          go_wp2_with fail
          go_ret
          exact ⟨true, rfl, fun _ => ⟨fun k x hk => hall.out k x hk (List.getElem?_eq_some_iff.1 hk).1, h1, h2⟩, rfl⟩
        · have q : decide ((js.length : Int) ≤ 40) = false := decide_eq_false (by omega)
          go_wp2_with fail
          go_ret
          exact ⟨false, rfl, (fun h => by cases h), rfl⟩
      · go_wp2_with fail
        go_ret
        exact ⟨false, rfl, (fun h => by cases h), rfl⟩
end Go.Proofs.Ytfjkghbnlmhcnaa
