/- HeapScript: the state of both heaps. -/
import Derived.Test.YtjllikpocfppoaaZb
import Derived.Test.YtjllikpocfppoaaY
import Derived.Test.YtjllikpocfppoaaTk
import Derived.WalkSpells
import Derived.WalkLawsBesides
import Derived.BigRegion
import Derived.Deep.RegionWith
import Derived.Deep.QuietTactic
import Derived.Deep.DeepCutAuto
import Derived.Deep.RegionHeld3
import Derived.Deep.RegionLaw
import Derived.BigQuiet
import Derived.Lib.Hide
namespace Go.Proofs.Ytjllikpocfppoaa
open Go.RowKit
attribute [local go_sem] more_drew more_drewN more_size more_cell more_frozen more_setCell drew_more drewN_more lt_add_r lt_add_r2 lt_add_r3 lt_add_r4 lt_add_r5 lt_add_r6 lt_add_r7 lt_add_r8 lt_add_r9 lt_add_r10 lt_self_r lt_self_r2

attribute [local go_sem] Oper.semAt_some
theorem St.takeU {B p : Nat} {W wr : World} {R : List It} {c : Int} (h : St B p W R c wr) (hX : R.length ≤ 100000) :
    Calls Try.prog 13 #[.pointer (some ⟨p, 0, none⟩)] wr fun e w' => e = .returned (.tuple #[.agg #[.int .i64 (R.getD 0 z3).2.1, .int .i64 (R.getD 0 z3).2.2], .bool (decide (0 < R.length))]) ∧ St B p W (R.drop 1) c w' ∧ Stays wr w' := by
  cases R with
  | nil =>
    have hh := h
    obtain ⟨v, h1, _⟩ := h
    refine (takeR_nil p v c wr h1).mono ?_
    rintro e w' ⟨he, ext⟩
    exact ⟨he, hh.ext ext, fun b o ho _ => ext_heap ho ext⟩
  | cons r R =>
    refine (St.take h (by simp at hX; omega)).mono ?_
    rintro e w' ⟨he, h1, h2⟩
    exact ⟨by simpa using he, h1, h2⟩
theorem St.leastU {B p : Nat} {W wr : World} {R : List It} {c : Int} (h : St B p W R c wr) :
    Calls Try.prog 15 #[.pointer (some ⟨p, 0, none⟩)] wr fun e w' => e = .returned (.tuple #[.agg #[.int .i64 (R.getD 0 z3).2.1, .int .i64 (R.getD 0 z3).2.2], .bool (decide (0 < R.length))]) ∧ Ext wr w' := by
  cases R with
  | nil => exact St.least_nil h
  | cons r R => simpa using St.least h
theorem kind49 (cs : Array Value) : ∀ cs' fr', (Obj.cells cs 49) ≠ .cells cs' 56 fr' ∧ (Obj.cells cs 49) ≠ .cells cs' 60 fr' := other_kind cs 49 (0, 0) (by decide) (by decide)
theorem kind47 (cs : Array Value) : ∀ cs' fr', (Obj.cells cs 47) ≠ .cells cs' 56 fr' ∧ (Obj.cells cs 47) ≠ .cells cs' 60 fr' := other_kind cs 47 (0, 0) (by decide) (by decide)
theorem kind4 (cs : Array Value) : ∀ cs' fr', (Obj.cells cs 4) ≠ .cells cs' 56 fr' ∧ (Obj.cells cs 4) ≠ .cells cs' 60 fr' := other_kind cs 4 (0, 0) (by decide) (by decide)
theorem RefAt.stays {w w' : World} {p : Nat} {v : Value} {R : List It} (h : RefAt w p v R) (hs : Stays w w') : RefAt w' p v R :=
  ⟨hs _ _ h.blk (kind49 _), h.val.keep fun g cs hg => hs _ _ hg (kind27 _)⟩
theorem RefAt.ext {w w' : World} {p : Nat} {v : Value} {R : List It} (h : RefAt w p v R) (e : Ext w w') : RefAt w' p v R := ⟨ext_heap h.blk e, h.val.ext e⟩
theorem RefAt.old {w : World} {p : Nat} {v : Value} {R : List It} (h : RefAt w p v R) : p < w.heap.size ∧ ∀ g, v.ownBlock = some g → 0 < R.length → g < w.heap.size := by
  refine ⟨lt_of_heap h.blk, fun g hg h0 => ?_⟩
  obtain ⟨A, cap, rfl, _, _, _, h5⟩ := h.val
  obtain ⟨g', off, cs, rfl, hb, _⟩ := h5 h0
  have : g' = g := by simpa [Value.ownBlock] using hg
  subst this
  exact lt_of_heap hb
theorem RefAt.kept {w w' : World} {p n : Nat} {v : Value} {R : List It} (h : RefAt w p v R) (hb : Below n w w') (hp : p < n) (hn : ∀ g, v.ownBlock = some g → 0 < R.length → g < n) : RefAt w' p v R := by
  refine ⟨(hb.block p hp).trans h.blk, ?_⟩
  obtain ⟨A, cap, rfl, h1, h2, h3, h5⟩ := h.val
  refine ⟨A, cap, rfl, h1, h2, h3, fun h0 => ?_⟩
  obtain ⟨g, off, cs, rfl, hg, hc⟩ := h5 h0
  exact ⟨g, off, cs, rfl, (hb.block g (hn g rfl h0)).trans hg, hc⟩
theorem RefAt.turn {w w' : World} {p b : Nat} {v : Value} {R : List It} (h : RefAt w p v R) (t : Turn (fun k => k = b) w w') (hn : ∀ cs, w.heap[b]? ≠ some (.cells cs 27)) (hp : p ≠ b) : RefAt w' p v R :=
  ⟨(t.block p (lt_of_heap h.blk) hp).trans h.blk, h.val.keep fun g cs hg => (t.block g (lt_of_heap hg) (fun e => hn cs (e ▸ hg))).trans hg⟩
/-- the reference's things, its pointer, the answer -/
structure Ref (pr b4 br : Nat) (R : List It) (wr : World) : Prop where
  rf : ∃ vr, RefAt wr pr vr R
  c4 : wr.heap[b4]? = some (.cells #[.pointer (some ⟨pr, 0, none⟩)] 47)
  cr : wr.heap[br]? = some (.cells #[.bool false] 4)
section
variable {B p pr b4 br : Nat} {W wr w' : World} {R R' : List It} {c : Int}
theorem Ref.stays (h : Ref pr b4 br R wr) (hs : Stays wr w') : Ref pr b4 br R w' :=
  ⟨let ⟨v, h⟩ := h.rf; ⟨v, h.stays hs⟩, hs _ _ h.c4 (kind47 _), hs _ _ h.cr (kind4 _)⟩
theorem Ref.ext (h : Ref pr b4 br R wr) (e : Ext wr w') : Ref pr b4 br R w' :=
  ⟨let ⟨v, h⟩ := h.rf; ⟨v, h.ext e⟩, ext_heap h.c4 e, ext_heap h.cr e⟩
theorem Ref.next (h : Ref pr b4 br R wr) (n : RefNext pr R' wr w') : Ref pr b4 br R' w' := by
  obtain ⟨v, hr⟩ := h.rf
  obtain ⟨v', hr', t⟩ := n
  refine ⟨⟨v', hr'⟩, (t.block _ (lt_of_heap h.c4) ?_).trans h.c4, (t.block _ (lt_of_heap h.cr) ?_).trans h.cr⟩
  · rintro rfl
    have := h.c4
    rw [hr.blk] at this
    injection this with this
    injection this with _ this
    cases this
  · rintro rfl
    have := h.cr
    rw [hr.blk] at this
    injection this with this
    injection this with _ this
    cases this
theorem St.next (h : St B p W R c wr) (hr : Ref pr b4 br R' wr) {R2 : List It} (n : RefNext pr R2 wr w') (hB : B ≤ pr) : St B p W R c w' := by
  obtain ⟨v', hr', t⟩ := n
  obtain ⟨v, hv⟩ := hr.rf
  refine h.turn t ?_ (fun b hb => by omega)
  rintro b rfl _
  exact ⟨_, hv.blk, kind49 _⟩
end
/-- the slice that begins at A reads as acts: kind and key -/
def Acts (w : World) (A : Option Addr) (xs : List (Int × Int)) : Prop :=
  0 < xs.length → ∃ b off, A = some ⟨b, off, none⟩ ∧ b < w.heap.size ∧ ∀ k, k < xs.length → w.cell? ⟨b, off + k * 2, none⟩ = some (.int .i64 (xs.getD k (0, 0)).1) ∧ w.cell? ⟨b, off + k * 2 + 1, none⟩ = some (.int .i64 (xs.getD k (0, 0)).2)
theorem Acts.below {w w' : World} {A : Option Addr} {xs : List (Int × Int)} (h : Acts w A xs) (e : Below w.heap.size w w') : Acts w' A xs := fun h0 => by
  obtain ⟨b, off, hA, hb, hc⟩ := h h0
  exact ⟨b, off, hA, by have := e.size; omega, fun j hj => ⟨by rw [e.cell (p := ⟨b, off + j * 2, none⟩) hb]; exact (hc j hj).1, by rw [e.cell (p := ⟨b, off + j * 2 + 1, none⟩) hb]; exact (hc j hj).2⟩⟩

theorem use_fact {p q : Prop} (h : p) (f : p → q) : q := f h
theorem step6 {B p pr b4 br b o : Nat} {W w4 w5 w6 : World} {R R' R2 : List It} {c : Int} {u : Value} (hs : St B p W R' c w4) (hr : Ref pr b4 br R w4) (e : Ext w4 w5) (n : RefNext pr R2 w5 w6) (hB : B ≤ pr) (hb : b < B) (hu : w4.cell? ⟨b, o, none⟩ = some u) :
    St B p W R' c w6 ∧ Ref pr b4 br R2 w6 ∧ w6.cell? ⟨b4, 0, none⟩ = some (.pointer (some ⟨pr, 0, none⟩)) ∧ w6.cell? ⟨b, o, none⟩ = some u := by
  have hr6 := (hr.ext e).next n
  have hs6 := (hs.ext e).next (hr.ext e) n hB
  refine ⟨hs6, hr6, cell_of_row _ _ 0 _ _ _ hr6.c4, ?_⟩
  obtain ⟨v', _, t⟩ := n
  have hbl : b < w4.heap.size := by
    have := hs.lt
    obtain ⟨_, _, _, hF⟩ := hs
    have := hF p (.inl rfl)
    omega
  rw [World.cell?_of_block (w := w5) (a := ⟨b, o, none⟩) (t.block b (Nat.lt_of_lt_of_le hbl e.size) (by omega)), World.cell?_of_block (w := w4) (a := ⟨b, o, none⟩) (e.below.block b hbl)]
  exact hu
set_option maxRecDepth 100000 in
set_option maxHeartbeats 3000000 in
theorem script_any (A : Option Addr) (xs : List (Int × Int)) (cap : Nat) (W : World) (hI : Acts W A xs) (hc : xs.length ≤ cap) (hcm : cap ≤ 9223372036854775807) (hb : ∀ x ∈ xs, -9223372036854775808 ≤ x.1 ∧ x.1 ≤ 9223372036854775807) :
    Calls Try.prog 5 #[.slice A xs.length cap] W fun r w' => r = .returned (.bool true) ∧ Below W.heap.size W w' := by
  by_cases hlen : 200 < xs.length
  · clear hI
    have hlen' : (200 : Int) < (xs.length : Int) := by omega
    refine calls_of_marks Try.func5 rfl ?_
    simp only [Try.ntmps5, List.size_toArray, List.length_cons, List.length_nil, Nat.reduceAdd, Nat.reduceSub, Array.replicate_succ, Array.replicate_zero, List.push_toArray, List.append_toArray, List.nil_append, List.cons_append]
    go_wp2_with (first | (go_at_call 7; refine (lives_any _).mono ?_; rintro e w1 ⟨rfl, hx⟩; obtain ⟨os1, k1, rfl⟩ := Ext.of_below hx; clear hx))
    refine marks_ret (v := .bool true) rfl (by simp [results, Try.results5, go_sem]) ⟨rfl, ?_⟩
    exact Ext.below (by repeat (first | exact Ext.refl _ | refine Ext.alloc ?_ _ | refine Ext.more ?_ _ _ | refine Ext.drew ?_ | refine Ext.drewN ?_ _ | refine Ext.setCell ?_ (by simp <;> omega) _))
  · have hlen' : (xs.length : Int) ≤ 200 := by omega
    have HI := Lib.hid hI
    have HBD := Lib.hid hb
    have e39 := fun w1 b => run_eql_func_nil (P := Try.prog) w1 39 (.func 29) #[] b _ _ _ Try.underlying39
    have HBR := Lib.hid (heap_alloc_new W (.cells #[.bool false] 4))
    clear hI hlen hb
    refine calls_of_marks Try.func5 rfl ?_
    simp only [Try.ntmps5, List.size_toArray, List.length_cons, List.length_nil, Nat.reduceAdd, Nat.reduceSub, Array.replicate_succ, Array.replicate_zero, List.push_toArray, List.append_toArray, List.nil_append, List.cons_append]
    go_wp2_with fail
    refine (lives_any _).mono ?_
    rintro e' w1 ⟨rfl, hx⟩
    replace hx := Ext.of_below hx
    have hBR : w1.heap[W.heap.size]? = some (.cells #[.bool false] 4) := ext_block HBR.out hx
    have hxW : Hid (Ext W w1) := (Ext.alloc (Ext.refl W) _).trans hx
    obtain ⟨br, hbr⟩ : ∃ br, W.heap.size = br := ⟨_, rfl⟩
    have HBRE := Lib.hid hbr
    rw [hbr] at hBR ⊢
    have rl := lt_of_heap hBR
    clear hbr HBR hx
    have HBR := Lib.hid hBR
    clear hBR
    go_wp2_with (first | (go_at_call 8; refine (new_any _).mono ?_; rintro e' w2 ⟨rfl, rfl⟩))
    have HS : Hid (St W.heap.size w1.heap.size W [] 0 ((((w1.alloc (.cells #[byKeyV, .slice none 0 0, .int .i64 0] 56)).alloc (.cells #[.slice none 0 0] 49))).alloc (.cells #[.pointer (some ⟨w1.heap.size + 1, 0, none⟩)] 47))) :=
      (St.new hxW.out.below hxW.out.size).ext (((Ext.refl _).alloc _).alloc _)
    have HRF : Hid (Ref (w1.heap.size + 1) (w1.heap.size + 1 + 1) br [] ((((w1.alloc (.cells #[byKeyV, .slice none 0 0, .int .i64 0] 56)).alloc (.cells #[.slice none 0 0] 49))).alloc (.cells #[.pointer (some ⟨w1.heap.size + 1, 0, none⟩)] 47))) := by
      have h1 := heap_alloc_new (w1.alloc (.cells #[byKeyV, .slice none 0 0, .int .i64 0] 56)) (.cells #[.slice none 0 0] 49)
      have h2 := heap_alloc_new ((w1.alloc (.cells #[byKeyV, .slice none 0 0, .int .i64 0] 56)).alloc (.cells #[.slice none 0 0] 49)) (.cells #[.pointer (some ⟨w1.heap.size + 1, 0, none⟩)] 47)
      rw [World.size_alloc] at h1
      rw [World.size_alloc, World.size_alloc] at h2
      exact ⟨⟨_, ext_heap h1 ((Ext.refl _).alloc _), ⟨none, 0, rfl, by simp, by unfold maxLen; omega, fun _ => rfl, fun h => by simp at h⟩⟩, h2, ext_heap HBR.out ((((Ext.refl _).alloc _).alloc _).alloc _)⟩
    have hps := HS.out.lt
    have hBp : Hid (W.heap.size ≤ w1.heap.size + 1) := by have := hxW.out.size; show _ ≤ _; omega
    obtain ⟨p, hp⟩ : ∃ p, w1.heap.size = p := ⟨_, rfl⟩
    rw [hp] at HS HRF hps hBp ⊢
    obtain ⟨pr, hpr⟩ : ∃ pr, p + 1 = pr := ⟨_, rfl⟩
    rw [hpr] at HS HRF hps hBp ⊢
    obtain ⟨b4, hb4⟩ : ∃ b4, pr + 1 = b4 := ⟨_, rfl⟩
    rw [hb4] at HRF ⊢
    generalize hWW : ((w1.alloc (.cells #[byKeyV, .slice none 0 0, .int .i64 0] 56)).alloc (.cells #[.slice none 0 0] 49)).alloc (.cells #[.pointer (some ⟨pr, 0, none⟩)] 47) = W2 at *
    clear hWW hp hpr hb4 HBR hxW rl
    clear w1
    go_loopw [5] (fun s wr => ∃ (i : Nat) (R : List It) (c : Int), i ≤ xs.length ∧ s = .int .i64 (i : Int) ∧ R.length ≤ i ∧ c ≤ i ∧ Hid (St W.heap.size p W R c wr) ∧ Hid (Ref pr b4 br R wr)) (fun s _ => xs.length - (intOf s).toNat)
    case atStart => exact ⟨0, [], 0, by omega, rfl, by simp, by omega, HS, HRF⟩
    case round =>
      obtain ⟨i, R, c, hi, rfl, hRl, hci, hst, hrf⟩ := hrel
      clear HS HRF
      have hpl := hst.out.lt
      by_cases hlt : i < xs.length
      · obtain ⟨b, off, rfl, hb, hcell⟩ := HI.out (by omega)
        obtain ⟨d0', d1'⟩ := hcell i hlt
        have d0 := (hst.out.below.cell (p := ⟨b, off + i * 2, none⟩) hb).trans d0'
        have d1 := (hst.out.below.cell (p := ⟨b, off + i * 2 + 1, none⟩) hb).trans d1'
        have hbw : b < wr.heap.size := by have := hst.out.below.size; omega
        have hbd := HBD.out (xs.getD i (0, 0)) (by rw [List.getD_eq_getElem?_getD, List.getElem?_eq_getElem hlt]; exact List.getElem_mem hlt)
        obtain ⟨kd, ky, hkk⟩ : ∃ kd ky, xs.getD i (0, 0) = (kd, ky) := ⟨_, _, rfl⟩
        rw [hkk] at d0 d1 hbd d1'
        simp only at d0 d1 hbd d1'
        have HD1 := Lib.hid d1'
        clear d0' d1'
        have hq := pickF_bd kd 4 (by omega)
        obtain ⟨q, hqe⟩ : ∃ q, pickF kd 4 = q := ⟨_, rfl⟩
        have PK := Lib.hid (fun w1 => pick_any kd 4 w1 (by omega) hbd)
        rw [hqe] at PK hq
        have q0 : (0 : Int) ≤ (i : Int) := by omega
        have q1 : (i : Int) < (xs.length : Int) := by omega
        have c4 := hrf.out.c4
        have x4 := cell_of_row _ _ 0 _ _ _ c4
        have l4 := lt_of_heap c4
        simp at x4
        clear hkk hqe hbd hcell c4
        rcases (show (q = 0 ∨ q = 1) ∨ (q = 2 ∨ q = 3) by omega) with hcase | hcase
        · have hqb : ((q == 0) = true ∨ ((q == 0) = false ∧ (q == 1) = true)) := by rcases hcase with rfl | rfl <;> simp
          clear hcase hq
          rcases hqb with e0 | ⟨e0, e1⟩
          all_goals
            go_wp2_with (first | (go_at_call 12; refine (PK.out _).mono ?_; rintro e' w3 ⟨rfl, rfl⟩) | (go_at_call 11; refine (one_any _ _ _).mono ?_; rintro e' w3 ⟨rfl, hx3⟩))
            refine (St.put (hst.out.ext hx3) _ _ (by omega) (by omega)).mono ?_
            rintro e' w4 ⟨rfl, hs4, hstay⟩
            have hr4 := (hrf.out.ext hx3).stays hstay
            have z4 := cell_of_row _ _ 0 _ _ _ hr4.c4
            have z1 := (hs4.below.cell (p := ⟨b, off + i * 2 + 1, none⟩) hb).trans HD1.out
            have zl4 := lt_of_heap hr4.c4
            have zlb : b < w4.heap.size := by have := hs4.below.size; omega
            simp at z4
            have hE4 : ∀ w', Ext w4 w' → Ref pr b4 br R w' := fun w' e => hr4.ext e
            obtain ⟨v4, hv4⟩ := hr4.rf
            have RP := Lib.hid (fun w' (e : Ext w4 w') => refPut pr v4 R c ky (i : Int) (by omega) w' (hv4.ext e) hst.out.sorted)
            have HS4 := Lib.hid hs4
            have HR4 := Lib.hid hr4
            clear hs4 hstay hr4 hE4 hv4 hst hrf hx3 d0 d1 x4 l4 hbw hpl
            go_wp2_with fail
            go_region_held3 (fun w' => w'.cell? ⟨b4, 0, none⟩ = some (.pointer (some ⟨pr, 0, none⟩)) ∧ w'.cell? ⟨b, off + i * 2 + 1, none⟩ = some (.int .i64 ky)) (first | go_keep | (refine ⟨(more_cell _ _ _ _ _ zl4).trans ?_, (more_cell _ _ _ _ _ zlb).trans ?_⟩ <;> simp [go_sem, *]) | exact ⟨k1, k2⟩) (first | (go_at_call 11; refine (one_any _ _ _).mono ?_; rintro e' w5 ⟨rfl, os5, k5, rfl⟩) | (go_at_call 21; refine (RP.out _ (by repeat (first | exact Ext.refl _ | refine Ext.alloc ?_ _ | refine Ext.more ?_ _ _ | refine Ext.drew ?_ | refine Ext.drewN ?_ _ | refine Ext.setCell ?_ (by simp <;> omega) _))).mono ?_; rintro e' w6 ⟨rfl, n6⟩; refine use_fact (step6 HS4.out HR4.out (by repeat (first | exact Ext.refl _ | refine Ext.alloc ?_ _ | refine Ext.more ?_ _ _ | refine Ext.drew ?_ | refine Ext.drewN ?_ _ | refine Ext.setCell ?_ (by simp <;> omega) _)) n6 hBp.out hb z1) ?_; rintro ⟨hs9, hr9, k1, k2⟩))
            have hRl9 : (insL R (c, ky, (i : Int))).length ≤ i + 1 := by
              rw [(insL_perm _ _).length_eq, List.length_append]
              simp
              exact hRl
            obtain ⟨R9, hR9⟩ : ∃ R9, insL R (c, ky, (i : Int)) = R9 := ⟨_, rfl⟩
            obtain ⟨c9, hc9⟩ : ∃ c9, c + 1 = c9 := ⟨_, rfl⟩
            rw [hR9] at hs9 hr9 hRl9
            rw [hc9] at hs9
            have hci9 : c9 ≤ (i : Int) + 1 := by omega
            have HS9 := Lib.hid hs9
            have HR9 := Lib.hid hr9
            clear hs9 hr9 k1 k2 HS4 HR4 RP hR9 hc9 z1 z4 zl4 zlb
            have hp9 := HS9.out.lt
            obtain ⟨v9, hv9⟩ := HR9.out.rf
            have x9 := cell_of_row _ _ 0 _ _ _ HR9.out.c4
            have y9 := cell_of_row _ _ 0 _ _ _ hv9.blk
            have l9 := lt_of_heap HR9.out.c4
            have m9 := lt_of_heap hv9.blk
            obtain ⟨A9, cap9, rfl, _⟩ := hv9.val
            simp at x9 y9
            obtain ⟨vh, hvh, _⟩ := HS9.out
            have LE := Lib.hid (fun w1 h1 => lenR p vh R9 c9 w1 h1)
            have HVH := Lib.hid hvh
            clear hv9 hvh
            go_wp2_with fail
            refine wp_region_ext (by kernel_rfl) (by kernel_rfl) ?_
            repeat (go_big_quiet_step ((go_at_call 14; exact calls_ext (LE.out _ (HVH.out.ext (by repeat (first | exact Ext.refl _ | refine Ext.alloc ?_ _ | refine Ext.more ?_ _ _ | refine Ext.drew ?_ | refine Ext.drewN ?_ _ | refine Ext.setCell ?_ (by simp <;> omega) _)))))))
            refine wpQuiet_nil ?_
            intro _ hw'
            obtain ⟨x, hx⟩ := hw'
            have hE9 : Ext _ _ := ⟨x.os, x.k, hx⟩
            have HS10 := Lib.hid (HS9.out.ext hE9)
            have HR10 := Lib.hid (HR9.out.ext hE9)
            clear HS9 HR9 LE HVH hE9 hx x9 y9 l9 m9 hp9
            go_wp2_with fail
            go_roundw
            case rel => exact ⟨i + 1, R9, c9, by omega, by go_num, by omega, by omega, HS10, HR10⟩
            case measure => simp [intOf]; omega
        · have e0 : (q == 0) = false := by rcases hcase with rfl | rfl <;> simp
          have e1 : (q == 1) = false := by rcases hcase with rfl | rfl <;> simp
          have hqb : ((q == 2) = true ∨ (q == 2) = false) := by rcases hcase with rfl | rfl <;> simp
          have TK := St.takeU hst.out (by omega)
          have LS := St.leastU hst.out
          obtain ⟨vr, hvr⟩ := hrf.out.rf
          have TR := Lib.hid (fun w1 h1 => refTake pr vr R w1 h1)
          have LR := Lib.hid (fun w1 h1 => refLeast pr vr R w1 h1)
          obtain ⟨hk, hd, hkd⟩ : ∃ hk hd, (R.getD 0 z3).2 = (hk, hd) := ⟨_, _, rfl⟩
          obtain ⟨bb, hbb⟩ : ∃ bb, decide (0 < R.length) = bb := ⟨_, rfl⟩
          rw [show (R.getD 0 z3).2.1 = hk by rw [hkd], show (R.getD 0 z3).2.2 = hd by rw [hkd], hbb] at TK LS TR LR
          have HTK := Lib.hid TK
          have HLS := Lib.hid LS
          have HVR := Lib.hid hvr
          clear hcase hq TK LS hkd hbb hvr
          rcases hqb with e2 | e2
          · go_wp2_with (first | (go_at_call 12; refine (PK.out _).mono ?_; rintro e' w3 ⟨rfl, rfl⟩))
            refine HTK.out.mono ?_
            rintro e' w4 ⟨rfl, hs4, hstay⟩
            have HS4 := Lib.hid (hs4.ext ((Ext.refl _).alloc (.cells #[.int .i64 hk, .int .i64 hd] 27)))
            have hrf4 := hrf.out.stays hstay
            have hvr4 := HVR.out.stays hstay
            have HR4 := Lib.hid (hrf4.ext ((Ext.refl _).alloc (.cells #[.int .i64 hk, .int .i64 hd] 27)))
            have HV4 := Lib.hid (hvr4.ext ((Ext.refl _).alloc (.cells #[.int .i64 hk, .int .i64 hd] 27)))
            have HX4 := Lib.hid (heap_alloc_new w4 (.cells #[.int .i64 hk, .int .i64 hd] 27))
            have x5 := cell_of_row _ _ 0 _ _ _ hrf4.c4
            have l5 := lt_of_heap hrf4.c4
            simp at x5
            clear hs4 hrf4 hvr4 hstay
            go_wp2_with fail
            refine (TR.out _ HV4.out).mono ?_
            rintro e' w5 ⟨rfl, n5⟩
            have hs5 := St.next HS4.out HR4.out n5 hBp.out
            have hr5 := HR4.out.next n5
            have hx5 : w5.heap[w4.heap.size]? = some (.cells #[.int .i64 hk, .int .i64 hd] 27) := by
              obtain ⟨v', hv', t'⟩ := n5
              refine (t'.block _ (lt_of_heap HX4.out) ?_).trans HX4.out
              rintro rfl
              have := HX4.out
              rw [HV4.out.blk] at this
              injection this with this
              injection this with _ this
              cases this
            have HS9 := Lib.hid (hs5.ext ((Ext.refl _).alloc (.cells #[.int .i64 hk, .int .i64 hd] 27)))
            have HR9 := Lib.hid (hr5.ext ((Ext.refl _).alloc (.cells #[.int .i64 hk, .int .i64 hd] 27)))
            have x6 := cell_of_row _ _ 0 _ _ _ hx5
            have x7 := cell_of_row _ _ 1 _ _ _ hx5
            have l6 := lt_of_heap hx5
            simp at x6 x7
            have hRl9 : (R.drop 1).length ≤ i + 1 := by rw [List.length_drop]; omega
            obtain ⟨R9, hR9⟩ : ∃ R9, R.drop 1 = R9 := ⟨_, rfl⟩
            obtain ⟨c9, hc9⟩ : ∃ c9, c = c9 := ⟨_, rfl⟩
            rw [hR9] at HS9 HR9 hRl9
            rw [hc9] at HS9
            have hci9 : c9 ≤ (i : Int) + 1 := by omega
            clear hs5 hr5 n5 hx5 HS4 HR4 HV4 HX4 hst hrf HTK HLS HVR TR LR hR9 hc9 x5 l5 PK
            go_wp2_with fail
            generalize hW9 : w5.alloc (.cells #[.int .i64 hk, .int .i64 hd] 27) = W9 at *
            clear hW9
            have hp9 := HS9.out.lt
            obtain ⟨v9, hv9⟩ := HR9.out.rf
            have x9 := cell_of_row _ _ 0 _ _ _ HR9.out.c4
            have y9 := cell_of_row _ _ 0 _ _ _ hv9.blk
            have l9 := lt_of_heap HR9.out.c4
            have m9 := lt_of_heap hv9.blk
            obtain ⟨A9, cap9, rfl, _⟩ := hv9.val
            simp at x9 y9
            obtain ⟨vh, hvh, _⟩ := HS9.out
            have LE := Lib.hid (fun w1 h1 => lenR p vh R9 c9 w1 h1)
            have HVH := Lib.hid hvh
            clear hv9 hvh
            go_wp2_with fail
            refine wp_region_ext (by kernel_rfl) (by kernel_rfl) ?_
            repeat (go_big_quiet_step ((go_at_call 14; exact calls_ext (LE.out _ (HVH.out.ext (by repeat (first | exact Ext.refl _ | refine Ext.alloc ?_ _ | refine Ext.more ?_ _ _ | refine Ext.drew ?_ | refine Ext.drewN ?_ _ | refine Ext.setCell ?_ (by simp <;> omega) _)))))))
            refine wpQuiet_nil ?_
            intro _ hw'
            obtain ⟨x, hx⟩ := hw'
            have hE9 : Ext _ _ := ⟨x.os, x.k, hx⟩
            have HS10 := Lib.hid (HS9.out.ext hE9)
            have HR10 := Lib.hid (HR9.out.ext hE9)
            clear HS9 HR9 LE HVH hE9 hx x9 y9 l9 m9 hp9
            go_wp2_with fail
            go_roundw
            case rel => exact ⟨i + 1, R9, c9, by omega, by go_num, by omega, by omega, HS10, HR10⟩
            case measure => simp [intOf]; omega
          · go_wp2_with (first | (go_at_call 12; refine (PK.out _).mono ?_; rintro e' w3 ⟨rfl, rfl⟩))
            refine HLS.out.mono ?_
            rintro e' w4 ⟨rfl, hx4⟩
            have EX4 := Lib.hid (hx4.alloc (.cells #[.int .i64 hk, .int .i64 hd] 27))
            have HX4 := Lib.hid (heap_alloc_new w4 (.cells #[.int .i64 hk, .int .i64 hd] 27))
            have x5 := cell_of_row _ _ 0 _ _ _ (hrf.out.ext hx4).c4
            have l5 := lt_of_heap (hrf.out.ext hx4).c4
            simp at x5
            clear hx4
            go_wp2_with fail
            refine (LR.out _ (HVR.out.ext EX4.out)).mono ?_
            rintro e' w5 ⟨rfl, hx5'⟩
            have hx5 := ext_heap HX4.out hx5'
            have HS9 := Lib.hid (((hst.out.ext EX4.out).ext hx5').ext ((Ext.refl _).alloc (.cells #[.int .i64 hk, .int .i64 hd] 27)))
            have HR9 := Lib.hid (((hrf.out.ext EX4.out).ext hx5').ext ((Ext.refl _).alloc (.cells #[.int .i64 hk, .int .i64 hd] 27)))
            have x6 := cell_of_row _ _ 0 _ _ _ hx5
            have x7 := cell_of_row _ _ 1 _ _ _ hx5
            have l6 := lt_of_heap hx5
            simp at x6 x7
            have hRl9 : R.length ≤ i + 1 := by omega
            obtain ⟨R9, hR9⟩ : ∃ R9, R = R9 := ⟨_, rfl⟩
            obtain ⟨c9, hc9⟩ : ∃ c9, c = c9 := ⟨_, rfl⟩
            rw [hR9] at HS9 HR9 hRl9
            rw [hc9] at HS9
            have hci9 : c9 ≤ (i : Int) + 1 := by omega
            clear hx5' hx5 HX4 EX4 hst hrf HTK HLS HVR TR LR hR9 hc9 x5 l5 PK
            go_wp2_with fail
            generalize hW9 : w5.alloc (.cells #[.int .i64 hk, .int .i64 hd] 27) = W9 at *
            clear hW9
            have hp9 := HS9.out.lt
            obtain ⟨v9, hv9⟩ := HR9.out.rf
            have x9 := cell_of_row _ _ 0 _ _ _ HR9.out.c4
            have y9 := cell_of_row _ _ 0 _ _ _ hv9.blk
            have l9 := lt_of_heap HR9.out.c4
            have m9 := lt_of_heap hv9.blk
            obtain ⟨A9, cap9, rfl, _⟩ := hv9.val
            simp at x9 y9
            obtain ⟨vh, hvh, _⟩ := HS9.out
            have LE := Lib.hid (fun w1 h1 => lenR p vh R9 c9 w1 h1)
            have HVH := Lib.hid hvh
            clear hv9 hvh
            go_wp2_with fail
            refine wp_region_ext (by kernel_rfl) (by kernel_rfl) ?_
            repeat (go_big_quiet_step ((go_at_call 14; exact calls_ext (LE.out _ (HVH.out.ext (by repeat (first | exact Ext.refl _ | refine Ext.alloc ?_ _ | refine Ext.more ?_ _ _ | refine Ext.drew ?_ | refine Ext.drewN ?_ _ | refine Ext.setCell ?_ (by simp <;> omega) _)))))))
            refine wpQuiet_nil ?_
            intro _ hw'
            obtain ⟨x, hx⟩ := hw'
            have hE9 : Ext _ _ := ⟨x.os, x.k, hx⟩
            have HS10 := Lib.hid (HS9.out.ext hE9)
            have HR10 := Lib.hid (HR9.out.ext hE9)
            clear HS9 HR9 LE HVH hE9 hx x9 y9 l9 m9 hp9
            go_wp2_with fail
            go_roundw
            case rel => exact ⟨i + 1, R9, c9, by omega, by go_num, by omega, by omega, HS10, HR10⟩
            case measure => simp [intOf]; omega
      · obtain rfl : i = xs.length := by omega
        have hbw := hst.out.below
        go_wp2_with fail
        refine (all_any p _).mono ?_
        rintro e' w9 ⟨rfl, rfl⟩
        go_wp2_with fail
        obtain ⟨v, HR0, HBe0, HF0⟩ := hst.out
        obtain ⟨vr, HV0⟩ := hrf.out.rf
        have HC0 := hrf.out.c4
        have HB0 := hrf.out.cr
        have EX : Ext wr ((wr.alloc (.cells #[.pointer (some ⟨p, 0, none⟩)] 24)).alloc (.cells #[.int .i64 0] 3)) := ((Ext.refl wr).alloc _).alloc _
        have HR := HR0.ext EX
        have D1 := HV0.ext EX
        have D2 := ext_heap HC0 EX
        have D3 := ext_heap HB0 EX
        have D4 := HBe0.trans (EX.below.mono (by have := HBe0.size; exact this))
        have DX : ((wr.alloc (.cells #[.pointer (some ⟨p, 0, none⟩)] 24)).alloc (.cells #[.int .i64 0] 3)).heap[wr.heap.size]? = some (.cells #[.pointer (some ⟨p, 0, none⟩)] 24) := ext_heap (heap_alloc_new _ _) ((Ext.refl _).alloc _)
        have DN : ((wr.alloc (.cells #[.pointer (some ⟨p, 0, none⟩)] 24)).alloc (.cells #[.int .i64 0] 3)).heap[wr.heap.size + 1]? = some (.cells #[.int .i64 0] 3) := by
          have := heap_alloc_new (wr.alloc (.cells #[.pointer (some ⟨p, 0, none⟩)] 24)) (.cells #[.int .i64 0] 3)
          rwa [World.size_alloc] at this
        have n1 := lt_of_heap HC0
        have n2 := lt_of_heap HB0
        have n3 := lt_of_heap HV0.blk
        have n5 : W.heap.size ≤ wr.heap.size := HBe0.size
        obtain ⟨bn, hbn⟩ : ∃ bn, wr.heap.size + 1 = bn := ⟨_, rfl⟩
        obtain ⟨bx, hbx⟩ : ∃ bx, wr.heap.size = bx := ⟨_, rfl⟩
        rw [hbn] at DN ⊢
        rw [hbx] at DX ⊢
        have m1 : b4 < bn := by omega
        have m2 : br < bn := by omega
        have m3 : pr < bn := by omega
        have m4 : W.heap.size ≤ bn := by omega
        generalize hW9 : (wr.alloc (.cells #[.pointer (some ⟨p, 0, none⟩)] 24)).alloc (.cells #[.int .i64 0] 3) = W9 at *
        clear hW9 hbn hbx EX HR0 HBe0 HF0 HV0 HC0 HB0 hst hrf hbw hlt
        have hml := HR.mine_lt
        have hl1 := lt_of_heap D2
        have hl2 := lt_of_heap D3
        have hl3 := D1.old
        have hl4 := lt_of_heap DN
        have hW9 : W.heap.size ≤ W9.heap.size := by omega
        have n49 : br ≠ b4 := by
          rintro rfl
          rw [D2] at D3
          cases D3
        have n50 : br ≠ pr := by
          rintro rfl
          rw [D1.blk] at D3
          injection D3 with D3
          injection D3 with _ D3
          cases D3
        refine wp_range (gf := 29) (lb := #[.pointer (some ⟨bx, 0, none⟩)]) (encs := encIt) (xs := R.map fun r => r.2) (lo := bn) rfl (enters_of Try.func29 (by kernel_rfl) rfl) (fun _ => rfl) (by omega)
          (fun w1 hx _ => all_iter p v R _ w1 bx _ (HR.ext hx) (ext_heap DX hx) (by omega))
          (fun j W' => (HeapR W' p v R c ∧ RefAt W' pr vr R ∧ W'.heap[b4]? = some (.cells #[.pointer (some ⟨pr, 0, none⟩)] 47) ∧ W'.heap[br]? = some (.cells #[.bool false] 4) ∧ Below W.heap.size W W') ∧ W'.heap[bn]? = some (.cells #[.int .i64 (j : Int)] 3))
          (fun _ _ _ => False) ?_ ?_ ⟨⟨HR, D1, D2, D3, D4⟩, DN⟩ ?_ ?_ ?_
        · rintro j A' B' hb hsz ⟨⟨i1, i2, i3, i4, i5⟩, i6⟩
          exact ⟨⟨i1.kept hb hml, i2.kept hb hl3.1 hl3.2, (hb.block _ hl1).trans i3, (hb.block _ hl2).trans i4, i5.trans (hb.mono hW9)⟩, (hb.block _ hl4).trans i6⟩
        · rintro cc j A' B' hb hsz h
          exact h
        · rintro l j x W' hx _ hsz
          have hjl : j < R.length := by
            have := (List.getElem?_eq_some_iff.1 hx).1
            rw [List.length_map] at this
            exact this
          obtain ⟨hk, hd, hkd⟩ : ∃ hk hd, (R.getD j z3).2 = (hk, hd) := ⟨_, _, rfl⟩
          have hxe : x = (hk, hd) := by
            rw [← hkd]
            rw [List.getElem?_map, List.getElem?_eq_getElem hjl] at hx
            rw [List.getD_eq_getElem?_getD, List.getElem?_eq_getElem hjl]
            injection hx with hx
            exact hx.symm
          subst hxe
          have HKD := Lib.hid hkd
          clear hkd hx
          simp only [encIt]
          gi_wp2
          refine ⟨(Ext.refl _).alloc _, ?_⟩
          rintro W2 t2 ⟨⟨i1, i2, i3, i4, i5⟩, i6⟩ hsz2
          have hX2 := (t2.block W'.heap.size (by simp) (by omega)).trans (heap_alloc_new W' (.cells #[.int .i64 hk, .int .i64 hd] 27))
          obtain ⟨bb, hbb⟩ : ∃ bb, W'.heap.size = bb := ⟨_, rfl⟩
          rw [hbb] at hX2 ⊢
          have hcl := i2.val
          have ib := i2.blk
          obtain ⟨Ar, capr, rfl, hcr1, hcr2, _⟩ := i2.val
          obtain ⟨b, off, rfl, hbl, hcell⟩ := hcl.cells (by rw [refC_length]; omega)
          obtain ⟨g0, g1⟩ := refC_get R j hjl
          have e0 := hcell _ _ g0
          have e1 := hcell _ _ g1
          rw [show (R.getD j z3).2.1 = hk by rw [HKD.out]] at e0
          rw [show (R.getD j z3).2.2 = hd by rw [HKD.out], ← Nat.add_assoc] at e1
          have c1 := cell_of_row _ _ 0 _ _ _ i3
          have c2 := cell_of_row _ _ 0 _ _ _ ib
          have c3 := cell_of_row _ _ 0 _ _ _ i6
          have c4 := cell_of_row _ _ 0 _ _ _ hX2
          have c5 := cell_of_row _ _ 1 _ _ _ hX2
          simp at c1 c2 c3 c4 c5
          have d1 := lt_of_heap i3
          have d2 := lt_of_heap ib
          have d3 := lt_of_heap i6
          have d4 := lt_of_heap hX2
          have df : W2.frozen? ⟨bn, 0, none⟩ = false := by simp [World.frozen?, i6]
          have t1 : decide (R.length ≤ j) = false := by rw [decide_eq_false_iff_not]; omega
          have q0 : (0 : Int) ≤ (j : Int) := by omega
          have q1 : (j : Int) < (R.length : Int) := by omega
          have I1 := Lib.hid i1
          have I2 := Lib.hid i2
          have I3 := Lib.hid i3
          have I4 := Lib.hid i4
          have I5 := Lib.hid i5
          have I6 := Lib.hid i6
          clear i1 i2 i3 i4 i5 i6 hX2 hbb t2 hcell g0 g1 hcl ib
          gi_wp2
          refine wpIn_region_ext (by kernel_rfl) (by kernel_rfl) (by kernel_rfl) ?_
          repeat (go_big_quiet_step (fail))
          refine wpQuiet_nil ?_
          intro _ hw'
          obtain ⟨x9, rfl⟩ := hw'
          gi_wp2
          have T := Turn.setCell (S := fun b => b = bn) W2 (p := ⟨bn, 0, none⟩) rfl (.int .i64 ((j : Int) + 1))
          have hE10 : Ext (W2.setCell ⟨bn, 0, none⟩ (.int .i64 ((j : Int) + 1))) (more (W2.setCell ⟨bn, 0, none⟩ (.int .i64 ((j : Int) + 1))) x9.os x9.k) := ⟨x9.os, x9.k, rfl⟩
          have T' : Turn (fun b => b = bn) W2 (more (W2.setCell ⟨bn, 0, none⟩ (.int .i64 ((j : Int) + 1))) x9.os x9.k) := T.trans (Turn.of_ext hE10)
          refine ⟨T'.mono fun k _ hk => .inl ⟨by omega, by omega⟩, ⟨(I1.out.turn T ?_).ext hE10, (I2.out.turn T (fun cs hg => ?_) (by omega)).ext hE10, (T'.block _ d1 (by omega)).trans I3.out, (T'.block _ (lt_of_heap I4.out) (by omega)).trans I4.out, I5.out.trans (T'.below (by omega) fun b hb => by omega)⟩, ?_⟩
          · rintro b rfl
            exact ⟨_, I6.out, other_kind _ 3 (0, 0) (by decide) (by decide)⟩
          · rw [I6.out] at hg
            injection hg with hg
            injection hg with _ hg
            cases hg
          · refine ext_heap ?_ hE10
            simp [World.setCell, Array.getElem?_modify, I6.out]
        · rintro D W' ⟨⟨i1, i2, i3, i4, i5⟩, i6⟩ hD hsz hk
          rw [List.length_map] at i6
          have ib := i2.blk
          obtain ⟨Ar, capr, rfl, hcr1, hcr2, _⟩ := i2.val
          have c1 := cell_of_row _ _ 0 _ _ _ i3
          have c2 := cell_of_row _ _ 0 _ _ _ ib
          have c3 := cell_of_row _ _ 0 _ _ _ i6
          have c4 := cell_of_row _ _ 0 _ _ _ i4
          simp at c1 c2 c3 c4
          have d1 := lt_of_heap i3
          have d2 := lt_of_heap ib
          have d3 := lt_of_heap i6
          have d4 := lt_of_heap i4
          have df : W'.frozen? ⟨br, 0, none⟩ = false := by simp [World.frozen?, i4]
          have I1 := Lib.hid i1
          have I4 := Lib.hid i4
          have I5 := Lib.hid i5
          have HK := Lib.hid hk
          have LE := Lib.hid (fun w1 h1 => lenR p v R c w1 h1)
          have hdl := lt_of_heap hk
          clear i1 i2 i3 i4 i5 i6 hk ib
          have ne1 : bn ≠ br := by omega
          have ne2 : b4 ≠ br := Ne.symm n49
          have ne3 : pr ≠ br := Ne.symm n50
          go_wp2_with fail
          go_region_held3 (fun w' => w'.cell? ⟨bn, 0, none⟩ = some (.int .i64 (R.length : Int)) ∧ w'.cell? ⟨b4, 0, none⟩ = some (.pointer (some ⟨pr, 0, none⟩)) ∧ w'.cell? ⟨pr, 0, none⟩ = some (.slice Ar R.length capr)) (first | go_keep | (refine ⟨(more_cell _ _ _ _ _ (by first | exact d3 | (rw [World.size_setCell]; exact d3))).trans ?_, (more_cell _ _ _ _ _ (by first | exact d1 | (rw [World.size_setCell]; exact d1))).trans ?_, (more_cell _ _ _ _ _ (by first | exact d2 | (rw [World.size_setCell]; exact d2))).trans ?_⟩ <;> simp [go_sem, *])) (first | (go_at_call 14; refine (LE.out _ (I1.out.ext (by repeat (first | exact Ext.refl _ | refine Ext.alloc ?_ _ | refine Ext.more ?_ _ _ | refine Ext.drew ?_ | refine Ext.drewN ?_ _ | refine Ext.setCell ?_ (by simp <;> omega) _)))).mono ?_; rintro e' w13 ⟨rfl, os3, k3, rfl⟩; have cz4 := (more_cell W' os3 k3 br 0 d4).trans c4; have cf4 := (more_frozen W' os3 k3 br 0 d4).trans df))
          all_goals go_wp2_with fail
          have hE9 : Ext (W'.setCell ⟨br, 0, none⟩ (.bool true)) (more (W'.setCell ⟨br, 0, none⟩ (.bool true)) os3 k3) := ⟨os3, k3, rfl⟩
          have T9 := Turn.setCell (S := fun b => b = br) W' (p := ⟨br, 0, none⟩) rfl (.bool true)
          have hB4 : (W'.setCell ⟨br, 0, none⟩ (.bool true)).heap[br]? = some (.cells #[.bool true] 4) := by simp [World.setCell, Array.getElem?_modify, I4.out]
          have hKD : (W'.setCell ⟨br, 0, none⟩ (.bool true)).heap[D]? = some (.deferred (some [])) := (T9.block _ hdl (by omega)).trans HK.out
          have hcl : ((more (W'.setCell ⟨br, 0, none⟩ (.bool true)) os3 k3).putObj D (.deferred none)).cell? ⟨br, 0, none⟩ = some (.bool true) :=
            (World.cell?_of_block (w := more (W'.setCell ⟨br, 0, none⟩ (.bool true)) os3 k3) (World.putObj_heap_other (show br ≠ D by omega))).trans (cell_of_row _ _ 0 _ _ _ (ext_heap hB4 hE9))
          refine marks_ret1 (D := D) (v := .bool true) rfl (ext_heap hKD hE9) (by simp [results, Try.results5, go_sem, hcl]) ⟨rfl, ?_⟩
          refine ((I5.out.trans (T9.below (by omega) (fun b hb => by have := HBRE.out; omega))).trans (hE9.below.mono (by rw [World.size_setCell]; omega))).trans ((putObj_turn (S := fun b => b = D) _ _ rfl).below ?_ (fun b hb => by omega))
          have := hE9.size
          rw [World.size_setCell] at this
          omega
        · rintro D cc j W' hj h
          exact h.elim
end Go.Proofs.Ytjllikpocfppoaa
