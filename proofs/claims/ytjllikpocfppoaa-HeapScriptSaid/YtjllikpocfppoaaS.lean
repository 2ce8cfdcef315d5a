/- HeapSorts: the walk. -/
import Derived.Test.YtjllikpocfppoaaR
import Derived.Test.YtjllikpocfppoaaI
import Derived.Test.YtjllikpocfppoaaTk
import Derived.WalkSpells
import Derived.WalkLawsBesides
import Derived.BigRegion
import Derived.Deep.RegionWith
import Derived.Deep.QuietTactic
import Derived.Deep.DeepCutAuto
import Derived.Deep.RegionHeld3
import Derived.Deep.RegionLaw
import Derived.BigQuiet
import Derived.Lib.Hide
namespace Go.Proofs.Ytjllikpocfppoaa
open Go.RowKit
attribute [local go_sem] more_drew more_drewN more_size more_cell more_frozen more_setCell drew_more drewN_more lt_add_r lt_add_r2 lt_add_r3 lt_add_r4 lt_add_r5 lt_add_r6 lt_add_r7 lt_add_r8 lt_add_r9 lt_add_r10 lt_self_r lt_self_r2

/-- the heap at p, and what lay ahead of B as it was -/
def St (B p : Nat) (W : World) (R : List It) (c : Int) (wr : World) : Prop := ∃ v, HeapR wr p v R c ∧ Below B W wr ∧ From B p v
section
variable {B p : Nat} {W wr w' : World} {R : List It} {c : Int} {r : It}
theorem St.lt (h : St B p W R c wr) : p < wr.heap.size := by
  obtain ⟨v, h, _⟩ := h
  exact h.lt
theorem St.below (h : St B p W R c wr) : Below B W wr := by
  obtain ⟨v, _, h, _⟩ := h
  exact h
theorem St.ext (h : St B p W R c wr) (e : Ext wr w') : St B p W R c w' := by
  obtain ⟨v, h1, h2, h3⟩ := h
  have := h1.lt
  have := h3 p (.inl rfl)
  exact ⟨v, h1.ext e, h2.trans (e.below.mono (by omega)), h3⟩
/-- every block of another kind stays -/
def Stays (w w' : World) : Prop := ∀ (b : Nat) (o : Obj), w.heap[b]? = some o → (∀ cs fr, o ≠ .cells cs 56 fr ∧ o ≠ .cells cs 60 fr) → w'.heap[b]? = some o
theorem St.put (h : St B p W R c wr) (k d : Int) (hX : R.length ≤ 100000) (hc1 : c ≤ 100000) :
    Calls Try.prog 10 #[.pointer (some ⟨p, 0, none⟩), .agg #[.int .i64 k, .int .i64 d]] wr fun e w' => e = .returned (.tuple #[]) ∧ St B p W (insL R (c, k, d)) (c + 1) w' ∧ Stays wr w' := by
  obtain ⟨v, h1, h2, h3⟩ := h
  refine (putR p v R c k d hX hc1 wr h1).mono ?_
  rintro e w' ⟨he, v', h', m⟩
  exact ⟨he, ⟨v', h', h2.trans (h1.below m h3), h3.moves h1 m⟩, fun b o ho hn => h1.stays m ho hn⟩
theorem St.take (h : St B p W (r :: R) c wr) (hX : R.length ≤ 100000) :
    Calls Try.prog 13 #[.pointer (some ⟨p, 0, none⟩)] wr fun e w' => e = .returned (.tuple #[.agg #[.int .i64 r.2.1, .int .i64 r.2.2], .bool true]) ∧ St B p W R c w' ∧ Stays wr w' := by
  obtain ⟨v, h1, h2, h3⟩ := h
  refine (takeR p v r R c wr hX h1).mono ?_
  rintro e w' ⟨he, v', h', m⟩
  exact ⟨he, ⟨v', h', h2.trans (h1.below m h3), h3.moves h1 m⟩, fun b o ho hn => h1.stays m ho hn⟩
theorem St.len (h : St B p W R c wr) : Calls Try.prog 14 #[.pointer (some ⟨p, 0, none⟩)] wr fun e w' => e = .returned (.int .i64 R.length) ∧ St B p W R c w' ∧ Ext wr w' := by
  have hh := h
  obtain ⟨v, h1, h2, h3⟩ := h
  refine (lenR p v R c wr h1).mono ?_
  rintro e w' ⟨he, ext⟩
  exact ⟨he, hh.ext ext, ext⟩
/-- a write to blocks of another kind, behind B -/
theorem St.turn {S : Nat → Prop} (h : St B p W R c wr) (t : Turn S wr w') (hn : ∀ b, S b → b < wr.heap.size → ∃ o, wr.heap[b]? = some o ∧ ∀ cs fr, o ≠ .cells cs 56 fr ∧ o ≠ .cells cs 60 fr) (hB : ∀ b, S b → B ≤ b) : St B p W R c w' := by
  obtain ⟨v, h1, h2, h3⟩ := h
  have hp := h1.lt
  have hp2 := h3 p (.inl rfl)
  refine ⟨v, h1.turn (t.mono (S' := fun b => S b ∧ b < wr.heap.size) fun k hk hS => ⟨hS, hk⟩) (fun b hb => hn b hb.1 hb.2), h2.trans (t.below (by omega) hB), h3⟩
theorem St.new (h : Below B W wr) (hB : B ≤ wr.heap.size) : St B wr.heap.size W [] 0 (wr.alloc (.cells #[byKeyV, .slice none 0 0, .int .i64 0] 56)) :=
  ⟨_, newR wr, h.alloc hB _, From.new _ _ hB⟩
theorem St.sorted (h : St B p W R c wr) : R.Pairwise fun a b => ltI a b = true := by
  obtain ⟨v, ⟨X, _, hm, _⟩, _⟩ := h
  exact hm.sorted
end
theorem Ints.below' {B : Nat} {w w' : World} {A : Option Addr} {xs : List Int} (h : Ints w A xs) (hB : B = w.heap.size) (e : Below B w w') : Ints w' A xs := by
  subst hB
  exact h.below e
theorem St.grown {B p : Nat} {W wr w' : World} {R : List It} {c : Int} {v : Value} {n : Nat} {xs : List Value} (h : St B p W R c wr) (ho : wr.ownsRow (p + 1) 27 2 v n xs) (g : wr.grownBy w' v.ownBlock) : St B p W R c w' := by
  have hB : B ≤ p := by
    obtain ⟨_, _, _, h⟩ := h
    exact h p (.inl rfl)
  refine h.turn (S := fun b => v.ownBlock = some b) (Turn.grown g fun b hb _ => hb) (fun b hb _ => ?_) (fun b hb => by have := own_block ho b hb; omega)
  obtain ⟨cur, hc⟩ := own_obj ho b hb
  exact ⟨_, hc, kind27 cur⟩
theorem stays_own {w w' : World} {base size : Nat} {v : Value} {n : Nat} {xs : List Value} (h : w.ownsRow base 27 size v n xs) (hs : Stays w w') : w'.ownsRow base 27 size v n xs :=
  own_keep h fun g hg => by
    obtain ⟨cur, hc⟩ := own_obj h g hg
    rw [hc]
    exact hs _ _ hc (kind27 cur)
def outC (R : List It) (i : Nat) : List Value := (R.take i).flatMap fun r => [.int .i64 r.2.1, .int .i64 r.2.2]
theorem outC_succ (R : List It) (i : Nat) (h : i < R.length) : outC R (i + 1) = outC R i ++ [.int .i64 (R.getD i z3).2.1, .int .i64 (R.getD i z3).2.2] := by
  unfold outC
  rw [take_snoc R i h, List.flatMap_append]
  rfl
theorem outC_get (R : List It) (i j : Nat) (hi : i ≤ R.length) (hj : j < i) : (outC R i)[j * 2]? = some (.int .i64 (R.getD j z3).2.1) ∧ (outC R i)[j * 2 + 1]? = some (.int .i64 (R.getD j z3).2.2) := by
  induction i with
  | zero => omega
  | succ i ih =>
    have hl : ∀ i, i ≤ R.length → (outC R i).length = i * 2 := by
      intro i
      induction i with
      | zero => intro _; rfl
      | succ i ih => intro h; rw [outC_succ R i (by omega)]; simp [ih (by omega)]; omega
    rw [outC_succ R i (by omega)]
    rcases (show j = i ∨ j < i by omega) with rfl | hlt
    · rw [List.getElem?_append_right (by rw [hl _ (by omega)]; omega), List.getElem?_append_right (by rw [hl _ (by omega)]; omega), hl _ (by omega)]
      simp
    · rw [List.getElem?_append_left (by rw [hl _ (by omega)]; omega), List.getElem?_append_left (by rw [hl _ (by omega)]; omega)]
      exact ih (by omega) hlt
/-- the one that was taken ahead -/
def lastOf (R : List It) (i : Nat) : Int × Int := if i = 0 then (0, 0) else (R.getD (i - 1) z3).2
theorem kindMap (es : Array MapEntry) (clock : Nat) : ∀ cs' fr', (Obj.map es clock) ≠ .cells cs' 56 fr' ∧ (Obj.map es clock) ≠ .cells cs' 60 fr' := fun _ _ => ⟨(fun h => by cases h), (fun h => by cases h)⟩
theorem Seen.stays {w w' : World} {b n : Nat} {S : List Int} (h : Seen w b n S) (hs : Stays w w') : Seen w' b n S := by
  obtain ⟨es, clock, hb⟩ := h.obj
  exact h.keep ((hs b _ hb (kindMap _ _)).trans hb.symm)
theorem Seen.ext {w w' : World} {b n : Nat} {S : List Int} (h : Seen w b n S) (e : Ext w w') : Seen w' b n S := by
  obtain ⟨es, clock, hb⟩ := h.obj
  exact h.keep (e.below.block b (lt_of_heap hb))
/-- what a test of the law's asks of what was taken -/
theorem last_le (xs : List Int) (e i : Nat) (hi0 : 0 < i) (hi : i < xs.length) (he : e ≤ xs.length) (hs : (r3 xs e e).Pairwise fun a b => ltI a b = true) :
    (lastOf (r3 xs e e) i).1 < ((r3 xs e e).getD i z3).2.1 ∨ ((lastOf (r3 xs e e) i).1 = ((r3 xs e e).getD i z3).2.1 ∧ (e = 0 → (lastOf (r3 xs e e) i).2 < ((r3 xs e e).getD i z3).2.2)) := by
  obtain ⟨j, rfl⟩ : ∃ j, i = j + 1 := ⟨i - 1, by omega⟩
  unfold lastOf
  rw [if_neg (by omega), Nat.add_sub_cancel]
  rcases pair_lt _ hs j (by rw [r3_length]; omega) with h | ⟨h1, h2⟩
  · exact .inl h
  · refine .inr ⟨h1, fun h0 => ?_⟩
    subst h0
    have a := r3_num xs j (by omega)
    have b := r3_num xs (j + 1) hi
    rw [a, b] at h2
    exact h2
theorem info27 : (Try.prog.info? 27).map (fun i => (i.zero, i.size, i.bytes)) = some (some (.agg #[.int .i64 0, .int .i64 0]), 2, 16) := by kernel_rfl

set_option maxRecDepth 100000 in
set_option maxHeartbeats 3000000 in
theorem sorts_any (A : Option Addr) (xs : List Int) (c : Nat) (e : Int) (W : World) (hI : Ints W A xs) (hc : xs.length ≤ c) (hcm : c ≤ 9223372036854775807) (he : -9223372036854775808 ≤ e ∧ e ≤ 9223372036854775807) :
    Calls Try.prog 3 #[.slice A xs.length c, .int .i64 e] W fun r w' => r = .returned (.bool true) ∧ Below W.heap.size W w' := by
  by_cases hlen : 200 < xs.length
  · clear hI
    have hlen' : (200 : Int) < (xs.length : Int) := by omega
    go_enter Try.func3, Try.ntmps3
    go_wp2_with (first | (go_at_call 7; refine (lives_any _).mono ?_; rintro e w1 ⟨rfl, hx⟩))
    go_ret
    exact ⟨rfl, hx⟩
  · have hlen' : (xs.length : Int) ≤ 200 := by omega
    have HI := Lib.hid hI
    obtain ⟨i27, hi, hz0, hz1, hz2⟩ := info_parts info27
    obtain ⟨E, hE0, hE⟩ : ∃ E : Nat, E ≤ xs.length ∧ pickF e ((xs.length : Int) + 1) = (E : Int) := by
      have := pickF_bd e ((xs.length : Int) + 1) (by omega)
      exact ⟨(pickF e ((xs.length : Int) + 1)).toNat, by omega, by omega⟩
    have PK := Lib.hid (fun w1 => pick_any e ((xs.length : Int) + 1) w1 (by omega) he)
    rw [hE] at PK
    clear hI hlen hE he
    have hmm := @run_makeMap Try.prog
    go_enter Try.func3, Try.ntmps3
    go_wp2_with (first
      | (go_at_call 7; refine (lives_any _).mono ?_; rintro e w1 ⟨rfl, hx⟩)
      | (go_at_call 8; refine (new_any _).mono ?_; rintro e w2 ⟨rfl, rfl⟩))
    have HS : Hid (St W.heap.size w1.heap.size W [] 0 (w1.alloc (.cells #[byKeyV, .slice none 0 0, .int .i64 0] 56))) := St.new hx hx.size
    have hps : w1.heap.size < (w1.alloc (.cells #[byKeyV, .slice none 0 0, .int .i64 0] 56)).heap.size := HS.out.lt
    obtain ⟨p, hp⟩ : ∃ p, w1.heap.size = p := ⟨_, rfl⟩
    rw [hp] at HS hps ⊢
    generalize hWW : w1.alloc (.cells #[byKeyV, .slice none 0 0, .int .i64 0] 56) = W2 at *
    clear hWW hp hx
    clear w1
    go_loopw [6] (fun s wr => ∃ k : Nat, k ≤ xs.length ∧ s = .int .i64 (k : Int) ∧ Hid (St W.heap.size p W (r1 xs k) k wr)) (fun s _ => xs.length - (intOf s).toNat)
    case atStart => exact ⟨0, by omega, rfl, HS⟩
    case round =>
      obtain ⟨k, hk, rfl, hst⟩ := hrel
      by_cases hlt : k < xs.length
      · have hIr := HI.out.below' rfl hst.out.below
        obtain ⟨b, off, rfl, hb, hcell⟩ := hIr (by omega)
        have hck := hcell k hlt
        have hpr := hst.out.lt
        obtain ⟨xk, hxk⟩ : ∃ x, xs.getD k 0 = x := ⟨_, rfl⟩
        rw [hxk] at hck
        have HXK := Lib.hid hxk
        clear hcell hIr hxk
        go_wp2_with (first | (go_at_call 11; refine (one_any _ _ _).mono ?_; rintro e w2 ⟨rfl, hx⟩))
        refine (St.put (hst.out.ext hx) _ _ (by rw [r1_length]; omega) (by omega)).mono ?_
        rintro e w3 ⟨rfl, hs3, _⟩
        have HS3 : Hid (St W.heap.size p W (r1 xs (k + 1)) ((k + 1 : Nat) : Int) w3) := by
          show St _ _ _ (insL (r1 xs k) (k, xs.getD k 0, k)) _ _
          rw [HXK.out]
          exact hs3
        clear hs3 hst hx
        go_wp2_with fail
        go_roundw
        case rel => exact ⟨k + 1, by omega, by go_num, HS3⟩
        case measure => simp [intOf]; omega
      · obtain rfl : k = xs.length := by omega
        clear hlt HS
        go_wp2_with (first | (go_at_call 12; refine (PK.out _).mono ?_; rintro e w2 ⟨rfl, rfl⟩))
        have HS2 : Hid (St W.heap.size p W ((r1 xs xs.length).drop 0) xs.length wr) := hst.out
        have hpr := hst.out.lt
        clear hst
        go_loopw [7, 8] (fun v s w5 => ∃ i : Nat, i ≤ E ∧ s = .int .i64 (i : Int) ∧ Hid (St W.heap.size p W ((r1 xs xs.length).drop i) xs.length w5) ∧ w5.ownsRow (p + 1) 27 2 v i (outC (r1 xs xs.length) i)) (fun _ s _ => E - (intOf s).toNat)
        case atStart => exact ⟨0, by omega, rfl, HS2, World.ownsRow_nil _ _ _ _⟩
        case round =>
          obtain ⟨i, hi1, rfl, hst, hown⟩ := hrel
          obtain ⟨A2, cap2, rfl, hcA, hcap1, hcap2, hcap3⟩ := own_cells hown
          by_cases hlt2 : i < E
          · have hil : i < (r1 xs xs.length).length := by rw [r1_length]; omega
            obtain ⟨r, hr⟩ : ∃ r, (r1 xs xs.length).getD i z3 = r := ⟨_, rfl⟩
            have hdc := drop_cons (r1 xs xs.length) i hil
            rw [hr] at hdc
            have HS4 := hst.out
            rw [hdc] at HS4
            have HS5 := Lib.hid HS4
            have HO := Lib.hid hown
            have HR := Lib.hid hr
            have hpw := HS4.lt
            clear hst hcA hdc hr hown HS4
            go_wp2_with fail
            refine (St.take HS5.out (by rw [List.length_drop, r1_length]; omega)).mono ?_
            rintro e w6 ⟨rfl, hs6, hstay⟩
            have ho6 := stays_own HO.out hstay
            have HS6 := Lib.hid hs6
            have HO6 := Lib.hid ho6
            have hp6 := hs6.lt
            clear hs6 ho6 hstay HO HS5
            go_wp2_with (at_builtin; refine wpList_append_cells _ (by rfl) (.tmp 54) (.tmp 56) 32 rfl (p + 1) 27 i27 _ 2 16 Try.underlying32 hi hz0 hz1 hz2 rfl (by omega) (.slice A2 i cap2) i (outC (r1 xs xs.length) i) rfl (own_ext HO6.out (by repeat (first | exact Ext.refl _ | refine Ext.alloc ?_ _ | refine Ext.more ?_ _ _ | refine Ext.drew ?_ | refine Ext.drewN ?_ _ | refine Ext.setCell ?_ (by simp <;> omega) _))) _ 1 1 [.int .i64 r.2.1, .int .i64 r.2.2] rfl (by intro h; cases h) rfl (cells_lit _ _ _ _ _ (by simp) rfl) (by simp [Value.oneCell']) (by unfold maxLen; omega) (by omega) (by simp <;> omega) ?_; intro v7 w7 hown7 hg7 hat7)
            have HS7 : Hid (St W.heap.size p W ((r1 xs xs.length).drop (i + 1)) xs.length w7) := St.grown (HS6.out.ext (by repeat (first | exact Ext.refl _ | refine Ext.alloc ?_ _ | refine Ext.more ?_ _ _ | refine Ext.drew ?_ | refine Ext.drewN ?_ _ | refine Ext.setCell ?_ (by simp <;> omega) _))) (own_ext HO6.out (by repeat (first | exact Ext.refl _ | refine Ext.alloc ?_ _ | refine Ext.more ?_ _ _ | refine Ext.drew ?_ | refine Ext.drewN ?_ _ | refine Ext.setCell ?_ (by simp <;> omega) _))) hg7
            have HO7 : Hid (w7.ownsRow (p + 1) 27 2 v7 (i + 1) (outC (r1 xs xs.length) (i + 1))) := by
              show World.ownsRow _ _ _ _ _ _ _
              rw [outC_succ _ _ hil, HR.out]
              exact hown7
            clear hown7 hg7 hat7
            go_roundw
            case rel => exact ⟨i + 1, by omega, by go_num, HS7, HO7.out⟩
            case measure => simp [intOf]; omega
          · obtain rfl : i = E := by omega
            have HS8 : Hid (St W.heap.size p W (r3 xs i 0) ((xs.length + 0 : Nat) : Int) _) := hst.out
            have HO := Lib.hid hown
            have hpw := hst.out.lt
            clear hst hown hcA hlt2 HS2
            go_wp2_with fail
            go_loopw [11] (fun s w9 => ∃ j : Nat, j ≤ i ∧ s = .int .i64 (j : Int) ∧ Hid (St W.heap.size p W (r3 xs i j) ((xs.length + j : Nat) : Int) w9) ∧ Hid (w9.ownsRow (p + 1) 27 2 (.slice A2 i cap2) i (outC (r1 xs xs.length) i))) (fun s _ => i - (intOf s).toNat)
            case atStart => exact ⟨0, by omega, rfl, HS8, HO⟩
            case round =>
              obtain ⟨j, hj1, rfl, hst, hown⟩ := hrel
              by_cases hlt3 : j < i
              · obtain ⟨hj2, hj3⟩ := outC_get (r1 xs xs.length) i j (by rw [r1_length]; exact hE0) hlt3
                obtain ⟨A3, cap3, he3, hcA3, hcap31, hcap32, hcap33⟩ := own_cells hown.out
                injection he3 with he3a he3b he3c
                subst he3a
                subst he3c
                obtain ⟨b, off, rfl, hb, hcell⟩ := hcA3 (by rw [hown.out.1]; omega)
                obtain ⟨r, hr⟩ : ∃ r, (r1 xs xs.length).getD j z3 = r := ⟨_, rfl⟩
                have d0 := hcell _ _ hj2
                have d1 := hcell _ _ hj3
                rw [hr] at d0 d1
                rw [← Nat.add_assoc] at d1
                have HR := Lib.hid hr
                have hpw9 := hst.out.lt
                clear hcell hj2 hj3 hcA3 hr
                go_wp2_with fail
                refine (St.put hst.out r.2.1 r.2.2 (by rw [r3_length]; omega) (by omega)).mono ?_
                rintro e w10 ⟨rfl, hs10, hstay⟩
                have HS10 : Hid (St W.heap.size p W (r3 xs i (j + 1)) ((xs.length + (j + 1) : Nat) : Int) w10) := by
                  show St _ _ _ (insL _ (_, ((r1 xs xs.length).getD j z3).2.1, ((r1 xs xs.length).getD j z3).2.2)) _ _
                  rw [HR.out]
                  exact hs10
                have HO10 := Lib.hid (stays_own hown.out hstay)
                clear hs10 hstay hst hown
                go_wp2_with fail
                go_roundw
                case rel => exact ⟨j + 1, by omega, by go_num, HS10, HO10⟩
                case measure => simp [intOf]; omega
              · obtain rfl : j = i := by omega
                have hpw9 := hst.out.lt
                clear hown hlt3 HS8 HO
                go_wp2_with fail
                have HSN : Hid ((r3 xs j j).Pairwise fun a b => ltI a b = true) := hst.out.sorted
                have HST : Hid (St W.heap.size p W ((r3 xs j j).drop 0) ((xs.length + j : Nat) : Int) ((wr.alloc (.map #[] 0)).alloc (.cells #[.int .i64 0, .int .i64 0] 27))) := hst.out.ext (by repeat (first | exact Ext.refl _ | refine Ext.alloc ?_ _ | refine Ext.more ?_ _ _ | refine Ext.drew ?_ | refine Ext.drewN ?_ _ | refine Ext.setCell ?_ (by simp <;> omega) _))
                have HSE : Hid (Seen ((wr.alloc (.map #[] 0)).alloc (.cells #[.int .i64 0, .int .i64 0] 27)) wr.heap.size 0 (ids (r3 xs j j) 0)) := (Seen.made wr).ext (by repeat (first | exact Ext.refl _ | refine Ext.alloc ?_ _ | refine Ext.more ?_ _ _ | refine Ext.drew ?_ | refine Ext.drewN ?_ _ | refine Ext.setCell ?_ (by simp <;> omega) _))
                have HLA : Hid (((wr.alloc (.map #[] 0)).alloc (.cells #[.int .i64 0, .int .i64 0] 27)).heap[wr.heap.size + 1]? = some (.cells #[.int .i64 (lastOf (r3 xs j j) 0).1, .int .i64 (lastOf (r3 xs j j) 0).2] 27)) := by
                  have := heap_alloc_new (wr.alloc (.map #[] 0)) (.cells #[.int .i64 0, .int .i64 0] 27)
                  rw [show (wr.alloc (.map #[] 0)).heap.size = wr.heap.size + 1 by simp] at this
                  exact this
                obtain ⟨bm, hbm⟩ : ∃ bm, wr.heap.size = bm := ⟨_, rfl⟩
                have hBm : Hid (W.heap.size ≤ bm) := by
                  have := hst.out.below.size
                  show _ ≤ _
                  omega
                rw [hbm] at HSE HLA ⊢
                clear hst
                generalize hWW : (wr.alloc (.map #[] 0)).alloc (.cells #[.int .i64 0, .int .i64 0] 27) = W3 at *
                clear hWW hbm hpw9
                go_loopw [14] (fun s w9 => ∃ m : Nat, m ≤ xs.length ∧ s = .int .i64 (m : Int) ∧ Hid (St W.heap.size p W ((r3 xs j j).drop m) ((xs.length + j : Nat) : Int) w9) ∧ Hid (Seen w9 bm m (ids (r3 xs j j) m)) ∧ Hid (w9.heap[bm + 1]? = some (.cells #[.int .i64 (lastOf (r3 xs j j) m).1, .int .i64 (lastOf (r3 xs j j) m).2] 27))) (fun s _ => xs.length - (intOf s).toNat)
                case atStart => exact ⟨0, by omega, rfl, HST, HSE, HLA⟩
                case round =>
                  obtain ⟨m, hm1, rfl, hst, hse, hla⟩ := hrel
                  clear HST HSE HLA
                  by_cases hlt4 : m < xs.length
                  · have hml : m < (r3 xs j j).length := by rw [r3_length]; omega
                    obtain ⟨q, hq, hq1, hq2⟩ := r3_item xs j m hE0 hlt4
                    have hfr := fresh_id xs j m hE0 hlt4
                    have hll := fun h0 => last_le xs j m h0 hlt4 hE0 HSN.out
                    have hdc := drop_cons (r3 xs j j) m hml
                    have hids := ids_succ (r3 xs j j) m hml
                    have hlo : lastOf (r3 xs j j) (m + 1) = ((r3 xs j j).getD m z3).2 := by simp [lastOf]
                    obtain ⟨r, hr⟩ : ∃ r, (r3 xs j j).getD m z3 = r := ⟨_, rfl⟩
                    obtain ⟨la, hla2⟩ : ∃ la, lastOf (r3 xs j j) m = la := ⟨_, rfl⟩
                    rw [hr] at hq1 hq2 hfr hll hdc hids hlo
                    rw [hla2] at hll hla
                    obtain ⟨rn, rk, rid⟩ := r
                    obtain ⟨lk, li⟩ := la
                    simp only at hq1 hq2 hfr hll hids hlo hla
                    subst hq1
                    have HS4 := hst.out
                    rw [hdc] at HS4
                    have HS5 := Lib.hid HS4
                    have HFR := Lib.hid hfr
                    have HIDS := Lib.hid hids
                    have HLO := Lib.hid hlo
                    have HLL := Lib.hid hll
                    have HQ2 := Lib.hid hq2
                    have hpw := HS4.lt
                    clear hst hdc hr hla2 HS4 hfr hids hlo hll hq2 hml
                    go_wp2_with fail
                    refine (St.take HS5.out (by rw [List.length_drop, r3_length]; omega)).mono ?_
                    rintro e w6 ⟨rfl, hs6, hstay⟩
                    have HS6 := Lib.hid hs6
                    have HE6 := Lib.hid (hse.out.stays hstay)
                    have HL6 := Lib.hid (hstay _ _ hla.out (kind27 _))
                    obtain ⟨b, off, rfl, hb, hcell⟩ := (HI.out.below' rfl hs6.below) (by omega)
                    have hck := hcell q hq
                    rw [← HQ2.out] at hck
                    have hp6 := hs6.lt
                    clear hs6 hstay hse hla HS5 hcell
                    go_wp2_with fail
                    have HD : ((decide ((0 : Int) < (m : Int)) = false ∧ decide (0 < m) = false)) ∨ ((decide ((0 : Int) < (m : Int)) = true ∧ decide (0 < m) = true) ∧ decide (rk < lk) = false ∧ ((j : Int) == 0) = false) ∨
                        ((decide ((0 : Int) < (m : Int)) = true ∧ decide (0 < m) = true) ∧ decide (rk < lk) = false ∧ ((j : Int) == 0) = true ∧ (lk == rk) = false) ∨
                        ((decide ((0 : Int) < (m : Int)) = true ∧ decide (0 < m) = true) ∧ decide (rk < lk) = false ∧ ((j : Int) == 0) = true ∧ (lk == rk) = true ∧ decide ((q : Int) < li) = false) := by
                      rcases Nat.eq_zero_or_pos m with h0 | h0
                      · left; simp [h0]
                      · right
                        have hl := HLL.out h0
                        by_cases hj0 : j = 0
                        · right
                          by_cases hk0 : lk = rk
                          · right
                            have : li < (q : Int) := by
                              rcases hl with hl | hl
                              · omega
                              · exact hl.2 hj0
                            exact ⟨⟨by simp; omega, by simp; omega⟩, by simp; omega, by simp [hj0], by simp [hk0], by simp; omega⟩
                          · left
                            exact ⟨⟨by simp; omega, by simp; omega⟩, by simp; omega, by simp [hj0], by simp [hk0]⟩
                        · left
                          exact ⟨⟨by simp; omega, by simp; omega⟩, by simp; omega, by simp; omega⟩
                    have qf : (Lit.int .i64 (q : Int)).wf = true := by simp [Lit.wf, IntKind.min, IntKind.max, IntKind.signed, IntKind.bits]; omega
                    have hX7 : (w6.alloc (.cells #[.int .i64 rk, .int .i64 (q : Int)] 27)).heap[w6.heap.size]? = some (.cells #[.int .i64 rk, .int .i64 (q : Int)] 27) := heap_alloc_new _ _
                    obtain ⟨W7, hW7⟩ : ∃ W7, w6.alloc (.cells #[.int .i64 rk, .int .i64 (q : Int)] 27) = W7 := ⟨_, rfl⟩
                    have hE7 : Ext w6 W7 := hW7 ▸ (Ext.refl w6).alloc _
                    have hcX : W7.cell? ⟨b, off + q, none⟩ = some (.int .i64 rk) := (World.cell?_of_block (w := w6) (a := ⟨b, off + q, none⟩) (hE7.below.block b hb)).trans hck
                    rw [hW7] at hX7 ⊢
                    have HS7 := Lib.hid (HS6.out.ext hE7)
                    have HE7 := Lib.hid (HE6.out.ext hE7)
                    have HL7 : Hid (W7.heap[bm + 1]? = _) := (hE7.below.block _ (lt_of_heap HL6.out)).trans HL6.out
                    have hb7 : b < W7.heap.size := Nat.lt_of_lt_of_le hb hE7.size
                    have x0 := cell_of_row _ _ 0 _ _ _ hX7
                    have x1 := cell_of_row _ _ 1 _ _ _ hX7
                    have l0 := cell_of_row _ _ 0 _ _ _ HL7.out
                    have l1 := cell_of_row _ _ 1 _ _ _ HL7.out
                    simp at x0 x1 l0 l1
                    have hx7 := lt_of_heap hX7
                    have hl7 := lt_of_heap HL7.out
                    have hlkp : ∀ os k, (Instr.lookup 35 (.map (some bm)) (.int .i64 (q : Int)) false).run Try.prog (more W7 os k) = .ok (.int .i64 0) (more W7 os k) := fun os k => (HE7.out.ext ⟨os, k, rfl⟩).lookup _ qf HFR.out
                    have t0 : decide ((q : Int) < 0) = false := by simp
                    have t1 : decide (xs.length ≤ q) = false := by simp; omega
                    have q0 : (0 : Int) ≤ (q : Int) := by omega
                    have q1 : (q : Int) < (xs.length : Int) := by omega
                    obtain ⟨bx, hbx⟩ : ∃ bx, w6.heap.size = bx := ⟨_, rfl⟩
                    rw [hbx] at hX7 x0 x1 hx7 ⊢
                    have HX7 := Lib.hid hX7
                    clear hck hE7 hW7 HS6 HE6 HL6 hp6 hbx hX7 hb
                    clear w6
                    rcases HD with ⟨g1, g2⟩ | ⟨⟨g1, g2⟩, g3, g4⟩ | ⟨⟨g1, g2⟩, g3, g4, g5⟩ | ⟨⟨g1, g2⟩, g3, g4, g5, g6⟩
                    all_goals
                      refine wp_region_ext (by kernel_rfl) (by kernel_rfl) ?_
                      repeat (go_big_quiet_step (fail))
                      refine wpQuiet_nil ?_
                      intro _ hw'
                      obtain ⟨x9, hx9⟩ := hw'
                      have hE8 : Ext W7 (more W7 x9.os x9.k) := ⟨x9.os, x9.k, rfl⟩
                      rw [← hx9] at hE8
                      clear hx9 hlkp x0 x1 l0 l1 hcX g1 g2 t0 t1
                      rename_i W8
                      have HS8 := Lib.hid (HS7.out.ext hE8)
                      have HE8 := HE7.out.ext hE8
                      have HL8 : W8.heap[bm + 1]? = _ := (hE8.below.block _ hl7).trans HL7.out
                      have HX8 : W8.heap[bx]? = _ := (hE8.below.block _ hx7).trans HX7.out
                      obtain ⟨W9, hrun, hse9, hg9⟩ := Seen.update (w := W8.drew) (HE8.keep rfl) (show m < maxLen by unfold maxLen; omega) (q : Int) qf
                      have hne1 : some (bm + 1) ≠ some bm := by simp
                      have HL9 : W9.heap[bm + 1]? = _ := (hg9.block _ (lt_of_heap HL8) hne1).trans HL8
                      have HS9 : Hid (St W.heap.size p W ((r3 xs j j).drop (m + 1)) ((xs.length + j : Nat) : Int) W9) := by
                        obtain ⟨es, ck, ho⟩ := HE8.obj
                        refine (HS8.out.ext ((Ext.refl _).drew)).turn (S := fun b => b = bm) (Turn.grown hg9 fun k hk _ => (by injection hk with hk; exact hk.symm)) ?_ ?_
                        · rintro b rfl _
                          exact ⟨_, ho, kindMap _ _⟩
                        · rintro b rfl
                          exact hBm.out
                      have y0 := cell_of_row _ _ 0 _ _ _ HX8
                      have y1 := cell_of_row _ _ 1 _ _ _ HX8
                      have m0 := cell_of_row _ _ 0 _ _ _ HL9
                      have m1 := cell_of_row _ _ 1 _ _ _ HL9
                      simp at y0 y1 m0 m1
                      have f0 : ∀ i, W9.frozen? ⟨bm + 1, i, none⟩ = false := fun i => by simp [World.frozen?, HL9]
                      have f1 := f0 0
                      have f2 := f0 1
                      have hx8 := lt_of_heap HX8
                      have hl9 := lt_of_heap HL9
                      have hne2 : bx ≠ bm := by
                        obtain ⟨es, ck, ho⟩ := HE8.obj
                        rintro rfl
                        rw [HX8] at ho
                        cases ho
                      have HX9 : W9.heap[bx]? = _ := (hg9.block _ (lt_of_heap HX8) (by simpa using hne2)).trans HX8
                      have n0 := cell_of_row _ _ 0 _ _ _ HX9
                      have n1 := cell_of_row _ _ 1 _ _ _ HX9
                      simp at n0 n1
                      have hx9 := lt_of_heap HX9
                      have HSE9 := Lib.hid hse9
                      have HLL9 := Lib.hid HL9
                      clear HE8 HL8 HX8 hse9 hg9 HL9 f0 hE8 HS7 HE7 HL7 HX7 HX9 hne1 hne2
                      go_wp2_with fail
                      go_region
                      go_wp2_with fail
                      obtain ⟨W10, hW10⟩ : ∃ W10, W10 = (W9.setCell ⟨bm + 1, 0, none⟩ (.int .i64 rk)).setCell ⟨bm + 1, 1, none⟩ (.int .i64 (q : Int)) := ⟨_, rfl⟩
                      have T10 : Turn (fun b => b = bm + 1) W9 W10 := by
                        rw [hW10]
                        exact (Turn.setCell (S := fun b => b = bm + 1) W9 (p := ⟨bm + 1, 0, none⟩) rfl _).trans (Turn.setCell (S := fun b => b = bm + 1) _ (p := ⟨bm + 1, 1, none⟩) rfl _)
                      have HL10 : W10.heap[bm + 1]? = some (.cells #[.int .i64 rk, .int .i64 (q : Int)] 27) := by
                        rw [hW10]
                        simp [World.setCell, Array.getElem?_modify, HLL9.out]
                      have HS10 : Hid (St W.heap.size p W ((r3 xs j j).drop (m + 1)) ((xs.length + j : Nat) : Int) W10) := by
                        refine HS9.out.turn T10 ?_ ?_
                        · rintro b rfl _
                          exact ⟨_, HLL9.out, kind27 _⟩
                        · rintro b rfl
                          have := hBm.out
                          omega
                      have HE10 : Hid (Seen W10 bm (m + 1) (ids (r3 xs j j) (m + 1))) := by
                        show Seen _ _ _ _
                        rw [HIDS.out]
                        obtain ⟨es, ck, ho⟩ := HSE9.out.obj
                        exact HSE9.out.keep (T10.block bm (lt_of_heap ho) (by omega))
                      have HL11 : Hid (W10.heap[bm + 1]? = some (.cells #[.int .i64 (lastOf (r3 xs j j) (m + 1)).1, .int .i64 (lastOf (r3 xs j j) (m + 1)).2] 27)) := by
                        show _ = _
                        rw [HLO.out]
                        exact HL10
                      subst hW10
                      clear T10 HL10 HS9 HSE9 HLL9
                      go_roundw
                      case rel => exact ⟨m + 1, by omega, by go_num, HS10, HE10, HL11⟩
                      case measure => simp [intOf]; omega
                  · obtain rfl : m = xs.length := by omega
                    have HS4 := hst.out
                    rw [List.drop_of_length_le (by rw [r3_length]; omega)] at HS4
                    have HS5 := Lib.hid HS4
                    have hpw := HS4.lt
                    clear HS4
                    clear hst hse hla hlt4
                    go_wp2_with fail
                    refine (St.len HS5.out).mono ?_
                    rintro e w6 ⟨rfl, hs6, _⟩
                    have HB6 := Lib.hid hs6.below
                    clear hs6
                    go_wp2_with fail
                    go_ret
                    exact ⟨rfl, HB6.out⟩
end Go.Proofs.Ytjllikpocfppoaa
