/- Cr: texts that the proof rests on, part 6. -/
import Derived.Test.YthpmncdfaggkiaaGreatCr1
import Derived.Test.YthpmncdfaggkiaaGreatCr2
import Derived.Test.YthpmncdfaggkiaaGreatCr3
import Derived.Test.YthpmncdfaggkiaaGreatCr5
import Derived.Laws.BytesArg
import Derived.Maps.OwnOps
import Derived.Maps.OwnSet
import Derived.Maps.Views
namespace Go.Proofs.YthpmncdfaggkiaaGreat
open Go.RowKit
attribute [local go_sem] more_drew more_drewN more_size more_cell more_frozen more_setCell drew_more drewN_more lt_add_r lt_add_r2 lt_add_r3 lt_add_r4 lt_add_r5 lt_add_r6 lt_add_r7 lt_add_r8 lt_add_r9 lt_add_r10 lt_self_r lt_self_r2
theorem infoByte : (Tryz.prog.info? 5).map (fun i => (i.zero, i.size, i.bytes)) = some (some (.int .u8 0), 1, 1) := by kernel_rfl
def keyS (t : Nat) : ByteArray := strOfNums [(t : Int) / 256, (t : Int) % 256]
set_option maxRecDepth 100000 in
set_option maxHeartbeats 2000000 in
theorem key_one (S : Option Addr) (sc t : Nat) (w : World) (hS : Ints w S [(t : Int)]) (ht : t < 65536) : Calls Tryz.prog 147 #[.slice S 1 sc] w fun e w' => e = .returned (.string (keyS t)) ∧ Ext w w' := by
 obtain ⟨gs, os, rfl, lgs, hsc⟩ := hS.get (by simp)
 have s0 := hsc 0 _ rfl
 simp at s0
 have q1 : ((t : Int).tdiv 256) = ((t / 256 : Nat) : Int) := by rw [Int.tdiv_eq_ediv_of_nonneg (by omega)]; omega
 have q2 : ((t : Int).tmod 256) = ((t % 256 : Nat) : Int) := by rw [Int.tmod_eq_emod_of_nonneg (by omega)]; omega
 have w1 : IntKind.u8.wrap ((t / 256 : Nat) : Int) = ((t / 256 : Nat) : Int) := by simp [IntKind.wrap, IntKind.signed, IntKind.bits]; omega
 have w2 : IntKind.u8.wrap ((t % 256 : Nat) : Int) = ((t % 256 : Nat) : Int) := by simp [IntKind.wrap, IntKind.signed, IntKind.bits]
 clear hS hsc
 go_enter Tryz.func147, Tryz.ntmps147
 go_wp2_with fail
 refine wp_loop_rounds 2 ?_
 rw [rounds_succ]
 go_upto_region 5 with fail
 refine wp_region_bt (16) (pures_bt [0, 1, 2, 3, 7, 8, 9] (softs_bt [4, 5, 6, 10, 11, 12] (.step 13 (.step 14 (pures_bt [15] .fin))))) (by kernel_rfl) (by kernel_rfl) ?_
 refine bt_pures _ fun K hK => ?_; simp only [pick, nthC]; (repeat go_big_quiet_step (fail)); refine wpQuiet_nil (hK _ ?_); clear hK K
 refine bt_softs _ fun K hK => ?_; simp only [pick, nthC]; (repeat go_big_quiet_step (fail)); refine wpQuiet_nil (hK _ ?_); clear hK K
 refine bt_step fun next hn => ?_; simp only [pick, nthC]
 go_wp2_with fail
 refine segQ_mk (fun _ => laid (by repeat first | exact xr _ | refine xa ?_ _ | refine xm ?_ _ _ | refine xd ?_ | refine xn ?_ _ | refine xs ?_ (by simp <;> omega) _)) (hn _ _ ?_)
 clear hn next
 obtain ⟨W, hW⟩ : ∃ W, (w.alloc (.cells #[.int .u8 ((t : Int) / 256), .int .u8 ((t : Int) % 256)] 5)).drew = W := ⟨_, rfl⟩
 have HX : Hid (Ext w W) := zh (by rw [← hW]; exact (by repeat first | exact xr _ | refine xa ?_ _ | refine xm ?_ _ _ | refine xd ?_ | refine xn ?_ _ | refine xs ?_ (by simp <;> omega) _))
 have HC : Hid (CellsAt W (some ⟨w.heap.size, 0, none⟩) [.int .u8 ((t : Int) / 256), .int .u8 ((t : Int) % 256)]) := zh (by
  rw [← hW]
  exact CellsAt.ext (cells_lit w 5 w.heap.size #[.int .u8 ((t : Int) / 256), .int .u8 ((t : Int) % 256)] [.int .u8 ((t : Int) / 256), .int .u8 ((t : Int) % 256)] rfl rfl) (by repeat first | exact xr _ | refine xa ?_ _ | refine xm ?_ _ _ | refine xd ?_ | refine xn ?_ _ | refine xs ?_ (by simp <;> omega) _))
 simp only [hW]
 clear hW
 obtain ⟨i6, hi, hz0, hz1, hz2⟩ := info_parts infoByte
 refine bt_step fun next hn => ?_; simp only [pick, nthC]
 go_wp2_with (at_builtin; refine wpList_append_cells _ (by rfl) (.tmp 11) (.tmp 24) 212 rfl w.heap.size 5 i6 _ 1 1 Tryz.underlying212 hi hz0 hz1 hz2 rfl (by omega) nil0 0 [] rfl (World.ownsRow_nil _ _ _ _) (some ⟨w.heap.size, 0, none⟩) 2 2 [.int .u8 ((t : Int) / 256), .int .u8 ((t : Int) % 256)] rfl (by intro h; cases h) rfl HC.out (by intro u hu; simp at hu; rcases hu with rfl | rfl <;> rfl) (by unfold maxLen; omega) (by omega) (by have := HX.out.size; simp <;> omega) ?_; intro v3 w3 hown3 hg3 hat3)
 have X3 := HX.out.grown hg3 (by intro g hg; cases hg)
 refine segQ_mk (fun _ => laid X3) (hn _ _ ?_)
 clear hn next
 obtain ⟨A3, c3, rfl, hc3, _⟩ := own_cells hown3
 obtain ⟨b3, o3, rfl, lb3, hcc⟩ := hc3 (by simp)
 have hcv := run_convert_bytes_arg (P := Tryz.prog) w3 212 5 Tryz.underlying212 Tryz.underlying5 b3 o3 2 c3 [(t : Int) / 256, (t : Int) % 256] rfl (fun i hi => by
  have h2 : i = 0 ∨ i = 1 := by omega
  rcases h2 with rfl | rfl
  ·exact hcc 0 _ rfl
  ·exact hcc 1 _ rfl) 9 Tryz.underlying9
 have hk : strOfNums [(t : Int) / 256, (t : Int) % 256] = keyS t := rfl
 rw [hk] at hcv
 clear hk hown3 hg3 hat3 hcc hc3
 simp only [Nat.zero_add]
 refine bt_pures _ fun K hK => ?_; simp only [pick, nthC]; (repeat go_big_quiet_step (fail)); refine wpQuiet_nil (hK _ ?_); clear hK K
 (refine bt_fin ?_)
 go_wp2_with fail
 rw [rounds_succ]
 go_wp2_with fail
 go_ret
 exact ⟨rfl, X3.trans (by repeat first | exact xr _ | refine xa ?_ _ | refine xm ?_ _ _ | refine xd ?_ | refine xn ?_ _ | refine xs ?_ (by simp <;> omega) _)⟩
end Go.Proofs.YthpmncdfaggkiaaGreat
namespace Go.Proofs.YthpmncdfaggkiaaGreat
open Go.RowKit Go.Maps
attribute [local go_sem] more_drew more_drewN more_size more_cell more_frozen more_setCell drew_more drewN_more lt_add_r lt_add_r2 lt_add_r3 lt_add_r4 lt_add_r5 lt_add_r6 lt_add_r7 lt_add_r8 lt_add_r9 lt_add_r10 lt_self_r lt_self_r2
theorem law_string : Keyed Tryz.prog 9 := string_keyed Tryz.underlying9
theorem zero_int (w : World) : (zeroValue 3).run Tryz.prog w = .ok (.int .i64 0) w := by kernel_rfl
theorem wf_int {x : Int} (h1 : -9223372036854775808 ≤ x) (h2 : x ≤ 9223372036854775807) : (Lit.int .i64 x).wf = true := by
 simp [Lit.wf, IntKind.min, IntKind.max, IntKind.signed, IntKind.bits]
 omega
def MapS (w : World) (b n : Nat) (f : List UInt8 → Option Int) : Prop :=
 ∃ D : DataW Unit, w.ownsMap Tryz.prog 9 (plainElem Tryz.prog 3) b n D ∧ IsMap D ∧ ∀ x : List UInt8, has D (.string x) = (f x).isSome ∧ D.atKey (.string x) (.lit (.int .i64 0)) = .lit (.int .i64 ((f x).getD 0))
theorem MapS.made (w : World) : MapS (w.alloc (.map #[] 0)) w.heap.size 0 fun _ => none := ⟨.map [], World.ownsMap_made _ _ _ _, isMap_empty, fun _ => ⟨rfl, rfl⟩⟩
theorem MapS.keep {w w' : World} {b n : Nat} {f : List UInt8 → Option Int} {S : Nat → Prop} (h : MapS w b n f) (t : Turn S w w') (hS : ¬ S b) : MapS w' b n f := by
 obtain ⟨D, ⟨es, cl, h1, h3⟩, h2⟩ := h
 exact ⟨D, ⟨es, cl, (t.block b (lt_of_heap h1) hS).trans h1, h3⟩, h2⟩
theorem MapS.ext {w w' : World} {b n : Nat} {f : List UInt8 → Option Int} (h : MapS w b n f) (e : Ext w w') : MapS w' b n f := by
 obtain ⟨D, ⟨es, cl, h1, h3⟩, h2⟩ := h
 exact ⟨D, ⟨es, cl, ext_block h1 e, h3⟩, h2⟩
theorem MapS.obj {w : World} {b n : Nat} {f : List UInt8 → Option Int} (h : MapS w b n f) : ∃ es cl, w.heap[b]? = some (.map es cl) := by
 obtain ⟨D, ⟨es, cl, h1, h3⟩, h2⟩ := h
 exact ⟨es, cl, h1⟩
theorem MapS.ne {w : World} {b n g : Nat} {f : List UInt8 → Option Int} {cs : Array Value} {T : TypeId} (h : MapS w b n f) (hg : w.heap[g]? = some (.cells cs T)) : b ≠ g := by
 obtain ⟨es, cl, h1⟩ := h.obj
 rintro rfl
 rw [h1] at hg
 cases hg
set_option maxRecDepth 100000 in
theorem MapS.look {w : World} {b n : Nat} {f : List UInt8 → Option Int} (h : MapS w b n f) (s : ByteArray) (hs : s.size ≤ maxLen) :
 (Instr.lookup 200 (.map (some b)) (.string s) true).run Tryz.prog w = .ok (.tuple #[.int .i64 ((f s.data.toList).getD 0), .bool (f s.data.toList).isSome]) w := by
 obtain ⟨D, h3, _, h4⟩ := h
 obtain ⟨v, ps, hrun, hv⟩ := h3.look_ok law_string Tryz.underlying200 (zero_int w) (plainElem_int Tryz.underlying3 (wf_int (by omega) (by omega))) (WideMaps.keyOf_string_mk (P := Tryz.prog) Tryz.underlying9 hs)
 obtain ⟨c, rfl, hc, hwc⟩ := plainElem_int_inv Tryz.underlying3 hv
 simp only [Prod.mk.injEq] at hc
 have h5 := hc.1
 rw [(h4 _).2] at h5
 injection h5 with h5
 injection h5 with _ h5
 rw [hrun, h5, (h4 _).1]
set_option maxRecDepth 100000 in
theorem MapS.put {w : World} {b n : Nat} {f : List UInt8 → Option Int} (h : MapS w b n f) (hn : n ≤ 1000000000) (s : ByteArray) (hs : s.size ≤ maxLen) (u : Int) (h1 : -9223372036854775808 ≤ u) (h2 : u ≤ 9223372036854775807) :
 ∃ w', (Instr.mapUpdate 200 (.map (some b)) (.string s) (.int .i64 u)).run Tryz.prog w = .ok () w' ∧ MapS w' b (n + 1) (fun y => if y = s.data.toList then some u else f y) ∧ Turn (fun i => i = b) w w' := by
 obtain ⟨D, h5, h6, h7⟩ := h
 have hn2 : n < maxLen := Nat.lt_of_le_of_lt hn (by unfold maxLen; decide)
 obtain ⟨w', hrun, ho, hgr⟩ := h5.update law_string Tryz.underlying200 hn2 (WideMaps.keyOf_string_mk (P := Tryz.prog) Tryz.underlying9 hs) (plainElem_int Tryz.underlying3 (wf_int h1 h2))
 refine ⟨w', hrun, ⟨_, ho, h6.put _ _, fun y => ?_⟩, Turn.grown hgr fun i hi _ => by injection hi with hi; exact hi.symm⟩
 dsimp only
 by_cases hy : y = s.data.toList
 ·subst hy
  rw [if_pos rfl]
  exact ⟨(has_put_same h6 (by trivial) _).trans rfl, atKey_put_same h6 (by trivial) _ _⟩
 ·rw [if_neg hy]
  exact ⟨(has_put_other (fun he => hy (by injection he)) _).trans (h7 y).1, (atKey_put_other (fun he => hy (by injection he)) _ _).trans (h7 y).2⟩
def DfaRd (w : World) (nv rv : Value) (nl rl : List Int) : Prop := (∃ A c, nv = .slice A nl.length c ∧ Ints w A nl ∧ nl.length ≤ c) ∧ ∃ B d, rv = .slice B rl.length d ∧ Ints w B rl ∧ rl.length ≤ d
theorem DfaRd.ext {w w' : World} {nv rv : Value} {nl rl : List Int} (h : DfaRd w nv rv nl rl) (e : Ext w w') : DfaRd w' nv rv nl rl := by
 obtain ⟨⟨A, c, h1, h2, h3⟩, B, d, k1, k2, k3⟩ := h
 exact ⟨⟨A, c, h1, h2.ext e, h3⟩, B, d, k1, k2.ext e, k3⟩
def IntsX (w : World) (X : Nat → Prop) (v : Value) (xs : List Int) : Prop := ∃ A c, v = .slice A xs.length c ∧ Ints w A xs ∧ xs.length ≤ c ∧ ∀ g off s, A = some ⟨g, off, s⟩ → (∃ cs, w.heap[g]? = some (.cells cs 3)) ∧ ¬ X g
theorem IntsX.keep {w w' : World} {X X' S : Nat → Prop} {v : Value} {xs : List Int} (h : IntsX w X v xs) (t : Turn S w w') (hS : ∀ g cs, w.heap[g]? = some (.cells cs 3) → ¬ X g → ¬ S g) (hx : ∀ g, X' g → X g ∨ w.heap.size ≤ g) : IntsX w' X' v xs := by
 obtain ⟨A, c, hv, hi, h1, h4⟩ := h
 refine ⟨A, c, hv, fun h0 => ?_, h1, fun g off s hA => ?_⟩
 ·obtain ⟨b, off, hA, hb, hc⟩ := hi h0
  obtain ⟨⟨cs, hcs⟩, hne⟩ := h4 b off none hA
  have hk := t.block b hb (hS b cs hcs hne)
  exact ⟨b, off, hA, Nat.lt_of_lt_of_le hb t.size, fun k hk2 => (World.cell?_of_block (w := w) (a := ⟨b, off + k, none⟩) hk).trans (hc k hk2)⟩
 ·obtain ⟨⟨cs, hcs⟩, hne⟩ := h4 g off s hA
  refine ⟨⟨cs, t.keep hcs (hS g cs hcs hne)⟩, fun hh => ?_⟩
  rcases hx g hh with h | h
  ·exact hne h
  ·have := lt_of_heap hcs; omega
theorem IntsX.ext {w w' : World} {X : Nat → Prop} {v : Value} {xs : List Int} (h : IntsX w X v xs) (e : Ext w w') : IntsX w' X v xs := h.keep (Turn.of_ext (S := fun _ => False) e) (fun _ _ _ _ h => h) (fun _ h => .inl h)
def two (nv rv : Value) (g : Nat) : Prop := nv.ownBlock = some g ∨ rv.ownBlock = some g
structure Bd (w : World) (base db p : Nat) (ss : List Nat) (nv rv sv : Value) (nl rl : List Int) : Prop where
 blk : w.heap[db]? = some (.cells #[nv, rv] 94)
 low : base ≤ db
 nxt : RowI w base nv nl
 rul : RowI w base rv rl
 apart : ∀ g, nv.ownBlock = some g → rv.ownBlock ≠ some g
 sets : ∃ vs, w.ownsRow base 31 1 sv p vs ∧ ∀ (j : Nat) (v : Value) (t : Nat), vs[j]? = some v → ss[j]? = some t → IntsX w (two nv rv) v [(t : Int)]
section
variable {w w' : World} {base db p : Nat} {ss : List Nat} {nv rv sv : Value} {nl rl : List Int}
theorem Bd.ext (h : Bd w base db p ss nv rv sv nl rl) (e : Ext w w') : Bd w' base db p ss nv rv sv nl rl := by
 obtain ⟨vs, h1, h2⟩ := h.sets
 exact ⟨ext_block h.blk e, h.low, h.nxt.ext e, h.rul.ext e, h.apart, vs, own_ext h1 e, fun j v t hv ht => (h2 j v t hv ht).ext e⟩
theorem Bd.keep {b : Nat} (h : Bd w base db p ss nv rv sv nl rl) (t : Turn (fun k => k = b) w w') (hb : ∀ cs T, w.heap[b]? = some (.cells cs T) → T ≠ 3 ∧ T ≠ 31 ∧ T ≠ 94) : Bd w' base db p ss nv rv sv nl rl := by
 obtain ⟨vs, h1, h2⟩ := h.sets
 obtain ⟨A, c, rfl, hA⟩ := h.nxt
 obtain ⟨B, d, rfl, hB⟩ := h.rul
 have key : ∀ {e : TypeId} {size n : Nat} {v : Value} {xs : List Value}, w.ownsRow base e size v n xs → (e = 3 ∨ e = 31) → w'.ownsRow base e size v n xs := fun hr he => own_keep hr fun k hk => t.block k (own_old hr k hk) (fun hkb => by
  subst hkb
  obtain ⟨cur, hcur⟩ := own_obj hr k hk
  have := hb _ _ hcur
  rcases he with rfl | rfl
  ·exact this.1 rfl
  ·exact this.2.1 rfl)
 exact ⟨t.keep h.blk (fun he => by subst he; exact (hb _ _ h.blk).2.2 rfl), h.low, ⟨A, c, rfl, key hA (.inl rfl)⟩, ⟨B, d, rfl, key hB (.inl rfl)⟩, h.apart, vs, key h1 (.inr rfl), fun j v t' hv ht => (h2 j v t' hv ht).keep t (fun g cs hg _ he => by subst he; exact (hb _ _ hg).1 rfl) (fun g hg => .inl hg)⟩
theorem Bd.ne_int {g : Nat} {cs : Array Value} (h : w.heap[db]? = some (.cells #[nv, rv] 94)) (hg : w.heap[g]? = some (.cells cs 3)) : g ≠ db := ne_type hg h (by decide)
theorem row_keepD {w w' : World} {b : Nat} {cs0 : Array Value} {T : TypeId} (hb : w.heap[b]? = some (.cells cs0 T)) (t : Turn (fun k => k = b) w w') {base : Nat} {e : TypeId} {size n : Nat} {v : Value} {xs : List Value} (hr : w.ownsRow base e size v n xs) (he : T ≠ e) : w'.ownsRow base e size v n xs :=
 own_keep hr fun k hk => t.block k (own_old hr k hk) (fun hkb => by
  subst hkb
  obtain ⟨cur, hcur⟩ := own_obj hr _ hk
  exact ne_type hb hcur he rfl)
theorem Bd.appN (h : Bd w base db p ss nv rv sv nl rl) {w2 : World} {v' : Value} {y : Int} (hr : RowI w2 base v' (nl ++ [y])) (hg : w.grownBy w2 nv.ownBlock) (hat : v'.ownBlock = nv.ownBlock ∨ v'.ownBlock = some w.heap.size) : Bd (w2.setCell ⟨db, 0, none⟩ v') base db p ss v' rv sv (nl ++ [y]) rl := by
 obtain ⟨vs, h1, h2⟩ := h.sets
 obtain ⟨A, c, hnv, hA⟩ := h.nxt
 obtain ⟨B, d, hrv, hB⟩ := h.rul
 obtain ⟨C, e, hv', hC⟩ := hr
 have hA' : w.ownsRow base 3 1 nv nl.length (iv nl) := by rw [hnv]; exact hA
 have hB' : w.ownsRow base 3 1 rv rl.length (iv rl) := by rw [hrv]; exact hB
 have T : Turn (fun g => nv.ownBlock = some g) w w2 := Turn.grown hg (fun g hg _ => hg)
 have hb2 : w2.heap[db]? = some (.cells #[nv, rv] 94) := grown_other hA' hg (Ext.refl _) h.blk (by decide)
 have T2 : Turn (fun k => k = db) w2 (w2.setCell ⟨db, 0, none⟩ v') := Turn.set1 _ _ _
 refine ⟨setCell_row hb2 v', h.low, ⟨C, e, hv', row_keepD hb2 T2 hC (by decide)⟩, ⟨B, d, hrv, ?_⟩, fun g hg1 hg2 => ?_, vs, row_keepD hb2 T2 (own_other hA' hg (Ext.refl _) h1 (by decide)) (by decide), fun j v t hv ht => ?_⟩
 ·have : w2.ownsRow base 3 1 rv rl.length (iv rl) := own_keep hB' fun k hk => T.block k (own_old hB' k hk) (fun hh => h.apart k hh hk)
  have := row_keepD hb2 T2 this (by decide)
  rw [hrv] at this
  exact this
 ·rcases hat with h3 | h3
  ·exact h.apart g (h3 ▸ hg1) hg2
  ·rw [h3] at hg1; injection hg1 with hg1; have := own_old hB' g hg2; omega
 ·refine IntsX.keep (X := two v' rv) ((h2 j v t hv ht).keep T (fun g cs hcs hX hn => hX (.inl hn)) (fun g hg => ?_)) T2 (fun g cs hcs _ he => Bd.ne_int hb2 hcs he) (fun g hg => .inl hg)
  rcases hg with hg | hg
  ·rcases hat with h3 | h3
   ·exact .inl (.inl (h3 ▸ hg))
   ·rw [h3] at hg; injection hg with hg; exact .inr (by omega)
  ·exact .inl (.inr hg)
theorem Bd.appR (h : Bd w base db p ss nv rv sv nl rl) {w2 : World} {v' : Value} {y : Int} (hr : RowI w2 base v' (rl ++ [y])) (hg : w.grownBy w2 rv.ownBlock) (hat : v'.ownBlock = rv.ownBlock ∨ v'.ownBlock = some w.heap.size) : Bd (w2.setCell ⟨db, 1, none⟩ v') base db p ss nv v' sv nl (rl ++ [y]) := by
 obtain ⟨vs, h1, h2⟩ := h.sets
 obtain ⟨A, c, hnv, hA⟩ := h.nxt
 obtain ⟨B, d, hrv, hB⟩ := h.rul
 obtain ⟨C, e, hv', hC⟩ := hr
 have hA' : w.ownsRow base 3 1 nv nl.length (iv nl) := by rw [hnv]; exact hA
 have hB' : w.ownsRow base 3 1 rv rl.length (iv rl) := by rw [hrv]; exact hB
 have T : Turn (fun g => rv.ownBlock = some g) w w2 := Turn.grown hg (fun g hg _ => hg)
 have hb2 : w2.heap[db]? = some (.cells #[nv, rv] 94) := grown_other hB' hg (Ext.refl _) h.blk (by decide)
 have T2 : Turn (fun k => k = db) w2 (w2.setCell ⟨db, 1, none⟩ v') := Turn.set1 _ _ _
 refine ⟨setCell_row hb2 v', h.low, ⟨A, c, hnv, ?_⟩, ⟨C, e, hv', row_keepD hb2 T2 hC (by decide)⟩, fun g hg1 hg2 => ?_, vs, row_keepD hb2 T2 (own_other hB' hg (Ext.refl _) h1 (by decide)) (by decide), fun j v t hv ht => ?_⟩
 ·have : w2.ownsRow base 3 1 nv nl.length (iv nl) := own_keep hA' fun k hk => T.block k (own_old hA' k hk) (fun hh => h.apart k hk hh)
  have := row_keepD hb2 T2 this (by decide)
  rw [hnv] at this
  exact this
 ·rcases hat with h3 | h3
  ·exact h.apart g hg1 (h3 ▸ hg2)
  ·rw [h3] at hg2; injection hg2 with hg2; have := own_old hA' g hg1; omega
 ·refine IntsX.keep (X := two nv v') ((h2 j v t hv ht).keep T (fun g cs hcs hX hn => hX (.inr hn)) (fun g hg => ?_)) T2 (fun g cs hcs _ he => Bd.ne_int hb2 hcs he) (fun g hg => .inl hg)
  rcases hg with hg | hg
  ·exact .inl (.inl hg)
  ·rcases hat with h3 | h3
   ·exact .inl (.inr (h3 ▸ hg))
   ·rw [h3] at hg; injection hg with hg; exact .inr (by omega)
theorem Bd.appS (h : Bd w base db p ss nv rv sv nl rl) {w2 : World} {sv' u : Value} {t : Nat} {vs : List Value} (h1 : w.ownsRow base 31 1 sv p vs) (h2 : ∀ (j : Nat) (v : Value) (t : Nat), vs[j]? = some v → ss[j]? = some t → IntsX w (two nv rv) v [(t : Int)]) (hp : ss[p]? = some t) (hu : IntsX w (two nv rv) u [(t : Int)]) (hs : w2.ownsRow base 31 1 sv' (p + 1) (vs ++ [u])) (hg : w.grownBy w2 sv.ownBlock) : Bd w2 base db (p + 1) ss nv rv sv' nl rl := by
 obtain ⟨A, c, hnv, hA⟩ := h.nxt
 obtain ⟨B, d, hrv, hB⟩ := h.rul
 have T : Turn (fun g => sv.ownBlock = some g) w w2 := Turn.grown hg (fun g hg _ => hg)
 have hvl : vs.length = p := by have := h1.1; omega
 refine ⟨grown_other h1 hg (Ext.refl _) h.blk (by decide), h.low, ⟨A, c, hnv, own_other h1 hg (Ext.refl _) hA (by decide)⟩, ⟨B, d, hrv, own_other h1 hg (Ext.refl _) hB (by decide)⟩, h.apart, vs ++ [u], hs, fun j v t' hv ht => ?_⟩
 have keep : ∀ {v : Value} {xs : List Int}, IntsX w (two nv rv) v xs → IntsX w2 (two nv rv) v xs := fun hi => hi.keep T (fun g cs hcs _ hn => by
  obtain ⟨cur, hcur⟩ := own_obj h1 g hn
  exact ne_type hcs hcur (by decide) rfl) (fun g hg => .inl hg)
 by_cases hj : j < p
 ·rw [List.getElem?_append_left (by omega)] at hv
  exact keep (h2 j v t' hv ht)
 ·obtain rfl : j = p := by
   have := (List.getElem?_eq_some_iff.1 hv).1
   simp at this
   omega
  rw [List.getElem?_append_right (by omega), hvl] at hv
  simp at hv
  rw [hp] at ht
  injection ht with ht
  subst hv ht
  exact keep hu
end
def tv (k : Option Nat) : Int := match k with | none => -1 | some k => k
def tlF (T : Nat → Option Nat) (n : Nat) : List Int := (List.range n).map fun i => tv (T i)
theorem tlF_succ (T : Nat → Option Nat) (n : Nat) : tlF T (n + 1) = tlF T n ++ [tv (T n)] := by simp [tlF, List.range_succ]
theorem tlF_length (T : Nat → Option Nat) (n : Nat) : (tlF T n).length = n := by simp [tlF]
structure Found (cs : List Cl) (nx : List (List Int)) (rl R : List Int) (ss : List Nat) (T : Nat → Option Nat) : Prop where
 one : ss[0]? = some 0
 most : ss.length < 512
 state : ∀ (i t : Nat), ss[i]? = some t → t < 65536 ∧ ∃ r xs, rl[t]? = some r ∧ R[i]? = some r ∧ -1 ≤ r ∧ nx[t]? = some xs ∧ (∀ x ∈ xs, 0 ≤ x ∧ x < cs.length) ∧ xs.length ≤ 100000 ∧ ∀ b, b < 256 → goF cs xs b cs.length = match T (256 * i + b) with | none => [] | some k => [(ss.getD k 0 : Int)]
 rules : R.length = ss.length
 known : ∀ n k, n < 256 * ss.length → T n = some k → k < ss.length
 next : ∀ n k p, n < 256 * ss.length → T n = some k → 1 ≤ p → (∀ m j, m < n → T m = some j → j < p) → k ≤ p
 all : ∀ i, 1 ≤ i → i < ss.length → ∃ n, n < 256 * i ∧ T n = some i
 inj : ∀ (i j s t : Nat), ss[i]? = some s → ss[j]? = some t → (keyS s).data.toList = (keyS t).data.toList → i = j
 ok : ∀ j, (cs.getD j Cl.zero).ok
structure Bt2 (w : World) (base db p n i : Nat) (ss : List Nat) (T : Nat → Option Nat) (R : List Int) (sv : Value) : Prop where
 bd : ∃ nv rv, Bd w base db p ss nv rv sv (tlF T n) (R.take i)
 one : 1 ≤ p
 low : p ≤ ss.length
 seen : ∀ m j, m < n → T m = some j → j < p
structure EdL (w0 : World) (gs : List Nat) where
 V : World
 same : ∀ k ∈ gs, V.heap[k]? = w0.heap[k]?
instance edLNonempty (w0 : World) (gs : List Nat) : Nonempty (EdL w0 gs) := ⟨⟨w0, fun _ _ => rfl⟩⟩
theorem EdL.cell {w0 : World} {gs : List Nat} (x : EdL w0 gs) {g k : Nat} {v : Value} (hg : g ∈ gs) (h : w0.cell? ⟨g, k, none⟩ = some v) : x.V.cell? ⟨g, k, none⟩ = some v :=
 (World.cell?_of_block (w := w0) (a := ⟨g, k, none⟩) (x.same g hg)).trans h
theorem EdL.lt {w0 : World} {gs : List Nat} (x : EdL w0 gs) {g : Nat} (hg : g ∈ gs) (h : g < w0.heap.size) : g < x.V.heap.size := by
 have := x.same g hg
 rw [Array.getElem?_eq_getElem h] at this
 exact lt_of_heap this
theorem edL_ext {w0 w1 V : World} {gs : List Nat} (h : ∀ k ∈ gs, w1.heap[k]? = w0.heap[k]?) (e : Ext w1 V) (hl : ∀ k ∈ gs, k < w1.heap.size) : ∃ x : EdL w0 gs, V = x.V := ⟨⟨V, fun k hk => (e.below.block _ (hl k hk)).trans (h k hk)⟩, rfl⟩
structure Env (w0 w : World) (g0 mb p : Nat) (cv nv rv : Value) (ss : List Nat) : Prop where
 box : w.heap[g0]? = some (.cells #[cv, nv, rv] 148)
 res : w.heap[g0 + 1]? = some (.cells #[nil0, nil0] 94)
 map : ∃ q f, q ≤ p ∧ MapS w mb q f ∧ ∀ (j t : Nat), ss[j]? = some t → f (keyS t).data.toList = if j < p then some (j : Int) else none
 ext : Ext w0 w
 mlow : w0.heap.size ≤ mb
theorem Env.turn {w0 w w' : World} {g0 mb p : Nat} {cv nv rv : Value} {ss : List Nat} {S : Nat → Prop} (h : Env w0 w g0 mb p cv nv rv ss) (t : Turn S w w') (h1 : ∀ k, S k → w0.heap.size ≤ k) (h2 : ¬ S g0) (h3 : ¬ S (g0 + 1)) (h4 : ¬ S mb) : Env w0 w' g0 mb p cv nv rv ss := by
 obtain ⟨q, f, a1, a2, a3⟩ := h.map
 exact ⟨t.keep h.box h2, t.keep h.res h3, ⟨q, f, a1, a2.keep t h4, a3⟩, t.ext h.ext h1, h.mlow⟩
theorem Env.toExt {w0 w w' : World} {g0 mb p : Nat} {cv nv rv : Value} {ss : List Nat} (h : Env w0 w g0 mb p cv nv rv ss) (e : Ext w w') : Env w0 w' g0 mb p cv nv rv ss := by
 obtain ⟨q, f, a1, a2, a3⟩ := h.map
 exact ⟨ext_block h.box e, ext_block h.res e, ⟨q, f, a1, a2.ext e, a3⟩, h.ext.trans e, h.mlow⟩
theorem Env.grow {w0 w w' : World} {g0 mb p : Nat} {cv nv rv : Value} {ss : List Nat} {e : TypeId} {size n : Nat} {v : Value} {xs : List Value} (h : Env w0 w g0 mb p cv nv rv ss) (hr : w.ownsRow w0.heap.size e size v n xs) (he : e = 3 ∨ e = 31) (hg : w.grownBy w' v.ownBlock) : Env w0 w' g0 mb p cv nv rv ss := by
 have t : Turn (fun g => v.ownBlock = some g) w w' := Turn.grown hg (fun g hg _ => hg)
 have hm := h.map
 refine h.turn t (fun k hk => own_block hr k hk) (fun hk => ?_) (fun hk => ?_) (fun hk => ?_)
 all_goals obtain ⟨cur, hcur⟩ := own_obj hr _ hk
 ·rw [h.box] at hcur; injection hcur with hcur; injection hcur with _ hcur; rcases he with rfl | rfl <;> exact absurd hcur (by decide)
 ·rw [h.res] at hcur; injection hcur with hcur; injection hcur with _ hcur; rcases he with rfl | rfl <;> exact absurd hcur (by decide)
 ·obtain ⟨q, f, _, a2, _⟩ := hm
  exact a2.ne hcur rfl
theorem Env.store {w0 w : World} {g0 mb p db : Nat} {cv nv rv : Value} {ss : List Nat} {cs : Array Value} (h : Env w0 w g0 mb p cv nv rv ss) (hd : w.heap[db]? = some (.cells cs 94)) (hl : w0.heap.size ≤ db) (h1 : db ≠ g0 + 1) (k : Nat) (v : Value) : Env w0 (w.setCell ⟨db, k, none⟩ v) g0 mb p cv nv rv ss := by
 obtain ⟨q, f, _, a2, _⟩ := h.map
 exact h.turn (S := fun i => i = db) (Turn.set1 _ _ _) (fun i hi => by omega) (fun hi => ne_type h.box hd (by decide) hi) (fun hi => h1 hi.symm) (fun hi => a2.ne hd hi)
theorem step_next {w0 w w4 : World} {g0 mb p p' db : Nat} {cv cn cr nv rv sv v4 : Value} {ss : List Nat} {nl rl : List Int} {y : Int} (hB : Bd w w0.heap.size db p ss nv rv sv nl rl) (hV : Env w0 w g0 mb p' cv cn cr ss) (hd : db ≠ g0 + 1) (hr4 : RowI w4 w0.heap.size v4 (nl ++ [y])) (hg4 : w.grownBy w4 nv.ownBlock) (hat4 : v4.ownBlock = nv.ownBlock ∨ v4.ownBlock = some w.heap.size) :
 ∃ A l c, v4 = .slice A l c ∧ w4.heap[db]? = some (.cells #[nv, rv] 94) ∧ Bd (w4.setCell ⟨db, 0, none⟩ v4) w0.heap.size db p ss v4 rv sv (nl ++ [y]) rl ∧ Env w0 (w4.setCell ⟨db, 0, none⟩ v4) g0 mb p' cv cn cr ss := by
 obtain ⟨RA, rc1, hrv1, hRA⟩ := hB.nxt
 have hRA' : w.ownsRow w0.heap.size 3 1 nv nl.length (iv nl) := by rw [hrv1]; exact hRA
 have D4 := grown_other hRA' hg4 (Ext.refl _) hB.blk (by decide)
 have hB4 := hB.appN hr4 hg4 hat4
 obtain ⟨A, c, h, _⟩ := hr4
 exact ⟨A, _, c, h, D4, hB4, (hV.grow hRA' (.inl rfl) hg4).store D4 hB.low hd 0 v4⟩
theorem keyS_size (t : Nat) : (keyS t).size ≤ maxLen := by
 have : (keyS t).size = 2 := rfl
 rw [this]
 unfold maxLen
 decide
set_option maxRecDepth 100000 in
set_option maxHeartbeats 8000000 in
theorem build_table (cv nv rv : Value) (cs : List Cl) (nx : List (List Int)) (rl R : List Int) (ss : List Nat) (T : Nat → Option Nat) (w : World) (hN : NfaRd w cv nv rv cs nx rl) (hO : NfaOk cs nx rl) (hF : Found cs nx rl R ss T) :
 Calls Tryz.prog 98 #[.agg #[cv, nv, rv], .int .i64 512] w fun e w' => ∃ nv' rv', e = .returned (.tuple #[.agg #[nv', rv'], .int .i64 0]) ∧ DfaRd w' nv' rv' (tlF T (256 * ss.length)) R ∧ Ext w w' := by
 obtain ⟨g0, hg0⟩ : ∃ b, w.heap.size = b := ⟨_, rfl⟩
 obtain ⟨W, hW⟩ : ∃ W, (w.alloc (.cells #[cv, nv, rv] 148)).alloc (.cells #[nil0, nil0] 94) = W := ⟨_, rfl⟩
 have X1 : Ext w W := by rw [← hW]; exact (by repeat first | exact xr _ | refine xa ?_ _ | refine xm ?_ _ _ | refine xd ?_ | refine xn ?_ _ | refine xs ?_ (by simp <;> omega) _)
 have B1 : W.heap[g0]? = some (.cells #[cv, nv, rv] 148) := by rw [← hW, ← hg0]; exact (by simp only [heap_alloc_get, World.size_alloc]; (repeat (split; (first | rfl | (exfalso; omega)))); (try (first | (exfalso; omega) | simp_all)))
 have R1 : W.heap[g0 + 1]? = some (.cells #[nil0, nil0] 94) := by rw [← hW, ← hg0]; exact (by simp only [heap_alloc_get, World.size_alloc]; (repeat (split; (first | rfl | (exfalso; omega)))); (try (first | (exfalso; omega) | simp_all)))
 have b0 := cell_of_row _ _ 0 _ _ _ B1
 have b1 := cell_of_row _ _ 1 _ _ _ B1
 have b2 := cell_of_row _ _ 2 _ _ _ B1
 have lb := lt_of_heap B1
 simp at b0 b1 b2
 have HN := zh hN
 have HO := zh hO
 have HF := zh hF
 have HX1 := zh X1
 have HB1 := zh B1
 have HR1 := zh R1
 have HG0 := zh hg0
 have HCK := zh (check_nfa cv nv rv cs nx rl W (hN.ext X1) hO)
 clear hN hO hF X1 B1 R1
 go_enter Tryz.func98, Tryz.ntmps98
 go_wp2_with fail
 try simp only [hg0]
 refine HCK.out.mono ?_
 rintro e W2 ⟨rfl, hx2⟩
 have HX2 := zh (HX1.out.trans hx2)
 have HB2 := zh (ext_block HB1.out hx2)
 have HR2 := zh (ext_block HR1.out hx2)
 clear b0 b1 b2 lb hx2 hW hg0
 have hmm := @run_makeMap Tryz.prog
 obtain ⟨a0, ha0⟩ : ∃ a0, W2.heap.size = a0 := ⟨_, rfl⟩
 obtain ⟨W3, hW3⟩ : ∃ W3, ((W2.alloc (.cells #[.int .i64 0] 3)).alloc (.cells #[.slice (some ⟨a0, 0, none⟩) 1 1] 31)).alloc (.map #[] 0) = W3 := ⟨_, rfl⟩
 have X3 : Ext W2 W3 := by rw [← hW3]; exact (by repeat first | exact xr _ | refine xa ?_ _ | refine xm ?_ _ _ | refine xd ?_ | refine xn ?_ _ | refine xs ?_ (by simp <;> omega) _)
 have A3 : W3.heap[a0]? = some (.cells #[.int .i64 0] 3) := by rw [← hW3, ← ha0]; exact (by simp only [heap_alloc_get, World.size_alloc]; (repeat (split; (first | rfl | (exfalso; omega)))); (try (first | (exfalso; omega) | simp_all)))
 have S3 : W3.heap[a0 + 1]? = some (.cells #[.slice (some ⟨a0, 0, none⟩) 1 1] 31) := by rw [← hW3, ← ha0]; exact (by simp only [heap_alloc_get, World.size_alloc]; (repeat (split; (first | rfl | (exfalso; omega)))); (try (first | (exfalso; omega) | simp_all)))
 have M3 : MapS W3 (a0 + 2) 0 fun _ => none := by
  have := MapS.made ((W2.alloc (.cells #[.int .i64 0] 3)).alloc (.cells #[.slice (some ⟨a0, 0, none⟩) 1 1] 31))
  rw [hW3] at this
  have hs : ((W2.alloc (.cells #[.int .i64 0] 3)).alloc (.cells #[.slice (some ⟨a0, 0, none⟩) 1 1] 31)).heap.size = a0 + 2 := by rw [← ha0]; simp
  rwa [hs] at this
 have HX3 := zh (HX2.out.trans X3)
 have HA3 := zh A3
 have HS3 := zh S3
 have HM3 := zh M3
 have HB3 := zh (ext_block HB2.out X3)
 have HR3 := zh (ext_block HR2.out X3)
 have HA0 : Hid (w.heap.size ≤ a0) := zh (by rw [← ha0]; exact HX2.out.size)
 have s0 := cell_of_row _ _ 0 _ _ _ S3
 simp at s0
 have ls := lt_of_heap S3
 have HK := zh (key_one (some ⟨a0, 0, none⟩) 1 0 W3 (ints1 A3) (by omega))
 clear X3 A3 S3
 obtain ⟨mb, hmb⟩ : ∃ mb, a0 + 1 + 1 = mb := ⟨_, rfl⟩
 have M3' : MapS W3 mb 0 fun _ => none := by rw [← hmb]; exact M3
 have HM3 := zh M3'
 have HMB := zh hmb
 clear M3 M3'
 go_wp2_with fail
 refine HK.out.mono ?_
 rintro e W4 ⟨rfl, hx4⟩
 simp only []
 obtain ⟨W5, hrun, hM5, hT5⟩ := (HM3.out.ext hx4).put (by omega) (keyS 0) (keyS_size 0) 0 (by omega) (by omega)
 have nM := fun {g : Nat} {cs : Array Value} {U : TypeId} (hg : W3.heap[g]? = some (.cells cs U)) => Ne.symm ((HM3.out.ext hx4).ne (ext_block hg hx4))
 have HA5 := zh (hT5.keep (ext_block HA3.out hx4) (nM HA3.out))
 have HS5 := zh (hT5.keep (ext_block HS3.out hx4) (nM HS3.out))
 have HB5 := zh (hT5.keep (ext_block HB3.out hx4) (nM HB3.out))
 have HR5 := zh (hT5.keep (ext_block HR3.out hx4) (nM HR3.out))
 have HM5 := zh hM5
 have HX5 := zh (hT5.ext (HX3.out.trans hx4) (fun k hk => by have := HA0.out; omega))
 clear hmm ha0 hW3 s0 ls hM5 hT5 nM hx4 hmb
 obtain ⟨db, hdb⟩ : ∃ db, W5.heap.size = db := ⟨_, rfl⟩
 obtain ⟨W5b, hW5b⟩ : ∃ W6, W5.alloc (.cells #[nil0, nil0] 94) = W6 := ⟨_, rfl⟩
 have D5 : W5b.heap[db]? = some (.cells #[nil0, nil0] 94) := by rw [← hW5b, ← hdb]; exact heap_alloc_new _ _
 have X5 : Ext W5 W5b := by rw [← hW5b]; exact (by repeat first | exact xr _ | refine xa ?_ _ | refine xm ?_ _ _ | refine xd ?_ | refine xn ?_ _ | refine xs ?_ (by simp <;> omega) _)
 obtain ⟨W6, hW6⟩ : ∃ W6, put2 W5b db nil0 nil0 = W6 := ⟨_, rfl⟩
 have D6 : W6.heap[db]? = some (.cells #[nil0, nil0] 94) := by rw [← hW6]; exact put2_at D5 _ _
 have X6 : Ext W5 W6 := by rw [← hW6]; exact (put2_turn (S := fun k => k = db) rfl _ _).ext X5 (fun k hk => by omega)
 have HI6 : Hid (Bt2 W6 w.heap.size db 1 0 0 ss T R (.slice (some ⟨a0 + 1, 0, none⟩) 1 1)) := zh ⟨⟨nil0, nil0, D6, by have := HX5.out.size; omega, ⟨none, 0, rfl, OwnI.nil _ _⟩, ⟨none, 0, rfl, OwnI.nil _ _⟩, fun g hg => (by cases hg), [.slice (some ⟨a0, 0, none⟩) 1 1],
  ⟨rfl, .inr ⟨a0 + 1, 1, _, rfl, by have := HA0.out; omega, ext_block HS5.out X6, Nat.le_refl _, by unfold maxLen; omega, rfl, rfl⟩⟩, fun j v t hv ht => by
   obtain rfl : j = 0 := by
    have := (List.getElem?_eq_some_iff.1 hv).1
    simpa using this
   simp at hv
   have := HF.out.one
   rw [this] at ht
   injection ht with ht
   subst hv ht
   exact ⟨some ⟨a0, 0, none⟩, 1, rfl, (ints1 HA5.out).ext X6, Nat.le_refl _, fun g off s hg => by
    injection hg with hg
    injection hg with hg
    subst hg
    exact ⟨⟨_, ext_block HA5.out X6⟩, fun hh => by rcases hh with hh | hh <;> cases hh⟩⟩⟩,
  Nat.le_refl _, by have := (List.getElem?_eq_some_iff.1 HF.out.one).1; omega, fun m j hm => by omega⟩
 have HV6 : Hid (Env w W6 g0 mb 1 cv nv rv ss) := zh ⟨ext_block HB5.out X6, ext_block HR5.out X6,
  ⟨0 + 1, _, Nat.le_refl _, HM5.out.ext X6, fun j t hj => by
    by_cases h0 : j < 1
    ·obtain rfl : j = 0 := by omega
     rw [HF.out.one] at hj
     injection hj with hj
     subst hj
     rw [if_pos rfl, if_pos h0]
     rfl
    ·rw [if_neg h0, if_neg (fun he => h0 (by have := HF.out.inj j 0 t 0 hj HF.out.one he; omega))]⟩, HX5.out.trans X6, by have := HA0.out; have := HMB.out; omega⟩
 have HDB : Hid (db ≠ g0 + 1 ∧ db ≠ g0) := zh ⟨by rw [← hdb]; have := lt_of_heap HR5.out; omega, by rw [← hdb]; have := lt_of_heap HB5.out; omega⟩
 have r0 := cell_of_row _ _ 0 _ _ _ D5
 have r1 := cell_of_row _ _ 1 _ _ _ D5
 have ff := fun k => row_frozen D5 k
 simp at r0 r1
 unfold put2 at hW6
 clear X5 D5 D6 X6 HA5 HS5 HM5 HB5 HR5 HM3 HB3 HR3 HA3 HS3 HK HCK HX3
 go_wp2_with fail
 clear hW6 hrun hdb hW5b r0 r1 ff
 go_loopw [7, 10] (fun sv iv wr => ∃ i p : Nat, iv = .int .i64 i ∧ i ≤ ss.length ∧ Hid (Bt2 wr w.heap.size db p (256 * i) i ss T R sv) ∧ Hid (Env w wr g0 mb p cv nv rv ss)) (fun _ i _ => ss.length - (intOf i).toNat)
 case atStart => exact ⟨0, 1, rfl, Nat.zero_le _, HI6, HV6⟩
 case round =>
  obtain ⟨i, p, rfl, hi, hI, hV⟩ := hrel
  clear HI6 HV6
  have hX := zh hV.out.ext
  have hB := zh hV.out.box
  obtain ⟨⟨nv1, rv1, hbd⟩, hp1, hpl, hseen⟩ := hI.out
  have HSEEN := zh hseen
  obtain ⟨vs, hvs, hvi⟩ := hbd.sets
  obtain ⟨SA, sc, rfl, hSA, _⟩ := own_cells hvs
  by_cases hlt : i < p
  ·have hil : i < ss.length := by omega
   obtain ⟨t, ht⟩ : ∃ t, ss[i]? = some t := ⟨_, List.getElem?_eq_getElem hil⟩
   obtain ⟨ht1, r, xs, hr, hRi, hr1, hxs, hx1, hx2, hgo⟩ := HF.out.state i t ht
   obtain ⟨gs, os, rfl, lgs, hsc⟩ := hSA (by have := hvs.1; omega)
   obtain ⟨v, hv⟩ : ∃ v, vs[i]? = some v := ⟨_, List.getElem?_eq_getElem (by have := hvs.1; omega)⟩
   obtain ⟨S, c1, rfl, hS, hSc, hS2⟩ := hvi i v t hv ht
   have s0 := hsc i _ hv
   have n0 := cell_of_row _ _ 0 _ _ _ hB.out
   have n1 := cell_of_row _ _ 1 _ _ _ hB.out
   have n2 := cell_of_row _ _ 2 _ _ _ hB.out
   have ln := lt_of_heap hB.out
   have d1 := cell_of_row _ _ 1 _ _ _ hbd.blk
   have ld := lt_of_heap hbd.blk
   simp at n0 n1 n2 d1 s0
   have HE : Hid (∀ W, Ext wr W → Calls Tryz.prog 148 #[.agg #[cv, nv, rv], .slice S 1 c1] W fun e w' => e = .returned (.int .i64 r) ∧ Ext W w') := zh (fun W e => ends_one cv nv rv cs nx rl S c1 t r W ((HN.out.ext hX.out).ext e) (hS.ext e) hr hr1)
   have HBD := zh hbd
   have HVS := zh hvs
   clear hsc hS hS2 hvi hvs hv hSA hbd hseen
   obtain ⟨cgs, hcgs⟩ : ∃ cur, wr.heap[gs]? = some (.cells cur 31) := own_obj HVS.out gs rfl
   have HGS := zh hcgs
   have kx0 : ∀ x : EdL wr [g0, db, gs], x.V.cell? ⟨g0, 0, none⟩ = some cv := fun x => x.cell (by simp) n0
   have kx1 : ∀ x : EdL wr [g0, db, gs], x.V.cell? ⟨g0, 1, none⟩ = some nv := fun x => x.cell (by simp) n1
   have kx2 : ∀ x : EdL wr [g0, db, gs], x.V.cell? ⟨g0, 2, none⟩ = some rv := fun x => x.cell (by simp) n2
   have kx3 : ∀ x : EdL wr [g0, db, gs], x.V.cell? ⟨db, 1, none⟩ = some rv1 := fun x => x.cell (by simp) d1
   have kx4 : ∀ x : EdL wr [g0, db, gs], x.V.cell? ⟨gs, os + i, none⟩ = some (.slice S 1 c1) := fun x => x.cell (by simp) s0
   have kx5 : ∀ x : EdL wr [g0, db, gs], g0 < x.V.heap.size := fun x => x.lt (by simp) ln
   have kx6 : ∀ x : EdL wr [g0, db, gs], db < x.V.heap.size := fun x => x.lt (by simp) ld
   have kx7 : ∀ x : EdL wr [g0, db, gs], gs < x.V.heap.size := fun x => x.lt (by simp) lgs
   have HLT : Hid (∀ k ∈ [g0, db, gs], k < wr.heap.size) := zh (by simp; exact ⟨ln, ld, lgs⟩)
   clear hcgs
   go_upto_region 12 with fail
   refine wp_region_btC (T := EdL wr [g0, db, gs]) EdL.V (11) (pures_bt [0, 3, 4, 5] (softs_bt [1, 2, 6] (.step 7 (.step 8 (.step 9 (pures_bt [10] (.step 11 .fin))))))) (by kernel_rfl) (by kernel_rfl) ⟨⟨wr.drew, fun _ _ => rfl⟩, rfl⟩ ?_
   refine bt_pures _ fun K hK => ?_; simp only [pick, nthC]; (repeat go_big_quiet_step (fail)); refine wpQuiet_nil (hK _ ?_); clear hK K
   refine bt_softs _ fun K hK => ?_; simp only [pick, nthC]; (repeat go_big_quiet_step (fail)); refine wpQuiet_nil (hK _ ?_); clear hK K
   clear kx0 kx1 kx2 kx3 kx4 kx5 kx6 kx7 n0 n1 n2 s0 d1
   refine bt_step fun next hn => ?_; simp only [pick, nthC]
   go_wp2_with fail
   refine (HE.out _ (by repeat first | exact xr _ | refine xa ?_ _ | refine xm ?_ _ _ | refine xd ?_ | refine xn ?_ _ | refine xs ?_ (by simp <;> omega) _)).mono ?_
   rintro e w2 ⟨rfl, hx2⟩
   have HY2 : Hid (Ext wr w2) := zh (Ext.trans (by repeat first | exact xr _ | refine xa ?_ _ | refine xm ?_ _ _ | refine xd ?_ | refine xn ?_ _ | refine xs ?_ (by simp <;> omega) _) hx2)
   clear hx2
   go_wp2_with fail
   refine segQ_mk (fun _ => edL_ext (fun _ _ => rfl) HY2.out HLT.out) (hn _ _ ?_)
   clear hn next
   refine bt_step fun next hn => ?_; simp only [pick, nthC]
   go_wp2_with fail
   refine segQ_mk (fun _ => edL_ext (fun _ _ => rfl) (HY2.out.trans (by repeat first | exact xr _ | refine xa ?_ _ | refine xm ?_ _ _ | refine xd ?_ | refine xn ?_ _ | refine xs ?_ (by simp <;> omega) _)) HLT.out) (hn _ _ ?_)
   clear hn next
   have HBD3 := zh (HBD.out.ext (HY2.out.trans ((by repeat first | exact xr _ | refine xa ?_ _ | refine xm ?_ _ _ | refine xd ?_ | refine xn ?_ _ | refine xs ?_ (by simp <;> omega) _) : Ext w2 (w2.alloc (.cells #[.int .i64 r] 3)))))
   obtain ⟨b3, hb3⟩ : ∃ b3, w2.heap.size = b3 := ⟨_, rfl⟩
   obtain ⟨W3, hW3⟩ : ∃ W3, w2.alloc (.cells #[.int .i64 r] 3) = W3 := ⟨_, rfl⟩
   have l3 : b3 < W3.heap.size := by rw [← hW3, ← hb3]; simp
   have HX3 : Hid (Ext wr W3) := zh (by rw [← hW3]; exact HY2.out.trans (by repeat first | exact xr _ | refine xa ?_ _ | refine xm ?_ _ _ | refine xd ?_ | refine xn ?_ _ | refine xs ?_ (by simp <;> omega) _))
   have a3 : W3.cell? ⟨b3, 0, none⟩ = some (.int .i64 r) := by rw [← hW3, ← hb3]; exact (cell_of_row _ _ 0 _ _ _ (heap_alloc_new w2 (.cells #[.int .i64 r] 3))).trans (by simp)
   rw [hW3] at HBD3
   simp only [hW3, hb3]
   clear hW3 hb3
   have HRL : Hid ((R.take i).length ≤ 1000000) := zh (by rw [List.length_take]; have := HF.out.most; omega)
   refine bt_step fun next hn => ?_; simp only [pick, nthC]
   go_wp2_with (at_builtin; refine app_intO w (by rfl) (.tmp 45) (.tmp 52) rfl HBD3.out.rul r b3 rfl rfl l3 a3 HRL.out (by have := (hX.out.trans HX3.out).size; omega) ?_; intro v4 w4 hr4 hg4 hat4)
   obtain ⟨A4, l4, c4, rfl⟩ : ∃ A l c, v4 = .slice A l c := by
    obtain ⟨A, c, h, _⟩ := hr4
    exact ⟨A, _, c, h⟩
   obtain ⟨RA, rc1, hrv1, hRA⟩ := HBD3.out.rul
   have hRA' : W3.ownsRow w.heap.size 3 1 rv1 (R.take i).length (iv (R.take i)) := by rw [hrv1]; exact hRA
   have HV4 := zh ((hV.out.toExt HX3.out).grow hRA' (.inl rfl) hg4)
   have D4 := grown_other hRA' hg4 (Ext.refl _) HBD3.out.blk (by decide)
   have GS4 := grown_other hRA' hg4 (Ext.refl _) (ext_block HGS.out HX3.out) (by decide)
   have HBD5 := zh (HBD3.out.appR hr4 hg4 hat4)
   have HV5 := zh (HV4.out.store D4 HBD3.out.low HDB.out.1 1 (.slice A4 l4 c4))
   rw [show R.take i ++ [r] = R.take (i + 1) from by rw [List.take_add_one, hRi]; rfl] at HBD5
   have hsame : ∀ k ∈ [g0, db, gs], w4.heap[k]? = wr.heap[k]? := by
    intro k hk
    simp at hk
    rcases hk with rfl | rfl | rfl
    ·exact HV4.out.box.trans hB.out.symm
    ·exact D4.trans HBD.out.blk.symm
    ·exact GS4.trans HGS.out.symm
   refine segQ_mk (fun _ => ⟨⟨w4, hsame⟩, rfl⟩) (hn _ _ ?_)
   clear hn next hsame
   have d4 := cell_of_row _ _ 1 _ _ _ D4
   simp at d4
   have f4 := row_frozen D4 1
   obtain ⟨W5, hW5⟩ : ∃ W5, w4.setCell ⟨db, 1, none⟩ (.slice A4 l4 c4) = W5 := ⟨_, rfl⟩
   rw [hW5] at HBD5 HV5
   clear D4 GS4 hRA hRA' hrv1 hr4 hg4 hat4 a3 l3
   refine bt_pures _ fun K hK => ?_; simp only [pick, nthC]; (repeat go_big_quiet_step (fail)); refine wpQuiet_nil (hK _ ?_); clear hK K
   refine bt_step fun next hn => ?_; simp only [pick, nthC]
   go_wp2_with fail
   refine segQ_mk (fun h => absurd rfl h) (hn _ _ ?_)
   clear hn next
   (refine bt_fin ?_)
   clear hW5 d4 f4
   go_wp2_with fail
   have HR2 := zh hRi
   clear hI hV hX hB
   go_loopw [7, 11] (fun sv bv wr => ∃ b p : Nat, bv = .int .i64 b ∧ b ≤ 256 ∧ i < p ∧ Hid (Bt2 wr w.heap.size db p (256 * i + b) (i + 1) ss T R sv) ∧ Hid (Env w wr g0 mb p cv nv rv ss)) (fun _ b _ => 256 - (intOf b).toNat)
   case atStart => exact ⟨0, p, rfl, by omega, hlt, zh ⟨⟨_, _, HBD5⟩, hp1, hpl, HSEEN.out⟩, HV5⟩
   case round =>
    clear HBD5 HV5 HSEEN hp1 hpl hlt HV4 HBD3 HX3 HY2 HLT HGS HVS HBD HE
    obtain ⟨b, p, rfl, hb, hip, hI, hV⟩ := hrel
    obtain ⟨⟨nv1, rv1, hbd⟩, hp1, hpl, hseen⟩ := hI.out
    obtain ⟨vs, hvs, hvi⟩ := hbd.sets
    obtain ⟨SA, sc, rfl, hSA, _⟩ := own_cells hvs
    have HBD := zh hbd
    by_cases hlt : b < 256
    ·have hg := hgo b hlt
     obtain ⟨gs, os, rfl, lgs, hsc⟩ := hSA (by have := hvs.1; omega)
     obtain ⟨v, hv⟩ : ∃ v, vs[i]? = some v := ⟨_, List.getElem?_eq_getElem (by have := hvs.1; omega)⟩
     obtain ⟨S, c1, rfl, hS, hSc, hS2⟩ := hvi i v t hv ht
     have s0 := hsc i _ hv
     have n0 := cell_of_row _ _ 0 _ _ _ hV.out.box
     have n1 := cell_of_row _ _ 1 _ _ _ hV.out.box
     have n2 := cell_of_row _ _ 2 _ _ _ hV.out.box
     have ln := lt_of_heap hV.out.box
     simp at n0 n1 n2 s0
     have HGO : Hid (∀ W, Ext wr W → Calls Tryz.prog 149 #[.agg #[cv, nv, rv], .slice S 1 c1, .int .u8 b] W (IntsRet W (match T (256 * i + b) with | none => [] | some k => [(ss.getD k 0 : Int)]))) := zh (fun W e => by
      rw [← hg]
      exact go_one cv nv rv cs nx rl S c1 t b xs W ((HN.out.ext hV.out.ext).ext e) (hS.ext e) hxs hlt hx1 HF.out.ok (by have := HO.out.most; omega) hx2)
     obtain ⟨ys, hys⟩ : ∃ ys : List Int, (match T (256 * i + b) with | none => [] | some k => [(ss.getD k 0 : Int)]) = ys := ⟨_, rfl⟩
     rw [hys] at HGO
     have HYS := zh hys
     have HSEEN := zh hseen
     have HVS := zh hvs
     clear hys
     clear hsc hS hS2 hvi hvs hv hSA hbd hseen hg
     go_upto_region 16 with fail
     refine wp_region_bt (9) (pures_bt [1, 2, 3, 5] (softs_bt [0, 4, 6] (.step 7 (pures_bt [8] .fin)))) (by kernel_rfl) (by kernel_rfl) ?_
     refine bt_pures _ fun K hK => ?_; simp only [pick, nthC]; (repeat go_big_quiet_step (fail)); refine wpQuiet_nil (hK _ ?_); clear hK K
     refine bt_softs _ fun K hK => ?_; simp only [pick, nthC]; (repeat go_big_quiet_step (fail)); refine wpQuiet_nil (hK _ ?_); clear hK K
     clear n0 n1 n2 s0
     refine bt_step fun next hn => ?_; simp only [pick, nthC]
     go_wp2_with fail
     refine (HGO.out _ (by repeat first | exact xr _ | refine xa ?_ _ | refine xm ?_ _ _ | refine xd ?_ | refine xn ?_ _ | refine xs ?_ (by simp <;> omega) _)).mono ?_
     rintro e w2 ⟨A2, c2, rfl, ho2, hx2'⟩
     have HY2 : Hid (Ext wr w2) := zh (Ext.trans (by repeat first | exact xr _ | refine xa ?_ _ | refine xm ?_ _ _ | refine xd ?_ | refine xn ?_ _ | refine xs ?_ (by simp <;> omega) _) hx2')
     have HO2 := zh ho2
     have HSZ : Hid (wr.heap.size ≤ wr.drew.heap.size) := zh (Nat.le_refl _)
     clear hx2' ho2
     go_wp2_with fail
     refine segQ_mk (fun _ => laid HY2.out) (hn _ _ ?_)
     clear hn next
     refine bt_pures _ fun K hK => ?_; simp only [pick, nthC]; (repeat go_big_quiet_step (fail)); refine wpQuiet_nil (hK _ ?_); clear hK K
     (refine bt_fin ?_)
     have HB2 := zh (HBD.out.ext HY2.out)
     have HV2 := zh (hV.out.toExt HY2.out)
     cases hT : T (256 * i + b) with
     | none =>
      have HTN := zh hT
      have hys := HYS.out
      rw [hT] at hys
      simp only at hys
      subst hys
      clear hT
      have d0 := cell_of_row _ _ 0 _ _ _ HB2.out.blk
      simp at d0
      have ld := lt_of_heap HB2.out.blk
      have hnl : (tlF T (256 * i + b)).length ≤ 1000000 := by rw [tlF_length]; have := HF.out.most; omega
      go_wp2_with (at_builtin; refine app_intO w (by rfl) (.tmp 95) (.tmp 97) rfl (HB2.out.ext (by repeat first | exact xr _ | refine xa ?_ _ | refine xm ?_ _ _ | refine xd ?_ | refine xn ?_ _ | refine xs ?_ (by simp <;> omega) _)).nxt (-1) w2.heap.size rfl rfl (by simp) (by rw [cell_of_row _ _ 0 _ _ _ (heap_alloc_new w2 (.cells #[.int .i64 (-1)] 3))]; rfl) hnl (by have := HV2.out.ext.size; simp <;> omega) ?_; intro v4 w4 hr4 hg4 hat4; obtain ⟨A4, l4, c4, rfl, D4, HB5, HV5⟩ := step_next (HB2.out.ext (by repeat first | exact xr _ | refine xa ?_ _ | refine xm ?_ _ _ | refine xd ?_ | refine xn ?_ _ | refine xs ?_ (by simp <;> omega) _)) (HV2.out.toExt (by repeat first | exact xr _ | refine xa ?_ _ | refine xm ?_ _ _ | refine xd ?_ | refine xn ?_ _ | refine xs ?_ (by simp <;> omega) _)) HDB.out.1 hr4 hg4 hat4; have d4 := cell_of_row _ _ 0 _ _ _ D4; simp at d4; have f4 := row_frozen D4 0; obtain ⟨W5, hW5⟩ : ∃ W5, w4.setCell ⟨db, 0, none⟩ (.slice A4 l4 c4) = W5 := ⟨_, rfl⟩; rw [hW5] at HB5 HV5; clear D4 hr4 hg4 hat4 d0 ld hnl)
      clear hW5 d4 f4
      go_roundw
      case rel => exact ⟨b + 1, p, by go_num, by omega, by omega, zh ⟨⟨_, _, by rw [show tlF T (256 * i + (b + 1)) = tlF T (256 * i + b) ++ [-1] from by rw [← Nat.add_assoc, tlF_succ, HTN.out]; rfl]; exact HB5⟩, by omega, by omega, fun m j hm hj => by
       rcases Nat.lt_or_ge m (256 * i + b) with h | h
       ·exact HSEEN.out m j h hj
       ·obtain rfl : m = 256 * i + b := by omega
        rw [HTN.out] at hj; cases hj⟩, zh HV5⟩
      case measure => simp [intOf]; omega
     | some k =>
      have HTN := zh hT
      have hys := HYS.out
      rw [hT] at hys
      simp only at hys
      subst hys
      clear hT
      have hkn := HF.out.known _ k (by omega) HTN.out
      have hkp : k ≤ p := HF.out.next _ k p (by omega) HTN.out hp1 HSEEN.out
      obtain ⟨t2, ht2⟩ : ∃ t2, ss[k]? = some t2 := ⟨_, List.getElem?_eq_getElem hkn⟩
      have e2 : ss.getD k 0 = t2 := by rw [List.getD_eq_getElem?_getD, ht2]; rfl
      simp only [e2] at HO2 ⊢
      clear e2
      obtain ⟨ht3, _⟩ := HF.out.state k t2 ht2
      have HK := zh (fun W (e : Ext w2 W) => key_one A2 c2 t2 W ((HO2.out.ints.1).ext e) ht3)
      go_wp2_with fail
      refine (HK.out _ (Ext.refl _)).mono ?_
      rintro e w3 ⟨rfl, hx3⟩
      have HX3 := zh hx3
      have HB3 := zh (HB2.out.ext hx3)
      have HV3 := zh (HV2.out.toExt hx3)
      obtain ⟨q, f, hq, hm, hf⟩ := HV3.out.map
      have hrun := hm.look (keyS t2) (keyS_size t2)
      rw [hf k t2 ht2] at hrun
      have HM := zh (And.intro hq (And.intro hm hf))
      clear hx3 hm hf hq
      rcases Nat.lt_or_ge k p with hlk | hgk
      ·rw [if_pos hlk] at hrun
       have hrun' : (Instr.lookup 200 (.map (some mb)) (.string (keyS t2)) true).run Tryz.prog w3 = .ok (.tuple #[.int .i64 k, .bool true]) w3 := hrun
       clear hrun
       have d0 := cell_of_row _ _ 0 _ _ _ HB3.out.blk
       simp at d0
       have ld := lt_of_heap HB3.out.blk
       have hnl : (tlF T (256 * i + b)).length ≤ 1000000 := by rw [tlF_length]; have := HF.out.most; omega
       go_wp2_with (at_builtin; refine app_intO w (by rfl) (.tmp 95) (.tmp 97) rfl (HB3.out.ext (by repeat first | exact xr _ | refine xa ?_ _ | refine xm ?_ _ _ | refine xd ?_ | refine xn ?_ _ | refine xs ?_ (by simp <;> omega) _)).nxt (k : Int) w3.heap.size rfl rfl (by simp) (by rw [cell_of_row _ _ 0 _ _ _ (heap_alloc_new w3 (.cells #[.int .i64 ((k : Int))] 3))]; rfl) hnl (by have := HV3.out.ext.size; simp <;> omega) ?_; intro v4 w4 hr4 hg4 hat4; obtain ⟨A4, l4, c4, rfl, D4, HB5, HV5⟩ := step_next (HB3.out.ext (by repeat first | exact xr _ | refine xa ?_ _ | refine xm ?_ _ _ | refine xd ?_ | refine xn ?_ _ | refine xs ?_ (by simp <;> omega) _)) (HV3.out.toExt (by repeat first | exact xr _ | refine xa ?_ _ | refine xm ?_ _ _ | refine xd ?_ | refine xn ?_ _ | refine xs ?_ (by simp <;> omega) _)) HDB.out.1 hr4 hg4 hat4; have d4 := cell_of_row _ _ 0 _ _ _ D4; simp at d4; have f4 := row_frozen D4 0; obtain ⟨W5, hW5⟩ : ∃ W5, w4.setCell ⟨db, 0, none⟩ (.slice A4 l4 c4) = W5 := ⟨_, rfl⟩; rw [hW5] at HB5 HV5; clear D4 hr4 hg4 hat4 d0 ld hnl)
       clear hW5 d4 f4
       go_roundw
       case rel => exact ⟨b + 1, p, by go_num, by omega, by omega, zh ⟨⟨_, _, by rw [show tlF T (256 * i + (b + 1)) = tlF T (256 * i + b) ++ [(k : Int)] from by rw [← Nat.add_assoc, tlF_succ, HTN.out]; rfl]; exact HB5⟩, by omega, by omega, fun m j hm hj => by
        rcases Nat.lt_or_ge m (256 * i + b) with h | h
        ·have := HSEEN.out m j h hj; omega
        ·obtain rfl : m = 256 * i + b := by omega
         rw [HTN.out] at hj; injection hj with hj; omega⟩, zh HV5⟩
       case measure => simp [intOf]; omega
      ·obtain rfl : k = p := by omega
       rw [if_neg (by omega)] at hrun
       have hrun' : (Instr.lookup 200 (.map (some mb)) (.string (keyS t2)) true).run Tryz.prog w3 = .ok (.tuple #[.int .i64 0, .bool false]) w3 := hrun
       clear hrun
       have hpm := HF.out.most
       have q1 : ((k : Int) == 512) = false := by simp; omega
       have q2 : decide ((k : Int) = 512) = false := by simp; omega
       have HU : Hid (IntsX (w3.alloc (.cells #[.slice A2 1 c2] 31)) (two nv1 rv1) (.slice A2 1 c2) [(t2 : Int)]) := zh (by
        obtain ⟨h1, h2, h3, h4⟩ := HO2.out.ints
        refine IntsX.ext (w := w2) ⟨A2, c2, rfl, h1, h2, fun g off s hA => ?_⟩ (HX3.out.trans (by repeat first | exact xr _ | refine xa ?_ _ | refine xm ?_ _ _ | refine xd ?_ | refine xn ?_ _ | refine xs ?_ (by simp <;> omega) _))
        subst hA
        have hk : (Value.slice (some ⟨g, off, s⟩) 1 c2).ownBlock = some g := rfl
        refine ⟨own_obj HO2.out g hk, fun hh => ?_⟩
        have h6 := own_block HO2.out g hk
        have h7 : wr.heap.size ≤ g := h6
        obtain ⟨NA, nc, hn1, hNA⟩ := HBD.out.nxt
        obtain ⟨QA, qc, hq1, hQA⟩ := HBD.out.rul
        rcases hh with hh | hh
        ·rw [hn1] at hh; have := own_old hNA g hh; omega
        ·rw [hq1] at hh; have := own_old hQA g hh; omega)
       have HC : Hid (CellsAt (w3.alloc (.cells #[.slice A2 1 c2] 31)) (some ⟨w3.heap.size, 0, none⟩) [.slice A2 1 c2]) := zh (cells_lit w3 31 w3.heap.size #[.slice A2 1 c2] [.slice A2 1 c2] rfl rfl)
       obtain ⟨vs2, hvs2, hvi2⟩ := (HB3.out.ext ((by repeat first | exact xr _ | refine xa ?_ _ | refine xm ?_ _ _ | refine xd ?_ | refine xn ?_ _ | refine xs ?_ (by simp <;> omega) _) : Ext w3 (w3.alloc (.cells #[.slice A2 1 c2] 31)))).sets
       have HVS2 := zh hvs2
       have HVI2 := zh hvi2
       obtain ⟨i6, hi6, hz0, hz1, hz2⟩ := info_parts infoInts
       clear hvs2 hvi2
       go_wp2_with (at_builtin; refine wpList_append_cells _ (by rfl) (.tmp 85) (.tmp 87) 146 rfl w.heap.size 31 i6 _ 1 24 Tryz.underlying146 hi6 hz0 hz1 hz2 rfl (by omega) (.slice (some ⟨gs, os, none⟩) k sc) k vs2 rfl HVS2.out (some ⟨w3.heap.size, 0, none⟩) 1 1 [.slice A2 1 c2] rfl (by intro h; cases h) rfl HC.out (by intro u hu; obtain rfl := List.mem_singleton.1 hu; rfl) (by unfold maxLen; omega) (by omega) (by have := HV3.out.ext.size; simp <;> omega) ?_; intro v5 w5 ho5 hg5 hat5)
       obtain ⟨A5, c5, rfl, _⟩ := own_cells ho5
       have T5 : Turn (fun g => (Value.slice (some ⟨gs, os, none⟩) k sc).ownBlock = some g) (w3.alloc (.cells #[.slice A2 1 c2] 31)) w5 := Turn.grown hg5 (fun g hg _ => hg)
       obtain ⟨A2', c2', hA2, hI5, _⟩ := HU.out.keep T5 (fun g cs hcs _ hn => by
        obtain ⟨cur, hcur⟩ := own_obj HVS2.out g hn
        exact ne_type hcs hcur (by decide) rfl) (fun g hg => .inl hg)
       injection hA2 with a1 a2 a3
       subst a1 a3
       have HB6 := zh ((HB3.out.ext ((by repeat first | exact xr _ | refine xa ?_ _ | refine xm ?_ _ _ | refine xd ?_ | refine xn ?_ _ | refine xs ?_ (by simp <;> omega) _) : Ext w3 (w3.alloc (.cells #[.slice A2 1 c2] 31)))).appS HVS2.out HVI2.out ht2 HU.out ho5 hg5)
       have HV6 := zh ((HV3.out.toExt ((by repeat first | exact xr _ | refine xa ?_ _ | refine xm ?_ _ _ | refine xd ?_ | refine xn ?_ _ | refine xs ?_ (by simp <;> omega) _) : Ext w3 (w3.alloc (.cells #[.slice A2 1 c2] 31)))).grow HVS2.out (.inr rfl) hg5)
       have HK5 := zh (key_one A2 c2 t2 w5 hI5 ht3)
       clear T5 hI5 a2 ho5 hg5 hat5 hrun' q1 q2
       go_wp2_with fail
       refine HK5.out.mono ?_
       rintro e w6 ⟨rfl, hx6⟩
       obtain ⟨q, f, hq, hm, hf⟩ := (HV6.out.toExt hx6).map
       obtain ⟨w7, hrun7, hM7, hT7⟩ := hm.put (by omega) (keyS t2) (keyS_size t2) (k : Int) (by omega) (by omega)
       have hv := HV6.out.toExt hx6
       have HB7 := zh ((HB6.out.ext hx6).keep hT7 (fun cs T hc => absurd rfl (hm.ne hc)))
       have HV7 : Hid (Env w w7 g0 mb (k + 1) cv nv rv ss) := zh ⟨hT7.keep hv.box (Ne.symm (hm.ne hv.box)), hT7.keep hv.res (Ne.symm (hm.ne hv.res)), ⟨q + 1, _, by omega, hM7, fun j t' hj => by
        by_cases hjk : j = k
        ·subst hjk
         rw [ht2] at hj
         injection hj with hj
         subst hj
         rw [if_pos rfl, if_pos (by omega)]
        ·rw [if_neg (fun he => hjk (HF.out.inj j k t' t2 hj ht2 he)), hf j t' hj]
         by_cases hlt2 : j < k
         ·rw [if_pos hlt2, if_pos (by omega)]
         ·rw [if_neg hlt2, if_neg (by omega)]⟩, hT7.ext hv.ext (fun i hi => by have := hv.mlow; omega), hv.mlow⟩
       clear hv hm hf hM7 hT7 hx6 hq HB6 HV6
       have d0 := cell_of_row _ _ 0 _ _ _ HB7.out.blk
       simp at d0
       have ld := lt_of_heap HB7.out.blk
       have hnl : (tlF T (256 * i + b)).length ≤ 1000000 := by rw [tlF_length]; have := HF.out.most; omega
       go_wp2_with (at_builtin; refine app_intO w (by rfl) (.tmp 95) (.tmp 97) rfl (HB7.out.ext (by repeat first | exact xr _ | refine xa ?_ _ | refine xm ?_ _ _ | refine xd ?_ | refine xn ?_ _ | refine xs ?_ (by simp <;> omega) _)).nxt (k : Int) w7.heap.size rfl rfl (by simp) (by rw [cell_of_row _ _ 0 _ _ _ (heap_alloc_new w7 (.cells #[.int .i64 ((k : Int))] 3))]; rfl) hnl (by have := HV7.out.ext.size; simp <;> omega) ?_; intro v4 w4 hr4 hg4 hat4; obtain ⟨A4, l4, c4, rfl, D4, HB5, HV5⟩ := step_next (HB7.out.ext (by repeat first | exact xr _ | refine xa ?_ _ | refine xm ?_ _ _ | refine xd ?_ | refine xn ?_ _ | refine xs ?_ (by simp <;> omega) _)) (HV7.out.toExt (by repeat first | exact xr _ | refine xa ?_ _ | refine xm ?_ _ _ | refine xd ?_ | refine xn ?_ _ | refine xs ?_ (by simp <;> omega) _)) HDB.out.1 hr4 hg4 hat4; have d4 := cell_of_row _ _ 0 _ _ _ D4; simp at d4; have f4 := row_frozen D4 0; obtain ⟨W5, hW5⟩ : ∃ W5, w4.setCell ⟨db, 0, none⟩ (.slice A4 l4 c4) = W5 := ⟨_, rfl⟩; rw [hW5] at HB5 HV5; clear D4 hr4 hg4 hat4 d0 ld hnl)
       clear hW5 d4 f4
       go_roundw
       case rel => exact ⟨b + 1, k + 1, by go_num, by omega, by omega, zh ⟨⟨_, _, by rw [show tlF T (256 * i + (b + 1)) = tlF T (256 * i + b) ++ [(k : Int)] from by rw [← Nat.add_assoc, tlF_succ, HTN.out]; rfl]; exact HB5⟩, by omega, by omega, fun m j hm hj => by
        rcases Nat.lt_or_ge m (256 * i + b) with h | h
        ·have := HSEEN.out m j h hj; omega
        ·obtain rfl : m = 256 * i + b := by omega
         rw [HTN.out] at hj; injection hj with hj; omega⟩, zh HV5⟩
       case measure => simp [intOf]; omega
    ·obtain rfl : b = 256 := by omega
     have hmost := HF.out.most
     go_wp2_with fail
     go_roundw
     case rel => exact ⟨i + 1, p, by go_num, by omega, hI, hV⟩
     case measure => simp [intOf]; omega
  ·have hiN : i = ss.length := by
    rcases Nat.lt_or_ge i ss.length with h | h
    ·obtain ⟨n, hn, hT⟩ := HF.out.all i (by omega) h
     have := hseen n i hn hT
     omega
    ·omega
   have hRR : R.take i = R := List.take_of_length_le (by have := HF.out.rules; omega)
   rw [hRR] at hbd
   subst hiN
   obtain ⟨NA, nc, rfl, hNA⟩ := hbd.nxt
   obtain ⟨QA, qc, rfl, hQA⟩ := hbd.rul
   have R0 := hV.out.res
   have D0 := hbd.blk
   have T6 : ∀ v1 v2, Turn (fun k => k = g0 + 1) wr (put2 wr (g0 + 1) v1 v2) := fun v1 v2 => put2_turn (S := fun k => k = g0 + 1) rfl _ _
   have HX6 : Hid (∀ v1 v2, Ext w (put2 wr (g0 + 1) v1 v2)) := zh (fun v1 v2 => (T6 v1 v2).ext hV.out.ext (fun k hk => by have := HG0.out; omega))
   have HD6 : Hid (∀ v1 v2, DfaRd (put2 wr (g0 + 1) v1 v2) (.slice NA (tlF T (256 * ss.length)).length nc) (.slice QA R.length qc) (tlF T (256 * ss.length)) R) := zh (fun v1 v2 => by
    have h1 : OwnI (put2 wr (g0 + 1) v1 v2) w.heap.size NA nc (tlF T (256 * ss.length)) := row_keepD R0 (T6 v1 v2) hNA (by decide)
    have h2 : OwnI (put2 wr (g0 + 1) v1 v2) w.heap.size QA qc R := row_keepD R0 (T6 v1 v2) hQA (by decide)
    exact ⟨⟨NA, nc, rfl, h1.ints.1, h1.ints.2.1⟩, QA, qc, rfl, h2.ints.1, h2.ints.2.1⟩)
   obtain ⟨n1, hn1⟩ : ∃ n1, (tlF T (256 * ss.length)).length = n1 := ⟨_, rfl⟩
   obtain ⟨n2, hn2⟩ : ∃ n2, R.length = n2 := ⟨_, rfl⟩
   rw [hn1, hn2] at D0 HD6
   obtain ⟨W6, hW6⟩ : ∃ W6, put2 wr (g0 + 1) (.slice NA n1 nc) (.slice QA n2 qc) = W6 := ⟨_, rfl⟩
   have hx6 := HX6.out (.slice NA n1 nc) (.slice QA n2 qc)
   have hd6 := HD6.out (.slice NA n1 nc) (.slice QA n2 qc)
   have P6 := put2_at R0 (.slice NA n1 nc) (.slice QA n2 qc)
   rw [hW6] at hx6 hd6 P6
   have HXX := zh hx6
   have HDD := zh hd6
   have e0 := cell_of_row _ _ 0 _ _ _ P6
   have e1 := cell_of_row _ _ 1 _ _ _ P6
   have d0 := cell_of_row _ _ 0 _ _ _ D0
   have d1 := cell_of_row _ _ 1 _ _ _ D0
   have r0 := cell_of_row _ _ 0 _ _ _ R0
   have r1 := cell_of_row _ _ 1 _ _ _ R0
   have ff := fun k => row_frozen R0 k
   simp at e0 e1 d0 d1 r0 r1
   have lr := lt_of_heap R0
   have ld := lt_of_heap D0
   unfold put2 at hW6
   clear hx6 hd6 P6 R0 D0 T6 HX6 HD6 hNA hQA hbd hn1 hn2 hvi hvs hSA hseen hI
   go_wp2_with fail
   exact bodyPost_ret (v := .tuple #[.agg #[.slice NA n1 nc, .slice QA n2 qc], .int .i64 0]) (by simp [results, Tryz.results98, go_sem, *]) rfl
    ⟨_, _, rfl, HDD.out, HXX.out⟩
end Go.Proofs.YthpmncdfaggkiaaGreat
namespace Go.Proofs.YthpmncdfaggkiaaGreat
open Go.RowKit
attribute [local go_sem] more_drew more_drewN more_size more_cell more_frozen more_setCell drew_more drewN_more lt_add_r lt_add_r2 lt_add_r3 lt_add_r4 lt_add_r5 lt_add_r6 lt_add_r7 lt_add_r8 lt_add_r9 lt_add_r10 lt_self_r lt_self_r2
structure DfaOk (nl rl : List Int) : Prop where
 one : 0 < rl.length
 most : rl.length ≤ 512
 len : nl.length = 256 * rl.length
 rule : ∀ r ∈ rl, -1 ≤ r ∧ r < 16
 next : ∀ x ∈ nl, -1 ≤ x ∧ x < rl.length
set_option maxRecDepth 100000 in
set_option maxHeartbeats 4000000 in
theorem check_dfa (nv rv : Value) (nl rl : List Int) (w : World) (hN : DfaRd w nv rv nl rl) (hO : DfaOk nl rl) :
 Calls Tryz.prog 150 #[.agg #[nv, rv]] w fun e w' => e = .returned (.int .i64 0) ∧ Ext w w' := by
 obtain ⟨W, hW⟩ : ∃ W, w.alloc (.cells #[nv, rv] 94) = W := ⟨_, rfl⟩
 obtain ⟨g0, hg0⟩ : ∃ b, w.heap.size = b := ⟨_, rfl⟩
 have X1 : Ext w W := by rw [← hW]; exact (by repeat first | exact xr _ | refine xa ?_ _ | refine xm ?_ _ _ | refine xd ?_ | refine xn ?_ _ | refine xs ?_ (by simp <;> omega) _)
 have B1 : W.heap[g0]? = some (.cells #[nv, rv] 94) := by rw [← hW, ← hg0]; exact heap_alloc_new _ _
 obtain ⟨⟨A, c, hnv, hA, _⟩, B, d, hrv, hB, _⟩ := hN
 have h1 := hO.one
 have h2 := hO.most
 obtain ⟨ga, oa, rfl, lga, hac⟩ := (hA.ext X1).get (by rw [hO.len]; omega)
 obtain ⟨gr, orr, rfl, lgr, hrc⟩ := (hB.ext X1).get h1
 obtain ⟨m, hmm⟩ : ∃ m, rl.length = m := ⟨_, rfl⟩
 have b0 := cell_of_row _ _ 0 _ _ _ B1
 have b1 := cell_of_row _ _ 1 _ _ _ B1
 have lb := lt_of_heap B1
 rw [hnv, hO.len, hmm] at b0
 rw [hrv, hmm] at b1
 rw [hmm] at h1 h2
 simp at b0 b1
 have d0 : decide ((m : Int) < 1) = false := by simp; omega
 have d2 : decide (512 < (m : Int)) = false := by simp; omega
 have d5 : ((256 * m : Nat) : Int) = 256 * (m : Int) := by omega
 have HX := zh X1
 have HO := zh hO
 have HM := zh hmm
 have HE : Hid (∀ wr, Ext W wr → wr.cell? ⟨g0, 0, none⟩ = some (.slice (some ⟨ga, oa, none⟩) (256 * m) c) ∧ wr.cell? ⟨g0, 1, none⟩ = some (.slice (some ⟨gr, orr, none⟩) m d) ∧ g0 < wr.heap.size ∧ ga < wr.heap.size ∧ gr < wr.heap.size) := zh (fun wr e => ⟨ext_cell b0 lb e, ext_cell b1 lb e, Nat.lt_of_lt_of_le lb e.size, Nat.lt_of_lt_of_le lga e.size, Nat.lt_of_lt_of_le lgr e.size⟩)
 have HR : Hid (∀ wr, Ext W wr → ∀ i, i < m → ∃ r : Int, -1 ≤ r ∧ r < 16 ∧ wr.cell? ⟨gr, orr + i, none⟩ = some (.int .i64 r)) := zh (fun wr e i hi => by
  have hlt : i < rl.length := by omega
  obtain ⟨h3, h4⟩ := hO.rule rl[i] (List.getElem_mem hlt)
  exact ⟨rl[i], h3, h4, ext_cell (hrc i _ (List.getElem?_eq_getElem hlt)) lgr e⟩)
 have HT : Hid (∀ wr, Ext W wr → ∀ i, i < 256 * m → ∃ r : Int, -1 ≤ r ∧ r < m ∧ wr.cell? ⟨ga, oa + i, none⟩ = some (.int .i64 r)) := zh (fun wr e i hi => by
  have hlt : i < nl.length := by rw [hO.len]; omega
  obtain ⟨h3, h4⟩ := hO.next nl[i] (List.getElem_mem hlt)
  exact ⟨nl[i], h3, by omega, ext_cell (hac i _ (List.getElem?_eq_getElem hlt)) lga e⟩)
 clear hO hnv hrv hA hB hrc hac hmm B1 X1
 go_enter Tryz.func150, Tryz.ntmps150
 go_wp2_with fail
 clear b0 b1 lb lga lgr hW hg0
 go_loopw [4] (fun i wr => ∃ k : Nat, k ≤ m ∧ i = .int .i64 k ∧ Hid (Ext W wr)) (fun i _ => m - (intOf i).toNat)
 case atStart => exact ⟨0, Nat.zero_le _, rfl, zh (by repeat first | exact xr _ | refine xa ?_ _ | refine xm ?_ _ _ | refine xd ?_ | refine xn ?_ _ | refine xs ?_ (by simp <;> omega) _)⟩
 case round =>
  obtain ⟨k, hk, rfl, hx1⟩ := hrel
  obtain ⟨e1, e2, l0, lb, lr⟩ := HE.out _ hx1.out
  by_cases hlt : k < m
  ·obtain ⟨r, hr1, hr2, x0⟩ := HR.out _ hx1.out k hlt
   have q1 : decide (r < -1) = false := by simp; omega
   have q2 : decide (16 ≤ r) = false := by simp; omega
   go_wp2_with fail
   go_roundw
   case rel => exact ⟨k + 1, by omega, by go_num, zh (hx1.out.trans (by repeat first | exact xr _ | refine xa ?_ _ | refine xm ?_ _ _ | refine xd ?_ | refine xn ?_ _ | refine xs ?_ (by simp <;> omega) _))⟩
   case measure => simp [intOf]; omega
  ·go_wp2_with fail
   clear e1 e2 l0 lb lr
   go_loopw [5] (fun i w2 => ∃ j : Nat, j ≤ 256 * m ∧ i = .int .i64 j ∧ Hid (Ext W w2)) (fun i _ => 256 * m - (intOf i).toNat)
   case atStart => exact ⟨0, Nat.zero_le _, rfl, zh (hx1.out.trans (by repeat first | exact xr _ | refine xa ?_ _ | refine xm ?_ _ _ | refine xd ?_ | refine xn ?_ _ | refine xs ?_ (by simp <;> omega) _))⟩
   case round =>
    obtain ⟨j, hj, rfl, hx3⟩ := hrel
    obtain ⟨e1, e2, l0, lb, lr⟩ := HE.out _ hx3.out
    by_cases hlj : j < 256 * m
    ·obtain ⟨r, hr1, hr2, x0⟩ := HT.out _ hx3.out j hlj
     have q1 : decide (r < -1) = false := by simp; omega
     have q2 : decide ((m : Int) ≤ r) = false := by simp; omega
     go_wp2_with fail
     go_roundw
     case rel => exact ⟨j + 1, by omega, by go_num, zh (hx3.out.trans (by repeat first | exact xr _ | refine xa ?_ _ | refine xm ?_ _ _ | refine xd ?_ | refine xn ?_ _ | refine xs ?_ (by simp <;> omega) _))⟩
     case measure => simp [intOf]; omega
    ·go_wp2_with fail
     go_ret
     exact ⟨rfl, HX.out.trans hx3.out⟩
def byteA (s : ByteArray) (i : Nat) : Nat := (s[i]?.getD 0).toNat
def mun (nl rl : List Int) (s : ByteArray) : Nat → Nat → Nat → Int → Int → Int × Int × Int
 | 0, i, _, r, t => (r, t, (i : Int) + 1)
 | f + 1, i, st, r, t =>
  if i = s.size then (r, t, (i : Int) + 1)
  else if nl.getD (256 * st + byteA s i) 0 < 0 then (r, t, (i : Int) + 1)
  else if 0 ≤ rl.getD (nl.getD (256 * st + byteA s i) 0).toNat 0 then mun nl rl s f (i + 1) (nl.getD (256 * st + byteA s i) 0).toNat (rl.getD (nl.getD (256 * st + byteA s i) 0).toNat 0) ((i : Int) + 1)
  else mun nl rl s f (i + 1) (nl.getD (256 * st + byteA s i) 0).toNat r t
def munch (nl rl : List Int) (s : ByteArray) (p : Nat) : Int × Int × Int := mun nl rl s (s.size + 1 - p) p 0 (-1) ((p : Int) + 1)
set_option maxRecDepth 100000 in
set_option maxHeartbeats 4000000 in
theorem next_end (nv rv : Value) (nl rl : List Int) (s : ByteArray) (w : World) (hN : DfaRd w nv rv nl rl) (hO : DfaOk nl rl) :
 Calls Tryz.prog 163 #[.agg #[nv, rv], .string s, .int .i64 s.size] w fun e w' => e = .returned (.tuple #[.agg #[.int .i64 0, .int .i64 0, .int .i64 0, .int .i64 0], .bool false]) ∧ Ext w w' := by
 obtain ⟨g0, hg0⟩ : ∃ b, w.heap.size = b := ⟨_, rfl⟩
 obtain ⟨W, hW⟩ : ∃ W, (w.alloc (.cells #[nv, rv] 94)).alloc (.cells #[.int .i64 0, .int .i64 0, .int .i64 0, .int .i64 0] 216) = W := ⟨_, rfl⟩
 have X1 : Ext w W := by rw [← hW]; exact (by repeat first | exact xr _ | refine xa ?_ _ | refine xm ?_ _ _ | refine xd ?_ | refine xn ?_ _ | refine xs ?_ (by simp <;> omega) _)
 have B1 : W.heap[g0]? = some (.cells #[nv, rv] 94) := by rw [← hW, ← hg0]; exact (by simp only [heap_alloc_get, World.size_alloc]; (repeat (split; (first | rfl | (exfalso; omega)))); (try (first | (exfalso; omega) | simp_all)))
 have R1 : W.heap[g0 + 1]? = some (.cells #[.int .i64 0, .int .i64 0, .int .i64 0, .int .i64 0] 216) := by rw [← hW, ← hg0]; exact (by simp only [heap_alloc_get, World.size_alloc]; (repeat (split; (first | rfl | (exfalso; omega)))); (try (first | (exfalso; omega) | simp_all)))
 have b0 := cell_of_row _ _ 0 _ _ _ B1
 have b1 := cell_of_row _ _ 1 _ _ _ B1
 have lb := lt_of_heap B1
 simp at b0 b1
 have HCK := zh (check_dfa nv rv nl rl W (hN.ext X1) hO)
 have HX := zh X1
 have HR1 := zh R1
 have HG0 := zh hg0
 clear hN hO X1 B1 R1
 go_enter Tryz.func163, Tryz.ntmps163
 go_wp2_with fail
 try simp only [hg0]
 refine HCK.out.mono ?_
 rintro e W2 ⟨rfl, hx2⟩
 have R2 := ext_block HR1.out hx2
 have r0 := cell_of_row _ _ 0 _ _ _ R2
 have r1 := cell_of_row _ _ 1 _ _ _ R2
 have r2 := cell_of_row _ _ 2 _ _ _ R2
 have r3 := cell_of_row _ _ 3 _ _ _ R2
 have ff := fun k => row_frozen R2 k
 have P := put4_at R2 (.int .i64 0) (.int .i64 0) (.int .i64 0) (.int .i64 0)
 obtain ⟨W3, hW3⟩ : ∃ W3, put4 W2 (g0 + 1) (.int .i64 0) (.int .i64 0) (.int .i64 0) (.int .i64 0) = W3 := ⟨_, rfl⟩
 have HX3 : Hid (Ext w W3) := zh (by rw [← hW3]; exact (put4_turn (S := fun k => k = g0 + 1) rfl _ _ _ _).ext (HX.out.trans hx2) (fun k hk => by have := HG0.out; omega))
 rw [hW3] at P
 have e0 := cell_of_row _ _ 0 _ _ _ P
 have e1 := cell_of_row _ _ 1 _ _ _ P
 have e2 := cell_of_row _ _ 2 _ _ _ P
 have e3 := cell_of_row _ _ 3 _ _ _ P
 simp at r0 r1 r2 r3 e0 e1 e2 e3
 unfold put4 put3 put2 at hW3
 clear b0 b1 lb R2 P hx2 hW hg0 HCK
 go_wp2_with fail
 exact bodyPost_ret (v := .tuple #[.agg #[.int .i64 0, .int .i64 0, .int .i64 0, .int .i64 0], .bool false]) (by simp [results, Tryz.results163, go_sem, *]) rfl ⟨rfl, HX3.out⟩
def LexRet (w : World) (p : Nat) (q : Int × Int × Int) (e : Ending) (w' : World) : Prop := e = .returned (.tuple #[.agg #[.int .i64 q.1, .int .i64 p, .int .i64 q.2.1, .int .i64 q.2.2], .bool true]) ∧ Ext w w'
theorem put_two {w : World} {b : Nat} {T : TypeId} {a0 a1 a2 a3 : Value} (h : w.heap[b]? = some (.cells #[a0, a1, a2, a3] T)) (v0 v2 : Value) : ((w.setCell ⟨b, 0, none⟩ v0).setCell ⟨b, 2, none⟩ v2).heap[b]? = some (.cells #[v0, a1, v2, a3] T) := setCell_row (setCell_row h _) _
theorem mun_step (nl rl : List Int) (s : ByteArray) (i st : Nat) (r t : Int) (hi : i < s.size) {x : Int} (hx : nl.getD (256 * st + byteA s i) 0 = x) : mun nl rl s (s.size + 1 - i) i st r t = if x < 0 then (r, t, (i : Int) + 1) else if 0 ≤ rl.getD x.toNat 0 then mun nl rl s (s.size + 1 - (i + 1)) (i + 1) x.toNat (rl.getD x.toNat 0) ((i : Int) + 1) else mun nl rl s (s.size + 1 - (i + 1)) (i + 1) x.toNat r t := by
 obtain ⟨f, hf⟩ : ∃ f, s.size + 1 - i = f + 1 := ⟨s.size - i, by omega⟩
 have hf2 : s.size + 1 - (i + 1) = f := by omega
 rw [hf, hf2]
 show (if i = s.size then _ else _) = _
 rw [if_neg (by omega), hx]
theorem mun_end (nl rl : List Int) (s : ByteArray) (st : Nat) (r t : Int) : mun nl rl s (s.size + 1 - s.size) s.size st r t = (r, t, (s.size : Int) + 1) := by
 have : s.size + 1 - s.size = 0 + 1 := by omega
 rw [this]
 show (if s.size = s.size then _ else _) = _
 rw [if_pos rfl]
set_option maxRecDepth 100000 in
set_option maxHeartbeats 4000000 in
theorem next_at (nv rv : Value) (nl rl : List Int) (s : ByteArray) (p : Nat) (w : World) (hN : DfaRd w nv rv nl rl) (hO : DfaOk nl rl) (hp : p < s.size) (hs : s.size ≤ 1000000) :
 Calls Tryz.prog 163 #[.agg #[nv, rv], .string s, .int .i64 p] w (LexRet w p (munch nl rl s p)) := by
 obtain ⟨g0, hg0⟩ : ∃ b, w.heap.size = b := ⟨_, rfl⟩
 obtain ⟨W, hW⟩ : ∃ W, (w.alloc (.cells #[nv, rv] 94)).alloc (.cells #[.int .i64 0, .int .i64 0, .int .i64 0, .int .i64 0] 216) = W := ⟨_, rfl⟩
 have X1 : Ext w W := by rw [← hW]; exact (by repeat first | exact xr _ | refine xa ?_ _ | refine xm ?_ _ _ | refine xd ?_ | refine xn ?_ _ | refine xs ?_ (by simp <;> omega) _)
 have B1 : W.heap[g0]? = some (.cells #[nv, rv] 94) := by rw [← hW, ← hg0]; exact (by simp only [heap_alloc_get, World.size_alloc]; (repeat (split; (first | rfl | (exfalso; omega)))); (try (first | (exfalso; omega) | simp_all)))
 have R1 : W.heap[g0 + 1]? = some (.cells #[.int .i64 0, .int .i64 0, .int .i64 0, .int .i64 0] 216) := by rw [← hW, ← hg0]; exact (by simp only [heap_alloc_get, World.size_alloc]; (repeat (split; (first | rfl | (exfalso; omega)))); (try (first | (exfalso; omega) | simp_all)))
 obtain ⟨⟨A, c, hnv, hA, _⟩, B, d, hrv, hB, _⟩ := id hN
 have b0 := cell_of_row _ _ 0 _ _ _ B1
 have b1 := cell_of_row _ _ 1 _ _ _ B1
 have lb := lt_of_heap B1
 simp at b0 b1
 obtain ⟨m, hmm⟩ : ∃ m, rl.length = m := ⟨_, rfl⟩
 have hmost := hO.most
 have hone := hO.one
 obtain ⟨ga, oa, rfl, lga, hac⟩ := (hA.ext X1) (by rw [hO.len]; omega)
 obtain ⟨gr, orr, rfl, lgr, hrc⟩ := (hB.ext X1) hone
 have HE : Hid (∀ wr, Ext W wr → wr.cell? ⟨g0, 0, none⟩ = some (.slice (some ⟨ga, oa, none⟩) (256 * m) c) ∧ wr.cell? ⟨g0, 1, none⟩ = some (.slice (some ⟨gr, orr, none⟩) m d) ∧ g0 < wr.heap.size ∧ ga < wr.heap.size ∧ gr < wr.heap.size) := zh (fun wr e => ⟨by rw [← hmm, ← hO.len, ← hnv]; exact ext_cell b0 lb e, by rw [← hmm, ← hrv]; exact ext_cell b1 lb e, Nat.lt_of_lt_of_le lb e.size, Nat.lt_of_lt_of_le lga e.size, Nat.lt_of_lt_of_le lgr e.size⟩)
 have HT : Hid (∀ wr, Ext W wr → ∀ i, i < 256 * m → -1 ≤ nl.getD i 0 ∧ nl.getD i 0 < m ∧ wr.cell? ⟨ga, oa + i, none⟩ = some (.int .i64 (nl.getD i 0))) := zh (fun wr e i hi => by
  have hlt : i < nl.length := by rw [hO.len]; omega
  have h3 := hO.next (nl.getD i 0) (by rw [List.getD_eq_getElem?_getD, List.getElem?_eq_getElem hlt]; exact List.getElem_mem hlt)
  exact ⟨h3.1, by omega, ext_cell (hac i hlt) lga e⟩)
 have HR : Hid (∀ wr, Ext W wr → ∀ i, i < m → wr.cell? ⟨gr, orr + i, none⟩ = some (.int .i64 (rl.getD i 0))) := zh (fun wr e i hi => ext_cell (hrc i (by omega)) lgr e)
 have HCK := zh (check_dfa nv rv nl rl W (hN.ext X1) hO)
 have HX := zh X1
 have HR1 := zh R1
 have HG0 := zh hg0
 have q0 : decide ((p : Int) < 0) = false := by simp
 have q1 : decide ((s.size : Int) ≤ p) = false := by simp; omega
 have q2 : decide (s.size ≤ p) = false := by simp; omega
 rw [hmm] at hmost hone
 clear hN hO X1 B1 R1 hnv hrv hA hB hac hrc hmm
 go_enter Tryz.func163, Tryz.ntmps163
 go_wp2_with fail
 try simp only [hg0]
 refine HCK.out.mono ?_
 rintro e W2 ⟨rfl, hx2⟩
 have HX2 := zh hx2
 obtain ⟨xb, hxb⟩ : ∃ xb, W2.heap.size = xb := ⟨_, rfl⟩
 obtain ⟨W3, hW3⟩ : ∃ W3, W2.alloc (.cells #[.int .i64 0, .int .i64 0, .int .i64 0, .int .i64 0] 216) = W3 := ⟨_, rfl⟩
 have D3 : W3.heap[xb]? = some (.cells #[.int .i64 0, .int .i64 0, .int .i64 0, .int .i64 0] 216) := by rw [← hW3, ← hxb]; exact heap_alloc_new _ _
 have X3 : Ext W W3 := by rw [← hW3]; exact hx2.trans (by repeat first | exact xr _ | refine xa ?_ _ | refine xm ?_ _ _ | refine xd ?_ | refine xn ?_ _ | refine xs ?_ (by simp <;> omega) _)
 have HXB : Hid (W.heap.size ≤ xb) := zh (by rw [← hxb]; exact hx2.size)
 obtain ⟨W4, hW4⟩ : ∃ W4, put4 W3 xb (.int .i64 (-1)) (.int .i64 p) (.int .i64 ((p : Int) + 1)) (.int .i64 0) = W4 := ⟨_, rfl⟩
 have HD4 : Hid (W4.heap[xb]? = some (.cells #[.int .i64 (-1), .int .i64 p, .int .i64 ((p : Int) + 1), .int .i64 0] 216)) := zh (by rw [← hW4]; exact put4_at D3 _ _ _ _)
 have HX4 : Hid (Ext W W4) := zh (by rw [← hW4]; exact (put4_turn (S := fun k => k = xb) rfl _ _ _ _).ext X3 (fun k hk => by have := HXB.out; omega))
 have r0 := cell_of_row _ _ 0 _ _ _ D3
 have r1 := cell_of_row _ _ 1 _ _ _ D3
 have r2 := cell_of_row _ _ 2 _ _ _ D3
 have r3 := cell_of_row _ _ 3 _ _ _ D3
 have ff := fun k => row_frozen D3 k
 simp at r0 r1 r2 r3
 unfold put4 put3 put2 at hW4
 clear b0 b1 lb lga lgr hx2 hW hg0 HCK D3 X3
 go_wp2_with fail
 clear r0 r1 r2 r3 ff hW4 hW3 hxb
 go_loopw [9, 10] (fun sv iv wr => ∃ (i st : Nat) (r t x : Int), sv = .int .i64 st ∧ iv = .int .i64 i ∧ i ≤ s.size ∧ st < m ∧ Hid (mun nl rl s (s.size + 1 - i) i st r t = munch nl rl s p) ∧ Hid (wr.heap[xb]? = some (.cells #[.int .i64 r, .int .i64 p, .int .i64 t, .int .i64 x] 216)) ∧ Hid (Ext W wr)) (fun _ i _ => s.size - (intOf i).toNat)
 case atStart => exact ⟨p, 0, -1, (p : Int) + 1, 0, rfl, rfl, by omega, by omega, zh rfl, HD4, HX4⟩
 case round =>
  obtain ⟨i, st, r, t, x, rfl, rfl, hi, hst, hm, hd, hx1⟩ := hrel
  clear HD4 HX4
  have c0 := cell_of_row _ _ 0 _ _ _ hd.out
  have c1 := cell_of_row _ _ 1 _ _ _ hd.out
  have c2 := cell_of_row _ _ 2 _ _ _ hd.out
  have c3 := cell_of_row _ _ 3 _ _ _ hd.out
  have fc := fun k => row_frozen hd.out k
  have lc := lt_of_heap hd.out
  simp at c0 c1 c2 c3
  have D5 := setCell_row (k := 3) hd.out (.int .i64 ((i : Int) + 1))
  have X5 := hx1.out.setCell (p := ⟨xb, 3, none⟩) HXB.out (.int .i64 ((i : Int) + 1))
  obtain ⟨W5, hW5⟩ : ∃ W5, wr.setCell ⟨xb, 3, none⟩ (.int .i64 ((i : Int) + 1)) = W5 := ⟨_, rfl⟩
  rw [hW5] at D5 X5
  have HD5 : Hid (W5.heap[xb]? = some (.cells #[.int .i64 r, .int .i64 p, .int .i64 t, .int .i64 ((i : Int) + 1)] 216)) := zh D5
  have HX5 := zh X5
  clear D5 X5 hd hx1
  rcases Nat.lt_or_ge i s.size with hlt | hge
  ·have k1 : ((i : Int) == s.size) = false := by simp; omega
   have k2 : decide (i = s.size) = false := by simp; omega
   obtain ⟨x8, hx8⟩ : ∃ x8, s[i]? = some x8 := ⟨_, by rw [ByteArray.getElem?_lt' s i hlt]⟩
   have hidx := fun w => idx_eq hx8 (i : Int) rfl w
   have hb8 := x8.toNat_lt
   have hba : byteA s i = x8.toNat := by unfold byteA; rw [hx8]; rfl
   obtain ⟨b, hb⟩ : ∃ b, x8.toNat = b := ⟨_, rfl⟩
   rw [hb] at hb8 hba
   simp only [hb] at hidx
   have HW5 := zh hW5
   go_upto_region 10 with fail
   clear hW5 c0 c1 c2 c3 fc lc
   obtain ⟨e0, e1, l0, l1, l2⟩ := HE.out _ HX5.out
   obtain ⟨t1, t2, tc⟩ := HT.out _ HX5.out (256 * st + b) (by omega)
   obtain ⟨y, hy⟩ : ∃ y, nl.getD (256 * st + b) 0 = y := ⟨_, rfl⟩
   rw [hy] at t1 t2 tc
   have HS := zh (mun_step nl rl s i st r t hlt (x := y) (by rw [hba]; exact hy))
   clear hy hba hx8 hb
   refine wp_region_bt (12) (pures_bt [0, 2, 3, 4, 5, 6] (softs_bt [1, 7, 8, 9, 10, 11] .fin)) (by kernel_rfl) (by kernel_rfl) ?_
   refine bt_pures _ fun K hK => ?_; simp only [pick, nthC]; (repeat go_big_quiet_step (fail)); refine wpQuiet_nil (hK _ ?_); clear hK K
   refine bt_softs _ fun K hK => ?_; simp only [pick, nthC]; (repeat go_big_quiet_step (fail)); refine wpQuiet_nil (hK _ ?_); clear hK K
   (refine bt_fin ?_)
   obtain ⟨V5, hV5⟩ : ∃ V, W5.drew = V := ⟨_, rfl⟩
   have XV : Ext W5 V5 := by rw [← hV5]; exact (by repeat first | exact xr _ | refine xa ?_ _ | refine xm ?_ _ _ | refine xd ?_ | refine xn ?_ _ | refine xs ?_ (by simp <;> omega) _)
   have HD6 := zh (ext_block HD5.out XV)
   have HX7 := zh (HX5.out.trans XV)
   simp only [hV5]
   clear hV5 XV e0 e1 l0 l1 l2 tc HD5 HX5 HW5
   by_cases h0 : y < 0
   ·have h1 : decide (y < 0) = true := by simp [h0]
    have R6 := ext_block HR1.out HX7.out
    have P6 := put4_at R6 (.int .i64 r) (.int .i64 p) (.int .i64 t) (.int .i64 ((i : Int) + 1))
    have HX6 : Hid (∀ a b c d, Ext w (put4 V5 (g0 + 1) a b c d)) := zh (fun a b c d => (put4_turn (S := fun k => k = g0 + 1) rfl _ _ _ _).ext (HX.out.trans HX7.out) (fun k hk => by have := HG0.out; omega))
    have hx6 := HX6.out (.int .i64 r) (.int .i64 p) (.int .i64 t) (.int .i64 ((i : Int) + 1))
    obtain ⟨W6, hW6⟩ : ∃ W6, put4 V5 (g0 + 1) (.int .i64 r) (.int .i64 p) (.int .i64 t) (.int .i64 ((i : Int) + 1)) = W6 := ⟨_, rfl⟩
    rw [hW6] at P6 hx6
    have HXX := zh hx6
    have a0 := cell_of_row _ _ 0 _ _ _ HD6.out
    have a1 := cell_of_row _ _ 1 _ _ _ HD6.out
    have a2 := cell_of_row _ _ 2 _ _ _ HD6.out
    have a3 := cell_of_row _ _ 3 _ _ _ HD6.out
    have la := lt_of_heap HD6.out
    have r0 := cell_of_row _ _ 0 _ _ _ R6
    have r1 := cell_of_row _ _ 1 _ _ _ R6
    have r2 := cell_of_row _ _ 2 _ _ _ R6
    have r3 := cell_of_row _ _ 3 _ _ _ R6
    have ff := fun k => row_frozen R6 k
    have lr := lt_of_heap R6
    have e0 := cell_of_row _ _ 0 _ _ _ P6
    have e1 := cell_of_row _ _ 1 _ _ _ P6
    have e2 := cell_of_row _ _ 2 _ _ _ P6
    have e3 := cell_of_row _ _ 3 _ _ _ P6
    simp at a0 a1 a2 a3 r0 r1 r2 r3 e0 e1 e2 e3
    unfold put4 put3 put2 at hW6
    clear R6 P6 hx6
    go_wp2_with fail
    exact bodyPost_ret (v := .tuple #[.agg #[.int .i64 r, .int .i64 p, .int .i64 t, .int .i64 ((i : Int) + 1)], .bool true]) (by simp [results, Tryz.results163, go_sem, *]) rfl ⟨by rw [← hm.out, HS.out, if_pos h0], HXX.out⟩
   ·obtain ⟨y', rfl⟩ : ∃ y' : Nat, y = (y' : Int) := ⟨y.toNat, by omega⟩
    have HS' := HS.out
    rw [if_neg h0, Int.toNat_natCast] at HS'
    have hym : y' < m := by omega
    obtain ⟨e0, e1, l0, l1, l2⟩ := HE.out _ HX7.out
    have rc := HR.out _ HX7.out y' hym
    obtain ⟨rr, hrr⟩ : ∃ rr, rl.getD y' 0 = rr := ⟨_, rfl⟩
    rw [hrr] at rc HS'
    have HSS := zh HS'
    clear HS HS' hrr h0
    by_cases h2 : 0 ≤ rr
    ·have D7 := put_two HD6.out (.int .i64 rr) (.int .i64 ((i : Int) + 1))
     have X7 : Ext W ((V5.setCell ⟨xb, 0, none⟩ (.int .i64 rr)).setCell ⟨xb, 2, none⟩ (.int .i64 ((i : Int) + 1))) := (HX7.out.setCell (p := ⟨xb, 0, none⟩) HXB.out _).setCell (p := ⟨xb, 2, none⟩) HXB.out _
     have c0 := cell_of_row _ _ 0 _ _ _ HD6.out
     have c2 := cell_of_row _ _ 2 _ _ _ HD6.out
     have fc := fun k => row_frozen HD6.out k
     have lc := lt_of_heap HD6.out
     simp at c0 c2
     obtain ⟨W7, hW7⟩ : ∃ W7, (V5.setCell ⟨xb, 0, none⟩ (.int .i64 rr)).setCell ⟨xb, 2, none⟩ (.int .i64 ((i : Int) + 1)) = W7 := ⟨_, rfl⟩
     rw [hW7] at D7 X7
     have HD7 := zh D7
     have HX8 := zh X7
     clear D7 X7
     go_wp2_with fail
     clear hW7 c0 c2 fc lc
     go_roundw
     case rel => exact ⟨i + 1, y', rr, (i : Int) + 1, (i : Int) + 1, by go_num, by go_num, by omega, hym, zh (by rw [← hm.out, HSS.out, if_pos h2]), HD7, HX8⟩
     case measure => simp [intOf]; omega
    ·go_wp2_with fail
     go_roundw
     case rel => exact ⟨i + 1, y', r, t, (i : Int) + 1, by go_num, by go_num, by omega, hym, zh (by rw [← hm.out, HSS.out, if_neg h2]), HD6, HX7⟩
     case measure => simp [intOf]; omega
  ·obtain rfl : i = s.size := by omega
   have R6 := ext_block HR1.out HX5.out
   have P6 := put4_at R6 (.int .i64 r) (.int .i64 p) (.int .i64 t) (.int .i64 ((s.size : Int) + 1))
   have HX6 : Hid (∀ a b c d, Ext w (put4 W5 (g0 + 1) a b c d)) := zh (fun a b c d => (put4_turn (S := fun k => k = g0 + 1) rfl _ _ _ _).ext (HX.out.trans HX5.out) (fun k hk => by have := HG0.out; omega))
   have hx6 := HX6.out (.int .i64 r) (.int .i64 p) (.int .i64 t) (.int .i64 ((s.size : Int) + 1))
   obtain ⟨W6, hW6⟩ : ∃ W6, put4 W5 (g0 + 1) (.int .i64 r) (.int .i64 p) (.int .i64 t) (.int .i64 ((s.size : Int) + 1)) = W6 := ⟨_, rfl⟩
   rw [hW6] at P6 hx6
   have HXX := zh hx6
   have a0 := cell_of_row _ _ 0 _ _ _ HD5.out
   have a1 := cell_of_row _ _ 1 _ _ _ HD5.out
   have a2 := cell_of_row _ _ 2 _ _ _ HD5.out
   have a3 := cell_of_row _ _ 3 _ _ _ HD5.out
   have la := lt_of_heap HD5.out
   have r0 := cell_of_row _ _ 0 _ _ _ R6
   have r1 := cell_of_row _ _ 1 _ _ _ R6
   have r2 := cell_of_row _ _ 2 _ _ _ R6
   have r3 := cell_of_row _ _ 3 _ _ _ R6
   have ff := fun k => row_frozen R6 k
   have lr := lt_of_heap R6
   have e0 := cell_of_row _ _ 0 _ _ _ P6
   have e1 := cell_of_row _ _ 1 _ _ _ P6
   have e2 := cell_of_row _ _ 2 _ _ _ P6
   have e3 := cell_of_row _ _ 3 _ _ _ P6
   simp at a0 a1 a2 a3 r0 r1 r2 r3 e0 e1 e2 e3
   unfold put4 put3 put2 at hW6
   clear R6 P6 hx6
   go_wp2_with fail
   exact bodyPost_ret (v := .tuple #[.agg #[.int .i64 r, .int .i64 p, .int .i64 t, .int .i64 ((s.size : Int) + 1)], .bool true]) (by simp [results, Tryz.results163, go_sem, *]) rfl ⟨by rw [← hm.out, mun_end], HXX.out⟩
def lexV (nv rv kv : Value) (kinds : Int) : Value := .agg #[nv, rv, kv, .int .i64 kinds]
def LexRd (w : World) (nv rv kv : Value) (nl rl kl : List Int) : Prop := DfaRd w nv rv nl rl ∧ ∃ K c, kv = .slice K kl.length c ∧ Ints w K kl
theorem LexRd.ext {w w' : World} {nv rv kv : Value} {nl rl kl : List Int} (h : LexRd w nv rv kv nl rl kl) (e : Ext w w') : LexRd w' nv rv kv nl rl kl := by
 obtain ⟨h1, K, c, h2, h3⟩ := h
 exact ⟨h1.ext e, K, c, h2, h3.ext e⟩
structure LexOk (nl rl kl : List Int) (kinds : Int) : Prop where
 dfa : DfaOk nl rl
 few : 0 ≤ kinds ∧ kinds ≤ 16
 kind : ∀ k ∈ kl, -1 ≤ k ∧ k < kinds
 rule : ∀ r ∈ rl, r < kl.length
 short : kl.length ≤ 100000
set_option maxRecDepth 100000 in
set_option maxHeartbeats 4000000 in
theorem check_lex (nv rv kv : Value) (nl rl kl : List Int) (kinds : Int) (w : World) (hN : LexRd w nv rv kv nl rl kl) (hO : LexOk nl rl kl kinds) :
 Calls Tryz.prog 112 #[lexV nv rv kv kinds] w fun e w' => e = .returned (.int .i64 0) ∧ Ext w w' := by
 obtain ⟨W, hW⟩ : ∃ W, w.alloc (.cells #[nv, rv, kv, .int .i64 kinds] 96) = W := ⟨_, rfl⟩
 obtain ⟨g0, hg0⟩ : ∃ b, w.heap.size = b := ⟨_, rfl⟩
 have X1 : Ext w W := by rw [← hW]; exact (by repeat first | exact xr _ | refine xa ?_ _ | refine xm ?_ _ _ | refine xd ?_ | refine xn ?_ _ | refine xs ?_ (by simp <;> omega) _)
 have B1 : W.heap[g0]? = some (.cells #[nv, rv, kv, .int .i64 kinds] 96) := by rw [← hW, ← hg0]; exact heap_alloc_new _ _
 obtain ⟨hD, K, kc, hkv, hK⟩ := hN
 obtain ⟨⟨A, c, hnv, hA, _⟩, B, d, hrv, hB, _⟩ := id hD
 have b0 := cell_of_row _ _ 0 _ _ _ B1
 have b1 := cell_of_row _ _ 1 _ _ _ B1
 have b2 := cell_of_row _ _ 2 _ _ _ B1
 have b3 := cell_of_row _ _ 3 _ _ _ B1
 have lb := lt_of_heap B1
 simp at b0 b1 b2 b3
 obtain ⟨m, hmm⟩ : ∃ m, rl.length = m := ⟨_, rfl⟩
 obtain ⟨kn, hkn⟩ : ∃ kn, kl.length = kn := ⟨_, rfl⟩
 have h2 := hO.dfa.most
 have hks := hO.short
 obtain ⟨hk1, hk2⟩ := hO.few
 have d0 : decide (kinds < 0) = false := by simp; omega
 have d1 : decide (16 < kinds) = false := by simp; omega
 have HE : Hid (∀ wr, Ext W wr → wr.cell? ⟨g0, 1, none⟩ = some (.slice B m d) ∧ wr.cell? ⟨g0, 2, none⟩ = some (.slice K kn kc) ∧ wr.cell? ⟨g0, 3, none⟩ = some (.int .i64 kinds) ∧ g0 < wr.heap.size) := zh (fun wr e => ⟨by rw [← hmm, ← hrv]; exact ext_cell b1 lb e, by rw [← hkn, ← hkv]; exact ext_cell b2 lb e, ext_cell b3 lb e, Nat.lt_of_lt_of_le lb e.size⟩)
 have HCK := zh (check_dfa nv rv nl rl W (hD.ext X1) hO.dfa)
 have HX := zh X1
 have HO := zh hO
 have HM := zh hmm
 have HKN := zh hkn
 have HB := zh (hB.ext X1)
 have HK := zh (hK.ext X1)
 rw [hkn] at hks
 rw [hmm] at h2
 clear hD hO hnv hrv hkv hA hB hK hmm hkn B1 X1 b2
 unfold lexV
 go_enter Tryz.func112, Tryz.ntmps112
 go_wp2_with fail
 try simp only [hW]
 refine HCK.out.mono ?_
 rintro e W2 ⟨rfl, hx2⟩
 obtain ⟨e1, e2, e3, l0⟩ := HE.out _ hx2
 have HX2 := zh hx2
 clear hx2 b0 b1 b3 lb hW hg0
 go_wp2_with fail
 clear e1 e2 e3 l0
 go_loopw [3] (fun i wr => ∃ k : Nat, k ≤ kn ∧ i = .int .i64 k ∧ Hid (Ext W wr)) (fun i _ => kn - (intOf i).toNat)
 case atStart => exact ⟨0, Nat.zero_le _, rfl, zh (HX2.out.trans (by repeat first | exact xr _ | refine xa ?_ _ | refine xm ?_ _ _ | refine xd ?_ | refine xn ?_ _ | refine xs ?_ (by simp <;> omega) _))⟩
 case round =>
  obtain ⟨k, hk, rfl, hx1⟩ := hrel
  obtain ⟨e1, e2, e3, l0⟩ := HE.out _ hx1.out
  by_cases hlt : k < kn
  ·obtain ⟨gk, ok, rfl, lk, hkc⟩ := (HK.out.ext hx1.out) (by have := HKN.out; omega)
   have hkl : k < kl.length := by have := HKN.out; omega
   have x0 := hkc k hkl
   obtain ⟨x, hx⟩ : ∃ x, kl.getD k 0 = x := ⟨_, rfl⟩
   rw [hx] at x0
   have hxm := HO.out.kind x (by rw [← hx, List.getD_eq_getElem?_getD, List.getElem?_eq_getElem hkl]; exact List.getElem_mem hkl)
   have q1 : decide (x < -1) = false := by simp; omega
   have q2 : decide (kinds ≤ x) = false := by simp; omega
   clear hkc hx
   go_upto_region 6 with fail
   refine wp_region_bt (16) (pures_bt [0, 2] (softs_bt [1, 3, 4, 5, 6, 7, 8, 9, 10, 11, 12, 13, 14, 15] .fin)) (by kernel_rfl) (by kernel_rfl) ?_
   refine bt_pures _ fun K hK => ?_; simp only [pick, nthC]; (repeat go_big_quiet_step (fail)); refine wpQuiet_nil (hK _ ?_); clear hK K
   refine bt_softs _ fun K hK => ?_; simp only [pick, nthC]; (repeat go_big_quiet_step (fail)); refine wpQuiet_nil (hK _ ?_); clear hK K
   (refine bt_fin ?_)
   go_wp2_with fail
   go_roundw
   case rel => exact ⟨k + 1, by omega, by go_num, zh (hx1.out.trans (by repeat first | exact xr _ | refine xa ?_ _ | refine xm ?_ _ _ | refine xd ?_ | refine xn ?_ _ | refine xs ?_ (by simp <;> omega) _))⟩
   case measure => simp [intOf]; omega
  ·obtain rfl : k = kn := by omega
   go_wp2_with fail
   clear e1 e2 e3 l0
   go_loopw [4] (fun i w2 => ∃ j : Nat, j ≤ m ∧ i = .int .i64 j ∧ Hid (Ext W w2)) (fun i _ => m - (intOf i).toNat)
   case atStart => exact ⟨0, Nat.zero_le _, rfl, zh (hx1.out.trans (by repeat first | exact xr _ | refine xa ?_ _ | refine xm ?_ _ _ | refine xd ?_ | refine xn ?_ _ | refine xs ?_ (by simp <;> omega) _))⟩
   case round =>
    obtain ⟨j, hj, rfl, hx3⟩ := hrel
    obtain ⟨e1, e2, e3, l0⟩ := HE.out _ hx3.out
    by_cases hlj : j < m
    ·obtain ⟨gr, orr, rfl, lr, hrc⟩ := (HB.out.ext hx3.out) (by have := HM.out; omega)
     have hjl : j < rl.length := by have := HM.out; omega
     have x0 := hrc j hjl
     obtain ⟨x, hx⟩ : ∃ x, rl.getD j 0 = x := ⟨_, rfl⟩
     rw [hx] at x0
     have hxm := HO.out.rule x (by rw [← hx, List.getD_eq_getElem?_getD, List.getElem?_eq_getElem hjl]; exact List.getElem_mem hjl)
     have hxk : x < (k : Int) := by have := HKN.out; omega
     have q1 : decide ((k : Int) ≤ x) = false := by simp; omega
     clear hrc hx hxm
     go_upto_region 11 with fail
     refine wp_region_bt (10) (pures_bt [0, 1, 3, 6] (softs_bt [2, 4, 5, 7, 8, 9] .fin)) (by kernel_rfl) (by kernel_rfl) ?_
     refine bt_pures _ fun K hK => ?_; simp only [pick, nthC]; (repeat go_big_quiet_step (fail)); refine wpQuiet_nil (hK _ ?_); clear hK K
     refine bt_softs _ fun K hK => ?_; simp only [pick, nthC]; (repeat go_big_quiet_step (fail)); refine wpQuiet_nil (hK _ ?_); clear hK K
     (refine bt_fin ?_)
     go_wp2_with fail
     go_roundw
     case rel => exact ⟨j + 1, by omega, by go_num, zh (hx3.out.trans (by repeat first | exact xr _ | refine xa ?_ _ | refine xm ?_ _ _ | refine xd ?_ | refine xn ?_ _ | refine xs ?_ (by simp <;> omega) _))⟩
     case measure => simp [intOf]; omega
    ·go_wp2_with fail
     go_ret
     exact ⟨rfl, HX.out.trans hx3.out⟩
end Go.Proofs.YthpmncdfaggkiaaGreat
namespace Go.Proofs.YthpmncdfaggkiaaGreat
open Go.RowKit
def MunOk (n kn : Nat) (p : Nat) (q : Int × Int × Int) : Prop := -1 ≤ q.1 ∧ q.1 < kn ∧ (p : Int) + 1 ≤ q.2.1 ∧ q.2.1 ≤ n ∧ (p : Int) + 1 ≤ q.2.2 ∧ q.2.2 ≤ n + 1
theorem mun_bounds {nl rl kl : List Int} {kinds : Int} {s : ByteArray} {p : Nat} (hO : LexOk nl rl kl kinds) : ∀ (f i st : Nat) (r t : Int), st < rl.length → p ≤ i → i ≤ s.size → f = s.size + 1 - i → -1 ≤ r → r < kl.length → (p : Int) + 1 ≤ t → t ≤ s.size → MunOk s.size kl.length p (mun nl rl s f i st r t) := by
 intro f
 induction f with
 | zero => intro i st r t h1 h2 h3 h4; omega
 | succ f ih =>
  intro i st r t h1 h2 h3 h4 h5 h6 h7 h8
  unfold mun
  by_cases hi : i = s.size
  ·rw [if_pos hi]
   exact ⟨h5, h6, h7, h8, by show (p : Int) + 1 ≤ (i : Int) + 1; omega, by show (i : Int) + 1 ≤ _; omega⟩
  ·rw [if_neg hi]
   have hb : byteA s i < 256 := by unfold byteA; exact UInt8.toNat_lt _
   have hlt : 256 * st + byteA s i < nl.length := by rw [hO.dfa.len]; omega
   have hx := hO.dfa.next (nl.getD (256 * st + byteA s i) 0) (by rw [List.getD_eq_getElem?_getD, List.getElem?_eq_getElem hlt]; exact List.getElem_mem hlt)
   obtain ⟨x, hxx⟩ : ∃ x, nl.getD (256 * st + byteA s i) 0 = x := ⟨_, rfl⟩
   rw [hxx] at hx ⊢
   by_cases h0 : x < 0
   ·rw [if_pos h0]
    exact ⟨h5, h6, h7, h8, by show (p : Int) + 1 ≤ (i : Int) + 1; omega, by show (i : Int) + 1 ≤ _; omega⟩
   ·rw [if_neg h0]
    have hxl : x.toNat < rl.length := by omega
    obtain ⟨y, hy⟩ : ∃ y, rl.getD x.toNat 0 = y := ⟨_, rfl⟩
    have hym : y ∈ rl := by rw [← hy, List.getD_eq_getElem?_getD, List.getElem?_eq_getElem hxl]; exact List.getElem_mem hxl
    have hy1 := hO.rule y hym
    rw [hy]
    by_cases h9 : 0 ≤ y
    ·rw [if_pos h9]
     exact ih (i + 1) x.toNat y ((i : Int) + 1) hxl (by omega) (by omega) (by omega) (by omega) hy1 (by omega) (by omega)
    ·rw [if_neg h9]
     exact ih (i + 1) x.toNat r t hxl (by omega) (by omega) (by omega) h5 h6 h7 h8
theorem munch_ok {nl rl kl : List Int} {kinds : Int} {s : ByteArray} {p : Nat} (hO : LexOk nl rl kl kinds) (hp : p < s.size) : MunOk s.size kl.length p (munch nl rl s p) :=
 mun_bounds hO _ p 0 (-1) ((p : Int) + 1) hO.dfa.one (Nat.le_refl _) (by omega) rfl (by omega) (by omega) (by omega) (by omega)
def nxt (nl rl kl : List Int) (s : ByteArray) : Nat → Nat → Int → Int × Int × Int × Int
 | 0, _, _ => (0, 0, 0, 0)
 | f + 1, p, ext =>
  if p = s.size then (-2, s.size, s.size, (s.size : Int) + 1)
  else if (munch nl rl s p).1 < 0 then (-1, p, (munch nl rl s p).2.1, max (max ext (munch nl rl s p).2.2) ((munch nl rl s p).2.1 + 1))
  else if 0 ≤ kl.getD (munch nl rl s p).1.toNat 0 then (kl.getD (munch nl rl s p).1.toNat 0, p, (munch nl rl s p).2.1, max (max ext (munch nl rl s p).2.2) ((munch nl rl s p).2.1 + 1))
  else nxt nl rl kl s f (munch nl rl s p).2.1.toNat (max ext (munch nl rl s p).2.2)
def nextF (nl rl kl : List Int) (s : ByteArray) (p : Nat) : Int × Int × Int × Int := nxt nl rl kl s (s.size + 1 - p) p 0
theorem nxt_end (nl rl kl : List Int) (s : ByteArray) (ext : Int) : nxt nl rl kl s (s.size + 1 - s.size) s.size ext = ((-2 : Int), (s.size : Int), (s.size : Int), (s.size : Int) + 1) := by
 have : s.size + 1 - s.size = 0 + 1 := by omega
 rw [this]
 unfold nxt
 rw [if_pos rfl]
theorem nxt_fuel {nl rl kl : List Int} {kinds : Int} {s : ByteArray} (hO : LexOk nl rl kl kinds) : ∀ (f g p : Nat) (ext : Int), p ≤ s.size → s.size + 1 - p ≤ f → s.size + 1 - p ≤ g → nxt nl rl kl s f p ext = nxt nl rl kl s g p ext := by
 intro f
 induction f with
 | zero => intro g p ext h1 h2; omega
 | succ f ih =>
  intro g p ext h1 h2 h3
  obtain ⟨g', rfl⟩ : ∃ g', g = g' + 1 := ⟨g - 1, by omega⟩
  unfold nxt
  by_cases hp : p = s.size
  ·rw [if_pos hp, if_pos hp]
  ·rw [if_neg hp, if_neg hp]
   obtain ⟨_, _, h4, h5, _, _⟩ := munch_ok (s := s) (p := p) hO (by omega)
   rw [ih g' (munch nl rl s p).2.1.toNat (max ext (munch nl rl s p).2.2) (by omega) (by omega) (by omega)]
theorem nxt_step {nl rl kl : List Int} {kinds : Int} {s : ByteArray} (hO : LexOk nl rl kl kinds) {p : Nat} (hp : p < s.size) (ext : Int) {q : Int × Int × Int} (hq : munch nl rl s p = q) :
 nxt nl rl kl s (s.size + 1 - p) p ext = if q.1 < 0 then (-1, (p : Int), q.2.1, max (max ext q.2.2) (q.2.1 + 1)) else if 0 ≤ kl.getD q.1.toNat 0 then (kl.getD q.1.toNat 0, (p : Int), q.2.1, max (max ext q.2.2) (q.2.1 + 1)) else nxt nl rl kl s (s.size + 1 - q.2.1.toNat) q.2.1.toNat (max ext q.2.2) := by
 obtain ⟨f, hf⟩ : ∃ f, s.size + 1 - p = f + 1 := ⟨s.size - p, by omega⟩
 have hm := munch_ok (s := s) (p := p) hO hp
 rw [hq] at hm
 obtain ⟨_, _, h4, h5, _, _⟩ := hm
 rw [hf, nxt_fuel hO (s.size + 1 - q.2.1.toNat) f q.2.1.toNat (max ext q.2.2) (by omega) (by omega) (by omega), ← hq]
 show nxt nl rl kl s (f + 1) p ext = _
 conv => lhs; unfold nxt
 rw [if_neg (by omega)]
end Go.Proofs.YthpmncdfaggkiaaGreat
