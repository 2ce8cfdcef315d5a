/- The contracts of splice.each, Clear, Give. -/
import Derived.Test.YtaffaeompdlecaaV1
import Derived.Test.YtaffaeompdlecaaG1
import Derived.WalkSpells
import Derived.WalkLawsBesides
import Derived.BigRegion
import Derived.Deep.RegionWith
import Derived.Deep.QuietTactic
import Derived.Deep.DeepCutAuto
import Derived.Deep.RegionHeld3
import Derived.Deep.RegionLaw
import Derived.BigQuiet
import Derived.Lib.Hide
namespace Go.Proofs.Ytaffaeompdlecaa
open Go.RowKit
attribute [local go_sem] more_drew more_drewN more_size more_cell more_frozen more_setCell drew_more drewN_more lt_add_r lt_add_r2 lt_add_r3 lt_add_r4 lt_add_r5 lt_add_r6 lt_add_r7 lt_add_r8 lt_add_r9 lt_add_r10 lt_self_r lt_self_r2
attribute [local go_sem] Oper.semAt_some

theorem OwnP.below {w w' : World} {base : Nat} {A : Option Addr} {c : Nat} {qs : List Prt} (h : OwnP w base A c qs) (e : Below w.heap.size w w') : OwnP w' base A c qs :=
  ⟨own_keep h.row fun g hg => e.block g (own_old h.row g hg), fun q hq => (h.kids q hq).below e, h.fine⟩
/-- where each is: the row, the blocks that hold it and the function -/
structure EachU (w : World) (m : Nat) (fv : Value) (A : Option Addr) (c : Nat) (rs : List Prt) (U : World) : Prop where
  own : OwnP U (w.heap.size + 1) A c rs
  out : U.heap[m]? = some (.cells #[.slice A rs.length c] 22)
  fn : U.heap[w.heap.size]? = some (.cells #[fv] 125)
  low : Below w.heap.size w U
  old : ∀ g, (Value.slice A rs.length c).ownBlock = some g → g < m
section
variable {w U W : World} {m n c : Nat} {fv : Value} {A : Option Addr} {rs : List Prt}
theorem EachU.up (h : EachU w m fv A c rs U) (e : Below U.heap.size U W) : EachU w m fv A c rs W :=
  ⟨h.own.below e, (e.block _ (lt_of_heap h.out)).trans h.out, (e.block _ (lt_of_heap h.fn)).trans h.fn, h.low.trans (e.mono h.low.size), h.old⟩
def EachI (w : World) (n m : Nat) (fv : Value) (A : Option Addr) (c : Nat) (rs : List Prt) (W : World) : Prop := Low n W (EachU w m fv A c rs)
theorem EachI.now (h : EachI w n m fv A c rs W) : EachU w m fv A c rs W := Low.up h fun _ hU e => hU.up e
theorem EachU.put {g i : Nat} {q : Prt} {f : Int → Int} (h : EachU w m fv (some ⟨g, 0, none⟩) c rs U) (hi : rs[i]? = some q) (hf : U64 (f q.nd.met)) :
    EachU w m fv (some ⟨g, 0, none⟩) c (rs.set i (q.mets f)) (U.setCell ⟨g, i * 8 + 7, none⟩ (.int .u64 (f q.nd.met))) := by
  have h1 := own_block h.own.row g rfl
  have h2 := h.old g rfl
  have f0 := h.own.fine q (List.mem_of_getElem? hi)
  have n1 : ¬ g = m := by omega
  have n2 : ¬ g = w.heap.size := by omega
  refine ⟨h.own.put hi (by omega) rfl ⟨rfl, rfl, rfl⟩ ⟨f0.sym, f0.kind, f0.lo, f0.inn, f0.hi, f0.look, hf, f0.ks⟩, ?_, ?_, h.low.setCell (by show w.heap.size ≤ g; omega) _, fun g' hg' => by rw [List.length_set] at hg'; exact h.old g' hg'⟩
  · have := h.out
    rw [List.length_set]
    simp [World.setCell, Array.getElem?_modify, n1, this]
  · have := h.fn
    simp [World.setCell, Array.getElem?_modify, n2, this]
end
set_option maxRecDepth 100000 in
set_option maxHeartbeats 2000000 in
theorem each_any (F : Nat) (lb : Array Value) (f : Int → Int) (A : Option Addr) (c : Nat) (ps : List Prt) (w : World) (h : PS w A c ps) (hfu : ∀ b, U64 b → U64 (f b)) (eg : Enters Try.prog F)
    (hf : ∀ (wr : World) (b : Int), U64 b → Below w.heap.size w wr → Calls Try.prog F (#[.int .u64 b] ++ lb) wr fun e w' => e = .returned (.int .u64 (f b)) ∧ Ext wr w') :
    Calls Try.prog 136 #[.slice A ps.length c, .func (.func F) #[] lb] w (PartsRet w ((nds ps).map (Nd.mets f))) := by
  have hl := h.few.len
  have S := Lib.hid h
  have HF := Lib.hid hf
  have HFU := Lib.hid hfu
  unfold Enters at eg
  clear h hf hfu
  refine calls_of_marks Try.func136 rfl ?_
  simp only [Try.ntmps136, List.size_toArray, List.length_cons, List.length_nil, Nat.reduceAdd, Nat.reduceSub, Array.replicate_succ, Array.replicate_zero, List.push_toArray, List.append_toArray, List.nil_append, List.cons_append]
  go_wp2_with fail
  refine (copy_any A c ps _ (S.out.ext (by repeat (first | exact Ext.refl _ | refine Ext.alloc ?_ _ | refine Ext.more ?_ _ _ | refine Ext.drew ?_ | refine Ext.drewN ?_ _ | refine Ext.setCell ?_ (by simp <;> omega) _))).parts (S.out.ext (by repeat (first | exact Ext.refl _ | refine Ext.alloc ?_ _ | refine Ext.more ?_ _ _ | refine Ext.drew ?_ | refine Ext.drewN ?_ _ | refine Ext.setCell ?_ (by simp <;> omega) _))).oks S.out.few).mono ?_
  rintro e w2 ⟨A2, c2, qs, rfl, hn, ho, hx⟩
  have hql : qs.length = ps.length := by rw [← nds_length, hn, nds_length]
  have HN := Lib.hid hn
  have hG : w2.heap[w.heap.size]? = some (.cells #[.func (.func F) #[] lb] 125) := ext_block (heap_alloc_new w _) hx
  have HG := Lib.hid hG
  have HX2 : Hid (Ext w w2) := Lib.hid (Ext.trans (by repeat (first | exact Ext.refl _ | refine Ext.alloc ?_ _ | refine Ext.more ?_ _ _ | refine Ext.drew ?_ | refine Ext.drewN ?_ _ | refine Ext.setCell ?_ (by simp <;> omega) _)) hx)
  rw [World.size_alloc] at ho
  have HO := Lib.hid ho
  have HQL := Lib.hid hql
  obtain ⟨m, hm⟩ : ∃ m, w2.heap.size = m := ⟨_, rfl⟩
  clear hn ho hx hG hql
  go_wp2_with fail
  refine (met_make A2 qs.length c2 _).mono ?_
  rintro e w3 ⟨rfl, hw3⟩
  have X3 : Ext w2 w3 := by rw [hw3]; exact (by repeat (first | exact Ext.refl _ | refine Ext.alloc ?_ _ | refine Ext.more ?_ _ _ | refine Ext.drew ?_ | refine Ext.drewN ?_ _ | refine Ext.setCell ?_ (by simp <;> omega) _))
  have S3 : w3.heap.size = m + 2 := by rw [hw3, ← hm]; simp
  have G1 : w3.heap[m]? = some (.cells #[.slice A2 qs.length c2] 22) := by rw [hw3, ← hm]; exact (by simp only [heap_alloc_get, World.size_alloc]; (repeat (split; (first | rfl | (exfalso; omega)))); (try (first | (exfalso; omega) | simp_all)))
  have G2 : w3.heap[m + 1]? = some (.cells #[.slice A2 qs.length c2] 22) := by rw [hw3, ← hm]; exact (by simp only [heap_alloc_get, World.size_alloc]; (repeat (split; (first | rfl | (exfalso; omega)))); (try (first | (exfalso; omega) | simp_all)))
  have E0 : EachU w m (.func (.func F) #[] lb) A2 c2 qs w3 := ⟨HO.out.ext X3, G1, ext_block HG.out X3, (HX2.out.trans X3).below, fun g hg => hm ▸ own_old HO.out.row g hg⟩
  have hwm : w.heap.size < m := by have := lt_of_heap HG.out; omega
  obtain ⟨oc1, oc2, oc3⟩ := HO.out.cells.2
  unfold maxLen at oc2
  have HE0 := Lib.hid E0
  have BLK := Lib.hid (own_block HO.out.row)
  have hql2 : qs.length ≤ 1000 := by rw [HQL.out]; exact hl
  rw [World.size_alloc, hm]
  clear hw3 hm E0 oc3
  go_wp2_with fail
  refine wp_rangeG (gf := 164) (lb := #[pt (m + 1)]) (encs := encM) (xs := mets (nds qs)) (S := fun k => w.heap.size ≤ k) (R := From A2 qs) rfl (enters_of Try.func164 (by kernel_rfl) rfl) (fun _ => rfl) (by omega)
    (fun w4 hx _ => met_iter A2 c2 qs w4 (m + 1) _ hql2 oc1 (by omega) (ext_block G2 hx))
    (fun j K W => EachI w (m + 2) m (.func (.func F) #[] lb) A2 c2 (metTo f qs j) W ∧ ∀ k, K k ↔ (Value.slice A2 qs.length c2).ownBlock = some k) (fun _ _ _ => False) (fun k => (Value.slice A2 qs.length c2).ownBlock = some k)
    (fun k hk => ⟨by have := BLK.out k hk; omega, by have := HE0.out.old k hk; omega⟩) ?_ (fun _ _ _ _ _ _ h => h) ?_ ?_ ?_ ?_ ?_ (fun _ _ _ _ h => h.elim)
  · rintro j K U U' ht hsz ⟨h1, h2⟩
    rw [S3] at ht hsz
    exact ⟨Low.below h1 (ht.below (by omega) fun k hk => by omega), h2⟩
  · rintro j K U ⟨h1, h2⟩
    rw [S3]
    exact ⟨fun h => by have := HE0.out.old _ ((h2 _).1 h); omega, fun h => by have := HE0.out.old _ ((h2 _).1 h); omega⟩
  · rintro j K W ⟨h1, _⟩
    exact ⟨_, h1.now.own.cells.1, metTo_length .., fun k hk => metTo_from f qs hk⟩
  · intro W hx
    exact ⟨⟨w3, S3, by rw [← S3]; exact hx.below, by unfold metTo; simpa using HE0.out⟩, fun _ => Iff.rfl⟩
  · rintro l j x K W hx hI hsz
    clear hI
    rw [mets_get] at hx
    obtain ⟨nd, hnd, rfl⟩ := Option.map_eq_some_iff.1 hx
    obtain ⟨q, hq, rfl⟩ := nds_get' hnd
    clear hx hnd
    simp only [encM]
    gi_wp2
    refine ⟨(by repeat (first | exact Ext.refl _ | refine Ext.alloc ?_ _ | refine Ext.more ?_ _ _ | refine Ext.drew ?_ | refine Ext.drewN ?_ _ | refine Ext.setCell ?_ (by simp <;> omega) _)), ?_⟩
    rintro W2 t2 ⟨h1, h2⟩ hsz2
    have hjl : j < qs.length := (List.getElem?_eq_some_iff.1 hq).1
    have EN := h1.now
    have H1 := Lib.hid h1
    have H2 := Lib.hid h2
    have HQ := Lib.hid hq
    have hget := metTo_get (f := f) hq
    obtain ⟨g, rfl, hg1, hg2⟩ := row_block EN.own.row (by rw [metTo_length]; omega)
    have hat := EN.own.at hget.1
    have k0 := cell_of_row _ _ 0 _ _ _ EN.out
    have k1 := cell_of_row _ _ 0 _ _ _ EN.fn
    simp at k0 k1
    have l0 := lt_of_heap EN.out
    have l1 := lt_of_heap EN.fn
    have hmu : U64 q.nd.met := (EN.own.fine q (List.mem_of_getElem? hget.1)).met
    have CF := Lib.hid (fun (V : World) (x : Ext W2 V) => HF.out V q.nd.met hmu (EN.low.trans (x.below.mono EN.low.size)))
    rw [metTo_length] at k0
    have HGET := Lib.hid hget
    have HMU := Lib.hid hmu
    have hlt := hat.lt
    have f7 := hat.frozen (j * 8 + 7)
    clear EN h1 h2 hq hget hat t2 hmu
    gi_wp2
    refine wpIn_region_segs (7) [([0, 1, 2, 3], 4), ([], 5), ([6], 7)] [] (by kernel_rfl) (by kernel_rfl) (by kernel_rfl) ?_
    (refine segs_cons fun K hK => ?_); (first | (simp only [pick_nil]) | (simp only [pick, nthC])); (repeat (go_big_quiet_step (fail))); (refine wpQuiet_nil (hK _ fun next hn => ?_)); (clear hK K); (simp only [pick, nthC])
    go_wp2_with fail
    refine (CF.out _ (Ext.refl _).drew).mono ?_
    rintro e w8 ⟨rfl, hx8⟩
    have X8 : Ext W2 w8 := ((Ext.refl _).drew).trans hx8
    have E8 : Hid (EachI w (m + 2) m (.func (.func F) #[] lb) (some ⟨g, 0, none⟩) c2 (metTo f qs j) w8) := Lib.hid (Low.below H1.out (X8.below.mono (Low.size H1.out)))
    have hat := E8.out.now.own.at HGET.out.1
    have hlt8 := hat.lt
    have f78 := hat.frozen (j * 8 + 7)
    have c78 := hat.met
    have HX8 := Lib.hid X8
    clear hat hx8 X8 f7 k0 k1 l0 l1 hlt
    go_wp2_with fail
    refine segQ_mk (fun _ => laid HX8.out) (hn _ _ ?_)
    clear hn next
    (refine segs_cons fun K hK => ?_); (first | (simp only [pick_nil]) | (simp only [pick, nthC])); (repeat (go_big_quiet_step (fail))); (refine wpQuiet_nil (hK _ fun next hn => ?_)); (clear hK K); (simp only [pick, nthC])
    go_wp2_with fail
    refine segQ_mk (fun _ => laid HX8.out) (hn _ _ ?_)
    clear hn next
    (refine segs_cons fun K hK => ?_); (first | (simp only [pick_nil]) | (simp only [pick, nthC])); (repeat (go_big_quiet_step (fail))); (refine wpQuiet_nil (hK _ fun next hn => ?_)); (clear hK K); (simp only [pick, nthC])
    go_wp2_with fail
    refine segQ_mk (fun h => absurd rfl h) (hn _ _ ?_)
    clear hn next
    (refine segs_nil fun K hK => ?_); (first | (simp only [pick_nil]) | (simp only [pick, nthC])); (repeat (go_big_quiet_step (fail))); (refine wpQuiet_nil (hK _ ?_)); (clear hK K)
    gi_wp2
    have T1 : Turn (fun k => K k ∨ W.heap.size ≤ k) W2 (w8.setCell ⟨g, j * 8 + 7, none⟩ (.int .u64 (f q.nd.met))) := (Turn.of_ext HX8.out).trans (Turn.setCell w8 (p := ⟨g, j * 8 + 7, none⟩) (.inl ((H2.out g).2 rfl)) _)
    exact ⟨T1, K, fun k hk => .inl hk, by rw [← HGET.out.2]; exact Low.store E8.out fun U hU => hU.put HGET.out.1 (HFU.out _ HMU.out), H2.out⟩
  · rintro K V ⟨h1, _⟩ hsz hk
    rw [S3] at hsz hk ⊢
    rw [mets_length, nds_length] at h1
    have EN := h1.now
    have k0 := cell_of_row _ _ 0 _ _ _ EN.out
    simp at k0
    have l0 := lt_of_heap EN.out
    rw [metTo_length] at k0
    have tD : Turn (fun k => k = m + 2) V (V.putObj (m + 2) (.deferred none)) := putObj_turn _ _ rfl
    have OUT := Lib.hid (Ext.of_below (EN.low.trans (tD.below (n := w.heap.size) (by omega) fun k hk => by omega)))
    have OWN : Hid (OwnP (V.putObj (m + 2) (.deferred none)) w.heap.size A2 c2 (metTo f qs qs.length)) := Lib.hid ((EachI.now (Low.below h1 (tD.below (n := m + 2) (by omega) fun k hk => by omega))).own.base (by omega))
    clear h1 EN tD
    go_wp2_with fail
    exact marks_ret1 (D := m + 2) (v := .slice A2 qs.length c2) rfl hk (by simp [results, Try.results136, go_sem]) ⟨A2, c2, metTo f qs qs.length, by rw [metTo_length], by rw [metTo_all, HN.out], OWN.out, OUT.out⟩
set_option maxRecDepth 100000 in
set_option maxHeartbeats 1000000 in
theorem clear_any (A : Option Addr) (c : Nat) (ps : List Prt) (n : Int) (w : World) (h : PS w A c ps) : Calls Try.prog 77 #[.slice A ps.length c, .int .i64 n] w (PartsRet w ((nds ps).map (Nd.mets (clearF n)))) := by
  have S := Lib.hid h
  clear h
  have hg := heap_alloc_new w (.cells #[.int .i64 n] 3)
  have CE := Lib.hid (each_any 139 #[pt w.heap.size] (clearF n) A c ps (w.alloc (.cells #[.int .i64 n] 3)) (S.out.ext (by repeat (first | exact Ext.refl _ | refine Ext.alloc ?_ _ | refine Ext.more ?_ _ _ | refine Ext.drew ?_ | refine Ext.drewN ?_ _ | refine Ext.setCell ?_ (by simp <;> omega) _))) (fun b hb => clearF_u64 hb) (enters_of Try.func139 (by kernel_rfl) rfl)
    (fun wr b _ hb => clear1_any b n w.heap.size wr ((hb.block _ (by simp)).trans hg)))
  go_enter Try.func77, Try.ntmps77
  go_wp2_with fail
  refine CE.out.mono ?_
  rintro e w2 ⟨A2, c2, qs, rfl, hn, ho, hx⟩
  have R : Hid (nds qs = (nds ps).map (Nd.mets (clearF n)) ∧ OwnP w2 w.heap.size A2 c2 qs ∧ Ext w w2) := Lib.hid ⟨hn, ho.base (by simp), Ext.trans (by repeat (first | exact Ext.refl _ | refine Ext.alloc ?_ _ | refine Ext.more ?_ _ _ | refine Ext.drew ?_ | refine Ext.drewN ?_ _ | refine Ext.setCell ?_ (by simp <;> omega) _)) hx⟩
  clear hn ho hx hg
  go_wp2_with fail
  go_ret
  exact ⟨A2, c2, qs, rfl, R.out⟩
set_option maxRecDepth 100000 in
set_option maxHeartbeats 1000000 in
theorem give_any (A : Option Addr) (c : Nat) (ps : List Prt) (n m : Int) (w : World) (h : PS w A c ps) : Calls Try.prog 76 #[.slice A ps.length c, .int .i64 n, .int .i64 m] w (PartsRet w ((nds ps).map (Nd.mets (giveF n m)))) := by
  have S := Lib.hid h
  clear h
  have hg : ((w.alloc (.cells #[.int .i64 n] 3)).alloc (.cells #[.int .i64 m] 3)).heap[w.heap.size]? = some (.cells #[.int .i64 n] 3) := (by simp only [heap_alloc_get, World.size_alloc]; (repeat (split; (first | rfl | (exfalso; omega)))); (try (first | (exfalso; omega) | simp_all)))
  have hg2 : ((w.alloc (.cells #[.int .i64 n] 3)).alloc (.cells #[.int .i64 m] 3)).heap[w.heap.size + 1]? = some (.cells #[.int .i64 m] 3) := (by simp only [heap_alloc_get, World.size_alloc]; (repeat (split; (first | rfl | (exfalso; omega)))); (try (first | (exfalso; omega) | simp_all)))
  have CE := Lib.hid (each_any 137 #[pt w.heap.size, pt (w.heap.size + 1)] (giveF n m) A c ps ((w.alloc (.cells #[.int .i64 n] 3)).alloc (.cells #[.int .i64 m] 3)) (S.out.ext (by repeat (first | exact Ext.refl _ | refine Ext.alloc ?_ _ | refine Ext.more ?_ _ _ | refine Ext.drew ?_ | refine Ext.drewN ?_ _ | refine Ext.setCell ?_ (by simp <;> omega) _))) (fun b hb => giveF_u64 hb) (enters_of Try.func137 (by kernel_rfl) rfl)
    (fun wr b hu hb => give1_any b n m w.heap.size (w.heap.size + 1) wr hu ((hb.block _ (by simp; omega)).trans hg) ((hb.block _ (by simp)).trans hg2)))
  go_enter Try.func76, Try.ntmps76
  go_wp2_with fail
  refine CE.out.mono ?_
  rintro e w2 ⟨A2, c2, qs, rfl, hn, ho, hx⟩
  have R : Hid (nds qs = (nds ps).map (Nd.mets (giveF n m)) ∧ OwnP w2 w.heap.size A2 c2 qs ∧ Ext w w2) := Lib.hid ⟨hn, ho.base (by simp; omega), Ext.trans (by repeat (first | exact Ext.refl _ | refine Ext.alloc ?_ _ | refine Ext.more ?_ _ _ | refine Ext.drew ?_ | refine Ext.drewN ?_ _ | refine Ext.setCell ?_ (by simp <;> omega) _)) hx⟩
  clear hn ho hx hg hg2
  go_wp2_with fail
  go_ret
  exact ⟨A2, c2, qs, rfl, R.out⟩
end Go.Proofs.Ytaffaeompdlecaa
