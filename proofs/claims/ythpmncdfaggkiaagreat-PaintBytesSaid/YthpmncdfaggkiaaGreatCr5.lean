/- Cr: texts that the proof rests on, part 5. -/
import Derived.Test.YthpmncdfaggkiaaGreatCr1
import Derived.Test.YthpmncdfaggkiaaGreatCr2
import Derived.Test.YthpmncdfaggkiaaGreatCr3
import Derived.Test.YthpmncdfaggkiaaGreatCr4
namespace Go.Proofs.YthpmncdfaggkiaaGreat
open Go.RowKit
attribute [local go_sem] more_drew more_drewN more_size more_cell more_frozen more_setCell drew_more drewN_more lt_add_r lt_add_r2 lt_add_r3 lt_add_r4 lt_add_r5 lt_add_r6 lt_add_r7 lt_add_r8 lt_add_r9 lt_add_r10 lt_self_r lt_self_r2
set_option maxRecDepth 100000 in
set_option maxHeartbeats 2000000 in
theorem in_any (A : Option Addr) (c : Nat) (xs : List Int) (n : Int) (w : World) (h : Ints w A xs) (hl : xs.length ≤ 1000000) : Calls Tryz.prog 181 #[.slice A xs.length c, .int .i64 n] w fun e w' => e = .returned (.bool (decide (n ∈ xs))) ∧ Ext w w' := by
 have H := zh h
 clear h
 go_enter Tryz.func181, Tryz.ntmps181
 go_wp2_with fail
 go_loopw [5] (fun i wr => ∃ k : Nat, k ≤ xs.length ∧ i = .int .i64 k ∧ Hid (n ∉ xs.take k) ∧ Hid (Ext w wr)) (fun i _ => xs.length - (intOf i).toNat)
 case atStart => exact ⟨0, Nat.zero_le _, rfl, zh (by simp), zh (Ext.refl _)⟩
 case round =>
  obtain ⟨k, hk, rfl, hn, hx⟩ := hrel
  by_cases hlt : k < xs.length
  ·obtain ⟨b, off, rfl, hb, hc⟩ := (H.out.ext hx.out) (by omega)
   have x0 := hc k hlt
   obtain ⟨x, hxx⟩ : ∃ x, xs.getD k 0 = x := ⟨_, rfl⟩
   rw [hxx] at x0
   have hxm : x ∈ xs := by
    rw [← hxx, List.getD_eq_getElem?_getD, List.getElem?_eq_getElem hlt]
    exact List.getElem_mem hlt
   have HT := zh (take_next hlt)
   rw [hxx] at HT
   clear hc hxx
   by_cases hxn : x = n
   ·have q : (x == n) = true := by simp [hxn]
    have HM : Hid (n ∈ xs) := zh (hxn ▸ hxm)
    clear hxn hxm
    go_wp2_with fail
    go_ret
    exact ⟨ret_bool (decide_eq_true HM.out).symm, hx.out⟩
   ·have q : (x == n) = false := by simp [hxn]
    have HM : Hid (n ∉ xs.take (k + 1)) := zh (by rw [HT.out, List.mem_append]; rintro (h | h); exact hn.out h; exact hxn (List.mem_singleton.1 h).symm)
    clear hxn hxm
    go_wp2_with fail
    go_roundw
    case rel => exact ⟨k + 1, by omega, by go_num, HM, hx⟩
    case measure => simp [intOf]; omega
  ·obtain rfl : k = xs.length := by omega
   have HM : Hid (n ∉ xs) := zh (by have := hn.out; rwa [List.take_length] at this)
   go_wp2_with fail
   go_ret
   exact ⟨ret_bool (decide_eq_false HM.out).symm, hx.out⟩
set_option maxRecDepth 100000 in
set_option maxHeartbeats 4000000 in
theorem union_rise (A B : Option Addr) (c d : Nat) (xs ys : List Int) (w : World) (hA : Ints w A xs) (hB : Ints w B ys) (_hcA : xs.length ≤ c) (hA0 : A = none → c = 0) (hl : xs.length + ys.length ≤ 100000) (hr : (xs ++ ys).Pairwise (· < ·)) :
 Calls Tryz.prog 145 #[.slice A xs.length c, .slice B ys.length d] w (IntsRet w (xs ++ ys)) := by
 have HA := zh hA
 have HB := zh hB
 have HR := zh hr
 have HA0 := zh hA0
 clear hA hB hr _hcA hA0
 go_enter Tryz.func145, Tryz.ntmps145
 go_wp2_with (at_builtin; refine app_ints w (by rfl) (.tmp 9) (.tmp 10) rfl (ownI_empty w _ (Nat.le_refl _)) xs A c rfl rfl HA0.out (HA.out.ext (by repeat first | exact xr _ | refine xa ?_ _ | refine xm ?_ _ _ | refine xd ?_ | refine xn ?_ _ | refine xs ?_ (by simp <;> omega) _)) (by simp only [List.length_nil]; omega) (by repeat first | exact xr _ | refine xa ?_ _ | refine xm ?_ _ _ | refine xd ?_ | refine xn ?_ _ | refine xs ?_ (by simp <;> omega) _) ?_; intro v3 w3 hr3 _ hx3)
 rw [List.nil_append] at hr3
 have HR3 := zh hr3
 have HX3 := zh hx3
 clear hr3 hx3 HA HA0
 go_loopw [5, 6] (fun v i wr => ∃ k : Nat, k ≤ ys.length ∧ i = .int .i64 k ∧ Hid (RowI wr w.heap.size v (xs ++ ys.take k)) ∧ Hid (Ext w wr)) (fun _ i _ => ys.length - (intOf i).toNat)
 case atStart => exact ⟨0, Nat.zero_le _, rfl, zh (by rw [List.take_zero, List.append_nil]; exact HR3.out), HX3⟩
 case round =>
  obtain ⟨k, hk, rfl, hv, hx⟩ := hrel
  clear HR3 HX3
  have hvl : (xs ++ ys.take k).length = xs.length + k := by rw [List.length_append, List.length_take]; omega
  by_cases hlt : k < ys.length
  ·obtain ⟨b, off, rfl, hb, hc⟩ := (HB.out.ext hx.out) (by omega)
   have x0 := hc k hlt
   have HT := zh (take_next hlt)
   have hyk : ys[k]? = some (ys.getD k 0) := by rw [List.getD_eq_getElem?_getD, List.getElem?_eq_getElem hlt]; rfl
   obtain ⟨y, hyy⟩ : ∃ y, ys.getD k 0 = y := ⟨_, rfl⟩
   rw [hyy] at x0 HT hyk
   have hny : y ∉ xs ++ ys.take k := by
    intro hm
    have hr := HR.out
    rw [← List.take_append_drop k ys, ← List.append_assoc] at hr
    have := (List.pairwise_append.1 hr).2.2 y hm y (by
     have : ys.drop k = ys[k] :: ys.drop (k + 1) := List.drop_eq_getElem_cons hlt
     rw [this]
     rw [List.getElem?_eq_getElem hlt] at hyk
     injection hyk with hyk
     rw [hyk]
     simp)
    omega
   obtain ⟨A5, c5, rfl, ho5⟩ := hv.out
   have CI := in_any A5 c5 (xs ++ ys.take k) y wr ho5.ints.1 (by rw [hvl]; omega)
   rw [decide_eq_false hny, hvl] at CI
   rw [hvl]
   have HCI := zh CI
   have hv5 := hv.out
   rw [hvl] at hv5
   have HV5 := zh hv5
   have HVL := zh hvl
   clear hc hyy hyk hny ho5 CI hv5 hvl hv
   go_wp2_with fail
   refine HCI.out.mono ?_
   rintro e w6 ⟨rfl, hx6⟩
   have x6 := ext_cell x0 hb hx6
   have lb6 := Nat.lt_of_lt_of_le hb hx6.size
   have HV6 := zh (HV5.out.ext hx6)
   have HX6 := zh (hx.out.trans hx6)
   clear hx6 x0 hb HV5
   go_wp2_with (at_builtin; refine app_int w (by rfl) (.tmp 25) (.tmp 30) rfl (HV6.out.ext (by repeat first | exact xr _ | refine xa ?_ _ | refine xm ?_ _ _ | refine xd ?_ | refine xn ?_ _ | refine xs ?_ (by simp <;> omega) _)) y w6.heap.size rfl rfl (by simp) (by rw [cell_of_row _ _ 0 _ _ _ (heap_alloc_new w6 (.cells #[.int .i64 y] 3))]; rfl) (by have := HVL.out; omega) (HX6.out.trans (by repeat first | exact xr _ | refine xa ?_ _ | refine xm ?_ _ _ | refine xd ?_ | refine xn ?_ _ | refine xs ?_ (by simp <;> omega) _)) ?_; intro v7 w7 hr7 _ hx7)
   have HR7 := zh hr7
   have HX7 := zh hx7
   clear hr7 hx7
   go_roundw
   case rel => exact ⟨k + 1, by omega, by go_num, zh (by rw [HT.out, ← List.append_assoc]; exact HR7.out), HX7⟩
   case measure => simp [intOf]; omega
  ·obtain rfl : k = ys.length := by omega
   have hv0 := hv.out
   rw [List.take_length] at hv0
   obtain ⟨A5, c5, rfl, ho5⟩ := hv0
   have HO := zh ho5
   have HLE : Hid ((xs ++ ys).length = xs.length + ys.length) := zh List.length_append
   obtain ⟨n, hn⟩ : ∃ n, (xs ++ ys).length = n := ⟨_, rfl⟩
   rw [hn]
   have HN := zh hn
   obtain ⟨zs, hzs⟩ : ∃ zs, xs ++ ys = zs := ⟨_, rfl⟩
   have HZS := zh hzs
   rw [hzs] at HO HR HN HLE
   have hnb : n ≤ 100000 := by rw [← hn, List.length_append]; exact hl
   clear ho5 hv hn hzs hvl
   go_wp2_with fail
   go_loopw [7] (fun i w2 => ∃ k : Nat, 1 ≤ k ∧ i = .int .i64 k ∧ Hid (Ext wr w2)) (fun i _ => n - (intOf i).toNat)
   case atStart => exact ⟨1, by omega, rfl, zh (Ext.refl _)⟩
   case round =>
    obtain ⟨k, hk1, rfl, hx2⟩ := hrel
    by_cases hlk : k < n
    ·obtain ⟨b, off, rfl, hb, hc⟩ := (HO.out.ints.1.ext hx2.out) (by rw [HN.out]; omega)
     have x0 := hc (k - 1) (by rw [HN.out]; omega)
     have x1 := hc k (by rw [HN.out]; omega)
     have hlt2 : zs.getD (k - 1) 0 < zs.getD k 0 := by
      have h1 := HN.out
      have := List.pairwise_iff_getElem.1 HR.out (k - 1) k (by omega) (by omega) (by omega)
      rw [List.getD_eq_getElem?_getD, List.getD_eq_getElem?_getD, List.getElem?_eq_getElem (by omega), List.getElem?_eq_getElem (by omega)]
      exact this
     obtain ⟨p, hp⟩ : ∃ p, zs.getD (k - 1) 0 = p := ⟨_, rfl⟩
     obtain ⟨q, hq⟩ : ∃ q, zs.getD k 0 = q := ⟨_, rfl⟩
     rw [hp, hq] at hlt2
     rw [hp] at x0
     rw [hq] at x1
     have d1 : decide (q < p) = false := decide_eq_false (by omega)
     have d2 : decide (0 < k) = true := decide_eq_true (by omega)
     clear hc hp hq hlt2
     go_wp2_with fail
     refine wp_loop_rounds 1 ?_
     rw [rounds_succ]
     go_upto_region 11 with fail
     refine wp_region_bt (14) (pures_bt [0, 1, 2, 3, 4, 5, 6, 8, 9, 10] (softs_bt [7, 11, 12, 13] .fin)) (by kernel_rfl) (by kernel_rfl) ?_
     refine bt_pures _ fun K hK => ?_; simp only [pick, nthC]; (repeat go_big_quiet_step (fail)); refine wpQuiet_nil (hK _ ?_); clear hK K
     refine bt_softs _ fun K hK => ?_; simp only [pick, nthC]; (repeat go_big_quiet_step (fail)); refine wpQuiet_nil (hK _ ?_); clear hK K
     (refine bt_fin ?_)
     go_wp2_with fail
     go_roundw
     case rel => exact ⟨k + 1, by omega, by go_num, zh (hx2.out.trans (by repeat first | exact xr _ | refine xa ?_ _ | refine xm ?_ _ _ | refine xd ?_ | refine xn ?_ _ | refine xs ?_ (by simp <;> omega) _))⟩
     case measure => simp [intOf]; omega
    ·have hkn : n ≤ k := by omega
     go_wp2_with fail
     go_ret
     have HOx := own_ext HO.out hx2.out
     rw [← HZS.out] at HOx
     exact ⟨A5, c5, by rw [HZS.out, HN.out]; rfl, HOx, hx.out.trans hx2.out⟩
theorem own_slice {w : World} {base : Nat} {e : TypeId} {size : Nat} {v : Value} {n : Nat} {xs : List Value} (h : w.ownsRow base e size v n xs) (h0 : 0 < n) : ∃ g c, v = .slice (some ⟨g, 0, none⟩) n c ∧ base ≤ g ∧ g < w.heap.size ∧ (∃ cur, w.heap[g]? = some (.cells cur e)) ∧ (∀ k, w.frozen? ⟨g, k, none⟩ = false) ∧ ∀ k u, xs[k]? = some u → w.cell? ⟨g, k, none⟩ = some u := by
 obtain ⟨A, c0, hv, hc, _⟩ := own_cells h
 rcases h.2 with ⟨_, h2⟩ | ⟨g, cap, cur, rfl, hb, hg, h3, h4, h5, h6⟩
 ·omega
 ·refine ⟨g, cap, rfl, hb, lt_of_heap hg, ⟨cur, hg⟩, fun k => row_frozen hg k, fun k u hk => ?_⟩
  rw [cell_of_row _ _ k _ _ _ hg]
  rw [← h6, List.getElem?_take] at hk
  split at hk
  ·rwa [Array.getElem?_toList] at hk
  ·cases hk
theorem own_set {w : World} {base : Nat} {e : TypeId} {size n g c : Nat} {xs : List Value} (h : w.ownsRow base e size (.slice (some ⟨g, 0, none⟩) n c) n xs) (k : Nat) (u : Value) : (w.setCell ⟨g, k, none⟩ u).ownsRow base e size (.slice (some ⟨g, 0, none⟩) n c) n (xs.set k u) := by
 obtain ⟨h1, h2⟩ := h
 refine ⟨by rw [List.length_set]; exact h1, ?_⟩
 rcases h2 with ⟨h2, _⟩ | ⟨g', cap, cur, h2, h3, h4, h5, h6, h7, h8⟩
 ·cases h2
 ·injection h2 with a1 a2 a3
  injection a1 with a1
  injection a1 with a1
  subst a1 a3
  refine .inr ⟨g, c, cur.setIfInBounds k u, rfl, h3, setCell_row h4 u, h5, h6, by rw [Array.size_setIfInBounds]; exact h7, ?_⟩
  rw [Array.toList_setIfInBounds, List.take_set, h8]
section
variable {w : World} {nb base m kn kr : Nat} {cc rc : List Value} {nx : List (List Int)} {cv nv rv : Value} {g : Nat}
theorem NfaAt.types (h : NfaAt w nb base m cc rc nx cv nv rv) : (∀ k, cv.ownBlock = some k → ∃ cur, w.heap[k]? = some (.cells cur 191)) ∧ (∀ k, nv.ownBlock = some k → ∃ cur, w.heap[k]? = some (.cells cur 31)) ∧ (∀ k, rv.ownBlock = some k → ∃ cur, w.heap[k]? = some (.cells cur 3)) := by
 obtain ⟨vs, h1, _⟩ := h.nxt
 exact ⟨own_obj h.cls, own_obj h1, own_obj h.rul⟩
theorem ne_type {a b : Nat} {cs ds : Array Value} {T U : TypeId} (h : w.heap[a]? = some (.cells cs T)) (h' : w.heap[b]? = some (.cells ds U)) (hT : T ≠ U) : a ≠ b := fun he => by
 subst he
 rw [h] at h'
 injection h' with h'
 injection h' with _ h'
 exact hT h'
theorem NfaAt.keepB {w' : World} {b : Nat} {cs : Array Value} {T : TypeId} (h : NfaAt w nb base m cc rc nx cv nv rv) (hb : w.heap[b]? = some (.cells cs T)) (hT : T ≠ 148 ∧ T ≠ 191 ∧ T ≠ 31 ∧ T ≠ 3) (t : Turn (fun k => k = b) w w') : NfaAt w' nb base m cc rc nx cv nv rv := by
 obtain ⟨t1, t2, t3⟩ := h.types
 obtain ⟨vs, h1, h2, h3⟩ := h.nxt
 exact ⟨t.keep h.blk (fun he => ne_type h.blk hb (Ne.symm hT.1) he), h.low, own_keep h.cls fun k hk => t.block k (own_old h.cls k hk) (fun he => by obtain ⟨cu, hcu⟩ := t1 k hk; exact ne_type hcu hb (Ne.symm hT.2.1) he),
  ⟨vs, own_keep h1 fun k hk => t.block k (own_old h1 k hk) (fun he => by obtain ⟨cu, hcu⟩ := t2 k hk; exact ne_type hcu hb (Ne.symm hT.2.2.1) he), h2, fun k u ys hu hy => (h3 k u ys hu hy).keep t (fun k cs hcs hne hk => by subst hk; exact ne_type hcs hb (Ne.symm hT.2.2.2) rfl) _ (fun _ hg => .inl hg)⟩,
  own_keep h.rul fun k hk => t.block k (own_old h.rul k hk) (fun he => by obtain ⟨cu, hcu⟩ := t3 k hk; exact ne_type hcu hb (Ne.symm hT.2.2.2) he)⟩
theorem NfaAt.setNext (h : NfaAt w nb base m cc rc nx cv (.slice (some ⟨g, 0, none⟩) m kn) rv) (a : Nat) {v : Value} {xs : List Int} (hi : IntSl w rv v xs) : NfaAt (w.setCell ⟨g, a, none⟩ v) nb base m cc rc (nx.set a xs) cv (.slice (some ⟨g, 0, none⟩) m kn) rv := by
 obtain ⟨t1, t2, t3⟩ := h.types
 obtain ⟨cur, hcur⟩ := t2 g rfl
 have T : Turn (fun k => k = g) w (w.setCell ⟨g, a, none⟩ v) := Turn.set1 g a v
 obtain ⟨vs, h1, h2, h3⟩ := h.nxt
 have keep : ∀ {v : Value} {xs : List Int}, IntSl w rv v xs → IntSl (w.setCell ⟨g, a, none⟩ _) rv v xs := fun hi => hi.keep T (fun k cs hcs _ hk => by subst hk; exact ne_type hcs hcur (by decide) rfl) rv (fun _ hg => .inl hg)
 refine ⟨T.keep h.blk (fun he => ne_type h.blk hcur (by decide) he), h.low, own_keep h.cls fun k hk => T.block k (own_old h.cls k hk) (fun he => by obtain ⟨cu, hcu⟩ := t1 k hk; exact ne_type hcu hcur (by decide) he), ⟨vs.set a v, own_set h1 a v, by rw [List.length_set, List.length_set, h2], fun k u ys hu hy => ?_⟩,
  own_keep h.rul fun k hk => T.block k (own_old h.rul k hk) (fun he => by obtain ⟨cu, hcu⟩ := t3 k hk; exact ne_type hcu hcur (by decide) he)⟩
 by_cases hk : a = k
 ·subst hk
  have l1 := (List.getElem?_eq_some_iff.1 hu).1
  have l2 := (List.getElem?_eq_some_iff.1 hy).1
  rw [List.length_set] at l1 l2
  rw [List.getElem?_set_self l1] at hu
  rw [List.getElem?_set_self l2] at hy
  injection hu with hu
  injection hy with hy
  subst hu hy
  exact keep hi
 ·rw [List.getElem?_set_ne hk] at hu hy
  exact keep (h3 k u ys hu hy)
theorem NfaAt.setRule (h : NfaAt w nb base m cc rc nx cv nv (.slice (some ⟨g, 0, none⟩) m kr)) (a : Nat) (v : Value) : NfaAt (w.setCell ⟨g, a, none⟩ v) nb base m cc (rc.set a v) nx cv nv (.slice (some ⟨g, 0, none⟩) m kr) := by
 obtain ⟨t1, t2, t3⟩ := h.types
 obtain ⟨cur, hcur⟩ := t3 g rfl
 have T : Turn (fun k => k = g) w (w.setCell ⟨g, a, none⟩ v) := Turn.set1 g a v
 obtain ⟨vs, h1, h2, h3⟩ := h.nxt
 exact ⟨T.keep h.blk (fun he => ne_type h.blk hcur (by decide) he), h.low, own_keep h.cls fun k hk => T.block k (own_old h.cls k hk) (fun he => by obtain ⟨cu, hcu⟩ := t1 k hk; exact ne_type hcu hcur (by decide) he),
  ⟨vs, own_keep h1 fun k hk => T.block k (own_old h1 k hk) (fun he => by obtain ⟨cu, hcu⟩ := t2 k hk; exact ne_type hcu hcur (by decide) he), h2, fun k u ys hu hy => (h3 k u ys hu hy).keep T (fun k cs hcs hne hk => by subst hk; exact hne rfl) _ (fun _ hg => .inl hg)⟩, own_set h.rul a v⟩
end
set_option maxRecDepth 100000 in
set_option maxHeartbeats 4000000 in
theorem join_one (nb base m a : Nat) (cc rc : List Value) (nx : List (List Int)) (cv nv rv : Value) (L F : Option Addr) (lc fc : Nat) (xs ys : List Int) (w : World) (hN : NfaAt w nb base m cc rc nx cv nv rv) (hL : Ints w L [(a : Int)]) (hF : Ints w F ys) (ha : a < m) (hm : m ≤ 100000) (hx : nx[a]? = some xs) (hr : (xs ++ ys).Pairwise (· < ·)) (hl : xs.length + ys.length ≤ 100000) :
 Calls Tryz.prog 180 #[ptr nb, .slice L 1 lc, .slice F ys.length fc] w fun e w' => e = .returned (.tuple #[]) ∧ NfaAt w' nb base m cc rc (nx.set a (xs ++ ys)) cv nv rv ∧ Turn (fun k => nv.ownBlock = some k) w w' := by
 obtain ⟨vs, hv1, hv2, hv3⟩ := hN.nxt
 obtain ⟨g, kn, rfl, hg1, hg2, ⟨cur, hcur⟩, hg3, hg4⟩ := own_slice hv1 (by omega)
 have hvl : vs.length = m := by have := hv1.1; omega
 obtain ⟨v, hv⟩ : ∃ v, vs[a]? = some v := ⟨_, List.getElem?_eq_getElem (by omega)⟩
 obtain ⟨A, c, rfl, hA, hAc, hAc2, hA0, hA1⟩ := hv3 a v xs hv hx
 have HU := zh (fun W (e : Ext w W) => union_rise A F c fc xs ys W (hA.ext e) (hF.ext e) hAc hA0 hl hr)
 obtain ⟨gl, ol, rfl, hgl, hcl⟩ := hL (by simp)
 have l0 : w.cell? ⟨gl, ol, none⟩ = some (.int .i64 a) := hcl 0 (by simp)
 have b1 := cell_of_row _ _ 1 _ _ _ hN.blk
 simp at b1
 have lb := lt_of_heap hN.blk
 have n0 := hg4 a _ hv
 have HN := zh hN
 have HCUR := zh hcur
 have HX := zh hx
 clear hN hL hF hcl hv3 hA hA0 hA1 hg3 hg4 hcur hv1 hv2 hr hx
 go_enter Tryz.func180, Tryz.ntmps180
 go_wp2_with fail
 refine wp_loop_rounds 2 ?_
 rw [rounds_succ]
 go_upto_region 3 with fail
 refine wp_region_bt (21) (pures_bt [0, 1, 2, 4, 5, 6, 8, 9, 10, 12, 13, 14, 18] (softs_bt [3, 7, 11, 15, 16, 17] (.step 19 (pures_bt [20] (.step 21 .fin))))) (by kernel_rfl) (by kernel_rfl) ?_
 refine bt_pures _ fun K hK => ?_; simp only [pick, nthC]; (repeat go_big_quiet_step (fail)); refine wpQuiet_nil (hK _ ?_); clear hK K
 refine bt_softs _ fun K hK => ?_; simp only [pick, nthC]; (repeat go_big_quiet_step (fail)); refine wpQuiet_nil (hK _ ?_); clear hK K
 refine bt_step fun next hn => ?_; simp only [pick, nthC]
 go_wp2_with fail
 refine (HU.out _ (by repeat first | exact xr _ | refine xa ?_ _ | refine xm ?_ _ _ | refine xd ?_ | refine xn ?_ _ | refine xs ?_ (by simp <;> omega) _)).mono ?_
 rintro e w2 ⟨A2, c2, rfl, ho2, hx2⟩
 have Y2 : Hid (Ext w w2) := zh (Ext.trans (by repeat first | exact xr _ | refine xa ?_ _ | refine xm ?_ _ _ | refine xd ?_ | refine xn ?_ _ | refine xs ?_ (by simp <;> omega) _) hx2)
 have HO2 := zh ho2
 have HS2 : Hid (w.heap.size ≤ w.drew.heap.size) := zh (Nat.le_refl _)
 clear ho2 hx2
 go_wp2_with fail
 refine segQ_mk (fun _ => laid Y2.out) (hn _ _ ?_)
 clear hn next
 refine bt_pures _ fun K hK => ?_; simp only [pick, nthC]; (repeat go_big_quiet_step (fail)); refine wpQuiet_nil (hK _ ?_); clear hK K
 have HN2 := zh (HN.out.ext Y2.out)
 have HI2 : Hid (IntSl w2 rv (.slice A2 (xs ++ ys).length c2) (xs ++ ys)) := zh (by
  obtain ⟨h1, h2, h3, h4⟩ := HO2.out.ints
  refine ⟨A2, c2, rfl, h1, h2, by unfold maxLen at h3; omega, h4, fun k off s hA => ?_⟩
  subst hA
  have hk : (Value.slice (some ⟨k, off, s⟩) (xs ++ ys).length c2).ownBlock = some k := rfl
  refine ⟨own_obj HO2.out k hk, fun hh => ?_⟩
  have h5 := own_old HN.out.rul k hh
  have h6 := own_block HO2.out k hk
  have : w.heap.size ≤ k := h6
  omega)
 obtain ⟨W3, hW3⟩ : ∃ W3, w2.setCell ⟨g, a, none⟩ (.slice A2 (xs.length + ys.length) c2) = W3 := ⟨_, rfl⟩
 have HN3 := zh (HN2.out.setNext a HI2.out)
 rw [List.length_append, hW3] at HN3
 have HT3 : Hid (Turn (fun k => (Value.slice (some ⟨g, 0, none⟩) m kn).ownBlock = some k) w W3) := zh (by rw [← hW3]; exact (Turn.of_ext Y2.out).trans ((Turn.set1 g a _).mono fun k _ hk => by rw [hk]; rfl))
 have n2 := ext_cell n0 hg2 Y2.out
 have f2 := row_frozen (ext_block HCUR.out Y2.out) a
 clear n0 l0 b1 lb
 refine bt_step fun next hn => ?_; simp only [pick, nthC]
 go_wp2_with fail
 refine segQ_mk (fun h => absurd rfl h) (hn _ _ ?_)
 clear hn next
 (refine bt_fin ?_)
 clear hW3 n2 f2
 go_wp2_with fail
 rw [rounds_succ]
 go_wp2_with fail
 exact bodyPost_end (results_none rfl _ _ _) rfl ⟨rfl, HN3.out, HT3.out⟩
def NodeRet2 (w : World) (nb base m : Nat) (cc rc : List Value) (nx : List (List Int)) (cv nv rv : Value) (z : Cl) (e : Ending) (w' : World) : Prop :=
 ∃ f l cv' nv' rv', e = .returned (.agg #[.bool false, .slice (some ⟨f, 0, none⟩) 1 1, .slice (some ⟨l, 0, none⟩) 1 1]) ∧ w.heap.size ≤ f ∧ w.heap.size ≤ l ∧
  w'.heap[f]? = some (.cells #[.int .i64 m] 3) ∧ w'.heap[l]? = some (.cells #[.int .i64 m] 3) ∧ NfaAt w' nb base (m + 1) (cc ++ z.cells) (rc ++ [.int .i64 (-1)]) (nx ++ [[(m : Int)]]) cv' nv' rv' ∧ Turn (nfaS nb cv nv rv) w w' ∧
  rv'.ownBlock ≠ some f ∧ rv'.ownBlock ≠ some l ∧ (∀ g, nfaS nb cv' nv' rv' g → nfaS nb cv nv rv g ∨ w.heap.size ≤ g)
set_option maxRecDepth 100000 in
set_option maxHeartbeats 4000000 in
theorem node_plus (A : Option Addr) (c : Nat) (z : Cl) (nb base m : Nat) (cc rc : List Value) (nx : List (List Int)) (cv nv rv : Value) (w : World) (h : R2 w A z) (hN : NfaAt w nb base m cc rc nx cv nv rv) (hm : m ≤ 1000) (hnx : nx.length = m) :
 Calls Tryz.prog 144 #[ptr nb, .slice A 2 c, .int .i64 1] w (NodeRet2 w nb base m cc rc nx cv nv rv z) := by
 have H := zh h
 obtain ⟨g, gk, rfl, lg, lk, _, _, _, x6, ⟨x7, x8, x9, x10⟩, x11, y0⟩ := h.open_
 have HN := zh hN
 obtain ⟨ns0, hns, _⟩ := hN.nxt
 have HNS := zh hns
 clear h hN hns
 go_enter Tryz.func144, Tryz.ntmps144
 go_upto_region 2 with fail
 obtain ⟨W, hW⟩ : ∃ W, (w.alloc (.cells #[.bool false, nil0, nil0] 194)).alloc (.cells #[.int .i64 6, .int .u64 0, .int .u64 0, .int .u64 0, .int .u64 0, .slice (some ⟨gk, 0, none⟩) 1 1] 232) = W := ⟨_, rfl⟩
 obtain ⟨pb, hpb⟩ : ∃ pb, w.heap.size = pb := ⟨_, rfl⟩
 have X1 : Ext w W := by rw [← hW]; exact (by repeat first | exact xr _ | refine xa ?_ _ | refine xm ?_ _ _ | refine xd ?_ | refine xn ?_ _ | refine xs ?_ (by simp <;> omega) _)
 have P0 : W.heap[pb]? = some (.cells #[.bool false, nil0, nil0] 194) := by rw [← hW, ← hpb]; exact (by simp only [heap_alloc_get, World.size_alloc]; (repeat (split; (first | rfl | (exfalso; omega)))); (try (first | (exfalso; omega) | simp_all)))
 have Q0 : W.heap[pb + 1]? = some (.cells #[.int .i64 6, .int .u64 0, .int .u64 0, .int .u64 0, .int .u64 0, .slice (some ⟨gk, 0, none⟩) 1 1] 232) := by rw [← hW, ← hpb]; exact (by simp only [heap_alloc_get, World.size_alloc]; (repeat (split; (first | rfl | (exfalso; omega)))); (try (first | (exfalso; omega) | simp_all)))
 have HX1 := zh X1
 have HP0 := zh P0
 have HQ0 := zh Q0
 have HPB := zh hpb
 have q0 := cell_of_row _ _ 0 _ _ _ Q0
 have q5 := cell_of_row _ _ 5 _ _ _ Q0
 simp at q0 q5
 have lq := lt_of_heap Q0
 have k0 := ext_cell y0 lk X1
 have lk1 := Nat.lt_of_lt_of_le lk X1.size
 have CN := node_class (some ⟨g, 0, none⟩) c z nb base m cc rc nx cv nv rv W (H.out.ext X1) (HN.out.ext X1) hm
 have HCN := zh CN
 have HOLD : Hid (∀ k, nfaS nb cv nv rv k → k < w.heap.size) := zh (fun k hk => by
  rcases hk with hk | hk | hk | hk
  ·have := lt_of_heap HN.out.blk; omega
  ·exact own_old HN.out.cls k hk
  ·exact own_old HNS.out k hk
  ·exact own_old HN.out.rul k hk)
 have HPN : Hid (¬ nfaS nb cv nv rv pb ∧ ¬ nfaS nb cv nv rv (pb + 1)) := zh (by
  have key : ∀ k, nfaS nb cv nv rv k → k < w.heap.size := fun k hk => by
   rcases hk with hk | hk | hk | hk
   ·have := lt_of_heap HN.out.blk; omega
   ·exact own_old HN.out.cls k hk
   ·exact own_old HNS.out k hk
   ·exact own_old HN.out.rul k hk
  exact ⟨fun hk => by have := key _ hk; omega, fun hk => by have := key _ hk; omega⟩)
 simp only [hW, hpb]
 clear X1 P0 Q0 hW hpb CN x6 x7 x8 x9 x10 x11 y0 lg lk
 go_wp2_with fail
 refine HCN.out.mono ?_
 rintro e w2 ⟨f, l, cv', nv', rv', rfl, hf, hl, hF, hL, hN2, hT2, hrf, hrl, hG2⟩
 have P2 := hT2.keep HP0.out HPN.out.1
 have Q2 := hT2.keep HQ0.out HPN.out.2
 have HP2 := zh P2
 have HWP : Hid (w.heap.size ≤ pb ∧ pb + 1 < W.heap.size) := zh ⟨by have := HPB.out; omega, lq⟩
 have q0' := cell_of_row _ _ 0 _ _ _ Q2
 simp at q0'
 have lq2 := lt_of_heap Q2
 obtain ⟨W3, hW3⟩ : ∃ W3, w2.alloc (.cells #[.bool false, .slice (some ⟨f, 0, none⟩) 1 1, .slice (some ⟨l, 0, none⟩) 1 1] 194) = W3 := ⟨_, rfl⟩
 obtain ⟨b3, hb3⟩ : ∃ b3, w2.heap.size = b3 := ⟨_, rfl⟩
 have X3 : Ext w2 W3 := by rw [← hW3]; exact (by repeat first | exact xr _ | refine xa ?_ _ | refine xm ?_ _ _ | refine xd ?_ | refine xn ?_ _ | refine xs ?_ (by simp <;> omega) _)
 have B3 : W3.heap[b3]? = some (.cells #[.bool false, .slice (some ⟨f, 0, none⟩) 1 1, .slice (some ⟨l, 0, none⟩) 1 1] 194) := by rw [← hW3, ← hb3]; exact heap_alloc_new _ _
 have HX3 := zh X3
 have HB3 := zh B3
 have HF3 := zh (ext_block hF X3)
 have HL3 := zh (ext_block hL X3)
 have HN3 := zh (hN2.ext X3)
 have HQ3 := zh (ext_block Q2 X3)
 have HT2 := zh hT2
 have HG2 := zh hG2
 have HFL : Hid (W.heap.size ≤ f ∧ W.heap.size ≤ l ∧ rv'.ownBlock ≠ some f ∧ rv'.ownBlock ≠ some l) := zh ⟨hf, hl, hrf, hrl⟩
 have HM2 : Hid (∀ k, nfaS nb cv' nv' rv' k → k < b3) := zh (fun k hk => by
  rw [← hb3]
  rcases hk with hk | hk | hk | hk
  ·have := lt_of_heap hN2.blk; omega
  ·exact own_old hN2.cls k hk
  ·obtain ⟨vs, h1, _⟩ := hN2.nxt; exact own_old h1 k hk
  ·exact own_old hN2.rul k hk)
 have HPB3 : Hid (pb < b3) := zh (by rw [← hb3]; exact lt_of_heap P2)
 have c1 := cell_of_row _ _ 1 _ _ _ B3
 have c2 := cell_of_row _ _ 2 _ _ _ B3
 have lb3 := lt_of_heap B3
 have p0 := cell_of_row _ _ 0 _ _ _ HQ3.out
 have lp0 := lt_of_heap HQ3.out
 simp at c1 c2 p0
 have CJ := join_one nb base (m + 1) m (cc ++ z.cells) (rc ++ [.int .i64 (-1)]) (nx ++ [[]]) cv' nv' rv' (some ⟨l, 0, none⟩) (some ⟨f, 0, none⟩) 1 1 [] [(m : Int)] W3 HN3.out
  (fun _ => ⟨l, 0, rfl, lt_of_heap HL3.out, fun k hk => by
    obtain rfl : k = 0 := by simpa using hk
    exact cell_of_row _ _ 0 _ _ _ HL3.out⟩) (fun _ => ⟨f, 0, rfl, lt_of_heap HF3.out, fun k hk => by
    obtain rfl : k = 0 := by simpa using hk
    exact cell_of_row _ _ 0 _ _ _ HF3.out⟩) (by omega) (by omega) (by rw [List.getElem?_append_right (by omega), hnx, Nat.sub_self]; rfl) (by simp) (by simp)
 have e9 : (nx ++ [([] : List Int)]).set m (([] : List Int) ++ [(m : Int)]) = nx ++ [[(m : Int)]] := by rw [List.set_append_right _ _ (by omega), hnx, Nat.sub_self]; rfl
 rw [e9] at CJ
 have HCJ := zh CJ
 have HW3 := zh hW3
 have HBN := zh hb3
 clear P2 Q2 hW3 hb3 X3 B3 hF hL hN2 hT2 hG2 hf hl hrf hrl CJ q0 q5 lq k0 lk1 HCN
 go_wp2_with fail
 simp only [HW3.out, HBN.out]
 refine HCJ.out.mono ?_
 rintro e w5 ⟨rfl, hN5, hT5⟩
 have hS : ∀ k, nv'.ownBlock = some k → k ≠ pb ∧ k ≠ pb + 1 ∧ k ≠ b3 := fun k hk => by
  have h1 := HM2.out k (.inr (.inr (.inl hk)))
  have h3 := HWP.out
  rcases HG2.out k (.inr (.inr (.inl hk))) with h2 | h2
  ·have := HOLD.out k h2
   exact ⟨by omega, by omega, by omega⟩
  ·exact ⟨by omega, by omega, by omega⟩
 have B5 := hT5.keep HB3.out (fun hk => (hS _ hk).2.2 rfl)
 have Q5 := hT5.keep HQ3.out (fun hk => (hS _ hk).2.1 rfl)
 have P5 := hT5.keep (ext_block HP2.out HX3.out) (fun hk => (hS _ hk).1 rfl)
 have hF5 : w5.heap[f]? = some (.cells #[.int .i64 m] 3) := hT5.keep HF3.out (fun hk => by
  obtain ⟨_, t2, _⟩ := HN3.out.types
  obtain ⟨cur, hcur⟩ := t2 f hk
  exact ne_type HF3.out hcur (by decide) rfl)
 have hL5 : w5.heap[l]? = some (.cells #[.int .i64 m] 3) := hT5.keep HL3.out (fun hk => by
  obtain ⟨_, t2, _⟩ := HN3.out.types
  obtain ⟨cur, hcur⟩ := t2 l hk
  exact ne_type HL3.out hcur (by decide) rfl)
 have d0 := cell_of_row _ _ 0 _ _ _ B5
 have d1 := cell_of_row _ _ 1 _ _ _ B5
 have d2 := cell_of_row _ _ 2 _ _ _ B5
 have e0 := cell_of_row _ _ 0 _ _ _ Q5
 have r0 := cell_of_row _ _ 0 _ _ _ P5
 have r1 := cell_of_row _ _ 1 _ _ _ P5
 have r2 := cell_of_row _ _ 2 _ _ _ P5
 have ff := fun k => row_frozen P5 k
 have P6 := put3_at P5 (.bool false) (.slice (some ⟨f, 0, none⟩) 1 1) (.slice (some ⟨l, 0, none⟩) 1 1)
 obtain ⟨W6, hW6⟩ : ∃ W6, put3 w5 pb (.bool false) (.slice (some ⟨f, 0, none⟩) 1 1) (.slice (some ⟨l, 0, none⟩) 1 1) = W6 := ⟨_, rfl⟩
 have T6 : Turn (fun k => k = pb) w5 W6 := by rw [← hW6]; exact put3_turn (S := fun k => k = pb) rfl _ _ _
 rw [hW6] at P6
 have g0 := cell_of_row _ _ 0 _ _ _ P6
 have g1 := cell_of_row _ _ 1 _ _ _ P6
 have g2 := cell_of_row _ _ 2 _ _ _ P6
 simp at d0 d1 d2 e0 r0 r1 r2 g0 g1 g2
 have key : ∀ {cs : Array Value} {T : TypeId}, w5.heap[pb]? = some (.cells cs T) → T = 194 := fun hh => by
  rw [P5] at hh
  injection hh with hh
  injection hh with _ hh
  exact hh.symm
 have HF6 := zh (T6.keep hF5 (fun he => by subst he; exact absurd (key hF5) (by decide)))
 have HL6 := zh (T6.keep hL5 (fun he => by subst he; exact absurd (key hL5) (by decide)))
 have HN6 : Hid (NfaAt W6 nb base (m + 1) (cc ++ z.cells) (rc ++ [.int .i64 (-1)]) (nx ++ [[(m : Int)]]) cv' nv' rv') := zh (by
  obtain ⟨vs, hv1, hv2, hv3⟩ := hN5.nxt
  have ok : ∀ {T : TypeId} {size n : Nat} {v : Value} {ys : List Value}, w5.ownsRow base T size v n ys → T ≠ 194 → W6.ownsRow base T size v n ys := fun hr hT => own_keep hr fun i hi => T6.block i (own_old hr i hi) (fun he => by
   subst he
   obtain ⟨cur, hcur⟩ := own_obj hr _ hi
   exact hT (key hcur))
  exact ⟨T6.keep hN5.blk (fun he => by subst he; exact absurd (key hN5.blk) (by decide)), hN5.low, ok hN5.cls (by decide), ⟨vs, ok hv1 (by decide), hv2, fun k v xs hv hx => (hv3 k v xs hv hx).keep T6 (fun g cs hcs _ he => by subst he; exact absurd (key hcs) (by decide)) rv' (fun g hg => .inl hg)⟩, ok hN5.rul (by decide)⟩)
 have HT6 : Hid (Turn (nfaS nb cv nv rv) w W6) := zh (by
  have a1 : Turn (nfaS nb cv nv rv) w W3 := ((Turn.of_ext HX1.out).trans HT2.out).trans (Turn.of_ext HX3.out)
  have a2 : Turn (nfaS nb cv nv rv) w w5 := a1.andThen hT5 (fun k _ hk => hk) (fun k hk hk2 => by
   rcases HG2.out k (.inr (.inr (.inl hk2))) with h | h
   ·exact h
   ·have := HWP.out; omega)
  exact a2.andThen T6 (fun k _ hk => hk) (fun k hk he => by have := HWP.out; omega))
 have HGG : Hid (∀ g, nfaS nb cv' nv' rv' g → nfaS nb cv nv rv g ∨ w.heap.size ≤ g) := zh (fun g hg => (HG2.out g hg).imp id fun h => by have := HWP.out; omega)
 have lr := lt_of_heap P5
 have ld := lt_of_heap B5
 unfold put3 put2 at hW6
 clear B5 Q5 P5 P6 T6 hN5 hT5 hS key hF5 hL5 c1 c2 p0 q0'
 go_wp2_with fail
 exact bodyPost_ret (v := .agg #[.bool false, .slice (some ⟨f, 0, none⟩) 1 1, .slice (some ⟨l, 0, none⟩) 1 1]) (by simp [results, Tryz.results144, go_sem, *]) rfl
  ⟨f, l, cv', nv', rv', rfl, by have := HWP.out; have := HFL.out; omega, by have := HWP.out; have := HFL.out; omega, HF6.out, HL6.out, HN6.out, HT6.out, HFL.out.2.2.1, HFL.out.2.2.2, HGG.out⟩
def Rx2 (w : World) (L : Option Addr) (z1 z2 : Cl) : Prop := ∃ g off A1 c1 A2 c2, L = some ⟨g, off, none⟩ ∧ g < w.heap.size ∧ w.cell? ⟨g, off, none⟩ = some (.slice A1 2 c1) ∧ w.cell? ⟨g, off + 1, none⟩ = some (.slice A2 2 c2) ∧ R2 w A1 z1 ∧ R2 w A2 z2
theorem Rx2.ext {w w' : World} {L : Option Addr} {z1 z2 : Cl} (h : Rx2 w L z1 z2) (e : Ext w w') : Rx2 w' L z1 z2 := by
 obtain ⟨g, off, A1, c1, A2, c2, h1, h2, h3, h4, h5, h6⟩ := h
 exact ⟨g, off, A1, c1, A2, c2, h1, Nat.lt_of_lt_of_le h2 e.size, ext_cell h3 h2 e, ext_cell h4 h2 e, h5.ext e, h6.ext e⟩
structure NfaRd (w : World) (cv nv rv : Value) (cs : List Cl) (nx : List (List Int)) (rl : List Int) : Prop where
 cls : ∃ A c, cv = .slice A cs.length c ∧ CellsAt w A (cs.flatMap Cl.cells) ∧ cs.length ≤ c
 nxt : ∃ A c vs, nv = .slice A cs.length c ∧ CellsAt w A vs ∧ vs.length = nx.length ∧ cs.length ≤ c ∧ ∀ (k : Nat) (v : Value) (xs : List Int), vs[k]? = some v → nx[k]? = some xs → ∃ D d, v = .slice D xs.length d ∧ Ints w D xs ∧ xs.length ≤ d
 rul : ∃ A c, rv = .slice A cs.length c ∧ Ints w A rl ∧ cs.length ≤ c
 len : nx.length = cs.length ∧ rl.length = cs.length
theorem NfaAt.rd {w : World} {nb base m : Nat} {cc rc : List Value} {nx : List (List Int)} {cv nv rv : Value} {cls : List Cl} {rl : List Int} (h : NfaAt w nb base m cc rc nx cv nv rv) (hc : cc = cls.flatMap Cl.cells) (hr : rc = iv rl) (hm : cls.length = m) (hn : nx.length = m) : NfaRd w cv nv rv cls nx rl := by
 subst hc hr
 obtain ⟨A, c, h1, h2, h3, _⟩ := own_cells h.cls
 obtain ⟨vs, hv, hvl, hvi⟩ := h.nxt
 obtain ⟨B, d, k1, k2, k3, _⟩ := own_cells hv
 have hrl : rl.length = m := by have := h.rul.1; rw [iv_length] at this; omega
 obtain ⟨C, e, j1, j2, j3, _⟩ := own_cells h.rul
 have hi : OwnI w base C e rl := by
  have := h.rul
  rw [j1, ← hrl] at this
  exact this
 exact ⟨⟨A, c, by rw [hm]; exact h1, h2, by omega⟩, ⟨B, d, vs, by rw [hm]; exact k1, k2, hvl, by omega, fun k v xs hk hx => by
  obtain ⟨D, dd, a1, a2, a3, _⟩ := hvi k v xs hk hx
  exact ⟨D, dd, a1, a2, a3⟩⟩, ⟨C, e, by rw [hm]; exact j1, hi.ints.1, by omega⟩, by omega, by omega⟩
theorem NfaAt.old {w : World} {nb base m : Nat} {cc rc : List Value} {nx : List (List Int)} {cv nv rv : Value} (h : NfaAt w nb base m cc rc nx cv nv rv) : ∀ k, nfaS nb cv nv rv k → base ≤ k ∧ k < w.heap.size := fun k hk => by
 obtain ⟨vs, h1, _⟩ := h.nxt
 rcases hk with hk | hk | hk | hk
 ·have := lt_of_heap h.blk; have := h.low; omega
 ·exact ⟨own_block h.cls k hk, own_old h.cls k hk⟩
 ·exact ⟨own_block h1 k hk, own_old h1 k hk⟩
 ·exact ⟨own_block h.rul k hk, own_old h.rul k hk⟩
theorem NfaAt.keep0 {w w' : World} {nb base m b : Nat} {cc rc : List Value} {nx : List (List Int)} {cv nv rv : Value} {cs : Array Value} {T : TypeId} (h : NfaAt w nb base m cc rc nx cv nv rv) (hb : w.heap[b]? = some (.cells cs T)) (hT : T ≠ 3) (hl : b < base) (t : Turn (fun k => k = b) w w') : NfaAt w' nb base m cc rc nx cv nv rv := by
 obtain ⟨vs, h1, h2, h3⟩ := h.nxt
 exact ⟨t.keep h.blk (by have := h.low; omega), h.low, own_keep h.cls fun k hk => t.block k (own_old h.cls k hk) (by have := own_block h.cls k hk; omega),
  ⟨vs, own_keep h1 fun k hk => t.block k (own_old h1 k hk) (by have := own_block h1 k hk; omega), h2, fun k u ys hu hy => (h3 k u ys hu hy).keep t (fun k cs hcs _ hk => by subst hk; exact ne_type hcs hb (Ne.symm hT) rfl) _ (fun _ hg => .inl hg)⟩,
  own_keep h.rul fun k hk => t.block k (own_old h.rul k hk) (by have := own_block h.rul k hk; omega)⟩
theorem ints1 {w : World} {f : Nat} {x : Int} (h : w.heap[f]? = some (.cells #[.int .i64 x] 3)) : Ints w (some ⟨f, 0, none⟩) [x] := fun _ => ⟨f, 0, rfl, lt_of_heap h, fun k hk => by
 obtain rfl : k = 0 := by simpa using hk
 exact (cell_of_row _ _ 0 _ _ _ h).trans (by simp)⟩
set_option maxRecDepth 100000 in
set_option maxHeartbeats 8000000 in
theorem nfa_two (L : Option Addr) (lc : Nat) (z1 z2 : Cl) (w : World) (h : Rx2 w L z1 z2) :
 Calls Tryz.prog 97 #[.slice L 2 lc] w fun e w' => ∃ cv nv rv, e = .returned (.tuple #[.agg #[cv, nv, rv], .int .i64 0]) ∧ NfaRd w' cv nv rv [Cl.zero, z1, z2] [[1, 2], [1], [2]] [-1, 0, 1] ∧ Ext w w' := by
 have H := zh h
 obtain ⟨W, hW⟩ : ∃ W, (((((w.alloc (.cells #[nil0, nil0, nil0] 148)).alloc (.cells #[.int .u64 0, .int .u64 0, .int .u64 0, .int .u64 0] 191)).alloc (.cells #[nil0] 31)).alloc (.cells #[.int .i64 (-1)] 3)).alloc (.cells #[.slice (some ⟨w.heap.size + 1, 0, none⟩) 1 1, .slice (some ⟨w.heap.size + 1 + 1, 0, none⟩) 1 1, .slice (some ⟨w.heap.size + 1 + 1 + 1, 0, none⟩) 1 1] 148)) = W := ⟨_, rfl⟩
 obtain ⟨g0, hg0⟩ : ∃ g0, w.heap.size = g0 := ⟨_, rfl⟩
 have X1 : Ext w W := by rw [← hW]; exact (by repeat first | exact xr _ | refine xa ?_ _ | refine xm ?_ _ _ | refine xd ?_ | refine xn ?_ _ | refine xs ?_ (by simp <;> omega) _)
 have RB : W.heap[g0]? = some (.cells #[nil0, nil0, nil0] 148) := by rw [← hW, ← hg0]; exact (by simp only [heap_alloc_get, World.size_alloc]; (repeat (split; (first | rfl | (exfalso; omega)))); (try (first | (exfalso; omega) | simp_all)))
 have NB : W.heap[g0 + 4]? = some (.cells #[.slice (some ⟨g0 + 1, 0, none⟩) 1 1, .slice (some ⟨g0 + 2, 0, none⟩) 1 1, .slice (some ⟨g0 + 3, 0, none⟩) 1 1] 148) := by rw [← hW, ← hg0]; exact (by simp only [heap_alloc_get, World.size_alloc]; (repeat (split; (first | rfl | (exfalso; omega)))); (try (first | (exfalso; omega) | simp_all)))
 have C1 : W.heap[g0 + 1]? = some (.cells #[.int .u64 0, .int .u64 0, .int .u64 0, .int .u64 0] 191) := by rw [← hW, ← hg0]; exact (by simp only [heap_alloc_get, World.size_alloc]; (repeat (split; (first | rfl | (exfalso; omega)))); (try (first | (exfalso; omega) | simp_all)))
 have N1 : W.heap[g0 + 2]? = some (.cells #[nil0] 31) := by rw [← hW, ← hg0]; exact (by simp only [heap_alloc_get, World.size_alloc]; (repeat (split; (first | rfl | (exfalso; omega)))); (try (first | (exfalso; omega) | simp_all)))
 have U1 : W.heap[g0 + 3]? = some (.cells #[.int .i64 (-1)] 3) := by rw [← hW, ← hg0]; exact (by simp only [heap_alloc_get, World.size_alloc]; (repeat (split; (first | rfl | (exfalso; omega)))); (try (first | (exfalso; omega) | simp_all)))
 have HN0 : Hid (NfaAt W (g0 + 4) (g0 + 1) 1 Cl.zero.cells [.int .i64 (-1)] [[]] (.slice (some ⟨g0 + 1, 0, none⟩) 1 1) (.slice (some ⟨g0 + 2, 0, none⟩) 1 1) (.slice (some ⟨g0 + 3, 0, none⟩) 1 1)) := zh (by
  refine ⟨NB, by omega, ⟨rfl, .inr ⟨_, 1, _, rfl, Nat.le_refl _, C1, Nat.le_refl _, by unfold maxLen; omega, rfl, rfl⟩⟩, ⟨[nil0], ⟨rfl, .inr ⟨_, 1, _, rfl, by omega, N1, Nat.le_refl _, by unfold maxLen; omega, rfl, rfl⟩⟩, rfl, fun k v xs hv hx => ?_⟩, ⟨rfl, .inr ⟨_, 1, _, rfl, by omega, U1, Nat.le_refl _, by unfold maxLen; omega, rfl, rfl⟩⟩⟩
  obtain rfl : k = 0 := by
   have := (List.getElem?_eq_some_iff.1 hv).1
   simpa using this
  simp at hv hx
  subst hv hx
  exact IntSl.nil _ _)
 have HX0 := zh X1
 have RB0 := zh RB
 have HG0 := zh hg0
 have hx1 := (h.ext X1)
 have HR := zh hx1
 obtain ⟨g, off, A1, c1, A2, c2, rfl, lg, x0, x1, R1, R2'⟩ := hx1
 have HR1 := zh R1
 have HR2 := zh R2'
 have HW := zh hW
 clear h X1 RB NB C1 N1 U1 hW hg0 R1 R2'
 go_enter Tryz.func97, Tryz.ntmps97
 go_wp2_with fail
 simp only [HW.out]
 simp only [HG0.out]
 refine wp_loop_rounds 3 ?_
 rw [rounds_succ]
 go_wp2_with fail
 refine (check_r2 A1 c1 z1 W HR1.out).mono ?_
 rintro e V1 ⟨rfl, hx1⟩
 have HXa := zh hx1
 have x1' := ext_cell x1 lg hx1
 have lg' := Nat.lt_of_lt_of_le lg hx1.size
 clear x0 x1 lg hx1
 go_wp2_with fail
 rw [rounds_succ]
 go_wp2_with fail
 refine (check_r2 A2 c2 z2 V1 (HR2.out.ext HXa.out)).mono ?_
 rintro e V2 ⟨rfl, hx2⟩
 have HXb := zh (HXa.out.trans hx2)
 have HN2 := zh (HN0.out.ext HXb.out)
 have RB2 := zh (ext_block RB0.out HXb.out)
 have HX2 := zh (HX0.out.trans HXb.out)
 clear x1' lg' hx2
 go_wp2_with fail
 rw [rounds_succ]
 go_wp2_with fail
 refine wp_loop_rounds 3 ?_
 rw [rounds_succ]
 obtain ⟨gga, ofa, A1a, c1a, A2a, c2a, hEa, lga, x0a, x1a, R1a, R2a⟩ := H.out.ext HX2.out
 injection hEa with hEa
 injection hEa with hEa1 hEa2
 subst hEa1 hEa2
 have HRa := zh R1a
 clear R1a R2a
 go_upto_region 13 with fail
 go_cut [8] from 40 to 50 (fun b8 wx => ∃ f l b cv' nv' rv', b8 = .pointer (some ⟨b, 0, none⟩) ∧ Hid (wx.heap[b]? = some (.cells #[.bool false, .slice (some ⟨f, 0, none⟩) 1 1, .slice (some ⟨l, 0, none⟩) 1 1] 194)) ∧ Hid (wx.heap[f]? = some (.cells #[.int .i64 1] 3)) ∧ Hid (wx.heap[l]? = some (.cells #[.int .i64 1] 3)) ∧
  Hid (NfaAt wx (g0 + 4) (g0 + 1) 2 (Cl.zero.cells ++ z1.cells) [.int .i64 (-1), .int .i64 (-1)] [[], [1]] cv' nv' rv') ∧ Hid (wx.heap[g0]? = some (.cells #[nil0, nil0, nil0] 148)) ∧ Hid (Ext w wx) ∧ Hid (rv'.ownBlock ≠ some f ∧ rv'.ownBlock ≠ some l))
 case first =>
  have HLOW : Hid (∀ k, nfaS (g0 + 4) (.slice (some ⟨g0 + 1, 0, none⟩) 1 1) (.slice (some ⟨g0 + 2, 0, none⟩) 1 1) (.slice (some ⟨g0 + 3, 0, none⟩) 1 1) k → g0 + 1 ≤ k ∧ k < V2.heap.size) := zh HN2.out.old
  refine wp_region_bt (10) (pures_bt [0, 1, 2, 4, 5, 6] (softs_bt [3, 7, 8, 9] (.two (.step 10 (.late 11 (.late 12 .fin))) (.step 11 (.step 10 (.late 12 .fin)))))) (by kernel_rfl) (by kernel_rfl) ?_
  refine bt_pures _ fun K hK => ?_; simp only [pick, nthC]; (repeat go_big_quiet_step (fail)); refine wpQuiet_nil (hK _ ?_); clear hK K
  refine bt_softs _ fun K hK => ?_; simp only [pick, nthC]; (repeat go_big_quiet_step (fail)); refine wpQuiet_nil (hK _ ?_); clear hK K
  clear x0a x1a lga
  have XD : Ext V2 V2.drew := (by repeat first | exact xr _ | refine xa ?_ _ | refine xm ?_ _ _ | refine xd ?_ | refine xn ?_ _ | refine xs ?_ (by simp <;> omega) _)
  refine ⟨?_, ?_⟩
  ·refine bt_step fun next hn => ?_; simp only [pick, nthC]
   go_wp2_with fail
   refine (node_plus A1a c1a z1 (g0 + 4) (g0 + 1) 1 Cl.zero.cells [.int .i64 (-1)] [[]] _ _ _ _ (HRa.out.ext XD) (HN2.out.ext XD) (by omega) (by rfl)).mono ?_
   rintro e w2 ⟨f, l, cv', nv', rv', rfl, hf, hl, hF, hL, hN2, hT2, hrf, hrl, hG2⟩
   have HF := zh hF
   have HL := zh hL
   have HNn := zh hN2
   have HRF := zh (And.intro hrf hrl)
   have HRB := zh (hT2.keep RB2.out (fun hk => by have := (HLOW.out _ hk).1; omega))
   have HXX := zh (hT2.ext (HX2.out.trans XD) (fun k hk => by have := (HLOW.out _ hk).1; have := HG0.out; omega))
   clear hf hl hF hL hN2 hT2 hrf hrl hG2
   go_wp2_with fail
   refine segQ_mk (fun h => absurd rfl h) (hn _ _ ?_)
   clear hn next
   refine bt_late fun next hn => ?_; simp only [pick, nthC]
   go_wp2_with fail
   refine segQ_mk (fun _ => trivial) (hn _ _ ?_)
   clear hn next
   refine bt_late fun next hn => ?_; simp only [pick, nthC]
   go_wp2_with fail
   refine segQ_mk (fun _ => trivial) (hn _ _ ?_)
   clear hn next
   (refine bt_fin ?_)
   go_wp2_with fail
   go_meet
   have XA : Ext w2 (w2.alloc (.cells #[.bool false, .slice (some ⟨f, 0, none⟩) 1 1, .slice (some ⟨l, 0, none⟩) 1 1] 194)) := (by repeat first | exact xr _ | refine xa ?_ _ | refine xm ?_ _ _ | refine xd ?_ | refine xn ?_ _ | refine xs ?_ (by simp <;> omega) _)
   exact ⟨f, l, _, cv', nv', rv', rfl, zh (heap_alloc_new w2 _), zh (ext_block HF.out XA), zh (ext_block HL.out XA), zh (HNn.out.ext XA), zh (ext_block HRB.out XA), zh (HXX.out.trans XA), HRF⟩
  ·refine bt_step fun next hn => ?_; simp only [pick, nthC]
   go_wp2_with fail
   have XA : Ext V2 (V2.alloc (.cells #[.bool false, nil0, nil0] 194)).drew := (by repeat first | exact xr _ | refine xa ?_ _ | refine xm ?_ _ _ | refine xd ?_ | refine xn ?_ _ | refine xs ?_ (by simp <;> omega) _)
   refine segQ_mk (fun _ => laid XA) (hn _ _ ?_)
   clear hn next
   obtain ⟨b, hb⟩ : ∃ b, V2.heap.size = b := ⟨_, rfl⟩
   obtain ⟨Vb, hVb⟩ : ∃ Vb, (V2.alloc (.cells #[.bool false, nil0, nil0] 194)).drew = Vb := ⟨_, rfl⟩
   have PB : Vb.heap[b]? = some (.cells #[.bool false, nil0, nil0] 194) := by rw [← hVb, ← hb]; exact heap_alloc_new V2 _
   have HPB := zh PB
   rw [hVb] at XA
   have HXA := zh XA
   have HVB := zh hVb
   simp only [hVb, hb]
   clear hVb PB XA
   refine bt_step fun next hn => ?_; simp only [pick, nthC]
   go_wp2_with fail
   refine (node_plus A1a c1a z1 (g0 + 4) (g0 + 1) 1 Cl.zero.cells [.int .i64 (-1)] [[]] _ _ _ _ (HRa.out.ext HXA.out) (HN2.out.ext HXA.out) (by omega) (by rfl)).mono ?_
   rintro e w2 ⟨f, l, cv', nv', rv', rfl, hf, hl, hF, hL, hN2, hT2, hrf, hrl, hG2⟩
   have PB2 := hT2.keep HPB.out (fun hk => by have := (HLOW.out _ hk).2; omega)
   have hbF : b ≠ f := ne_type PB2 hF (by decide)
   have hbL : b ≠ l := ne_type PB2 hL (by decide)
   have T3 : Turn (fun k => k = b) w2 (put3 w2 b (.bool false) (.slice (some ⟨f, 0, none⟩) 1 1) (.slice (some ⟨l, 0, none⟩) 1 1)) := put3_turn (S := fun k => k = b) rfl _ _ _
   have HB3 := zh (put3_at PB2 (.bool false) (.slice (some ⟨f, 0, none⟩) 1 1) (.slice (some ⟨l, 0, none⟩) 1 1))
   have HF := zh (T3.keep hF (Ne.symm hbF))
   have HL := zh (T3.keep hL (Ne.symm hbL))
   have HNn := zh (hN2.keepB PB2 (by decide) T3)
   have HRF := zh (And.intro hrf hrl)
   have hRB := hT2.keep (ext_block RB2.out HXA.out) (fun hk => by have := (HLOW.out _ hk).1; omega)
   have HRB := zh (T3.keep hRB (ne_type hRB PB2 (by decide)))
   have HXX := zh (T3.ext (hT2.ext (HX2.out.trans HXA.out) (fun k hk => by have := (HLOW.out _ hk).1; have := HG0.out; omega)) (fun k hk => by have := HX2.out.size; omega))
   obtain ⟨W3, hW3⟩ : ∃ W3, put3 w2 b (.bool false) (.slice (some ⟨f, 0, none⟩) 1 1) (.slice (some ⟨l, 0, none⟩) 1 1) = W3 := ⟨_, rfl⟩
   rw [hW3] at HB3 HF HL HNn HRB HXX
   have r0 := cell_of_row _ _ 0 _ _ _ PB2
   have r1 := cell_of_row _ _ 1 _ _ _ PB2
   have r2 := cell_of_row _ _ 2 _ _ _ PB2
   have ff := fun k => row_frozen PB2 k
   simp at r0 r1 r2
   unfold put3 put2 at hW3
   clear hf hl hF hL hN2 hT2 hrf hrl hG2 PB2 T3 hbF hbL hRB
   go_wp2_with fail
   refine segQ_mk (fun h => absurd rfl h) (hn _ _ ?_)
   clear hn next
   refine bt_late fun next hn => ?_; simp only [pick, nthC]
   go_wp2_with fail
   refine segQ_mk (fun _ => trivial) (hn _ _ ?_)
   clear hn next
   (refine bt_fin ?_)
   clear hW3 r0 r1 r2 ff
   go_wp2_with fail
   go_meet
   exact ⟨f, l, b, cv', nv', rv', rfl, HB3, HF, HL, HNn, HRB, HXX, HRF⟩
 case rest =>
  obtain ⟨fa, la, ba, cva, nva, rva, rfl, hBa, hFa, hLa, hNa, hRBa, hXa, hRFa⟩ := hcut
  clear x0a x1a lga
  try simp only [show g0 + 1 + 1 + 1 + 1 = g0 + 4 from rfl]
  have HLOW2a := zh hNa.out.old
  obtain ⟨nsa, hnsa, hnsla, hnsia⟩ := hNa.out.nxt
  obtain ⟨gna, kna, rfl, hgn1a, hgn2a, ⟨curna, hcurna⟩, hgn3a, hgn4a⟩ := own_slice hnsa (by omega)
  obtain ⟨gra, kra, rfl, hgr1a, hgr2a, ⟨curra, hcurra⟩, hgr3a, hgr4a⟩ := own_slice hNa.out.rul (by omega)
  obtain ⟨v0a, hv0a⟩ : ∃ v, nsa[0]? = some v := ⟨_, List.getElem?_eq_getElem (by rw [hnsla]; decide)⟩
  obtain ⟨AAa, caa, rfl, hAa, hAca, hAc2a, hA0a, hA1a⟩ := hnsia 0 v0a [] hv0a rfl
  have HUa : Hid (∀ W, Ext wc W → Calls Tryz.prog 145 #[.slice AAa 0 caa, .slice (some ⟨fa, 0, none⟩) 1 1] W fun e w' => ∃ A2 c2, e = .returned (.slice A2 1 c2) ∧ OwnI w' W.heap.size A2 c2 [1] ∧ Ext W w') := zh (fun W e => union_rise AAa (some ⟨fa, 0, none⟩) caa 1 [] [1] W (hAa.ext e) ((ints1 hFa.out).ext e) hAca hA0a (by decide) (by simp))
  have n0a := hgn4a 0 _ hv0a
  have b1a := cell_of_row _ _ 1 _ _ _ hNa.out.blk
  simp at b1a
  have lba := lt_of_heap hNa.out.blk
  have p1a := cell_of_row _ _ 1 _ _ _ hBa.out
  simp at p1a
  have lpa := lt_of_heap hBa.out
  have HCNa := zh hcurna
  have HCRa := zh hcurra
  have HGNa := zh (And.intro hgn1a hgn2a)
  have HGRa := zh (And.intro hgr1a hgr2a)
  clear hnsa hnsla hnsia hgn1a hgn3a hgn4a hcurna hcurra hgr1a hgr2a hgr3a hgr4a hv0a hAa hAca hAc2a hA0a hA1a
  go_upto_region 14 with fail
  refine wp_region_bt (10) (pures_bt [0, 2, 6] (softs_bt [1, 3, 4, 5, 7] (.step 8 (pures_bt [9] (.step 10 .fin))))) (by kernel_rfl) (by kernel_rfl) ?_
  refine bt_pures _ fun K hK => ?_; simp only [pick, nthC]; (repeat go_big_quiet_step (fail)); refine wpQuiet_nil (hK _ ?_); clear hK K
  refine bt_softs _ fun K hK => ?_; simp only [pick, nthC]; (repeat go_big_quiet_step (fail)); refine wpQuiet_nil (hK _ ?_); clear hK K
  refine bt_step fun next hn => ?_; simp only [pick, nthC]
  go_wp2_with fail
  refine (HUa.out _ (by repeat first | exact xr _ | refine xa ?_ _ | refine xm ?_ _ _ | refine xd ?_ | refine xn ?_ _ | refine xs ?_ (by simp <;> omega) _)).mono ?_
  rintro e w2a ⟨A8a, c8a, rfl, ho2a, hx2a⟩
  have Y2a : Hid (Ext wc w2a) := zh (Ext.trans (by repeat first | exact xr _ | refine xa ?_ _ | refine xm ?_ _ _ | refine xd ?_ | refine xn ?_ _ | refine xs ?_ (by simp <;> omega) _) hx2a)
  have HO2a := zh ho2a
  clear ho2a hx2a
  go_wp2_with fail
  refine segQ_mk (fun _ => laid Y2a.out) (hn _ _ ?_)
  clear hn next
  refine bt_pures _ fun K hK => ?_; simp only [pick, nthC]; (repeat go_big_quiet_step (fail)); refine wpQuiet_nil (hK _ ?_); clear hK K
  have hI2a : IntSl w2a (.slice (some ⟨gra, 0, none⟩) 2 kra) (.slice A8a 1 c8a) [1] := by
   obtain ⟨h1, h2, h3, h4⟩ := HO2a.out.ints
   refine ⟨A8a, c8a, rfl, h1, h2, by unfold maxLen at h3; omega, h4, fun k off s hA => ?_⟩
   subst hA
   have hk : (Value.slice (some ⟨k, off, s⟩) 1 c8a).ownBlock = some k := rfl
   refine ⟨own_obj HO2a.out k hk, fun hh => ?_⟩
   have h5 := own_old hNa.out.rul k hh
   have h6 := own_block HO2a.out k hk
   have : wc.heap.size ≤ k := h6
   omega
  have hN8a := (hNa.out.ext Y2a.out).setNext 0 hI2a
  obtain ⟨W3a, hW3a⟩ : ∃ W3, w2a.setCell ⟨gna, 0, none⟩ (.slice A8a 1 c8a) = W3 := ⟨_, rfl⟩
  have hN9a : NfaAt (w2a.setCell ⟨gna, 0, none⟩ (.slice A8a 1 c8a)) (g0 + 4) (g0 + 1) 2 (Cl.zero.cells ++ z1.cells) [.int .i64 (-1), .int .i64 (-1)] [[1], [1]] cva (.slice (some ⟨gna, 0, none⟩) 2 kna) (.slice (some ⟨gra, 0, none⟩) 2 kra) := hN8a
  rw [hW3a] at hN9a
  have T8a : Turn (fun k => k = gna) w2a W3a := by rw [← hW3a]; exact Turn.set1 _ _ _
  have hgnB := ext_block HCNa.out Y2a.out
  have n2a := ext_cell n0a HGNa.out.2 Y2a.out
  have f2a := row_frozen hgnB 0
  have HB8a := zh (T8a.keep (ext_block hBa.out Y2a.out) (ne_type (ext_block hBa.out Y2a.out) hgnB (by decide)))
  have HL8a := zh (T8a.keep (ext_block hLa.out Y2a.out) (ne_type (ext_block hLa.out Y2a.out) hgnB (by decide)))
  have HRB8a := zh (T8a.keep (ext_block hRBa.out Y2a.out) (ne_type (ext_block hRBa.out Y2a.out) hgnB (by decide)))
  have HCR8a := zh (T8a.keep (ext_block HCRa.out Y2a.out) (ne_type (ext_block HCRa.out Y2a.out) hgnB (by decide)))
  have HX8a := zh (T8a.ext (hXa.out.trans Y2a.out) (fun k hk => by have := HGNa.out.1; have := HG0.out; omega))
  have HN9a := zh hN9a
  clear hI2a hN8a hN9a T8a n0a b1a lba p1a lpa hgnB
  refine bt_step fun next hn => ?_; simp only [pick, nthC]
  go_wp2_with fail
  refine segQ_mk (fun h => absurd rfl h) (hn _ _ ?_)
  clear hn next
  (refine bt_fin ?_)
  clear hW3a n2a f2a
  clear hNa hBa hFa hLa hRBa hXa HCNa HCRa HLOW2a HUa
  have b2a := cell_of_row _ _ 2 _ _ _ HN9a.out.blk
  simp at b2a
  have lba := lt_of_heap HN9a.out.blk
  have p0a := cell_of_row _ _ 0 _ _ _ HB8a.out
  have p2a := cell_of_row _ _ 2 _ _ _ HB8a.out
  have q0a := cell_of_row _ _ 0 _ _ _ HL8a.out
  simp at p0a p2a q0a
  have lpa := lt_of_heap HB8a.out
  have lla := lt_of_heap HL8a.out
  go_wp2_with fail
  refine wp_loop_rounds 2 ?_
  rw [rounds_succ]
  go_upto_region 18 with fail
  obtain ⟨gq, kq, he, _, hgr2a, ⟨cqa, hcqa⟩, hgr3a, hgr4a⟩ := own_slice HN9a.out.rul (by omega)
  injection he with he1 _ he2
  injection he1 with he1
  injection he1 with he1
  subst he1 he2
  have x9a := hgr4a 1 _ rfl
  have f9a := hgr3a 1
  obtain ⟨W4a, hW4a⟩ : ∃ W4, W3a.setCell ⟨gra, 1, none⟩ (.int .i64 0) = W4 := ⟨_, rfl⟩
  have hN4a : NfaAt (W3a.setCell ⟨gra, 1, none⟩ (.int .i64 0)) (g0 + 4) (g0 + 1) 2 (Cl.zero.cells ++ z1.cells) [.int .i64 (-1), .int .i64 0] [[1], [1]] cva (.slice (some ⟨gna, 0, none⟩) 2 kna) (.slice (some ⟨gra, 0, none⟩) 2 kra) := HN9a.out.setRule 1 (.int .i64 0)
  have T9a : Turn (fun k => k = gra) W3a (W3a.setCell ⟨gra, 1, none⟩ (.int .i64 0)) := Turn.set1 _ _ _
  rw [hW4a] at hN4a T9a
  have HB4a := zh (T9a.keep HB8a.out (ne_type HB8a.out hcqa (by decide)))
  have HRB4a := zh (T9a.keep HRB8a.out (ne_type HRB8a.out hcqa (by decide)))
  have HX4a := zh (T9a.ext HX8a.out (fun k hk => by have := HGRa.out.1; have := HG0.out; omega))
  have HN4a := zh hN4a
  clear hN4a T9a hcqa hgr2a hgr3a hgr4a
  refine wp_region_bt (9) (pures_bt [0, 2, 4, 7] (softs_bt [1, 3, 5, 6, 8] (.step 9 .fin))) (by kernel_rfl) (by kernel_rfl) ?_
  refine bt_pures _ fun K hK => ?_; simp only [pick, nthC]; (repeat go_big_quiet_step (fail)); refine wpQuiet_nil (hK _ ?_); clear hK K
  refine bt_softs _ fun K hK => ?_; simp only [pick, nthC]; (repeat go_big_quiet_step (fail)); refine wpQuiet_nil (hK _ ?_); clear hK K
  refine bt_step fun next hn => ?_; simp only [pick, nthC]
  go_wp2_with fail
  refine segQ_mk (fun h => absurd rfl h) (hn _ _ ?_)
  clear hn next
  (refine bt_fin ?_)
  clear hW4a x9a f9a b2a lba p0a p2a q0a lpa lla
  clear HN9a HB8a HL8a HRB8a HCR8a HX8a
  have p0a := cell_of_row _ _ 0 _ _ _ HB4a.out
  have p2a := cell_of_row _ _ 2 _ _ _ HB4a.out
  simp at p0a p2a
  have lpa := lt_of_heap HB4a.out
  go_wp2_with fail
  rw [rounds_succ]
  go_wp2_with fail
  clear p0a p2a lpa
  have X5a : Ext W4a W4a.drew := (by repeat first | exact xr _ | refine xa ?_ _ | refine xm ?_ _ _ | refine xd ?_ | refine xn ?_ _ | refine xs ?_ (by simp <;> omega) _)
  obtain ⟨W5a, hW5a⟩ : ∃ W5, W4a.drew = W5 := ⟨_, rfl⟩
  rw [hW5a] at X5a
  have HN5a := zh (HN4a.out.ext X5a)
  have HRB5a := zh (ext_block HRB4a.out X5a)
  have HX5a := zh (HX4a.out.trans X5a)
  simp only [hW5a]
  clear hW5a X5a
  rw [rounds_succ]
  obtain ⟨ggb, ofb, A1b, c1b, A2b, c2b, hEb, lgb, x0b, x1b, R1b, R2b⟩ := H.out.ext HX5a.out
  injection hEb with hEb
  injection hEb with hEb1 hEb2
  subst hEb1 hEb2
  have HRb := zh R2b
  clear R1b R2b
  go_upto_region 13 with fail
  go_cut [8] from 40 to 50 (fun b8 wx => ∃ f l b cv' nv' rv', b8 = .pointer (some ⟨b, 0, none⟩) ∧ Hid (wx.heap[b]? = some (.cells #[.bool false, .slice (some ⟨f, 0, none⟩) 1 1, .slice (some ⟨l, 0, none⟩) 1 1] 194)) ∧ Hid (wx.heap[f]? = some (.cells #[.int .i64 2] 3)) ∧ Hid (wx.heap[l]? = some (.cells #[.int .i64 2] 3)) ∧
   Hid (NfaAt wx (g0 + 4) (g0 + 1) 3 ((Cl.zero.cells ++ z1.cells) ++ z2.cells) [.int .i64 (-1), .int .i64 0, .int .i64 (-1)] [[1], [1], [2]] cv' nv' rv') ∧ Hid (wx.heap[g0]? = some (.cells #[nil0, nil0, nil0] 148)) ∧ Hid (Ext w wx) ∧ Hid (rv'.ownBlock ≠ some f ∧ rv'.ownBlock ≠ some l))
  case first =>
   have HLOW : Hid (∀ k, nfaS (g0 + 4) (cva) (.slice (some ⟨gna, 0, none⟩) 2 kna) (.slice (some ⟨gra, 0, none⟩) 2 kra) k → g0 + 1 ≤ k ∧ k < W5a.heap.size) := zh HN5a.out.old
   refine wp_region_bt (10) (pures_bt [0, 1, 2, 4, 5, 6] (softs_bt [3, 7, 8, 9] (.two (.step 10 (.late 11 (.late 12 .fin))) (.step 11 (.step 10 (.late 12 .fin)))))) (by kernel_rfl) (by kernel_rfl) ?_
   refine bt_pures _ fun K hK => ?_; simp only [pick, nthC]; (repeat go_big_quiet_step (fail)); refine wpQuiet_nil (hK _ ?_); clear hK K
   refine bt_softs _ fun K hK => ?_; simp only [pick, nthC]; (repeat go_big_quiet_step (fail)); refine wpQuiet_nil (hK _ ?_); clear hK K
   clear x0b x1b lgb
   have XD : Ext W5a W5a.drew := (by repeat first | exact xr _ | refine xa ?_ _ | refine xm ?_ _ _ | refine xd ?_ | refine xn ?_ _ | refine xs ?_ (by simp <;> omega) _)
   refine ⟨?_, ?_⟩
   ·refine bt_step fun next hn => ?_; simp only [pick, nthC]
    go_wp2_with fail
    refine (node_plus A2b c2b z2 (g0 + 4) (g0 + 1) 2 (Cl.zero.cells ++ z1.cells) [.int .i64 (-1), .int .i64 0] [[1], [1]] _ _ _ _ (HRb.out.ext XD) (HN5a.out.ext XD) (by omega) (by rfl)).mono ?_
    rintro e w2 ⟨f, l, cv', nv', rv', rfl, hf, hl, hF, hL, hN2, hT2, hrf, hrl, hG2⟩
    have HF := zh hF
    have HL := zh hL
    have HNn := zh hN2
    have HRF := zh (And.intro hrf hrl)
    have HRB := zh (hT2.keep HRB5a.out (fun hk => by have := (HLOW.out _ hk).1; omega))
    have HXX := zh (hT2.ext (HX5a.out.trans XD) (fun k hk => by have := (HLOW.out _ hk).1; have := HG0.out; omega))
    clear hf hl hF hL hN2 hT2 hrf hrl hG2
    go_wp2_with fail
    refine segQ_mk (fun h => absurd rfl h) (hn _ _ ?_)
    clear hn next
    refine bt_late fun next hn => ?_; simp only [pick, nthC]
    go_wp2_with fail
    refine segQ_mk (fun _ => trivial) (hn _ _ ?_)
    clear hn next
    refine bt_late fun next hn => ?_; simp only [pick, nthC]
    go_wp2_with fail
    refine segQ_mk (fun _ => trivial) (hn _ _ ?_)
    clear hn next
    (refine bt_fin ?_)
    go_wp2_with fail
    go_meet
    have XA : Ext w2 (w2.alloc (.cells #[.bool false, .slice (some ⟨f, 0, none⟩) 1 1, .slice (some ⟨l, 0, none⟩) 1 1] 194)) := (by repeat first | exact xr _ | refine xa ?_ _ | refine xm ?_ _ _ | refine xd ?_ | refine xn ?_ _ | refine xs ?_ (by simp <;> omega) _)
    exact ⟨f, l, _, cv', nv', rv', rfl, zh (heap_alloc_new w2 _), zh (ext_block HF.out XA), zh (ext_block HL.out XA), zh (HNn.out.ext XA), zh (ext_block HRB.out XA), zh (HXX.out.trans XA), HRF⟩
   ·refine bt_step fun next hn => ?_; simp only [pick, nthC]
    go_wp2_with fail
    have XA : Ext W5a (W5a.alloc (.cells #[.bool false, nil0, nil0] 194)).drew := (by repeat first | exact xr _ | refine xa ?_ _ | refine xm ?_ _ _ | refine xd ?_ | refine xn ?_ _ | refine xs ?_ (by simp <;> omega) _)
    refine segQ_mk (fun _ => laid XA) (hn _ _ ?_)
    clear hn next
    obtain ⟨b, hb⟩ : ∃ b, W5a.heap.size = b := ⟨_, rfl⟩
    obtain ⟨Vb, hVb⟩ : ∃ Vb, (W5a.alloc (.cells #[.bool false, nil0, nil0] 194)).drew = Vb := ⟨_, rfl⟩
    have PB : Vb.heap[b]? = some (.cells #[.bool false, nil0, nil0] 194) := by rw [← hVb, ← hb]; exact heap_alloc_new W5a _
    have HPB := zh PB
    rw [hVb] at XA
    have HXA := zh XA
    have HVB := zh hVb
    simp only [hVb, hb]
    clear hVb PB XA
    refine bt_step fun next hn => ?_; simp only [pick, nthC]
    go_wp2_with fail
    refine (node_plus A2b c2b z2 (g0 + 4) (g0 + 1) 2 (Cl.zero.cells ++ z1.cells) [.int .i64 (-1), .int .i64 0] [[1], [1]] _ _ _ _ (HRb.out.ext HXA.out) (HN5a.out.ext HXA.out) (by omega) (by rfl)).mono ?_
    rintro e w2 ⟨f, l, cv', nv', rv', rfl, hf, hl, hF, hL, hN2, hT2, hrf, hrl, hG2⟩
    have PB2 := hT2.keep HPB.out (fun hk => by have := (HLOW.out _ hk).2; omega)
    have hbF : b ≠ f := ne_type PB2 hF (by decide)
    have hbL : b ≠ l := ne_type PB2 hL (by decide)
    have T3 : Turn (fun k => k = b) w2 (put3 w2 b (.bool false) (.slice (some ⟨f, 0, none⟩) 1 1) (.slice (some ⟨l, 0, none⟩) 1 1)) := put3_turn (S := fun k => k = b) rfl _ _ _
    have HB3 := zh (put3_at PB2 (.bool false) (.slice (some ⟨f, 0, none⟩) 1 1) (.slice (some ⟨l, 0, none⟩) 1 1))
    have HF := zh (T3.keep hF (Ne.symm hbF))
    have HL := zh (T3.keep hL (Ne.symm hbL))
    have HNn := zh (hN2.keepB PB2 (by decide) T3)
    have HRF := zh (And.intro hrf hrl)
    have hRB := hT2.keep (ext_block HRB5a.out HXA.out) (fun hk => by have := (HLOW.out _ hk).1; omega)
    have HRB := zh (T3.keep hRB (ne_type hRB PB2 (by decide)))
    have HXX := zh (T3.ext (hT2.ext (HX5a.out.trans HXA.out) (fun k hk => by have := (HLOW.out _ hk).1; have := HG0.out; omega)) (fun k hk => by have := HX5a.out.size; omega))
    obtain ⟨W3, hW3⟩ : ∃ W3, put3 w2 b (.bool false) (.slice (some ⟨f, 0, none⟩) 1 1) (.slice (some ⟨l, 0, none⟩) 1 1) = W3 := ⟨_, rfl⟩
    rw [hW3] at HB3 HF HL HNn HRB HXX
    have r0 := cell_of_row _ _ 0 _ _ _ PB2
    have r1 := cell_of_row _ _ 1 _ _ _ PB2
    have r2 := cell_of_row _ _ 2 _ _ _ PB2
    have ff := fun k => row_frozen PB2 k
    simp at r0 r1 r2
    unfold put3 put2 at hW3
    clear hf hl hF hL hN2 hT2 hrf hrl hG2 PB2 T3 hbF hbL hRB
    go_wp2_with fail
    refine segQ_mk (fun h => absurd rfl h) (hn _ _ ?_)
    clear hn next
    refine bt_late fun next hn => ?_; simp only [pick, nthC]
    go_wp2_with fail
    refine segQ_mk (fun _ => trivial) (hn _ _ ?_)
    clear hn next
    (refine bt_fin ?_)
    clear hW3 r0 r1 r2 ff
    go_wp2_with fail
    go_meet
    exact ⟨f, l, b, cv', nv', rv', rfl, HB3, HF, HL, HNn, HRB, HXX, HRF⟩
  case rest =>
   obtain ⟨fb, lb, bb, cvb, nvb, rvb, rfl, hBb, hFb, hLb, hNb, hRBb, hXb, hRFb⟩ := hcut
   clear x0b x1b lgb
   try simp only [show g0 + 1 + 1 + 1 + 1 = g0 + 4 from rfl]
   have HLOW2b := zh hNb.out.old
   obtain ⟨nsb, hnsb, hnslb, hnsib⟩ := hNb.out.nxt
   obtain ⟨gnb, knb, rfl, hgn1b, hgn2b, ⟨curnb, hcurnb⟩, hgn3b, hgn4b⟩ := own_slice hnsb (by omega)
   obtain ⟨grb, krb, rfl, hgr1b, hgr2b, ⟨currb, hcurrb⟩, hgr3b, hgr4b⟩ := own_slice hNb.out.rul (by omega)
   obtain ⟨v0b, hv0b⟩ : ∃ v, nsb[0]? = some v := ⟨_, List.getElem?_eq_getElem (by rw [hnslb]; decide)⟩
   obtain ⟨AAb, cab, rfl, hAb, hAcb, hAc2b, hA0b, hA1b⟩ := hnsib 0 v0b [1] hv0b rfl
   have HUb : Hid (∀ W, Ext wc W → Calls Tryz.prog 145 #[.slice AAb 1 cab, .slice (some ⟨fb, 0, none⟩) 1 1] W fun e w' => ∃ A2 c2, e = .returned (.slice A2 2 c2) ∧ OwnI w' W.heap.size A2 c2 [1, 2] ∧ Ext W w') := zh (fun W e => union_rise AAb (some ⟨fb, 0, none⟩) cab 1 [1] [2] W (hAb.ext e) ((ints1 hFb.out).ext e) hAcb hA0b (by decide) (by simp))
   have n0b := hgn4b 0 _ hv0b
   have b1b := cell_of_row _ _ 1 _ _ _ hNb.out.blk
   simp at b1b
   have lbb := lt_of_heap hNb.out.blk
   have p1b := cell_of_row _ _ 1 _ _ _ hBb.out
   simp at p1b
   have lpb := lt_of_heap hBb.out
   have HCNb := zh hcurnb
   have HCRb := zh hcurrb
   have HGNb := zh (And.intro hgn1b hgn2b)
   have HGRb := zh (And.intro hgr1b hgr2b)
   clear hnsb hnslb hnsib hgn1b hgn3b hgn4b hcurnb hcurrb hgr1b hgr2b hgr3b hgr4b hv0b hAb hAcb hAc2b hA0b hA1b
   go_upto_region 14 with fail
   refine wp_region_bt (10) (pures_bt [0, 2, 6] (softs_bt [1, 3, 4, 5, 7] (.step 8 (pures_bt [9] (.step 10 .fin))))) (by kernel_rfl) (by kernel_rfl) ?_
   refine bt_pures _ fun K hK => ?_; simp only [pick, nthC]; (repeat go_big_quiet_step (fail)); refine wpQuiet_nil (hK _ ?_); clear hK K
   refine bt_softs _ fun K hK => ?_; simp only [pick, nthC]; (repeat go_big_quiet_step (fail)); refine wpQuiet_nil (hK _ ?_); clear hK K
   refine bt_step fun next hn => ?_; simp only [pick, nthC]
   go_wp2_with fail
   refine (HUb.out _ (by repeat first | exact xr _ | refine xa ?_ _ | refine xm ?_ _ _ | refine xd ?_ | refine xn ?_ _ | refine xs ?_ (by simp <;> omega) _)).mono ?_
   rintro e w2b ⟨A8b, c8b, rfl, ho2b, hx2b⟩
   have Y2b : Hid (Ext wc w2b) := zh (Ext.trans (by repeat first | exact xr _ | refine xa ?_ _ | refine xm ?_ _ _ | refine xd ?_ | refine xn ?_ _ | refine xs ?_ (by simp <;> omega) _) hx2b)
   have HO2b := zh ho2b
   clear ho2b hx2b
   go_wp2_with fail
   refine segQ_mk (fun _ => laid Y2b.out) (hn _ _ ?_)
   clear hn next
   refine bt_pures _ fun K hK => ?_; simp only [pick, nthC]; (repeat go_big_quiet_step (fail)); refine wpQuiet_nil (hK _ ?_); clear hK K
   have hI2b : IntSl w2b (.slice (some ⟨grb, 0, none⟩) 3 krb) (.slice A8b 2 c8b) [1, 2] := by
    obtain ⟨h1, h2, h3, h4⟩ := HO2b.out.ints
    refine ⟨A8b, c8b, rfl, h1, h2, by unfold maxLen at h3; omega, h4, fun k off s hA => ?_⟩
    subst hA
    have hk : (Value.slice (some ⟨k, off, s⟩) 2 c8b).ownBlock = some k := rfl
    refine ⟨own_obj HO2b.out k hk, fun hh => ?_⟩
    have h5 := own_old hNb.out.rul k hh
    have h6 := own_block HO2b.out k hk
    have : wc.heap.size ≤ k := h6
    omega
   have hN8b := (hNb.out.ext Y2b.out).setNext 0 hI2b
   obtain ⟨W3b, hW3b⟩ : ∃ W3, w2b.setCell ⟨gnb, 0, none⟩ (.slice A8b 2 c8b) = W3 := ⟨_, rfl⟩
   have hN9b : NfaAt (w2b.setCell ⟨gnb, 0, none⟩ (.slice A8b 2 c8b)) (g0 + 4) (g0 + 1) 3 ((Cl.zero.cells ++ z1.cells) ++ z2.cells) [.int .i64 (-1), .int .i64 0, .int .i64 (-1)] [[1, 2], [1], [2]] cvb (.slice (some ⟨gnb, 0, none⟩) 3 knb) (.slice (some ⟨grb, 0, none⟩) 3 krb) := hN8b
   rw [hW3b] at hN9b
   have T8b : Turn (fun k => k = gnb) w2b W3b := by rw [← hW3b]; exact Turn.set1 _ _ _
   have hgnB := ext_block HCNb.out Y2b.out
   have n2b := ext_cell n0b HGNb.out.2 Y2b.out
   have f2b := row_frozen hgnB 0
   have HB8b := zh (T8b.keep (ext_block hBb.out Y2b.out) (ne_type (ext_block hBb.out Y2b.out) hgnB (by decide)))
   have HL8b := zh (T8b.keep (ext_block hLb.out Y2b.out) (ne_type (ext_block hLb.out Y2b.out) hgnB (by decide)))
   have HRB8b := zh (T8b.keep (ext_block hRBb.out Y2b.out) (ne_type (ext_block hRBb.out Y2b.out) hgnB (by decide)))
   have HCR8b := zh (T8b.keep (ext_block HCRb.out Y2b.out) (ne_type (ext_block HCRb.out Y2b.out) hgnB (by decide)))
   have HX8b := zh (T8b.ext (hXb.out.trans Y2b.out) (fun k hk => by have := HGNb.out.1; have := HG0.out; omega))
   have HN9b := zh hN9b
   clear hI2b hN8b hN9b T8b n0b b1b lbb p1b lpb hgnB
   refine bt_step fun next hn => ?_; simp only [pick, nthC]
   go_wp2_with fail
   refine segQ_mk (fun h => absurd rfl h) (hn _ _ ?_)
   clear hn next
   (refine bt_fin ?_)
   clear hW3b n2b f2b
   clear hNb hBb hFb hLb hRBb hXb HCNb HCRb HLOW2b HUb
   have b2b := cell_of_row _ _ 2 _ _ _ HN9b.out.blk
   simp at b2b
   have lbb := lt_of_heap HN9b.out.blk
   have p0b := cell_of_row _ _ 0 _ _ _ HB8b.out
   have p2b := cell_of_row _ _ 2 _ _ _ HB8b.out
   have q0b := cell_of_row _ _ 0 _ _ _ HL8b.out
   simp at p0b p2b q0b
   have lpb := lt_of_heap HB8b.out
   have llb := lt_of_heap HL8b.out
   go_wp2_with fail
   refine wp_loop_rounds 2 ?_
   rw [rounds_succ]
   go_upto_region 18 with fail
   obtain ⟨gq, kq, he, _, hgr2b, ⟨cqb, hcqb⟩, hgr3b, hgr4b⟩ := own_slice HN9b.out.rul (by omega)
   injection he with he1 _ he2
   injection he1 with he1
   injection he1 with he1
   subst he1 he2
   have x9b := hgr4b 2 _ rfl
   have f9b := hgr3b 2
   obtain ⟨W4b, hW4b⟩ : ∃ W4, W3b.setCell ⟨grb, 2, none⟩ (.int .i64 1) = W4 := ⟨_, rfl⟩
   have hN4b : NfaAt (W3b.setCell ⟨grb, 2, none⟩ (.int .i64 1)) (g0 + 4) (g0 + 1) 3 ((Cl.zero.cells ++ z1.cells) ++ z2.cells) [.int .i64 (-1), .int .i64 0, .int .i64 1] [[1, 2], [1], [2]] cvb (.slice (some ⟨gnb, 0, none⟩) 3 knb) (.slice (some ⟨grb, 0, none⟩) 3 krb) := HN9b.out.setRule 2 (.int .i64 1)
   have T9b : Turn (fun k => k = grb) W3b (W3b.setCell ⟨grb, 2, none⟩ (.int .i64 1)) := Turn.set1 _ _ _
   rw [hW4b] at hN4b T9b
   have HB4b := zh (T9b.keep HB8b.out (ne_type HB8b.out hcqb (by decide)))
   have HRB4b := zh (T9b.keep HRB8b.out (ne_type HRB8b.out hcqb (by decide)))
   have HX4b := zh (T9b.ext HX8b.out (fun k hk => by have := HGRb.out.1; have := HG0.out; omega))
   have HN4b := zh hN4b
   clear hN4b T9b hcqb hgr2b hgr3b hgr4b
   refine wp_region_bt (9) (pures_bt [0, 2, 4, 7] (softs_bt [1, 3, 5, 6, 8] (.step 9 .fin))) (by kernel_rfl) (by kernel_rfl) ?_
   refine bt_pures _ fun K hK => ?_; simp only [pick, nthC]; (repeat go_big_quiet_step (fail)); refine wpQuiet_nil (hK _ ?_); clear hK K
   refine bt_softs _ fun K hK => ?_; simp only [pick, nthC]; (repeat go_big_quiet_step (fail)); refine wpQuiet_nil (hK _ ?_); clear hK K
   refine bt_step fun next hn => ?_; simp only [pick, nthC]
   go_wp2_with fail
   refine segQ_mk (fun h => absurd rfl h) (hn _ _ ?_)
   clear hn next
   (refine bt_fin ?_)
   clear hW4b x9b f9b b2b lbb p0b p2b q0b lpb llb
   clear HN9b HB8b HL8b HRB8b HCR8b HX8b
   have p0b := cell_of_row _ _ 0 _ _ _ HB4b.out
   have p2b := cell_of_row _ _ 2 _ _ _ HB4b.out
   simp at p0b p2b
   have lpb := lt_of_heap HB4b.out
   go_wp2_with fail
   rw [rounds_succ]
   go_wp2_with fail
   clear p0b p2b lpb
   have X5b : Ext W4b W4b.drew := (by repeat first | exact xr _ | refine xa ?_ _ | refine xm ?_ _ _ | refine xd ?_ | refine xn ?_ _ | refine xs ?_ (by simp <;> omega) _)
   obtain ⟨W5b, hW5b⟩ : ∃ W5, W4b.drew = W5 := ⟨_, rfl⟩
   rw [hW5b] at X5b
   have HN5b := zh (HN4b.out.ext X5b)
   have HRB5b := zh (ext_block HRB4b.out X5b)
   have HX5b := zh (HX4b.out.trans X5b)
   simp only [hW5b]
   clear hW5b X5b
   have b0 := cell_of_row _ _ 0 _ _ _ HN5b.out.blk
   have b1 := cell_of_row _ _ 1 _ _ _ HN5b.out.blk
   have b2 := cell_of_row _ _ 2 _ _ _ HN5b.out.blk
   obtain ⟨Ac, kc, rfl, hAc, _⟩ := own_cells HN5b.out.cls
   have r0 := cell_of_row _ _ 0 _ _ _ HRB5b.out
   have r1 := cell_of_row _ _ 1 _ _ _ HRB5b.out
   have r2 := cell_of_row _ _ 2 _ _ _ HRB5b.out
   have ff := fun k => row_frozen HRB5b.out k
   simp at b0 b1 b2 r0 r1 r2
   have lb := lt_of_heap HN5b.out.blk
   have lr := lt_of_heap HRB5b.out
   rw [rounds_succ]
   go_upto_region 23 with fail
   obtain ⟨W6, hW6⟩ : ∃ W6, put3 W5b g0 (.slice Ac 3 kc) (.slice (some ⟨gnb, 0, none⟩) 3 knb) (.slice (some ⟨grb, 0, none⟩) 3 krb) = W6 := ⟨_, rfl⟩
   have T6 : Turn (fun k => k = g0) W5b (put3 W5b g0 (.slice Ac 3 kc) (.slice (some ⟨gnb, 0, none⟩) 3 knb) (.slice (some ⟨grb, 0, none⟩) 3 krb)) := put3_turn (S := fun k => k = g0) rfl _ _ _
   have P6 := put3_at HRB5b.out (.slice Ac 3 kc) (.slice (some ⟨gnb, 0, none⟩) 3 knb) (.slice (some ⟨grb, 0, none⟩) 3 krb)
   rw [hW6] at T6 P6
   have HN6 := zh (HN5b.out.keep0 HRB5b.out (by decide) (by omega) T6)
   have HX6 := zh (T6.ext HX5b.out (fun k hk => by have := HG0.out; omega))
   have e0 := cell_of_row _ _ 0 _ _ _ P6
   have e1 := cell_of_row _ _ 1 _ _ _ P6
   have e2 := cell_of_row _ _ 2 _ _ _ P6
   simp at e0 e1 e2
   unfold put3 put2 at hW6
   clear T6 P6 hAc
   go_wp2_with fail
   exact bodyPost_ret (v := .tuple #[.agg #[.slice Ac 3 kc, .slice (some ⟨gnb, 0, none⟩) 3 knb, .slice (some ⟨grb, 0, none⟩) 3 krb], .int .i64 0]) (by simp [results, Tryz.results97, go_sem, *]) rfl
    ⟨_, _, _, rfl, (HN6.out.rd (cls := [Cl.zero, z1, z2]) (rl := [-1, 0, 1]) (by simp) rfl rfl rfl), HX6.out⟩
theorem NfaRd.ext {w w' : World} {cv nv rv : Value} {cs : List Cl} {nx : List (List Int)} {rl : List Int} (h : NfaRd w cv nv rv cs nx rl) (e : Ext w w') : NfaRd w' cv nv rv cs nx rl := by
 obtain ⟨⟨A, c, h1, h2, h3⟩, ⟨B, d, vs, k1, k2, k3, k4, k5⟩, ⟨C, u, j1, j2, j3⟩, hl⟩ := h
 exact ⟨⟨A, c, h1, h2.ext e, h3⟩, ⟨B, d, vs, k1, k2.ext e, k3, k4, fun k v xs hv hx => by
  obtain ⟨D, dd, a1, a2, a3⟩ := k5 k v xs hv hx
  exact ⟨D, dd, a1, a2.ext e, a3⟩⟩, ⟨C, u, j1, j2.ext e, j3⟩, hl⟩
theorem Ints.get {w : World} {A : Option Addr} {xs : List Int} (h : Ints w A xs) (h0 : 0 < xs.length) : ∃ b off, A = some ⟨b, off, none⟩ ∧ b < w.heap.size ∧ ∀ (k : Nat) (x : Int), xs[k]? = some x → w.cell? ⟨b, off + k, none⟩ = some (.int .i64 x) := by
 obtain ⟨b, off, h1, h2, h3⟩ := h h0
 refine ⟨b, off, h1, h2, fun k x hx => ?_⟩
 have hk := (List.getElem?_eq_some_iff.1 hx).1
 rw [h3 k hk, List.getD_eq_getElem?_getD, hx]
 rfl
set_option maxRecDepth 100000 in
set_option maxHeartbeats 2000000 in
theorem ends_one (cv nv rv : Value) (cs : List Cl) (nx : List (List Int)) (rl : List Int) (S : Option Addr) (sc t : Nat) (r : Int) (w : World) (hN : NfaRd w cv nv rv cs nx rl) (hS : Ints w S [(t : Int)]) (ht : rl[t]? = some r) (hr : -1 ≤ r) :
 Calls Tryz.prog 148 #[.agg #[cv, nv, rv], .slice S 1 sc] w fun e w' => e = .returned (.int .i64 r) ∧ Ext w w' := by
 obtain ⟨W, hW⟩ : ∃ W, w.alloc (.cells #[cv, nv, rv] 148) = W := ⟨_, rfl⟩
 obtain ⟨b, hb⟩ : ∃ b, w.heap.size = b := ⟨_, rfl⟩
 have X1 : Ext w W := by rw [← hW]; exact (by repeat first | exact xr _ | refine xa ?_ _ | refine xm ?_ _ _ | refine xd ?_ | refine xn ?_ _ | refine xs ?_ (by simp <;> omega) _)
 have B1 : W.heap[b]? = some (.cells #[cv, nv, rv] 148) := by rw [← hW, ← hb]; exact heap_alloc_new _ _
 obtain ⟨R, rc, hrv, hR, _⟩ := hN.rul
 obtain ⟨hl1, hl2⟩ := hN.len
 have htl := (List.getElem?_eq_some_iff.1 ht).1
 obtain ⟨gr, orr, rfl, lgr, hrc⟩ := (hR.ext X1).get (by omega)
 obtain ⟨gs, os, rfl, lgs, hsc⟩ := (hS.ext X1).get (by simp)
 have s0 := hsc 0 _ rfl
 have r0 := hrc t r ht
 have b2 := cell_of_row _ _ 2 _ _ _ B1
 have lb := lt_of_heap B1
 rw [hrv] at b2
 simp at b2 s0
 have hm : t < cs.length := by omega
 obtain ⟨m, hmm⟩ : ∃ m, cs.length = m := ⟨_, rfl⟩
 rw [hmm] at hm b2
 have d1 : decide ((t : Int) < m) = true := by simp; omega
 have d2 : decide ((t : Int) ≥ 0) = true := by simp
 have HX := zh X1
 have HR := zh hr
 clear hN hS hrv hR hl1 hl2 htl hrc hsc ht X1 B1 hmm hr
 go_enter Tryz.func148, Tryz.ntmps148
 go_wp2_with fail
 try simp only [hb]
 clear hW hb
 refine wp_loop_rounds 2 ?_
 rw [rounds_succ]
 go_upto_region 5 with fail
 refine wp_region_bt (15) (pures_bt [0, 1, 2] (softs_bt [3, 4, 5, 6, 7, 8, 9, 10, 11, 12, 13, 14] .fin)) (by kernel_rfl) (by kernel_rfl) ?_
 refine bt_pures _ fun K hK => ?_; simp only [pick, nthC]; (repeat go_big_quiet_step (fail)); refine wpQuiet_nil (hK _ ?_); clear hK K
 refine bt_softs _ fun K hK => ?_; simp only [pick, nthC]; (repeat go_big_quiet_step (fail)); refine wpQuiet_nil (hK _ ?_); clear hK K
 (refine bt_fin ?_)
 go_upto_region 6 with fail
 refine wp_region_bt (9) (pures_bt [0, 2, 3, 4] (softs_bt [1, 5, 6, 7, 8] .fin)) (by kernel_rfl) (by kernel_rfl) ?_
 refine bt_pures _ fun K hK => ?_; simp only [pick, nthC]; (repeat go_big_quiet_step (fail)); refine wpQuiet_nil (hK _ ?_); clear hK K
 refine bt_softs _ fun K hK => ?_; simp only [pick, nthC]; (repeat go_big_quiet_step (fail)); refine wpQuiet_nil (hK _ ?_); clear hK K
 (refine bt_fin ?_)
 by_cases h0 : 0 ≤ r
 ·go_wp2_with fail
  rw [rounds_succ]
  go_wp2_with fail
  go_ret
  exact ⟨rfl, HX.out.trans (by repeat first | exact xr _ | refine xa ?_ _ | refine xm ?_ _ _ | refine xd ?_ | refine xn ?_ _ | refine xs ?_ (by simp <;> omega) _)⟩
 ·have hr1 : r = -1 := by have := HR.out; omega
  subst hr1
  go_wp2_with fail
  rw [rounds_succ]
  go_wp2_with fail
  go_ret
  exact ⟨rfl, HX.out.trans (by repeat first | exact xr _ | refine xa ?_ _ | refine xm ?_ _ _ | refine xd ?_ | refine xn ?_ _ | refine xs ?_ (by simp <;> omega) _)⟩
def hitF (cs : List Cl) (ys : List Int) (b j : Nat) : Bool := decide ((j : Int) ∈ ys) && hasF (cs.getD j Cl.zero) b
def hitV (cs : List Cl) (ys : List Int) (b m : Nat) : List Value := (List.range m).map fun j => .bool (hitF cs ys b j)
theorem hitV_get {cs : List Cl} {ys : List Int} {b m j : Nat} (h : j < m) : (hitV cs ys b m)[j]? = some (.bool (hitF cs ys b j)) := by simp [hitV, h]
theorem hitV_length (cs : List Cl) (ys : List Int) (b m : Nat) : (hitV cs ys b m).length = m := by simp [hitV]
theorem hitV_nil (cs : List Cl) (b m : Nat) : madeCells #[.bool false] m = (hitV cs [] b m).toArray := by
 apply Array.toList_inj.1
 rw [toList_madeCells_one]
 apply List.ext_getElem
 ·simp [hitV]
 ·intro i h1 h2
  simp [hitV, hitF]
theorem hitV_no {cs : List Cl} {ys : List Int} {b m x : Nat} (h : hasF (cs.getD x Cl.zero) b = false) : hitV cs (ys ++ [(x : Int)]) b m = hitV cs ys b m := by
 unfold hitV
 apply List.map_congr_left
 intro j _
 unfold hitF
 by_cases hj : j = x
 ·subst hj
  rw [h, Bool.and_false, Bool.and_false]
 ·have : ((j : Int) ∈ ys ++ [(x : Int)]) = ((j : Int) ∈ ys) := by
   rw [List.mem_append, List.mem_singleton]
   apply propext
   constructor
   ·rintro (h | h)
    ·exact h
    ·omega
   ·exact .inl
  simp only [this]
theorem hitV_yes {cs : List Cl} {ys : List Int} {b m x : Nat} (h : hasF (cs.getD x Cl.zero) b = true) : hitV cs (ys ++ [(x : Int)]) b m = (hitV cs ys b m).set x (.bool true) := by
 apply List.ext_getElem?
 intro j
 by_cases hj : j < m
 ·by_cases hx : x = j
  ·subst hx
   rw [hitV_get hj, List.getElem?_set_self (by rw [hitV_length]; exact hj)]
   unfold hitF
   rw [h]
   simp
  ·rw [List.getElem?_set_ne hx, hitV_get hj, hitV_get hj]
   unfold hitF
   have : ((j : Int) ∈ ys ++ [(x : Int)]) = ((j : Int) ∈ ys) := by
    rw [List.mem_append, List.mem_singleton]
    apply propext
    constructor
    ·rintro (h | h)
     ·exact h
     ·omega
    ·exact .inl
   simp only [this]
 ·rw [List.getElem?_eq_none (by rw [hitV_length]; omega), List.getElem?_eq_none (by rw [List.length_set, hitV_length]; omega)]
def goF (cs : List Cl) (ys : List Int) (b n : Nat) : List Int := ((List.range n).filter (hitF cs ys b)).map Int.ofNat
theorem goF_yes {cs : List Cl} {ys : List Int} {b k : Nat} (h : hitF cs ys b k = true) : goF cs ys b (k + 1) = goF cs ys b k ++ [(k : Int)] := by
 simp [goF, List.range_succ, List.filter_append, h]
theorem goF_no {cs : List Cl} {ys : List Int} {b k : Nat} (h : hitF cs ys b k = false) : goF cs ys b (k + 1) = goF cs ys b k := by
 simp [goF, List.range_succ, List.filter_append, h]
theorem goF_length (cs : List Cl) (ys : List Int) (b n : Nat) : (goF cs ys b n).length ≤ n := by
 unfold goF
 rw [List.length_map]
 exact Nat.le_trans (List.length_filter_le _ _) (by simp)
theorem cls_cells {cs : List Cl} {x : Nat} (h : x < cs.length) {q : Nat} {v : Value} (hv : ((cs.getD x Cl.zero).cells)[q]? = some v) (hq : q < 4) : (cs.flatMap Cl.cells)[x * 4 + q]? = some v := by
 induction cs generalizing x with
 | nil => simp at h
 | cons c cs ih =>
  rw [List.flatMap_cons]
  rcases Nat.eq_zero_or_pos x with rfl | h0
  ·rw [List.getElem?_append_left (by show _ < c.cells.length; unfold Cl.cells; simp; omega)]
   simpa using hv
  ·rw [List.getElem?_append_right (by show c.cells.length ≤ _; unfold Cl.cells; simp; omega)]
   have : x * 4 + q - c.cells.length = (x - 1) * 4 + q := by unfold Cl.cells; simp; omega
   rw [this]
   refine ih (by simp at h; omega) ?_
   rw [← hv]
   congr 2
   obtain ⟨y, rfl⟩ : ∃ y, x = y + 1 := ⟨x - 1, by omega⟩
   simp
theorem flat_len (cs : List Cl) : (cs.flatMap Cl.cells).length = cs.length * 4 := by
 induction cs with
 | nil => rfl
 | cons c cs ih =>
  rw [List.flatMap_cons, List.length_append, ih, List.length_cons]
  show 4 + _ = _
  omega
set_option maxRecDepth 100000 in
set_option maxHeartbeats 4000000 in
theorem go_one (cv nv rv : Value) (cs : List Cl) (nx : List (List Int)) (rl : List Int) (S : Option Addr) (sc t b : Nat) (xs : List Int) (w : World) (hN : NfaRd w cv nv rv cs nx rl) (hS : Ints w S [(t : Int)]) (ht : nx[t]? = some xs) (hb : b < 256) (hx : ∀ x ∈ xs, 0 ≤ x ∧ x < cs.length) (hok : ∀ j, (cs.getD j Cl.zero).ok) (hm : cs.length ≤ 100000) (hxl : xs.length ≤ 100000) :
 Calls Tryz.prog 149 #[.agg #[cv, nv, rv], .slice S 1 sc, .int .u8 b] w (IntsRet w (goF cs xs b cs.length)) := by
 obtain ⟨W, hW⟩ : ∃ W, w.alloc (.cells #[cv, nv, rv] 148) = W := ⟨_, rfl⟩
 obtain ⟨g0, hg0⟩ : ∃ b, w.heap.size = b := ⟨_, rfl⟩
 have X1 : Ext w W := by rw [← hW]; exact (by repeat first | exact xr _ | refine xa ?_ _ | refine xm ?_ _ _ | refine xd ?_ | refine xn ?_ _ | refine xs ?_ (by simp <;> omega) _)
 have B1 : W.heap[g0]? = some (.cells #[cv, nv, rv] 148) := by rw [← hW, ← hg0]; exact heap_alloc_new _ _
 obtain ⟨m, hmm⟩ : ∃ m, cs.length = m := ⟨_, rfl⟩
 obtain ⟨A, c, hcv, hA, _⟩ := hN.cls
 obtain ⟨B, d, vs, hnv, hB, hvl, _, hvi⟩ := hN.nxt
 obtain ⟨hl1, hl2⟩ := hN.len
 have htl := (List.getElem?_eq_some_iff.1 ht).1
 obtain ⟨v, hv⟩ : ∃ v, vs[t]? = some v := ⟨_, List.getElem?_eq_getElem (by omega)⟩
 obtain ⟨D, dd, rfl, hD, _⟩ := hvi t v xs hv ht
 obtain ⟨gb, ob, rfl, lgb, hbc⟩ := (hB.ext X1) (by omega)
 obtain ⟨gs, os, rfl, lgs, hsc⟩ := (hS.ext X1).get (by simp)
 have s0 := hsc 0 _ rfl
 have n0 := hbc t _ hv
 have b0 := cell_of_row _ _ 0 _ _ _ B1
 have b1 := cell_of_row _ _ 1 _ _ _ B1
 have lb := lt_of_heap B1
 rw [hcv, hmm] at b0
 rw [hnv, hmm] at b1
 simp at b0 b1 s0
 have HE0 : Hid (∀ wr, Ext W wr → wr.cell? ⟨g0, 0, none⟩ = some (.slice A m c)) := zh (fun wr e => ext_cell b0 lb e)
 have d1 : decide ((t : Int) < m) = true := by simp; omega
 have HX := zh X1
 have HA := zh (hA.ext X1)
 have HD := zh (hD.ext X1)
 have HXS := zh hx
 have HOK := zh hok
 have d2 : decide ((t : Int) < 0) = false := by simp
 have d3 : decide ((m : Int) ≤ t) = false := by simp; omega
 have d4 : decide (m ≤ t) = false := by simp; omega
 have HM := zh hmm
 have htm : t < m := by omega
 rw [hmm] at hm
 have hmk := fun w => mk_bools w m m rfl (by omega)
 have HB1 := zh B1
 have HG0 := zh hg0
 simp only [hmm]
 clear hN hS hcv hA hB hvl hvi hnv hD hl1 hl2 htl hbc hsc ht hv X1 B1 hmm hx hok
 go_enter Tryz.func149, Tryz.ntmps149
 go_wp2_with fail
 obtain ⟨hh, hhh⟩ : ∃ hh, W.heap.size = hh := ⟨_, rfl⟩
 obtain ⟨W1, hW1⟩ : ∃ W1, W.alloc (.cells (madeCells #[.bool false] m) 4) = W1 := ⟨_, rfl⟩
 have X2 : Ext W W1 := by rw [← hW1]; exact (by repeat first | exact xr _ | refine xa ?_ _ | refine xm ?_ _ _ | refine xd ?_ | refine xn ?_ _ | refine xs ?_ (by simp <;> omega) _)
 have H1 : W1.heap[hh]? = some (.cells (hitV cs [] b m).toArray 4) := by rw [← hW1, ← hhh, ← hitV_nil]; exact heap_alloc_new _ _
 have HH1 := zh H1
 have HX2 := zh X2
 have HHH := zh hhh
 have s1 := ext_cell s0 lgs X2
 have n1 := ext_cell n0 lgb X2
 have e0 := ext_cell b0 lb X2
 have e1 := ext_cell b1 lb X2
 have ls1 := Nat.lt_of_lt_of_le lgs X2.size
 have lb1 := Nat.lt_of_lt_of_le lgb X2.size
 have l1 := Nat.lt_of_lt_of_le lb X2.size
 have HB2 := zh (ext_block HB1.out X2)
 simp only [hW1, hhh]
 clear hW1 hhh X2 H1 s0 n0 b0 b1 lgs lgb lb hmk hW hg0
 refine wp_loop_rounds 2 ?_
 rw [rounds_succ]
 go_upto_region 5 with fail
 refine wp_region_bt (15) (pures_bt [0, 1, 2] (softs_bt [3, 4, 5, 6, 7, 8, 9, 10, 11, 12, 13, 14] .fin)) (by kernel_rfl) (by kernel_rfl) ?_
 refine bt_pures _ fun K hK => ?_; simp only [pick, nthC]; (repeat go_big_quiet_step (fail)); refine wpQuiet_nil (hK _ ?_); clear hK K
 refine bt_softs _ fun K hK => ?_; simp only [pick, nthC]; (repeat go_big_quiet_step (fail)); refine wpQuiet_nil (hK _ ?_); clear hK K
 (refine bt_fin ?_)
 go_upto_region 6 with fail
 refine wp_region_bt (9) (pures_bt [0, 2, 3, 4] (softs_bt [1, 5, 6, 7, 8] .fin)) (by kernel_rfl) (by kernel_rfl) ?_
 refine bt_pures _ fun K hK => ?_; simp only [pick, nthC]; (repeat go_big_quiet_step (fail)); refine wpQuiet_nil (hK _ ?_); clear hK K
 refine bt_softs _ fun K hK => ?_; simp only [pick, nthC]; (repeat go_big_quiet_step (fail)); refine wpQuiet_nil (hK _ ?_); clear hK K
 (refine bt_fin ?_)
 go_wp2_with fail
 clear s1 n1 e0 e1 ls1 lb1 l1
 go_loopw [10] (fun i wr => ∃ k : Nat, k ≤ xs.length ∧ i = .int .i64 k ∧ Hid (wr.heap[hh]? = some (.cells (hitV cs (xs.take k) b m).toArray 4)) ∧ Hid (Ext W wr)) (fun i _ => xs.length - (intOf i).toNat)
 case atStart => exact ⟨0, Nat.zero_le _, rfl, zh (ext_block HH1.out (by repeat first | exact xr _ | refine xa ?_ _ | refine xm ?_ _ _ | refine xd ?_ | refine xn ?_ _ | refine xs ?_ (by simp <;> omega) _)), zh (HX2.out.trans (by repeat first | exact xr _ | refine xa ?_ _ | refine xm ?_ _ _ | refine xd ?_ | refine xn ?_ _ | refine xs ?_ (by simp <;> omega) _))⟩
 case round =>
  obtain ⟨k, hk, rfl, hh1, hx1⟩ := hrel
  by_cases hlt : k < xs.length
  ·obtain ⟨gd, od, rfl, lgd, hdc⟩ := (HD.out.ext hx1.out) (by omega)
   have x0 := hdc k hlt
   have HT := zh (take_next hlt)
   obtain ⟨x, hxx⟩ : ∃ x, xs.getD k 0 = x := ⟨_, rfl⟩
   rw [hxx] at x0 HT
   have hxm : x ∈ xs := by
    rw [← hxx, List.getD_eq_getElem?_getD, List.getElem?_eq_getElem hlt]
    exact List.getElem_mem hlt
   obtain ⟨hx0, hxlt⟩ := HXS.out x hxm
   obtain ⟨y, rfl⟩ : ∃ y : Nat, x = (y : Int) := ⟨x.toNat, by omega⟩
   have hym : y < m := by have := HM.out; omega
   obtain ⟨ga, oa, rfl, lga, hac⟩ := (HA.out.ext hx1.out) (by rw [flat_len]; have := HM.out; omega)
   have hyc : y < cs.length := by have := HM.out; omega
   obtain ⟨z, hz⟩ : ∃ z, cs.getD y Cl.zero = z := ⟨_, rfl⟩
   have c0 := hac (y * 4 + 0) (.int .u64 z.a) (cls_cells hyc (by rw [hz]; rfl) (by omega))
   have c1 := hac (y * 4 + 1) (.int .u64 z.b) (cls_cells hyc (by rw [hz]; rfl) (by omega))
   have c2 := hac (y * 4 + 2) (.int .u64 z.c) (cls_cells hyc (by rw [hz]; rfl) (by omega))
   have c3 := hac (y * 4 + 3) (.int .u64 z.d) (cls_cells hyc (by rw [hz]; rfl) (by omega))
   rw [← Nat.add_assoc] at c0 c1 c2 c3
   rw [Nat.add_zero] at c0
   have hzok := HOK.out y
   rw [hz] at hzok
   have HC := zh (fun W => has_any z b W hb hzok)
   have HY : Hid (if hasF z b then hitV cs (xs.take (k + 1)) b m = (hitV cs (xs.take k) b m).set y (.bool true) else hitV cs (xs.take (k + 1)) b m = hitV cs (xs.take k) b m) := zh (by
    rw [HT.out]
    cases hc : hasF z b with
    | true => rw [if_pos rfl]; exact hitV_yes (by rw [hz]; exact hc)
    | false => rw [if_neg (by simp)]; exact hitV_no (by rw [hz]; exact hc))
   have e0 := HE0.out _ hx1.out
   have lb := lt_of_heap (ext_block HB1.out hx1.out)
   have d6 : decide (y < m) = true := by simp; omega
   clear hac hdc hxx hxm hzok hz hyc hx0 hxlt
   go_upto_region 10 with fail
   refine wp_region_bt (10) (pures_bt [0, 2, 3, 4, 8] (softs_bt [1, 5, 6, 7] (.step 9 .fin))) (by kernel_rfl) (by kernel_rfl) ?_
   refine bt_pures _ fun K hK => ?_; simp only [pick, nthC]; (repeat go_big_quiet_step (fail)); refine wpQuiet_nil (hK _ ?_); clear hK K
   refine bt_softs _ fun K hK => ?_; simp only [pick, nthC]; (repeat go_big_quiet_step (fail)); refine wpQuiet_nil (hK _ ?_); clear hK K
   refine bt_step fun next hn => ?_; simp only [pick, nthC]
   go_wp2_with fail
   refine (HC.out _).mono ?_
   rintro e w5 ⟨rfl, hx5⟩
   have HY5 : Hid (Ext W w5) := zh (hx1.out.trans (Ext.trans (by repeat first | exact xr _ | refine xa ?_ _ | refine xm ?_ _ _ | refine xd ?_ | refine xn ?_ _ | refine xs ?_ (by simp <;> omega) _) hx5))
   have HH5 : Hid (w5.heap[hh]? = some (.cells (hitV cs (xs.take k) b m).toArray 4)) := zh (ext_block hh1.out (Ext.trans (by repeat first | exact xr _ | refine xa ?_ _ | refine xm ?_ _ _ | refine xd ?_ | refine xn ?_ _ | refine xs ?_ (by simp <;> omega) _) hx5))
   have HYW : Hid (Ext wr w5) := zh (Ext.trans (by repeat first | exact xr _ | refine xa ?_ _ | refine xm ?_ _ _ | refine xd ?_ | refine xn ?_ _ | refine xs ?_ (by simp <;> omega) _) hx5)
   have x5 := ext_cell x0 lgd (Ext.trans (by repeat first | exact xr _ | refine xa ?_ _ | refine xm ?_ _ _ | refine xd ?_ | refine xn ?_ _ | refine xs ?_ (by simp <;> omega) _) hx5)
   have l5 := Nat.lt_of_lt_of_le lgd (Ext.size (Ext.trans (by repeat first | exact xr _ | refine xa ?_ _ | refine xm ?_ _ _ | refine xd ?_ | refine xn ?_ _ | refine xs ?_ (by simp <;> omega) _) hx5))
   clear x0 lgd hx5 hh1 hx1 e0 lb c0 c1 c2 c3 lga
   obtain ⟨hv, hhv⟩ : ∃ hv, hasF z b = hv := ⟨_, rfl⟩
   rw [hhv] at HY
   simp only [hhv]
   clear hhv HC
   go_wp2_with fail
   refine segQ_mk (fun _ => laid HYW.out) (hn _ _ ?_)
   clear hn next
   (refine bt_fin ?_)
   cases hv with
   | true =>
    have HY6 : Hid (w5.heap[hh]?.isSome) := zh (by rw [HH5.out]; rfl)
    obtain ⟨W6, hW6⟩ : ∃ W6, w5.setCell ⟨hh, y, none⟩ (.bool true) = W6 := ⟨_, rfl⟩
    have H6 : W6.heap[hh]? = some (.cells (hitV cs (xs.take (k + 1)) b m).toArray 4) := by
     have h1 := HY.out
     rw [if_pos rfl] at h1
     rw [← hW6, h1, ← List.setIfInBounds_toArray]
     exact setCell_row HH5.out _
    have HH6 := zh H6
    have HX6 : Hid (Ext W W6) := zh (by rw [← hW6]; exact HY5.out.setCell (by show _ ≤ hh; have := HHH.out; omega) _)
    have q5 : w5.cell? ⟨hh, y, none⟩ = some (.bool (hitF cs (xs.take k) b y)) := by rw [cell_of_row _ _ y _ _ _ HH5.out, List.getElem?_toArray]; exact hitV_get hym
    have f5 := row_frozen HH5.out y
    have lh := lt_of_heap HH5.out
    clear H6
    go_wp2_with fail
    clear hW6 q5 f5 x5
    go_roundw
    case rel => exact ⟨k + 1, by omega, by go_num, zh (ext_block HH6.out (by repeat first | exact xr _ | refine xa ?_ _ | refine xm ?_ _ _ | refine xd ?_ | refine xn ?_ _ | refine xs ?_ (by simp <;> omega) _)), zh (HX6.out.trans (by repeat first | exact xr _ | refine xa ?_ _ | refine xm ?_ _ _ | refine xd ?_ | refine xn ?_ _ | refine xs ?_ (by simp <;> omega) _))⟩
    case measure => simp [intOf]; omega
   | false =>
    have HH6 : Hid (w5.heap[hh]? = some (.cells (hitV cs (xs.take (k + 1)) b m).toArray 4)) := zh (by
     have h1 := HY.out
     rw [if_neg (by simp)] at h1
     rw [h1]
     exact HH5.out)
    go_wp2_with fail
    go_roundw
    case rel => exact ⟨k + 1, by omega, by go_num, zh (ext_block HH6.out (by repeat first | exact xr _ | refine xa ?_ _ | refine xm ?_ _ _ | refine xd ?_ | refine xn ?_ _ | refine xs ?_ (by simp <;> omega) _)), zh (HY5.out.trans (by repeat first | exact xr _ | refine xa ?_ _ | refine xm ?_ _ _ | refine xd ?_ | refine xn ?_ _ | refine xs ?_ (by simp <;> omega) _))⟩
    case measure => simp [intOf]; omega
  ·obtain rfl : k = xs.length := by omega
   have hh2 := hh1.out
   rw [List.take_length] at hh2
   have HH2 := zh hh2
   clear hh1 hh2
   go_wp2_with fail
   rw [rounds_succ]
   go_wp2_with fail
   have HXW := zh (HX.out.trans hx1.out)
   clear hx1
   go_loopw [11, 12] (fun v i w7 => ∃ k : Nat, k ≤ m ∧ i = .int .i64 k ∧ Hid (RowI w7 w.heap.size v (goF cs xs b k)) ∧ Hid (w7.heap[hh]? = some (.cells (hitV cs xs b m).toArray 4)) ∧ Hid (Ext w w7)) (fun _ i _ => m - (intOf i).toNat)
   case atStart => exact ⟨0, Nat.zero_le _, rfl, zh ⟨none, 0, rfl, OwnI.nil _ _⟩, zh (ext_block HH2.out (by repeat first | exact xr _ | refine xa ?_ _ | refine xm ?_ _ _ | refine xd ?_ | refine xn ?_ _ | refine xs ?_ (by simp <;> omega) _)), zh (HXW.out.trans (by repeat first | exact xr _ | refine xa ?_ _ | refine xm ?_ _ _ | refine xd ?_ | refine xn ?_ _ | refine xs ?_ (by simp <;> omega) _))⟩
   case round =>
    obtain ⟨k, hk, rfl, hv, hh7, hx7⟩ := hrel
    clear HXW HH2
    have hkl := goF_length cs xs b k
    by_cases hlt : k < m
    ·have q7 : wr.cell? ⟨hh, k, none⟩ = some (.bool (hitF cs xs b k)) := by rw [cell_of_row _ _ k _ _ _ hh7.out, List.getElem?_toArray]; exact hitV_get hlt
     have l7 := lt_of_heap hh7.out
     cases hc : hitF cs xs b k with
     | true =>
      have HG := zh (goF_yes hc)
      rw [hc] at q7
      clear hc
      go_wp2_with (at_builtin; refine app_int w (by rfl) (.tmp 78) (.tmp 80) rfl (hv.out.ext (by repeat first | exact xr _ | refine xa ?_ _ | refine xm ?_ _ _ | refine xd ?_ | refine xn ?_ _ | refine xs ?_ (by simp <;> omega) _)) (k : Int) wr.heap.size rfl rfl (by simp) (by rw [cell_of_row _ _ 0 _ _ _ (heap_alloc_new wr (.cells #[.int .i64 (k : Int)] 3))]; rfl) (by omega) (hx7.out.trans (by repeat first | exact xr _ | refine xa ?_ _ | refine xm ?_ _ _ | refine xd ?_ | refine xn ?_ _ | refine xs ?_ (by simp <;> omega) _)) ?_; intro v8 w8 hr8 hgr8 hx8)
      obtain ⟨A8, c8, rfl, ho8⟩ := hv.out
      have hh8 := grown_other ho8 hgr8 (by repeat first | exact xr _ | refine xa ?_ _ | refine xm ?_ _ _ | refine xd ?_ | refine xn ?_ _ | refine xs ?_ (by simp <;> omega) _) (ext_block hh7.out (by repeat first | exact xr _ | refine xa ?_ _ | refine xm ?_ _ _ | refine xd ?_ | refine xn ?_ _ | refine xs ?_ (by simp <;> omega) _)) (by decide)
      go_roundw
      case rel => exact ⟨k + 1, by omega, by go_num, zh (by rw [HG.out]; exact hr8), zh hh8, zh hx8⟩
      case measure => simp [intOf]; omega
     | false =>
      have HG := zh (goF_no hc)
      rw [hc] at q7
      clear hc
      go_wp2_with fail
      go_roundw
      case rel => exact ⟨k + 1, by omega, by go_num, zh (by rw [HG.out]; exact hv.out.ext (by repeat first | exact xr _ | refine xa ?_ _ | refine xm ?_ _ _ | refine xd ?_ | refine xn ?_ _ | refine xs ?_ (by simp <;> omega) _)), zh (ext_block hh7.out (by repeat first | exact xr _ | refine xa ?_ _ | refine xm ?_ _ _ | refine xd ?_ | refine xn ?_ _ | refine xs ?_ (by simp <;> omega) _)), zh (hx7.out.trans (by repeat first | exact xr _ | refine xa ?_ _ | refine xm ?_ _ _ | refine xd ?_ | refine xn ?_ _ | refine xs ?_ (by simp <;> omega) _))⟩
      case measure => simp [intOf]; omega
    ·obtain rfl : k = m := by omega
     go_wp2_with fail
     go_ret
     obtain ⟨A8, c8, rfl, ho8⟩ := hv.out
     exact ⟨A8, c8, rfl, ho8, hx7.out⟩
structure NfaOk (cs : List Cl) (nx : List (List Int)) (rl : List Int) : Prop where
 one : 0 < cs.length
 most : cs.length ≤ 1024
 zero : cs.getD 0 Cl.zero = Cl.zero
 rule : ∀ r ∈ rl, -1 ≤ r ∧ r < 16
 low : ∀ xs ∈ nx, ∀ x ∈ xs, 1 ≤ x ∧ x < cs.length
 rise : ∀ xs ∈ nx, xs.Pairwise (· < ·)
 short : ∀ xs ∈ nx, xs.length ≤ 100000
set_option maxRecDepth 100000 in
set_option maxHeartbeats 4000000 in
theorem check_nfa (cv nv rv : Value) (cs : List Cl) (nx : List (List Int)) (rl : List Int) (w : World) (hN : NfaRd w cv nv rv cs nx rl) (hO : NfaOk cs nx rl) :
 Calls Tryz.prog 146 #[.agg #[cv, nv, rv]] w fun e w' => e = .returned (.int .i64 0) ∧ Ext w w' := by
 obtain ⟨W, hW⟩ : ∃ W, w.alloc (.cells #[cv, nv, rv] 148) = W := ⟨_, rfl⟩
 obtain ⟨g0, hg0⟩ : ∃ b, w.heap.size = b := ⟨_, rfl⟩
 have X1 : Ext w W := by rw [← hW]; exact (by repeat first | exact xr _ | refine xa ?_ _ | refine xm ?_ _ _ | refine xd ?_ | refine xn ?_ _ | refine xs ?_ (by simp <;> omega) _)
 have B1 : W.heap[g0]? = some (.cells #[cv, nv, rv] 148) := by rw [← hW, ← hg0]; exact heap_alloc_new _ _
 obtain ⟨m, hmm⟩ : ∃ m, cs.length = m := ⟨_, rfl⟩
 obtain ⟨A, c, hcv, hA, _⟩ := hN.cls
 obtain ⟨B, d, vs, hnv, hB, hvl, _, hvi⟩ := hN.nxt
 obtain ⟨R, rc, hrv, hR, _⟩ := hN.rul
 obtain ⟨hl1, hl2⟩ := hN.len
 have h1 := hO.one
 have h2 := hO.most
 obtain ⟨gb, ob, rfl, lgb, hbc⟩ := (hB.ext X1) (by omega)
 obtain ⟨gr, orr, rfl, lgr, hrc⟩ := (hR.ext X1).get (by omega)
 obtain ⟨ga, oa, rfl, lga, hac⟩ := (hA.ext X1) (by rw [flat_len]; omega)
 have c0 := hac (0 * 4 + 0) (.int .u64 0) (cls_cells h1 (by rw [hO.zero]; rfl) (by omega))
 have c1 := hac (0 * 4 + 1) (.int .u64 0) (cls_cells h1 (by rw [hO.zero]; rfl) (by omega))
 have c2 := hac (0 * 4 + 2) (.int .u64 0) (cls_cells h1 (by rw [hO.zero]; rfl) (by omega))
 have c3 := hac (0 * 4 + 3) (.int .u64 0) (cls_cells h1 (by rw [hO.zero]; rfl) (by omega))
 have b0 := cell_of_row _ _ 0 _ _ _ B1
 have b1 := cell_of_row _ _ 1 _ _ _ B1
 have b2 := cell_of_row _ _ 2 _ _ _ B1
 have lb := lt_of_heap B1
 rw [hcv, hmm] at b0
 rw [hnv, hmm] at b1
 rw [hrv, hmm] at b2
 rw [hmm] at h1 h2
 simp at b0 b1 b2 c0 c1 c2 c3
 have heq := fun w => eq_zero w
 have d0 : decide ((m : Int) < 1) = false := by simp; omega
 have d1 : decide ((m : Int) > 1024) = false := by simp; omega
 have d2 : decide (1024 < (m : Int)) = false := by simp; omega
 have d3 : decide (1024 < m) = false := by simp; omega
 have d4 : decide (m < 1) = false := by simp; omega
 have HX := zh X1
 have HO := zh hO
 have HE : Hid (∀ wr, Ext W wr → wr.cell? ⟨g0, 1, none⟩ = some (.slice (some ⟨gb, ob, none⟩) m d) ∧ wr.cell? ⟨g0, 2, none⟩ = some (.slice (some ⟨gr, orr, none⟩) m rc) ∧ g0 < wr.heap.size ∧ gb < wr.heap.size ∧ gr < wr.heap.size) := zh (fun wr e => ⟨ext_cell b1 lb e, ext_cell b2 lb e, Nat.lt_of_lt_of_le lb e.size, Nat.lt_of_lt_of_le lgb e.size, Nat.lt_of_lt_of_le lgr e.size⟩)
 have HR : Hid (∀ wr, Ext W wr → ∀ i, i < m → ∃ r : Int, -1 ≤ r ∧ r < 16 ∧ wr.cell? ⟨gr, orr + i, none⟩ = some (.int .i64 r)) := zh (fun wr e i hi => by
  have hlt : i < rl.length := by omega
  obtain ⟨h3, h4⟩ := hO.rule rl[i] (List.getElem_mem hlt)
  exact ⟨rl[i], h3, h4, ext_cell (hrc i _ (List.getElem?_eq_getElem hlt)) lgr e⟩)
 have HN : Hid (∀ wr, Ext W wr → ∀ i, i < m → ∃ (xs : List Int) (D : Option Addr) (dd : Nat), wr.cell? ⟨gb, ob + i, none⟩ = some (.slice D xs.length dd) ∧ Ints wr D xs ∧ xs ∈ nx) := zh (fun wr e i hi => by
  have hlt : i < nx.length := by omega
  obtain ⟨v, hv⟩ : ∃ v, vs[i]? = some v := ⟨_, List.getElem?_eq_getElem (by omega)⟩
  obtain ⟨D, dd, rfl, hD, _⟩ := hvi i v _ hv (List.getElem?_eq_getElem hlt)
  exact ⟨_, D, dd, ext_cell (hbc i _ hv) lgb e, (hD.ext X1).ext e, List.getElem_mem hlt⟩)
 have HM := zh hmm
 clear hN hO hcv hnv hrv hA hB hR hvl hvi hl1 hl2 hbc hrc hac hmm B1 X1
 go_enter Tryz.func146, Tryz.ntmps146
 go_wp2_with fail
 clear c0 c1 c2 c3 b0 b1 b2 lb lga lgb lgr heq hW hg0
 go_loopw [4] (fun i wr => ∃ k : Nat, k ≤ m ∧ i = .int .i64 k ∧ Hid (Ext W wr)) (fun i _ => m - (intOf i).toNat)
 case atStart => exact ⟨0, Nat.zero_le _, rfl, zh (by repeat first | exact xr _ | refine xa ?_ _ | refine xm ?_ _ _ | refine xd ?_ | refine xn ?_ _ | refine xs ?_ (by simp <;> omega) _)⟩
 case round =>
  obtain ⟨k, hk, rfl, hx1⟩ := hrel
  by_cases hlt : k < m
  ·obtain ⟨e1, e2, l0, lb, lr⟩ := HE.out _ hx1.out
   obtain ⟨r, hr1, hr2, x0⟩ := HR.out _ hx1.out k hlt
   obtain ⟨xs, D, dd, y0, hD, hmem⟩ := HN.out _ hx1.out k hlt
   have q1 : decide (r < -1) = false := by simp; omega
   have q2 : decide (16 ≤ r) = false := by simp; omega
   have HD := zh hD
   have HXM := zh hmem
   have hxl := HO.out.short xs hmem
   clear hD hmem
   go_wp2_with fail
   have HY : Hid (∀ w2, Ext wr w2 → w2.cell? ⟨gb, ob + k, none⟩ = some (.slice D xs.length dd)) := zh (fun w2 e => ext_cell y0 lb e)
   have HX1 := zh hx1.out
   clear e1 e2 l0 lb lr x0 y0 hx1
   go_loopw [5] (fun i w2 => ∃ j : Nat, j ≤ xs.length ∧ i = .int .i64 j ∧ Hid (Ext W w2) ∧ Hid (w2.cell? ⟨gb, ob + k, none⟩ = some (.slice D xs.length dd)) ∧ Hid (Ints w2 D xs)) (fun i _ => xs.length - (intOf i).toNat)
   case atStart => exact ⟨0, Nat.zero_le _, rfl, zh (HX1.out.trans (by repeat first | exact xr _ | refine xa ?_ _ | refine xm ?_ _ _ | refine xd ?_ | refine xn ?_ _ | refine xs ?_ (by simp <;> omega) _)), zh (HY.out _ (by repeat first | exact xr _ | refine xa ?_ _ | refine xm ?_ _ _ | refine xd ?_ | refine xn ?_ _ | refine xs ?_ (by simp <;> omega) _)), zh (HD.out.ext (by repeat first | exact xr _ | refine xa ?_ _ | refine xm ?_ _ _ | refine xd ?_ | refine xn ?_ _ | refine xs ?_ (by simp <;> omega) _))⟩
   case round =>
    obtain ⟨j, hj, rfl, hx1, hy1, hd1⟩ := hrel
    clear HX1 HY HD
    obtain ⟨e1, e2, l0, lb, lr⟩ := HE.out _ hx1.out
    have y0 := hy1.out
    by_cases hlj : j < xs.length
    ·obtain ⟨gd, od, rfl, lgd, hdc⟩ := hd1.out (by omega)
     have x0 := hdc j hlj
     obtain ⟨x, hxx⟩ : ∃ x, xs.getD j 0 = x := ⟨_, rfl⟩
     rw [hxx] at x0
     have hxm : x ∈ xs := by
      rw [← hxx, List.getD_eq_getElem?_getD, List.getElem?_eq_getElem hlj]
      exact List.getElem_mem hlj
     obtain ⟨hlow, hxlt⟩ := HO.out.low xs HXM.out x hxm
     have q3 : decide (x < 1) = false := by simp; omega
     have q4 : decide ((m : Int) ≤ x) = false := by simp; have := HM.out; omega
     rcases Nat.eq_zero_or_pos j with rfl | h0
     ·rw [Nat.add_zero] at x0
      simp only [Int.ofNat_zero]
      clear hdc
      go_upto_region 12 with fail
      refine wp_region_bt (45) (pures_bt [0, 2, 5] (softs_bt [1, 3, 4, 6, 7, 8, 9, 10, 11, 12, 13, 14, 15, 16, 17, 18, 19, 20, 21, 22, 23, 24, 25, 26, 27, 28, 29, 30, 31, 32, 33, 34, 35, 36, 37, 38, 39, 40, 41, 42, 43, 44] .fin)) (by kernel_rfl) (by kernel_rfl) ?_
      refine bt_pures _ fun K hK => ?_; simp only [pick, nthC]; (repeat go_big_quiet_step (fail)); refine wpQuiet_nil (hK _ ?_); clear hK K
      refine bt_softs _ fun K hK => ?_; simp only [pick, nthC]; (repeat go_big_quiet_step (fail)); refine wpQuiet_nil (hK _ ?_); clear hK K
      (refine bt_fin ?_)
      go_wp2_with fail
      go_roundw
      case rel => exact ⟨0 + 1, by omega, by go_num, zh (hx1.out.trans (by repeat first | exact xr _ | refine xa ?_ _ | refine xm ?_ _ _ | refine xd ?_ | refine xn ?_ _ | refine xs ?_ (by simp <;> omega) _)), zh (ext_cell hy1.out lb (by repeat first | exact xr _ | refine xa ?_ _ | refine xm ?_ _ _ | refine xd ?_ | refine xn ?_ _ | refine xs ?_ (by simp <;> omega) _)), zh (hd1.out.ext (by repeat first | exact xr _ | refine xa ?_ _ | refine xm ?_ _ _ | refine xd ?_ | refine xn ?_ _ | refine xs ?_ (by simp <;> omega) _))⟩
      case measure => simp [intOf]; omega
     ·have x1 := hdc (j - 1) (by omega)
      obtain ⟨p, hp⟩ : ∃ p, xs.getD (j - 1) 0 = p := ⟨_, rfl⟩
      rw [hp] at x1
      have hpx : p < x := by
       have := List.pairwise_iff_getElem.1 (HO.out.rise xs HXM.out) (j - 1) j (by omega) (by omega) (by omega)
       rw [← hp, ← hxx, List.getD_eq_getElem?_getD, List.getD_eq_getElem?_getD, List.getElem?_eq_getElem (by omega), List.getElem?_eq_getElem (by omega)]
       exact this
      have q5 : decide (x ≤ p) = false := by simp; omega
      have q6 : decide (0 < j) = true := by simp; omega
      clear hdc hxx hp hpx hxm
      go_upto_region 12 with fail
      refine wp_region_bt (45) (pures_bt [0, 2, 5] (softs_bt [1, 3, 4, 6, 7, 8, 9, 10, 11, 12, 13, 14, 15, 16, 17, 18, 19, 20, 21, 22, 23, 24, 25, 26, 27, 28, 29, 30, 31, 32, 33, 34, 35, 36, 37, 38, 39, 40, 41, 42, 43, 44] .fin)) (by kernel_rfl) (by kernel_rfl) ?_
      refine bt_pures _ fun K hK => ?_; simp only [pick, nthC]; (repeat go_big_quiet_step (fail)); refine wpQuiet_nil (hK _ ?_); clear hK K
      refine bt_softs _ fun K hK => ?_; simp only [pick, nthC]; (repeat go_big_quiet_step (fail)); refine wpQuiet_nil (hK _ ?_); clear hK K
      (refine bt_fin ?_)
      go_wp2_with fail
      go_roundw
      case rel => exact ⟨j + 1, by omega, by go_num, zh (hx1.out.trans (by repeat first | exact xr _ | refine xa ?_ _ | refine xm ?_ _ _ | refine xd ?_ | refine xn ?_ _ | refine xs ?_ (by simp <;> omega) _)), zh (ext_cell hy1.out lb (by repeat first | exact xr _ | refine xa ?_ _ | refine xm ?_ _ _ | refine xd ?_ | refine xn ?_ _ | refine xs ?_ (by simp <;> omega) _)), zh (hd1.out.ext (by repeat first | exact xr _ | refine xa ?_ _ | refine xm ?_ _ _ | refine xd ?_ | refine xn ?_ _ | refine xs ?_ (by simp <;> omega) _))⟩
      case measure => simp [intOf]; omega
    ·obtain rfl : j = xs.length := by omega
     go_wp2_with fail
     go_roundw
     case rel => exact ⟨k + 1, by omega, by go_num, zh (hx1.out.trans (by repeat first | exact xr _ | refine xa ?_ _ | refine xm ?_ _ _ | refine xd ?_ | refine xn ?_ _ | refine xs ?_ (by simp <;> omega) _))⟩
     case measure => simp [intOf]; omega
  ·go_wp2_with fail
   go_ret
   exact ⟨rfl, HX.out.trans hx1.out⟩
end Go.Proofs.YthpmncdfaggkiaaGreat
