/- StylesOwn: the walk. -/
import Derived.Test.YtaffaeompdlecaaY4
import Derived.Test.YtaffaeompdlecaaY5
import Derived.Test.YtaffaeompdlecaaTz
import Derived.Test.YtaffaeompdlecaaLo
import Derived.WalkSpells
import Derived.WalkLawsBesides
import Derived.BigRegion
import Derived.Deep.RegionWith
import Derived.Deep.QuietTactic
import Derived.Deep.DeepCutAuto
import Derived.Deep.RegionHeld3
import Derived.Deep.RegionLaw
import Derived.BigQuiet
import Derived.Lib.Hide
namespace Go.Proofs.Ytaffaeompdlecaa
open Go.RowKit
attribute [local go_sem] more_drew more_drewN more_size more_cell more_frozen more_setCell drew_more drewN_more lt_add_r lt_add_r2 lt_add_r3 lt_add_r4 lt_add_r5 lt_add_r6 lt_add_r7 lt_add_r8 lt_add_r9 lt_add_r10 lt_self_r lt_self_r2

theorem infoStyle : (Try.prog.info? 66).map (fun i => (i.zero, i.size, i.bytes)) = some (some (.agg #[.int .i64 0, .slice none 0 0, .int .i64 0, .int .i64 0]), 4, 48) := by kernel_rfl
/-- a row of styles of the call's own -/
def RowSty (w : World) (base : Nat) (v : Value) (ss : List Sty) : Prop := ∃ A c, v = .slice A ss.length c ∧ w.ownsRow base 66 4 (.slice A ss.length c) ss.length (sCells ss)
theorem RowSty.ext {w w' : World} {base : Nat} {v : Value} {ss : List Sty} (h : RowSty w base v ss) (e : Ext w w') : RowSty w' base v ss := by
  obtain ⟨A, c, hv, ho⟩ := h
  exact ⟨A, c, hv, own_ext ho e⟩
theorem RowSty.styles {w : World} {base : Nat} {v : Value} {ss : List Sty} (h : RowSty w base v ss) : ∃ A c, v = .slice A ss.length c ∧ Styles w A ss ∧ ss.length ≤ c ∧ c ≤ maxLen ∧ (A = none → c = 0) := by
  obtain ⟨A, c, hv, ho⟩ := h
  obtain ⟨A', c', hv', hc, h1, h2, h3⟩ := own_cells ho
  injection hv' with e1 _ e2
  subst e1 e2
  exact ⟨A, c, hv, styles_of_cells hc, h1, h2, h3⟩
theorem RowSty.empty (w : World) (base : Nat) (hb : base ≤ w.heap.size) : RowSty (w.alloc (.cells #[] 66)) base (.slice (some ⟨w.heap.size, 0, none⟩) 0 0) [] :=
  ⟨some ⟨w.heap.size, 0, none⟩, 0, rfl, own_lit w base 66 4 w.heap.size 0 #[] rfl hb rfl (by unfold maxLen; omega)⟩
theorem RowSty.one (w : World) (base : Nat) (hb : base ≤ w.heap.size) (s : Sty) : RowSty (w.alloc (.cells #[.int .i64 s.kind, .slice s.pA s.path.length s.pc, .int .i64 s.st, .int .i64 s.prio] 66)) base (.slice (some ⟨w.heap.size, 0, none⟩) 1 1) [s] :=
  ⟨some ⟨w.heap.size, 0, none⟩, 1, rfl, own_lit w base 66 4 w.heap.size 1 #[.int .i64 s.kind, .slice s.pA s.path.length s.pc, .int .i64 s.st, .int .i64 s.prio] rfl hb rfl (by unfold maxLen; omega)⟩
theorem RowSty.lit {w : World} {base g : Nat} {cur : Array Value} {s : Sty} (hb : base ≤ g) (hg : w.heap[g]? = some (.cells cur 66)) (hs : cur.toList = styCells s) : RowSty w base (.slice (some ⟨g, 0, none⟩) 1 1) [s] := by
  have hl : cur.size = 4 := by rw [← Array.length_toList, hs]; rfl
  refine ⟨some ⟨g, 0, none⟩, 1, rfl, rfl, .inr ⟨g, 1, cur, rfl, hb, hg, Nat.le_refl _, by unfold maxLen; omega, by rw [hl], ?_⟩⟩
  rw [hs]
  simp [sCells, styCells]
theorem sty_lit {w : World} {g : Nat} {cur : Array Value} {s : Sty} (hg : w.heap[g]? = some (.cells cur 66)) (hs : cur.toList = styCells s) : Styles w (some ⟨g, 0, none⟩) [s] := by
  obtain ⟨A, c, hv, h, _⟩ := (RowSty.lit (base := 0) (Nat.zero_le _) hg hs).styles
  injection hv with e1 _ _
  rw [e1]
  exact h
theorem app_stys (w0 : World) {w : World} {ops : Array Oper} {rest : List Oper} {o : Oper} {a : Act} {Q : Exit → Act → World → Prop} (hw : Region.wanted o (yielded ops a.tmps) = true) (s x : Operand)
    (ho : o.op = .call { callee := .builtin .append, args := #[s, x], argTypes := #[60, 60] }) {ss : List Sty} {v : Value} (hr : RowSty w w0.heap.size v ss) (tt : List Sty) (A : Option Addr) (c : Nat)
    (hs : a.eval s = v) (hx : a.eval x = .slice A tt.length c) (hA : A = none → c = 0) (hc : Styles w A tt) (hlen : ss.length + tt.length ≤ 1000000) (hext : Ext w0 w)
    (h : ∀ v' w', RowSty w' w0.heap.size v' (ss ++ tt) → w.grownBy w' v.ownBlock → Ext w0 w' → wpList Try.prog ops Q rest (a.put o.dst v') w') : wpList Try.prog ops Q (o :: rest) a w := by
  obtain ⟨A0, c0, rfl, hown⟩ := hr
  obtain ⟨i3, hi, hz0, hz1, hz2⟩ := info_parts infoStyle
  refine wpList_append_cells w hw s x 60 ho w0.heap.size 66 i3 _ 4 48 Try.underlying60 hi hz0 hz1 hz2 rfl (by omega) _ ss.length (sCells ss) hs hown A tt.length c (sCells tt) hx hA (sCells_length _)
    (cells_of_styles hc) (sCells_one _) (by unfold maxLen; omega) (by omega) hext.size fun v' w' h2 h3 h4 => ?_
  obtain ⟨A', c', hv', _⟩ := own_cells h2
  subst hv'
  refine h _ w' ⟨A', c', by rw [List.length_append], ?_⟩ h3 (hext.grown h3 fun g hg => own_block hown g hg)
  rw [sCells_append, List.length_append]
  exact h2
theorem foldl_maxS : ∀ (ss : List Sty) (x : Int), x ≤ ss.foldl (fun m s => max m s.prio) x ∧ (∀ t ∈ ss, t.prio ≤ ss.foldl (fun m s => max m s.prio) x) ∧ ∀ B, x ≤ B → (∀ t ∈ ss, t.prio ≤ B) → ss.foldl (fun m s => max m s.prio) x ≤ B
  | [], x => ⟨Int.le_refl _, (fun _ h => by cases h), fun _ h _ => h⟩
  | s :: ss, x => by
    obtain ⟨h1, h2, h3⟩ := foldl_maxS ss (max x s.prio)
    rw [List.foldl_cons]
    refine ⟨by omega, fun t ht => ?_, fun B hB h => h3 B (by have := h s (List.mem_cons_self ..); omega) fun t ht => h t (List.mem_cons_of_mem _ ht)⟩
    rcases List.mem_cons.1 ht with rfl | ht
    · omega
    · exact h2 t ht
/-- the greatest Prio, from far below on -/
def mxP (ss : List Sty) : Int := ss.foldl (fun m s => max m s.prio) (-1099511627776)
theorem mxP_take {ss : List Sty} {k : Nat} {s : Sty} (h : ss[k]? = some s) : mxP (ss.take (k + 1)) = max (mxP (ss.take k)) s.prio := by
  obtain ⟨hl, hx⟩ := List.getElem?_eq_some_iff.1 h
  unfold mxP
  rw [List.take_succ_eq_append_getElem hl, List.foldl_append, hx]
  rfl
theorem mxP_ge (ss : List Sty) : ∀ t ∈ ss, t.prio ≤ mxP ss := fun t ht => (foldl_maxS ss (-1099511627776)).2.1 t ht
set_option maxRecDepth 100000 in
set_option maxHeartbeats 2000000 in
theorem stylesOwn_any (B : Option Addr) (ss : List Sty) (cs : Nat) (A : Option Addr) (c : Nat) (ps : List Prt) (i0 long : Int) (W : World) (hS : Styles W B ss) (hSO : StylesOk W ss) (hsl : ss.length ≤ cs) (hsc : cs ≤ 9223372036854775807) (hsn : B = none → cs = 0)
    (hP : Prts W A ps) (hO : PrtsOk W ps) (hl : ps.length ≤ c) (hc : c ≤ 9223372036854775807) (hA : A = none → c = 0) (hk : KidsLt ps) (hi0 : I64 i0) (hlo : I64 long) :
    Calls Try.prog 10 #[.slice B ss.length cs, .slice A ps.length c, .int .i64 i0, .int .i64 long] W fun e w' => e = .returned (.bool true) ∧ Ext W w' := by
  have HS := Lib.hid hS
  have HSO := Lib.hid hSO
  have HSN := Lib.hid hsn
  have HP := Lib.hid hP
  have HO := Lib.hid hO
  have HK := Lib.hid hk
  have HA := Lib.hid hA
  have HLO := Lib.hid hlo
  unfold I64 at hi0
  clear hS hSO hP hO hk hA hsn hlo
  go_enter Try.func10, Try.ntmps10
  go_wp2_with fail
  refine (lives26 W).mono ?_
  rintro e w1 ⟨rfl, hx1⟩
  have HX1 := Lib.hid hx1
  clear hx1
  go_wp2_with fail
  refine (light26_any B ss cs none [] 0 A ps c w1 (HS.out.ext HX1.out) (HSO.out.ext HX1.out) (by omega) (by decide) (HP.out.ext HX1.out) (by omega) HK.out).mono ?_
  rintro e w2 ⟨b1, rfl, hb, hx2⟩
  have HX2 := Lib.hid (HX1.out.trans hx2)
  clear hx2 HX1
  cases b1 with
  | false =>
    go_wp2_with fail
    go_ret
    exact ⟨rfl, HX2.out⟩
  | true =>
    have hL := (hb rfl).2.2.2
    have hs70 := (hb rfl).2.1
    have S : Hid (PS W A c ps) := ⟨HP.out, HO.out, hL.few (by omega), hl, hc, HA.out⟩
    have hlen := hL.len
    clear hb hL HP HO HK HA
    by_cases T : Tree (nds ps)
    · have hpos := T.pos
      rw [nds_length] at hpos
      have HT := Lib.hid T
      clear T
      go_wp2_with fail
      refine (rcheck_ok (S.out.ext HX2.out) HT.out).mono ?_
      rintro e w3 ⟨rfl, hx3⟩
      have HX3 := Lib.hid (HX2.out.trans hx3)
      clear hx3 HX2
      go_wp2_with fail
      refine (pick_any i0 (ps.length : Int) w3 (by omega) hi0).mono ?_
      rintro e w3' ⟨rfl, rfl⟩
      have hpb := pickF_bd i0 (ps.length : Int) (by omega)
      obtain ⟨j, hj⟩ : ∃ j : Nat, pickF i0 (ps.length : Int) = (j : Int) := ⟨(pickF i0 (ps.length : Int)).toNat, by omega⟩
      rw [hj] at hpb
      have hjl : j < ps.length := by omega
      rw [hj]
      clear hj hpb
      obtain ⟨p, hp⟩ : ∃ p, ps[j]? = some p := ⟨_, List.getElem?_eq_getElem hjl⟩
      have HPP := Lib.hid hp
      clear hp
      by_cases hkk : p.nd.kind = 3 ∨ p.nd.kind = 5
      · obtain ⟨ws, hws⟩ := Way.all HT.out j j (Nat.le_refl _) (by rw [nds_length]; exact hjl)
        obtain ⟨p', us, hp', hwe⟩ := hws.ends
        rw [nds_get HPP.out] at hp'
        injection hp' with hp'
        subst hp'
        subst hwe
        have HW := Lib.hid hws
        have HKK := Lib.hid hkk
        have hwl : us.length + 1 ≤ 1001 := by have := hws.length HT.out; rw [List.length_append] at this; simp at this; omega
        have k3 : p.nd.kind = 3 ∨ (p.nd.kind ≠ 3 ∧ p.nd.kind = 5) := by omega
        obtain ⟨b, off, rfl, hb, hcell⟩ := (S.out.ext HX3.out).parts (by omega)
        have d1 := (hcell j p HPP.out).2.1
        clear hws hkk hcell
        go_upto_region 6 with fail
        go_cut [41] (fun t wx => t = .bool false ∧ w3 = wx)
        case first =>
          rcases k3 with k | ⟨k, k'⟩
          · have k1 : (p.nd.kind != 3) = false := by simp [k]
            go_wp2_with fail
            go_meet
            exact ⟨rfl, rfl⟩
          · have k1 : (p.nd.kind != 3) = true := by simp [k]
            have k2 : (p.nd.kind != 5) = false := by simp [k']
            go_wp2_with fail
            go_meet
            exact ⟨rfl, rfl⟩
        case rest =>
          obtain ⟨rfl, rfl⟩ := hcut
          clear k3 d1
          have CP := Lib.hid (rPath_yes j _ (S.out.ext HX3.out) HT.out HW.out hjl)
          go_wp2_with fail
          refine CP.out.mono ?_
          rintro e w5 ⟨A2, c2, rfl, ho, hx5⟩
          have HX5 := Lib.hid (HX3.out.trans hx5)
          have O2 := Lib.hid ho
          have hlw : (us ++ [p.nd.sym]).length = us.length + 1 := by simp
          rw [hlw]
          have ol1 : us.length + 1 ≤ c2 := by have := O2.out.ints.2.1; simpa using this
          have ol2 : c2 ≤ 9223372036854775807 := by have := O2.out.ints.2.2.1; unfold maxLen at this; omega
          obtain ⟨b', off', hA', hb', hcell⟩ := (S.out.ext HX5.out).parts (by omega)
          injection hA' with hA'
          injection hA' with ea eb
          subst ea eb
          have d0 := (hcell j p HPP.out).1
          have hkb := pickF_bd long ((us.length + 1 : Nat) : Int) (by omega)
          obtain ⟨kN, hkN⟩ : ∃ kN : Nat, pickF long ((us.length + 1 : Nat) : Int) = (kN : Int) := ⟨(pickF long ((us.length + 1 : Nat) : Int)).toNat, by omega⟩
          rw [hkN] at hkb
          have hkl : kN ≤ us.length := by omega
          obtain ⟨Ak, hAk⟩ : ∃ Ak, A2.map (·.add kN) = Ak := ⟨_, rfl⟩
          have IK : Hid (Ints w5 Ak (us.drop kN)) := Lib.hid (by rw [← hAk]; have := O2.out.ints.1.left.drop kN c2 (by omega); rwa [if_neg (by omega)] at this)
          have HKN := Lib.hid hkN
          have hdl : (us.drop kN).length = us.length - kN := List.length_drop
          have HDL := Lib.hid hdl
          obtain ⟨sy, hsy⟩ : ∃ sy, p.nd.sym = sy := ⟨_, rfl⟩
          have HSYB : Hid (I64 sy) := Lib.hid (by rw [← hsy]; exact (S.out.oks.get HPP.out).sym)
          have HSY := Lib.hid hsy
          rw [hsy] at d0
          clear hx5 ho hcell hlw hkN hkb hdl hsy
          have CP10 := Lib.hid (fun (V : World) => pick_any long ((us.length + 1 : Nat) : Int) V (by omega) HLO.out)
          rw [HKN.out] at CP10
          go_upto_region 10 with fail
          go_cut [10] (fun x wx => ∃ g, x = pt g ∧ Hid (w5.heap.size ≤ g) ∧ Hid (wx.heap[g]? = some (.cells #[.int .i64 sy, .slice Ak (us.length - kN) (c2 - kN), .int .i64 77, .int .i64 (-1099511627776)] 66)) ∧ Hid (Ext w5 wx))
          case first =>
            refine wp_region_bt (14) (softs_bt [0, 1, 2, 3, 4, 5, 6, 7, 8, 9] (.two (.step 10 (softs_bt [11, 12] (.step 13 (.step 14 .fin)))) (.step 13 (.step 10 (softs_bt [11, 12] (.step 14 .fin)))))) (by kernel_rfl) (by kernel_rfl) ?_
            (refine bt_softs _ fun K hK => ?_); (simp only [pick, nthC]); (repeat (go_big_quiet_step (fail))); (refine wpQuiet_nil (hK _ ?_)); (clear hK K)
            refine ⟨?_, ?_⟩
            · (refine bt_step fun next hn => ?_); (simp only [pick, nthC])
              go_wp2_with fail
              refine (CP10.out _).mono ?_
              rintro e wx ⟨rfl, rfl⟩
              go_wp2_with fail
              refine segQ_mk (fun _ => laid (by repeat (first | exact Ext.refl _ | refine Ext.alloc ?_ _ | refine Ext.more ?_ _ _ | refine Ext.drew ?_ | refine Ext.drewN ?_ _ | refine Ext.setCell ?_ (by simp <;> omega) _))) (hn _ _ ?_)
              clear hn next
              (refine bt_softs _ fun K hK => ?_); (simp only [pick, nthC]); (repeat (go_big_quiet_step (fail))); (refine wpQuiet_nil (hK _ ?_)); (clear hK K)
              (refine bt_step fun next hn => ?_); (simp only [pick, nthC])
              go_wp2_with fail
              refine segQ_mk (fun _ => laid (by repeat (first | exact Ext.refl _ | refine Ext.alloc ?_ _ | refine Ext.more ?_ _ _ | refine Ext.drew ?_ | refine Ext.drewN ?_ _ | refine Ext.setCell ?_ (by simp <;> omega) _))) (hn _ _ ?_)
              clear hn next
              (refine bt_step fun next hn => ?_); (simp only [pick, nthC])
              go_wp2_with fail
              refine segQ_mk (fun h => absurd rfl h) (hn _ _ ?_)
              clear hn next
              (refine bt_fin ?_)
              go_wp2_with fail
              go_meet
              subst hAk
              exact ⟨_, rfl, Lib.hid (Nat.le_refl _), Lib.hid (by show (w5.alloc _).heap[_]? = _; exact heap_alloc_new _ _), Lib.hid (by repeat (first | exact Ext.refl _ | refine Ext.alloc ?_ _ | refine Ext.more ?_ _ _ | refine Ext.drew ?_ | refine Ext.drewN ?_ _ | refine Ext.setCell ?_ (by simp <;> omega) _))⟩
            · (refine bt_step fun next hn => ?_); (simp only [pick, nthC])
              go_wp2_with fail
              refine segQ_mk (fun _ => laid (by repeat (first | exact Ext.refl _ | refine Ext.alloc ?_ _ | refine Ext.more ?_ _ _ | refine Ext.drew ?_ | refine Ext.drewN ?_ _ | refine Ext.setCell ?_ (by simp <;> omega) _))) (hn _ _ ?_)
              clear hn next
              (refine bt_step fun next hn => ?_); (simp only [pick, nthC])
              go_wp2_with fail
              refine (CP10.out _).mono ?_
              rintro e wx ⟨rfl, rfl⟩
              go_wp2_with fail
              refine segQ_mk (fun _ => laid (by repeat (first | exact Ext.refl _ | refine Ext.alloc ?_ _ | refine Ext.more ?_ _ _ | refine Ext.drew ?_ | refine Ext.drewN ?_ _ | refine Ext.setCell ?_ (by simp <;> omega) _))) (hn _ _ ?_)
              clear hn next
              (refine bt_softs _ fun K hK => ?_); (simp only [pick, nthC]); (repeat (go_big_quiet_step (fail))); (refine wpQuiet_nil (hK _ ?_)); (clear hK K)
              (refine bt_step fun next hn => ?_); (simp only [pick, nthC])
              go_wp2_with fail
              refine segQ_mk (fun h => absurd rfl h) (hn _ _ ?_)
              clear hn next
              (refine bt_fin ?_)
              go_wp2_with fail
              go_meet
              subst hAk
              exact ⟨_, rfl, Lib.hid (Nat.le_refl _), Lib.hid (by show (w5.alloc _).heap[_]? = _; exact heap_alloc_new _ _), Lib.hid (by repeat (first | exact Ext.refl _ | refine Ext.alloc ?_ _ | refine Ext.more ?_ _ _ | refine Ext.drew ?_ | refine Ext.drewN ?_ _ | refine Ext.setCell ?_ (by simp <;> omega) _))⟩
          case rest =>
            obtain ⟨g, rfl, hg1, hg2, hx6⟩ := hcut
            have hxW := Lib.hid (HX5.out.trans hx6.out)
            have MP0 : Hid (mxP (ss.take 0) = -1099511627776) := Lib.hid rfl
            go_wp2_with fail
            go_loopw [11] (fun v wr => ∃ k : Nat, k ≤ ss.length ∧ v = .int .i64 k ∧ Hid (wr.heap[g]? = some (.cells #[.int .i64 sy, .slice Ak (us.length - kN) (c2 - kN), .int .i64 77, .int .i64 (mxP (ss.take k))] 66)) ∧ Hid (∀ t ∈ ss.take k, t.prio ≤ 1099511627776) ∧ Hid (Ext w5 wr)) (fun v _ => ss.length - (intOf v).toNat)
            case atStart => exact ⟨0, Nat.zero_le _, rfl, Lib.hid (by rw [MP0.out]; exact hg2.out), Lib.hid (fun t ht => by simp at ht), hx6⟩
            case round =>
              obtain ⟨k, hk, rfl, hgc, hle, hx⟩ := hrel
              have hXr := Lib.hid (HX5.out.trans hx.out)
              by_cases hlt : k < ss.length
              · obtain ⟨s, hs⟩ : ∃ s, ss[k]? = some s := ⟨_, List.getElem?_eq_getElem hlt⟩
                obtain ⟨b2, off2, rfl, hb2, hcs⟩ := HS.out (by omega)
                have e3 := (hcs k s hs).2.2.2
                obtain ⟨M, hM⟩ : ∃ M, mxP (ss.take k) = M := ⟨_, rfl⟩
                obtain ⟨M2, hM2⟩ : ∃ M2, (if M < s.prio then s.prio else M) = M2 := ⟨_, rfl⟩
                have HMM : Hid (mxP (ss.take (k + 1)) = M2) := Lib.hid (by rw [mxP_take hs, hM, ← hM2]; split <;> omega)
                rw [hM] at hgc
                have y3 := cell_of_row _ _ 3 _ _ _ hgc.out
                simp at y3
                have lg := lt_of_heap hgc.out
                have f3 : wr.frozen? ⟨g, 3, none⟩ = false := by simp [World.frozen?, hgc.out]
                have d3 := (hXr.out.below.cell (p := ⟨b2, _, none⟩) hb2).trans e3
                have hb3 : b2 < wr.heap.size := Nat.lt_of_lt_of_le hb2 hXr.out.size
                have hne : b2 ≠ g := by have := hg1.out; have := HX5.out.size; omega
                have HGC := Lib.hid hgc.out
                have HSS := Lib.hid hs
                have hgW : W.heap.size ≤ g := by have := hg1.out; have := HX5.out.size; omega
                clear hcs hs hM e3 hgc
                go_upto_region 14 with fail
                refine wp_region_bt (9) (softs_bt [0, 1, 2, 3, 4, 5, 6, 7, 8] (.step 9 .fin)) (by kernel_rfl) (by kernel_rfl) ?_
                (refine bt_softs _ fun K hK => ?_); (simp only [pick, nthC]); (repeat (go_big_quiet_step (fail))); (refine wpQuiet_nil (hK _ ?_)); (clear hK K)
                (refine bt_step fun next hn => ?_); (simp only [pick, nthC])
                go_wp2_with fail
                refine segQ_mk (fun h => absurd rfl h) (hn _ _ ?_)
                clear hn next
                (refine bt_fin ?_)
                have X9 : Hid (Ext w5 (wr.setCell ⟨g, 3, none⟩ (.int .i64 M2))) := Lib.hid (hx.out.setCell hg1.out _)
                have G9 : Hid ((wr.setCell ⟨g, 3, none⟩ (.int .i64 M2)).heap[g]? = some (.cells #[.int .i64 sy, .slice Ak (us.length - kN) (c2 - kN), .int .i64 77, .int .i64 M2] 66)) := Lib.hid (by simp [World.setCell, Array.getElem?_modify, HGC.out])
                by_cases hbig : 1099511627776 < s.prio
                · go_wp2_with fail
                  go_ret
                  exact ⟨rfl, (HX5.out.trans X9.out).drew⟩
                · have HLE : Hid (∀ t ∈ ss.take (k + 1), t.prio ≤ 1099511627776) := Lib.hid fun t ht => by
                    obtain ⟨h1, h2⟩ := List.getElem?_eq_some_iff.1 HSS.out
                    rw [List.take_succ_eq_append_getElem h1, h2] at ht
                    rcases List.mem_append.1 ht with h | h
                    · exact hle.out t h
                    · obtain rfl := List.mem_singleton.1 h
                      omega
                  go_wp2_with fail
                  go_roundw
                  case rel => exact ⟨k + 1, by omega, by go_num, Lib.hid (by rw [HMM.out]; exact G9.out), HLE, Lib.hid X9.out.drew⟩
                  case measure => simp [intOf]; omega
              · obtain rfl : k = ss.length := by omega
                rw [List.take_length] at hgc hle
                obtain ⟨M, hM⟩ : ∃ M, mxP ss = M := ⟨_, rfl⟩
                have hM1 : -1099511627776 ≤ M := by rw [← hM]; exact (foldl_maxS ss _).1
                have hM2 : M ≤ 1099511627776 := by rw [← hM]; exact (foldl_maxS ss _).2.2 _ (by omega) hle.out
                rw [hM] at hgc
                have HM := Lib.hid hM
                have y0 := cell_of_row _ _ 0 _ _ _ hgc.out
                have y1 := cell_of_row _ _ 1 _ _ _ hgc.out
                have y2 := cell_of_row _ _ 2 _ _ _ hgc.out
                have y3 := cell_of_row _ _ 3 _ _ _ hgc.out
                simp at y0 y1 y2 y3
                have lg := lt_of_heap hgc.out
                have f0 : ∀ i, wr.frozen? ⟨g, i, none⟩ = false := fun i => by simp [World.frozen?, hgc.out]
                have f3 := f0 3
                clear f0 hM
                go_upto_region 20 with fail
                obtain ⟨h, hh⟩ : ∃ h, wr.heap.size = h := ⟨_, rfl⟩
                obtain ⟨okd, hok⟩ : ∃ okd, wrap64 (sy + 1) = okd := ⟨_, rfl⟩
                have HOK : Hid (okd ≠ sy) := Lib.hid (by
                  have := HSYB.out
                  unfold I64 at this
                  rw [← hok]
                  unfold wrap64
                  omega)
                obtain ⟨W8, hW8⟩ : ∃ W8, (wr.setCell ⟨g, 3, none⟩ (.int .i64 (M + 1))).alloc (.cells #[.int .i64 okd, .slice Ak (us.length - kN) (c2 - kN), .int .i64 77, .int .i64 (M + 1)] 66) = W8 := ⟨_, rfl⟩
                have X8 : Ext w5 W8 := by rw [← hW8]; exact (hx.out.setCell hg1.out _).alloc _
                have G8 : W8.heap[g]? = some (.cells #[.int .i64 sy, .slice Ak (us.length - kN) (c2 - kN), .int .i64 77, .int .i64 (M + 1)] 66) := by
                  rw [← hW8]
                  refine ext_block ?_ ((Ext.refl _).alloc _)
                  simp [World.setCell, Array.getElem?_modify, hgc.out]
                have H8 : W8.heap[h]? = some (.cells #[.int .i64 okd, .slice Ak (us.length - kN) (c2 - kN), .int .i64 77, .int .i64 (M + 1)] 66) := by
                  rw [← hW8]
                  have := heap_alloc_new (wr.setCell ⟨g, 3, none⟩ (.int .i64 (M + 1))) (.cells #[.int .i64 okd, .slice Ak (us.length - kN) (c2 - kN), .int .i64 77, .int .i64 (M + 1)] 66)
                  rwa [show (wr.setCell ⟨g, 3, none⟩ (.int .i64 (M + 1))).heap.size = h by simpa [World.setCell] using hh] at this
                rw [hok, hh, hW8]
                have HXW8 := Lib.hid (HX5.out.trans X8)
                have HH8 := Lib.hid H8
                have CZ : Hid (∀ V, Ext W8 V → V.cell? ⟨h, 0, none⟩ = some (.int .i64 okd) ∧ V.cell? ⟨h, 1, none⟩ = some (.slice Ak (us.length - kN) (c2 - kN)) ∧ V.cell? ⟨h, 2, none⟩ = some (.int .i64 77) ∧ V.cell? ⟨h, 3, none⟩ = some (.int .i64 (M + 1)) ∧ h < V.heap.size) := Lib.hid fun V x => by
                  have hb := ext_block HH8.out x
                  exact ⟨by simpa using cell_of_row _ _ 0 _ _ _ hb, by simpa using cell_of_row _ _ 1 _ _ _ hb, by simpa using cell_of_row _ _ 2 _ _ _ hb, by simpa using cell_of_row _ _ 3 _ _ _ hb, lt_of_heap hb⟩
                have SW := Lib.hid (S.out.ext HXW8.out)
                have HSW := Lib.hid (HS.out.ext HXW8.out)
                have HSOW := Lib.hid (HSO.out.ext HXW8.out)
                obtain ⟨s1, hs1⟩ : ∃ s1 : Sty, s1 = ⟨sy, Ak, c2 - kN, us.drop kN, 77, M + 1⟩ := ⟨_, rfl⟩
                obtain ⟨o1, ho1⟩ : ∃ o1 : Sty, o1 = ⟨okd, Ak, c2 - kN, us.drop kN, 77, M + 1⟩ := ⟨_, rfl⟩
                have HS1 : Hid ((#[.int .i64 sy, .slice Ak (us.length - kN) (c2 - kN), .int .i64 77, .int .i64 (M + 1)] : Array Value).toList = styCells s1) := Lib.hid (by rw [hs1]; simp [styCells])
                have HO1C : Hid ((#[.int .i64 okd, .slice Ak (us.length - kN) (c2 - kN), .int .i64 77, .int .i64 (M + 1)] : Array Value).toList = styCells o1) := Lib.hid (by rw [ho1]; simp [styCells])
                have HO1 : Hid (StylesOk W8 (ss ++ [s1])) := Lib.hid fun t ht => by
                  rcases List.mem_append.1 ht with h | h
                  · exact HSOW.out t h
                  · obtain rfl := List.mem_singleton.1 h
                    rw [hs1]
                    exact ⟨IK.out.ext X8, by simp; omega⟩
                have HO2 : Hid (StylesOk W8 ([o1] ++ ss)) := Lib.hid fun t ht => by
                  rcases List.mem_append.1 ht with h | h
                  · obtain rfl := List.mem_singleton.1 h
                    rw [ho1]
                    exact ⟨IK.out.ext X8, by simp; omega⟩
                  · exact HSOW.out t h
                have HV1 : Hid (styleF (ss ++ [s1]) sy us = 77) := Lib.hid (by
                  rw [style_last ss s1 sy us (by rw [hs1]; simp [matchB, ends_self]) (fun t ht => by rw [hs1]; have := mxP_ge ss t ht; rw [HM.out] at this; show t.prio < M + 1; omega), hs1])
                have HV2 : Hid (styleF ([o1] ++ ss) sy us = styleF ss sy us) := Lib.hid (style_ahead o1 ss sy us (by rw [ho1]; exact HOK.out))
                clear hs1 ho1 y0 y1 y2 y3 lg f3 hok hh hW8 X8 H8 hle
                have y0 := cell_of_row _ _ 0 _ _ _ G8
                have y1 := cell_of_row _ _ 1 _ _ _ G8
                have y2 := cell_of_row _ _ 2 _ _ _ G8
                have y3 := cell_of_row _ _ 3 _ _ _ G8
                simp at y0 y1 y2 y3
                have lg := lt_of_heap G8
                clear G8
                refine wp_region_bt (25) (softs_bt [1, 3, 6, 7] (.two (.step 0 (.two (.step 2 (.step 4 (.step 5 (.step 8 (softs_bt [9, 10, 11, 13, 15, 16, 18, 19, 20] (.step 12 (.step 14 (.step 17 (.step 21 (softs_bt [22, 23, 24] .fin)))))))))) (.step 4 (.step 2 (.step 5 (.step 8 (softs_bt [9, 10, 11, 13, 15, 16, 18, 19, 20] (.step 12 (.step 14 (.step 17 (.step 21 (softs_bt [22, 23, 24] .fin)))))))))))) (.step 4 (.step 0 (.step 2 (.step 5 (.step 8 (softs_bt [9, 10, 11, 13, 15, 16, 18, 19, 20] (.step 12 (.step 14 (.step 17 (.step 21 (softs_bt [22, 23, 24] .fin))))))))))))) (by kernel_rfl) (by kernel_rfl) ?_
                (refine bt_softs _ fun K hK => ?_); (simp only [pick, nthC]); (repeat (go_big_quiet_step (fail))); (refine wpQuiet_nil (hK _ ?_)); (clear hK K)
                clear y0 y1 y2 y3 lg
                refine ⟨?_, ?_⟩
                · (refine bt_step fun next hn => ?_); (simp only [pick, nthC])
                  go_wp2_with fail
                  refine segQ_mk (fun _ => laid (by repeat (first | exact Ext.refl _ | refine Ext.alloc ?_ _ | refine Ext.more ?_ _ _ | refine Ext.drew ?_ | refine Ext.drewN ?_ _ | refine Ext.setCell ?_ (by simp <;> omega) _))) (hn _ _ ?_)
                  clear hn next
                  refine ⟨?_, ?_⟩
                  · have HR0 := Lib.hid ((RowSty.empty W8.drew W8.heap.size (Nat.le_refl _)))
                    have HX0 : Hid (Ext W8 (W8.drew.alloc (.cells #[] 66))) := Lib.hid (by repeat (first | exact Ext.refl _ | refine Ext.alloc ?_ _ | refine Ext.more ?_ _ _ | refine Ext.drew ?_ | refine Ext.drewN ?_ _ | refine Ext.setCell ?_ (by simp <;> omega) _))
                    (refine bt_step fun next hn => ?_); (simp only [pick, nthC])
                    at_builtin
                    refine app_stys W8 (by rfl) (.tmp 98) (.tmp 99) rfl HR0.out ss B cs rfl rfl HSN.out (HSW.out.ext HX0.out) (by simp; omega) HX0.out ?_
                    intro v2 w2' hr2 hg2' hx2'
                    rw [List.nil_append] at hr2
                    have HR2 := Lib.hid hr2
                    have HX2 := Lib.hid hx2'
                    clear hr2 hg2' hx2'
                    go_wp2_with fail
                    refine segQ_mk (fun _ => laid HX2.out) (hn _ _ ?_)
                    clear hn next
                    (refine bt_step fun next hn => ?_); (simp only [pick, nthC])
                    go_wp2_with fail
                    refine segQ_mk (fun _ => laid (HX2.out.alloc _)) (hn _ _ ?_)
                    clear hn next
                    have G4 := Lib.hid (heap_alloc_new w2' (.cells #[.int .i64 sy, .slice Ak (us.length - kN) (c2 - kN), .int .i64 77, .int .i64 (M + 1)] 66))
                    have HR4 := Lib.hid (HR2.out.ext ((Ext.refl w2').alloc (.cells #[.int .i64 sy, .slice Ak (us.length - kN) (c2 - kN), .int .i64 77, .int .i64 (M + 1)] 66)))
                    have HX4 := Lib.hid (HX2.out.alloc (.cells #[.int .i64 sy, .slice Ak (us.length - kN) (c2 - kN), .int .i64 77, .int .i64 (M + 1)] 66))
                    (refine bt_step fun next hn => ?_); (simp only [pick, nthC])
                    at_builtin
                    refine app_stys W8 (by rfl) (.tmp 100) (.tmp 102) rfl HR4.out [s1] _ 1 rfl rfl nofun (sty_lit G4.out HS1.out) (by simp; omega) HX4.out ?_
                    intro v5 w5' hr5 _ hx5'
                    obtain ⟨A5, c5, hv5, hst5, hl5, hc5, hn5⟩ := hr5.styles
                    obtain ⟨n5, hln5⟩ : ∃ n, (ss ++ [s1]).length = n := ⟨_, rfl⟩
                    rw [hln5] at hv5
                    subst hv5
                    unfold maxLen at hc5
                    have X5 := Lib.hid hx5'
                    have CL5 := leaf26_yes (cs := c5) hst5 (HO1.out.ext hx5') (by simp; omega) (SW.out.ext hx5') HT.out HPP.out HKK.out HW.out
                    rw [HSY.out, HV1.out, hln5] at CL5
                    have HCL5 := Lib.hid CL5
                    clear hr5 hst5 hl5 hc5 hn5 hln5 hx5' CL5
                    go_wp2_with fail
                    refine segQ_mk (fun _ => laid X5.out) (hn _ _ ?_)
                    clear hn next
                    (refine bt_step fun next hn => ?_); (simp only [pick, nthC])
                    go_wp2_with fail
                    refine HCL5.out.mono ?_
                    rintro e w6' ⟨rfl, hx6'⟩
                    have X6 := Lib.hid (X5.out.trans hx6')
                    clear hx6' HCL5
                    obtain ⟨z0, z1, z2, z3, lz⟩ := CZ.out W8 (Ext.refl _)
                    go_wp2_with fail
                    refine segQ_mk (fun _ => laid X6.out) (hn _ _ ?_)
                    clear hn next
                    (refine bt_softs _ fun K hK => ?_); (simp only [pick, nthC]); (repeat (go_big_quiet_step (fail))); (refine wpQuiet_nil (hK _ ?_)); (clear hK K)
                    (refine bt_step fun next hn => ?_); (simp only [pick, nthC])
                    go_wp2_with fail
                    refine segQ_mk (fun _ => laid (X6.out.alloc _)) (hn _ _ ?_)
                    clear hn next
                    have HR12 := Lib.hid (RowSty.lit (base := W8.heap.size) X6.out.size (heap_alloc_new w6' (.cells #[.int .i64 okd, .slice Ak (us.length - kN) (c2 - kN), .int .i64 77, .int .i64 (M + 1)] 66)) HO1C.out)
                    have X12 : Hid (Ext W8 (w6'.alloc (.cells #[.int .i64 okd, .slice Ak (us.length - kN) (c2 - kN), .int .i64 77, .int .i64 (M + 1)] 66))) := Lib.hid (X6.out.alloc _)
                    (refine bt_step fun next hn => ?_); (simp only [pick, nthC])
                    at_builtin
                    refine app_stys W8 (by rfl) (.tmp 110) (.tmp 111) rfl HR12.out ss B cs rfl rfl HSN.out (HSW.out.ext X12.out) (by simp; omega) X12.out ?_
                    intro v14 w14 hr14 _ hx14
                    obtain ⟨A14, c14, hv14, hst14, hl14, hc14, hn14⟩ := hr14.styles
                    obtain ⟨n14, hln14⟩ : ∃ n, ([o1] ++ ss).length = n := ⟨_, rfl⟩
                    rw [hln14] at hv14
                    subst hv14
                    unfold maxLen at hc14
                    have X14 := Lib.hid hx14
                    have CL14 := leaf26_yes (cs := c14) hst14 (HO2.out.ext hx14) (by simp; omega) (SW.out.ext hx14) HT.out HPP.out HKK.out HW.out
                    rw [HSY.out, HV2.out, hln14] at CL14
                    have HCL14 := Lib.hid CL14
                    clear hr14 hst14 hl14 hc14 hn14 hln14 hx14 CL14 z0 z1 z2 z3 lz
                    go_wp2_with fail
                    refine segQ_mk (fun _ => laid X14.out) (hn _ _ ?_)
                    clear hn next
                    (refine bt_step fun next hn => ?_); (simp only [pick, nthC])
                    go_wp2_with fail
                    refine HCL14.out.mono ?_
                    rintro e w17 ⟨rfl, hx17⟩
                    have X17 := Lib.hid (X14.out.trans hx17)
                    clear hx17 HCL14
                    go_wp2_with fail
                    refine segQ_mk (fun _ => laid X17.out) (hn _ _ ?_)
                    clear hn next
                    (refine bt_step fun next hn => ?_); (simp only [pick, nthC])
                    have CL21 := leaf26_yes (cs := cs) (HSW.out.ext X17.out) (HSOW.out.ext X17.out) (by omega) (SW.out.ext X17.out) HT.out HPP.out HKK.out HW.out
                    rw [HSY.out] at CL21
                    have HCL21 := Lib.hid CL21
                    clear CL21
                    go_wp2_with fail
                    refine HCL21.out.mono ?_
                    rintro e w21 ⟨rfl, hx21⟩
                    have X21 := Lib.hid (X17.out.trans hx21)
                    clear hx21 HCL21
                    go_wp2_with fail
                    refine segQ_mk (fun _ => laid X21.out) (hn _ _ ?_)
                    clear hn next
                    (refine bt_softs _ fun K hK => ?_); (simp only [pick, nthC]); (repeat (go_big_quiet_step (fail))); (refine wpQuiet_nil (hK _ ?_)); (clear hK K)
                    (refine bt_fin ?_)
                    go_wp2_with fail
                    go_ret
                    exact ⟨rfl, HXW8.out.trans X21.out⟩
                  · (refine bt_step fun next hn => ?_); (simp only [pick, nthC])
                    go_wp2_with fail
                    refine segQ_mk (fun _ => laid (by repeat (first | exact Ext.refl _ | refine Ext.alloc ?_ _ | refine Ext.more ?_ _ _ | refine Ext.drew ?_ | refine Ext.drewN ?_ _ | refine Ext.setCell ?_ (by simp <;> omega) _))) (hn _ _ ?_)
                    clear hn next
                    have HR0 := Lib.hid ((RowSty.empty W8.drew W8.heap.size (Nat.le_refl _)).ext ((Ext.refl _).alloc (.cells #[.int .i64 sy, .slice Ak (us.length - kN) (c2 - kN), .int .i64 77, .int .i64 (M + 1)] 66)))
                    have HX0 : Hid (Ext W8 ((W8.drew.alloc (.cells #[] 66)).alloc (.cells #[.int .i64 sy, .slice Ak (us.length - kN) (c2 - kN), .int .i64 77, .int .i64 (M + 1)] 66))) := Lib.hid (by repeat (first | exact Ext.refl _ | refine Ext.alloc ?_ _ | refine Ext.more ?_ _ _ | refine Ext.drew ?_ | refine Ext.drewN ?_ _ | refine Ext.setCell ?_ (by simp <;> omega) _))
                    have HG40 : Hid (((W8.drew.alloc (.cells #[] 66)).alloc (.cells #[.int .i64 sy, .slice Ak (us.length - kN) (c2 - kN), .int .i64 77, .int .i64 (M + 1)] 66)).heap[W8.heap.size + 1]? = some (.cells #[.int .i64 sy, .slice Ak (us.length - kN) (c2 - kN), .int .i64 77, .int .i64 (M + 1)] 66)) := Lib.hid (by have := heap_alloc_new (W8.drew.alloc (.cells #[] 66)) (.cells #[.int .i64 sy, .slice Ak (us.length - kN) (c2 - kN), .int .i64 77, .int .i64 (M + 1)] 66); rw [World.size_alloc] at this; exact this)
                    (refine bt_step fun next hn => ?_); (simp only [pick, nthC])
                    at_builtin
                    refine app_stys W8 (by rfl) (.tmp 98) (.tmp 99) rfl HR0.out ss B cs rfl rfl HSN.out (HSW.out.ext HX0.out) (by simp; omega) HX0.out ?_
                    intro v2 w2' hr2 hg2' hx2'
                    rw [List.nil_append] at hr2
                    have HR2 := Lib.hid hr2
                    have HX2 := Lib.hid hx2'
                    have G4 : Hid (w2'.heap[W8.heap.size + 1]? = some (.cells #[.int .i64 sy, .slice Ak (us.length - kN) (c2 - kN), .int .i64 77, .int .i64 (M + 1)] 66)) := Lib.hid ((hg2'.block _ (by simp [World.size_alloc] <;> omega) (by simp [Value.ownBlock])).trans HG40.out)
                    clear hr2 hg2' hx2'
                    go_wp2_with fail
                    refine segQ_mk (fun _ => laid HX2.out) (hn _ _ ?_)
                    clear hn next
                    have HR4 := HR2
                    have HX4 := HX2
                    (refine bt_step fun next hn => ?_); (simp only [pick, nthC])
                    at_builtin
                    refine app_stys W8 (by rfl) (.tmp 100) (.tmp 102) rfl HR4.out [s1] _ 1 rfl rfl nofun (sty_lit G4.out HS1.out) (by simp; omega) HX4.out ?_
                    intro v5 w5' hr5 _ hx5'
                    obtain ⟨A5, c5, hv5, hst5, hl5, hc5, hn5⟩ := hr5.styles
                    obtain ⟨n5, hln5⟩ : ∃ n, (ss ++ [s1]).length = n := ⟨_, rfl⟩
                    rw [hln5] at hv5
                    subst hv5
                    unfold maxLen at hc5
                    have X5 := Lib.hid hx5'
                    have CL5 := leaf26_yes (cs := c5) hst5 (HO1.out.ext hx5') (by simp; omega) (SW.out.ext hx5') HT.out HPP.out HKK.out HW.out
                    rw [HSY.out, HV1.out, hln5] at CL5
                    have HCL5 := Lib.hid CL5
                    clear hr5 hst5 hl5 hc5 hn5 hln5 hx5' CL5
                    go_wp2_with fail
                    refine segQ_mk (fun _ => laid X5.out) (hn _ _ ?_)
                    clear hn next
                    (refine bt_step fun next hn => ?_); (simp only [pick, nthC])
                    go_wp2_with fail
                    refine HCL5.out.mono ?_
                    rintro e w6' ⟨rfl, hx6'⟩
                    have X6 := Lib.hid (X5.out.trans hx6')
                    clear hx6' HCL5
                    obtain ⟨z0, z1, z2, z3, lz⟩ := CZ.out W8 (Ext.refl _)
                    go_wp2_with fail
                    refine segQ_mk (fun _ => laid X6.out) (hn _ _ ?_)
                    clear hn next
                    (refine bt_softs _ fun K hK => ?_); (simp only [pick, nthC]); (repeat (go_big_quiet_step (fail))); (refine wpQuiet_nil (hK _ ?_)); (clear hK K)
                    (refine bt_step fun next hn => ?_); (simp only [pick, nthC])
                    go_wp2_with fail
                    refine segQ_mk (fun _ => laid (X6.out.alloc _)) (hn _ _ ?_)
                    clear hn next
                    have HR12 := Lib.hid (RowSty.lit (base := W8.heap.size) X6.out.size (heap_alloc_new w6' (.cells #[.int .i64 okd, .slice Ak (us.length - kN) (c2 - kN), .int .i64 77, .int .i64 (M + 1)] 66)) HO1C.out)
                    have X12 : Hid (Ext W8 (w6'.alloc (.cells #[.int .i64 okd, .slice Ak (us.length - kN) (c2 - kN), .int .i64 77, .int .i64 (M + 1)] 66))) := Lib.hid (X6.out.alloc _)
                    (refine bt_step fun next hn => ?_); (simp only [pick, nthC])
                    at_builtin
                    refine app_stys W8 (by rfl) (.tmp 110) (.tmp 111) rfl HR12.out ss B cs rfl rfl HSN.out (HSW.out.ext X12.out) (by simp; omega) X12.out ?_
                    intro v14 w14 hr14 _ hx14
                    obtain ⟨A14, c14, hv14, hst14, hl14, hc14, hn14⟩ := hr14.styles
                    obtain ⟨n14, hln14⟩ : ∃ n, ([o1] ++ ss).length = n := ⟨_, rfl⟩
                    rw [hln14] at hv14
                    subst hv14
                    unfold maxLen at hc14
                    have X14 := Lib.hid hx14
                    have CL14 := leaf26_yes (cs := c14) hst14 (HO2.out.ext hx14) (by simp; omega) (SW.out.ext hx14) HT.out HPP.out HKK.out HW.out
                    rw [HSY.out, HV2.out, hln14] at CL14
                    have HCL14 := Lib.hid CL14
                    clear hr14 hst14 hl14 hc14 hn14 hln14 hx14 CL14 z0 z1 z2 z3 lz
                    go_wp2_with fail
                    refine segQ_mk (fun _ => laid X14.out) (hn _ _ ?_)
                    clear hn next
                    (refine bt_step fun next hn => ?_); (simp only [pick, nthC])
                    go_wp2_with fail
                    refine HCL14.out.mono ?_
                    rintro e w17 ⟨rfl, hx17⟩
                    have X17 := Lib.hid (X14.out.trans hx17)
                    clear hx17 HCL14
                    go_wp2_with fail
                    refine segQ_mk (fun _ => laid X17.out) (hn _ _ ?_)
                    clear hn next
                    (refine bt_step fun next hn => ?_); (simp only [pick, nthC])
                    have CL21 := leaf26_yes (cs := cs) (HSW.out.ext X17.out) (HSOW.out.ext X17.out) (by omega) (SW.out.ext X17.out) HT.out HPP.out HKK.out HW.out
                    rw [HSY.out] at CL21
                    have HCL21 := Lib.hid CL21
                    clear CL21
                    go_wp2_with fail
                    refine HCL21.out.mono ?_
                    rintro e w21 ⟨rfl, hx21⟩
                    have X21 := Lib.hid (X17.out.trans hx21)
                    clear hx21 HCL21
                    go_wp2_with fail
                    refine segQ_mk (fun _ => laid X21.out) (hn _ _ ?_)
                    clear hn next
                    (refine bt_softs _ fun K hK => ?_); (simp only [pick, nthC]); (repeat (go_big_quiet_step (fail))); (refine wpQuiet_nil (hK _ ?_)); (clear hK K)
                    (refine bt_fin ?_)
                    go_wp2_with fail
                    go_ret
                    exact ⟨rfl, HXW8.out.trans X21.out⟩
                · (refine bt_step fun next hn => ?_); (simp only [pick, nthC])
                  go_wp2_with fail
                  refine segQ_mk (fun _ => laid (by repeat (first | exact Ext.refl _ | refine Ext.alloc ?_ _ | refine Ext.more ?_ _ _ | refine Ext.drew ?_ | refine Ext.drewN ?_ _ | refine Ext.setCell ?_ (by simp <;> omega) _))) (hn _ _ ?_)
                  clear hn next
                  (refine bt_step fun next hn => ?_); (simp only [pick, nthC])
                  go_wp2_with fail
                  refine segQ_mk (fun _ => laid (by repeat (first | exact Ext.refl _ | refine Ext.alloc ?_ _ | refine Ext.more ?_ _ _ | refine Ext.drew ?_ | refine Ext.drewN ?_ _ | refine Ext.setCell ?_ (by simp <;> omega) _))) (hn _ _ ?_)
                  clear hn next
                  have HR0 : Hid (RowSty ((W8.drew.alloc (.cells #[.int .i64 sy, .slice Ak (us.length - kN) (c2 - kN), .int .i64 77, .int .i64 (M + 1)] 66)).alloc (.cells #[] 66)) W8.heap.size (.slice (some ⟨W8.heap.size + 1, 0, none⟩) 0 0) []) := Lib.hid (by have := RowSty.empty (W8.drew.alloc (.cells #[.int .i64 sy, .slice Ak (us.length - kN) (c2 - kN), .int .i64 77, .int .i64 (M + 1)] 66)) W8.heap.size (by simp); rw [World.size_alloc] at this; exact this)
                  have HX0 : Hid (Ext W8 ((W8.drew.alloc (.cells #[.int .i64 sy, .slice Ak (us.length - kN) (c2 - kN), .int .i64 77, .int .i64 (M + 1)] 66)).alloc (.cells #[] 66))) := Lib.hid (by repeat (first | exact Ext.refl _ | refine Ext.alloc ?_ _ | refine Ext.more ?_ _ _ | refine Ext.drew ?_ | refine Ext.drewN ?_ _ | refine Ext.setCell ?_ (by simp <;> omega) _))
                  have HG40 : Hid (((W8.drew.alloc (.cells #[.int .i64 sy, .slice Ak (us.length - kN) (c2 - kN), .int .i64 77, .int .i64 (M + 1)] 66)).alloc (.cells #[] 66)).heap[W8.heap.size]? = some (.cells #[.int .i64 sy, .slice Ak (us.length - kN) (c2 - kN), .int .i64 77, .int .i64 (M + 1)] 66)) := Lib.hid (ext_block (heap_alloc_new W8.drew (.cells #[.int .i64 sy, .slice Ak (us.length - kN) (c2 - kN), .int .i64 77, .int .i64 (M + 1)] 66)) ((Ext.refl _).alloc (.cells #[] 66)))
                  (refine bt_step fun next hn => ?_); (simp only [pick, nthC])
                  at_builtin
                  refine app_stys W8 (by rfl) (.tmp 98) (.tmp 99) rfl HR0.out ss B cs rfl rfl HSN.out (HSW.out.ext HX0.out) (by simp; omega) HX0.out ?_
                  intro v2 w2' hr2 hg2' hx2'
                  rw [List.nil_append] at hr2
                  have HR2 := Lib.hid hr2
                  have HX2 := Lib.hid hx2'
                  have G4 : Hid (w2'.heap[W8.heap.size]? = some (.cells #[.int .i64 sy, .slice Ak (us.length - kN) (c2 - kN), .int .i64 77, .int .i64 (M + 1)] 66)) := Lib.hid ((hg2'.block _ (by simp [World.size_alloc] <;> omega) (fun h => by have h2 : W8.heap.size = W8.heap.size + 1 := Option.some.inj h; omega)).trans HG40.out)
                  clear hr2 hg2' hx2'
                  go_wp2_with fail
                  refine segQ_mk (fun _ => laid HX2.out) (hn _ _ ?_)
                  clear hn next
                  have HR4 := HR2
                  have HX4 := HX2
                  (refine bt_step fun next hn => ?_); (simp only [pick, nthC])
                  at_builtin
                  refine app_stys W8 (by rfl) (.tmp 100) (.tmp 102) rfl HR4.out [s1] _ 1 rfl rfl nofun (sty_lit G4.out HS1.out) (by simp; omega) HX4.out ?_
                  intro v5 w5' hr5 _ hx5'
                  obtain ⟨A5, c5, hv5, hst5, hl5, hc5, hn5⟩ := hr5.styles
                  obtain ⟨n5, hln5⟩ : ∃ n, (ss ++ [s1]).length = n := ⟨_, rfl⟩
                  rw [hln5] at hv5
                  subst hv5
                  unfold maxLen at hc5
                  have X5 := Lib.hid hx5'
                  have CL5 := leaf26_yes (cs := c5) hst5 (HO1.out.ext hx5') (by simp; omega) (SW.out.ext hx5') HT.out HPP.out HKK.out HW.out
                  rw [HSY.out, HV1.out, hln5] at CL5
                  have HCL5 := Lib.hid CL5
                  clear hr5 hst5 hl5 hc5 hn5 hln5 hx5' CL5
                  go_wp2_with fail
                  refine segQ_mk (fun _ => laid X5.out) (hn _ _ ?_)
                  clear hn next
                  (refine bt_step fun next hn => ?_); (simp only [pick, nthC])
                  go_wp2_with fail
                  refine HCL5.out.mono ?_
                  rintro e w6' ⟨rfl, hx6'⟩
                  have X6 := Lib.hid (X5.out.trans hx6')
                  clear hx6' HCL5
                  obtain ⟨z0, z1, z2, z3, lz⟩ := CZ.out W8 (Ext.refl _)
                  go_wp2_with fail
                  refine segQ_mk (fun _ => laid X6.out) (hn _ _ ?_)
                  clear hn next
                  (refine bt_softs _ fun K hK => ?_); (simp only [pick, nthC]); (repeat (go_big_quiet_step (fail))); (refine wpQuiet_nil (hK _ ?_)); (clear hK K)
                  (refine bt_step fun next hn => ?_); (simp only [pick, nthC])
                  go_wp2_with fail
                  refine segQ_mk (fun _ => laid (X6.out.alloc _)) (hn _ _ ?_)
                  clear hn next
                  have HR12 := Lib.hid (RowSty.lit (base := W8.heap.size) X6.out.size (heap_alloc_new w6' (.cells #[.int .i64 okd, .slice Ak (us.length - kN) (c2 - kN), .int .i64 77, .int .i64 (M + 1)] 66)) HO1C.out)
                  have X12 : Hid (Ext W8 (w6'.alloc (.cells #[.int .i64 okd, .slice Ak (us.length - kN) (c2 - kN), .int .i64 77, .int .i64 (M + 1)] 66))) := Lib.hid (X6.out.alloc _)
                  (refine bt_step fun next hn => ?_); (simp only [pick, nthC])
                  at_builtin
                  refine app_stys W8 (by rfl) (.tmp 110) (.tmp 111) rfl HR12.out ss B cs rfl rfl HSN.out (HSW.out.ext X12.out) (by simp; omega) X12.out ?_
                  intro v14 w14 hr14 _ hx14
                  obtain ⟨A14, c14, hv14, hst14, hl14, hc14, hn14⟩ := hr14.styles
                  obtain ⟨n14, hln14⟩ : ∃ n, ([o1] ++ ss).length = n := ⟨_, rfl⟩
                  rw [hln14] at hv14
                  subst hv14
                  unfold maxLen at hc14
                  have X14 := Lib.hid hx14
                  have CL14 := leaf26_yes (cs := c14) hst14 (HO2.out.ext hx14) (by simp; omega) (SW.out.ext hx14) HT.out HPP.out HKK.out HW.out
                  rw [HSY.out, HV2.out, hln14] at CL14
                  have HCL14 := Lib.hid CL14
                  clear hr14 hst14 hl14 hc14 hn14 hln14 hx14 CL14 z0 z1 z2 z3 lz
                  go_wp2_with fail
                  refine segQ_mk (fun _ => laid X14.out) (hn _ _ ?_)
                  clear hn next
                  (refine bt_step fun next hn => ?_); (simp only [pick, nthC])
                  go_wp2_with fail
                  refine HCL14.out.mono ?_
                  rintro e w17 ⟨rfl, hx17⟩
                  have X17 := Lib.hid (X14.out.trans hx17)
                  clear hx17 HCL14
                  go_wp2_with fail
                  refine segQ_mk (fun _ => laid X17.out) (hn _ _ ?_)
                  clear hn next
                  (refine bt_step fun next hn => ?_); (simp only [pick, nthC])
                  have CL21 := leaf26_yes (cs := cs) (HSW.out.ext X17.out) (HSOW.out.ext X17.out) (by omega) (SW.out.ext X17.out) HT.out HPP.out HKK.out HW.out
                  rw [HSY.out] at CL21
                  have HCL21 := Lib.hid CL21
                  clear CL21
                  go_wp2_with fail
                  refine HCL21.out.mono ?_
                  rintro e w21 ⟨rfl, hx21⟩
                  have X21 := Lib.hid (X17.out.trans hx21)
                  clear hx21 HCL21
                  go_wp2_with fail
                  refine segQ_mk (fun _ => laid X21.out) (hn _ _ ?_)
                  clear hn next
                  (refine bt_softs _ fun K hK => ?_); (simp only [pick, nthC]); (repeat (go_big_quiet_step (fail))); (refine wpQuiet_nil (hK _ ?_)); (clear hK K)
                  (refine bt_fin ?_)
                  go_wp2_with fail
                  go_ret
                  exact ⟨rfl, HXW8.out.trans X21.out⟩
      · have CL := Lib.hid (leaf26_no (ts := ps) j (.slice B ss.length cs) (S.out.ext HX3.out) (fun ⟨_, j', p', e, hp', h⟩ => by
          obtain rfl : j = j' := by omega
          rw [nds_get HPP.out] at hp'
          cases hp'
          exact hkk h))
        have k1 : (p.nd.kind != 3) = true := by simp; omega
        have k2 : (p.nd.kind != 5) = true := by simp; omega
        obtain ⟨b, off, rfl, hb, hcell⟩ := (S.out.ext HX3.out).parts (by omega)
        have d1 := (hcell j p HPP.out).2.1
        clear hkk hcell
        go_wp2_with fail
        refine CL.out.mono ?_
        rintro e w4 ⟨rfl, hx4⟩
        have HX4 := Lib.hid (HX3.out.trans hx4)
        clear hx4
        go_wp2_with fail
        go_ret
        exact ⟨rfl, HX4.out⟩
    · go_wp2_with fail
      refine (rcheck_no (S.out.ext HX2.out) T).mono ?_
      rintro e w3 ⟨rfl, hx3⟩
      have HX3 := Lib.hid (HX2.out.trans hx3)
      clear hx3 T
      go_wp2_with fail
      go_ret
      exact ⟨rfl, HX3.out⟩
end Go.Proofs.Ytaffaeompdlecaa
