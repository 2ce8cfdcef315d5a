/- StylesOthers: the walk. -/
import Derived.Test.YteclpmdhllmloaaG
import Derived.Deep.RegionLaw
import Derived.WalkSpells
import Derived.WalkLawsBesides
import Derived.Deep.RegionWith
import Derived.Deep.QuietTactic
import Derived.Deep.DeepCutAuto
import Derived.Deep.RegionHeld3
import Derived.BigQuiet
import Derived.Lib.Hide
namespace Go.Proofs.Yteclpmdhllmloaa
open Go.RowKit
attribute [local go_sem] more_drew more_drewN more_size more_cell more_frozen more_setCell drew_more drewN_more lt_add_r lt_add_r2 lt_add_r3 lt_add_r4 lt_add_r5 lt_add_r6 lt_add_r7 lt_add_r8 lt_add_r9 lt_add_r10 lt_self_r lt_self_r2

theorem info27 : (Try.prog.info? 27).map (fun i => (i.zero, i.size, i.bytes)) = some (some (.agg #[.int .i64 0, .slice none 0 0, .int .i64 0, .int .i64 0]), 4, 48) := by kernel_rfl
theorem info3 : (Try.prog.info? 3).map (fun i => (i.zero, i.size, i.bytes)) = some (some (.int .i64 0), 1, 8) := by kernel_rfl

theorem cells_lit (w : World) (e : TypeId) (g : Nat) (cur : Array Value) (cs : List Value) (hg : g = w.heap.size) (hc : cur.toList = cs) : CellsAt (w.alloc (.cells cur e)) (some ⟨g, 0, none⟩) cs := by
  subst hg hc
  intro _
  refine ⟨_, 0, rfl, by simp, fun k u hk => ?_⟩
  rw [Nat.zero_add, World.cell?_alloc_new]
  simpa using hk
theorem own_block {w : World} {base : Nat} {e : TypeId} {size : Nat} {v : Value} {n : Nat} {xs : List Value} (h : w.ownsRow base e size v n xs) : ∀ g, v.ownBlock = some g → base ≤ g := by
  intro g hg
  rcases h.2 with ⟨rfl, _⟩ | ⟨g', cap, cur, rfl, hb, _⟩
  · cases hg
  · obtain rfl : g' = g := by simpa [Value.ownBlock] using hg
    exact hb
theorem cells_snoc {w : World} {A : Option Addr} {ss : List Sty} {t : Sty} (h : CellsAt w A (([] ++ sCells ss) ++ styCells t)) : CellsAt w A (sCells (ss ++ [t])) := by
  rw [sCells_append]
  simpa [sCells] using h
theorem use_fact {p q : Prop} (h : p) (f : p → q) : q := f h
theorem style_n (n : Nat) (B : Option Addr) (ss : List Sty) (c : Nat) (kind : Int) (m : Nat) (A : Option Addr) (way : List Int) (d : Nat) (w : World) (hn : n = ss.length) (hm : m = way.length) (hS : Styles w B ss) (hO : StylesOk w ss) (bs : ss.length ≤ 9223372036854775807)
    (hx : Ints w A way) (bx : way.length ≤ d) (bd : d ≤ 9223372036854775807) :
    Calls Try.prog 9 #[.slice B n c, .int .i64 kind, .slice A m d] w fun e w' => e = .returned (.int .i64 (styleF ss kind way)) ∧ Ext w w' := by
  subst hn hm
  exact style_any B ss c kind A way d w hS hO bs hx bx bd

set_option maxRecDepth 100000 in
set_option maxHeartbeats 3000000 in
theorem others_walk (B : Option Addr) (ss : List Sty) (c : Nat) (kind : Int) (A : Option Addr) (way : List Int) (d : Nat) (o : Sty) (C : Option Addr) (ahead : List Int) (e : Nat) (w : World) (hS : Styles w B ss) (hO : StylesOk w ss) (bs : ss.length ≤ 9223372036854775807)
    (hx : Ints w A way) (bx : way.length ≤ d) (bd : d ≤ 9223372036854775807) (ho : styOk w o) (ha : Ints w C ahead) (ba : ahead.length ≤ e) (be : e ≤ 9223372036854775807)
    (zB : B = none → c = 0) (zA : A = none → d = 0) (zC : C = none → e = 0) (hli : lightB ss way = true) (h40 : ahead.length ≤ 40) (h20 : o.path.length ≤ 20) :
    Calls Try.prog 4 #[.slice B ss.length c, .int .i64 kind, .slice A way.length d, .agg #[.int .i64 o.kind, .slice o.pA o.path.length o.pc, .int .i64 o.st, .int .i64 o.prio], .slice C ahead.length e] w fun e w' => e = .returned (.bool true) ∧ Below w.heap.size w w' := by
  obtain ⟨i27, hi, hz0, hz1, hz2⟩ := info_parts info27
  obtain ⟨i3, ji, jz0, jz1, jz2⟩ := info_parts info3
  have l70 : ss.length ≤ 70 ∧ way.length ≤ 40 := by
    simp [lightB] at hli
    omega
  have LI := Lib.hid (fun w1 g1 g2 => light_any B ss c A way d w1 g1 g2 bs (by omega))
  have STY := Lib.hid (fun w1 g1 g2 g3 => style_any B ss c kind A way d w1 g1 g2 bs g3 bx bd)
  have HO := Lib.hid hO
  have HX := Lib.hid hx
  have HS0 := Lib.hid hS
  have HA := Lib.hid ha
  have HOO := Lib.hid ho
  have HLI := Lib.hid hli
  have ZB := Lib.hid zB
  have ZA := Lib.hid zA
  have ZC := Lib.hid zC
  clear hO hx hS ha ho hli zB zA zC
  go_enter Try.func4, Try.ntmps4
  go_upto_region 6 with (first | (go_at_call 5; refine (lives_any _).mono ?_; rintro e w1 ⟨rfl, os1, k1, rfl⟩) | (go_at_call 6; refine (LI.out _ (HS0.out.ext (by repeat (first | exact Ext.refl _ | refine Ext.alloc ?_ _ | refine Ext.more ?_ _ _ | refine Ext.drew ?_ | refine Ext.drewN ?_ _))) (HO.out.ext (by repeat (first | exact Ext.refl _ | refine Ext.alloc ?_ _ | refine Ext.more ?_ _ _ | refine Ext.drew ?_ | refine Ext.drewN ?_ _)))).mono ?_; rw [HLI.out]; rintro e w1 ⟨rfl, os2, k2, rfl⟩) | (go_at_call 9; refine (STY.out _ (HS0.out.ext (by repeat (first | exact Ext.refl _ | refine Ext.alloc ?_ _ | refine Ext.more ?_ _ _ | refine Ext.drew ?_ | refine Ext.drewN ?_ _))) (HO.out.ext (by repeat (first | exact Ext.refl _ | refine Ext.alloc ?_ _ | refine Ext.more ?_ _ _ | refine Ext.drew ?_ | refine Ext.drewN ?_ _))) (HX.out.ext (by repeat (first | exact Ext.refl _ | refine Ext.alloc ?_ _ | refine Ext.more ?_ _ _ | refine Ext.drew ?_ | refine Ext.drewN ?_ _)))).mono ?_; rintro e w1 ⟨rfl, os3, k3, rfl⟩))
  go_cut [49] (fun s49 wx => s49 = .bool false ∧ Ext w wx)
  case first =>
    by_cases hk : o.kind = kind
    · have hk1 : (o.kind == kind) = true := by simp [hk]
      have hk2 : (o.kind != kind) = false := by simp [hk]
      clear hk
      go_wp2_with fail
      go_meet
      exact ⟨rfl, by repeat (first | exact Ext.refl _ | refine Ext.alloc ?_ _ | refine Ext.more ?_ _ _ | refine Ext.drew ?_ | refine Ext.drewN ?_ _)⟩
    · have hk1 : (o.kind == kind) = false := by simp [hk]
      have hk2 : (o.kind != kind) = true := by simp [hk]
      have HK := Lib.hid hk
      clear hk
      go_wp2_with (first
        | (at_builtin; go_loud (refine wpList_append_cells _ rfl (.tmp 41) (.tmp 42) 22 rfl w.heap.size 27 i27 _ 4 48 Try.underlying22 hi hz0 hz1 hz2 rfl (by omega) (.slice (some ⟨_, 0, none⟩) 1 1) 1 (styCells o) rfl (own_lit _ _ _ _ _ 1 _ (by simp [go_sem]) (by simp [go_sem] <;> omega) rfl (by unfold maxLen; omega)) B ss.length c (sCells ss) rfl ZB.out (sCells_length ss) ((cells_of_styles HS0.out).ext (by repeat (first | exact Ext.refl _ | refine Ext.alloc ?_ _ | refine Ext.more ?_ _ _ | refine Ext.drew ?_ | refine Ext.drewN ?_ _))) (sCells_one ss) (by unfold maxLen; omega) (by omega) (by simp [go_sem] <;> omega) ?_); intro v1 w1 hown1 hg1))
      obtain ⟨A1, cap1, rfl, hc1, hn1, hm1, _⟩ := own_cells hown1
      obtain ⟨os5, k5, rfl⟩ := Ext.grown (w := w) (by repeat (first | exact Ext.refl _ | refine Ext.alloc ?_ _ | refine Ext.more ?_ _ _ | refine Ext.drew ?_ | refine Ext.drewN ?_ _)) hg1 (by intro g h; simp [Value.ownBlock, more_size] at h; omega)
      refine (style_n _ A1 (o :: ss) cap1 kind _ A way d _ (by simp; omega) rfl (styles_of_cells hc1) (fun s hs => ?_) (by simp; omega) (HX.out.ext (by repeat (first | exact Ext.refl _ | refine Ext.alloc ?_ _ | refine Ext.more ?_ _ _ | refine Ext.drew ?_ | refine Ext.drewN ?_ _))) bx bd).mono ?_
      · rcases List.mem_cons.1 hs with rfl | hs
        · exact ⟨HOO.out.1.ext (by repeat (first | exact Ext.refl _ | refine Ext.alloc ?_ _ | refine Ext.more ?_ _ _ | refine Ext.drew ?_ | refine Ext.drewN ?_ _)), HOO.out.2⟩
        · exact HO.out.ext (by repeat (first | exact Ext.refl _ | refine Ext.alloc ?_ _ | refine Ext.more ?_ _ _ | refine Ext.drew ?_ | refine Ext.drewN ?_ _)) s hs
      rw [style_ahead o ss kind way HK.out]
      rintro e w1 ⟨rfl, os6, k6, rfl⟩
      clear hc1 hown1 hg1
      go_wp2_with fail
      go_meet
      exact ⟨rfl, by repeat (first | exact Ext.refl _ | refine Ext.alloc ?_ _ | refine Ext.more ?_ _ _ | refine Ext.drew ?_ | refine Ext.drewN ?_ _)⟩
  case rest =>
    obtain ⟨rfl, os4, k4, rfl⟩ := hcut
    go_wp2_with fail
    go_loopw [12] (fun i wr => ∃ k : Nat, k ≤ ss.length ∧ i = .int .i64 k ∧ (∀ s ∈ ss.take k, s.path.length ≤ way.length) ∧ Ext w wr) (fun i _ => ss.length - (intOf i).toNat)
    case atStart => exact ⟨0, by omega, rfl, by simp, by repeat (first | exact Ext.refl _ | refine Ext.alloc ?_ _ | refine Ext.more ?_ _ _ | refine Ext.drew ?_ | refine Ext.drewN ?_ _)⟩
    case round =>
      obtain ⟨k, hk, rfl, hall, os, kk, rfl⟩ := hrel
      have HALL := Lib.hid hall
      clear hall
      by_cases hlt : k < ss.length
      · obtain ⟨b, off, rfl, hb, hc⟩ := HS0.out (by omega)
        obtain ⟨s, hs⟩ : ∃ s, ss[k]? = some s := ⟨_, List.getElem?_eq_getElem hlt⟩
        obtain ⟨c1, c2, c3, c4⟩ := hc k s hs
        have HOK := Lib.hid (HO.out s (List.mem_of_getElem? hs))
        have hp := (HO.out s (List.mem_of_getElem? hs)).2
        have SB := Lib.hid (fun (st : Int) => style_behind ss { s with st := st } s kind way (List.mem_of_getElem? hs) rfl rfl rfl)
        have TK : Hid (ss.take (k + 1) = ss.take k ++ [s]) := by
          show _ = _
          rw [List.take_add_one, hs]
          rfl
        clear hs hc
        go_upto_region 13 with fail
        go_cut [74] (fun s74 wx => s74 = .bool false ∧ Ext w wx)
        case first =>
          go_region_law (first
            | (refine step_append_cells _ (by rfl) (.tmp 64) (.tmp 65) 22 rfl w.heap.size 27 i27 _ 4 48 Try.underlying22 hi hz0 hz1 hz2 rfl (by omega) (.slice (some ⟨_, 0, none⟩) 0 0) 0 [] rfl (by first | exact own_lit _ _ _ _ _ 0 _ (by simp [go_sem]) (by simp [go_sem] <;> omega) rfl (by unfold maxLen; omega) | exact World.ownsRow.alloc (own_lit _ _ _ _ _ 0 _ (by simp [go_sem]) (by simp [go_sem] <;> omega) rfl (by unfold maxLen; omega)) _) (some ⟨b, off, none⟩) ss.length c (sCells ss) rfl ZB.out (sCells_length ss) (by exact (cells_of_styles HS0.out).ext (by repeat (first | exact Ext.refl _ | refine Ext.alloc ?_ _ | refine Ext.more ?_ _ _ | refine Ext.drew ?_ | refine Ext.drewN ?_ _))) (sCells_one ss) (by unfold maxLen; omega) (by omega) (by simp [go_sem] <;> omega) ?_; intro v1 w1 hown1 hg1; (try (refine use_fact (p := CellsAt w1 (some ⟨w.heap.size + os.length + 1, 0, none⟩) (styCells { s with st := wrap64 (s.st + 1) })) ?_ ?_; (focus (refine CellsAt.grown ?_ hg1 ?_; (focus (refine CellsAt.ext ?_ (Ext.drew (Ext.alloc (Ext.refl _) _)); refine cells_lit ((more w os kk).alloc (.cells #[.int .i64 s.kind, .slice s.pA s.path.length s.pc, .int .i64 (wrap64 (s.st + 1)), .int .i64 s.prio] 27)) 27 _ _ _ ?_ rfl; (focus (simp [go_sem]; done)))); (focus (intro b' off' h; injection h with h; simp [Value.ownBlock] at h ⊢; omega)))); intro h68)); (try (refine use_fact (p := CellsAt w1 (some ⟨w.heap.size + os.length + 1 + 1, 0, none⟩) (styCells { s with st := wrap64 (s.st + 1) })) ?_ ?_; (focus (refine CellsAt.grown ?_ hg1 ?_; (focus (refine cells_lit (((more w os kk).alloc (.cells #[.int .i64 s.kind, .slice s.pA s.path.length s.pc, .int .i64 (wrap64 (s.st + 1)), .int .i64 s.prio] 27)).alloc _) 27 _ _ _ ?_ rfl; (focus (simp [go_sem]; done)))); (focus (intro b' off' h; injection h with h; simp [Value.ownBlock] at h ⊢; omega)))); intro h68)); obtain ⟨os9, k9, rfl⟩ := Ext.grown (w := ((more w os kk).alloc (.cells #[.int .i64 s.kind, .slice s.pA s.path.length s.pc, .int .i64 (wrap64 (s.st + 1)), .int .i64 s.prio] 27))) (by repeat (first | exact Ext.refl _ | refine Ext.alloc ?_ _ | refine Ext.more ?_ _ _ | refine Ext.drew ?_ | refine Ext.drewN ?_ _)) hg1 (by intro g h; simp [Value.ownBlock, more_size] at h; simp [go_sem]; omega))
            | (refine step_append_cells _ (by rfl) (.tmp 66) (.tmp 68) 22 rfl w.heap.size 27 i27 _ 4 48 Try.underlying22 hi hz0 hz1 hz2 rfl (by omega) _ (0 + ss.length) ([] ++ sCells ss) rfl (by first | exact hown1 | exact hown1.alloc _) _ 1 1 (styCells { s with st := wrap64 (s.st + 1) }) rfl (by intro h; cases h) rfl (by first | exact h68 | exact cells_lit _ _ _ _ _ (by simp [go_sem]) rfl) (by intro u hu; simp only [styCells, List.mem_cons, List.not_mem_nil, or_false] at hu; rcases hu with rfl | rfl | rfl | rfl <;> rfl) (by unfold maxLen; omega) (by omega) (by simp [go_sem] <;> omega) ?_; intro v2 w2 hown2 hg2)
            | (go_simp; go_at_call 9; obtain ⟨A2, cap2, rfl, hc2, hn2, hm2, _⟩ := own_cells hown2; obtain ⟨os10, k10, rfl⟩ := Ext.grown (w := w) (by repeat (first | exact Ext.refl _ | refine Ext.alloc ?_ _ | refine Ext.more ?_ _ _ | refine Ext.drew ?_ | refine Ext.drewN ?_ _)) hg2 (own_block hown1); refine (style_n _ A2 (ss ++ [{ s with st := wrap64 (s.st + 1) }]) cap2 kind _ A way d _ ?_ rfl ?_ ?_ ?_ ?_ bx bd).mono ?_; (focus (simp only [List.length_append, List.length_cons, List.length_nil] <;> omega)); (focus (exact styles_of_cells (cells_snoc hc2))); (focus (intro t ht; rcases List.mem_append.1 ht with ht | ht; exact HO.out.ext (by repeat (first | exact Ext.refl _ | refine Ext.alloc ?_ _ | refine Ext.more ?_ _ _ | refine Ext.drew ?_ | refine Ext.drewN ?_ _)) t ht; simp only [List.mem_singleton] at ht; subst ht; exact ⟨HOK.out.1.ext (by repeat (first | exact Ext.refl _ | refine Ext.alloc ?_ _ | refine Ext.more ?_ _ _ | refine Ext.drew ?_ | refine Ext.drewN ?_ _)), hp⟩)); (focus (simp only [List.length_append, List.length_cons, List.length_nil] <;> omega)); (focus (exact HX.out.ext (by repeat (first | exact Ext.refl _ | refine Ext.alloc ?_ _ | refine Ext.more ?_ _ _ | refine Ext.drew ?_ | refine Ext.drewN ?_ _)))); rw [SB.out]; rintro e w3 ⟨rfl, os11, k11, rfl⟩))
          all_goals go_wp2_with fail
          all_goals go_meet
          all_goals exact ⟨by simp, by repeat (first | exact Ext.refl _ | refine Ext.alloc ?_ _ | refine Ext.more ?_ _ _ | refine Ext.drew ?_ | refine Ext.drewN ?_ _)⟩
        case rest =>
          obtain ⟨rfl, os7, k7, rfl⟩ := hcut
          by_cases hl : s.path.length ≤ way.length
          · have hl' : ¬ (way.length : Int) < (s.path.length : Int) := by omega
            go_wp2_with fail
            go_roundw
            case rel => exact ⟨k + 1, by omega, by go_num, by rw [TK.out]; intro t ht; rcases List.mem_append.1 ht with ht | ht; exact HALL.out t ht; simp at ht; rw [ht]; exact hl, by repeat (first | exact Ext.refl _ | refine Ext.alloc ?_ _ | refine Ext.more ?_ _ _ | refine Ext.drew ?_ | refine Ext.drewN ?_ _)⟩
            case measure => simp [intOf]; omega
          · go_wp2_with fail
            go_ret
            exact ⟨rfl, Ext.below (by repeat (first | exact Ext.refl _ | refine Ext.alloc ?_ _ | refine Ext.more ?_ _ _ | refine Ext.drew ?_ | refine Ext.drewN ?_ _))⟩
      · obtain rfl : k = ss.length := by omega
        have HM : Hid (styleF ss kind (ahead ++ way) = styleF ss kind way) := by
          show _ = _
          refine style_more ss kind ahead way (fun s hs => HALL.out s ?_)
          rw [List.take_length]
          exact hs
        go_wp2_with (first
          | (at_builtin; refine wpList_append_cells _ rfl (.tmp 86) (.tmp 87) 23 rfl w.heap.size 3 i3 _ 1 8 Try.underlying23 ji jz0 jz1 jz2 rfl (by omega) (.slice (some ⟨_, 0, none⟩) 0 0) 0 [] rfl (own_lit _ _ _ _ _ 0 _ (by simp [go_sem]) (by simp [go_sem] <;> omega) rfl (by unfold maxLen; omega)) C ahead.length e (iCells ahead) rfl ZC.out (by simp [iCells]) ((cells_of_ints HA.out).ext (by repeat (first | exact Ext.refl _ | refine Ext.alloc ?_ _ | refine Ext.more ?_ _ _ | refine Ext.drew ?_ | refine Ext.drewN ?_ _))) (iCells_one ahead) (by unfold maxLen; omega) (by omega) (by simp [go_sem] <;> omega) ?_; intro v1 w1 hown1 hg1; obtain ⟨os8, k8, rfl⟩ := Ext.grown (w := w) (by repeat (first | exact Ext.refl _ | refine Ext.alloc ?_ _ | refine Ext.more ?_ _ _ | refine Ext.drew ?_ | refine Ext.drewN ?_ _)) hg1 (by intro g h; simp [Value.ownBlock, more_size] at h; omega))
          | (at_builtin; refine wpList_append_cells _ rfl (.tmp 88) (.tmp 89) 23 rfl w.heap.size 3 i3 _ 1 8 Try.underlying23 ji jz0 jz1 jz2 rfl (by omega) v1 (0 + ahead.length) ([] ++ iCells ahead) rfl hown1 A way.length d (iCells way) rfl ZA.out (by simp [iCells]) ((cells_of_ints HX.out).ext (by repeat (first | exact Ext.refl _ | refine Ext.alloc ?_ _ | refine Ext.more ?_ _ _ | refine Ext.drew ?_ | refine Ext.drewN ?_ _))) (iCells_one way) (by unfold maxLen; omega) (by omega) (by simp [go_sem] <;> omega) ?_; intro v2 w2 hown2 hg2; obtain ⟨A2, cap2, rfl, hc2, hn2, hm2, _⟩ := own_cells hown2; obtain ⟨os9, k9, rfl⟩ := Ext.grown (w := w) (by repeat (first | exact Ext.refl _ | refine Ext.alloc ?_ _ | refine Ext.more ?_ _ _ | refine Ext.drew ?_ | refine Ext.drewN ?_ _)) hg2 (own_block hown1))
          | (go_at_call 9; refine (style_n _ B ss c kind _ A2 (ahead ++ way) cap2 _ ?_ ?_ ?_ ?_ ?_ ?_ ?_ ?_).mono ?_; (focus (rfl)); (focus (simp only [List.length_append] <;> omega)); (focus (exact HS0.out.ext (by repeat (first | exact Ext.refl _ | refine Ext.alloc ?_ _ | refine Ext.more ?_ _ _ | refine Ext.drew ?_ | refine Ext.drewN ?_ _)))); (focus (exact HO.out.ext (by repeat (first | exact Ext.refl _ | refine Ext.alloc ?_ _ | refine Ext.more ?_ _ _ | refine Ext.drew ?_ | refine Ext.drewN ?_ _)))); (focus (omega)); (focus (refine ints_of_cells ?_; simpa [iCells] using hc2)); (focus (simp only [List.length_append]; omega)); (focus (unfold maxLen at hm2; omega)); rw [HM.out]; rintro e w3 ⟨rfl, os10, k10, rfl⟩))
        go_ret
        exact ⟨by simp, Ext.below (by repeat (first | exact Ext.refl _ | refine Ext.alloc ?_ _ | refine Ext.more ?_ _ _ | refine Ext.drew ?_ | refine Ext.drewN ?_ _))⟩
end Go.Proofs.Yteclpmdhllmloaa
