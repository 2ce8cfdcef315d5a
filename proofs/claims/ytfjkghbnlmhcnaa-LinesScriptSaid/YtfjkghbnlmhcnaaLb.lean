/- The contracts of an index's Len, Bytes, Starts, Start, Line, Place. -/
import Derived.Test.YtfjkghbnlmhcnaaLa
import Derived.Lib.SliceRun
import Derived.WalkSpells
import Derived.WalkLawsBesides
import Derived.BigRegion
import Derived.Deep.RegionWith
import Derived.Deep.QuietTactic
import Derived.Deep.DeepCutAuto
import Derived.Deep.RegionHeld3
import Derived.Deep.RegionLaw
import Derived.BigQuiet
import Derived.Lib.Hide
namespace Go.Proofs.Ytfjkghbnlmhcnaa
open Go.RowKit
attribute [local go_sem] more_drew more_drewN more_size more_cell more_frozen more_setCell drew_more drewN_more lt_add_r lt_add_r2 lt_add_r3 lt_add_r4 lt_add_r5 lt_add_r6 lt_add_r7 lt_add_r8 lt_add_r9 lt_add_r10 lt_self_r lt_self_r2

theorem IdxAt.cells {w : World} {base g : Nat} {xs : List Int} {n : Nat} (h : IdxAt w base g xs n) : ∃ A c, w.cell? ⟨g, 0, none⟩ = some (.slice A xs.length c) ∧ w.cell? ⟨g, 1, none⟩ = some (.int .i64 n) ∧ g < w.heap.size ∧ Ints w A xs ∧ xs.length ≤ c ∧ c ≤ 9223372036854775807 ∧ (A = none → c = 0) ∧ OwnI w base A c xs := by
  obtain ⟨A, c, h1, h2, h3⟩ := h
  obtain ⟨i1, i2, i3, i4⟩ := h2.ints
  unfold maxLen at i3
  exact ⟨A, c, by simpa using cell_of_row _ _ 0 _ _ _ h1, by simpa using cell_of_row _ _ 1 _ _ _ h1, lt_of_heap h1, i1, i2, i3, i4, h2⟩
/-- numbers that rise -/
def Rise (xs : List Int) : Prop := ∀ (a b : Nat) (x y : Int), a < b → xs[a]? = some x → xs[b]? = some y → x < y
theorem Rise.mono {xs : List Int} (h : Rise xs) : Mono xs := fun a b x y hab hx hy => by
  rcases Nat.lt_or_eq_of_le hab with hlt | rfl
  · exact Int.le_of_lt (h a b x y hlt hx hy)
  · rw [hx] at hy
    exact Int.le_of_eq (Option.some.inj hy)
section
variable {w : World} {base g : Nat} {xs : List Int} {n : Nat}
theorem len_any (h : IdxAt w base g xs n) : Calls Try.prog 19 #[pt g] w fun e w' => e = .returned (.int .i64 xs.length) ∧ w = w' := by
  obtain ⟨A, c, c0, c1, lg, _, hc, ht, _, _⟩ := h.cells
  clear h
  go_enter Try.func19, Try.ntmps19
  go_wp2_with fail
  go_ret
  exact ⟨rfl, rfl⟩
theorem bytes_any (h : IdxAt w base g xs n) : Calls Try.prog 17 #[pt g] w fun e w' => e = .returned (.int .i64 n) ∧ w = w' := by
  obtain ⟨A, c, c0, c1, lg, _, hc, ht, _, _⟩ := h.cells
  clear h
  go_enter Try.func17, Try.ntmps17
  go_wp2_with fail
  go_ret
  exact ⟨rfl, rfl⟩
set_option maxRecDepth 100000 in
set_option maxHeartbeats 1000000 in
theorem start_no (line : Int) (h : IdxAt w base g xs n) (hl : line < 0 ∨ (xs.length : Int) ≤ line) : Calls Try.prog 18 #[pt g, .int .i64 line] w fun e w' => e = .returned (.tuple #[.int .i64 0, .bool false]) ∧ w = w' := by
  have H := Lib.hid h
  clear h
  by_cases h0 : line < 0
  · clear hl
    go_enter Try.func18, Try.ntmps18
    go_wp2_with fail
    go_ret2
    exact ⟨rfl, rfl⟩
  · have h1 : (xs.length : Int) ≤ line := by omega
    clear hl
    go_enter Try.func18, Try.ntmps18
    go_wp2_with fail
    refine (len_any H.out).mono ?_
    rintro e w1 ⟨rfl, rfl⟩
    go_wp2_with fail
    go_ret2
    exact ⟨rfl, rfl⟩
set_option maxRecDepth 100000 in
set_option maxHeartbeats 1000000 in
theorem start_yes (k : Nat) (x : Int) (h : IdxAt w base g xs n) (hk : xs[k]? = some x) : Calls Try.prog 18 #[pt g, .int .i64 k] w fun e w' => e = .returned (.tuple #[.int .i64 x, .bool true]) ∧ w = w' := by
  have H := Lib.hid h
  obtain ⟨A, c, c0, c1, lg, hI, hc, ht, _, _⟩ := h.cells
  have hkl := (List.getElem?_eq_some_iff.1 hk).1
  obtain ⟨b, off, rfl, hb, hcell⟩ := hI (by omega)
  have d0 := hcell k hkl
  rw [List.getD_eq_getElem?_getD, hk] at d0
  dsimp only [Option.getD_some] at d0
  clear h hI hcell hk
  go_enter Try.func18, Try.ntmps18
  go_wp2_with fail
  refine (len_any H.out).mono ?_
  rintro e w1 ⟨rfl, rfl⟩
  go_wp2_with fail
  go_ret2
  exact ⟨rfl, rfl⟩
set_option maxRecDepth 100000 in
set_option maxHeartbeats 1000000 in
theorem starts_any (h : IdxAt w base g xs n) (hl : xs.length ≤ 1000000) (hne : 0 < xs.length) : Calls Try.prog 14 #[pt g] w (IntsRet w xs) := by
  obtain ⟨A, c, c0, c1, lg, hI, hc, ht, _, _⟩ := h.cells
  have HI := Lib.hid hI
  obtain ⟨b, off, rfl, hb, hcell⟩ := hI hne
  clear h hI hcell
  have HL : Hid (([] : List Int).length + xs.length ≤ 10000000) := Lib.hid (by simp; omega)
  have qn : (binOp .eql 29 (.slice (some ⟨b, off, none⟩) xs.length c) (.slice none 0 0)).run Try.prog w = .ok (.bool false) w := Lib.run_eql_slice_nil w 29 3 (some ⟨b, off, none⟩) xs.length c 0 0 Try.underlying29
  have HC : Hid (Calls Try.prog 41 #[.slice (some ⟨b, off, none⟩) xs.length c] w (IntsRet w xs)) := Lib.hid (by
    go_enter Try.func41, Try.ntmps41
    go_wp2_with (at_builtin; refine app_ints w (by rfl) (.tmp 5) (.tmp 6) rfl (ownI_empty w w.heap.size (Nat.le_refl _)) xs (some ⟨b, off, none⟩) c rfl rfl (by nofun) (HI.out.ext (by repeat (first | exact Ext.refl _ | refine Ext.alloc ?_ _ | refine Ext.more ?_ _ _ | refine Ext.drew ?_ | refine Ext.drewN ?_ _ | refine Ext.setCell ?_ (by simp <;> omega) _))) HL.out (by repeat (first | exact Ext.refl _ | refine Ext.alloc ?_ _ | refine Ext.more ?_ _ _ | refine Ext.drew ?_ | refine Ext.drewN ?_ _ | refine Ext.setCell ?_ (by simp <;> omega) _)) ?_; intro v7 w7 hr7 hg7 hx7)
    obtain ⟨A7, c7, rfl, ho⟩ := hr7
    go_ret
    exact ⟨A7, c7, rfl, ho, hx7⟩)
  go_enter Try.func14, Try.ntmps14
  go_wp2_with fail
  refine HC.out.mono ?_
  rintro e w1 ⟨A1, c1', rfl, ho1, hx1⟩
  have HO := Lib.hid ho1
  have HX := Lib.hid hx1
  clear ho1 hx1
  go_wp2_with fail
  go_ret
  exact ⟨A1, c1', rfl, HO.out, HX.out⟩
set_option maxRecDepth 100000 in
set_option maxHeartbeats 1000000 in
theorem line_no (at_ : Int) (h : IdxAt w base g xs n) (hl : at_ < 0 ∨ (n : Int) < at_) : Calls Try.prog 20 #[pt g, .int .i64 at_] w fun e w' => e = .returned (.tuple #[.int .i64 0, .int .i64 0, .bool false]) ∧ w = w' := by
  obtain ⟨A, c, c0, c1, lg, hI, hc, ht, _, _⟩ := h.cells
  clear h hI
  by_cases h0 : at_ < 0
  · clear hl
    go_enter Try.func20, Try.ntmps20
    go_wp2_with fail
    go_ret3
    exact ⟨rfl, rfl⟩
  · have h1 : (n : Int) < at_ := by omega
    clear hl
    go_enter Try.func20, Try.ntmps20
    go_wp2_with fail
    go_ret3
    exact ⟨rfl, rfl⟩
/-- the line of a place -/
def LineAt (xs : List Int) (t : Int) (i : Nat) (x : Int) : Prop := xs[i]? = some x ∧ x ≤ t ∧ ∀ (k : Nat) (y : Int), xs[k]? = some y → (k ≤ i ↔ y ≤ t)
theorem LineAt.det {t : Int} {i i' : Nat} {x x' : Int} (h : LineAt xs t i x) (h' : LineAt xs t i' x') : i' = i ∧ x' = x := by
  have h1 := (h.2.2 i' x' h'.1).2 h'.2.1
  have h2 := (h'.2.2 i x h.1).2 h.2.1
  obtain rfl : i' = i := by omega
  have := h.1.symm.trans h'.1
  exact ⟨rfl, (Option.some.inj this).symm⟩
def LineRet (w : World) (xs : List Int) (t : Int) (e : Ending) (w' : World) : Prop := ∃ i x, e = .returned (.tuple #[.int .i64 (i : Nat), .int .i64 (t - x), .bool true]) ∧ LineAt xs t i x ∧ Ext w w'
set_option maxRecDepth 100000 in
set_option maxHeartbeats 2000000 in
theorem line_yes (t : Nat) (h : IdxAt w base g xs n) (ht : t ≤ n) (hn : n ≤ 1000000) (hl : xs.length ≤ 1000000) (h0 : xs[0]? = some 0) (hr : Rise xs) : Calls Try.prog 20 #[pt g, .int .i64 t] w (LineRet w xs t) := by
  obtain ⟨A, c, c0, c1, lg, hI, hc, htop, _, _⟩ := h.cells
  have HI := Lib.hid hI
  have HR := Lib.hid hr
  have H0 := Lib.hid h0
  have hpos := (List.getElem?_eq_some_iff.1 h0).1
  clear h hI hr h0
  go_enter Try.func20, Try.ntmps20
  go_wp2_with fail
  refine (search_any A c xs (t : Int) w HI.out hl hc HR.out.mono).mono ?_
  rintro e w1 ⟨i, f, rfl, hf, rfl⟩
  have key : ∃ (j : Nat) (x : Int), LineAt xs t j x ∧ ((f = true ∧ i = j) ∨ (f = false ∧ i = j + 1)) := by
    obtain ⟨h1, h2, h3⟩ := hf
    cases f with
    | true =>
      have hx := h3.1 rfl
      refine ⟨i, t, ⟨hx, Int.le_refl _, fun k y hk => ⟨fun hki => HR.out.mono k i y t hki hk hx, fun hyt => ?_⟩⟩, .inl ⟨rfl, rfl⟩⟩
      rcases Nat.lt_or_ge i k with hlt | hge
      · have := HR.out i k t y hlt hx hk; omega
      · exact hge
    | false =>
      have hi0 : 0 < i := by
        rcases Nat.eq_zero_or_pos i with rfl | hp
        · exfalso
          have hz : ¬ (0 : Int) < t := fun h => by have := (h2 0 0 H0.out).2 h; omega
          have ht0 : (t : Int) = 0 := by omega
          have := h3.2 (by rw [H0.out, ht0])
          cases this
        · exact hp
      obtain ⟨x, hx⟩ : ∃ x, xs[i - 1]? = some x := ⟨_, List.getElem?_eq_getElem (by omega)⟩
      have hxt := (h2 (i - 1) x hx).1 (by omega)
      refine ⟨i - 1, x, ⟨hx, by omega, fun k y hk => ⟨fun hki => ?_, fun hyt => ?_⟩⟩, .inr ⟨rfl, by omega⟩⟩
      · have := (h2 k y hk).1 (by omega); omega
      · rcases Nat.lt_or_ge (i - 1) k with hlt | hge
        · exfalso
          have hki : ¬ k < i := by omega
          have hz : ¬ y < (t : Int) := fun h => hki ((h2 k y hk).2 h)
          have e : y = (t : Int) := by omega
          rcases Nat.lt_or_eq_of_le (show i ≤ k by omega) with hlt2 | rfl
          · obtain ⟨z, hz⟩ : ∃ z, xs[i]? = some z := ⟨_, List.getElem?_eq_getElem (by have := (List.getElem?_eq_some_iff.1 hk).1; omega)⟩
            have h5 := HR.out i k z y hlt2 hz hk
            have h6 := (h2 i z hz).2 (by omega)
            omega
          · have := h3.2 (by rw [hk, e])
            cases this
        · exact hge
  obtain ⟨j, x, hla, hcase⟩ := key
  have HLA := Lib.hid hla
  obtain ⟨hx, hxt, _⟩ := hla
  have hjl := (List.getElem?_eq_some_iff.1 hx).1
  obtain ⟨b, off, rfl, hb, hcell⟩ := HI.out (by omega)
  have d0 := hcell j hjl
  rw [List.getD_eq_getElem?_getD, hx] at d0
  dsimp only [Option.getD_some] at d0
  have hx0 : 0 ≤ x := HR.out.mono 0 j 0 x (Nat.zero_le _) H0.out hx
  have b1 : IntKind.i64.wrap ((t : Int) - x) = t - x := IntWalk.i64_in _ (by omega)
  have b2 : wrap64 ((t : Int) - x) = t - x := IntWalk.wrap64_in _ (by omega)
  clear hcell hx hf
  rcases hcase with ⟨rfl, rfl⟩ | ⟨rfl, rfl⟩
  · go_upto_region 6 with fail
    go_quiet (fail)
    go_wp2_with fail
    go_ret3
    exact ⟨_, _, rfl, HLA.out, (by repeat (first | exact Ext.refl _ | refine Ext.alloc ?_ _ | refine Ext.more ?_ _ _ | refine Ext.drew ?_ | refine Ext.drewN ?_ _ | refine Ext.setCell ?_ (by simp <;> omega) _))⟩
  · have e1 : ((j + 1 : Nat) : Int) - 1 = (j : Int) := by omega
    go_upto_region 6 with fail
    go_quiet (fail)
    go_wp2_with fail
    go_ret3
    exact ⟨_, _, rfl, HLA.out, (by repeat (first | exact Ext.refl _ | refine Ext.alloc ?_ _ | refine Ext.more ?_ _ _ | refine Ext.drew ?_ | refine Ext.drewN ?_ _ | refine Ext.setCell ?_ (by simp <;> omega) _))⟩
end
end Go.Proofs.Ytfjkghbnlmhcnaa
