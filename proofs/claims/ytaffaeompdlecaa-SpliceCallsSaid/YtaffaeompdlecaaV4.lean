/- The contract of splice.Splice. -/
import Derived.Test.YtaffaeompdlecaaU4
import Derived.Test.YtaffaeompdlecaaV1
import Derived.Test.YtaffaeompdlecaaD5
import Derived.WalkSpells
import Derived.WalkLawsBesides
import Derived.BigRegion
import Derived.Deep.RegionWith
import Derived.Deep.QuietTactic
import Derived.Deep.DeepCutAuto
import Derived.Deep.RegionHeld3
import Derived.Deep.RegionLaw
import Derived.BigQuiet
import Derived.Lib.Hide
namespace Go.Proofs.Ytaffaeompdlecaa
open Go.RowKit
attribute [local go_sem] more_drew more_drewN more_size more_cell more_frozen more_setCell drew_more drewN_more lt_add_r lt_add_r2 lt_add_r3 lt_add_r4 lt_add_r5 lt_add_r6 lt_add_r7 lt_add_r8 lt_add_r9 lt_add_r10 lt_self_r lt_self_r2

def dyCells (d : Dty) : List Value := [.int .i64 d.slot, .int .i64 d.lo, .int .i64 d.hi, .int .i64 d.age, .int .i64 d.level]
/-- a slice that reads as jobs -/
def JobsAt (w : World) (J : Option Addr) (js : List Dty) : Prop :=
  0 < js.length → ∃ b off, J = some ⟨b, off, none⟩ ∧ b < w.heap.size ∧ ∀ k d, js[k]? = some d →
    w.cell? ⟨b, off + k * 5, none⟩ = some (.int .i64 d.slot) ∧ w.cell? ⟨b, off + k * 5 + 1, none⟩ = some (.int .i64 d.lo) ∧ w.cell? ⟨b, off + k * 5 + 2, none⟩ = some (.int .i64 d.hi) ∧
    w.cell? ⟨b, off + k * 5 + 3, none⟩ = some (.int .i64 d.age) ∧ w.cell? ⟨b, off + k * 5 + 4, none⟩ = some (.int .i64 d.level)
theorem JobsAt.ext {w w' : World} {J : Option Addr} {js : List Dty} (h : JobsAt w J js) (e : Ext w w') : JobsAt w' J js := fun h0 => by
  obtain ⟨b, off, hA, hb, hc⟩ := h h0
  have hb' := e.below
  refine ⟨b, off, hA, Nat.lt_of_lt_of_le hb e.size, fun k d hk => ?_⟩
  obtain ⟨c0, c1, c2, c3, c4⟩ := hc k d hk
  exact ⟨(hb'.cell (p := ⟨b, _, none⟩) hb).trans c0, (hb'.cell (p := ⟨b, _, none⟩) hb).trans c1, (hb'.cell (p := ⟨b, _, none⟩) hb).trans c2, (hb'.cell (p := ⟨b, _, none⟩) hb).trans c3, (hb'.cell (p := ⟨b, _, none⟩) hb).trans c4⟩
/-- which jobs are done -/
def FlagsOk (l : List Nd) (i : Int) (js : List Dty) (fs : List Bool) : Prop := fs.length = js.length ∧ ∀ (k : Nat) (d : Dty) (f : Bool), js[k]? = some d → fs[k]? = some f → (f = true ↔ DoneOk l i d)
theorem FlagsOk.one {l : List Nd} {i : Int} {js : List Dty} {fs gs : List Bool} (h : FlagsOk l i js fs) (h' : FlagsOk l i js gs) : fs = gs := by
  refine List.ext_getElem (h.1.trans h'.1.symm) fun k h1 h2 => ?_
  have hk : k < js.length := by have := h.1; omega
  have a := h.2 k _ _ (List.getElem?_eq_getElem hk) (List.getElem?_eq_getElem h1)
  have b := h'.2 k _ _ (List.getElem?_eq_getElem hk) (List.getElem?_eq_getElem h2)
  exact Bool.eq_iff_iff.2 (a.trans b.symm)
/-- the slots of those that are done -/
def doneL : List Dty → List Bool → List Int
  | d :: js, f :: fs => if f then d.slot :: doneL js fs else doneL js fs
  | _, _ => []
/-- the bits that are left -/
def leftL : List Dty → List Bool → Int → Int
  | d :: js, f :: fs, x => leftL js fs (if f then bits .andNot .u64 x (bitN d.slot) else x)
  | _, _, x => x
theorem doneL_snoc (d : Dty) (f : Bool) : ∀ (js : List Dty) (fs : List Bool), fs.length = js.length → doneL (js ++ [d]) (fs ++ [f]) = doneL js fs ++ (if f then [d.slot] else [])
  | [], [], _ => by cases f <;> rfl
  | e :: js, g :: fs, h => by
    have ih := doneL_snoc d f js fs (by simpa using h)
    cases g <;> simp [doneL, ih]
theorem leftL_snoc (d : Dty) (f : Bool) : ∀ (js : List Dty) (fs : List Bool) (x : Int), fs.length = js.length → leftL (js ++ [d]) (fs ++ [f]) x = if f then bits .andNot .u64 (leftL js fs x) (bitN d.slot) else leftL js fs x
  | [], [], x, _ => by cases f <;> rfl
  | e :: js, g :: fs, x, h => by
    simp only [List.cons_append, leftL]
    exact leftL_snoc d f js fs _ (by simpa using h)
theorem doneL_length : ∀ (js : List Dty) (fs : List Bool), (doneL js fs).length ≤ js.length
  | [], _ => by simp [doneL]
  | d :: js, [] => by simp [doneL]
  | d :: js, f :: fs => by
    have := doneL_length js fs
    cases f <;> simp [doneL] <;> omega
theorem leftL_u64 : ∀ (js : List Dty) (fs : List Bool) (x : Int), U64 x → U64 (leftL js fs x)
  | [], _, _, h => by unfold leftL; exact h
  | d :: js, [], _, h => by unfold leftL; exact h
  | d :: js, f :: fs, x, h => by
    unfold leftL
    refine leftL_u64 js fs _ ?_
    split
    · exact bits_u64 ..
    · exact h
theorem bitsF_u64 (l : List Nd) : U64 (bitsF l) := by
  unfold bitsF
  have key : ∀ (l : List Nd) (x : Int), U64 x → U64 (l.foldl (fun a p => bits .or .u64 a p.met) x) := by
    intro l
    induction l with
    | nil => intro x h; exact h
    | cons p l ih => intro x _; exact ih _ (bits_u64 ..)
  exact key l 0 ⟨by omega, by omega⟩
/-- bits more for a part, if there is one -/
def orAt (l : List Nd) (u b : Int) : List Nd := if 0 ≤ u then l.modify u.toNat (fun p => { p with met := bits .or .u64 p.met b }) else l
theorem orAt_set {l : List Nd} {j : Nat} {p : Nd} (b : Int) (hp : l[j]? = some p) : orAt l (j : Int) b = l.set j { p with met := bits .or .u64 p.met b } := by
  unfold orAt
  rw [if_pos (by omega), Int.toNat_natCast]
  apply List.ext_getElem?
  intro i
  rw [List.getElem?_modify, List.getElem?_set]
  by_cases h : j = i
  · subst h
    have := (List.getElem?_eq_some_iff.1 hp).1
    rw [if_pos rfl, if_pos this, hp]
    show some (if j = j then _ else _) = _
    rw [if_pos rfl]
  · simp [h]
theorem nds_put (qs : List Prt) (j : Nat) (q : Prt) : nds (qs.set j q) = (nds qs).set j q.nd := List.map_set ..
section
variable {A B : Option Addr} {c d : Nat} {ps ss : List Prt} {w : World}
set_option maxRecDepth 100000 in
set_option maxHeartbeats 1000000 in
theorem splice_no (i : Int) (v : Value) (h : PS w A c ps) (hs : PS w B d ss) (hn : ¬ FitsT (nds ps) (nds ss) i) :
    Calls Try.prog 73 #[.slice A ps.length c, .int .i64 i, .slice B ss.length d, v] w fun e w' => e = .returned (.tuple #[.slice none 0 0, .slice none 0 0, .int .i64 2]) ∧ Ext w w' := by
  have S := Lib.hid h
  have SS := Lib.hid hs
  have HN := Lib.hid hn
  clear h hs hn
  go_enter Try.func73, Try.ntmps73
  by_cases T : Tree (nds ps)
  · have CH := Lib.hid (check_ok S.out T)
    clear T
    go_wp2_with fail
    refine CH.out.mono ?_
    rintro e w1 ⟨rfl, hx1⟩
    have HX1 := Lib.hid hx1
    clear hx1 CH
    by_cases T2 : Tree (nds ss)
    · have CS := Lib.hid (check_ok (SS.out.ext HX1.out) T2)
      clear T2
      go_wp2_with fail
      refine CS.out.mono ?_
      rintro e w2 ⟨rfl, hx2⟩
      have HX2 := Lib.hid (HX1.out.trans hx2)
      clear hx2 CS
      go_wp2_with fail
      refine (fits_any i (S.out.ext HX2.out) (SS.out.ext HX2.out)).mono ?_
      rintro e w3 ⟨b, rfl, hb, hx3⟩
      obtain rfl : b = false := by
        cases b with
        | false => rfl
        | true => exact absurd (hb.1 rfl) HN.out
      have HX3 := Lib.hid (HX2.out.trans hx3)
      clear hb hx3
      go_wp2_with fail
      go_ret3
      exact ⟨rfl, HX3.out⟩
    · have CS := Lib.hid (check_no (SS.out.ext HX1.out) T2)
      clear T2
      go_wp2_with fail
      refine CS.out.mono ?_
      rintro e w2 ⟨rfl, hx2⟩
      have HX2 := Lib.hid (HX1.out.trans hx2)
      clear hx2 CS
      go_wp2_with fail
      go_ret3
      exact ⟨rfl, HX2.out⟩
  · have CH := Lib.hid (check_no S.out T)
    clear T
    go_wp2_with fail
    refine CH.out.mono ?_
    rintro e w1 ⟨rfl, hx1⟩
    have HX1 := Lib.hid hx1
    clear hx1 CH
    go_wp2_with fail
    go_ret3
    exact ⟨rfl, HX1.out⟩
/-- what is spliced -/
def SpliceRet (w : World) (l s : List Nd) (i : Int) (js : List Dty) (e : Ending) (w' : World) : Prop :=
  ∃ (k m : Nat) (us : List Int) (u : Int) (fs : List Bool) (A : Option Addr) (c : Nat) (qs : List Prt) (D : Option Addr) (d : Nat), i = (k : Int) ∧ Part l k m ∧ ParOk l us ∧ us[k]? = some u ∧ FlagsOk l i js fs ∧
    e = .returned (.tuple #[.slice A qs.length c, .slice D (doneL js fs).length d, .int .i64 0]) ∧ nds qs = orAt (putF l k m s) u (leftL js fs (bitsF ((l.drop k).take (m - k)))) ∧
    OwnP w' w.heap.size A c qs ∧ OwnI w' w.heap.size D d (doneL js fs) ∧ Ext w w'
set_option maxRecDepth 100000 in
set_option maxHeartbeats 4000000 in
theorem splice_yes (i : Int) (J : Option Addr) (cj : Nat) (js : List Dty) (h : PS w A c ps) (hs : PS w B d ss) (hf : FitsT (nds ps) (nds ss) i) (hj : JobsAt w J js) (hjl : js.length ≤ 1000) (_ : js.length ≤ cj) :
    Calls Try.prog 73 #[.slice A ps.length c, .int .i64 i, .slice B ss.length d, .slice J js.length cj] w (SpliceRet w (nds ps) (nds ss) i js) := by
  have HLN := h.few.len
  have S := Lib.hid h
  have SS := Lib.hid hs
  have HJ := Lib.hid hj
  have HF := Lib.hid hf
  obtain ⟨T, T2, hf0⟩ := hf
  have hin := hf0.in
  rw [nds_length] at hin
  obtain ⟨k, rfl⟩ : ∃ k : Nat, i = (k : Int) := ⟨i.toNat, by omega⟩
  have hkl : k < ps.length := by omega
  obtain ⟨m, hpart⟩ := T.part (i := k) (by rw [nds_length]; exact hkl)
  have hme := hpart.le
  have hmk := hpart.lt_end
  rw [nds_length] at hme
  have HT := Lib.hid T
  have HT2 := Lib.hid T2
  have HPT := Lib.hid hpart
  have HFP := Lib.hid hf0
  have hcap := S.out.cap
  have htop := S.out.top
  have hln : ((ps.drop k).take (m - k)).length = m - k := by rw [List.length_take, List.length_drop]; omega
  obtain ⟨bA, off, rfl, hbA, _⟩ := h.parts (by omega)
  clear h hs hj T T2 hf0 hpart hin
  go_enter Try.func73, Try.ntmps73
  go_wp2_with fail
  refine (check_ok S.out HT.out).mono ?_
  rintro e w1 ⟨rfl, hx1⟩
  have HX1 := Lib.hid hx1
  clear hx1
  go_wp2_with fail
  refine (check_ok (SS.out.ext HX1.out) HT2.out).mono ?_
  rintro e w2 ⟨rfl, hx2⟩
  have HX2 := Lib.hid (HX1.out.trans hx2)
  clear hx2 HX1
  go_wp2_with fail
  refine (fits_any (k : Int) (S.out.ext HX2.out) (SS.out.ext HX2.out)).mono ?_
  rintro e w3 ⟨b, rfl, hb, hx3⟩
  obtain rfl := hb.2 HF.out
  have HX3 := Lib.hid (HX2.out.trans hx3)
  clear hb hx3 HX2
  go_wp2_with fail
  refine (End_yes k m (S.out.ext HX3.out) HT.out HPT.out).mono ?_
  rintro e w4 ⟨rfl, hx4⟩
  have HX4 := Lib.hid (HX3.out.trans hx4)
  clear hx4 HX3
  go_wp2_with fail
  have CB := bitsP_any (some ⟨bA, off + k * 8, none⟩) (c - k) ((ps.drop k).take (m - k)) w4 ((S.out.parts.slice k (m - k)).ext HX4.out) (by omega) (by omega) (by omega)
  rw [hln, nds_take, nds_drop] at CB
  obtain ⟨B0, hB0⟩ : ∃ B0, bitsF (((nds ps).drop k).take (m - k)) = B0 := ⟨_, rfl⟩
  rw [hB0] at CB
  have HCB := Lib.hid CB
  have HB0 := Lib.hid hB0
  clear CB hB0 hln
  refine HCB.out.mono ?_
  rintro e w5 ⟨rfl, hx5⟩
  have HX5 := Lib.hid (HX4.out.trans hx5)
  clear hx5 HX4 HCB
  go_wp2_with fail
  go_loopw [9, 11, 39] (fun v x i wr => ∃ (j : Nat) (fs : List Bool) (L : Int), j ≤ js.length ∧ i = .int .i64 j ∧ x = .int .u64 L ∧ Hid (L = leftL (js.take j) fs B0) ∧ Hid (FlagsOk (nds ps) (k : Int) (js.take j) fs) ∧ Hid (RowI wr w.heap.size v (doneL (js.take j) fs)) ∧ Hid (Ext w wr)) (fun _ _ i _ => js.length - (intOf i).toNat)
  case atStart => exact ⟨0, [], B0, Nat.zero_le _, rfl, rfl, Lib.hid rfl, Lib.hid ⟨rfl, fun k d f h => by simp at h⟩, Lib.hid ⟨none, 0, rfl, OwnI.nil _ _⟩, HX5⟩
  case round =>
    obtain ⟨j, fs, L, hj, rfl, rfl, hL, hF, hr, hx⟩ := hrel
    by_cases hlt : j < js.length
    · obtain ⟨dd, hd⟩ : ∃ d, js[j]? = some d := ⟨_, List.getElem?_eq_getElem hlt⟩
      obtain ⟨b, off2, rfl, hb, hcell⟩ := (HJ.out.ext hx.out) (by omega)
      obtain ⟨d0, d1, d2, d3, d4⟩ := hcell j dd hd
      have HTK : Hid (js.take (j + 1) = js.take j ++ [dd]) := Lib.hid (by
        obtain ⟨h1, h2⟩ := List.getElem?_eq_some_iff.1 hd
        rw [List.take_succ_eq_append_getElem h1, h2])
      have hfl : fs.length = j := by have := hF.out.1; rw [List.length_take] at this; omega
      have HD := Lib.hid hd
      have HSN : Hid (∀ f : Bool, (f = true ↔ DoneOk (nds ps) (k : Int) dd) → FlagsOk (nds ps) (k : Int) (js.take (j + 1)) (fs ++ [f])) := Lib.hid fun f hf => by
        rw [HTK.out]
        have hjl : (js.take j).length = j := by rw [List.length_take]; omega
        refine ⟨by simp [hfl, hjl], fun n d' f' h1 h2 => ?_⟩
        rcases Nat.lt_trichotomy n j with h | rfl | h
        · rw [List.getElem?_append_left (by omega)] at h1 h2
          exact hF.out.2 n d' f' h1 h2
        · rw [List.getElem?_append_right (by omega)] at h1 h2
          rw [hjl, Nat.sub_self] at h1
          rw [hfl, Nat.sub_self] at h2
          simp at h1 h2
          subst h1 h2
          exact hf
        · rw [List.getElem?_append_right (by omega), hjl] at h1
          rw [List.getElem?_eq_none (by simp; omega)] at h1
          cases h1
      have HFL := Lib.hid (show fs.length = (js.take j).length by rw [List.length_take]; omega)
      have HDL : Hid ((doneL (js.take j) fs).length ≤ 1000000) := Lib.hid (by have := doneL_length (js.take j) fs; rw [List.length_take] at this; omega)
      clear hcell hd hfl
      go_upto_region 13 with fail
      obtain ⟨g, hg⟩ : ∃ g, wr.heap.size = g := ⟨_, rfl⟩
      obtain ⟨W6, hW6⟩ : ∃ W6, wr.alloc (.cells #[.int .i64 dd.slot, .int .i64 dd.lo, .int .i64 dd.hi, .int .i64 dd.age, .int .i64 dd.level] 82) = W6 := ⟨_, rfl⟩
      have X6 : Ext wr W6 := by rw [← hW6]; exact (by repeat (first | exact Ext.refl _ | refine Ext.alloc ?_ _ | refine Ext.more ?_ _ _ | refine Ext.drew ?_ | refine Ext.drewN ?_ _ | refine Ext.setCell ?_ (by simp <;> omega) _))
      have P6 : W6.heap[g]? = some (.cells #[.int .i64 dd.slot, .int .i64 dd.lo, .int .i64 dd.hi, .int .i64 dd.age, .int .i64 dd.level] 82) := by rw [← hW6, ← hg]; exact heap_alloc_new _ _
      rw [hW6, hg]
      have HX6 := Lib.hid (hx.out.trans X6)
      have HR6 := Lib.hid (hr.out.ext X6)
      have c0 := cell_of_row _ _ 0 _ _ _ P6
      have c1 := cell_of_row _ _ 1 _ _ _ P6
      have c2 := cell_of_row _ _ 2 _ _ _ P6
      have c3 := cell_of_row _ _ 3 _ _ _ P6
      have c4 := cell_of_row _ _ 4 _ _ _ P6
      simp at c0 c1 c2 c3 c4
      have l6 := lt_of_heap P6
      have HP6 := Lib.hid P6
      have CD := done_any (k : Int) dd (S.out.ext HX6.out)
      unfold dyV at CD
      have HCD := Lib.hid CD
      clear CD hW6 hg X6 P6 d0 d1 d2 d3 d4 hr
      go_wp2_with fail
      refine HCD.out.mono ?_
      rintro e w7 ⟨f, rfl, hf, hx7⟩
      have P7 := ext_block HP6.out hx7
      have HR7 := Lib.hid (HR6.out.ext hx7)
      have HX7 := Lib.hid (HX6.out.trans hx7)
      have HFN := Lib.hid (HSN.out f hf)
      have k0 := cell_of_row _ _ 0 _ _ _ P7
      simp at k0
      have l7 := lt_of_heap P7
      clear c0 c1 c2 c3 c4 l6 hx7 HCD HR6
      cases f with
      | true =>
        obtain ⟨sl1, sl2⟩ := (hf.1 rfl).2.1
        have HDN : Hid (doneL (js.take (j + 1)) (fs ++ [true]) = doneL (js.take j) fs ++ [dd.slot]) := Lib.hid (by rw [HTK.out, doneL_snoc _ _ _ _ HFL.out]; rfl)
        have HLN2 : Hid (leftL (js.take (j + 1)) (fs ++ [true]) B0 = bits .andNot .u64 L (bitN dd.slot)) := Lib.hid (by rw [HTK.out, leftL_snoc _ _ _ _ _ HFL.out, hL.out]; rfl)
        clear hf
        have HK8 : Hid (∀ W8 : World, (w7.alloc (.cells #[.int .i64 dd.slot] 3)).grownBy W8 u9.ownBlock → W8.cell? ⟨g, 0, none⟩ = some (.int .i64 dd.slot) ∧ g < W8.heap.size) := Lib.hid fun W8 hg => by
          have hne : some g ≠ u9.ownBlock := fun he => by
            obtain ⟨A9, c9, rfl, ho9⟩ := HR7.out
            obtain ⟨cur, h2⟩ := own_obj ho9 g he.symm
            rw [P7] at h2
            injection h2 with h2
            injection h2 with _ h2
            exact absurd h2 (by decide)
          have h8 := (hg.block g (by simp; omega) hne).trans (ext_block P7 ((Ext.refl w7).alloc _))
          exact ⟨by simpa using cell_of_row _ _ 0 _ _ _ h8, lt_of_heap h8⟩
        go_upto_region 14 with fail
        go_wp2_with (at_builtin; refine app_int w (by rfl) (.tmp 47) (.tmp 50) rfl (HR7.out.ext (by repeat (first | exact Ext.refl _ | refine Ext.alloc ?_ _ | refine Ext.more ?_ _ _ | refine Ext.drew ?_ | refine Ext.drewN ?_ _ | refine Ext.setCell ?_ (by simp <;> omega) _))) dd.slot w7.heap.size rfl rfl (by simp) (by simp [go_sem]) HDL.out (HX7.out.trans (by repeat (first | exact Ext.refl _ | refine Ext.alloc ?_ _ | refine Ext.more ?_ _ _ | refine Ext.drew ?_ | refine Ext.drewN ?_ _ | refine Ext.setCell ?_ (by simp <;> omega) _))) ?_; intro v8 w8 hr8 hg8 hx8; obtain ⟨k8, l8⟩ := HK8.out w8 hg8)
        have HR8 := Lib.hid hr8
        have HX8 := Lib.hid hx8
        clear hr8 hx8 hg8
        go_roundw
        case rel => exact ⟨j + 1, fs ++ [true], _, by omega, by go_num, rfl, Lib.hid HLN2.out.symm, HFN, by rw [HDN.out]; exact HR8, HX8⟩
        case measure => simp [intOf]; omega
      | false =>
        have HDN : Hid (doneL (js.take (j + 1)) (fs ++ [false]) = doneL (js.take j) fs) := Lib.hid (by rw [HTK.out, doneL_snoc _ _ _ _ HFL.out]; simp)
        have HLN2 : Hid (leftL (js.take (j + 1)) (fs ++ [false]) B0 = L) := Lib.hid (by rw [HTK.out, leftL_snoc _ _ _ _ _ HFL.out, hL.out]; rfl)
        clear hf
        go_wp2_with fail
        go_roundw
        case rel => exact ⟨j + 1, fs ++ [false], L, by omega, by go_num, rfl, Lib.hid HLN2.out.symm, HFN, by rw [HDN.out]; exact HR7, HX7⟩
        case measure => simp [intOf]; omega
    · obtain rfl : j = js.length := by omega
      rw [List.take_length] at hL hF hr
      obtain ⟨D9, c9, rfl, ho9⟩ := hr.out
      have HO9 := Lib.hid ho9
      have HDL : Hid ((doneL js fs).length ≤ 1000000) := Lib.hid (by have := doneL_length js fs; omega)
      clear ho9 hr
      go_wp2_with fail
      refine (Put_ok k m (S.out.ext hx.out) HT.out (SS.out.ext hx.out) HT2.out HFP.out HPT.out).mono ?_
      rintro e w7 ⟨A2, c2, qs, rfl, hn, ho, hx7⟩
      have HX7 := Lib.hid (hx.out.trans hx7)
      have HI7 := Lib.hid (HO9.out.ext hx7)
      have HO := Lib.hid (ho.base hx.out.size)
      have HN := Lib.hid hn
      clear hn ho hx7
      go_wp2_with fail
      refine (Parents_yes (S.out.ext HX7.out) HT.out).mono ?_
      rintro e w8 ⟨us, hus, A3, c3, rfl, ho3, hx8⟩
      have HX8 := Lib.hid (HX7.out.trans hx8)
      have hul : us.length = ps.length := by rw [hus.1, nds_length]
      obtain ⟨u, hu⟩ : ∃ u, us[k]? = some u := ⟨_, List.getElem?_eq_getElem (by omega)⟩
      obtain ⟨bU, offU, hA3, hbU, hcU⟩ := ho3.ints.1 (by omega)
      have oc1 := ho3.ints.2.1
      have oc2 := ho3.ints.2.2.1
      unfold maxLen at oc2
      have e1 := hcU k (by omega)
      rw [List.getD_eq_getElem?_getD, hu] at e1
      dsimp only [Option.getD_some] at e1
      subst hA3
      rw [hul] at oc1 ⊢
      have HUS := Lib.hid hus
      have HU := Lib.hid hu
      have HO8 := Lib.hid (HO.out.ext hx8)
      have HI8 := Lib.hid (HI7.out.ext hx8)
      clear hul hcU ho3 hx8
      by_cases hk0 : k = 0
      · obtain rfl : u = -1 := by
          have := hus.2.1
          rw [hk0] at hu
          rw [hu] at this
          exact Option.some.inj this
        have HNN : Hid (nds qs = orAt (putF (nds ps) k m (nds ss)) (-1) (leftL js fs (bitsF (((nds ps).drop k).take (m - k))))) := Lib.hid (by rw [orAt, if_neg (by omega)]; exact HN.out)
        clear hu hus hk0
        go_wp2_with fail
        go_ret3
        exact ⟨k, m, us, -1, fs, A2, c2, qs, D9, c9, rfl, HPT.out, HUS.out, HU.out, hF.out, rfl, HNN.out, HO8.out, HI8.out, HX8.out⟩
      · obtain ⟨j', hup, hj'⟩ := HT.out.up' (i := k) (by omega) (by rw [nds_length]; exact hkl)
        obtain rfl : u = (j' : Int) := by
          have := hus.2.2 k j' hup
          rw [hu] at this
          exact Option.some.inj this
        have hql : k ≤ qs.length := by
          have := congrArg List.length HN.out
          rw [nds_length] at this
          rw [this]
          unfold putF
          rw [List.length_append, List.length_map, List.length_take, nds_length]
          omega
        obtain ⟨q, hq⟩ : ∃ q, qs[j']? = some q := ⟨_, List.getElem?_eq_getElem (by omega)⟩
        obtain ⟨g, rfl, hg1, hg2⟩ := row_block HO8.out.row (by omega)
        have hat := HO8.out.at hq
        have d7 := hat.met
        have f7 := hat.frozen (j' * 8 + 7)
        have lg := hat.lt
        have qc1 := HO8.out.cells.2.1
        have qc2 := HO8.out.cells.2.2.1
        unfold maxLen at qc2
        have HQ := Lib.hid hq
        have hjq : j' < qs.length := by omega
        have HNN : Hid (nds (qs.set j' ⟨{ q.nd with met := bits .or .u64 q.nd.met L }, q.kA, q.kc⟩) = orAt (putF (nds ps) k m (nds ss)) (j' : Int) (leftL js fs (bitsF (((nds ps).drop k).take (m - k))))) := Lib.hid (by
          rw [← HN.out, orAt_set _ (nds_get hq), nds_put, HB0.out, ← hL.out])
        have HFQ := Lib.hid (HO8.out.fine q (List.mem_of_getElem? hq))
        clear hat hq hu hus hup hk0
        go_wp2_with fail
        go_ret3
        have f0 := HFQ.out
        exact ⟨k, m, us, j', fs, _, c2, qs.set j' ⟨{ q.nd with met := bits .or .u64 q.nd.met L }, q.kA, q.kc⟩, D9, c9, rfl, HPT.out, HUS.out, HU.out, hF.out, by rw [List.length_set]; rfl, HNN.out,
          HO8.out.put HQ.out (by omega) rfl ⟨rfl, rfl, rfl⟩ ⟨f0.sym, f0.kind, f0.lo, f0.inn, f0.hi, f0.look, bits_u64 .or q.nd.met L, f0.ks⟩, setCell_keep HI8.out HO8.out.row, HX8.out.setCell (by show w.heap.size ≤ g; omega) _⟩
end
end Go.Proofs.Ytaffaeompdlecaa
