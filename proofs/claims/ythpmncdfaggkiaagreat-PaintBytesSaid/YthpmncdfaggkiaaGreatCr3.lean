/- Cr: texts that the proof rests on, part 3. -/
import Derived.Test.YthpmncdfaggkiaaGreatCr1
import Derived.Test.YthpmncdfaggkiaaGreatCr2
namespace Go.Proofs.YthpmncdfaggkiaaGreat
open Go.RowKit
attribute [local go_sem] more_drew more_drewN more_size more_cell more_frozen more_setCell drew_more drewN_more lt_add_r lt_add_r2 lt_add_r3 lt_add_r4 lt_add_r5 lt_add_r6 lt_add_r7 lt_add_r8 lt_add_r9 lt_add_r10 lt_self_r lt_self_r2
structure Own1 (w0 w : World) (T : TypeId) (ob : Nat) (v : Value) : Prop where
 blk : w.heap[ob]? = some (.cells #[v] T)
 ext : Ext w0 w
 low : w0.heap.size ≤ ob
section
variable {w0 w w' : World} {T : TypeId} {ob : Nat} {v : Value}
theorem Own1.to (h : Own1 w0 w T ob v) (e : Ext w w') : Own1 w0 w' T ob v := ⟨ext_block h.blk e, h.ext.trans e, h.low⟩
theorem Own1.cell (h : Own1 w0 w T ob v) : w.cell? ⟨ob, 0, none⟩ = some v := cell_of_row _ _ 0 _ _ _ h.blk
theorem Own1.lt (h : Own1 w0 w T ob v) : ob < w.heap.size := lt_of_heap h.blk
theorem Own1.froz (h : Own1 w0 w T ob v) : w.frozen? ⟨ob, 0, none⟩ = false := row_frozen h.blk 0
theorem Own1.set (h : Own1 w0 w T ob v) (u : Value) : Own1 w0 (w.setCell ⟨ob, 0, none⟩ u) T ob u := ⟨setCell_row h.blk u, h.ext.setCell h.low u, h.low⟩
theorem Own1.new (e : Ext w0 w) (v : Value) : Own1 w0 (w.alloc (.cells #[v] T)) T w.heap.size v := ⟨heap_alloc_new _ _, e.trans (by repeat first | exact xr _ | refine xa ?_ _ | refine xm ?_ _ _ | refine xd ?_ | refine xn ?_ _ | refine xs ?_ (by simp <;> omega) _), e.size⟩
theorem Own1.setX (h : Own1 w0 w T ob v) {W : World} (u : Value) (hW : w.setCell ⟨ob, 0, none⟩ u = W) : Own1 w0 W T ob u := hW ▸ h.set u
end
theorem fls_eq : fls = #[.bool false] := by
 unfold fls
 apply Array.toList_inj.1
 rw [toList_madeCells_one]
 rfl
structure PrAt (w : World) (pb : Nat) (l : Int) (v : Value) : Prop where
 q0 : w.cell? ⟨pb, 0, none⟩ = some (.int .i64 l)
 q1 : w.cell? ⟨pb, 1, none⟩ = some v
 ql : pb < w.heap.size
theorem PrAt.ext {w w' : World} {pb : Nat} {l : Int} {v : Value} (h : PrAt w pb l v) (e : Ext w w') : PrAt w' pb l v := ⟨ext_cell h.q0 h.ql e, ext_cell h.q1 h.ql e, Nat.lt_of_lt_of_le h.ql e.size⟩
theorem prod_copy2 (w : World) (v : Value) : ∃ pb Wb W4, w.heap.size = pb ∧ w.alloc (.cells #[.int .i64 0, nil0] 92) = Wb ∧ (Wb.setCell ⟨pb, 0, none⟩ (.int .i64 0)).setCell ⟨pb, 1, none⟩ v = W4 ∧ Wb.cell? ⟨pb, 0, none⟩ = some (.int .i64 0) ∧ Wb.cell? ⟨pb, 1, none⟩ = some nil0 ∧ (∀ k, Wb.frozen? ⟨pb, k, none⟩ = false) ∧ pb < Wb.heap.size ∧ PrAt W4 pb 0 v ∧ Ext w W4 := by
 obtain ⟨pb, Wb, W4, hpb, hWb, hW4, z0, z1, zf, zl, q0, q1, ql, X4⟩ := prod_copy w (.int .i64 0) v
 exact ⟨pb, Wb, W4, hpb, hWb, hW4, z0, z1, zf, zl, ⟨q0, q1, ql⟩, X4⟩
set_option maxRecDepth 100000 in
set_option maxHeartbeats 4000000 in
theorem derive_false (a b : Nat) (C : Option Addr) (c d e : Nat) (w : World) (h : GrRd w a b C d e) : Calls Tryz.prog 184 #[gramV a c, .bool false] w fun e w' => ∃ ob, e = .returned (.slice (some ⟨ob, 0, none⟩) 1 1) ∧ Own1 w w' 4 ob (.bool true) := by
 obtain ⟨g0, W, hg0, hW, X1, hat⟩ := gr_enter w c h
 have HX := zh X1
 have HCK := zh (check_gram a b C c d e W (h.ext X1))
 have HGW := zh hat
 clear h X1
 obtain ⟨k0, k1, k2, k3, lg, p0, p1, p2, p3, lp, r0, r1, lr⟩ := hat
 unfold gramV
 go_enter Tryz.func184, Tryz.ntmps184
 go_wp2_with fail
 try simp only [hg0]
 refine HCK.out.mono ?_
 rintro e' W2 ⟨rfl, hx2⟩
 have HG := zh (HGW.out.ext hx2)
 have HX2 := zh (HX.out.trans hx2)
 clear hW hg0 k0 k1 k2 k3 lg p0 p1 p2 p3 lp r0 r1 lr hx2 HCK HX HGW
 obtain ⟨k0, k1, k2, k3, lg, p0, p1, p2, p3, lp, r0, r1, lr⟩ := HG.out
 have hmk := mk_bool1
 simp only [fls_eq] at hmk
 have HO : Hid (Own1 W2 (W2.alloc (.cells #[.bool false] 4)) 4 W2.heap.size (.bool false)) := zh (Own1.new (Ext.refl _) _)
 obtain ⟨ob, hob⟩ : ∃ ob, W2.heap.size = ob := ⟨_, rfl⟩
 obtain ⟨W3, hW3⟩ : ∃ W3, W2.alloc (.cells #[.bool false] 4) = W3 := ⟨_, rfl⟩
 rw [hW3, hob] at HO
 go_wp2_with fail
 try simp only [hob, hW3]
 clear hob hW3 hmk k0 k1 k2 k3 lg p0 p1 p2 p3 lp r0 r1 lr
 go_loopw [6] (fun m wr => (m = .bool true ∧ Hid (Own1 W2 wr 4 ob (.bool false)) ∨ (m = .bool true ∨ m = .bool false) ∧ Hid (Own1 W2 wr 4 ob (.bool true)))) (fun m wr => match m, wr.cell? ⟨ob, 0, none⟩ with | .bool false, _ => 0 | _, some (.bool false) => 2 | _, _ => 1)
 case atStart => exact .inl ⟨rfl, HO⟩
 case round =>
  clear HO
  rcases hrel with ⟨rfl, hx⟩ | ⟨rfl | rfl, hx⟩
  ·have o0 := hx.out.cell
   have HM := zh o0
   clear o0
   go_wp2_with fail
   have HO := hx
   clear hx
   go_loopw [6, 7] (fun m i wr => (m = .bool false ∧ (i = .int .i64 0 ∨ i = .int .i64 1) ∧ Hid (Own1 W2 wr 4 ob (.bool false)) ∨ m = .bool true ∧ i = .int .i64 2 ∧ Hid (Own1 W2 wr 4 ob (.bool true)))) (fun _ i _ => 2 - (intOf i).toNat)
   case atStart => exact .inl ⟨rfl, .inl rfl, HO⟩
   case round =>
    clear HO
    rcases hrel with ⟨rfl, hi, hx⟩ | ⟨rfl, rfl, hx⟩
    ·obtain ⟨k0, k1, k2, k3, lg, p0, p1, p2, p3, lp, r0, r1, lr⟩ := HG.out.ext hx.out.ext
     have o0 := hx.out.cell
     have ol := hx.out.lt
     have of := hx.out.froz
     rcases hi with rfl | rfl
     ·obtain ⟨pb, Wb, W4, hpb, hWb, hW4, z0, z1, zf, zl, hq, X4⟩ := prod_copy2 wr (.slice (some ⟨b, 0, none⟩) 2 d)
      have HG4 := zh (HG.out.ext (hx.out.ext.trans X4))
      have HQ := zh hq
      have HO4 := zh (hx.out.to X4)
      clear X4 hq
      go_upto_region 11 with fail
      try simp only [hpb, hWb, hW4]
      clear hpb hWb hW4 z0 z1 zf zl k0 k1 k2 k3 lg p0 p1 p2 p3 lp r0 r1 lr o0 ol of
      obtain ⟨k0, k1, k2, k3, lg, p0, p1, p2, p3, lp, r0, r1, lr⟩ := HG4.out
      obtain ⟨q0, q1, ql⟩ := HQ.out
      have o0 := HO4.out.cell
      have ol := HO4.out.lt
      have of := HO4.out.froz
      go_upto_region 12 with fail
      clear k0 k1 k2 k3 lg p0 p1 p2 p3 lp r0 r1 lr q0 q1 ql o0 ol of
      go_wp2_with fail
      go_loopw [9, 10] (fun ok k wr => (ok = .bool true ∧ k = .int .i64 0 ∨ ok = .bool true ∧ k = .int .i64 1 ∨ ok = .bool false ∧ k = .int .i64 1 ∨ ok = .bool false ∧ k = .int .i64 2) ∧ Hid (Ext W4 wr)) (fun _ k _ => 2 - (intOf k).toNat)
      case atStart => exact ⟨.inl ⟨rfl, rfl⟩, zh (Ext.refl _)⟩
      case round =>
       obtain ⟨hi, hx2⟩ := hrel
       obtain ⟨k0, k1, k2, k3, lg, p0, p1, p2, p3, lp, r0, r1, lr⟩ := HG4.out.ext hx2.out
       obtain ⟨q0, q1, ql⟩ := HQ.out.ext hx2.out
       have o0 := (HO4.out.to hx2.out).cell
       have ol := (HO4.out.to hx2.out).lt
       rcases hi with ⟨rfl, rfl⟩ | ⟨rfl, rfl⟩ | ⟨rfl, rfl⟩ | ⟨rfl, rfl⟩
       ·go_wp2_with fail
        go_roundw
        case rel => exact ⟨.inr (.inr (.inl ⟨rfl, rfl⟩)), hx2⟩
        case measure => simp [intOf]
       ·go_wp2_with fail
        go_roundw
        case rel => exact ⟨.inr (.inr (.inr ⟨rfl, rfl⟩)), hx2⟩
        case measure => simp [intOf]
       ·go_wp2_with fail
        go_roundw
        case rel => exact .inl ⟨rfl, .inr rfl, zh (HO4.out.to hx2.out)⟩
        case measure => simp [intOf]
       ·go_wp2_with fail
        go_roundw
        case rel => exact .inl ⟨rfl, .inr rfl, zh (HO4.out.to hx2.out)⟩
        case measure => simp [intOf]
     ·obtain ⟨pb, Wb, W4, hpb, hWb, hW4, z0, z1, zf, zl, hq, X4⟩ := prod_copy2 wr (.slice C 0 e)
      have HG4 := zh (HG.out.ext (hx.out.ext.trans X4))
      have HQ := zh hq
      have HO4 := zh (hx.out.to X4)
      clear X4 hq
      go_upto_region 11 with fail
      try simp only [hpb, hWb, hW4]
      clear hpb hWb hW4 z0 z1 zf zl k0 k1 k2 k3 lg p0 p1 p2 p3 lp r0 r1 lr o0 ol of
      obtain ⟨k0, k1, k2, k3, lg, p0, p1, p2, p3, lp, r0, r1, lr⟩ := HG4.out
      obtain ⟨q0, q1, ql⟩ := HQ.out
      have o0 := HO4.out.cell
      have ol := HO4.out.lt
      have of := HO4.out.froz
      go_upto_region 12 with fail
      clear k0 k1 k2 k3 lg p0 p1 p2 p3 lp r0 r1 lr q0 q1 ql o0 ol of
      go_wp2_with fail
      go_loopw [9, 10] (fun ok k wr => ok = .bool true ∧ k = .int .i64 0 ∧ Hid (Ext W4 wr)) (fun _ _ _ => 0)
      case atStart => exact ⟨rfl, rfl, zh (Ext.refl _)⟩
      case round =>
       obtain ⟨rfl, rfl, hx2⟩ := hrel
       obtain ⟨k0, k1, k2, k3, lg, p0, p1, p2, p3, lp, r0, r1, lr⟩ := HG4.out.ext hx2.out
       obtain ⟨q0, q1, ql⟩ := HQ.out.ext hx2.out
       have HO5 := zh (HO4.out.to hx2.out)
       have o0 := HO5.out.cell
       have ol := HO5.out.lt
       have of := HO5.out.froz
       obtain ⟨W5, hW5⟩ : ∃ W5, wr.setCell ⟨ob, 0, none⟩ (.bool true) = W5 := ⟨_, rfl⟩
       have HO6 := zh (HO5.out.setX _ hW5)
       go_wp2_with fail
       go_roundw
       case rel => exact .inr ⟨rfl, rfl, HO6⟩
       case measure => simp [intOf]
    ·obtain ⟨k0, k1, k2, k3, lg, p0, p1, p2, p3, lp, r0, r1, lr⟩ := HG.out.ext hx.out.ext
     go_wp2_with fail
     go_roundw
     case rel => exact .inr ⟨.inl rfl, hx⟩
     case measure =>
      rw [HM.out, hx.out.cell]
      decide
  ·have o0 := hx.out.cell
   have HM := zh o0
   clear o0
   go_wp2_with fail
   have HO := hx
   clear hx
   go_loopw [6, 7] (fun m i wr => (m = .bool false ∧ (i = .int .i64 0 ∨ i = .int .i64 1) ∧ Hid (Own1 W2 wr 4 ob (.bool true)) ∨ m = .bool false ∧ i = .int .i64 2 ∧ Hid (Own1 W2 wr 4 ob (.bool true)))) (fun _ i _ => 2 - (intOf i).toNat)
   case atStart => exact .inl ⟨rfl, .inl rfl, HO⟩
   case round =>
    clear HO
    rcases hrel with ⟨rfl, hi, hx⟩ | ⟨rfl, rfl, hx⟩
    ·obtain ⟨k0, k1, k2, k3, lg, p0, p1, p2, p3, lp, r0, r1, lr⟩ := HG.out.ext hx.out.ext
     have o0 := hx.out.cell
     have ol := hx.out.lt
     have of := hx.out.froz
     rcases hi with rfl | rfl
     ·obtain ⟨pb, Wb, W4, hpb, hWb, hW4, z0, z1, zf, zl, hq, X4⟩ := prod_copy2 wr (.slice (some ⟨b, 0, none⟩) 2 d)
      have HG4 := zh (HG.out.ext (hx.out.ext.trans X4))
      have HQ := zh hq
      have HO4 := zh (hx.out.to X4)
      clear X4 hq
      go_upto_region 11 with fail
      try simp only [hpb, hWb, hW4]
      clear hpb hWb hW4 z0 z1 zf zl k0 k1 k2 k3 lg p0 p1 p2 p3 lp r0 r1 lr o0 ol of
      obtain ⟨k0, k1, k2, k3, lg, p0, p1, p2, p3, lp, r0, r1, lr⟩ := HG4.out
      obtain ⟨q0, q1, ql⟩ := HQ.out
      have o0 := HO4.out.cell
      have ol := HO4.out.lt
      have of := HO4.out.froz
      go_upto_region 12 with fail
      clear k0 k1 k2 k3 lg p0 p1 p2 p3 lp r0 r1 lr q0 q1 ql o0 ol of
      go_wp2_with fail
      go_loopw [9, 10] (fun ok k wr => ok = .bool false ∧ k = .int .i64 0 ∧ Hid (Ext W4 wr)) (fun _ _ _ => 0)
      case atStart => exact ⟨rfl, rfl, zh (Ext.refl _)⟩
      case round =>
       obtain ⟨rfl, rfl, hx2⟩ := hrel
       obtain ⟨k0, k1, k2, k3, lg, p0, p1, p2, p3, lp, r0, r1, lr⟩ := HG4.out.ext hx2.out
       obtain ⟨q0, q1, ql⟩ := HQ.out.ext hx2.out
       go_wp2_with fail
       go_roundw
       case rel => exact .inl ⟨rfl, .inr rfl, zh (HO4.out.to hx2.out)⟩
       case measure => simp [intOf]
     ·obtain ⟨pb, Wb, W4, hpb, hWb, hW4, z0, z1, zf, zl, hq, X4⟩ := prod_copy2 wr (.slice C 0 e)
      have HG4 := zh (HG.out.ext (hx.out.ext.trans X4))
      have HQ := zh hq
      have HO4 := zh (hx.out.to X4)
      clear X4 hq
      go_upto_region 11 with fail
      try simp only [hpb, hWb, hW4]
      clear hpb hWb hW4 z0 z1 zf zl k0 k1 k2 k3 lg p0 p1 p2 p3 lp r0 r1 lr o0 ol of
      obtain ⟨k0, k1, k2, k3, lg, p0, p1, p2, p3, lp, r0, r1, lr⟩ := HG4.out
      obtain ⟨q0, q1, ql⟩ := HQ.out
      have o0 := HO4.out.cell
      have ol := HO4.out.lt
      have of := HO4.out.froz
      go_upto_region 12 with fail
      clear k0 k1 k2 k3 lg p0 p1 p2 p3 lp r0 r1 lr q0 q1 ql o0 ol of
      go_wp2_with fail
      go_loopw [9, 10] (fun ok k wr => ok = .bool false ∧ k = .int .i64 0 ∧ Hid (Ext W4 wr)) (fun _ _ _ => 0)
      case atStart => exact ⟨rfl, rfl, zh (Ext.refl _)⟩
      case round =>
       obtain ⟨rfl, rfl, hx2⟩ := hrel
       obtain ⟨k0, k1, k2, k3, lg, p0, p1, p2, p3, lp, r0, r1, lr⟩ := HG4.out.ext hx2.out
       obtain ⟨q0, q1, ql⟩ := HQ.out.ext hx2.out
       go_wp2_with fail
       go_roundw
       case rel => exact .inr ⟨rfl, rfl, zh (HO4.out.to hx2.out)⟩
       case measure => simp [intOf]
    ·obtain ⟨k0, k1, k2, k3, lg, p0, p1, p2, p3, lp, r0, r1, lr⟩ := HG.out.ext hx.out.ext
     go_wp2_with fail
     go_roundw
     case rel => exact .inr ⟨.inr rfl, hx⟩
     case measure =>
      rw [HM.out, hx.out.cell]
      decide
  ·obtain ⟨k0, k1, k2, k3, lg, p0, p1, p2, p3, lp, r0, r1, lr⟩ := HG.out.ext hx.out.ext
   go_wp2_with fail
   go_ret
   exact ⟨ob, rfl, hx.out.blk, HX2.out.trans hx.out.ext, Nat.le_trans HX2.out.size hx.out.low⟩
set_option maxRecDepth 100000 in
set_option maxHeartbeats 4000000 in
theorem derive_true (a b : Nat) (C : Option Addr) (c d e : Nat) (w : World) (h : GrRd w a b C d e) : Calls Tryz.prog 184 #[gramV a c, .bool true] w fun e w' => ∃ ob, e = .returned (.slice (some ⟨ob, 0, none⟩) 1 1) ∧ Own1 w w' 4 ob (.bool true) := by
 obtain ⟨g0, W, hg0, hW, X1, hat⟩ := gr_enter w c h
 have HX := zh X1
 have HCK := zh (check_gram a b C c d e W (h.ext X1))
 have HGW := zh hat
 clear h X1
 obtain ⟨k0, k1, k2, k3, lg, p0, p1, p2, p3, lp, r0, r1, lr⟩ := hat
 unfold gramV
 go_enter Tryz.func184, Tryz.ntmps184
 go_wp2_with fail
 try simp only [hg0]
 refine HCK.out.mono ?_
 rintro e' W2 ⟨rfl, hx2⟩
 have HG := zh (HGW.out.ext hx2)
 have HX2 := zh (HX.out.trans hx2)
 clear hW hg0 k0 k1 k2 k3 lg p0 p1 p2 p3 lp r0 r1 lr hx2 HCK HX HGW
 obtain ⟨k0, k1, k2, k3, lg, p0, p1, p2, p3, lp, r0, r1, lr⟩ := HG.out
 have hmk := mk_bool1
 simp only [fls_eq] at hmk
 have HO : Hid (Own1 W2 (W2.alloc (.cells #[.bool false] 4)) 4 W2.heap.size (.bool false)) := zh (Own1.new (Ext.refl _) _)
 obtain ⟨ob, hob⟩ : ∃ ob, W2.heap.size = ob := ⟨_, rfl⟩
 obtain ⟨W3, hW3⟩ : ∃ W3, W2.alloc (.cells #[.bool false] 4) = W3 := ⟨_, rfl⟩
 rw [hW3, hob] at HO
 go_wp2_with fail
 try simp only [hob, hW3]
 clear hob hW3 hmk k0 k1 k2 k3 lg p0 p1 p2 p3 lp r0 r1 lr
 go_loopw [6] (fun m wr => (m = .bool true ∧ Hid (Own1 W2 wr 4 ob (.bool false)) ∨ (m = .bool true ∨ m = .bool false) ∧ Hid (Own1 W2 wr 4 ob (.bool true)))) (fun m wr => match m, wr.cell? ⟨ob, 0, none⟩ with | .bool false, _ => 0 | _, some (.bool false) => 2 | _, _ => 1)
 case atStart => exact .inl ⟨rfl, HO⟩
 case round =>
  clear HO
  rcases hrel with ⟨rfl, hx⟩ | ⟨rfl | rfl, hx⟩
  ·have o0 := hx.out.cell
   have HM := zh o0
   clear o0
   go_wp2_with fail
   have HO := hx
   clear hx
   go_loopw [6, 7] (fun m i wr => (m = .bool false ∧ (i = .int .i64 0 ∨ i = .int .i64 1) ∧ Hid (Own1 W2 wr 4 ob (.bool false)) ∨ m = .bool true ∧ i = .int .i64 2 ∧ Hid (Own1 W2 wr 4 ob (.bool true)))) (fun _ i _ => 2 - (intOf i).toNat)
   case atStart => exact .inl ⟨rfl, .inl rfl, HO⟩
   case round =>
    clear HO
    rcases hrel with ⟨rfl, hi, hx⟩ | ⟨rfl, rfl, hx⟩
    ·obtain ⟨k0, k1, k2, k3, lg, p0, p1, p2, p3, lp, r0, r1, lr⟩ := HG.out.ext hx.out.ext
     have o0 := hx.out.cell
     have ol := hx.out.lt
     have of := hx.out.froz
     rcases hi with rfl | rfl
     ·obtain ⟨pb, Wb, W4, hpb, hWb, hW4, z0, z1, zf, zl, hq, X4⟩ := prod_copy2 wr (.slice (some ⟨b, 0, none⟩) 2 d)
      have HG4 := zh (HG.out.ext (hx.out.ext.trans X4))
      have HQ := zh hq
      have HO4 := zh (hx.out.to X4)
      clear X4 hq
      go_upto_region 11 with fail
      try simp only [hpb, hWb, hW4]
      clear hpb hWb hW4 z0 z1 zf zl k0 k1 k2 k3 lg p0 p1 p2 p3 lp r0 r1 lr o0 ol of
      obtain ⟨k0, k1, k2, k3, lg, p0, p1, p2, p3, lp, r0, r1, lr⟩ := HG4.out
      obtain ⟨q0, q1, ql⟩ := HQ.out
      have o0 := HO4.out.cell
      have ol := HO4.out.lt
      have of := HO4.out.froz
      go_upto_region 12 with fail
      clear k0 k1 k2 k3 lg p0 p1 p2 p3 lp r0 r1 lr q0 q1 ql o0 ol of
      go_wp2_with fail
      go_loopw [9, 10] (fun ok k wr => (ok = .bool true ∧ k = .int .i64 0 ∨ ok = .bool true ∧ k = .int .i64 1 ∨ ok = .bool false ∧ k = .int .i64 1 ∨ ok = .bool false ∧ k = .int .i64 2) ∧ Hid (Ext W4 wr)) (fun _ k _ => 2 - (intOf k).toNat)
      case atStart => exact ⟨.inl ⟨rfl, rfl⟩, zh (Ext.refl _)⟩
      case round =>
       obtain ⟨hi, hx2⟩ := hrel
       obtain ⟨k0, k1, k2, k3, lg, p0, p1, p2, p3, lp, r0, r1, lr⟩ := HG4.out.ext hx2.out
       obtain ⟨q0, q1, ql⟩ := HQ.out.ext hx2.out
       have o0 := (HO4.out.to hx2.out).cell
       have ol := (HO4.out.to hx2.out).lt
       rcases hi with ⟨rfl, rfl⟩ | ⟨rfl, rfl⟩ | ⟨rfl, rfl⟩ | ⟨rfl, rfl⟩
       ·go_wp2_with fail
        go_roundw
        case rel => exact ⟨.inr (.inl ⟨rfl, rfl⟩), hx2⟩
        case measure => simp [intOf]
       ·go_wp2_with fail
        go_roundw
        case rel => exact ⟨.inr (.inr (.inr ⟨rfl, rfl⟩)), hx2⟩
        case measure => simp [intOf]
       ·go_wp2_with fail
        go_roundw
        case rel => exact .inl ⟨rfl, .inr rfl, zh (HO4.out.to hx2.out)⟩
        case measure => simp [intOf]
       ·go_wp2_with fail
        go_roundw
        case rel => exact .inl ⟨rfl, .inr rfl, zh (HO4.out.to hx2.out)⟩
        case measure => simp [intOf]
     ·obtain ⟨pb, Wb, W4, hpb, hWb, hW4, z0, z1, zf, zl, hq, X4⟩ := prod_copy2 wr (.slice C 0 e)
      have HG4 := zh (HG.out.ext (hx.out.ext.trans X4))
      have HQ := zh hq
      have HO4 := zh (hx.out.to X4)
      clear X4 hq
      go_upto_region 11 with fail
      try simp only [hpb, hWb, hW4]
      clear hpb hWb hW4 z0 z1 zf zl k0 k1 k2 k3 lg p0 p1 p2 p3 lp r0 r1 lr o0 ol of
      obtain ⟨k0, k1, k2, k3, lg, p0, p1, p2, p3, lp, r0, r1, lr⟩ := HG4.out
      obtain ⟨q0, q1, ql⟩ := HQ.out
      have o0 := HO4.out.cell
      have ol := HO4.out.lt
      have of := HO4.out.froz
      go_upto_region 12 with fail
      clear k0 k1 k2 k3 lg p0 p1 p2 p3 lp r0 r1 lr q0 q1 ql o0 ol of
      go_wp2_with fail
      go_loopw [9, 10] (fun ok k wr => ok = .bool true ∧ k = .int .i64 0 ∧ Hid (Ext W4 wr)) (fun _ _ _ => 0)
      case atStart => exact ⟨rfl, rfl, zh (Ext.refl _)⟩
      case round =>
       obtain ⟨rfl, rfl, hx2⟩ := hrel
       obtain ⟨k0, k1, k2, k3, lg, p0, p1, p2, p3, lp, r0, r1, lr⟩ := HG4.out.ext hx2.out
       obtain ⟨q0, q1, ql⟩ := HQ.out.ext hx2.out
       have HO5 := zh (HO4.out.to hx2.out)
       have o0 := HO5.out.cell
       have ol := HO5.out.lt
       have of := HO5.out.froz
       obtain ⟨W5, hW5⟩ : ∃ W5, wr.setCell ⟨ob, 0, none⟩ (.bool true) = W5 := ⟨_, rfl⟩
       have HO6 := zh (HO5.out.setX _ hW5)
       go_wp2_with fail
       go_roundw
       case rel => exact .inr ⟨rfl, rfl, HO6⟩
       case measure => simp [intOf]
    ·obtain ⟨k0, k1, k2, k3, lg, p0, p1, p2, p3, lp, r0, r1, lr⟩ := HG.out.ext hx.out.ext
     go_wp2_with fail
     go_roundw
     case rel => exact .inr ⟨.inl rfl, hx⟩
     case measure =>
      rw [HM.out, hx.out.cell]
      decide
  ·have o0 := hx.out.cell
   have HM := zh o0
   clear o0
   go_wp2_with fail
   have HO := hx
   clear hx
   go_loopw [6, 7] (fun m i wr => (m = .bool false ∧ (i = .int .i64 0 ∨ i = .int .i64 1) ∧ Hid (Own1 W2 wr 4 ob (.bool true)) ∨ m = .bool false ∧ i = .int .i64 2 ∧ Hid (Own1 W2 wr 4 ob (.bool true)))) (fun _ i _ => 2 - (intOf i).toNat)
   case atStart => exact .inl ⟨rfl, .inl rfl, HO⟩
   case round =>
    clear HO
    rcases hrel with ⟨rfl, hi, hx⟩ | ⟨rfl, rfl, hx⟩
    ·obtain ⟨k0, k1, k2, k3, lg, p0, p1, p2, p3, lp, r0, r1, lr⟩ := HG.out.ext hx.out.ext
     have o0 := hx.out.cell
     have ol := hx.out.lt
     have of := hx.out.froz
     rcases hi with rfl | rfl
     ·obtain ⟨pb, Wb, W4, hpb, hWb, hW4, z0, z1, zf, zl, hq, X4⟩ := prod_copy2 wr (.slice (some ⟨b, 0, none⟩) 2 d)
      have HG4 := zh (HG.out.ext (hx.out.ext.trans X4))
      have HQ := zh hq
      have HO4 := zh (hx.out.to X4)
      clear X4 hq
      go_upto_region 11 with fail
      try simp only [hpb, hWb, hW4]
      clear hpb hWb hW4 z0 z1 zf zl k0 k1 k2 k3 lg p0 p1 p2 p3 lp r0 r1 lr o0 ol of
      obtain ⟨k0, k1, k2, k3, lg, p0, p1, p2, p3, lp, r0, r1, lr⟩ := HG4.out
      obtain ⟨q0, q1, ql⟩ := HQ.out
      have o0 := HO4.out.cell
      have ol := HO4.out.lt
      have of := HO4.out.froz
      go_upto_region 12 with fail
      clear k0 k1 k2 k3 lg p0 p1 p2 p3 lp r0 r1 lr q0 q1 ql o0 ol of
      go_wp2_with fail
      go_loopw [9, 10] (fun ok k wr => ok = .bool false ∧ k = .int .i64 0 ∧ Hid (Ext W4 wr)) (fun _ _ _ => 0)
      case atStart => exact ⟨rfl, rfl, zh (Ext.refl _)⟩
      case round =>
       obtain ⟨rfl, rfl, hx2⟩ := hrel
       obtain ⟨k0, k1, k2, k3, lg, p0, p1, p2, p3, lp, r0, r1, lr⟩ := HG4.out.ext hx2.out
       obtain ⟨q0, q1, ql⟩ := HQ.out.ext hx2.out
       go_wp2_with fail
       go_roundw
       case rel => exact .inl ⟨rfl, .inr rfl, zh (HO4.out.to hx2.out)⟩
       case measure => simp [intOf]
     ·obtain ⟨pb, Wb, W4, hpb, hWb, hW4, z0, z1, zf, zl, hq, X4⟩ := prod_copy2 wr (.slice C 0 e)
      have HG4 := zh (HG.out.ext (hx.out.ext.trans X4))
      have HQ := zh hq
      have HO4 := zh (hx.out.to X4)
      clear X4 hq
      go_upto_region 11 with fail
      try simp only [hpb, hWb, hW4]
      clear hpb hWb hW4 z0 z1 zf zl k0 k1 k2 k3 lg p0 p1 p2 p3 lp r0 r1 lr o0 ol of
      obtain ⟨k0, k1, k2, k3, lg, p0, p1, p2, p3, lp, r0, r1, lr⟩ := HG4.out
      obtain ⟨q0, q1, ql⟩ := HQ.out
      have o0 := HO4.out.cell
      have ol := HO4.out.lt
      have of := HO4.out.froz
      go_upto_region 12 with fail
      clear k0 k1 k2 k3 lg p0 p1 p2 p3 lp r0 r1 lr q0 q1 ql o0 ol of
      go_wp2_with fail
      go_loopw [9, 10] (fun ok k wr => ok = .bool false ∧ k = .int .i64 0 ∧ Hid (Ext W4 wr)) (fun _ _ _ => 0)
      case atStart => exact ⟨rfl, rfl, zh (Ext.refl _)⟩
      case round =>
       obtain ⟨rfl, rfl, hx2⟩ := hrel
       obtain ⟨k0, k1, k2, k3, lg, p0, p1, p2, p3, lp, r0, r1, lr⟩ := HG4.out.ext hx2.out
       obtain ⟨q0, q1, ql⟩ := HQ.out.ext hx2.out
       go_wp2_with fail
       go_roundw
       case rel => exact .inr ⟨rfl, rfl, zh (HO4.out.to hx2.out)⟩
       case measure => simp [intOf]
    ·obtain ⟨k0, k1, k2, k3, lg, p0, p1, p2, p3, lp, r0, r1, lr⟩ := HG.out.ext hx.out.ext
     go_wp2_with fail
     go_roundw
     case rel => exact .inr ⟨.inr rfl, hx⟩
     case measure =>
      rw [HM.out, hx.out.cell]
      decide
  ·obtain ⟨k0, k1, k2, k3, lg, p0, p1, p2, p3, lp, r0, r1, lr⟩ := HG.out.ext hx.out.ext
   go_wp2_with fail
   go_ret
   exact ⟨ob, rfl, hx.out.blk, HX2.out.trans hx.out.ext, Nat.le_trans HX2.out.size hx.out.low⟩
set_option maxRecDepth 100000 in
set_option maxHeartbeats 1000000 in
theorem nullable_gram (a b : Nat) (C : Option Addr) (c d e : Nat) (w : World) (h : GrRd w a b C d e) : Calls Tryz.prog 155 #[gramV a c] w fun e w' => ∃ ob, e = .returned (.slice (some ⟨ob, 0, none⟩) 1 1) ∧ Own1 w w' 4 ob (.bool true) := by
 obtain ⟨g0, W, hg0, hW, X1, hat⟩ := gr_enter w c h
 have HX := zh X1
 have HCK := zh (derive_false a b C c d e W (h.ext X1))
 clear h X1
 obtain ⟨k0, k1, k2, k3, lg, p0, p1, p2, p3, lp, r0, r1, lr⟩ := hat
 unfold gramV
 go_enter Tryz.func155, Tryz.ntmps155
 go_wp2_with fail
 try simp only [hg0]
 refine HCK.out.mono ?_
 rintro e' W2 ⟨ob, rfl, ho⟩
 have HOW := zh ho
 clear hW hg0 k0 k1 k2 k3 lg p0 p1 p2 p3 lp r0 r1 lr ho HCK
 go_wp2_with fail
 go_ret
 exact ⟨ob, rfl, HOW.out.blk, HX.out.trans HOW.out.ext, Nat.le_trans HX.out.size HOW.out.low⟩
set_option maxRecDepth 100000 in
set_option maxHeartbeats 1000000 in
theorem productive_gram (a b : Nat) (C : Option Addr) (c d e : Nat) (w : World) (h : GrRd w a b C d e) : Calls Tryz.prog 153 #[gramV a c] w fun e w' => ∃ ob, e = .returned (.slice (some ⟨ob, 0, none⟩) 1 1) ∧ Own1 w w' 4 ob (.bool true) := by
 obtain ⟨g0, W, hg0, hW, X1, hat⟩ := gr_enter w c h
 have HX := zh X1
 have HCK := zh (derive_true a b C c d e W (h.ext X1))
 clear h X1
 obtain ⟨k0, k1, k2, k3, lg, p0, p1, p2, p3, lp, r0, r1, lr⟩ := hat
 unfold gramV
 go_enter Tryz.func153, Tryz.ntmps153
 go_wp2_with fail
 try simp only [hg0]
 refine HCK.out.mono ?_
 rintro e' W2 ⟨ob, rfl, ho⟩
 have HOW := zh ho
 clear hW hg0 k0 k1 k2 k3 lg p0 p1 p2 p3 lp r0 r1 lr ho HCK
 go_wp2_with fail
 go_ret
 exact ⟨ob, rfl, HOW.out.blk, HX.out.trans HOW.out.ext, Nat.le_trans HX.out.size HOW.out.low⟩
set_option maxRecDepth 100000 in
set_option maxHeartbeats 4000000 in
theorem reachable_gram (a b : Nat) (C : Option Addr) (c d e : Nat) (w : World) (h : GrRd w a b C d e) : Calls Tryz.prog 154 #[gramV a c] w fun e w' => ∃ ob, e = .returned (.slice (some ⟨ob, 0, none⟩) 1 1) ∧ Own1 w w' 4 ob (.bool true) := by
 obtain ⟨g0, W, hg0, hW, X1, hat⟩ := gr_enter w c h
 have HX := zh X1
 have HCK := zh (check_gram a b C c d e W (h.ext X1))
 have HGW := zh hat
 clear h X1
 obtain ⟨k0, k1, k2, k3, lg, p0, p1, p2, p3, lp, r0, r1, lr⟩ := hat
 unfold gramV
 go_enter Tryz.func154, Tryz.ntmps154
 go_wp2_with fail
 try simp only [hg0]
 refine HCK.out.mono ?_
 rintro e' W2 ⟨rfl, hx2⟩
 have HG := zh (HGW.out.ext hx2)
 have HX2 := zh (HX.out.trans hx2)
 clear hW hg0 k0 k1 k2 k3 lg p0 p1 p2 p3 lp r0 r1 lr hx2 HCK HX HGW
 obtain ⟨k0, k1, k2, k3, lg, p0, p1, p2, p3, lp, r0, r1, lr⟩ := HG.out
 have hmk := mk_bool1
 simp only [fls_eq] at hmk
 obtain ⟨ob, hob⟩ : ∃ ob, W2.heap.size = ob := ⟨_, rfl⟩
 obtain ⟨W3, hW3⟩ : ∃ W3, W2.alloc (.cells #[.bool false] 4) = W3 := ⟨_, rfl⟩
 have HO3 : Hid (Own1 W2 W3 4 ob (.bool false)) := zh (by rw [← hW3, ← hob]; exact Own1.new (Ext.refl _) _)
 obtain ⟨W4, hW4⟩ : ∃ W4, W3.setCell ⟨ob, 0, none⟩ (.bool true) = W4 := ⟨_, rfl⟩
 have HO := zh (HO3.out.setX _ hW4)
 have o0 := HO3.out.cell
 have ol := HO3.out.lt
 have of := HO3.out.froz
 go_upto_region 5 with fail
 try simp only [hob, hW3, hW4]
 clear hob hW3 hmk hW4 k0 k1 k2 k3 lg p0 p1 p2 p3 lp r0 r1 lr o0 ol of HO3
 go_wp2_with fail
 go_loopw [4] (fun m wr => (m = .bool true ∨ m = .bool false) ∧ Hid (Own1 W2 wr 4 ob (.bool true))) (fun m wr => match m with | .bool false => 0 | _ => 1)
 case atStart => exact ⟨.inl rfl, HO⟩
 case round =>
  clear HO
  obtain ⟨rfl | rfl, hx⟩ := hrel
  ·go_wp2_with fail
   have HO := hx
   clear hx
   go_loopw [4, 5] (fun m i wr => m = .bool false ∧ (i = .int .i64 0 ∨ i = .int .i64 1 ∨ i = .int .i64 2) ∧ Hid (Own1 W2 wr 4 ob (.bool true))) (fun _ i _ => 2 - (intOf i).toNat)
   case atStart => exact ⟨rfl, .inl rfl, HO⟩
   case round =>
    clear HO
    obtain ⟨rfl, hi, hx⟩ := hrel
    obtain ⟨k0, k1, k2, k3, lg, p0, p1, p2, p3, lp, r0, r1, lr⟩ := HG.out.ext hx.out.ext
    have o0 := hx.out.cell
    have ol := hx.out.lt
    have of := hx.out.froz
    rcases hi with rfl | rfl | rfl
    ·obtain ⟨pb, Wb, W4, hpb, hWb, hW4, z0, z1, zf, zl, hq, X4⟩ := prod_copy2 wr (.slice (some ⟨b, 0, none⟩) 2 d)
     have HG4 := zh (HG.out.ext (hx.out.ext.trans X4))
     have HQ := zh hq
     have HO4 := zh (hx.out.to X4)
     clear X4 hq
     go_upto_region 12 with fail
     try simp only [hpb, hWb, hW4]
     clear hpb hWb hW4 z0 z1 zf zl k0 k1 k2 k3 lg p0 p1 p2 p3 lp r0 r1 lr o0 ol of
     obtain ⟨k0, k1, k2, k3, lg, p0, p1, p2, p3, lp, r0, r1, lr⟩ := HG4.out
     obtain ⟨q0, q1, ql⟩ := HQ.out
     have o0 := HO4.out.cell
     have ol := HO4.out.lt
     have of := HO4.out.froz
     go_wp2_with fail
     clear k0 k1 k2 k3 lg p0 p1 p2 p3 lp r0 r1 lr q0 q1 ql o0 ol of
     go_loopw [4, 7] (fun m k wr => m = .bool false ∧ (k = .int .i64 0 ∨ k = .int .i64 1 ∨ k = .int .i64 2) ∧ Hid (Ext W4 wr)) (fun _ k _ => 2 - (intOf k).toNat)
     case atStart => exact ⟨rfl, .inl rfl, zh (Ext.refl _)⟩
     case round =>
      obtain ⟨rfl, hi, hx2⟩ := hrel
      obtain ⟨k0, k1, k2, k3, lg, p0, p1, p2, p3, lp, r0, r1, lr⟩ := HG4.out.ext hx2.out
      obtain ⟨q0, q1, ql⟩ := HQ.out.ext hx2.out
      have o0 := (HO4.out.to hx2.out).cell
      have ol := (HO4.out.to hx2.out).lt
      rcases hi with rfl | rfl | rfl
      ·go_upto_region 15 with fail; refine wp_region_bt (9) (pures_bt [0, 2, 5] (softs_bt [1, 3, 4, 6, 7, 8] .fin)) (by kernel_rfl) (by kernel_rfl) ?_; refine bt_pures _ fun K hK => ?_; simp only [pick, nthC]; (repeat go_big_quiet_step (fail)); refine wpQuiet_nil (hK _ ?_); clear hK K; refine bt_softs _ fun K hK => ?_; simp only [pick, nthC]; (repeat go_big_quiet_step (fail)); refine wpQuiet_nil (hK _ ?_); clear hK K; (refine bt_fin ?_)
       go_wp2_with fail
       go_roundw
       case rel => exact ⟨rfl, .inr (.inl rfl), zh (hx2.out.trans (by repeat first | exact xr _ | refine xa ?_ _ | refine xm ?_ _ _ | refine xd ?_ | refine xn ?_ _ | refine xs ?_ (by simp <;> omega) _))⟩
       case measure => simp [intOf]
      ·go_upto_region 15 with fail; refine wp_region_bt (9) (pures_bt [0, 2, 5] (softs_bt [1, 3, 4, 6, 7, 8] .fin)) (by kernel_rfl) (by kernel_rfl) ?_; refine bt_pures _ fun K hK => ?_; simp only [pick, nthC]; (repeat go_big_quiet_step (fail)); refine wpQuiet_nil (hK _ ?_); clear hK K; refine bt_softs _ fun K hK => ?_; simp only [pick, nthC]; (repeat go_big_quiet_step (fail)); refine wpQuiet_nil (hK _ ?_); clear hK K; (refine bt_fin ?_)
       go_wp2_with fail
       go_roundw
       case rel => exact ⟨rfl, .inr (.inr rfl), zh (hx2.out.trans (by repeat first | exact xr _ | refine xa ?_ _ | refine xm ?_ _ _ | refine xd ?_ | refine xn ?_ _ | refine xs ?_ (by simp <;> omega) _))⟩
       case measure => simp [intOf]
      ·go_wp2_with fail
       go_roundw
       case rel => exact ⟨rfl, .inr (.inl rfl), zh (HO4.out.to hx2.out)⟩
       case measure => simp [intOf]
    ·obtain ⟨pb, Wb, W4, hpb, hWb, hW4, z0, z1, zf, zl, hq, X4⟩ := prod_copy2 wr (.slice C 0 e)
     have HG4 := zh (HG.out.ext (hx.out.ext.trans X4))
     have HQ := zh hq
     have HO4 := zh (hx.out.to X4)
     clear X4 hq
     go_upto_region 12 with fail
     try simp only [hpb, hWb, hW4]
     clear hpb hWb hW4 z0 z1 zf zl k0 k1 k2 k3 lg p0 p1 p2 p3 lp r0 r1 lr o0 ol of
     obtain ⟨k0, k1, k2, k3, lg, p0, p1, p2, p3, lp, r0, r1, lr⟩ := HG4.out
     obtain ⟨q0, q1, ql⟩ := HQ.out
     have o0 := HO4.out.cell
     have ol := HO4.out.lt
     have of := HO4.out.froz
     go_wp2_with fail
     clear k0 k1 k2 k3 lg p0 p1 p2 p3 lp r0 r1 lr q0 q1 ql o0 ol of
     go_loopw [4, 7] (fun m k wr => m = .bool false ∧ k = .int .i64 0 ∧ Hid (Ext W4 wr)) (fun _ _ _ => 0)
     case atStart => exact ⟨rfl, rfl, zh (Ext.refl _)⟩
     case round =>
      obtain ⟨rfl, rfl, hx2⟩ := hrel
      obtain ⟨k0, k1, k2, k3, lg, p0, p1, p2, p3, lp, r0, r1, lr⟩ := HG4.out.ext hx2.out
      obtain ⟨q0, q1, ql⟩ := HQ.out.ext hx2.out
      have o0 := (HO4.out.to hx2.out).cell
      have ol := (HO4.out.to hx2.out).lt
      go_wp2_with fail
      go_roundw
      case rel => exact ⟨rfl, .inr (.inr rfl), zh (HO4.out.to hx2.out)⟩
      case measure => simp [intOf]
    ·go_wp2_with fail
     go_roundw
     case rel => exact ⟨.inr rfl, hx⟩
     case measure => decide
  ·go_wp2_with fail
   go_ret
   exact ⟨ob, rfl, hx.out.blk, HX2.out.trans hx.out.ext, Nat.le_trans HX2.out.size hx.out.low⟩
set_option maxRecDepth 100000 in
set_option maxHeartbeats 4000000 in
theorem reduced_gram (a b : Nat) (C : Option Addr) (c d e : Nat) (w : World) (h : GrRd w a b C d e) : Calls Tryz.prog 101 #[gramV a c] w fun e w' => e = .returned (.tuple #[.int .i64 0, .bool true]) ∧ Ext w w' := by
 obtain ⟨g0, W, hg0, hW, X1, hat⟩ := gr_enter w c h
 have HX := zh X1
 have HCK := zh (check_gram a b C c d e W (h.ext X1))
 have HGW := zh hat
 clear h X1
 obtain ⟨k0, k1, k2, k3, lg, p0, p1, p2, p3, lp, r0, r1, lr⟩ := hat
 unfold gramV
 go_enter Tryz.func101, Tryz.ntmps101
 go_wp2_with fail
 try simp only [hg0]
 refine HCK.out.mono ?_
 rintro e' W2 ⟨rfl, hx2⟩
 have HG := zh (HGW.out.ext hx2)
 have HX2 := zh (HX.out.trans hx2)
 clear hW hg0 k0 k1 k2 k3 lg p0 p1 p2 p3 lp r0 r1 lr hx2 HCK HX HGW
 obtain ⟨k0, k1, k2, k3, lg, p0, p1, p2, p3, lp, r0, r1, lr⟩ := HG.out
 have HA := zh (fun w1 (e1 : Ext W2 w1) => productive_gram a b C c d e w1 (HG.out.rd.ext e1))
 have HB := zh (fun w1 (e1 : Ext W2 w1) => reachable_gram a b C c d e w1 (HG.out.rd.ext e1))
 unfold gramV at HA HB
 go_upto_region 3 with fail
 refine wp_region_bt (6) (softs_bt [0, 2] (.step 1 (.step 3 (pures_bt [4, 5] .fin)))) (by kernel_rfl) (by kernel_rfl) ?_
 refine bt_softs _ fun K hK => ?_; simp only [pick, nthC]; (repeat go_big_quiet_step (fail)); refine wpQuiet_nil (hK _ ?_); clear hK K
 refine bt_step fun next hn => ?_; simp only [pick, nthC]
 go_wp2_with fail
 refine (HA.out _ (by repeat first | exact xr _ | refine xa ?_ _ | refine xm ?_ _ _ | refine xd ?_ | refine xn ?_ _ | refine xs ?_ (by simp <;> omega) _)).mono ?_
 rintro e' W3 ⟨oa, rfl, ha⟩
 have HA3 : Hid (Own1 W2 W3 4 oa (.bool true)) := zh ⟨ha.blk, Ext.trans (by repeat first | exact xr _ | refine xa ?_ _ | refine xm ?_ _ _ | refine xd ?_ | refine xn ?_ _ | refine xs ?_ (by simp <;> omega) _) ha.ext, ha.low⟩
 clear ha
 go_wp2_with fail
 refine segQ_mk (fun _ => laid HA3.out.ext) (hn _ _ ?_)
 clear hn next
 refine bt_step fun next hn => ?_; simp only [pick, nthC]
 go_wp2_with fail
 refine (HB.out _ HA3.out.ext).mono ?_
 rintro e' W4 ⟨ob, rfl, hb⟩
 have HA4 : Hid (Own1 W2 W4 4 oa (.bool true)) := zh (HA3.out.to hb.ext)
 have HB4 : Hid (Own1 W3 W4 4 ob (.bool true)) := zh hb
 clear hb
 go_wp2_with fail
 refine segQ_mk (fun _ => laid HA4.out.ext) (hn _ _ ?_)
 clear hn next k0 k1 k2 k3 lg p0 p1 p2 p3 lp r0 r1 lr
 refine bt_pures _ fun K hK => ?_; simp only [pick, nthC]; (repeat go_big_quiet_step (fail)); refine wpQuiet_nil (hK _ ?_); clear hK K
 (refine bt_fin ?_)
 go_wp2_with fail
 go_loopw [6] (fun i wr => (i = .int .i64 0 ∨ i = .int .i64 1) ∧ Hid (Ext W4 wr)) (fun i _ => 1 - (intOf i).toNat)
 case atStart => exact ⟨.inl rfl, zh (Ext.refl _)⟩
 case round =>
  obtain ⟨hi, hx⟩ := hrel
  obtain ⟨k0, k1, k2, k3, lg, p0, p1, p2, p3, lp, r0, r1, lr⟩ := HG.out.ext (HA4.out.ext.trans hx.out)
  have a0 := (HA4.out.to hx.out).cell
  have al := (HA4.out.to hx.out).lt
  have b0 := (HB4.out.to hx.out).cell
  have bl := (HB4.out.to hx.out).lt
  rcases hi with rfl | rfl
  ·go_wp2_with fail
   go_roundw
   case rel => exact ⟨.inr rfl, hx⟩
   case measure => decide
  ·go_wp2_with fail
   exact bodyPost_ret (v := .tuple #[.int .i64 0, .bool true]) (by simp [results, Tryz.results101, go_sem, *]) rfl ⟨rfl, HX2.out.trans (HA4.out.ext.trans hx.out)⟩
theorem mk_row1 (w : World) : (Instr.makeSlice 109 (.int .i64 1) (.int .i64 1)).run Tryz.prog w = .ok (.slice (some ⟨w.heap.size, 0, none⟩) 1 1) (w.alloc (.cells #[nil0] 128)) := by
 obtain ⟨i3, hi, hz0, hz1, hz2⟩ := info_parts infoBools
 have h := run_makeSlice (P := Tryz.prog) w 109 128 i3 nil0 Tryz.underlying109 hi hz0 .i64 .i64 (1 : Int) (1 : Int) (by omega) (by omega) (by rw [hz1]; omega) (by rw [hz2]; omega) (by omega)
 rw [hz1, show (1 : Int).toNat * 1 = 1 from rfl, show madeCells nil0.cells 1 = #[nil0] from by
  apply Array.toList_inj.1
  show (madeCells #[nil0] 1).toList = _
  rw [toList_madeCells_one]
  rfl] at h
 exact h
theorem Own1.other {w0 w W : World} {T : TypeId} {ob g k : Nat} {v u : Value} (h : Own1 w0 w T ob v) (hg : w0.heap.size ≤ g) (hne : g ≠ ob) (hW : w.setCell ⟨g, k, none⟩ u = W) : Own1 w0 W T ob v := by
 subst hW
 exact ⟨setCell_row_other h.blk hne u, h.ext.setCell hg u, h.low⟩
theorem Own1.base {w0 w w1 : World} {T : TypeId} {ob : Nat} {v : Value} (h : Own1 w1 w T ob v) (e : Ext w0 w1) : Own1 w0 w T ob v := ⟨h.blk, e.trans h.ext, Nat.le_trans e.size h.low⟩
set_option maxRecDepth 100000 in
set_option maxHeartbeats 4000000 in
theorem left_gram (a b : Nat) (C : Option Addr) (c d e : Nat) (w : World) (h : GrRd w a b C d e) : Calls Tryz.prog 102 #[gramV a c] w fun e w' => e = .returned (.tuple #[.int .i64 0, .bool false]) ∧ Ext w w' := by
 obtain ⟨g0, W, hg0, hW, X1, hat⟩ := gr_enter w c h
 have HX := zh X1
 have HCK := zh (check_gram a b C c d e W (h.ext X1))
 have HGW := zh hat
 clear h X1
 obtain ⟨k0, k1, k2, k3, lg, p0, p1, p2, p3, lp, r0, r1, lr⟩ := hat
 unfold gramV
 go_enter Tryz.func102, Tryz.ntmps102
 go_wp2_with fail
 try simp only [hg0]
 refine HCK.out.mono ?_
 rintro e' W2 ⟨rfl, hx2⟩
 have HG := zh (HGW.out.ext hx2)
 have HX2 := zh (HX.out.trans hx2)
 clear hW hg0 k0 k1 k2 k3 lg p0 p1 p2 p3 lp r0 r1 lr hx2 HCK HX HGW
 obtain ⟨k0, k1, k2, k3, lg, p0, p1, p2, p3, lp, r0, r1, lr⟩ := HG.out
 have HN := zh (nullable_gram a b C c d e W2 HG.out.rd)
 unfold gramV at HN
 go_wp2_with fail
 refine HN.out.mono ?_
 rintro e' W3 ⟨na, rfl, hn⟩
 have HN3 := zh hn
 clear hn HN k0 k1 k2 k3 lg p0 p1 p2 p3 lp r0 r1 lr
 obtain ⟨k0, k1, k2, k3, lg, p0, p1, p2, p3, lp, r0, r1, lr⟩ := HG.out.ext HN3.out.ext
 have hmk := mk_row1
 obtain ⟨rb, hrb⟩ : ∃ ob, W3.heap.size = ob := ⟨_, rfl⟩
 obtain ⟨W4, hW4⟩ : ∃ W4, W3.alloc (.cells #[nil0] 128) = W4 := ⟨_, rfl⟩
 have HR4 : Hid (Own1 W3 W4 128 rb nil0) := zh (by rw [← hW4, ← hrb]; exact Own1.new (Ext.refl _) _)
 have HRL : Hid (W3.heap.size ≤ rb ∧ rb < W4.heap.size) := zh ⟨HR4.out.low, HR4.out.lt⟩
 go_wp2_with fail
 try simp only [hrb, hW4]
 clear hrb hW4 hmk k0 k1 k2 k3 lg p0 p1 p2 p3 lp r0 r1 lr
 refine wp_loop_rounds 2 ?_
 rw [rounds_succ]
 obtain ⟨k0, k1, k2, k3, lg, p0, p1, p2, p3, lp, r0, r1, lr⟩ := HG.out.ext (HN3.out.ext.trans HR4.out.ext)
 have hmk := mk_bool1
 simp only [fls_eq] at hmk
 obtain ⟨bb, hbb⟩ : ∃ ob, W4.heap.size = ob := ⟨_, rfl⟩
 obtain ⟨W5, hW5⟩ : ∃ W5, W4.alloc (.cells #[.bool false] 4) = W5 := ⟨_, rfl⟩
 have X45 : Ext W4 W5 := by rw [← hW5]; exact (by repeat first | exact xr _ | refine xa ?_ _ | refine xm ?_ _ _ | refine xd ?_ | refine xn ?_ _ | refine xs ?_ (by simp <;> omega) _)
 have HR5 := zh (HR4.out.to X45)
 have HB5 : Hid (Own1 W3 W5 4 bb (.bool false)) := zh (by rw [← hW5, ← hbb]; exact (Own1.new (Ext.refl _) _).base HR4.out.ext)
 have HNE : Hid (rb ≠ bb) := zh (by have := HRL.out.2; omega)
 obtain ⟨W6, hW6⟩ : ∃ W6, W5.setCell ⟨rb, 0, none⟩ (.slice (some ⟨bb, 0, none⟩) 1 1) = W6 := ⟨_, rfl⟩
 have HR6 := zh (HR5.out.setX _ hW6)
 have HB6 := zh (HB5.out.other HRL.out.1 HNE.out hW6)
 have u0 := HR5.out.cell
 have ul := HR5.out.lt
 have uf := HR5.out.froz
 go_upto_region 7 with fail
 try simp only [hbb, hW5, hW6]
 clear hbb hW5 hmk hW6 k0 k1 k2 k3 lg p0 p1 p2 p3 lp r0 r1 lr u0 ul uf HR4 HR5 HB5 X45
 obtain ⟨k0, k1, k2, k3, lg, p0, p1, p2, p3, lp, r0, r1, lr⟩ := HG.out.ext (HN3.out.ext.trans HR6.out.ext)
 go_wp2_with fail
 rw [rounds_succ]
 go_wp2_with fail
 refine wp_loop_rounds 3 ?_
 rw [rounds_succ]
 obtain ⟨pb, Wb, W7, hpb, hWb, hW4, z0, z1, zf, zl, hq, X4⟩ := prod_copy2 W6 (.slice (some ⟨b, 0, none⟩) 2 d)
 have HR7 := zh (HR6.out.to X4)
 have HB7 := zh (HB6.out.to X4)
 have HQ := zh hq
 clear X4 hq
 go_upto_region 13 with fail
 try simp only [hpb, hWb, hW4]
 clear hpb hWb hW4 z0 z1 zf zl k0 k1 k2 k3 lg p0 p1 p2 p3 lp r0 r1 lr HR6 HB6
 obtain ⟨k0, k1, k2, k3, lg, p0, p1, p2, p3, lp, r0, r1, lr⟩ := HG.out.ext (HN3.out.ext.trans HR7.out.ext)
 obtain ⟨q0, q1, ql⟩ := HQ.out
 go_wp2_with fail
 refine wp_loop_rounds 1 ?_
 rw [rounds_succ]
 go_upto_region 14 with fail; refine wp_region_bt (15) (pures_bt [0, 1] (softs_bt [2, 3, 4, 5, 6, 7, 8, 9, 10, 11, 12, 13, 14] .fin)) (by kernel_rfl) (by kernel_rfl) ?_; refine bt_pures _ fun K hK => ?_; simp only [pick, nthC]; (repeat go_big_quiet_step (fail)); refine wpQuiet_nil (hK _ ?_); clear hK K; refine bt_softs _ fun K hK => ?_; simp only [pick, nthC]; (repeat go_big_quiet_step (fail)); refine wpQuiet_nil (hK _ ?_); clear hK K; (refine bt_fin ?_)
 go_wp2_with fail
 try rw [rounds_succ]
 clear q0 q1 ql k0 k1 k2 k3 lg p0 p1 p2 p3 lp r0 r1 lr HQ
 have HR7' : Hid (Own1 W3 W7.drew 128 rb (.slice (some ⟨bb, 0, none⟩) 1 1)) := zh (HR7.out.to (by repeat first | exact xr _ | refine xa ?_ _ | refine xm ?_ _ _ | refine xd ?_ | refine xn ?_ _ | refine xs ?_ (by simp <;> omega) _))
 have HB7' : Hid (Own1 W3 W7.drew 4 bb (.bool false)) := zh (HB7.out.to (by repeat first | exact xr _ | refine xa ?_ _ | refine xm ?_ _ _ | refine xd ?_ | refine xn ?_ _ | refine xs ?_ (by simp <;> omega) _))
 obtain ⟨W7d, hd⟩ : ∃ W, W7.drew = W := ⟨_, rfl⟩
 rw [hd] at HR7' HB7'
 try simp only [hd]
 clear hd
 obtain ⟨k0, k1, k2, k3, lg, p0, p1, p2, p3, lp, r0, r1, lr⟩ := HG.out.ext (HN3.out.ext.trans HR7'.out.ext)
 obtain ⟨pb, Wb, W8, hpb, hWb, hW4, z0, z1, zf, zl, hq, X4⟩ := prod_copy2 W7d (.slice C 0 e)
 have HR8 := zh (HR7'.out.to X4)
 have HB8 := zh (HB7'.out.to X4)
 have HQ := zh hq
 clear X4 hq
 go_upto_region 13 with fail
 try simp only [hpb, hWb, hW4]
 clear hpb hWb hW4 z0 z1 zf zl k0 k1 k2 k3 lg p0 p1 p2 p3 lp r0 r1 lr HR7' HB7'
 obtain ⟨k0, k1, k2, k3, lg, p0, p1, p2, p3, lp, r0, r1, lr⟩ := HG.out.ext (HN3.out.ext.trans HR8.out.ext)
 obtain ⟨q0, q1, ql⟩ := HQ.out
 go_wp2_with fail
 refine wp_loop_rounds 1 ?_
 rw [rounds_succ]
 go_upto_region 14 with fail; refine wp_region_bt (15) (pures_bt [0, 1] (softs_bt [2, 3, 4, 5, 6, 7, 8, 9, 10, 11, 12, 13, 14] .fin)) (by kernel_rfl) (by kernel_rfl) ?_; refine bt_pures _ fun K hK => ?_; simp only [pick, nthC]; (repeat go_big_quiet_step (fail)); refine wpQuiet_nil (hK _ ?_); clear hK K; refine bt_softs _ fun K hK => ?_; simp only [pick, nthC]; (repeat go_big_quiet_step (fail)); refine wpQuiet_nil (hK _ ?_); clear hK K; (refine bt_fin ?_)
 go_wp2_with fail
 try rw [rounds_succ]
 clear q0 q1 ql k0 k1 k2 k3 lg p0 p1 p2 p3 lp r0 r1 lr HQ
 have HR8' : Hid (Own1 W3 W8.drew 128 rb (.slice (some ⟨bb, 0, none⟩) 1 1)) := zh (HR8.out.to (by repeat first | exact xr _ | refine xa ?_ _ | refine xm ?_ _ _ | refine xd ?_ | refine xn ?_ _ | refine xs ?_ (by simp <;> omega) _))
 have HB8' : Hid (Own1 W3 W8.drew 4 bb (.bool false)) := zh (HB8.out.to (by repeat first | exact xr _ | refine xa ?_ _ | refine xm ?_ _ _ | refine xd ?_ | refine xn ?_ _ | refine xs ?_ (by simp <;> omega) _))
 obtain ⟨W8d, hd⟩ : ∃ W, W8.drew = W := ⟨_, rfl⟩
 rw [hd] at HR8' HB8'
 try simp only [hd]
 clear hd
 obtain ⟨k0, k1, k2, k3, lg, p0, p1, p2, p3, lp, r0, r1, lr⟩ := HG.out.ext (HN3.out.ext.trans HR8'.out.ext)
 go_wp2_with fail
 refine wp_loop_rounds 2 ?_
 rw [rounds_succ]
 go_wp2_with fail
 refine wp_loop_rounds 2 ?_
 rw [rounds_succ]
 go_wp2_with fail
 refine wp_loop_rounds 2 ?_
 rw [rounds_succ]
 have u0 := HR8'.out.cell
 have ul := HR8'.out.lt
 have v0 := HB8'.out.cell
 have vl := HB8'.out.lt
 have vf := HB8'.out.froz
 obtain ⟨W9, hW9⟩ : ∃ W9, W8d.drew.setCell ⟨bb, 0, none⟩ (.bool false) = W9 := ⟨_, rfl⟩
 have HB9 := zh ((HB8'.out.to ((by repeat first | exact xr _ | refine xa ?_ _ | refine xm ?_ _ _ | refine xd ?_ | refine xn ?_ _ | refine xs ?_ (by simp <;> omega) _) : Ext W8d W8d.drew)).setX _ hW9)
 have HR9 := zh ((HR8'.out.to ((by repeat first | exact xr _ | refine xa ?_ _ | refine xm ?_ _ _ | refine xd ?_ | refine xn ?_ _ | refine xs ?_ (by simp <;> omega) _) : Ext W8d W8d.drew)).other HB9.out.low (Ne.symm HNE.out) hW9)
 go_upto_region 28 with fail
 refine wp_region_bt (31) (pures_bt [0, 1, 2, 4, 5, 6, 7, 9] (softs_bt [3, 8, 10, 11, 12, 13, 14, 15, 16, 17, 18, 19, 20, 21, 22, 23, 24, 25, 26, 27, 28, 29, 30] (.step 31 .fin))) (by kernel_rfl) (by kernel_rfl) ?_
 refine bt_pures _ fun K hK => ?_; simp only [pick, nthC]; (repeat go_big_quiet_step (fail)); refine wpQuiet_nil (hK _ ?_); clear hK K
 refine bt_softs _ fun K hK => ?_; simp only [pick, nthC]; (repeat go_big_quiet_step (fail)); refine wpQuiet_nil (hK _ ?_); clear hK K
 refine bt_step fun next hn => ?_; simp only [pick, nthC]
 go_wp2_with fail
 refine segQ_mk (fun h => absurd rfl h) (hn _ _ ?_)
 clear hn next
 (refine bt_fin ?_)
 try simp only [hW9]
 clear hW9 k0 k1 k2 k3 lg p0 p1 p2 p3 lp r0 r1 lr u0 ul v0 vl vf
 obtain ⟨k0, k1, k2, k3, lg, p0, p1, p2, p3, lp, r0, r1, lr⟩ := HG.out.ext (HN3.out.ext.trans HR9.out.ext)
 have u0 := HR9.out.cell
 have ul := HR9.out.lt
 have v0 := HB9.out.cell
 have vl := HB9.out.lt
 go_wp2_with fail
 rw [rounds_succ]
 go_wp2_with fail
 rw [rounds_succ]
 go_wp2_with fail
 rw [rounds_succ]
 go_wp2_with fail
 refine wp_loop_rounds 2 ?_
 rw [rounds_succ]
 go_wp2_with fail
 rw [rounds_succ]
 go_wp2_with fail
 exact bodyPost_ret (v := .tuple #[.int .i64 0, .bool false]) (by simp [results, Tryz.results102, go_sem, *]) rfl ⟨rfl, HX2.out.trans (HN3.out.ext.trans HR9.out.ext)⟩
end Go.Proofs.YthpmncdfaggkiaaGreat
