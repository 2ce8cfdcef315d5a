/- The contract of tree.Move. -/
import Derived.Test.YtggmljookcmnkaaF1
import Derived.WalkSpells
import Derived.WalkLawsBesides
import Derived.BigRegion
import Derived.Deep.RegionWith
import Derived.Deep.QuietTactic
import Derived.Deep.DeepCutAuto
import Derived.Deep.RegionHeld3
import Derived.Deep.RegionLaw
import Derived.BigQuiet
import Derived.Lib.Hide
namespace Go.Proofs.Ytggmljookcmnkaa
open Go.RowKit
attribute [local go_sem] more_drew more_drewN more_size more_cell more_frozen more_setCell drew_more drewN_more lt_add_r lt_add_r2 lt_add_r3 lt_add_r4 lt_add_r5 lt_add_r6 lt_add_r7 lt_add_r8 lt_add_r9 lt_add_r10 lt_self_r lt_self_r2

def Nd.mv (d : Int) (p : Nd) : Nd := { p with lo := p.lo + d, inn := p.inn + d, hi := p.hi + d, look := p.look + d }
def Prt.mv (d : Int) (p : Prt) : Prt := { p with nd := p.nd.mv d }
/-- a part's places are numbers up to 2^41 -/
def NearN (p : Nd) : Prop := (-2199023255552 ≤ p.lo ∧ p.lo ≤ 2199023255552) ∧ (-2199023255552 ≤ p.inn ∧ p.inn ≤ 2199023255552) ∧ (-2199023255552 ≤ p.hi ∧ p.hi ≤ 2199023255552) ∧ (-2199023255552 ≤ p.look ∧ p.look ≤ 2199023255552)
def mvTo (d : Int) (qs : List Prt) (j : Nat) : List Prt := (qs.take j).map (Prt.mv d) ++ qs.drop j
theorem mvTo_length (d : Int) (qs : List Prt) (j : Nat) : (mvTo d qs j).length = qs.length := by unfold mvTo; simp; omega
theorem mvTo_get {d : Int} {qs : List Prt} {j : Nat} {q : Prt} (h : qs[j]? = some q) : (mvTo d qs j)[j]? = some q ∧ (mvTo d qs j).set j (q.mv d) = mvTo d qs (j + 1) := by
  have hj := (List.getElem?_eq_some_iff.1 h).1
  have hl : ((qs.take j).map (Prt.mv d)).length = j := by simp; omega
  unfold mvTo
  refine ⟨by rw [List.getElem?_append_right (by omega), hl, Nat.sub_self, List.getElem?_drop, Nat.add_zero]; exact h, ?_⟩
  rw [List.set_append_right _ _ (by omega), hl, Nat.sub_self, List.drop_eq_getElem_cons hj, List.set_cons_zero, List.take_succ_eq_append_getElem hj, List.map_append, List.append_assoc]
  rw [List.getElem?_eq_getElem hj] at h
  injection h with h
  rw [h]
  rfl
theorem mvTo_all (d : Int) (qs : List Prt) : nds (mvTo d qs qs.length) = (nds qs).map (Nd.mv d) := by
  unfold mvTo nds
  simp
  intro p _
  rfl
/-- may it be moved so far? -/
def MvOk (l : List Nd) (d : Int) : Prop := Tree l ∧ d ≤ 1099511627776 ∧ -1099511627776 ≤ d ∧ Tree (l.map (Nd.mv d))
def MvRet (w : World) (l : List Nd) (d : Int) (e : Ending) (w' : World) : Prop := (MvOk l d → PartsRet w (l.map (Nd.mv d)) e w') ∧ (¬ MvOk l d → e = .returned (.slice none 0 0) ∧ Ext w w')
theorem mv_lens (l : List Nd) (d : Int) : (l.map (Nd.mv d)).map (fun p => p.kids.length) = l.map (fun p => p.kids.length) := by
  rw [List.map_map]
  rfl
/-- four stores into a part -/
theorem OwnP.mv {w : World} {base c g : Nat} {qs : List Prt} (h : OwnP w base (some ⟨g, 0, none⟩) c qs) {j : Nat} {q : Prt} (hq : qs[j]? = some q) (d : Int) (hn : NearN q.nd) (h1 : d ≤ 1099511627776) (h2 : -1099511627776 ≤ d) :
    OwnP ((((w.setCell ⟨g, j * 8 + 2, none⟩ (.int .i64 (q.nd.lo + d))).setCell ⟨g, j * 8 + 3, none⟩ (.int .i64 (q.nd.inn + d))).setCell ⟨g, j * 8 + 4, none⟩ (.int .i64 (q.nd.hi + d))).setCell ⟨g, j * 8 + 5, none⟩ (.int .i64 (q.nd.look + d))) base (some ⟨g, 0, none⟩) c (qs.set j (q.mv d)) := by
  obtain ⟨n1, n2, n3, n4⟩ := hn
  have f := h.fine q (List.mem_of_getElem? hq)
  have hj := (List.getElem?_eq_some_iff.1 hq).1
  have s1 := h.put (q' := ⟨{ q.nd with lo := q.nd.lo + d }, q.kA, q.kc⟩) hq (r := 2) (by omega) rfl ⟨rfl, rfl, rfl⟩ ⟨f.sym, f.kind, by show I64 (_ + _); unfold I64; omega, f.inn, f.hi, f.look, f.met, f.ks⟩
  have g1 : (qs.set j ⟨{ q.nd with lo := q.nd.lo + d }, q.kA, q.kc⟩)[j]? = some ⟨{ q.nd with lo := q.nd.lo + d }, q.kA, q.kc⟩ := by rw [List.getElem?_set_self hj]
  have f1 := s1.fine _ (List.mem_of_getElem? g1)
  have s2 := s1.put (q' := ⟨{ q.nd with lo := q.nd.lo + d, inn := q.nd.inn + d }, q.kA, q.kc⟩) g1 (r := 3) (by omega) rfl ⟨rfl, rfl, rfl⟩ ⟨f1.sym, f1.kind, f1.lo, by show I64 (_ + _); unfold I64; omega, f1.hi, f1.look, f1.met, f1.ks⟩
  rw [List.set_set] at s2
  have g2 : (qs.set j ⟨{ q.nd with lo := q.nd.lo + d, inn := q.nd.inn + d }, q.kA, q.kc⟩)[j]? = some ⟨{ q.nd with lo := q.nd.lo + d, inn := q.nd.inn + d }, q.kA, q.kc⟩ := by rw [List.getElem?_set_self hj]
  have f2 := s2.fine _ (List.mem_of_getElem? g2)
  have s3 := s2.put (q' := ⟨{ q.nd with lo := q.nd.lo + d, inn := q.nd.inn + d, hi := q.nd.hi + d }, q.kA, q.kc⟩) g2 (r := 4) (by omega) rfl ⟨rfl, rfl, rfl⟩ ⟨f2.sym, f2.kind, f2.lo, f2.inn, by show I64 (_ + _); unfold I64; omega, f2.look, f2.met, f2.ks⟩
  rw [List.set_set] at s3
  have g3 : (qs.set j ⟨{ q.nd with lo := q.nd.lo + d, inn := q.nd.inn + d, hi := q.nd.hi + d }, q.kA, q.kc⟩)[j]? = some ⟨{ q.nd with lo := q.nd.lo + d, inn := q.nd.inn + d, hi := q.nd.hi + d }, q.kA, q.kc⟩ := by rw [List.getElem?_set_self hj]
  have f3 := s3.fine _ (List.mem_of_getElem? g3)
  have s4 := s3.put (q' := ⟨{ q.nd with lo := q.nd.lo + d, inn := q.nd.inn + d, hi := q.nd.hi + d, look := q.nd.look + d }, q.kA, q.kc⟩) g3 (r := 5) (by omega) rfl ⟨rfl, rfl, rfl⟩ ⟨f3.sym, f3.kind, f3.lo, f3.inn, f3.hi, by show I64 (_ + _); unfold I64; omega, f3.met, f3.ks⟩
  rw [List.set_set] at s4
  exact s4
set_option maxRecDepth 100000 in
set_option maxHeartbeats 2000000 in
theorem move_any (A : Option Addr) (c : Nat) (ps : List Prt) (d : Int) (w : World) (h : PS w A c ps) (hn : Tree (nds ps) → ∀ p ∈ nds ps, NearN p) (hd : I64 d) : Calls Try.prog 42 #[.slice A ps.length c, .int .i64 d] w (MvRet w (nds ps) d) := by
  unfold I64 at hd
  have hl := h.few.len
  have S := Lib.hid h
  by_cases T : Tree (nds ps)
  · have hp := T.pos
    rw [nds_length] at hp
    have HT := Lib.hid T
    have hn := hn T
    clear h T
    by_cases h1 : 1099511627776 < d
    · have q1 : decide ((1099511627776 : Int) < d) = true := decide_eq_true h1
      go_enter Try.func42, Try.ntmps42
      go_wp2_with fail
      refine (check_ok S.out HT.out).mono ?_
      rintro e w1 ⟨rfl, hx1⟩
      have HX1 := Lib.hid hx1
      clear hx1
      go_wp2_with fail
      go_ret
      exact ⟨fun ⟨_, h, _⟩ => by omega, fun _ => ⟨rfl, HX1.out⟩⟩
    · have q1 : decide ((1099511627776 : Int) < d) = false := decide_eq_false h1
      by_cases h2 : d < -1099511627776
      · have q2 : decide (d < -1099511627776) = true := decide_eq_true h2
        go_enter Try.func42, Try.ntmps42
        go_wp2_with fail
        refine (check_ok S.out HT.out).mono ?_
        rintro e w1 ⟨rfl, hx1⟩
        have HX1 := Lib.hid hx1
        clear hx1
        go_wp2_with fail
        go_ret
        exact ⟨fun ⟨_, _, h, _⟩ => by omega, fun _ => ⟨rfl, HX1.out⟩⟩
      · have q2 : decide (d < -1099511627776) = false := decide_eq_false h2
        have HNR := Lib.hid hn
        have HD1 : Hid (d ≤ 1099511627776) := Lib.hid (by omega)
        have HD2 : Hid (-1099511627776 ≤ d) := Lib.hid (by omega)
        clear hn h1 h2
        go_enter Try.func42, Try.ntmps42
        go_wp2_with fail
        refine (check_ok S.out HT.out).mono ?_
        rintro e w1 ⟨rfl, hx1⟩
        have HX1 := Lib.hid hx1
        clear hx1
        go_wp2_with fail
        refine (copy_any A c ps w1 (S.out.ext HX1.out).parts (S.out.ext HX1.out).oks S.out.few).mono ?_
        rintro e w2 ⟨A2, c2, qs, rfl, hn, ho, hx⟩
        have hql : qs.length = ps.length := by rw [← nds_length, hn, nds_length]
        obtain ⟨g, rfl, hg1, hg2⟩ := row_block ho.row (by omega)
        have hbase := Nat.le_trans HX1.out.size hg1
        have HN := Lib.hid hn
        have HO : Hid (OwnP w2 w.heap.size (some ⟨g, 0, none⟩) c2 (mvTo d qs 0)) := Lib.hid (by unfold mvTo; simpa using ho.base HX1.out.size)
        have HX2 := Lib.hid (HX1.out.trans hx)
        have HQL := Lib.hid hql
        have hcp := ho.cells.2.1
        clear hn ho hx hg1 hg2
        rw [hql] at hcp ⊢
        clear hql
        go_wp2_with fail
        go_loopw [23] (fun i wr => ∃ j : Nat, j ≤ ps.length ∧ i = .int .i64 j ∧ Hid (OwnP wr w.heap.size (some ⟨g, 0, none⟩) c2 (mvTo d qs j)) ∧ Hid (Ext w wr)) (fun i _ => ps.length - (intOf i).toNat)
        case atStart => exact ⟨0, Nat.zero_le _, rfl, HO, HX2⟩
        case round =>
          obtain ⟨j, hj, rfl, ho, hx⟩ := hrel
          by_cases hlt : j < ps.length
          · obtain ⟨q, hq⟩ : ∃ q, qs[j]? = some q := ⟨_, List.getElem?_eq_getElem (by rw [HQL.out]; exact hlt)⟩
            have hget := mvTo_get (d := d) hq
            have hat := ho.out.at hget.1
            have hnr : NearN q.nd := HNR.out _ (by rw [← HN.out]; exact List.mem_of_getElem? (nds_get hq))
            have d2 := hat.lo
            have d3 := hat.inn
            have d4 := hat.hi
            have d5 := hat.look
            have f2 := hat.frozen (j * 8 + 2)
            have f3 := hat.frozen (j * 8 + 3)
            have f4 := hat.frozen (j * 8 + 4)
            have f5 := hat.frozen (j * 8 + 5)
            have l7 := hat.lt
            have HG := Lib.hid hget
            have HOM := Lib.hid (ho.out.mv hget.1 d hnr HD1.out HD2.out)
            rw [hget.2] at HOM
            obtain ⟨n1, n2, n3, n4⟩ := hnr
            have v1 := HD1.out
            have v2 := HD2.out
            have w2 : wrap64 (q.nd.lo + d) = q.nd.lo + d := IntWalk.wrap64_in _ (by omega)
            have w3 : wrap64 (q.nd.inn + d) = q.nd.inn + d := IntWalk.wrap64_in _ (by omega)
            have w4 : wrap64 (q.nd.hi + d) = q.nd.hi + d := IntWalk.wrap64_in _ (by omega)
            have w5 : wrap64 (q.nd.look + d) = q.nd.look + d := IntWalk.wrap64_in _ (by omega)
            have x2 : IntKind.i64.wrap (q.nd.lo + d) = q.nd.lo + d := IntWalk.i64_in _ (by omega)
            have x3 : IntKind.i64.wrap (q.nd.inn + d) = q.nd.inn + d := IntWalk.i64_in _ (by omega)
            have x4 : IntKind.i64.wrap (q.nd.hi + d) = q.nd.hi + d := IntWalk.i64_in _ (by omega)
            have x5 : IntKind.i64.wrap (q.nd.look + d) = q.nd.look + d := IntWalk.i64_in _ (by omega)
            clear hget hat hq n1 n2 n3 n4 v1 v2
            go_wp2_with fail
            go_region
            go_wp2_with fail
            go_roundw
            case rel => exact ⟨j + 1, by omega, by go_num, Lib.hid (HOM.out.ext (by repeat (first | exact Ext.refl _ | refine Ext.alloc ?_ _ | refine Ext.more ?_ _ _ | refine Ext.drew ?_ | refine Ext.drewN ?_ _ | refine Ext.setCell ?_ (by simp <;> omega) _))), Lib.hid (((((hx.out.setCell hbase _).setCell hbase _).setCell hbase _).setCell hbase _).trans (by repeat (first | exact Ext.refl _ | refine Ext.alloc ?_ _ | refine Ext.more ?_ _ _ | refine Ext.drew ?_ | refine Ext.drewN ?_ _ | refine Ext.setCell ?_ (by simp <;> omega) _)))⟩
            case measure => simp [intOf]; omega
          · obtain rfl : j = ps.length := by omega
            have hnd : nds (mvTo d qs ps.length) = (nds ps).map (Nd.mv d) := by rw [← HQL.out, mvTo_all, HN.out]
            have PSX := Lib.hid (ho.out.ps (S.out.few.of_lens (by rw [hnd, mv_lens])))
            have hml : (mvTo d qs ps.length).length = ps.length := by rw [mvTo_length, HQL.out]
            have HML := Lib.hid hml
            have HND := Lib.hid hnd
            by_cases T2 : Tree ((nds ps).map (Nd.mv d))
            · have C := Lib.hid (check_ok PSX.out (by rw [hnd]; exact T2))
              rw [hml] at C
              have HT2 := Lib.hid T2
              clear hnd hml T2
              go_wp2_with fail
              refine C.out.mono ?_
              rintro e w3 ⟨rfl, hx3⟩
              have HX3 := Lib.hid hx3
              clear hx3
              go_wp2_with fail
              go_ret
              exact ⟨fun _ => ⟨some ⟨g, 0, none⟩, c2, mvTo d qs ps.length, by rw [HML.out]; rfl, HND.out, ho.out.ext HX3.out, hx.out.trans HX3.out⟩, fun h => absurd ⟨HT.out, HD1.out, HD2.out, HT2.out⟩ h⟩
            · have C := Lib.hid (check_no PSX.out (by rw [hnd]; exact T2))
              rw [hml] at C
              have HT2 := Lib.hid T2
              clear hnd hml T2
              go_wp2_with fail
              refine C.out.mono ?_
              rintro e w3 ⟨rfl, hx3⟩
              have HX3 := Lib.hid hx3
              clear hx3
              go_wp2_with fail
              go_ret
              exact ⟨fun h => absurd h.2.2.2 HT2.out, fun _ => ⟨rfl, hx.out.trans HX3.out⟩⟩
  · have HT := Lib.hid T
    clear h T hn
    go_enter Try.func42, Try.ntmps42
    go_wp2_with fail
    refine (check_no S.out HT.out).mono ?_
    rintro e w1 ⟨rfl, hx1⟩
    have HX1 := Lib.hid hx1
    clear hx1
    go_wp2_with fail
    go_ret
    exact ⟨fun h => absurd h.1 HT.out, fun _ => ⟨rfl, HX1.out⟩⟩
end Go.Proofs.Ytggmljookcmnkaa
