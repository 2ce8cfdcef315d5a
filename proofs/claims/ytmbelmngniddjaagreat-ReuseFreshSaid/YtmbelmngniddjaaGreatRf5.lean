/- Rf: texts that the proof rests on, part 5. -/
import Derived.Test.YtmbelmngniddjaaGreatRf4
import Derived.Deep.LoopGhost
import Derived.WalkMore
namespace Go.Proofs.YtmbelmngniddjaaGreat
open Go.RowKit
attribute [local go_sem] zF zB zI zJ zw zt zN zD zX zQ zK zP zO zL zT zR zS zG zM zC
structure Prd where
 left:Int
 rA:Option Addr
 rc:Nat
 right:List Int
structure Jg (w:World)(p:Prd):Prop where
 right:xW w p.rA p.right
 cap:p.right.length≤p.rc
 top:p.rc≤9223372036854775807
theorem Jg.ext {w w':World}{p:Prd}(h:Jg w p)(e:Ext w w'):Jg w' p:=⟨h.right.ext e,h.cap,h.top⟩
def zji (w:World)(A:Option Addr)(ps:List Prd):Prop:=
 0 < ps.length→∃b off,A=some ⟨b,off,none⟩∧b < w.heap.size∧∀k p,ps[k]?=some p→
  w.cell? ⟨b,off+k*2,none⟩=some (.int .i64 p.left)∧w.cell? ⟨b,off+k*2+1,none⟩=some (.slice p.rA p.right.length p.rc)
theorem zji.ext {w w':World}{A:Option Addr}{ps:List Prd}(h:zji w A ps)(e:Ext w w'):zji w' A ps:=fun h0=>by
 obtain⟨b,off,hA,hb,hc⟩:=h h0
 have hb':=e.below
 refine⟨b,off,hA,Nat.lt_of_lt_of_le hb e.size,fun k d hk=>?_⟩
 obtain⟨c0,c1⟩:=hc k d hk
 exact⟨(World.cell?_of_block (hb'.block b hb)).trans c0,(World.cell?_of_block (hb'.block b hb)).trans c1⟩
structure Gr where
 terms:Int
 nons:Int
 k:Int
 pA:Option Addr
 pc:Nat
 prods:List Prd
def grV (g:Gr):Value:=.agg #[.int .i64 g.terms,.int .i64 g.nons,.int .i64 g.k,.slice g.pA g.prods.length g.pc]
structure jC (w:World)(g:Gr):Prop where
 prods:zji w g.pA g.prods
 oks:∀p∈g.prods,Jg w p
 cap:g.prods.length≤g.pc
 top:g.pc≤9223372036854775807
theorem jC.ext {w w':World}{g:Gr}(h:jC w g)(e:Ext w w'):jC w' g:=⟨h.prods.ext e,fun p hp=>(h.oks p hp).ext e,h.cap,h.top⟩
def zfC (g:Gr)(s:Int):Bool:=decide (s < 0)||decide (g.terms+g.nons≤s)
def zcI (g:Gr)(p:Prd):Bool:=decide (p.left < 0)||decide (g.nons≤p.left)||p.right.any (zfC g)
def Qj (p:Prd):Bool:=decide (8 < p.right.length)
def QT (g:Gr):Prop:=8 < g.terms∨16 < g.nons∨3 < g.k∨64 < g.prods.length
def QX (g:Gr):Prop:=g.terms < 1∨g.nons < 1∨g.k < 1∨g.prods.length < 1
instance grBigDec (g:Gr):Decidable (QT g):=by unfold QT;infer_instance
instance grFewDec (g:Gr):Decidable (QX g):=by unfold QX;infer_instance
def yY (g:Gr):Int:=if QT g then 3 else if g.prods.any Qj then 3 else if QX g then 2 else if g.prods.any (zcI g)then 2 else 0
theorem Y6 {α:Type}{l:List α}{k:Nat}{s:α}(f:α→Bool)(h:l[k]?=some s):(l.take (k+1)).any f=((l.take k).any f||f s):=by
 rw[List.take_add_one,h,List.any_append]
 simp
theorem Zr {α:Type}{l:List α}{k:Nat}{s:α}{f:α→Bool}(h:l[k]?=some s)(hf:f s=true):l.any f=true:=by
 rw[List.any_eq_true]
 exact⟨s,List.mem_of_getElem? h,hf⟩
structure Y8 (w:World)(b:Nat)(g:Gr):Prop where
 c0:w.cell? ⟨b,0,none⟩=some (.int .i64 g.terms)
 c1:w.cell? ⟨b,1,none⟩=some (.int .i64 g.nons)
 c2:w.cell? ⟨b,2,none⟩=some (.int .i64 g.k)
 c3:w.cell? ⟨b,3,none⟩=some (.slice g.pA g.prods.length g.pc)
 lt:b < w.heap.size
theorem Y8.of {w:World}{b:Nat}{g:Gr}(h:w.heap[b]?=some (.cells #[.int .i64 g.terms,.int .i64 g.nons,.int .i64 g.k,.slice g.pA g.prods.length g.pc] 25)):Y8 w b g:=by
 have c0:=cr 0 h; have c1:=cr 1 h; have c2:=cr 2 h; have c3:=cr 3 h; simp at c0 c1 c2 c3
 exact⟨c0,c1,c2,c3,za h⟩
theorem Y8.ext {w w':World}{b:Nat}{g:Gr}(h:Y8 w b g)(e:Ext w w'):Y8 w' b g:=by
 have hb:=e.below.block b h.lt
 exact⟨(World.cell?_of_block hb).trans h.c0,(World.cell?_of_block hb).trans h.c1,(World.cell?_of_block hb).trans h.c2,(World.cell?_of_block hb).trans h.c3,Nat.lt_of_lt_of_le h.lt e.size⟩
set_option maxRecDepth 100000 in
set_option maxHeartbeats 4000000 in
theorem xL (g:Gr)(w:World)(h:jC w g):Calls Tryz.prog 50 #[grV g] w fun e w'=>e=.returned (.int .i64 (yY g))∧Ext w w':=by
 have H:=zh h; have HG:Hid (yY g=if QT g then 3 else if g.prods.any Qj then 3 else if QX g then 2 else if g.prods.any (zcI g)then 2 else 0):=zh rfl
 unfold grV; clear h; by_cases c1:8 < g.terms
 ·have q1:decide (8 < g.terms)=true:=decide_eq_true c1; have HR:Hid (yY g=3):=zh (by rw[HG.out,if_pos (.inl c1)]); go_in
  go_wp2_with fail; go_ret
  exact⟨yt HR.out.symm,xi⟩
 have q1:decide (8 < g.terms)=false:=decide_eq_false c1; by_cases c2:16 < g.nons
 ·have q2:decide (16 < g.nons)=true:=decide_eq_true c2; have HR:Hid (yY g=3):=zh (by rw[HG.out,if_pos (.inr (.inl c2))]); go_in
  go_wp2_with fail; go_ret
  exact⟨yt HR.out.symm,xi⟩
 have q2:decide (16 < g.nons)=false:=decide_eq_false c2; by_cases c3:3 < g.k
 ·have q3:decide (3 < g.k)=true:=decide_eq_true c3; have HR:Hid (yY g=3):=zh (by rw[HG.out,if_pos (.inr (.inr (.inl c3)))]); go_in
  go_wp2_with fail; go_ret
  exact⟨yt HR.out.symm,xi⟩
 have q3:decide (3 < g.k)=false:=decide_eq_false c3; by_cases c4:64 < g.prods.length
 ·have q4:decide ((64:Int) < (g.prods.length:Int))=true:=decide_eq_true (by omega); have HR:Hid (yY g=3):=zh (by rw[HG.out,if_pos (.inr (.inr (.inr c4)))]); go_in
  go_wp2_with fail; go_ret
  exact⟨yt HR.out.symm,xi⟩
 have q4:decide ((64:Int) < (g.prods.length:Int))=false:=decide_eq_false (by omega); have HB:Hid (¬QT g):=zh (by unfold QT;omega); have T1:Hid (g.terms≤8):=zh (by omega); have N1:Hid (g.nons≤16):=zh (by omega); clear c1 c2 c3
 obtain⟨b1,hb1⟩:∃b1,w.heap.size=b1:=⟨_,rfl⟩
 obtain⟨W1,hW1⟩:∃W1,w.alloc (.cells #[.int .i64 g.terms,.int .i64 g.nons,.int .i64 g.k,.slice g.pA g.prods.length g.pc] 25)=W1:=⟨_,rfl⟩
 have X1:Hid (Ext w W1):=zh (by rw[←hW1];exact xi); have GA:Hid (Y8 W1 b1 g):=zh (Y8.of (by rw[←hW1,←hb1];exact heap_alloc_new _ _)); go_in
 go_upto_region 1 with fail
 skip
 clear hW1 hb1
 obtain⟨e0,e1,e2,e3,el⟩:=GA.out
 go_wp2_with fail; clear e0 e1 e2 e3 el; go_loopw [3] (fun s wr=>∃i:Nat,i≤g.prods.length∧s=.int .i64 i∧Hid ((g.prods.take i).any Qj=false)∧Hid (Ext W1 wr)) (fun s _=>g.prods.length - (intOf s).toNat)
 case atStart=>exact⟨0,by omega,rfl,zh rfl,zh xi⟩
 case round=>
  obtain⟨i,hi,rfl,hno,hx⟩:=hrel
  obtain⟨e0,e1,e2,e3,el⟩:=GA.out.ext hx.out
  by_cases hlt:i < g.prods.length
  ·obtain⟨p,hp⟩:∃p,g.prods[i]?=some p:=⟨_,List.getElem?_eq_getElem hlt⟩
   obtain⟨b,off,hA,hb,hcell⟩:=(H.out.ext (X1.out.trans hx.out)).prods (by omega)
   obtain⟨d0,d1⟩:=hcell i p hp
   rw[hA]at e3
   have HP:=zh hp; clear hcell hp; by_cases hlp:8 < p.right.length
   ·have q5:decide ((8:Int) < (p.right.length:Int))=true:=decide_eq_true (by omega); have HR:Hid (yY g=3):=zh (by rw[HG.out,if_neg HB.out,if_pos (Zr HP.out (by unfold Qj;exact decide_eq_true hlp))]); go_wp2_with fail; go_ret
    exact⟨yt HR.out.symm,(X1.out.trans hx.out).trans xi⟩
   ·have q5:decide ((8:Int) < (p.right.length:Int))=false:=decide_eq_false (by omega); have HNX:Hid ((g.prods.take (i+1)).any Qj=false):=zh (by rw[Y6 Qj HP.out,hno.out];unfold Qj;rw[Bool.false_or];exact decide_eq_false hlp); go_wp2_with fail; go_roundw
    case rel=>exact⟨i+1,by omega,by go_num,HNX,zh (hx.out.trans xi)⟩
    case measure=>simp[intOf];omega
  ·obtain rfl:i=g.prods.length:=by omega
   have HLN:Hid (g.prods.any Qj=false):=zh (by have:=hno.out;rw[List.take_length]at this;exact this); have HX:=zh hx.out; clear hno hx; by_cases f1:g.terms < 1
   ·have q5:decide (g.terms < 1)=true:=decide_eq_true f1; have HR:Hid (yY g=2):=zh (by rw[HG.out,if_neg HB.out,HLN.out,if_neg (by simp),if_pos (.inl f1)]); go_wp2_with fail; go_ret
    exact⟨yt HR.out.symm,(X1.out.trans HX.out).trans xi⟩
   have q5:decide (g.terms < 1)=false:=decide_eq_false f1; by_cases f2:g.nons < 1
   ·have q6:decide (g.nons < 1)=true:=decide_eq_true f2; have HR:Hid (yY g=2):=zh (by rw[HG.out,if_neg HB.out,HLN.out,if_neg (by simp),if_pos (.inr (.inl f2))]); go_wp2_with fail; go_ret
    exact⟨yt HR.out.symm,(X1.out.trans HX.out).trans xi⟩
   have q6:decide (g.nons < 1)=false:=decide_eq_false f2; by_cases f3:g.k < 1
   ·have q7:decide (g.k < 1)=true:=decide_eq_true f3; have HR:Hid (yY g=2):=zh (by rw[HG.out,if_neg HB.out,HLN.out,if_neg (by simp),if_pos (.inr (.inr (.inl f3)))]); go_wp2_with fail; go_ret
    exact⟨yt HR.out.symm,(X1.out.trans HX.out).trans xi⟩
   have q7:decide (g.k < 1)=false:=decide_eq_false f3; by_cases f4:g.prods.length < 1
   ·have q8:decide ((g.prods.length:Int) < 1)=true:=decide_eq_true (by omega); have HR:Hid (yY g=2):=zh (by rw[HG.out,if_neg HB.out,HLN.out,if_neg (by simp),if_pos (.inr (.inr (.inr f4)))]); go_wp2_with fail; go_ret
    exact⟨yt HR.out.symm,(X1.out.trans HX.out).trans xi⟩
   have q8:decide ((g.prods.length:Int) < 1)=false:=decide_eq_false (by omega); have HFW:Hid (¬QX g):=zh (by unfold QX;omega); have HT:Hid (1≤g.terms∧g.terms≤8):=zh ⟨by omega,T1.out⟩; have HN:Hid (1≤g.nons∧g.nons≤16):=zh ⟨by omega,N1.out⟩; clear f1 f2 f3 f4; go_wp2_with fail; clear e0 e1 e2 e3 el q5 q6 q7 q8; go_loopw [4] (fun s wi=>∃i:Nat,i≤g.prods.length∧s=.int .i64 i∧Hid ((g.prods.take i).any (zcI g)=false)∧Hid (Ext W1 wi)) (fun s _=>g.prods.length - (intOf s).toNat)
   case atStart=>exact⟨0,by omega,rfl,zh rfl,zh (HX.out.trans xi)⟩
   case round=>
    clear HX
    obtain⟨i,hi,rfl,hno,hx⟩:=hrel
    have HX:=zh hx.out
    obtain⟨e0,e1,e2,e3,el⟩:=GA.out.ext hx.out
    by_cases hlt:i < g.prods.length
    ·obtain⟨p,hp⟩:∃p,g.prods[i]?=some p:=⟨_,List.getElem?_eq_getElem hlt⟩
     obtain⟨b,off,hA,hb,hcell⟩:=(H.out.ext (X1.out.trans hx.out)).prods (by omega)
     obtain⟨d0,d1⟩:=hcell i p hp
     rw[hA]at e3
     have HP:=zh hp; have HPO:=zh ((H.out.ext (X1.out.trans hx.out)).oks p (List.mem_of_getElem? hp)); clear hcell hp hx; by_cases l1:p.left < 0
     ·have q5:decide (p.left < 0)=true:=decide_eq_true l1; have HR:Hid (yY g=2):=zh (by rw[HG.out,if_neg HB.out,HLN.out,if_neg (by simp),if_neg HFW.out,if_pos (Zr HP.out (by unfold zcI;rw[q5];rfl))]); go_wp2_with fail; go_ret
      exact⟨yt HR.out.symm,(X1.out.trans HX.out).trans xi⟩
     have q5:decide (p.left < 0)=false:=decide_eq_false l1; by_cases l2:g.nons≤p.left
     ·have q6:decide (g.nons≤p.left)=true:=decide_eq_true l2; have HR:Hid (yY g=2):=zh (by rw[HG.out,if_neg HB.out,HLN.out,if_neg (by simp),if_neg HFW.out,if_pos (Zr HP.out (by unfold zcI;rw[q5,q6];rfl))]); go_wp2_with fail; go_ret
      exact⟨yt HR.out.symm,(X1.out.trans HX.out).trans xi⟩
     have q6:decide (g.nons≤p.left)=false:=decide_eq_false l2; clear l1 l2; have HBP:Hid (zcI g p=p.right.any (zfC g)):=zh (by unfold zcI;rw[q5,q6];rfl); go_wp2_with fail
     obtain⟨bp,hbp⟩:∃bp,wr.heap.size=bp:=⟨_,rfl⟩
     obtain⟨W5,hW5⟩:∃W5,wr.alloc (.cells #[.int .i64 p.left,.slice p.rA p.right.length p.rc] 70)=W5:=⟨_,rfl⟩
     have X5:Hid (Ext wr W5):=zh (by rw[←hW5];exact xi); have B5:Hid (W5.heap[bp]?=some (.cells #[.int .i64 p.left,.slice p.rA p.right.length p.rc] 70)):=zh (by rw[←hW5,←hbp];exact heap_alloc_new _ _)
     rw[hW5,hbp]
     have HX5:=zh (HX.out.trans X5.out); clear hW5 hbp e0 e1 e2 e3 el d0 d1 hb q5 q6; go_loopw [6] (fun s wi=>∃k:Nat,k≤p.right.length∧s=.int .i64 k∧Hid ((p.right.take k).any (zfC g)=false)∧Hid (Ext W5 wi)) (fun s _=>p.right.length - (intOf s).toNat)
     case atStart=>exact⟨0,by omega,rfl,zh rfl,zh xi⟩
     case round=>
      obtain⟨k,hk,rfl,hnk,hx⟩:=hrel
      have HX6:=zh hx.out; have hb5:=jI B5.out hx.out; have f1:=cr 1 hb5; simp at f1
      have fl:=za hb5
      obtain⟨e0,e1,e2,e3,el⟩:=GA.out.ext (HX5.out.trans hx.out)
      by_cases hlk:k < p.right.length
      ·obtain⟨s,hs⟩:∃s,p.right[k]?=some s:=⟨_,List.getElem?_eq_getElem hlk⟩
       have hI:=HPO.out.right.ext (X5.out.trans hx.out)
       obtain⟨br,ofr,hrA,hbr,hcr⟩:=hI (by omega)
       have d:=hcr k hlk
       rw[List.getD_eq_getElem?_getD,hs]at d
       rw[hrA]at f1
       change wr.cell? ⟨br,ofr+k,none⟩=some (.int .i64 s)at d; have HS:=zh hs; have HTN:=HT.out; have HNN:=HN.out; have wS:IntKind.i64.wrap (g.terms+g.nons)=g.terms+g.nons:=IntWalk.i64_in _ (by omega); have c1:=HPO.out.cap; have c2:=HPO.out.top; clear hb5 hI hcr hs hx HTN HNN; by_cases l1:s < 0
       ·have q7:decide (s < 0)=true:=decide_eq_true l1; have HR:Hid (yY g=2):=zh (by rw[HG.out,if_neg HB.out,HLN.out,if_neg (by simp),if_neg HFW.out,if_pos (Zr HP.out (by rw[HBP.out];exact Zr HS.out (by unfold zfC;rw[q7];rfl)))]); go_upto_region 19 with fail; refine yj (19) (zj [0,1,2,3,4,5,6,7,8,9,10,11,12,13,14,15,16,17,18] .fin) (by kernel_rfl) (by kernel_rfl) ?_; refine bts ?_; (refine xw ?_)
        go_wp2_with fail; go_ret
        exact⟨yt HR.out.symm,((X1.out.trans HX5.out).trans HX6.out).trans xi⟩
       have q7:decide (s < 0)=false:=decide_eq_false l1; by_cases l2:g.terms+g.nons≤s
       ·have q8:decide (g.terms+g.nons≤s)=true:=decide_eq_true l2; have HR:Hid (yY g=2):=zh (by rw[HG.out,if_neg HB.out,HLN.out,if_neg (by simp),if_neg HFW.out,if_pos (Zr HP.out (by rw[HBP.out];exact Zr HS.out (by unfold zfC;rw[q7,q8];rfl)))]); go_upto_region 19 with fail; refine yj (19) (zj [0,1,2,3,4,5,6,7,8,9,10,11,12,13,14,15,16,17,18] .fin) (by kernel_rfl) (by kernel_rfl) ?_; refine bts ?_; (refine xw ?_)
        go_wp2_with fail; go_ret
        exact⟨yt HR.out.symm,((X1.out.trans HX5.out).trans HX6.out).trans xi⟩
       have q8:decide (g.terms+g.nons≤s)=false:=decide_eq_false l2; have HNX:Hid ((p.right.take (k+1)).any (zfC g)=false):=zh (by rw[Y6 (zfC g) HS.out,hnk.out];unfold zfC;rw[q7,q8];rfl); clear l1 l2; go_upto_region 19 with fail; refine yj (19) (zj [0,1,2,3,4,5,6,7,8,9,10,11,12,13,14,15,16,17,18] .fin) (by kernel_rfl) (by kernel_rfl) ?_; refine bts ?_; (refine xw ?_)
       go_wp2_with fail; go_roundw
       case rel=>exact⟨k+1,by omega,by go_num,HNX,zh (HX6.out.trans xi)⟩
       case measure=>simp[intOf];omega
      ·obtain rfl:k=p.right.length:=by omega
       have HNX:Hid ((g.prods.take (i+1)).any (zcI g)=false):=zh (by have h1:=hnk.out;rw[List.take_length]at h1;rw[Y6 (zcI g) HP.out,hno.out,HBP.out,h1];rfl); clear hx hb5; go_wp2_with fail; go_roundw
       case rel=>exact⟨i+1,by omega,by go_num,HNX,zh ((HX5.out.trans HX6.out).trans xi)⟩
       case measure=>simp[intOf];omega
    ·obtain rfl:i=g.prods.length:=by omega
     have HR:Hid (yY g=0):=zh (by have h1:=hno.out;rw[List.take_length]at h1;rw[HG.out,if_neg HB.out,HLN.out,if_neg (by simp),if_neg HFW.out,h1,if_neg (by simp)]); go_wp2_with fail; go_ret
     exact⟨yt HR.out.symm,(X1.out.trans HX.out).trans xi⟩
def Gr.gm (g:Gr):Gm:=⟨g.terms,g.nons,g.k,g.prods.map fun p=>⟨p.left,p.right⟩⟩
theorem YJ {g:Gr}(h:yY g=0):VE g.gm:=by
 unfold yY at h; split at h
 ·omega
 rename_i h1; split at h
 ·omega
 rename_i h2; split at h
 ·omega
 rename_i h3; split at h
 ·omega
 rename_i h4; unfold QT at h1; unfold QX at h3; simp only[Bool.not_eq_true,List.any_eq_false]at h2 h4
 have hl:∀p∈g.prods,p.right.length≤8:=fun p hp=>by
  have h5:=h2 p hp; unfold Qj at h5
  rw[decide_eq_false_iff_not]at h5
  omega
 have hb:∀p∈g.prods,(0≤p.left∧p.left < g.nons)∧∀s∈p.right,0≤s∧s < g.terms+g.nons:=fun p hp=>by
  have h5:¬zcI g p=true:=by rw[h4 p hp];simp
  unfold zcI at h5
  rw[Bool.or_eq_true,Bool.or_eq_true,decide_eq_true_iff,decide_eq_true_iff,List.any_eq_true]at h5
  refine⟨by omega,fun s hs=>?_⟩
  have h6:¬zfC g s=true:=fun hh=>h5 (.inr ⟨s,hs,hh⟩); unfold zfC at h6
  rw[Bool.or_eq_true,decide_eq_true_iff,decide_eq_true_iff]at h6
  omega
 refine⟨⟨?_,?_⟩,⟨?_,?_⟩,⟨?_,?_⟩,⟨?_,?_⟩,fun p hp=>?_,fun p hp=>?_,fun p hp=>?_⟩
 any_goals(show _≤_;simp only[Gr.gm,List.length_map];omega)
 all_goals
  simp only[Gr.gm,List.mem_map]at hp
  obtain⟨q,hq,rfl⟩:=hp
 ·exact hl q hq
 ·exact(hb q hq).1
 ·exact(hb q hq).2
theorem vO {g:Gr}{i:Nat}{p:Prd}(h:g.prods[i]?=some p):g.gm.prods[i]?=some ⟨p.left,p.right⟩:=by
 show(g.prods.map _)[i]?=_
 rw[List.getElem?_map,h]
 rfl
theorem zjR {g:Gr}{i:Nat}{p:Prd}(h:g.prods[i]?=some p):(⟨p.left,p.right⟩:Pd)∈g.gm.prods:=List.mem_of_getElem? (vO h)
structure zkd (g:Gr)(p:Prd):Prop where
 len:p.right.length≤8
 left:0≤p.left∧p.left < g.nons
 sym:∀s∈p.right,0≤s∧s < g.terms+g.nons
theorem je {g:Gr}(h0:yY g=0){i:Nat}{p:Prd}(h:g.prods[i]?=some p):zkd g p:=by
 have hO:=YJ h0; have hm:=zjR h
 exact⟨hO.right _ hm,hO.left _ hm,hO.sym _ hm⟩
theorem yk {g:Gr}(h0:yY g=0):(1≤g.terms∧g.terms≤8)∧(1≤g.nons∧g.nons≤16)∧(1≤g.k∧g.k≤3)∧1≤g.prods.length∧g.prods.length≤64:=by
 have hO:=YJ h0; have h4:=hO.prods; simp only[Gr.gm,List.length_map]at h4
 exact⟨hO.terms,hO.nons,hO.k,h4⟩
theorem jC.prd {w:World}{g:Gr}(h:jC w g){i:Nat}{p:Prd}(hp:g.prods[i]?=some p):∃b off,g.pA=some ⟨b,off,none⟩∧b < w.heap.size∧w.cell? ⟨b,off+i*2,none⟩=some (.int .i64 p.left)∧w.cell? ⟨b,off+i*2+1,none⟩=some (.slice p.rA p.right.length p.rc)∧Jg w p:=by
 have hl:=(List.getElem?_eq_some_iff.1 hp).1
 obtain⟨b,off,hA,hb,hc⟩:=h.prods (by omega)
 exact⟨b,off,hA,hb,(hc i p hp).1,(hc i p hp).2,h.oks p (List.mem_of_getElem? hp)⟩
theorem Jg.sym {w:World}{p:Prd}(h:Jg w p){k:Nat}{s:Int}(hs:p.right[k]?=some s):∃b off,p.rA=some ⟨b,off,none⟩∧b < w.heap.size∧w.cell? ⟨b,off+k,none⟩=some (.int .i64 s):=by
 have hl:=(List.getElem?_eq_some_iff.1 hs).1
 obtain⟨b,off,hA,hb,hc⟩:=h.right (by omega)
 have:=hc k hl
 rw[List.getD_eq_getElem?_getD,hs]at this
 exact⟨b,off,hA,hb,this⟩
theorem xM (g:Gr)(w:World)(h:jC w g):∃b1 W1,w.heap.size=b1∧w.alloc (.cells #[.int .i64 g.terms,.int .i64 g.nons,.int .i64 g.k,.slice g.pA g.prods.length g.pc] 25)=W1∧Ext w W1∧Y8 W1 b1 g∧jC W1 g:=
 ⟨_,_,rfl,rfl,xi,Y8.of (heap_alloc_new _ _),h.ext xi⟩
theorem Y5 {w:World}{base base':Nat}{e:TypeId}{size:Nat}{v:Value}{n:Nat}{xs:List Value}(h:w.ownsRow base e size v n xs)(hb:base'≤base):w.ownsRow base' e size v n xs:=
 ⟨h.1,h.2.imp id fun⟨g,cap,cur,h1,h2,h3⟩=>⟨g,cap,cur,h1,Nat.le_trans hb h2,h3⟩⟩
theorem Zk (p:Prd)(w:World):∃bp W5,w.heap.size=bp∧w.alloc (.cells #[.int .i64 p.left,.slice p.rA p.right.length p.rc] 70)=W5∧Ext w W5∧∀w',Ext W5 w'→w'.cell? ⟨bp,0,none⟩=some (.int .i64 p.left)∧w'.cell? ⟨bp,1,none⟩=some (.slice p.rA p.right.length p.rc)∧bp < w'.heap.size:=by
 refine⟨_,_,rfl,rfl,xi,fun w' e=>?_⟩
 have hb:=jI (heap_alloc_new w (.cells #[.int .i64 p.left,.slice p.rA p.right.length p.rc] 70)) e; have f0:=cr 0 hb; have f1:=cr 1 hb; simp at f0 f1
 exact⟨f0,f1,za hb⟩
inductive ExB (P:Bool→Prop):Prop
 |mk (b:Bool) (h:P b):ExB P
def bsT (bs:List Bool)(A:Int):Prop:=bs.getD A.toNat false=true
def QC (g:Gm)(t:Bool)(bs:List Bool):Prop:=∀A:Nat,bs.getD A false=true→Zs g t (A:Int)
def Zj (g:Gm)(t:Bool)(bs:List Bool)(i:Nat):Prop:=∀(j:Nat) (p:Pd),j < i→g.prods[j]?=some p→(∀s∈p.right,ZH g t (bsT bs) s)→bsT bs p.left
def zge (w:World)(n:Nat)(P:List Bool→Prop)(e:Ending)(w':World):Prop:=∃ob bs,e=.returned (.slice (some ⟨ob,0,none⟩) n n)∧yQ w' w.heap.size ob n bs∧P bs∧Ext w w'
def zff (g:Gm)(t:Bool)(bs:List Bool):Prop:=∀A:Nat,bs.getD A false=true↔Zs g t (A:Int)
theorem zjL {g:Gm}{t:Bool}{bs:List Bool}{n:Nat}(h1:QC g t bs)(h2:Zj g t bs n)(hn:n=g.prods.length):zff g t bs:=fun A=>⟨h1 A,fun h=>by
 have:=Zs.least (X:=bsT bs) (fun p hp hs=>by
  obtain⟨j,hj⟩:=List.mem_iff_getElem?.1 hp
  exact h2 j p (by rw[hn];exact(List.getElem?_eq_some_iff.1 hj).1) hj hs) h
 simpa[bsT]using this⟩
def cF (bs:List Bool):Nat:=bs.countP (fun b=> !b)
theorem jG {bs:List Bool}{a:Nat}(ha:a < bs.length)(A:Nat):(bs.set a true).getD A false=true↔A=a∨bs.getD A false=true:=by
 rw[List.getD_eq_getElem?_getD,List.getD_eq_getElem?_getD]
 by_cases h:A=a
 ·subst h
  rw[List.getElem?_set_self ha]
  simp
 ·rw[List.getElem?_set_ne (fun he=>h he.symm)]
  simp[h]
theorem zdX:∀{bs:List Bool} {a:Nat},bs[a]?=some false→cF (bs.set a true)+1=cF bs
 |[],_,h=>by simp at h
 |b ::bs,0,h=>by
  simp at h
  subst h; simp[cF]
 |b ::bs,a+1,h=>by
  have:=zdX (bs:=bs) (a:=a) (by simpa using h)
  unfold cF at*
  rw[List.set_cons_succ,List.countP_cons,List.countP_cons]
  omega
theorem zjN (bs:List Bool):cF bs≤bs.length:=List.countP_le_length
theorem zfx {g:Gm}{t:Bool}{bs:List Bool}(h:QC g t bs){s:Int}(hs:ZH g t (bsT bs) s):ZH g t (Zs g t) s:=by
 rcases hs with hs|hs
 ·exact .inl hs
 ·refine .inr ⟨hs.1,?_⟩; have h1:=h _ hs.2; have h2:=hs.1; rwa[Int.toNat_of_nonneg (by omega)]at h1
theorem Zj.next {g:Gm}{t:Bool}{bs:List Bool}{i:Nat}{p:Pd}(h:Zj g t bs i)(hp:g.prods[i]?=some p)(hh:(∀s∈p.right,ZH g t (bsT bs) s)→bsT bs p.left):Zj g t bs (i+1):=by
 intro j q hj hq hs; by_cases hji:j=i
 ·subst hji
  rw[hp]at hq
  injection hq with hq; subst hq; exact hh hs
 ·exact h j q (by omega) hq hs
theorem QC.put {g:Gm}{t:Bool}{bs:List Bool}{a:Nat}(h:QC g t bs)(ha:a < bs.length)(hn:Zs g t (a:Int)):QC g t (bs.set a true):=fun A hA=>by
 rcases(jG ha A).1 hA with rfl|hA
 ·exact hn
 ·exact h A hA
theorem vR {s:Int}{xs:List Int}{k:Nat}(h:xs[k]?=some s):xs.take (k+1)=xs.take k++[s]:=by rw[List.take_add_one,h];rfl
set_option maxRecDepth 100000 in
set_option maxHeartbeats 2000000 in
theorem VI (g:Gr)(t:Bool)(n:Nat)(w:World)(h:jC w g)(h0:yY g=0)(hn:g.nons=n):Calls Tryz.prog 121 #[grV g,.bool t] w (zge w n (zff g.gm t)):=by
 obtain⟨hT,hN,hK,hP1,hP2⟩:=yk h0
 obtain⟨b1,W1,hb1,hW1,X1,GA,GO⟩:=xM g w h
 have HC:=zh (xL g W1 GO)
 rw[h0]at HC
 have HG:=zh GA; have HO:=zh GO; have HX1:=zh X1; have H0:=zh h0; have HNN:=zh hn; have hmk:=fun w=>jk w n g.nons hn (by omega); unfold grV at HC ⊢
 obtain⟨m,hm⟩:∃m,g.prods.length=m:=⟨_,rfl⟩
 have HM:=zh hm
 obtain⟨e0,e1,e2,e3,el⟩:=GA
 rw[hm]at e3 hP1 hP2 HC ⊢
 rw[hm]at hW1
 clear h X1 GO h0 hn hm; go_in
 go_upto_region 1 with fail; try simp only[hb1]
 try simp only[hW1]
 clear hb1 hW1; go_wp2_with fail; refine HC.out.mono ?_; rintro e W2 ⟨rfl,x2⟩; have HX2:=zh (HX1.out.trans x2); have HG2:=zh (HG.out.ext x2); have HO2:=zh (HO.out.ext x2); clear x2 HC e0 e1 e2 e3 el HG HO
 obtain⟨e0,e1,e2,e3,el⟩:=HG2.out
 rw[HM.out]at e3
 obtain⟨ob,hob⟩:∃b,W2.heap.size=b:=⟨_,rfl⟩
 obtain⟨V0,hV0⟩:∃V,W2.alloc (.cells (madeCells #[.bool false] n) 4)=V:=⟨_,rfl⟩
 have HB0:Hid (yQ V0 W2.heap.size ob n (List.replicate n false)):=zh (by rw[←hV0];exact yQ.made (by rw[←hob];exact heap_alloc_new _ _) (by omega) (by have:=HNN.out;omega)); have HV0:Hid (Ext W2 V0):=zh (by rw[←hV0];exact xi); have HOB:Hid (W2.heap.size≤ob):=zh (by omega); go_upto_region 4 with fail; try simp only[hob]
 try simp only[hV0]
 clear hob hV0 hmk e0 e1 e2 e3 el; go_wp2_with fail; go_loopg [6] (2*n+1) (fun gh mv wr=>Hid (ExB fun mb=>∃(bs:List Bool),mv=.bool mb∧Hid (cF bs*2+(if mb then 1 else 0)≤gh)∧Hid (yQ wr W2.heap.size ob n bs)∧Hid (QC g.gm t bs)∧Hid (mb=false→Zj g.gm t bs m)∧Hid (Ext W2 wr)))
 case atStart=>exact zh ⟨true,_,rfl,zh (by have:=zjN (List.replicate n false);simp at this ⊢;omega),HB0,zh (fun A hA=>by
  rw[List.getD_eq_getElem?_getD,List.getElem?_replicate]at hA
  split at hA<;>simp at hA),zh (fun h=>by cases h),HV0⟩
 case round=>
  clear HB0 HV0
  obtain⟨mb,bs,rfl,HMS,HB,HS,HCL,HX⟩:=hrel.out
  cases mb with
  |false=>
   have HF:=zh (zjL HS.out (HCL.out rfl) (by rw[←HM.out];simp[Gr.gm])); go_wp2_with fail; go_ret
   exact⟨ob,bs,rfl,⟨HB.out.1,Y5 HB.out.2 HX2.out.size⟩,HF.out,HX2.out.trans HX.out⟩
  |true=>
   go_wp2_with fail; go_loopw [6,7] (fun mv iv wr=>Hid (ExB fun mb=>∃(i:Nat) (bs':List Bool),mv=.bool mb∧iv=.int .i64 i∧i≤m∧Hid (cF bs'+(if mb then 1 else 0)≤cF bs)∧Hid (yQ wr W2.heap.size ob n bs')∧Hid (QC g.gm t bs')∧Hid (mb=false→Zj g.gm t bs' i)∧Hid (Ext W2 wr))) (fun _ iv _=>m - (intOf iv).toNat)
   case atStart=>exact zh ⟨false,0,bs,rfl,rfl,Nat.zero_le _,zh (by simp),HB,HS,zh (fun _ j p hj=>by omega),HX⟩
   case round=>
    clear HB HS HCL HX
    obtain⟨mb,i,bs',rfl,rfl,hi,HCF,HB,HS,HCL,HX⟩:=hrel.out
    obtain⟨e0,e1,e2,e3,el⟩:=HG2.out.ext HX.out
    rw[HM.out]at e3
    by_cases hlt:i < m
    ·obtain⟨p,hp⟩:∃p,g.prods[i]?=some p:=⟨_,List.getElem?_eq_getElem (by have:=HM.out;omega)⟩
     obtain⟨pg,po,hA,pl,d0,d1,PO⟩:=(HO2.out.ext HX.out).prd hp
     have HPI:=zh (je H0.out hp); have HPG:=zh (vO hp)
     obtain⟨bp,W5,hbp,hW5,x5,pc⟩:=Zk p wr
     obtain⟨left,rA,rc,right⟩:=p
     obtain⟨a,rfl⟩:∃a:Nat,left=a:=⟨left.toNat,by have:=HPI.out.left.1;dsimp only at this;omega⟩
     rw[hA]at e3
     dsimp only at d0 d1 hW5 pc; have HPC:=zh pc; have HPO:=zh PO; have HX5:=zh x5; have han:a < n:=by have:=HPI.out.left.2;dsimp only at this;have:=HNN.out;omega
     obtain⟨x,hx⟩:∃x,bs'[a]?=some x:=⟨_,List.getElem?_eq_getElem (by rw[HB.out.1];exact han)⟩
     have HB5:=zh (HB.out.ext x5); have q0:=HB5.out.get hx; have ql:=HB5.out.lt; have HXX:=zh hx
     obtain⟨c0,c1,cl⟩:=pc W5 (Ext.refl _)
     clear hx PO x5 pc hp hA; go_upto_region 11 with fail; try simp only[hbp]
     try simp only[hW5]
     clear hbp hW5 e0 e1 e2 e3 el d0 d1 pl; go_wp2_with fail; clear q0 ql c0 c1 cl; go_loopw [9,10] (fun ov kv wk=>Hid (ExB fun ok=>∃(k:Nat),ov=.bool ok∧kv=.int .i64 k∧k≤right.length∧Hid (ok=true→x=false∧∀s∈right.take k,ZH g.gm t (bsT bs') s)∧Hid (ok=false→x=true∨∃s∈right,¬ZH g.gm t (bsT bs') s)∧Hid (Ext W5 wk))) (fun _ kv _=>right.length - (intOf kv).toNat)
     case atStart=>exact zh ⟨!x,0,rfl,rfl,Nat.zero_le _,zh (fun h=>⟨by simpa using h,fun s hs=>by simp at hs⟩),zh (fun h=>.inl (by simpa using h)),zh (Ext.refl _)⟩
     case round=>
      obtain⟨ok,k,rfl,rfl,hk,HOT,HOF,HXK⟩:=hrel.out
      obtain⟨c0,c1,cl⟩:=HPC.out _ HXK.out
      have HXR:=zh (HX.out.trans (HX5.out.trans HXK.out)); have HBK:=zh (HB5.out.ext HXK.out); cases ok with
      |false=>
       have HCN:Hid (mb=false→Zj g.gm t bs' (i+1)):=zh (fun hm=>(HCL.out hm).next HPG.out (fun hs=>by
        rcases HOF.out rfl with h|⟨s,h1,h2⟩
        ·have:=HXX.out
         rw[h]at this
         simp[bsT,List.getD_eq_getElem?_getD,this]
        ·exact absurd (hs s h1) h2))
       obtain⟨dk,hdk⟩:∃b,decide ((k:Int) < (right.length:Int))=b:=⟨_,rfl⟩
       obtain⟨dk2,hdk2⟩:∃b,decide (k < right.length)=b:=⟨_,rfl⟩
       obtain rfl:dk=dk2:=by rw[←hdk,←hdk2,decide_eq_decide];omega
       cases dk
       all_goals
        go_wp2_with fail; go_roundw
        case rel=>exact zh ⟨mb,i+1,bs',rfl,by go_num,by omega,HCF,HBK,HS,HCN,HXR⟩
        case measure=>simp[intOf];omega
      |true=>
       by_cases hlk:k < right.length
       ·obtain⟨s,hs⟩:∃s,right[k]?=some s:=⟨_,List.getElem?_eq_getElem hlk⟩
        obtain⟨sg,so,hrA,sl,y0⟩:=(HPO.out.ext (HX5.out.trans HXK.out)).sym hs
        dsimp only at hrA
        obtain⟨hs0,hs1⟩:=HPI.out.sym s (List.mem_of_getElem? hs)
        obtain⟨e0,e1,e2,e3,el⟩:=HG2.out.ext HXR.out
        have HSS:=zh hs; have hcap:=HPO.out.cap; have htop:=HPO.out.top; dsimp only at hcap htop
        rw[hrA]at c1
        by_cases hst:s < g.terms
        ·have q1:decide (s < g.terms)=true:=decide_eq_true hst; have q2:decide (g.terms≤s)=false:=decide_eq_false (by omega); have HST:=zh hst; clear hs hrA hst hs0 hs1; cases t with
         |true=>
          go_wp2_with fail; go_roundw
          case rel=>exact zh ⟨true,k+1,rfl,by go_num,by omega,zh (fun h=>⟨(HOT.out rfl).1,fun u hu=>by
           rw[vR HSS.out]at hu
           rcases List.mem_append.1 hu with hu|hu
           ·exact(HOT.out rfl).2 u hu
           ·rw[List.mem_singleton]at hu
            subst hu; exact .inl ⟨HST.out,rfl⟩⟩),zh (fun h=>by cases h),HXK⟩
          case measure=>simp[intOf];omega
         |false=>
          go_wp2_with fail; go_roundw
          case rel=>exact zh ⟨false,k+1,rfl,by go_num,by omega,zh (fun h=>by cases h),zh (fun _=>.inr ⟨s,List.mem_of_getElem? HSS.out,fun hh=>by
           have h3:s < g.terms:=HST.out; rcases hh with hh|hh
           ·exact absurd hh.2 (by simp)
           ·have h4:g.terms≤s:=hh.1; omega⟩),HXK⟩
          case measure=>simp[intOf];omega
        ·have q1:decide (s < g.terms)=false:=decide_eq_false hst; have q2:decide (g.terms≤s)=true:=decide_eq_true (by omega)
         obtain⟨c,hc⟩:∃c:Nat,s - g.terms=c:=⟨(s - g.terms).toNat,by omega⟩
         have hcn:c < n:=by have:=HNN.out;omega
         have e5:wrap64 (s - g.terms)=(c:Int):=by rw[IntWalk.wrap64_in _ (by omega)];omega
         obtain⟨y,hy⟩:∃y,bs'[c]?=some y:=⟨_,List.getElem?_eq_getElem (by rw[HB.out.1];exact hcn)⟩
         have q0:=HBK.out.get hy; have ql:=HBK.out.lt; have HSN:Hid (ZH g.gm t (bsT bs') s↔y=true):=zh (by
          have h4:g.terms≤s:=by omega
          have h5:(s - g.terms).toNat=c:=by omega
          constructor
          ·rintro(hh|hh)
           ·have h3:s < g.terms:=hh.1; omega
           ·have h6:bs'.getD (s - g.terms).toNat false=true:=hh.2
            rw[h5,List.getD_eq_getElem?_getD,hy]at h6
            exact h6
          ·intro hh; refine .inr ⟨h4,?_⟩; show bs'.getD (s - g.terms).toNat false=true
           rw[h5,List.getD_eq_getElem?_getD,hy]
           exact hh)
         clear hs hrA hst hs0 hs1 hc hy; go_wp2_with fail; go_roundw
         case rel=>exact zh ⟨y,k+1,rfl,by go_num,by omega,zh (fun h=>⟨(HOT.out rfl).1,fun u hu=>by
          rw[vR HSS.out]at hu
          rcases List.mem_append.1 hu with hu|hu
          ·exact(HOT.out rfl).2 u hu
          ·rw[List.mem_singleton]at hu
           subst hu; exact HSN.out.2 h⟩),zh (fun h=>.inr ⟨s,List.mem_of_getElem? HSS.out,fun hh=>by
          have:=HSN.out.1 hh
          rw[h]at this
          cases this⟩),HXK⟩
         case measure=>simp[intOf];omega
       ·obtain rfl:k=right.length:=by omega
        have HX0:Hid (bs'[a]?=some false):=zh (by have:=HXX.out;rw[(HOT.out rfl).1]at this;exact this); have q0:=HBK.out.get HX0.out; have ql:=HBK.out.lt; have qf:=HBK.out.frozen a
        obtain⟨W6,hW6⟩:∃W,wr.setCell ⟨ob,a,none⟩ (.bool true)=W:=⟨_,rfl⟩
        have HB6:Hid (yQ W6 W2.heap.size ob n (bs'.set a true)):=zh (by rw[←hW6];exact HBK.out.put a true); have HX6:Hid (Ext W2 W6):=zh (by rw[←hW6];exact HXR.out.setCell HOB.out _); have HNA:Hid (Zs g.gm t (a:Int)):=zh (Zs.of (p:=⟨(a:Int),right⟩) (List.mem_of_getElem? HPG.out) (fun s hs=>zfx HS.out ((HOT.out rfl).2 s (by rw[List.take_length];exact hs)))); have HCF6:Hid (cF (bs'.set a true)+1≤cF bs):=zh (by have:=zdX HX0.out;have:=HCF.out;omega); go_wp2_with fail; try simp only[hW6]
        go_roundw
        case rel=>exact zh ⟨true,i+1,_,rfl,by go_num,by omega,HCF6,HB6,zh (HS.out.put (by rw[HB.out.1];exact han) HNA.out),zh (fun h=>by cases h),HX6⟩
        case measure=>simp[intOf];omega
    ·obtain rfl:i=m:=by omega
     go_wp2_with fail; go_roundg (cF bs'*2+(if mb then 1 else 0))
     case measure=>
      have h1:=HMS.out; have h2:=HCF.out; cases mb<;>simp at h1 h2 ⊢<;>omega
     case rel=>exact zh ⟨mb,bs',rfl,zh (Nat.le_refl _),HB,HS,HCL,HX⟩
set_option maxRecDepth 100000 in
set_option maxHeartbeats 2000000 in
theorem Yu (g:Gr)(n:Nat)(w:World)(h:jC w g)(h0:yY g=0)(hn:g.nons=n):Calls Tryz.prog 91 #[grV g] w (zge w n (zff g.gm false)):=by
 have HX0:Hid (Ext w (w.alloc (.cells #[.int .i64 g.terms,.int .i64 g.nons,.int .i64 g.k,.slice g.pA g.prods.length g.pc] 25))):=zh xi; have HD:=zh (VI g false n _ (h.ext HX0.out) h0 hn); unfold grV at HD ⊢; clear h h0 hn; go_in
 go_wp2_with fail; refine HD.out.mono ?_; rintro e W2 ⟨ob,bs,rfl,hb,hi,hx⟩; have HB:=zh hb; have HI:=zh hi; have HX:=zh hx; clear hb hi hx HD; go_wp2_with fail; go_ret
 exact⟨ob,bs,rfl,⟨HB.out.1,Y5 HB.out.2 HX0.out.size⟩,HI.out,HX0.out.trans HX.out⟩
set_option maxRecDepth 100000 in
set_option maxHeartbeats 2000000 in
theorem QR (g:Gr)(n:Nat)(w:World)(h:jC w g)(h0:yY g=0)(hn:g.nons=n):Calls Tryz.prog 89 #[grV g] w (zge w n (zff g.gm true)):=by
 have HX0:Hid (Ext w (w.alloc (.cells #[.int .i64 g.terms,.int .i64 g.nons,.int .i64 g.k,.slice g.pA g.prods.length g.pc] 25))):=zh xi; have HD:=zh (VI g true n _ (h.ext HX0.out) h0 hn); unfold grV at HD ⊢; clear h h0 hn; go_in
 go_wp2_with fail; refine HD.out.mono ?_; rintro e W2 ⟨ob,bs,rfl,hb,hi,hx⟩; have HB:=zh hb; have HI:=zh hi; have HX:=zh hx; clear hb hi hx HD; go_wp2_with fail; go_ret
 exact⟨ob,bs,rfl,⟨HB.out.1,Y5 HB.out.2 HX0.out.size⟩,HI.out,HX0.out.trans HX.out⟩
inductive jj (g:Gm):Int→Prop
 |zero:jj g 0
 |step {p:Pd} (hp:p∈g.prods) (h:jj g p.left) {s:Int} (hs:s∈p.right) (ht:g.terms≤s):jj g (s - g.terms)
def zjO (g:Gm)(bs:List Bool):Prop:=∀A:Nat,bs.getD A false=true↔jj g (A:Int)
def vk (g:Gm)(bs:List Bool):Prop:=∀A:Nat,bs.getD A false=true→jj g (A:Int)
def vN (g:Gm)(bs:List Bool)(r:List Int):Prop:=∀s∈r,g.terms≤s→bsT bs (s - g.terms)
def xX (g:Gm)(bs:List Bool)(i:Nat):Prop:=∀(j:Nat) (p:Pd),j < i→g.prods[j]?=some p→bsT bs p.left→vN g bs p.right
theorem xX.next {g:Gm}{bs:List Bool}{i:Nat}{p:Pd}(h:xX g bs i)(hp:g.prods[i]?=some p)(hh:bsT bs p.left→vN g bs p.right):xX g bs (i+1):=by
 intro j q hj hq hs; by_cases hji:j=i
 ·subst hji
  rw[hp]at hq
  injection hq with hq; subst hq; exact hh hs
 ·exact h j q (by omega) hq hs
theorem vk.put {g:Gm}{bs:List Bool}{a:Nat}(h:vk g bs)(ha:a < bs.length)(hn:jj g (a:Int)):vk g (bs.set a true):=fun A hA=>by
 rcases(jG ha A).1 hA with rfl|hA
 ·exact hn
 ·exact h A hA
theorem zi5 {g:Gm}{bs:List Bool}{n:Nat}(h1:vk g bs)(h2:xX g bs n)(hn:n=g.prods.length)(h0:bs.getD 0 false=true):zjO g bs:=fun A=>⟨h1 A,fun h=>by
 have key:∀B,jj g B→bsT bs B:=by
  intro B hB; induction hB with
  |zero=>exact h0
  |step hp _ hs ht ih=>
   obtain⟨j,hj⟩:=List.mem_iff_getElem?.1 hp
   exact h2 j _ (by rw[hn];exact(List.getElem?_eq_some_iff.1 hj).1) hj ih _ hs ht
 have:=key _ h
 simpa[bsT]using this⟩
set_option maxRecDepth 100000 in
set_option maxHeartbeats 2000000 in
theorem VZ (g:Gr)(n:Nat)(w:World)(h:jC w g)(h0:yY g=0)(hn:g.nons=n):Calls Tryz.prog 90 #[grV g] w (zge w n (zjO g.gm)):=by
 have hmk:=fun w=>jk w n g.nons hn (by have:=yk h0;omega)
 obtain⟨hT,hN,hK,hP1,hP2⟩:=yk h0
 obtain⟨b1,W1,hb1,hW1,X1,GA,GO⟩:=xM g w h
 have HC:=zh (xL g W1 GO)
 rw[h0]at HC
 have HG:=zh GA; have HO:=zh GO; have HX1:=zh X1; have H0:=zh h0; have HNN:=zh hn; have hn16:1≤n∧n≤16:=by omega
 unfold grV at HC ⊢
 obtain⟨m,hm⟩:∃m,g.prods.length=m:=⟨_,rfl⟩
 have HM:=zh hm
 obtain⟨e0,e1,e2,e3,el⟩:=GA
 rw[hm]at e3 hP1 hP2 HC ⊢
 rw[hm]at hW1
 clear h X1 GO h0 hn hm; go_in
 go_upto_region 1 with fail; try simp only[hb1]
 try simp only[hW1]
 clear hb1 hW1; go_wp2_with fail; refine HC.out.mono ?_; rintro e W2 ⟨rfl,x2⟩; have HX2:=zh (HX1.out.trans x2); have HG2:=zh (HG.out.ext x2); have HO2:=zh (HO.out.ext x2); clear x2 HC e0 e1 e2 e3 el HG HO
 obtain⟨e0,e1,e2,e3,el⟩:=HG2.out
 rw[HM.out]at e3
 obtain⟨ob,hob⟩:∃b,W2.heap.size=b:=⟨_,rfl⟩
 obtain⟨V0,hV0⟩:∃V,W2.alloc (.cells (madeCells #[.bool false] n) 4)=V:=⟨_,rfl⟩
 have hn1:1≤n:=by have:=HNN.out;omega
 have HB0:Hid (yQ V0 W2.heap.size ob n (List.replicate n false)):=zh (by rw[←hV0];exact yQ.made (by rw[←hob];exact heap_alloc_new _ _) (by omega) (by have:=HNN.out;omega)); have HV0:Hid (Ext W2 V0):=zh (by rw[←hV0];exact xi); have HOB:Hid (W2.heap.size≤ob):=zh (by omega); go_upto_region 4 with fail; try simp only[hob]
 try simp only[hV0]
 clear hob hV0 hmk e0 e1 e2 e3 el; have hz:(List.replicate n false)[0]?=some false:=by rw[List.getElem?_replicate,if_pos (by omega)]
 have q0:=HB0.out.get hz; have ql:=HB0.out.lt; have qf:=HB0.out.frozen 0; have hn0:0 < n:=by omega
 obtain⟨V1,hV1⟩:∃V,V0.setCell ⟨ob,0,none⟩ (.bool true)=V:=⟨_,rfl⟩
 have HB1:Hid (yQ V1 W2.heap.size ob n ((List.replicate n false).set 0 true)):=zh (by rw[←hV1];exact HB0.out.put 0 true); have HV1:Hid (Ext W2 V1):=zh (by rw[←hV1];exact HV0.out.setCell HOB.out _); clear hz; go_upto_region 5 with fail; try simp only[hV1]
 clear hV1 q0 ql qf hn0 HB0 HV0; have HS1:Hid (vk g.gm ((List.replicate n false).set 0 true)):=zh (fun A hA=>by
  rcases(jG (by simp;omega) A).1 hA with rfl|hA
  ·exact .zero
  ·rw[List.getD_eq_getElem?_getD,List.getElem?_replicate]at hA
   split at hA<;>simp at hA)
 have HZ1:Hid (((List.replicate n false).set 0 true).getD 0 false=true):=zh ((jG (by simp;omega) 0).2 (.inl rfl))
 obtain⟨bs1,hbs1⟩:∃bs,(List.replicate n false).set 0 true=bs:=⟨_,rfl⟩
 rw[hbs1]at HB1 HS1 HZ1
 clear hbs1; go_wp2_with fail; go_loopg [4] (2*n+1) (fun gh mv wr=>Hid (ExB fun mb=>∃(bs:List Bool),mv=.bool mb∧Hid (cF bs*2+(if mb then 1 else 0)≤gh)∧Hid (yQ wr W2.heap.size ob n bs)∧Hid (vk g.gm bs∧bs.getD 0 false=true)∧Hid (mb=false→xX g.gm bs m)∧Hid (Ext W2 wr)))
 case atStart=>exact zh ⟨true,_,rfl,zh (by have:=zjN bs1;have:=HB1.out.1;simp;omega),HB1,zh ⟨HS1.out,HZ1.out⟩,zh (fun h=>by cases h),HV1⟩
 case round=>
  clear HB1 HV1 HS1 HZ1
  obtain⟨mb,bs,rfl,HMS,HB,HS,HCL,HX⟩:=hrel.out
  cases mb with
  |false=>
   have HF:=zh (zi5 HS.out.1 (HCL.out rfl) (by rw[←HM.out];simp[Gr.gm]) HS.out.2); go_wp2_with fail; go_ret
   exact⟨ob,bs,rfl,⟨HB.out.1,Y5 HB.out.2 HX2.out.size⟩,HF.out,HX2.out.trans HX.out⟩
  |true=>
   go_wp2_with fail; go_loopw [4,5] (fun mv iv wr=>Hid (ExB fun mb=>∃(i:Nat) (bs':List Bool),mv=.bool mb∧iv=.int .i64 i∧i≤m∧Hid (cF bs'+(if mb then 1 else 0)≤cF bs)∧Hid (yQ wr W2.heap.size ob n bs')∧Hid (vk g.gm bs'∧bs'.getD 0 false=true)∧Hid (mb=false→xX g.gm bs' i)∧Hid (Ext W2 wr))) (fun _ iv _=>m - (intOf iv).toNat)
   case atStart=>exact zh ⟨false,0,bs,rfl,rfl,Nat.zero_le _,zh (by simp),HB,HS,zh (fun _ j p hj=>by omega),HX⟩
   case round=>
    clear HB HS HCL HX
    obtain⟨mb,i,bs',rfl,rfl,hi,HCF,HB,HS,HCL,HX⟩:=hrel.out
    obtain⟨e0,e1,e2,e3,el⟩:=HG2.out.ext HX.out
    rw[HM.out]at e3
    by_cases hlt:i < m
    ·obtain⟨p,hp⟩:∃p,g.prods[i]?=some p:=⟨_,List.getElem?_eq_getElem (by have:=HM.out;omega)⟩
     obtain⟨pg,po,hA,pl,d0,d1,PO⟩:=(HO2.out.ext HX.out).prd hp
     have HPI:=zh (je H0.out hp); have HPG:=zh (vO hp)
     obtain⟨bp,W5,hbp,hW5,x5,pc⟩:=Zk p wr
     obtain⟨left,rA,rc,right⟩:=p
     obtain⟨a,rfl⟩:∃a:Nat,left=a:=⟨left.toNat,by have:=HPI.out.left.1;dsimp only at this;omega⟩
     rw[hA]at e3
     dsimp only at d0 d1 hW5 pc; have HPC:=zh pc; have HPO:=zh (by
      obtain⟨_,_,_,_,_,_,PO2⟩:=HO2.out.prd hp
      exact PO2)
     have HX5:=zh (HX.out.trans x5); have HXP:=zh x5; have HLW:Hid (W2.heap.size≤W5.heap.size):=zh HX5.out.size; have han:a < n:=by have:=HPI.out.left.2;dsimp only at this;have:=HNN.out;omega
     have HB5:=zh (HB.out.ext x5); have HCN0:Hid (mb=false→xX g.gm bs' i∧vN g.gm bs' (right.take 0)):=zh (fun h=>⟨HCL.out h,fun s hs=>by simp at hs⟩); have HPL:Hid (ob < bp):=zh (by have:=HB.out.lt;omega); clear PO pc hp hA; go_upto_region 12 with fail; try simp only[hbp]
     try simp only[hW5]
     clear hbp hW5 e0 e1 e2 e3 el d0 d1 pl x5; go_wp2_with fail; go_loopw [4,7] (fun mv kv wk=>Hid (ExB fun mb=>∃(k:Nat) (bs':List Bool),mv=.bool mb∧kv=.int .i64 k∧k≤right.length∧Hid (cF bs'+(if mb then 1 else 0)≤cF bs)∧Hid (yQ wk W2.heap.size ob n bs')∧Hid (vk g.gm bs'∧bs'.getD 0 false=true)∧Hid (mb=false→xX g.gm bs' i∧vN g.gm bs' (right.take k))∧Hid (zA (fun x=>x=ob) W5 wk)∧Hid (Ext W2 wk))) (fun _ kv _=>right.length - (intOf kv).toNat)
     case atStart=>exact zh ⟨mb,0,bs',rfl,rfl,Nat.zero_le _,HCF,HB5,HS,HCN0,zh (zA.of_ext (Ext.refl _)),HX5⟩
     case round=>
      clear HB5 HS HCL HCN0 HCF HB
      obtain⟨mb,k,bs',rfl,rfl,hk,HCF,HB,HS,HCN,HTK,HXK⟩:=hrel.out
      obtain⟨c0,c1,cl⟩:=HPC.out W5 (Ext.refl _)
      have hbb:=HTK.out.block bp cl (by have:=HPL.out;omega); have c0:=(World.cell?_of_block (w:=W5) (a:=⟨bp,0,none⟩) hbb).trans c0; have c1:=(World.cell?_of_block (w:=W5) (a:=⟨bp,1,none⟩) hbb).trans c1; have cl:=Nat.lt_of_lt_of_le cl HTK.out.size
      obtain⟨x,hx⟩:∃x,bs'[a]?=some x:=⟨_,List.getElem?_eq_getElem (by rw[HB.out.1];exact han)⟩
      have q0:=HB.out.get hx; have ql:=HB.out.lt; have HXX:=zh hx; clear hx hbb; by_cases hlk:k < right.length
      ·cases x with
       |false=>
        have HCN2:Hid (mb=false→xX g.gm bs' (i+1)):=zh (fun hm=>(HCN.out hm).1.next HPG.out (fun hs=>by
         have:=HXX.out
         simp[bsT,List.getD_eq_getElem?_getD,this]at hs))
        go_wp2_with fail; go_roundw
        case rel=>exact zh ⟨mb,i+1,bs',rfl,by go_num,by omega,HCF,HB,HS,HCN2,HXK⟩
        case measure=>simp[intOf];omega
       |true=>
        obtain⟨s,hs⟩:∃s,right[k]?=some s:=⟨_,List.getElem?_eq_getElem hlk⟩
        have HSS:=zh hs
        obtain⟨hs0,hs1⟩:=HPI.out.sym s (List.mem_of_getElem? hs)
        obtain⟨e0,e1,e2,e3,el⟩:=HG2.out.ext HXK.out
        obtain⟨sg,so,hrA,sl,y0⟩:=(HPO.out.ext HXK.out).sym hs
        dsimp only at hrA; have hcap:=HPO.out.cap; have htop:=HPO.out.top; dsimp only at hcap htop
        rw[hrA]at c1
        obtain⟨W6,hW6⟩:∃W,wr.drew=W:=⟨_,rfl⟩
        have x6:Ext wr W6:=by rw[←hW6];exact xi
        have HB6:=zh (HB.out.ext x6); have HT6:=zh (HTK.out.trans (zA.of_ext x6)); have HX6:=zh (HXK.out.trans x6); clear hs hrA x6; by_cases hst:s < g.terms
        ·have e5:wrap64 (s - g.terms)=s - g.terms:=by rw[IntWalk.wrap64_in _ (by omega)]
         have e6:IntKind.i64.wrap (s - g.terms)=s - g.terms:=IntWalk.i64_in _ (by omega); have d1:decide (0≤s - g.terms)=false:=decide_eq_false (by omega); have d2:decide (g.terms≤s)=false:=decide_eq_false (by omega); have HRN:Hid (∀bb,vN g.gm bb (right.take k)→vN g.gm bb (right.take (k+1))):=zh (fun bb hb u hu ht=>by
          rw[vR HSS.out]at hu
          rcases List.mem_append.1 hu with hu|hu
          ·exact hb u hu ht
          ·rw[List.mem_singleton]at hu
           subst hu; have h4:g.terms≤u:=ht; omega)
         clear hst hs0 hs1; go_upto_region 15 with fail; refine zg (9) (zd [0,2,5] (zj [1,3,4,6,7,8] .fin)) (by kernel_rfl) (by kernel_rfl) ?_; (repeat first|refine yq ?_|refine yr ?_)
         refine zv ?_; try simp only[hW6]
         clear hW6; go_wp2_with fail; go_roundw
         case rel=>exact zh ⟨mb,k+1,bs',rfl,by go_num,by omega,HCF,HB6,HS,zh (fun hm=>⟨(HCN.out hm).1,HRN.out _ (HCN.out hm).2⟩),HT6,HX6⟩
         case measure=>simp[intOf];omega
        ·obtain⟨c,hc⟩:∃c:Nat,s - g.terms=c:=⟨(s - g.terms).toNat,by omega⟩
         have hcn:c < n:=by have:=HNN.out;omega
         have e5:wrap64 (s - g.terms)=(c:Int):=by rw[IntWalk.wrap64_in _ (by omega)];omega
         have e6:IntKind.i64.wrap (s - g.terms)=(c:Int):=by rw[IntWalk.i64_in _ (by omega)];omega
         have HCC:Hid (s - g.terms=c):=zh hc
         obtain⟨y,hy⟩:∃y,bs'[c]?=some y:=⟨_,List.getElem?_eq_getElem (by rw[HB.out.1];exact hcn)⟩
         have HY:=zh hy; have q3:=HB6.out.get hy; have ql3:=HB6.out.lt; have qf3:=HB6.out.frozen c; have HRN:Hid (∀bb,vN g.gm bb (right.take k)→bb.getD c false=true→vN g.gm bb (right.take (k+1))):=zh (fun bb hb hc2 u hu ht=>by
          rw[vR HSS.out]at hu
          rcases List.mem_append.1 hu with hu|hu
          ·exact hb u hu ht
          ·rw[List.mem_singleton]at hu
           subst hu; show bb.getD (u - g.terms).toNat false=true
           rw[HCC.out]
           exact hc2)
         have HRC:Hid (jj g.gm (c:Int)):=zh (by
          have h1:jj g.gm (a:Int):=HS.out.1 a (by rw[List.getD_eq_getElem?_getD,HXX.out];rfl); have h2:=jj.step (p:=⟨(a:Int),right⟩) (List.mem_of_getElem? HPG.out) h1 (s:=s) (List.mem_of_getElem? HSS.out) (show g.terms≤s by omega); have h3:s - g.gm.terms=(c:Int):=HCC.out; rwa[h3]at h2)
         clear hst hs0 hs1 hc hy; go_upto_region 15 with fail; refine zg (9) (zd [0,2,5] (zj [1,3,4,6,7,8] .fin)) (by kernel_rfl) (by kernel_rfl) ?_; (repeat first|refine yq ?_|refine yr ?_)
         refine zv ?_; try simp only[hW6]
         clear hW6; cases y with
         |true=>
          go_wp2_with fail; go_roundw
          case rel=>exact zh ⟨mb,k+1,bs',rfl,by go_num,by omega,HCF,HB6,HS,zh (fun hm=>⟨(HCN.out hm).1,HRN.out _ (HCN.out hm).2 (by rw[List.getD_eq_getElem?_getD,HY.out];rfl)⟩),HT6,HX6⟩
          case measure=>simp[intOf];omega
         |false=>
          obtain⟨W7,hW7⟩:∃W,W6.setCell ⟨ob,c,none⟩ (.bool true)=W:=⟨_,rfl⟩
          have HB7:Hid (yQ W7 W2.heap.size ob n (bs'.set c true)):=zh (by rw[←hW7];exact HB6.out.put c true); have HX7:Hid (Ext W2 W7):=zh (by rw[←hW7];exact HX6.out.setCell HOB.out _); have HT7:Hid (zA (fun x=>x=ob) W5 W7):=zh (by rw[←hW7];exact HT6.out.trans (zA.set1 _ _ _)); have HCF7:Hid (cF (bs'.set c true)+1≤cF bs):=zh (by have:=zdX HY.out;have:=HCF.out;omega); have HS7:Hid (vk g.gm (bs'.set c true)∧(bs'.set c true).getD 0 false=true):=zh ⟨HS.out.1.put (by rw[HB.out.1];exact hcn) HRC.out,(jG (by rw[HB.out.1];exact hcn) 0).2 (.inr HS.out.2)⟩; go_wp2_with fail; try simp only[hW7]
          go_roundw
          case rel=>exact zh ⟨true,k+1,_,rfl,by go_num,by omega,HCF7,HB7,HS7,zh (fun h=>by cases h),HT7,HX7⟩
          case measure=>simp[intOf];omega
      ·obtain rfl:k=right.length:=by omega
       have HCN2:Hid (mb=false→xX g.gm bs' (i+1)):=zh (fun hm=>(HCN.out hm).1.next HPG.out (fun _=>by have:=(HCN.out hm).2;rwa[List.take_length]at this)); go_wp2_with fail; go_roundw
       case rel=>exact zh ⟨mb,i+1,bs',rfl,by go_num,by omega,HCF,HB,HS,HCN2,HXK⟩
       case measure=>simp[intOf];omega
    ·obtain rfl:i=m:=by omega
     go_wp2_with fail; go_roundg (cF bs'*2+(if mb then 1 else 0))
     case measure=>
      have h1:=HMS.out; have h2:=HCF.out; cases mb<;>simp at h1 h2 ⊢<;>omega
     case rel=>exact zh ⟨mb,bs',rfl,zh (Nat.le_refl _),HB,HS,HCL,HX⟩
def zjA (w:World)(P:Prop)(e:Ending)(w':World):Prop:=∃(i:Int) (ok:Bool),e=.returned (.tuple #[.int .i64 i,.bool ok])∧(ok=true↔P)∧Ext w w'
def zkj (g:Gm):Prop:=∀A:Nat,(A:Int) < g.nons→Zs g true (A:Int)∧jj g (A:Int)
set_option maxRecDepth 100000 in
set_option maxHeartbeats 2000000 in
theorem zao (g:Gr)(n:Nat)(w:World)(h:jC w g)(h0:yY g=0)(hn:g.nons=n):Calls Tryz.prog 51 #[grV g] w (zjA w (zkj g.gm)):=by
 have HPR:=zh (fun w1 h=>QR g n w1 h h0 hn); have HRE:=zh (fun w1 h=>VZ g n w1 h h0 hn); unfold grV at HPR HRE
 obtain⟨hT,hN,hK,hP1,hP2⟩:=yk h0
 obtain⟨b1,W1,hb1,hW1,X1,GA,GO⟩:=xM g w h
 have HC:=zh (xL g W1 GO)
 rw[h0]at HC
 have HG:=zh GA; have HO:=zh GO; have HX1:=zh X1; have H0:=zh h0; have HNN:=zh hn; have hn16:1≤n∧n≤16:=by omega
 unfold grV at HC ⊢
 obtain⟨m,hm⟩:∃m,g.prods.length=m:=⟨_,rfl⟩
 have HM:=zh hm
 obtain⟨e0,e1,e2,e3,el⟩:=GA
 rw[hm]at e3 hP1 hP2 HC HPR HRE ⊢
 rw[hm]at hW1
 clear h X1 GO h0 hn hm; go_in
 go_upto_region 1 with fail; try simp only[hb1]
 try simp only[hW1]
 clear hb1 hW1; go_wp2_with fail; refine HC.out.mono ?_; rintro e W2 ⟨rfl,x2⟩; have HX2:=zh (HX1.out.trans x2); have HG2:=zh (HG.out.ext x2); have HO2:=zh (HO.out.ext x2); clear x2 HC e0 e1 e2 e3 el HG HO
 obtain⟨e0,e1,e2,e3,el⟩:=HG2.out
 rw[HM.out]at e3
 go_upto_region 3 with fail; refine zg (6) (zj [0,2] (.step 1 (.step 3 (zd [4,5] .fin)))) (by kernel_rfl) (by kernel_rfl) ?_; (repeat first|refine yq ?_|refine yr ?_)
 refine zp fun next hn=>?_;simp only[pick,yp]; go_wp2_with fail
 refine(HPR.out _ (HO2.out.ext xi)).mono ?_
 rintro e W3 ⟨oa,avs,rfl,ha,hia,hx3⟩; have HA:=zh ha; have HIA:=zh hia; have HX3:Hid (Ext W2 W3):=zh (Ext.trans xi hx3); clear ha hia hx3; go_wp2_with fail; refine zk (fun _=>yZ HX3.out) (hn _ _ ?_); clear hn next; (repeat first|refine yq ?_|refine yr ?_)
 refine zp fun next hn=>?_;simp only[pick,yp]; go_wp2_with fail
 refine(HRE.out _ (HO2.out.ext (HX3.out.trans xi))).mono ?_
 rintro e W4 ⟨oc,bs,rfl,hb,hib,hx4⟩; have HB:=zh hb; have HIB:=zh hib; have HX4:Hid (Ext W2 W4):=zh (HX3.out.trans (Ext.trans xi hx4)); have HA4:=zh (HA.out.ext (Ext.trans xi hx4)); clear hb hib hx4 HA; go_wp2_with fail; refine zk (fun _=>yZ HX4.out) (hn _ _ ?_); clear hn next; (repeat first|refine yq ?_|refine yr ?_)
 refine zv ?_; clear e0 e1 e2 e3 el HPR HRE; go_wp2_with fail; go_loopw [6] (fun iv wr=>Hid (∃i:Nat,iv=.int .i64 i∧i≤n∧Hid (∀A:Nat,A < i→Zs g.gm true (A:Int)∧jj g.gm (A:Int))∧Hid (Ext W4 wr))) (fun iv _=>n - (intOf iv).toNat)
 case atStart=>exact zh ⟨0,rfl,Nat.zero_le _,zh (fun A h=>by omega),zh xi⟩
 case round=>
  obtain⟨i,rfl,hi,HAL,HX⟩:=hrel.out
  obtain⟨e0,e1,e2,e3,el⟩:=HG2.out.ext (HX4.out.trans HX.out)
  rw[HNN.out]at e1
  by_cases hlt:i < n
  ·obtain⟨x,hx⟩:∃x,avs[i]?=some x:=⟨_,List.getElem?_eq_getElem (by rw[HA4.out.1];exact hlt)⟩
   obtain⟨y,hy⟩:∃y,bs[i]?=some y:=⟨_,List.getElem?_eq_getElem (by rw[HB.out.1];exact hlt)⟩
   have q0:=(HA4.out.ext HX.out).get hx; have ql:=(HA4.out.ext HX.out).lt; have r0:=(HB.out.ext HX.out).get hy; have rl:=(HB.out.ext HX.out).lt; have HXA:Hid (x=true↔Zs g.gm true (i:Int)):=zh (by have:=HIA.out i;rw[List.getD_eq_getElem?_getD,hx]at this;exact this); have HYB:Hid (y=true↔jj g.gm (i:Int)):=zh (by have:=HIB.out i;rw[List.getD_eq_getElem?_getD,hy]at this;exact this); clear hx hy; cases x with
   |false=>
    go_wp2_with fail; exact bodyPost_ret (v:=.tuple #[.int .i64 i,.bool false]) (by simp[results,Tryz.results51,go_sem, *]) rfl ⟨_,false,rfl,⟨fun h=>(by cases h),fun h=>by
     have h1:=HXA.out.2 (h i (by show(i:Int) < g.nons;have:=HNN.out;omega)).1; cases h1⟩,HX2.out.trans (HX4.out.trans HX.out)⟩
   |true=>
    cases y with
    |false=>
     go_wp2_with fail; exact bodyPost_ret (v:=.tuple #[.int .i64 i,.bool false]) (by simp[results,Tryz.results51,go_sem, *]) rfl ⟨_,false,rfl,⟨fun h=>(by cases h),fun h=>by
      have h1:=HYB.out.2 (h i (by show(i:Int) < g.nons;have:=HNN.out;omega)).2; cases h1⟩,HX2.out.trans (HX4.out.trans HX.out)⟩
    |true=>
     go_wp2_with fail; go_roundw
     case rel=>exact zh ⟨i+1,by go_num,by omega,zh (fun A hA=>by
      by_cases h:A=i
      ·subst h;exact⟨HXA.out.1 rfl,HYB.out.1 rfl⟩
      ·exact HAL.out A (by omega)),HX⟩
     case measure=>simp[intOf];omega
  ·obtain rfl:i=n:=by omega
   go_wp2_with fail; exact bodyPost_ret (v:=.tuple #[.int .i64 0,.bool true]) (by simp[results,Tryz.results51,go_sem, *]) rfl ⟨0,true,rfl,⟨fun _ A hA=>HAL.out A (by have:=HNN.out;have h2:(A:Int) < g.nons:=hA;omega),fun _=>rfl⟩,HX2.out.trans (HX4.out.trans HX.out)⟩
theorem Vg:(Tryz.prog.info? 121).map (fun i=>(i.zero,i.size,i.bytes))=some (some (.slice none 0 0),1,24):=by kernel_rfl
theorem zch (w:World)(n:Nat)(m:Int)(hm:m=n)(hn:n≤1000000):
 (Instr.makeSlice 41 (.int .i64 m) (.int .i64 m)).run Tryz.prog w=.ok (.slice (some ⟨w.heap.size,0,none⟩) n n) (w.alloc (.cells (madeCells #[zH] n) 121)):=by
 subst hm
 obtain⟨i3,hi,hz0,hz1,hz2⟩:=info_parts Vg
 have h:=run_makeSlice (P:=Tryz.prog) w 41 121 i3 zH Tryz.underlying41 hi hz0 .i64 .i64 (n:Int) (n:Int) (by omega) (by omega) (by rw[hz1];omega) (by rw[hz2];omega) (by omega)
 rw[hz1,Int.toNat_natCast,Nat.mul_one]at h
 exact h
structure Zh (w:World)(base bb n:Nat)(hs:List Nat)(β:Nat→Nat→Bool):Prop where
 out:∃cs:List Value,w.heap[bb]?=some (.cells cs.toArray 121)∧cs.length=n∧∀(i h:Nat),hs[i]?=some h→cs[i]?=some (Value.slice (some ⟨h,0,none⟩) n n)
 rows:∀(i h:Nat),hs[i]?=some h→∃bs,yQ w base h n bs∧∀k,k < n→bs[k]?=some (β i k)
 once:∀(i j h:Nat),hs[i]?=some h→hs[j]?=some h→i=j
 low:base≤bb
section
variable {w w':World}{base bb n:Nat}{hs:List Nat}{β:Nat→Nat→Bool}
theorem Zh.ext (h:Zh w base bb n hs β)(e:Ext w w'):Zh w' base bb n hs β:=by
 obtain⟨⟨cs,h1,h2,h3⟩,h4,h5,h6⟩:=h
 exact⟨⟨cs,zb h1 e,h2,h3⟩,fun i x hx=>by
  obtain⟨bs,a,b⟩:=h4 i x hx
  exact⟨bs,a.ext e,b⟩,h5,h6⟩
theorem Zh.lt (h:Zh w base bb n hs β):bb < w.heap.size:=by
 obtain⟨⟨cs,h1,h2,h3⟩,_⟩:=h
 exact za h1
theorem Zh.get {i k x:Nat}(h:Zh w base bb n hs β)(hi:hs[i]?=some x)(hk:k < n):w.cell? ⟨bb,i,none⟩=some (.slice (some ⟨x,0,none⟩) n n)∧w.cell? ⟨x,k,none⟩=some (.bool (β i k))∧x < w.heap.size∧w.frozen? ⟨x,k,none⟩=false∧base≤x:=by
 obtain⟨⟨cs,h1,h2,h3⟩,h4,h5,h6⟩:=h
 obtain⟨bs,hb,hbs⟩:=h4 i x hi
 refine⟨?_,hb.get (hbs k hk),hb.lt,hb.frozen k,hb.low⟩
 rw[cr i h1,List.getElem?_toArray]
 exact h3 i x hi
theorem Zh.put {i k x:Nat}(h:Zh w base bb n hs β)(hi:hs[i]?=some x)(hk:k < n)(b:Bool):Zh (w.setCell ⟨x,k,none⟩ (.bool b)) base bb n hs (fun j l=>if j=i∧l=k then b else β j l):=by
 obtain⟨⟨cs,h1,h2,h3⟩,h4,h5,h6⟩:=h
 obtain⟨bs,hb,hbs⟩:=h4 i x hi
 obtain⟨cur,hcur⟩:=hb.obj
 have T:zA (fun g=>g=x) w (w.setCell ⟨x,k,none⟩ (.bool b)):=zA.set1 _ _ _; have hne:bb≠x:=zU h1 hcur (by decide)
 refine⟨⟨cs,T.keep h1 hne,h2,h3⟩,fun j y hy=>?_,h5,h6⟩
 by_cases hj:j=i
 ·subst hj
  rw[hi]at hy
  injection hy with hy; subst hy
  refine⟨_,hb.put k b,fun l hl=>?_⟩
  by_cases hlk:l=k
  ·subst hlk
   rw[List.getElem?_set_self (by rw[hb.1];exact hl),if_pos ⟨rfl,rfl⟩]
  ·rw[List.getElem?_set_ne (fun he=>hlk he.symm),hbs l hl,if_neg (fun he=>hlk he.2)]
 ·obtain⟨bs2,hb2,hbs2⟩:=h4 j y hy
  have hyx:¬y=x:=fun he=>hj (h5 j i y hy (by rw[he];exact hi))
  refine⟨bs2,⟨hb2.1,ye hb2.2 fun g hg=>T.block g (z8 hb2.2 g hg) (fun he=>hyx (by injection hg with hg;exact hg.trans he))⟩,fun l hl=>?_⟩
  rw[hbs2 l hl,if_neg (fun he=>hj he.1)]
theorem Zh.grow {i x:Nat}{W:World}(h:Zh w base bb n hs β)(hl:hs.length=i)(hi:i < n)(hx:w.heap.size=x)(hn:n≤1000000)(hbs:base≤w.heap.size)(hW:(w.alloc (.cells (madeCells #[.bool false] n) 4)).setCell ⟨bb,i,none⟩ (.slice (some ⟨x,0,none⟩) n n)=W):Zh W base bb n (hs++[x]) (fun j l=>if j=i then false else β j l):=by
 obtain⟨⟨cs,h1,h2,h3⟩,h4,h5,h6⟩:=h
 obtain⟨V,hV⟩:∃V,w.alloc (.cells (madeCells #[.bool false] n) 4)=V:=⟨_,rfl⟩
 have e:Ext w V:=by rw[←hV];exact xi
 have hB:V.heap[x]?=some (.cells (madeCells #[.bool false] n) 4):=by rw[←hV,←hx];exact heap_alloc_new _ _
 rw[hV]at hW
 have h1:=zb h1 e; have T:zA (fun g=>g=bb) V W:=by rw[←hW];exact zA.set1 _ _ _
 have hxb:x≠bb:=zU hB h1 (by decide); have hlt:∀{j y},hs[j]?=some y→j < i:=fun hy=>by rw[←hl];exact(List.getElem?_eq_some_iff.1 hy).1
 have hlast:∀{j y},(hs++[x])[j]?=some y→(hs[j]?=some y∧j < i)∨(j=i∧y=x):=fun {j y} hy=>by
  by_cases hj:j < hs.length
  ·rw[List.getElem?_append_left hj]at hy
   exact .inl ⟨hy,by omega⟩
  ·rw[List.getElem?_append_right (by omega)]at hy
   obtain⟨d,hd⟩:∃d,j - hs.length=d:=⟨_,rfl⟩
   rw[hd]at hy
   cases d with
   |zero=>simp at hy;exact .inr ⟨by omega,hy.symm⟩
   |succ d=>simp at hy
 refine⟨⟨cs.set i (.slice (some ⟨x,0,none⟩) n n),?_,by rw[List.length_set];exact h2,fun j y hy=>?_⟩,fun j y hy=>?_,fun j l y hy hy'=>?_,h6⟩
 ·rw[←hW]
  have:=zn (k:=i) h1 (.slice (some ⟨x,0,none⟩) n n)
  rw[this]
  congr 2
  simp
 ·rcases hlast hy with⟨hy,hj⟩|⟨rfl,rfl⟩
  ·rw[List.getElem?_set_ne (by omega)];exact h3 j y hy
  ·rw[List.getElem?_set_self (by omega)]
 ·rcases hlast hy with⟨hy,hj⟩|⟨rfl,rfl⟩
  ·obtain⟨bs,a,b⟩:=h4 j y hy
   have a:=a.ext e
   refine⟨bs,⟨a.1,ye a.2 fun g hg=>T.block g (z8 a.2 g hg) (fun he=>?_)⟩,fun k hk=>by rw[b k hk,if_neg (by omega)]⟩
   obtain⟨cur,hc⟩:=a.obj
   injection hg with hg; exact zU hc h1 (by decide) (hg.trans he)
  ·refine⟨_,yQ.made (T.keep hB hxb) (by omega) hn,fun k hk=>?_⟩
   rw[List.getElem?_replicate,if_pos hk,if_pos rfl]
 ·rcases hlast hy with⟨hy,hj⟩|⟨rfl,hyx⟩
  ·rcases hlast hy' with⟨hy',hl'⟩|⟨rfl,hyx'⟩
   ·exact h5 j l y hy hy'
   ·obtain⟨bs,a,b⟩:=h4 j y hy
    have:=a.lt
    omega
  ·rcases hlast hy' with⟨hy',hl'⟩|⟨rfl,hyx'⟩
   ·obtain⟨bs,a,b⟩:=h4 l y hy'
    have:=a.lt
    omega
   ·rfl
end
theorem zA.wideV {S S':Nat→Prop}{w w':World}(t:zA S w w')(h:∀g,S g→S' g):zA S' w w':=⟨t.os,t.tape,t.output,t.size,fun k hk hS=>t.block k hk (fun he=>hS (h k he))⟩
inductive Pth (g:Gm) (m:Nat):Int→Int→Prop
 |one {A B:Int} (h:Qt g A B):Pth g m A B
 |step {A C B:Int} (h:Qt g A C) (hm:C < m) (h':Pth g m C B):Pth g m A B
theorem Pth.split {g:Gm}{m:Nat}{A B:Int}(h:Pth g (m+1) A B):Pth g m A B∨(Pth g m A m∧Pth g m m B):=by
 induction h with
 |one h=>exact .inl (.one h)
 |@step A C B h hm _ ih=>
  by_cases hc:C < m
  ·rcases ih with ih|⟨i1,i2⟩
   ·exact .inl (.step h hc ih)
   ·exact .inr ⟨.step h hc i1,i2⟩
  ·obtain rfl:C=m:=by omega
   rcases ih with ih|⟨i1,i2⟩
   ·exact .inr ⟨.one h,ih⟩
   ·exact .inr ⟨.one h,i2⟩
theorem vB.pth {g:Gm}(hg:VE g){n:Nat}(hn:g.nons=n){A B:Int}(h:vB g A B):Pth g n A B:=by
 induction h with
 |one h=>exact .one h
 |step h _ ih=>exact .step h (by have:=h.inside hg;omega) ih
theorem vB.inside {g:Gm}(hg:VE g){A B:Int}(h:vB g A B):0≤A∧A < g.nons:=by
 cases h with
 |one h=>have:=h.inside hg;omega
 |step h _=>have:=h.inside hg;omega
def vi (g:Gm)(p:Pd)(a:Nat)(β:Nat→Nat→Bool)(k:Nat):Prop:=∀(x:List Int) (B:Nat) (y:List Int),p.right=x++(g.terms+(B:Int)) ::y→(∀s∈x,g.terms≤s∧Zs g false (s - g.terms))→x.length < k→β a B=true
def Yq (g:Gm)(β:Nat→Nat→Bool)(i:Nat):Prop:=∀(j:Nat) (p:Pd),j < i→g.prods[j]?=some p→∀a:Nat,p.left=(a:Int)→vi g p a β (p.right.length+1)
theorem vi.mono {g:Gm}{p:Pd}{a:Nat}{β β':Nat→Nat→Bool}{k:Nat}(h:vi g p a β k)(hb:∀i j,β i j=true→β' i j=true):vi g p a β' k:=fun x B y h1 h2 h3=>hb _ _ (h x B y h1 h2 h3)
theorem Yq.mono {g:Gm}{β β':Nat→Nat→Bool}{k:Nat}(h:Yq g β k)(hb:∀i j,β i j=true→β' i j=true):Yq g β' k:=fun j p hj hp a ha=>(h j p hj hp a ha).mono hb
theorem Yq.next {g:Gm}{β:Nat→Nat→Bool}{i:Nat}{p:Pd}{a:Nat}(h:Yq g β i)(hp:g.prods[i]?=some p)(ha:p.left=(a:Int))(hd:vi g p a β (p.right.length+1)):Yq g β (i+1):=by
 intro j q hj hq b hb; by_cases hji:j=i
 ·subst hji
  rw[hp]at hq
  injection hq with hq; subst hq
  rw[ha]at hb
  obtain rfl:a=b:=by omega
  exact hd
 ·exact h j q (by omega) hq b hb
theorem vi.stop {g:Gm}{p:Pd}{a:Nat}{β:Nat→Nat→Bool}{k:Nat}(h:vi g p a β k)(hk:∀s,p.right[k]?=some s→s < g.terms):vi g p a β (p.right.length+1):=by
 intro x B y h1 h2 _; by_cases hx:x.length < k
 ·exact h x B y h1 h2 hx
 ·exfalso; by_cases hx2:x.length=k
  ·have:=hk (g.terms+(B:Int)) (by rw[h1,List.getElem?_append_right (by omega),hx2];simp)
   omega
  ·obtain⟨s,hs⟩:∃s,x[k]?=some s:=⟨_,List.getElem?_eq_getElem (by omega)⟩
   have h3:=hk s (by rw[h1,List.getElem?_append_left (by omega)];exact hs); have h4:=(h2 s (List.mem_of_getElem? hs)).1; omega
theorem vi.break_ {g:Gm}{p:Pd}{a:Nat}{β:Nat→Nat→Bool}{k:Nat}(h:vi g p a β (k+1)){s:Int}(hk:p.right[k]?=some s)(hs:¬Zs g false (s - g.terms)):vi g p a β (p.right.length+1):=by
 intro x B y h1 h2 _; by_cases hx:x.length < k+1
 ·exact h x B y h1 h2 hx
 ·exfalso
  have:x[k]?=some s:=by rw[h1,List.getElem?_append_left (by omega)]at hk;exact hk
  exact hs (h2 s (List.mem_of_getElem? this)).2
theorem vi.step {g:Gm}{p:Pd}{a:Nat}{β:Nat→Nat→Bool}{k:Nat}(h:vi g p a β k){c:Nat}{s:Int}(hk:p.right[k]?=some s)(hs:s - g.terms=(c:Int))(hc:β a c=true):vi g p a β (k+1):=by
 intro x B y h1 h2 hx; by_cases hxk:x.length < k
 ·exact h x B y h1 h2 hxk
 ·have:p.right[k]?=some (g.terms+(B:Int)):=by rw[h1,List.getElem?_append_right (by omega),show k - x.length=0 by omega];simp
  rw[hk]at this
  injection this with this; obtain rfl:B=c:=by omega
  exact hc
def zaZ (g:Gm)(β:Nat→Nat→Bool):Prop:=∀i j:Nat,β i j=true→Qt g (i:Int) (j:Int)
theorem zjP {g:Gm}{β:Nat→Nat→Bool}{n:Nat}(h:Yq g β n)(hn:n=g.prods.length){i j:Nat}(hb:Qt g (i:Int) (j:Int)):β i j=true:=by
 obtain⟨_,p,hp,hl,x,y,hr,hx⟩:=hb
 obtain⟨q,hq⟩:=List.mem_iff_getElem?.1 hp
 exact h q p (by rw[hn];exact(List.getElem?_eq_some_iff.1 hq).1) hq i hl x j y hr hx (by rw[hr];simp;omega)
def ziO (β0 β:Nat→Nat→Bool)(m i k:Nat):Prop:=β0 i m=true→β0 m k=true→β i k=true
def Qs (g:Gm)(β:Nat→Nat→Bool):Prop:=∀i j:Nat,β i j=true→vB g (i:Int) (j:Int)
def zei (g:Gm)(n:Nat)(β:Nat→Nat→Bool)(m:Nat):Prop:=∀i j:Nat,i < n→j < n→Pth g m (i:Int) (j:Int)→β i j=true
theorem zei.next {g:Gm}{n m:Nat}{β0 β:Nat→Nat→Bool}(h:zei g n β0 m)(hm:m < n)(hg:∀i j,β0 i j=true→β i j=true)(hw:∀i j,i < n→j < n→ziO β0 β m i j):zei g n β (m+1):=by
 intro i j hi hj hp; rcases hp.split with hp|⟨h1,h2⟩
 ·exact hg _ _ (h i j hi hj hp)
 ·exact hw i j hi hj (h i m hi hm h1) (h m j hm hj h2)
end Go.Proofs.YtmbelmngniddjaaGreat
