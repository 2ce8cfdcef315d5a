/- Rf: texts that the proof rests on, part 10. -/
import Derived.Test.YtmbelmngniddjaaGreatRf9
namespace Go.Proofs.YtmbelmngniddjaaGreat
open Go.RowKit
attribute [local go_sem] zF zB zI zJ zw zt zN zD zX zQ zK zP zO zL zT zR zS zG zM zC
def mxL (f:Nat→Int):Nat→Int
 |0=>0
 |i+1=>if mxL f i < f i then f i else mxL f i
theorem Jz {f:Nat→Int}{b:Int}:∀{n:Nat},(∀A,A < n→f A≤b)→0≤b→0≤mxL f n∧mxL f n≤b
 |0,_,h=>⟨Int.le_refl _,h⟩
 |n+1,h,hb=>by
  obtain⟨h1,h2⟩:=Jz (n:=n) (fun A hA=>h A (by omega)) hb
  have:=h n (by omega)
  simp only[mxL]
  split<;>omega
def ji (g:Gm)(i:Nat):Int:=(((g.prods[i]?).map fun p=>p.right.length).getD 0:Nat)
noncomputable def Ys (g:Gm):Int:=mxL (fun A=>ZM g (A:Int)) g.nons.toNat*(1+mxL (ji g) g.prods.length*mxL (fun A=>ZZ g (A:Int)) g.nons.toNat)+1
noncomputable def Ja (g:Gm):Int:=Ys g*(1+mxL (ji g) g.prods.length)+2
theorem zba {g:Gm}(hg:VE g){n:Nat}:0≤mxL (ji g) n∧mxL (ji g) n≤8:=Jz (fun A _=>by
 unfold ji; cases h:g.prods[A]? with
 |none=>simp
 |some p=>
  have:=hg.right p (List.mem_of_getElem? h)
  simp
  omega) (by omega)
def zf6 (w:World)(g:Gm)(e:Ending)(w':World):Prop:=e=.returned (.int .i64 (Ys g))∧1≤Ys g∧Ys g≤10000000000000000∧Ext w w'
set_option maxRecDepth 100000 in
set_option maxHeartbeats 4000000 in
theorem JQ (g:Gr)(w:World)(h:jC w g)(hac:jH g):Calls Tryz.prog 23 #[grV g] w (zf6 w g.gm):=by
 have h0:=hac.1
 obtain⟨n,hn⟩:∃n:Nat,g.nons=n:=⟨g.nons.toNat,by have:=yk h0;omega⟩
 have HNU:=zh (fun w1 h1=>zgN g n w1 h1 hac hn); have HDE:=zh (fun w1 h1=>zg3 g n w1 h1 hac hn); have HGO:=zh (YJ h0); have HLF:=zh hac.2.2.1; unfold grV at HNU HDE; clear hac
 obtain⟨hT,hN,hK,hP1,hP2⟩:=yk h0
 obtain⟨b1,W2,hb1,hW1,X1,GA,GO⟩:=xM g w h
 have HG2:=zh GA; have HO2:=zh GO; have HX2:=zh X1; have H0:=zh h0; have HNN:=zh hn; have hn16:1≤n∧n≤16:=by omega
 unfold grV
 obtain⟨m,hm⟩:∃m,g.prods.length=m:=⟨_,rfl⟩
 have HM:=zh hm
 rw[hm]at hP1 hP2 HNU HDE ⊢
 rw[hm]at hW1
 clear h X1 GA GO h0 hn hm; go_in
 go_upto_region 1 with fail; try simp only[hb1]
 try simp only[hW1]
 clear hb1 hW1
 obtain⟨e0,e1,e2,e3,el⟩:=HG2.out
 rw[HM.out]at e3
 refine zg (6) (zj [0,2] (.step 1 (.step 3 (zd [4,5] .fin)))) (by kernel_rfl) (by kernel_rfl) ?_; (repeat first|refine yq ?_|refine yr ?_)
 refine zp fun next hn=>?_;simp only[pick,yp]; go_wp2_with fail
 refine(HNU.out _ (HO2.out.ext xi)).mono ?_
 rintro e W3 ⟨na,ns,rfl,hb,hni,x3⟩; have HX3:Hid (Ext W2 W3):=zh (Ext.trans xi x3); have HNB:=zh hb; have HNI:=zh hni; clear hb hni x3; go_wp2_with fail; refine zk (fun _=>yZ HX3.out) (hn _ _ ?_); clear hn next; (repeat first|refine yq ?_|refine yr ?_)
 refine zp fun next hn=>?_;simp only[pick,yp]; go_wp2_with fail
 refine(HDE.out _ (HO2.out.ext (HX3.out.trans xi))).mono ?_
 rintro e W4 ⟨da,ds,rfl,hd,hdi,x4⟩; have x34:Ext W3 W4:=Ext.trans xi x4; have HX4:Hid (Ext W2 W4):=zh (HX3.out.trans x34); have HNB4:=zh (HNB.out.ext x34); have HDB:=zh hd; have HDI:=zh hdi; clear hd hdi x4 x34 HNB HNU HDE; go_wp2_with fail; refine zk (fun _=>yZ HX4.out) (hn _ _ ?_); clear hn next; (repeat first|refine yq ?_|refine yr ?_)
 refine zv ?_; clear e0 e1 e2 e3 el; have q0:((n:Int)==0)=false:=by simp;omega
 have q1:decide ((n:Int)=0)=false:=by simp;omega
 go_wp2_with fail; clear q0 q1; have hbt:Jh=40210710958665:=rfl; go_loopw [5,6,8] (fun dv nv iv wr=>∃(i:Nat) (d x:Int),dv=.int .i64 d∧nv=.int .i64 x∧iv=.int .i64 i∧i≤n∧Hid (d=mxL (fun A=>ZM g.gm (A:Int)) i)∧Hid (x=mxL (fun A=>ZZ g.gm (A:Int)) i)∧Hid (Ext W4 wr)) (fun _ _ iv _=>n - (intOf iv).toNat)
 case atStart=>exact⟨0,0,0,rfl,rfl,rfl,Nat.zero_le _,zh rfl,zh rfl,zh xi⟩
 case round=>
  obtain⟨i,d,x,rfl,rfl,rfl,hi,HD,HN,HX⟩:=hrel
  by_cases hlt:i < n
  ·obtain⟨u0,_,_⟩:=HNI.out i hlt
   obtain⟨v0,_,_⟩:=HDI.out i hlt
   have c0:=(HNB4.out.ext HX.out).get u0; have cl:=(HNB4.out.ext HX.out).lt; have d0:=(HDB.out.ext HX.out).get v0; have dl:=(HDB.out.ext HX.out).lt
   obtain⟨u,hu⟩:∃u,ZZ g.gm (i:Int)=u:=⟨_,rfl⟩
   obtain⟨v,hv⟩:∃u,ZM g.gm (i:Int)=u:=⟨_,rfl⟩
   rw[hu]at c0
   rw[hv]at d0
   obtain⟨m1,hm1⟩:∃m,(if d < v then v else d)=m:=⟨_,rfl⟩
   obtain⟨m2,hm2⟩:∃m,(if x < u then u else x)=m:=⟨_,rfl⟩
   have HD2:Hid (m1=mxL (fun A=>ZM g.gm (A:Int)) (i+1)):=zh (by simp only[mxL];rw[←HD.out,hv,hm1]); have HN2:Hid (m2=mxL (fun A=>ZZ g.gm (A:Int)) (i+1)):=zh (by simp only[mxL];rw[←HN.out,hu,hm2]); clear u0 v0 hu hv; go_upto_region 8 with fail; refine zg (14) (zd [0,1,2,3,6,7,8,9] (zj [4,5,10,11,12,13] .fin)) (by kernel_rfl) (by kernel_rfl) ?_; (repeat first|refine yq ?_|refine yr ?_)
   refine zv ?_; clear hm1 hm2; go_wp2_with fail; go_roundw
   case rel=>exact⟨i+1,m1,m2,rfl,rfl,by go_num,by omega,HD2,HN2,zh (HX.out.trans xi)⟩
   case measure=>simp[intOf];omega
  ·obtain rfl:i=n:=by omega
   have HDB2:Hid (0≤d∧d≤Jh):=zh (by rw[HD.out];exact Jz (fun A hA=>(HDI.out A hA).2.2) (by omega)); have HNB2:Hid (0≤x∧x≤Jh):=zh (by rw[HN.out];exact Jz (fun A hA=>(HNI.out A hA).2.2) (by omega)); have HX5:=zh HX.out; clear HX; go_wp2_with fail; go_loopw [7,9] (fun rv iv wr=>∃(j:Nat) (r:Int),rv=.int .i64 r∧iv=.int .i64 j∧j≤m∧Hid (r=mxL (ji g.gm) j)∧Hid (Ext W4 wr)) (fun _ iv _=>m - (intOf iv).toNat)
   case atStart=>exact⟨0,0,rfl,rfl,Nat.zero_le _,zh rfl,HX5⟩
   case round=>
    clear HX5
    obtain⟨j,r,rfl,rfl,hj,HR,HX⟩:=hrel
    obtain⟨e0,e1,e2,e3,el⟩:=HG2.out.ext (HX4.out.trans HX.out)
    rw[HM.out]at e3
    by_cases hlj:j < m
    ·obtain⟨p,hp⟩:∃p,g.prods[j]?=some p:=⟨_,List.getElem?_eq_getElem (by have:=HM.out;omega)⟩
     obtain⟨pg,po,hA,pl,d0,d1,_⟩:=(HO2.out.ext (HX4.out.trans HX.out)).prd hp
     have hpg:=vO hp
     obtain⟨left,rA,rc,right⟩:=p
     rw[hA]at e3
     dsimp only at d0 d1
     obtain⟨rn,hrn⟩:∃k,right.length=k:=⟨_,rfl⟩
     obtain⟨m1,hm1⟩:∃m,(if r < (rn:Int)then(rn:Int)else r)=m:=⟨_,rfl⟩
     have HR2:Hid (m1=mxL (ji g.gm) (j+1)):=zh (by
      simp only[mxL]
      rw[show ji g.gm j=(rn:Int)from by unfold ji;rw[hpg];simp[hrn],←HR.out,hm1])
     rw[hrn]at d1
     clear hp hA hpg hrn; go_wp2_with fail; clear hm1; go_roundw
     case rel=>exact⟨j+1,m1,rfl,by go_num,by omega,HR2,HX⟩
     case measure=>simp[intOf];omega
    ·obtain rfl:j=m:=by omega
     have HRB:Hid (0≤r∧r≤8):=zh (by rw[HR.out];exact zba HGO.out); have hd16:0≤d∧d≤16:=by
      rw[HD.out]
      exact Jz (fun A _=>by
       unfold ZM; split
       ·rename_i hh
        have:=(Classical.choose_spec hh).1.top HGO.out HLF.out
        omega
       ·omega) (by omega)
     have h1:=HNB2.out; have h2:=HRB.out
     obtain⟨p1,hp1⟩:∃p,r*x=p:=⟨_,rfl⟩
     have hpb:0≤p1∧p1≤8*Jh:=by
      rw[←hp1]
      exact⟨Int.mul_nonneg h2.1 h1.1,Int.le_trans (Int.mul_le_mul_of_nonneg_right h2.2 h1.1) (Int.mul_le_mul_of_nonneg_left h1.2 (by omega))⟩
     obtain⟨p2,hp2⟩:∃p,d*(1+p1)=p:=⟨_,rfl⟩
     have hpb2:0≤p2∧p2≤16*(1+8*Jh):=by
      rw[←hp2]
      exact⟨Int.mul_nonneg hd16.1 (by omega),Int.le_trans (Int.mul_le_mul_of_nonneg_right hd16.2 (by omega)) (Int.mul_le_mul_of_nonneg_left (by omega) (by omega))⟩
     have f1:wrap64 p1=p1:=IntWalk.wrap64_in _ (by omega); have f2:wrap64 (1+p1)=1+p1:=IntWalk.wrap64_in _ (by omega); have f3:wrap64 p2=p2:=IntWalk.wrap64_in _ (by omega); have f4:wrap64 (p2+1)=p2+1:=IntWalk.wrap64_in _ (by omega); have HCE:Hid (p2+1=Ys g.gm):=zh (by
      unfold Ys
      rw[←hp2,←hp1,HR.out,HD.out,HN.out,show g.gm.nons.toNat=i from by show g.nons.toNat=i;have:=HNN.out;omega,show g.gm.prods.length=j from by rw[←HM.out];simp[Gr.gm]])
     have HCB:Hid (1≤p2+1∧p2+1≤10000000000000000):=zh (by omega); have HF4:=zh f4; clear h1 h2 hpb hpb2 hd16; go_wp2_with fail; go_ret
     refine⟨?_,by rw[←HCE.out];exact HCB.out.1,by rw[←HCE.out];exact HCB.out.2,HX2.out.trans (HX4.out.trans HX.out)⟩
     exact yt (HF4.out.trans HCE.out)
set_option maxRecDepth 100000 in
set_option maxHeartbeats 2000000 in
theorem zbe (g:Gr)(w:World)(h:jC w g)(hac:jH g):Calls Tryz.prog 9 #[grV g] w fun e w'=>e=.returned (.int .i64 (Ja g.gm))∧3≤Ja g.gm∧Ext w w':=by
 have h0:=hac.1
 obtain⟨n,hn⟩:∃n:Nat,g.nons=n:=⟨g.nons.toNat,by have:=yk h0;omega⟩
 have HCO:=zh (fun w1 h1=>JQ g w1 h1 hac); have HGO:=zh (YJ h0); unfold grV at HCO; clear hac
 obtain⟨hT,hN,hK,hP1,hP2⟩:=yk h0
 obtain⟨b1,W2,hb1,hW1,X1,GA,GO⟩:=xM g w h
 have HG2:=zh GA; have HO2:=zh GO; have HX2:=zh X1; have H0:=zh h0; have HNN:=zh hn; have hn16:1≤n∧n≤16:=by omega
 unfold grV
 obtain⟨m,hm⟩:∃m,g.prods.length=m:=⟨_,rfl⟩
 have HM:=zh hm
 rw[hm]at hP1 hP2 HCO ⊢
 rw[hm]at hW1
 clear h X1 GA GO h0 hn hm; go_in
 go_upto_region 1 with fail; try simp only[hb1]
 try simp only[hW1]
 clear hb1 hW1; go_wp2_with fail; go_loopw [3,4] (fun rv iv wr=>∃(j:Nat) (r:Int),rv=.int .i64 r∧iv=.int .i64 j∧j≤m∧Hid (r=mxL (ji g.gm) j)∧Hid (Ext W2 wr)) (fun _ iv _=>m - (intOf iv).toNat)
 case atStart=>exact⟨0,0,rfl,rfl,Nat.zero_le _,zh rfl,zh (Ext.refl _)⟩
 case round=>
  obtain⟨j,r,rfl,rfl,hj,HR,HX⟩:=hrel
  obtain⟨e0,e1,e2,e3,el⟩:=HG2.out.ext HX.out
  rw[HM.out]at e3
  by_cases hlj:j < m
  ·obtain⟨p,hp⟩:∃p,g.prods[j]?=some p:=⟨_,List.getElem?_eq_getElem (by have:=HM.out;omega)⟩
   obtain⟨pg,po,hA,pl,d0,d1,_⟩:=(HO2.out.ext HX.out).prd hp
   have hpg:=vO hp
   obtain⟨left,rA,rc,right⟩:=p
   rw[hA]at e3
   dsimp only at d0 d1
   obtain⟨rn,hrn⟩:∃k,right.length=k:=⟨_,rfl⟩
   obtain⟨m1,hm1⟩:∃m,(if r < (rn:Int)then(rn:Int)else r)=m:=⟨_,rfl⟩
   have HR2:Hid (m1=mxL (ji g.gm) (j+1)):=zh (by
    simp only[mxL]
    rw[show ji g.gm j=(rn:Int)from by unfold ji;rw[hpg];simp[hrn],←HR.out,hm1])
   rw[hrn]at d1
   clear hp hA hpg hrn; go_wp2_with fail; clear hm1; go_roundw
   case rel=>exact⟨j+1,m1,rfl,by go_num,by omega,HR2,HX⟩
   case measure=>simp[intOf];omega
  ·obtain rfl:j=m:=by omega
   have hrb:0≤r∧r≤8:=by rw[HR.out];exact zba HGO.out
   go_wp2_with fail
   refine(HCO.out _ (HO2.out.ext HX.out)).mono ?_
   rintro e W5 ⟨rfl,hc1,hc2,x5⟩; have HX5:=zh (HX.out.trans x5)
   obtain⟨c,hc⟩:∃c,Ys g.gm=c:=⟨_,rfl⟩
   rw[hc]at hc1 hc2
   obtain⟨p1,hp1⟩:∃p,c*(1+r)=p:=⟨_,rfl⟩
   have hpb:1≤p1∧p1≤90000000000000000:=by
    rw[←hp1]
    have k1:c*1≤c*(1+r):=Int.mul_le_mul_of_nonneg_left (by omega) (by omega); have k2:c*(1+r)≤c*9:=Int.mul_le_mul_of_nonneg_left (by omega) (by omega); omega
   have f2:wrap64 (1+r)=1+r:=IntWalk.wrap64_in _ (by omega); have f1:wrap64 p1=p1:=IntWalk.wrap64_in _ (by omega); have f3:wrap64 (p1+2)=p1+2:=IntWalk.wrap64_in _ (by omega); have HCE:Hid (p1+2=Ja g.gm):=zh (by
    unfold Ja
    rw[hc,←hp1,HR.out,show g.gm.prods.length=j from by rw[←HM.out];simp[Gr.gm]])
   have HCB:Hid (3≤p1+2):=zh (by omega); have HF3:=zh f3; clear x5 HCO e0 e1 e2 e3 el hpb; go_wp2_with fail; go_ret
   exact⟨yt (HF3.out.trans HCE.out),by rw[←HCE.out];exact HCB.out,HX2.out.trans HX5.out⟩
def toF (nl:List Int)(m i b:Nat):Nat:=if i=m then m else if nl.getD (256*i+b) 0 < 0 then m else(nl.getD (256*i+b) 0).toNat
theorem zhl {nl rl:List Int}(hO:YK nl rl){i b:Nat}(hi:i≤rl.length)(hb:b < 256):toF nl rl.length i b≤rl.length:=by
 unfold toF; split
 ·omega
 ·split
  ·omega
  ·have hlt:256*i+b < nl.length:=by rw[hO.len];omega
   have:=hO.next (nl.getD (256*i+b) 0) (by rw[List.getD_eq_getElem?_getD,List.getElem?_eq_getElem hlt];exact List.getElem_mem hlt)
   omega
set_option maxRecDepth 100000 in
set_option maxHeartbeats 4000000 in
theorem zhr (nv rv:Value)(nl rl:List Int)(i b:Nat)(w:World)(hN:Zi w nv rv nl rl)(hO:YK nl rl)(hi:i≤rl.length)(hb:b < 256):
 Calls Tryz.prog 88 #[.agg #[nv,rv],.int .i64 i,.int .i64 b] w fun e w'=>e=.returned (.int .i64 (toF nl rl.length i b))∧Ext w w':=by
 obtain⟨W,hW⟩:∃W,w.alloc (.cells #[nv,rv] 35)=W:=⟨_,rfl⟩
 obtain⟨g0,hg0⟩:∃b,w.heap.size=b:=⟨_,rfl⟩
 have X1:Ext w W:=by rw[←hW];exact xi
 have B1:W.heap[g0]?=some (.cells #[nv,rv] 35):=by rw[←hW,←hg0];exact heap_alloc_new _ _
 obtain⟨⟨A,c,hnv,hA,_⟩,B,d,hrv,hB,_⟩:=hN
 have h2:=hO.most
 obtain⟨ga,oa,rfl,lga,hac⟩:=(hA.ext X1).get (by rw[hO.len];have:=hO.one;omega)
 obtain⟨m,hmm⟩:∃m,rl.length=m:=⟨_,rfl⟩
 have b0:=cr 0 B1; have b1:=cr 1 B1; have lb:=za B1
 rw[hnv,hO.len,hmm]at b0
 rw[hrv,hmm]at b1
 simp at b0 b1
 have HX:=zh X1; have HNL:Hid (nl.length=256*m):=zh (by rw[hO.len,hmm]); have HAC:=zh hac; have HNX:=zh hO.next; have HM:=zh hmm
 rw[hmm]at hi h2
 simp only[hmm]
 clear hO hnv hrv hA hB hac hmm B1 X1; by_cases him:i=m
 ·subst him; have HR:Hid (toF nl i i b=i):=zh (by unfold toF;rw[if_pos rfl]); go_in
  go_wp2_with fail; go_ret
  exact⟨yt (by rw[HR.out]),HX.out.trans xi⟩
 ·have hlt:256*i+b < nl.length:=by rw[HNL.out];omega
  obtain⟨x,hx⟩:∃x,nl[256*i+b]?=some x:=⟨_,List.getElem?_eq_getElem hlt⟩
  have x0:=HAC.out _ x hx; have hgd:nl.getD (256*i+b) 0=x:=by rw[List.getD_eq_getElem?_getD,hx];rfl
  have hxn:=HNX.out x (List.mem_of_getElem? hx); have HR:Hid (toF nl m i b=if x < 0 then m else x.toNat):=zh (by unfold toF;rw[if_neg him,hgd])
  have q0:((i:Int)==m)=false:=by simp;omega
  have q1:decide ((i:Int)=m)=false:=by simp;omega
  have q3:decide (i=m)=false:=by simp;omega
  clear hgd hx; by_cases h0:x < 0
  ·go_in
   go_wp2_with fail; go_ret
   exact⟨yt (by rw[HR.out,if_pos h0]),HX.out.trans xi⟩
  ·go_in
   go_wp2_with fail; go_ret
   exact⟨yt (by rw[HR.out,if_neg (by omega)];omega),HX.out.trans xi⟩
def zfe (nl:List Int)(m:Nat)(ps:List Int)(i k:Nat):Prop:=ps.getD i 0=ps.getD k 0∧∀b,b < 256→ps.getD (toF nl m i b) 0=ps.getD (toF nl m k b) 0
set_option maxRecDepth 100000 in
set_option maxHeartbeats 4000000 in
theorem zev (nv rv:Value)(nl rl ps:List Int)(P:Option Addr)(pc i k:Nat)(r:Bool)(w:World)(hN:Zi w nv rv nl rl)(hO:YK nl rl)(hP:xW w P ps)(hp:ps.length=rl.length+1)(hi:i≤rl.length)(hk:k≤rl.length)(hr:r=true↔zfe nl rl.length ps i k):
 Calls Tryz.prog 120 #[.agg #[nv,rv],.slice P ps.length pc,.int .i64 i,.int .i64 k] w fun e w'=>e=.returned (.bool r)∧Ext w w':=by
 obtain⟨W,hW⟩:∃W,w.alloc (.cells #[nv,rv] 35)=W:=⟨_,rfl⟩
 obtain⟨g0,hg0⟩:∃b,w.heap.size=b:=⟨_,rfl⟩
 have X1:Ext w W:=by rw[←hW];exact xi
 have B1:W.heap[g0]?=some (.cells #[nv,rv] 35):=by rw[←hW,←hg0];exact heap_alloc_new _ _
 obtain⟨gp,op,rfl,lgp,hpc⟩:=(hP.ext X1) (by omega)
 obtain⟨m,hmm⟩:∃m,rl.length=m:=⟨_,rfl⟩
 have h2:=hO.most
 rw[hmm]at hi hk hp h2 hr
 have p0:=hpc i (by omega); have p1:=hpc k (by omega); have HP:Hid (∀wr,Ext W wr→∀j,j≤m→wr.cell? ⟨gp,op+j,none⟩=some (.int .i64 (ps.getD j 0))):=zh (fun wr e j hj=>zy (hpc j (by omega)) lgp e); have HE:Hid (∀wr,Ext W wr→wr.cell? ⟨g0,0,none⟩=some nv∧wr.cell? ⟨g0,1,none⟩=some rv∧g0 < wr.heap.size∧gp < wr.heap.size):=zh (fun wr e=>by
  have:=zb B1 e
  have b0:=cr 0 this; have b1:=cr 1 this; simp at b0 b1
  exact⟨b0,b1,za this,Nat.lt_of_lt_of_le lgp e.size⟩)
 have HT:Hid (∀wr,Ext W wr→∀j b,j≤m→b < 256→toF nl m j b≤m∧Calls Tryz.prog 88 #[.agg #[nv,rv],.int .i64 j,.int .i64 b] wr fun e w'=>e=.returned (.int .i64 (toF nl m j b))∧Ext wr w'):=zh (fun wr e j b hj hb=>by
  have h1:=zhr nv rv nl rl j b wr (hN.ext (X1.trans e)) hO (by omega) hb; have h3:=zhl hO (i:=j) (b:=b) (by omega) hb
  rw[hmm]at h1 h3
  exact⟨h3,h1⟩)
 have HX:=zh X1; have HRR:=zh hr
 rw[hp]
 clear hN hO hP hp hmm B1 X1 hpc hr
 obtain⟨x,hx⟩:∃x,ps.getD i 0=x:=⟨_,rfl⟩
 obtain⟨y,hy⟩:∃y,ps.getD k 0=y:=⟨_,rfl⟩
 rw[hx]at p0
 rw[hy]at p1
 have HX0:=zh hx; have HY0:=zh hy; clear hx hy; go_in
 go_upto_region 1 with fail; refine yj (9) (zd [0,1,2,4,5,6] (zj [3,7,8] .fin)) (by kernel_rfl) (by kernel_rfl) ?_; refine btp ?_; refine bts ?_; (refine xw ?_)
 try simp only[hg0]
 by_cases hxy:x=y
 ·subst hxy; simp only[bne_self_eq_false]
  go_wp2_with fail; clear p0 p1 hW hg0 lgp; go_loopw [9] (fun i' wr=>∃b:Nat,b≤256∧i'=.int .i64 b∧Hid (Ext W wr)∧Hid (∀c,c < b→ps.getD (toF nl m i c) 0=ps.getD (toF nl m k c) 0)) (fun b _=>256 - (intOf b).toNat)
  case atStart=>exact⟨0,Nat.zero_le _,rfl,zh xi,zh (fun c hc=>by omega)⟩
  case round=>
   obtain⟨b,hb,rfl,hx1,hs⟩:=hrel
   by_cases hlt:b < 256
   ·obtain⟨e0,e1,l0,lp⟩:=HE.out _ hx1.out
    obtain⟨t1,C1⟩:=HT.out _ (hx1.out.trans (xi:Ext wr wr.drew)) i b hi hlt
    have HC1:=zh C1; clear C1; go_upto_region 6 with fail; refine yj (15) (zd [0,2,3,7,9,10] (zj [1,8] (.step 4 (zd [5] (zj [6] (.step 11 (zd [12] (zj [13,14] .fin)))))))) (by kernel_rfl) (by kernel_rfl) ?_; refine btp ?_; refine bts ?_; refine yy fun next hn=>?_;simp only[pick,yp]; go_wp2_with fail; refine HC1.out.mono ?_; rintro e w2 ⟨rfl,hx2⟩; have HY2:Hid (Ext wr w2):=zh (Ext.trans xi hx2); have r1:=HP.out _ hx1.out _ t1
    obtain⟨t2,C2⟩:=HT.out _ (hx1.out.trans HY2.out) k b hk hlt
    have HC2:=zh C2
    obtain⟨ta,hta⟩:∃ta,toF nl m i b=ta:=⟨_,rfl⟩
    obtain⟨tb,htb⟩:∃tb,toF nl m k b=tb:=⟨_,rfl⟩
    rw[hta]at r1 t1
    rw[htb]at t2 HC2
    simp only[hta]
    obtain⟨x1,hx1v⟩:∃x1,ps.getD ta 0=x1:=⟨_,rfl⟩
    rw[hx1v]at r1
    have HA:=zh (And.intro hta hx1v); clear hx2 C2 HC1 hta hx1v e0 e1; go_wp2_with fail; refine zk (fun _=>yZ HY2.out) (hn _ _ ?_); clear hn next; refine btp ?_; refine bts ?_; refine yy fun next hn=>?_;simp only[pick,yp]; go_wp2_with fail; refine HC2.out.mono ?_; rintro e w3 ⟨rfl,hx3⟩; have HY3:Hid (Ext wr w3):=zh (HY2.out.trans hx3); have r2:=HP.out _ hx1.out _ t2
    obtain⟨x2,hx2v⟩:∃x2,ps.getD tb 0=x2:=⟨_,rfl⟩
    rw[hx2v]at r2
    have HB:=zh (And.intro htb hx2v); clear hx3 HC2 htb hx2v r1; go_wp2_with fail; refine zk (fun _=>yZ HY3.out) (hn _ _ ?_); clear hn next; refine btp ?_; refine bts ?_; (refine xw ?_)
    by_cases h12:x1=x2
    ·have HS2:Hid (∀c,c < b+1→ps.getD (toF nl m i c) 0=ps.getD (toF nl m k c) 0):=zh (fun c hc=>by
      rcases Nat.lt_or_ge c b with h|h
      ·exact hs.out c h
      ·obtain rfl:c=b:=by omega
       rw[HA.out.1,HB.out.1,HA.out.2,HB.out.2,h12])
     subst h12; go_wp2_with fail; go_roundw
     case rel=>exact⟨b+1,by omega,by go_num,zh (hx1.out.trans HY3.out),HS2⟩
     case measure=>simp[intOf];omega
    ·have hrf:Hid (r=false):=zh (by
      cases hr:r with
      |false=>rfl
      |true=>exact absurd ((HRR.out.1 hr).2 b hlt) (by rw[HA.out.1,HB.out.1,HA.out.2,HB.out.2];exact h12))
     have q:(x1 !=x2)=true:=by simp[h12]
     go_wp2_with fail; go_ret
     exact⟨yx hrf.out.symm,HX.out.trans (hx1.out.trans (HY3.out.trans xi))⟩
   ·obtain rfl:b=256:=by omega
    have hrt:Hid (r=true):=zh (HRR.out.2 ⟨HX0.out.trans HY0.out.symm,hs.out⟩); go_wp2_with fail; go_ret
    exact⟨yx hrt.out.symm,HX.out.trans hx1.out⟩
 ·have hrf:Hid (r=false):=zh (by
   cases hr:r with
   |false=>rfl
   |true=>exact absurd (HRR.out.1 hr).1 (by rw[HX0.out,HY0.out];exact hxy))
  have q:(x !=y)=true:=by simp[hxy]
  go_wp2_with fail; go_ret
  exact⟨yx hrf.out.symm,HX.out.trans xi⟩
def jN (f:Nat→Int)(k n:Nat):List Int:=(List.range n).map fun j=>if j < k then f j else 0
theorem qR (f:Nat→Int)(k n:Nat):(jN f k n).length=n:=by simp[jN]
theorem Zy (f:Nat→Int){k n j:Nat}(h:j < n):(jN f k n)[j]?=some (if j < k then f j else 0):=by simp[jN,h]
theorem Vn (f:Nat→Int)(n:Nat):madeCells #[.int .i64 0] n=(iv (jN f 0 n)).toArray:=by
 apply Array.toList_inj.1
 rw[toList_madeCells_one]
 apply List.ext_getElem
 ·simp[jN,iv]
 ·intro i h1 h2; simp[jN,iv]
theorem zel (f:Nat→Int){k n:Nat}(h:k < n):(iv (jN f k n)).set k (.int .i64 (f k))=iv (jN f (k+1) n):=by
 apply List.ext_getElem?
 intro j; by_cases hj:j < n
 ·by_cases hk:k=j
  ·subst hk
   rw[List.getElem?_set_self (by rw[qX,qR];exact h)]
   unfold iv
   rw[List.getElem?_map,Zy f hj,if_pos (by omega)]
   rfl
  ·rw[List.getElem?_set_ne hk]
   unfold iv
   rw[List.getElem?_map,List.getElem?_map,Zy f hj,Zy f hj]
   congr 2
   by_cases hjk:j < k
   ·rw[if_pos hjk,if_pos (by omega)]
   ·rw[if_neg hjk,if_neg (by omega)]
 ·rw[List.getElem?_eq_none (by rw[List.length_set,qX,qR];omega),List.getElem?_eq_none (by rw[qX,qR];omega)]
theorem Vf {w:World}{g:Nat}{xs:List Int}{cs:Array Value}(h:w.heap[g]?=some (.cells cs 3))(hc:cs=(iv xs).toArray):xW w (some ⟨g,0,none⟩) xs:=fun _=>⟨g,0,rfl,za h,fun k hk=>by
 rw[Nat.zero_add,cr k h,hc,List.getElem?_toArray]
 exact J8 hk⟩
theorem zex {w:World}{g k n:Nat}{f:Nat→Int}(h:w.heap[g]?=some (.cells (iv (jN f k n)).toArray 3))(hk:k < n):(w.setCell ⟨g,k,none⟩ (.int .i64 (f k))).heap[g]?=some (.cells (iv (jN f (k+1) n)).toArray 3):=by
 have:=zn (k:=k) h (.int .i64 (f k))
 rwa[List.setIfInBounds_toArray,zel f hk]at this
def ps0 (rl:List Int):List Int:=jN (fun j=>rl.getD j 0+1) rl.length (rl.length+1)
end Go.Proofs.YtmbelmngniddjaaGreat
namespace Go.Proofs.YtmbelmngniddjaaGreat
open Go.RowKit Go.Maps
attribute [local go_sem] zF zB zI zJ zw zt zN zD zX zQ zK zP zO zL zT zR zS zG zM zC
theorem zeN:Keyed Tryz.prog 3:=int_keyed Tryz.underlying3
def YV (w:World)(b n:Nat)(f:Int→Option Int):Prop:=
 ∃D:DataW Unit,w.ownsMap Tryz.prog 3 (plainElem Tryz.prog 3) b n D∧IsMap D∧∀x:Int,has D (.int .i64 x)=(f x).isSome∧D.atKey (.int .i64 x) (.lit (.int .i64 0))=.lit (.int .i64 ((f x).getD 0))
theorem YV.made (w:World):YV (w.alloc (.map #[] 0)) w.heap.size 0 fun _=>none:=⟨.map [],World.ownsMap_made _ _ _ _,isMap_empty,fun _=>⟨rfl,rfl⟩⟩
theorem YV.keep {w w':World}{b n:Nat}{f:Int→Option Int}{S:Nat→Prop}(h:YV w b n f)(t:zA S w w')(hS:¬S b):YV w' b n f:=by
 obtain⟨D,⟨es,cl,h1,h3⟩,h2⟩:=h
 exact⟨D,⟨es,cl,(t.block b (za h1) hS).trans h1,h3⟩,h2⟩
theorem YV.ext {w w':World}{b n:Nat}{f:Int→Option Int}(h:YV w b n f)(e:Ext w w'):YV w' b n f:=by
 obtain⟨D,⟨es,cl,h1,h3⟩,h2⟩:=h
 exact⟨D,⟨es,cl,zb h1 e,h3⟩,h2⟩
theorem YV.obj {w:World}{b n:Nat}{f:Int→Option Int}(h:YV w b n f):∃es cl,w.heap[b]?=some (.map es cl):=by
 obtain⟨D,⟨es,cl,h1,h3⟩,h2⟩:=h
 exact⟨es,cl,h1⟩
theorem YV.ne {w:World}{b n g:Nat}{f:Int→Option Int}{cs:Array Value}{T:TypeId}(h:YV w b n f)(hg:w.heap[g]?=some (.cells cs T)):b≠g:=by
 obtain⟨es,cl,h1⟩:=h.obj
 rintro rfl
 rw[h1]at hg
 cases hg
set_option maxRecDepth 100000 in
theorem YV.look {w:World}{b n:Nat}{f:Int→Option Int}(h:YV w b n f)(k:Int)(h1:-9223372036854775808≤k)(h2:k≤9223372036854775807):
 (Instr.lookup 159 (.map (some b)) (.int .i64 k) true).run Tryz.prog w=.ok (.tuple #[.int .i64 ((f k).getD 0),.bool (f k).isSome]) w:=by
 obtain⟨D,h3,_,h4⟩:=h
 obtain⟨v,ps,hrun,hv⟩:=h3.look_ok zeN Tryz.underlying159 (zbm w) (plainElem_int Tryz.underlying3 (Vy (by omega) (by omega))) (keyOf_int_mk (P:=Tryz.prog) Tryz.underlying3 (Vy h1 h2))
 obtain⟨c,rfl,hc,hwc⟩:=plainElem_int_inv Tryz.underlying3 hv
 simp only[Prod.mk.injEq]at hc
 have h5:=hc.1
 rw[(h4 _).2]at h5
 injection h5 with h5; injection h5 with _ h5
 rw[hrun,h5,(h4 _).1]
set_option maxRecDepth 100000 in
theorem YV.put {w:World}{b n:Nat}{f:Int→Option Int}(h:YV w b n f)(hn:n≤1000000000)(k u:Int)(hk1:-9223372036854775808≤k)(hk2:k≤9223372036854775807)(h1:-9223372036854775808≤u)(h2:u≤9223372036854775807):
 ∃w',(Instr.mapUpdate 159 (.map (some b)) (.int .i64 k) (.int .i64 u)).run Tryz.prog w=.ok () w'∧YV w' b (n+1) (fun y=>if y=k then some u else f y)∧zA (fun i=>i=b) w w':=by
 obtain⟨D,h5,h6,h7⟩:=h
 have hn2:n < maxLen:=Nat.lt_of_le_of_lt hn (by unfold maxLen;decide)
 obtain⟨w',hrun,ho,hgr⟩:=h5.update zeN Tryz.underlying159 hn2 (keyOf_int_mk (P:=Tryz.prog) Tryz.underlying3 (Vy hk1 hk2)) (plainElem_int Tryz.underlying3 (Vy h1 h2))
 refine⟨w',hrun,⟨_,ho,h6.put _ _,fun y=>?_⟩,zA.grown hgr fun i hi _=>by injection hi with hi;exact hi.symm⟩
 dsimp only; by_cases hy:y=k
 ·subst hy
  rw[if_pos rfl]
  exact⟨(has_put_same h6 (by trivial) _).trans rfl,atKey_put_same h6 (by trivial) _ _⟩
 ·rw[if_neg hy]
  exact⟨(has_put_other (fun he=>hy (by injection he)) _).trans (h7 y).1,(atKey_put_other (fun he=>hy (by injection he)) _ _).trans (h7 y).2⟩
def j8 (x y:Value):Prop:=∀g,x.ownBlock=some g→y.ownBlock≠some g
theorem j8.symm {x y:Value}(h:j8 x y):j8 y x:=fun g h1 h2=>h g h2 h1
theorem xj.own {w:World}{base:Nat}{v:Value}{xs:List Int}(h:xj w base v xs):w.ownsRow base 3 1 v xs.length (iv xs):=by
 obtain⟨A,c,rfl,h⟩:=h
 exact h
theorem xj.keepT {w w':World}{base:Nat}{x:Value}{xs:List Int}{S:Nat→Prop}(h:xj w base x xs)(t:zA S w w')(hS:∀g,x.ownBlock=some g→¬S g):xj w' base x xs:=by
 have hx:=h.own
 obtain⟨A,c,rfl,h⟩:=h
 exact⟨A,c,rfl,ye h fun k hk=>t.block k (z8 hx k hk) (hS k hk)⟩
theorem xj.obj {w:World}{base:Nat}{x:Value}{xs:List Int}(h:xj w base x xs):∀g,x.ownBlock=some g→∃cur,w.heap[g]?=some (.cells cur 3):=zZ h.own
theorem j8.grown {w:World}{base:Nat}{v v' x:Value}{xs:List Int}(h:j8 v x)(hx:xj w base x xs)(hat:v'.ownBlock=v.ownBlock∨v'.ownBlock=some w.heap.size):j8 v' x:=fun g h1 h2=>by
 rcases hat with h3|h3
 ·exact h g (h3▸h1) h2
 ·rw[h3]at h1;injection h1 with h1;have:=z8 hx.own g h2;omega
structure Ls (w0 w:World)(db mb:Nat)(nv rv sv:Value)(nl rl sl:List Int)(f:Int→Option Int):Prop where
 blk:w.heap[db]?=some (.cells #[nv,rv] 35)
 low:w0.heap.size≤db
 nxt:xj w w0.heap.size nv nl
 rul:xj w w0.heap.size rv rl
 sts:xj w w0.heap.size sv sl
 a1:j8 nv rv
 a2:j8 nv sv
 a3:j8 rv sv
 map:∃q,q≤sl.length∧YV w mb q f
 mlow:w0.heap.size≤mb
 ext:Ext w0 w
section
variable {w0 w w2:World}{db mb:Nat}{nv rv sv v':Value}{nl rl sl:List Int}{f:Int→Option Int}{y:Int}
theorem Ls.toExt (h:Ls w0 w db mb nv rv sv nl rl sl f)(e:Ext w w2):Ls w0 w2 db mb nv rv sv nl rl sl f:=by
 obtain⟨q,h1,h2⟩:=h.map
 exact⟨zb h.blk e,h.low,h.nxt.ext e,h.rul.ext e,h.sts.ext e,h.a1,h.a2,h.a3,⟨q,h1,h2.ext e⟩,h.mlow,h.ext.trans e⟩
theorem Ls.stepN (h:Ls w0 w db mb nv rv sv nl rl sl f)(hr:xj w2 w0.heap.size v' (nl++[y]))(hg:w.grownBy w2 nv.ownBlock)(hat:v'.ownBlock=nv.ownBlock∨v'.ownBlock=some w.heap.size):∃A l c,v'=.slice A l c∧w2.heap[db]?=some (.cells #[nv,rv] 35)∧Ls w0 (w2.setCell ⟨db,0,none⟩ v') db mb v' rv sv (nl++[y]) rl sl f:=by
 obtain⟨q,h1,h2⟩:=h.map
 have T:zA (fun g=>nv.ownBlock=some g) w w2:=zA.grown hg (fun g hg _=>hg); have hb2:w2.heap[db]?=some (.cells #[nv,rv] 35):=ym h.nxt.own hg (Ext.refl _) h.blk (by decide); have T2:zA (fun k=>k=db) w2 (w2.setCell ⟨db,0,none⟩ v'):=zA.set1 _ _ _; have nd:∀{x:Value} {xs:List Int},xj w2 w0.heap.size x xs→∀g,x.ownBlock=some g→¬g=db:=fun hx g hg he=>by
  obtain⟨cur,hcur⟩:=hx.obj g hg
  subst he
  rw[hb2]at hcur
  cases hcur
 have nm:¬nv.ownBlock=some mb:=fun hh=>by
  obtain⟨cur,hcur⟩:=h.nxt.obj _ hh
  exact h2.ne hcur rfl
 have r2:=h.rul.keepT T (fun g hg hn=>h.a1 g hn hg); have s2:=h.sts.keepT T (fun g hg hn=>h.a2 g hn hg); have m2:=h2.keep T nm
 obtain⟨A,c,hv,_⟩:=id hr
 refine⟨A,_,c,hv,hb2,zn hb2 v',h.low,hr.keepT T2 (nd hr),r2.keepT T2 (nd r2),s2.keepT T2 (nd s2),h.a1.grown h.rul hat,h.a2.grown h.sts hat,h.a3,⟨q,h1,m2.keep T2 (m2.ne hb2)⟩,h.mlow,?_⟩
 exact T2.ext (T.ext h.ext (fun k hk=>zV h.nxt.own k hk)) (fun k hk=>by have:=h.low;omega)
theorem Ls.stepR (h:Ls w0 w db mb nv rv sv nl rl sl f)(hr:xj w2 w0.heap.size v' (rl++[y]))(hg:w.grownBy w2 rv.ownBlock)(hat:v'.ownBlock=rv.ownBlock∨v'.ownBlock=some w.heap.size):∃A l c,v'=.slice A l c∧w2.heap[db]?=some (.cells #[nv,rv] 35)∧(∀g,g < w0.heap.size→w2.heap[g]?=w.heap[g]?)∧(∀g,sv.ownBlock=some g→w2.heap[g]?=w.heap[g]?)∧Ls w0 (w2.setCell ⟨db,1,none⟩ v') db mb nv v' sv nl (rl++[y]) sl f:=by
 obtain⟨q,h1,h2⟩:=h.map
 have T:zA (fun g=>rv.ownBlock=some g) w w2:=zA.grown hg (fun g hg _=>hg); have hb2:w2.heap[db]?=some (.cells #[nv,rv] 35):=ym h.rul.own hg (Ext.refl _) h.blk (by decide); have T2:zA (fun k=>k=db) w2 (w2.setCell ⟨db,1,none⟩ v'):=zA.set1 _ _ _; have nd:∀{x:Value} {xs:List Int},xj w2 w0.heap.size x xs→∀g,x.ownBlock=some g→¬g=db:=fun hx g hg he=>by
  obtain⟨cur,hcur⟩:=hx.obj g hg
  subst he
  rw[hb2]at hcur
  cases hcur
 have nm:¬rv.ownBlock=some mb:=fun hh=>by
  obtain⟨cur,hcur⟩:=h.rul.obj _ hh
  exact h2.ne hcur rfl
 have r2:=h.nxt.keepT T (fun g hg hn=>h.a1 g hg hn); have s2:=h.sts.keepT T (fun g hg hn=>h.a3 g hn hg); have m2:=h2.keep T nm
 obtain⟨A,c,hv,_⟩:=id hr
 refine⟨A,_,c,hv,hb2,fun g hg=>?_,fun g hg=>?_,zn hb2 v',h.low,r2.keepT T2 (nd r2),hr.keepT T2 (nd hr),s2.keepT T2 (nd s2),(h.a1.symm.grown h.nxt hat).symm,h.a2,h.a3.grown h.sts hat,⟨q,h1,m2.keep T2 (m2.ne hb2)⟩,h.mlow,?_⟩
 ·exact T.block g (Nat.lt_of_lt_of_le hg h.ext.size) (fun hh=>by have:=zV h.rul.own g hh;omega)
 ·exact T.block g (z8 h.sts.own g hg) (fun hh=>h.a3 g hh hg)
 ·exact T2.ext (T.ext h.ext (fun k hk=>zV h.rul.own k hk)) (fun k hk=>by have:=h.low;omega)
theorem Ls.stepS (h:Ls w0 w db mb nv rv sv nl rl sl f)(hr:xj w2 w0.heap.size v' (sl++[y]))(hg:w.grownBy w2 sv.ownBlock)(hat:v'.ownBlock=sv.ownBlock∨v'.ownBlock=some w.heap.size):Ls w0 w2 db mb nv rv v' nl rl (sl++[y]) f∧∀q,YV w mb q f→YV w2 mb q f:=by
 obtain⟨q,h1,h2⟩:=h.map
 have T:zA (fun g=>sv.ownBlock=some g) w w2:=zA.grown hg (fun g hg _=>hg); have hb2:w2.heap[db]?=some (.cells #[nv,rv] 35):=ym h.sts.own hg (Ext.refl _) h.blk (by decide); have nm:¬sv.ownBlock=some mb:=fun hh=>by
  obtain⟨cur,hcur⟩:=h.sts.obj _ hh
  exact h2.ne hcur rfl
 exact⟨⟨hb2,h.low,h.nxt.keepT T (fun g hg hn=>h.a2 g hg hn),h.rul.keepT T (fun g hg hn=>h.a3 g hg hn),hr,h.a1,(h.a2.symm.grown h.nxt hat).symm,(h.a3.symm.grown h.rul hat).symm,⟨q,by simp;omega,h2.keep T nm⟩,h.mlow,T.ext h.ext (fun k hk=>zV h.sts.own k hk)⟩,fun q hq=>hq.keep T nm⟩
theorem Ls.put {q:Nat}(h:Ls w0 w db mb nv rv sv nl rl (sl++[y]) f)(hm:YV w mb q f)(hq:q≤sl.length){w':World}{g:Int→Option Int}(hm':YV w' mb (q+1) g)(t:zA (fun i=>i=mb) w w'):Ls w0 w' db mb nv rv sv nl rl (sl++[y]) g:=by
 have nd:∀{x:Value} {xs:List Int},xj w w0.heap.size x xs→∀g,x.ownBlock=some g→¬g=mb:=fun hx g hg he=>by
  obtain⟨cur,hcur⟩:=hx.obj g hg
  exact hm.ne hcur he.symm
 exact⟨t.keep h.blk (Ne.symm (hm.ne h.blk)),h.low,h.nxt.keepT t (nd h.nxt),h.rul.keepT t (nd h.rul),h.sts.keepT t (nd h.sts),h.a1,h.a2,h.a3,⟨q+1,by simp;omega,hm'⟩,h.mlow,t.ext h.ext (fun k hk=>by have:=h.mlow;omega)⟩
end
end Go.Proofs.YtmbelmngniddjaaGreat
namespace Go.Proofs.YtmbelmngniddjaaGreat
open Go.RowKit
attribute [local go_sem] zF zB zI zJ zw zt zN zD zX zQ zK zP zO zL zT zR zS zG zM zC
theorem ziV:(Tryz.prog.info? 101).map (fun i=>(i.zero,i.size,i.bytes))=some (some (.slice none 0 0),1,24):=by kernel_rfl
structure LbI (w0 w:World)(base lb:Nat)(d0 d1 kv:Value)(kn:Int)(kl:List Int):Prop where
 blk:w.heap[lb]?=some (.cells #[d0,d1,kv,.int .i64 kn] 37)
 low:w0.heap.size≤lb
 row:xj w base kv kl
 bas:w0.heap.size≤base
 ext:Ext w0 w
section
variable {w0 w w2:World}{base lb:Nat}{d0 d1 kv v':Value}{kn y:Int}{kl:List Int}
theorem LbI.to (h:LbI w0 w base lb d0 d1 kv kn kl)(e:Ext w w2):LbI w0 w2 base lb d0 d1 kv kn kl:=⟨zb h.blk e,h.low,h.row.ext e,h.bas,h.ext.trans e⟩
theorem LbI.ne (h:LbI w0 w base lb d0 d1 kv kn kl):∀g,kv.ownBlock=some g→¬g=lb:=fun g hg he=>by
 obtain⟨cur,hcur⟩:=h.row.obj g hg
 subst he
 rw[h.blk]at hcur
 cases hcur
theorem LbI.set (h:LbI w0 w base lb d0 d1 kv kn kl){k:Nat}{u e0 e1:Value}{m:Int}(hc:(#[d0,d1,kv,.int .i64 kn]:Array Value).setIfInBounds k u=#[e0,e1,kv,.int .i64 m]):LbI w0 (w.setCell ⟨lb,k,none⟩ u) base lb e0 e1 kv m kl:=by
 refine⟨by rw[←hc];exact zn h.blk u,h.low,h.row.keepT (zA.set1 _ _ _) h.ne,h.bas,h.ext.setCell h.low u⟩
theorem LbI.app (h:LbI w0 w base lb d0 d1 kv kn kl)(hr:xj w2 base v' (kl++[y]))(hg:w.grownBy w2 kv.ownBlock):w2.heap[lb]?=some (.cells #[d0,d1,kv,.int .i64 kn] 37)∧zA (fun g=>kv.ownBlock=some g∨g=lb) w (w2.setCell ⟨lb,2,none⟩ v')∧LbI w0 (w2.setCell ⟨lb,2,none⟩ v') base lb d0 d1 v' kn (kl++[y]):=by
 have T:zA (fun g=>kv.ownBlock=some g) w w2:=zA.grown hg (fun g hg _=>hg); have hb2:=T.keep h.blk (fun hh=>h.ne lb hh rfl); have T2:zA (fun k=>k=lb) w2 (w2.setCell ⟨lb,2,none⟩ v'):=zA.set1 _ _ _
 refine⟨hb2,⟨T2.os.trans T.os,T2.tape.trans T.tape,T2.output.trans T.output,Nat.le_trans T.size T2.size,fun k hk hS=>(T2.block k (Nat.lt_of_lt_of_le hk T.size) (fun he=>hS (.inr he))).trans (T.block k hk (fun he=>hS (.inl he)))⟩,zn hb2 v',h.low,hr.keepT T2 (fun g hg he=>?_),h.bas,T2.ext (T.ext h.ext (fun k hk=>Nat.le_trans h.bas (zV h.row.own k hk))) (fun k hk=>by have:=h.low;omega)⟩
 obtain⟨cur,hcur⟩:=hr.obj g hg
 subst he
 rw[hb2]at hcur
 cases hcur
end
theorem QE {w w':World}{base:Nat}{e:TypeId}{size n:Nat}{v:Value}{xs:List Value}{S:Nat→Prop}(h:w.ownsRow base e size v n xs)(t:zA S w w')(hS:∀g,v.ownBlock=some g→¬S g):w'.ownsRow base e size v n xs:=ye h fun g hg=>t.block g (z8 h g hg) (hS g hg)
theorem YB {w:World}{base:Nat}{e:TypeId}{size n:Nat}{v:Value}{xs:List Value}{b:Nat}{cs:Array Value}{T:TypeId}(h:w.ownsRow base e size v n xs)(hb:w.heap[b]?=some (.cells cs T))(hT:T≠e):v.ownBlock≠some b:=fun hh=>by
 obtain⟨cur,hcur⟩:=zZ h b hh
 exact zU hb hcur hT rfl
theorem zeo:(Tryz.prog.info? 70).map (fun i=>(i.zero,i.size,i.bytes))=some (some (.agg #[.int .i64 0,.slice none 0 0]),2,32):=by kernel_rfl
def ziQ (p:Prd):Pd:=⟨p.left,p.right⟩
def JI (ps:List Prd):List Value:=ps.flatMap fun p=>[.int .i64 p.left,.slice p.rA p.right.length p.rc]
theorem QJ:∀{ps:List Prd} {k:Nat} {p:Prd},ps[k]?=some p→(JI ps)[k*2]?=some (.int .i64 p.left)∧(JI ps)[k*2+1]?=some (.slice p.rA p.right.length p.rc)
 |[],k,p,h=>by simp at h
 |q ::ps,0,p,h=>by
  simp at h
  subst h
  exact⟨rfl,rfl⟩
 |q ::ps,k+1,p,h=>by
  have h':ps[k]?=some p:=by simpa using h
  obtain⟨h1,h2⟩:=QJ h'
  rw[show(k+1)*2=k*2+1+1 from by omega]
  exact⟨h1,h2⟩
theorem zcs (ps:List Prd)(p:Prd):JI (ps++[p])=JI ps++[.int .i64 p.left,.slice p.rA p.right.length p.rc]:=by
 unfold JI
 rw[List.flatMap_append]
 rfl
structure Yh (w:World)(base:Nat)(lv:Value)(ps qs:List Prd):Prop where
 row:w.ownsRow base 70 2 lv ps.length (JI ps)
 own:∀p∈ps,vr w base p.rA p.rc p.right
 same:ps.map ziQ=qs.map ziQ
theorem Yh.ext {w w':World}{base:Nat}{lv:Value}{ps qs:List Prd}(h:Yh w base lv ps qs)(e:Ext w w'):Yh w' base lv ps qs:=⟨yv h.row e,fun p hp=>(h.own p hp).ext e,h.same⟩
theorem Yh.turn {w w':World}{base:Nat}{lv:Value}{ps qs:List Prd}{S:Nat→Prop}(h:Yh w base lv ps qs)(t:zA S w w')(hS:∀g cs T,w.heap[g]?=some (.cells cs T)→T=70∨T=3→¬S g):Yh w' base lv ps qs:=
 ⟨QE h.row t fun g hg=>by
   obtain⟨cur,hcur⟩:=zZ h.row g hg
   exact hS g cur _ hcur (.inl rfl),fun p hp=>QE (h.own p hp) t fun g hg=>by
   obtain⟨cur,hcur⟩:=zZ (h.own p hp) g hg
   exact hS g cur _ hcur (.inr rfl),h.same⟩
theorem Yh.len {w:World}{base:Nat}{lv:Value}{ps qs:List Prd}(h:Yh w base lv ps qs):ps.length=qs.length:=by
 have:=congrArg List.length h.same
 simpa using this
theorem zcN {g g':Gr}(h1:g'.terms=g.terms)(h2:g'.nons=g.nons)(h3:g'.k=g.k)(h:g'.prods.map ziQ=g.prods.map ziQ):yY g'=yY g:=by
 obtain⟨t,n,k,A,c,ps⟩:=g
 obtain⟨t',n',k',A',c',ps'⟩:=g'
 dsimp only at h1 h2 h3 h; subst h1 h2 h3; have hl:ps'.length=ps.length:=by simpa using congrArg List.length h
 have e1:∀(f:Pd→Bool),ps'.any (fun p=>f (ziQ p))=ps.any (fun p=>f (ziQ p)):=fun f=>by
  have:=congrArg (fun l:List Pd=>l.any f) h
  simpa[List.any_map,Function.comp_def]using this
 have e2:ps'.any Qj=ps.any Qj:=e1 (fun p=>decide (8 < p.right.length)); have e3:∀A c qs A' c' qs',ps'.any (zcI ⟨t',n',k',A,c,qs⟩)=ps.any (zcI ⟨t',n',k',A',c',qs'⟩):=fun _ _ _ _ _ _=>e1 (fun p=>decide (p.left < 0)||decide (n'≤p.left)||p.right.any fun s=>decide (s < 0)||decide (t'+n'≤s)); have hB:QT ⟨t',n',k',A',c',ps'⟩↔QT ⟨t',n',k',A,c,ps⟩:=by unfold QT;dsimp only;rw[hl]
 have hF:QX ⟨t',n',k',A',c',ps'⟩↔QX ⟨t',n',k',A,c,ps⟩:=by unfold QX;dsimp only;rw[hl]
 unfold yY; simp only[hB,hF]
 rw[e2,e3 A' c' ps' A c ps]
theorem Yh.gr {w:World}{base:Nat}{A:Option Addr}{c:Nat}{ps:List Prd}{g:Gr}(h:Yh w base (.slice A ps.length c) ps g.prods):jC w ⟨g.terms,g.nons,g.k,A,c,ps⟩:=by
 obtain⟨A',c',hA,hc,hl,ht,_⟩:=zW h.row
 injection hA with a1 a2 a3; subst a1 a3
 refine⟨fun h0=>?_,fun p hp=>?_,hl,by unfold maxLen at ht;omega⟩
 ·obtain⟨b,off,hA,hb,hcc⟩:=hc (by
   cases ps with
   |nil=>simp at h0
   |cons p ps=>simp[JI])
  exact⟨b,off,hA,hb,fun k p hk=>⟨hcc _ _ (QJ hk).1,hcc _ _ (QJ hk).2⟩⟩
 ·obtain⟨h1,h2,h3,_⟩:=(h.own p hp).ints
  exact⟨h1,h2,by unfold maxLen at h3;omega⟩
def zjI (w:World)(g:Gr)(e:Ending)(w':World):Prop:=∃g':Gr,e=.returned (grV g')∧jC w' g'∧g'.gm=g.gm∧yY g'=yY g∧Ext w w'
set_option maxRecDepth 100000 in
set_option maxHeartbeats 4000000 in
theorem zaK (g:Gr)(w:World)(h:jC w g)(h0:yY g=0)(hz:∀p∈g.prods,p.rA=none→p.rc=0):Calls Tryz.prog 25 #[grV g] w (zjI w g):=by
 obtain⟨hT,hN,hK,hP1,hP2⟩:=yk h0
 obtain⟨g0,W,hg0,hW,X1,GA,GO⟩:=xM g w h
 have hgs:W.heap.size=g0+1:=by rw[←hW,←hg0];simp
 have hGB:W.heap[g0]?=some (.cells #[.int .i64 g.terms,.int .i64 g.nons,.int .i64 g.k,.slice g.pA g.prods.length g.pc] 25):=by rw[←hW,←hg0];exact heap_alloc_new _ _
 obtain⟨W1,hW1⟩:∃V,W.alloc (.cells #[.int .i64 0,.int .i64 0,.int .i64 0,zH] 25)=V:=⟨_,rfl⟩
 have X01:Ext W W1:=by rw[←hW1];exact xi
 have hB1:W1.heap[g0+1]?=some (.cells #[.int .i64 0,.int .i64 0,.int .i64 0,zH] 25):=by rw[←hW1,←hgs];exact heap_alloc_new _ _
 have HGB:=zh (zb hGB X01); have HB:=zh hB1; have HG2:=zh (GA.ext X01); have HO2:=zh (GO.ext X01); have HX2:=zh (X1.trans X01); have HL:Hid (w.heap.size=g0):=zh hg0; have HZ:=zh hz; have H0:=zh h0
 obtain⟨m,hm⟩:∃m,g.prods.length=m:=⟨_,rfl⟩
 have HM:=zh hm; unfold grV
 rw[hm]at hP1 hP2 hW HGB ⊢
 obtain⟨i6,hi6,hz0,hz1,hz2⟩:=info_parts zeo
 have HI:=zh hi6; have HZ0:=zh hz0; have HZ1:=zh hz1; have HZ2:=zh hz2; clear h X1 GA GO X01 hB1 hGB hi6 hz0 hz1 hz2 hz hm h0; go_in
 go_upto_region 1 with fail; try simp only[hg0]
 try simp only[hW]
 try simp only[hgs]
 try simp only[hW1]
 clear hW hg0 hgs hW1; go_wp2_with fail; go_loopw [3,4] (fun lv iv wr=>∃(i:Nat) (ps:List Prd),iv=.int .i64 i∧i≤m∧Hid (Yh wr W1.heap.size lv ps (g.prods.take i))∧Hid (Ext W1 wr)) (fun _ iv _=>m - (intOf iv).toNat)
 case atStart=>exact⟨0,[],rfl,Nat.zero_le _,zh ⟨World.ownsRow_nil _ _ _ _,fun _ h=>(by cases h),rfl⟩,zh (Ext.refl _)⟩
 case round=>
  obtain⟨i,ps,rfl,hi,HP,HX⟩:=hrel
  obtain⟨e0,e1,e2,e3,el⟩:=HG2.out.ext HX.out
  rw[HM.out]at e3
  by_cases hlt:i < m
  ·obtain⟨p,hp⟩:∃p,g.prods[i]?=some p:=⟨_,List.getElem?_eq_getElem (by have:=HM.out;omega)⟩
   obtain⟨pg,po,hA,pl,d0,d1,POK⟩:=(HO2.out.ext HX.out).prd hp
   have HPR:=zh hp; have hpl:ps.length=i:=by rw[HP.out.len,List.length_take];have:=HM.out;omega
   have HPL:=zh hpl; have HPK:=zh POK; have hpin:=(je H0.out hp).len
   rw[hA]at e3
   obtain⟨rn,hrn⟩:∃k,p.right.length=k:=⟨_,rfl⟩
   have HRN:=zh hrn
   rw[hrn]at d1 hpin
   have HSZ:=zh HX.out.size; clear hp hA POK hrn hpl
   obtain⟨lA,lc,rfl,_⟩:=zW HP.out.row
   rw[HPL.out]at HP ⊢
   go_upto_region 5 with fail; refine zg (17) (zd [0,1,3,8,10] (zj [2,4,5,6,9,11,12,13] (.step 7 (.step 14 (zd [15] (.step 16 (.step 17 (zd [18] .fin)))))))) (by kernel_rfl) (by kernel_rfl) ?_; (repeat first|refine yq ?_|refine yr ?_)
   refine zp fun next hn=>?_;simp only[pick,yp]; go_wp2_with fail; refine zk (fun _=>yZ xi) (hn _ _ ?_); clear hn next; have hr0:=Yi wr W1.heap.size HSZ.out
   obtain⟨nb,hnb⟩:∃nb,wr.heap.size=nb:=⟨_,rfl⟩
   obtain⟨V0,hV⟩:∃V,(wr.alloc (.cells #[] 3)).drew=V:=⟨_,rfl⟩
   have hx0:Ext wr V0:=by rw[←hV];exact xi
   have hr1:xj V0 W1.heap.size (.slice (some ⟨nb,0,none⟩) 0 0) []:=by rw[←hV,←hnb];exact hr0.ext (xi:Ext (wr.alloc (.cells #[] 3)) (wr.alloc (.cells #[] 3)).drew)
   have HV0:=zh hx0; have HR0:=zh hr1; have HI0:Hid (xW V0 p.rA p.right):=zh (HPK.out.right.ext hx0); have HNB0:Hid (wr.heap.size≤nb):=zh (Nat.le_of_eq hnb); have HZP:=zh (HZ.out p (List.mem_of_getElem? HPR.out)); try simp only[hV,hnb]
   clear hr0 hr1 hx0 hV hnb; refine zp fun next hn=>?_;simp only[pick,yp]; go_wp2_with (at_builtin;refine Jk W1 (by rfl) (.tmp 19) (.tmp 25) rfl HR0.out p.right p.rA p.rc rfl (by rw[HRN.out];rfl) HZP.out HI0.out (by rw[HRN.out];simp only[List.length_nil];omega) (HX.out.trans HV0.out) ?_;intro v4 w4 hr4 hg4 hx4)
   obtain⟨B0,bc0,rfl,hb4⟩:=hr4
   rw[List.nil_append]at hb4 ⊢
   have HK0:Hid (vr w4 W1.heap.size B0 bc0 p.right):=zh hb4; have HN0:Hid (Ext wr w4):=zh (by
    refine HV0.out.grown hg4 (fun g hg=>?_)
    have:nb=g:=by simpa[Value.ownBlock]using hg
    subst this; exact HNB0.out)
   rw[HRN.out]
   clear hb4 hg4 hx4 HV0 HR0 HI0 HZP; refine zk (fun _=>yZ HN0.out) (hn _ _ ?_); clear hn next; (repeat first|refine yq ?_|refine yr ?_)
   refine zp fun next hn=>?_;simp only[pick,yp]; go_wp2_with fail; refine zk (fun _=>yZ (HN0.out.trans (xi:Ext w4 _))) (hn _ _ ?_); clear hn next; have HC0:=xp w4 70 w4.heap.size #[.int .i64 p.left,.slice B0 rn bc0] [.int .i64 p.left,.slice B0 rn bc0] rfl rfl
   obtain⟨nb,hnb⟩:∃nb,w4.heap.size=nb:=⟨_,rfl⟩
   obtain⟨U0,hU⟩:∃V,w4.alloc (.cells #[.int .i64 p.left,.slice B0 rn bc0] 70)=V:=⟨_,rfl⟩
   rw[hU,hnb]at HC0
   have HC:=zh HC0; have HXU:Hid (Ext w4 U0):=zh (by rw[←hU];exact xi); try simp only[hU,hnb]
   clear hU hnb HC0; have HSU:Hid (Ext W1 U0):=zh (HX.out.trans (HN0.out.trans HXU.out)); have HP4:=zh (HP.out.ext (HN0.out.trans HXU.out)); have hrow:=HP4.out.row
   rw[HPL.out]at hrow
   refine zp fun next hn=>?_;simp only[pick,yp]; go_wp2_with (at_builtin;refine zE _ (by rfl) (.tmp 12) (.tmp 28) 23 rfl W1.heap.size 70 i6 _ 2 32 Tryz.underlying23 HI.out HZ0.out HZ1.out HZ2.out rfl (by omega) (.slice lA i lc) i (JI ps) rfl hrow (some ⟨nb,0,none⟩) 1 1 [.int .i64 p.left,.slice B0 rn bc0] rfl (by intro h;cases h) rfl HC.out (by intro u hu;simp only[List.mem_cons,List.not_mem_nil,or_false]at hu;rcases hu with rfl|rfl<;>rfl) (by unfold maxLen;omega) (by omega) HSU.out.size ?_;intro v6 w6 ho6 hg6 hat6)
   have T6:zA (fun g=>(Value.slice lA i lc).ownBlock=some g) U0 w6:=zA.grown hg6 (fun g hg _=>hg); have HE1:Hid (Ext W1 w6):=zh (T6.ext HSU.out (fun g hg=>zV hrow g hg)); have HNX:Hid (Yh w6 W1.heap.size v6 (ps++[⟨p.left,B0,bc0,p.right⟩]) (g.prods.take (i+1))):=zh (by
    refine⟨by rw[List.length_append,HPL.out,zcs];dsimp only;rw[HRN.out];exact ho6,fun q hq=>?_,?_⟩
    ·have keep:∀{A:Option Addr} {c:Nat} {xs:List Int},vr U0 W1.heap.size A c xs→vr w6 W1.heap.size A c xs:=fun {A c xs} hh=>QE hh T6 (fun g hg he=>by
      obtain⟨cur,hcur⟩:=zZ hh g hg
      exact YB hrow hcur (by decide) he)
     rcases List.mem_append.1 hq with hq|hq
     ·exact keep (HP4.out.own q hq)
     ·simp only[List.mem_singleton]at hq
      subst hq; exact keep (HK0.out.ext HXU.out)
    ·rw[List.map_append,HP4.out.same,List.take_add_one,HPR.out,List.map_append]
     rfl)
   clear ho6 hg6 hat6 T6 HN0 HXU HSU HC HP HP4 hrow HK0 HSZ HX; refine zk (fun h=>absurd rfl h) (hn _ _ ?_); clear hn next; (repeat first|refine yq ?_|refine yr ?_)
   refine zv ?_; go_wp2_with fail; go_roundw
   case rel=>exact⟨i+1,_,by go_num,by omega,HNX,HE1⟩
   case measure=>simp[intOf];omega
  ·obtain rfl:i=m:=by omega
   have hpl:ps.length=i:=by rw[HP.out.len,List.length_take];have:=HM.out;omega
   obtain⟨lA,lc,rfl,_⟩:=zW HP.out.row
   rw[hpl]at HP ⊢
   have HPL:=zh hpl; clear hpl; have hb6:=zb HGB.out HX.out; have hc6:=zb HB.out HX.out; have hb7:=zn (k:=3) hb6 (.slice lA i lc); have hc7:=zY (k:=3) (g:=g0) hc6 (by omega) (.slice lA i lc); have T7:zA (fun k=>k=g0∨k=g0+1) wr (wr.setCell ⟨g0,3,none⟩ (.slice lA i lc)):=zA.setCell _ (p:=⟨g0,3,none⟩) (.inl rfl) _; have bf:=zi hb6 3
   obtain⟨W7,hW7⟩:∃V,wr.setCell ⟨g0,3,none⟩ (.slice lA i lc)=V:=⟨_,rfl⟩
   rw[hW7]at hb7 hc7 T7
   go_upto_region 7 with fail; try simp only[hW7]
   clear hW7 bf e0 e1 e2 e3 el; have T8:zA (fun k=>k=g0∨k=g0+1) W7 (yX W7 (g0+1) (.int .i64 g.terms) (.int .i64 g.nons) (.int .i64 g.k) (.slice lA i lc)):=yg (S:=fun k=>k=g0∨k=g0+1) (.inr rfl) _ _ _ _; have P8:=yE hc7 (.int .i64 g.terms) (.int .i64 g.nons) (.int .i64 g.k) (.slice lA i lc)
   obtain⟨W8,hW8⟩:∃V,yX W7 (g0+1) (.int .i64 g.terms) (.int .i64 g.nons) (.int .i64 g.k) (.slice lA i lc)=V:=⟨_,rfl⟩
   rw[hW8]at P8 T8
   have T:=T7.trans T8; have HX8:Hid (Ext w W8):=zh (T.ext (HX2.out.trans HX.out) (fun k hk=>by have:=HL.out;omega)); have HP8:Hid (Yh W8 W1.heap.size (.slice lA ps.length lc) ps g.prods):=zh (by
    have hh:=HP.out
    rw[List.take_of_length_le (by have:=HM.out;omega)]at hh
    rw[HPL.out]
    exact hh.turn T fun q cs T' hq hT hS=>by
     rcases hS with rfl|rfl
     ·rw[hb6]at hq;injection hq with hq;injection hq with _ hq;subst hq;revert hT;decide
     ·rw[hc6]at hq;injection hq with hq;injection hq with _ hq;subst hq;revert hT;decide)
   have k0:=cr 0 hb7; have k1:=cr 1 hb7; have k2:=cr 2 hb7; have k3:=cr 3 hb7; have kl:=za hb7; have c0:=cr 0 hc7; have c1:=cr 1 hc7; have c2:=cr 2 hc7; have c3:=cr 3 hc7; have cl:=za hc7; have cf:=fun k=>zi hc7 k; have e0:=cr 0 P8; have e1:=cr 1 P8; have e2:=cr 2 P8; have e3:=cr 3 P8; simp at k0 k1 k2 k3 c0 c1 c2 c3 e0 e1 e2 e3
   unfold yX y8 put2 at hW8; clear hb6 hc6 hb7 hc7 T7 T8 T P8 HP; go_wp2_with fail; exact bodyPost_ret (v:=.agg #[.int .i64 g.terms,.int .i64 g.nons,.int .i64 g.k,.slice lA i lc]) (by simp[results,Tryz.results25,go_sem, *]) rfl ⟨⟨g.terms,g.nons,g.k,lA,lc,ps⟩,by unfold grV;rw[HPL.out],HP8.out.gr,by unfold Gr.gm;congr 1;exact HP8.out.same,zcN rfl rfl rfl HP8.out.same,HX8.out⟩
def RDe (w:World)(b:Nat)(s:ByteArray)(at_:Nat)(v:Value)(er:Int):Prop:=w.heap[b]?=some (.cells #[.string s,.int .i64 at_,v,.int .i64 er] 140)
theorem RDe.ext {w w':World}{b:Nat}{s:ByteArray}{at_:Nat}{v:Value}{er:Int}(h:RDe w b s at_ v er)(e:Ext w w'):RDe w' b s at_ v er:=zb h e
theorem RDe.lt {w:World}{b:Nat}{s:ByteArray}{at_:Nat}{v:Value}{er:Int}(h:RDe w b s at_ v er):b < w.heap.size:=za h
theorem RDe.cells {w:World}{b:Nat}{s:ByteArray}{at_:Nat}{v:Value}{er:Int}(h:RDe w b s at_ v er):w.cell? ⟨b,0,none⟩=some (.string s)∧w.cell? ⟨b,1,none⟩=some (.int .i64 at_)∧w.cell? ⟨b,2,none⟩=some v∧w.cell? ⟨b,3,none⟩=some (.int .i64 er):=by
 unfold RDe at h
 exact⟨cr 0 h,cr 1 h,cr 2 h,cr 3 h⟩
theorem RDe.move {w:World}{b:Nat}{s:ByteArray}{at_:Nat}{v:Value}{er:Int}(h:RDe w b s at_ v er)(n:Nat):RDe (w.setCell ⟨b,1,none⟩ (.int .i64 n)) b s n v er:=zn h _
theorem RDe.fail {w:World}{b:Nat}{s:ByteArray}{at_:Nat}{v:Value}{er:Int}(h:RDe w b s at_ v er)(n:Nat)(x:Int):RDe ((w.setCell ⟨b,3,none⟩ (.int .i64 x)).setCell ⟨b,1,none⟩ (.int .i64 n)) b s n v x:=zn (zn h _) _
set_option maxRecDepth 100000 in
set_option maxHeartbeats 2000000 in
theorem zj6 (er:Int)(b base:Nat)(s:ByteArray)(at_:Nat)(v:Value)(n:Nat)(cs:List Value)(k:Int)(c:Cl)(kA:Option Addr)(kn kc:Nat)(w:World)(h:RDe w b s at_ v er)(hr:w.ownsRow base 189 6 v n cs)(hb:base≤w.heap.size)(hn:n≤900000):
 Calls Tryz.prog 114 #[ptr b,.int .i64 k,c.V,.slice kA kn kc] w fun e w'=>∃v',e=.returned (.int .i64 n)∧RDe w' b s at_ v' er∧w'.ownsRow base 189 6 v' (n+1) (cs++zcr k c (.slice kA kn kc))∧
  zA (fun i=>i=b∨v.ownBlock=some i) w w'∧(v'.ownBlock=v.ownBlock∨∃g,v'.ownBlock=some g∧w.heap.size≤g):=by
 obtain⟨W,hW⟩:∃W,w.alloc (.cells #[.int .u64 c.a,.int .u64 c.b,.int .u64 c.c,.int .u64 c.d] 145)=W:=⟨_,rfl⟩
 have B0:W.heap[w.heap.size]?=some (.cells #[.int .u64 c.a,.int .u64 c.b,.int .u64 c.c,.int .u64 c.d] 145):=by rw[←hW];exact heap_alloc_new _ _
 have X1:Ext w W:=by rw[←hW];exact xi
 obtain⟨g,hg⟩:∃g,w.heap.size=g:=⟨_,rfl⟩
 have hsz:W.heap.size=g+1:=by rw[←hW,←hg];simp
 rw[hg]at B0
 have HX1:=zh X1; have H1:=zh (h.ext X1); have HR1:=zh (yv hr X1); have HBB:Hid (b < g∧base≤g):=zh (by have:=h.lt;omega); have HOB:Hid (∀i,v.ownBlock=some i→i < g∧i≠b):=zh (fun i hi=>by
  refine⟨by rw[←hg];exact z8 hr i hi,fun he=>?_⟩
  subst he
  obtain⟨cur,hcur⟩:=zZ hr i hi
  unfold RDe at h
  rw[h]at hcur
  injection hcur with hcur; injection hcur with hcur hcur2
  revert hcur2
  decide)
 have KX:Hid (∀x:EdS W b g,(x.V.cell? ⟨b,2,none⟩=some v)∧(x.V.cell? ⟨g,0,none⟩=some (.int .u64 c.a))∧(x.V.cell? ⟨g,1,none⟩=some (.int .u64 c.b))∧(x.V.cell? ⟨g,2,none⟩=some (.int .u64 c.c))∧(x.V.cell? ⟨g,3,none⟩=some (.int .u64 c.d))∧b < x.V.heap.size∧g < x.V.heap.size):=zh fun x=>by
  have e0:=cr 0 (x.box.trans B0); have e1:=cr 1 (x.box.trans B0); have e2:=cr 2 (x.box.trans B0); have e3:=cr 3 (x.box.trans B0); have e4:RDe x.V b s at_ v er:=x.idx.trans H1.out; simp at e0 e1 e2 e3
  exact⟨e4.cells.2.2.1,e0,e1,e2,e3,e4.lt,za (x.box.trans B0)⟩
 have kx0:=fun x=>(KX.out x).1; have kx1:=fun x=>(KX.out x).2.1; have kx2:=fun x=>(KX.out x).2.2.1; have kx3:=fun x=>(KX.out x).2.2.2.1; have kx4:=fun x=>(KX.out x).2.2.2.2.1; have kx5:=fun x=>(KX.out x).2.2.2.2.2.1; have kx6:=fun x=>(KX.out x).2.2.2.2.2.2; have HW:=zh hW; have HG:=zh hg; have HSZ:=zh hsz; unfold Cl.V; clear h hr X1 B0 hW hg hsz; go_in
 go_upto_region 1 with fail; simp only[HW.out,HG.out]
 refine Zc (T:=EdS W b g) EdS.V (13) (zj [0,1,2,3,4,5,6,7,8] (.step 9 (.step 10 (zj [11,12] (.step 13 .fin))))) (by kernel_rfl) (by kernel_rfl) ⟨⟨W.drew,rfl,rfl⟩,rfl⟩ ?_; refine yr ?_; clear kx0 kx1 kx2 kx3 kx4 kx5 kx6; refine zp fun next hn=>?_;simp only[pick,yp]; go_wp2_with fail; have X9:Ext W (W.alloc (.cells #[.int .i64 k,.int .u64 c.a,.int .u64 c.b,.int .u64 c.c,.int .u64 c.d,.slice kA kn kc] 189)).drew:=xi; have HX9:=zh X9; have HR9:=zh (yv HR1.out X9)
 have HC9:Hid (yI (W.alloc (.cells #[.int .i64 k,.int .u64 c.a,.int .u64 c.b,.int .u64 c.c,.int .u64 c.d,.slice kA kn kc] 189)).drew (some ⟨g+1,0,none⟩) (zcr k c (.slice kA kn kc))):=
  zh (by rw[←HSZ.out];exact(xp W _ W.heap.size _ (zcr k c (.slice kA kn kc)) rfl rfl).ext ((Ext.refl _).drew))
 refine zk (fun _=>ziw X9 (by have:=HBB.out;have:=HSZ.out;omega) (by have:=HSZ.out;omega)) (hn _ _ ?_); clear hn next X9
 obtain⟨W9,hW9⟩:∃W9,(W.alloc (.cells #[.int .i64 k,.int .u64 c.a,.int .u64 c.b,.int .u64 c.c,.int .u64 c.d,.slice kA kn kc] 189)).drew=W9:=⟨_,rfl⟩
 rw[hW9]at HX9 HR9 HC9
 simp only[hW9,HSZ.out]
 have HS9:Hid (W9.heap.size=g+2):=zh (by rw[←hW9];simp[HSZ.out]); clear hW9
 obtain⟨i6,hi,hz0,hz1,hz2⟩:=info_parts zgQ
 refine zp fun next hn=>?_;simp only[pick,yp]; go_wp2_with (at_builtin;refine zE _ (by rfl) (.tmp 13) (.tmp 18) 101 rfl base 189 i6 _ 6 64 Tryz.underlying101 hi hz0 hz1 hz2 rfl (by omega) v n cs rfl HR9.out (some ⟨g+1,0,none⟩) 1 1 (zcr k c (.slice kA kn kc)) rfl (by intro h;cases h) rfl HC9.out (by intro u hu;simp only[zcr,List.mem_cons,List.not_mem_nil,or_false]at hu;rcases hu with rfl|rfl|rfl|rfl|rfl|rfl<;>rfl) (by unfold maxLen;omega) (by omega) (by have:=HBB.out;have:=HS9.out;omega) ?_;intro v10 w10 hown10 hg10 hat10)
 have HB10:Hid (w10.heap[b]?=W9.heap[b]?):=zh (hg10.block b (by have:=HBB.out;have:=HS9.out;omega) (fun he=>(HOB.out b he.symm).2 rfl)); have HG10:Hid (w10.heap[g]?=W9.heap[g]?):=zh (hg10.block g (by have:=HS9.out;omega) (fun he=>by have:=(HOB.out g he.symm).1;omega)); have HE9:Hid (W9.heap[b]?=W.heap[b]?∧W9.heap[g]?=W.heap[g]?):=zh ⟨HX9.out.below.block _ (by have:=HBB.out;have:=HSZ.out;omega),HX9.out.below.block _ (by have:=HSZ.out;omega)⟩; refine zk (fun _=>⟨⟨w10,HB10.out.trans HE9.out.1,HG10.out.trans HE9.out.2⟩,rfl⟩) (hn _ _ ?_); clear hn next; have H10:Hid (RDe w10 b s at_ v er):=zh ((HB10.out.trans HE9.out.1).trans H1.out); have HO10:=zh hown10; have HT10:Hid (zA (fun i=>v.ownBlock=some i) w w10):=zh ((zA.of_ext (HX1.out.trans HX9.out)).trans (zA.grown hg10 fun i hi _=>hi)); have HA10:Hid (v10.ownBlock=v.ownBlock∨v10.ownBlock=some (g+2)):=zh (by rw[←HS9.out];exact hat10); have HS10:Hid (W9.heap.size≤w10.heap.size):=zh hg10.size; clear hown10 hg10 hat10 hi hz0 hz1 hz2 i6
 obtain⟨A10,c10,hv10,_⟩:=zW HO10.out
 subst hv10; refine yr ?_; refine zp fun next hn=>?_;simp only[pick,yp]
 obtain⟨c0,c1,c2,c3⟩:=H10.out.cells
 have f2:=zi H10.out 2; go_wp2_with fail; refine zk (fun h=>absurd rfl h) (hn _ _ ?_); clear hn next; refine zv ?_; have K10:RDe (w10.setCell ⟨b,2,none⟩ (.slice A10 (n+1) c10)) b s at_ (.slice A10 (n+1) c10) er:=zn H10.out _
 obtain⟨d0,d1,d2,d3⟩:=K10.cells
 have HK10:=zh K10; have HNE:Hid (∀i,(Value.slice A10 (n+1) c10).ownBlock=some i→i≠b):=zh (fun i hi=>by
  rcases HA10.out with h|h
  ·exact(HOB.out i (h▸hi)).2
  ·rw[h]at hi
   injection hi with hi
   have:=HBB.out
   omega)
 have HOK:Hid ((w10.setCell ⟨b,2,none⟩ (.slice A10 (n+1) c10)).ownsRow base 189 6 (.slice A10 (n+1) c10) (n+1) (cs++zcr k c (.slice kA kn kc))):=zh (ye HO10.out fun i hi=>by
  have:=HNE.out i hi
  simp[World.setCell,Array.getElem?_modify,Ne.symm this])
 have HTK:Hid (zA (fun i=>i=b∨v.ownBlock=some i) w (w10.setCell ⟨b,2,none⟩ (.slice A10 (n+1) c10))):=zh ((HT10.out.mono fun i _ hi=>.inr hi).trans ((zA.set1 b 2 (.slice A10 (n+1) c10)).mono fun i _ hi=>.inl hi)); clear K10 c0 c1 c2 c3; have e1:wrap64 ((n:Int)+1 - 1)=(n:Int):=by rw[IntWalk.wrap64_in _ (by omega)];omega
 go_wp2_with fail; go_ret
 refine⟨_,yt ?_,HK10.out,HOK.out,HTK.out,?_⟩
 ·omega
 ·rcases HA10.out with h|h
  ·exact .inl h
  ·exact .inr ⟨_,h,by have:=HG.out;omega⟩
def za4 (w:World)(e:Ending)(w':World):Prop:=∃d:Bool,e=.returned (.bool d)∧Ext w w'
structure Nod where
 k:Int
 c:Cl
 kA:Option Addr
 kids:List Int
 kc:Nat
def zhm (n:Nod):List Value:=zcr n.k n.c (.slice n.kA n.kids.length n.kc)
def Yo (ns:List Nod):List Value:=ns.flatMap zhm
theorem zak (a b:List Nod):Yo (a++b)=Yo a++Yo b:=List.flatMap_append
theorem zdS (ns:List Nod):(Yo ns).length=ns.length*6:=by
 induction ns with
 |nil=>rfl
 |cons n ns ih=>simp only[Yo,List.flatMap_cons,List.length_append,List.length_cons]at*;rw[ih];simp[zhm,zcr];omega
structure vW (w:World)(A:Option Addr)(xs:List Int)(c:Nat):Prop where
 ints:xW w A xs
 le:xs.length≤c
 top:c≤9223372036854775807
 nil:A=none→c=0
 blk:∀g off s,A=some ⟨g,off,s⟩→∃cs,w.heap[g]?=some (.cells cs 3)
theorem vW.turn {w w':World}{A:Option Addr}{xs:List Int}{c:Nat}{S:Nat→Prop}(h:vW w A xs c)(t:zA S w w')(hS:∀g cs,w.heap[g]?=some (.cells cs 3)→¬S g):vW w' A xs c:=
 ⟨fun h0=>by
   obtain⟨b,off,rfl,hb,hc⟩:=h.ints h0
   obtain⟨cs,hcs⟩:=h.blk b off none rfl
   have hk:=t.keep hcs (hS b cs hcs)
   exact⟨b,off,rfl,za hk,fun k hk'=>(World.cell?_of_block (w:=w) (a:=⟨b,off+k,none⟩) (hk.trans hcs.symm)).trans (hc k hk')⟩,h.le,h.top,h.nil,fun g off s he=>by
   obtain⟨cs,hcs⟩:=h.blk g off s he
   exact⟨cs,t.keep hcs (hS g cs hcs)⟩⟩
theorem vW.ext {w w':World}{A:Option Addr}{xs:List Int}{c:Nat}(h:vW w A xs c)(e:Ext w w'):vW w' A xs c:=h.turn (zA.of_ext (S:=fun _=>False) e) (fun _ _ _ h=>h)
theorem vW.empty (w:World):vW w none [] 0:=⟨xW.nil,by simp,by omega,fun _=>rfl,fun _ _ _ h=>by cases h⟩
structure RdS (w:World)(b base:Nat)(s:ByteArray)(at_:Nat)(er:Int)(v:Value)(ns:List Nod):Prop where
 blk:RDe w b s at_ v er
 row:w.ownsRow base 189 6 v ns.length (Yo ns)
 kids:∀n∈ns,vW w n.kA n.kids n.kc
 cls:∀n∈ns,n.c.ok
section
variable {w w' w1 w2:World}{b base:Nat}{s:ByteArray}{at_:Nat}{er:Int}{v v' v1 v2:Value}{ns:List Nod}
theorem RdS.ext (h:RdS w b base s at_ er v ns)(e:Ext w w'):RdS w' b base s at_ er v ns:=⟨h.blk.ext e,yv h.row e,fun n hn=>(h.kids n hn).ext e,h.cls⟩
theorem RdS.ne (h:RdS w b base s at_ er v ns):∀g cs,w.heap[g]?=some (.cells cs 3)→¬(g=b∨v.ownBlock=some g):=fun g cs hg hh=>by
 rcases hh with rfl|hh
 ·have hb:=h.blk; unfold RDe at hb; exact zU hg hb (by decide) rfl
 ·obtain⟨cur,hcur⟩:=zZ h.row g hh
  exact zU hg hcur (by decide) rfl
def RdT (b:Nat)(v:Value)(w:World)(v':Value)(w':World):Prop:=zA (fun i=>i=b∨v.ownBlock=some i) w w'∧∀i,v'.ownBlock=some i→v.ownBlock=some i∨w.heap.size≤i
theorem RdT.of_ext (e:Ext w w'):RdT b v w v w':=⟨zA.of_ext e,fun _ h=>.inl h⟩
theorem RdT.refl:RdT b v w v w:=RdT.of_ext (Ext.refl _)
theorem RdT.trans (h:RdT b v w v1 w1)(h':RdT b v1 w1 v2 w2):RdT b v w v2 w2:=
 ⟨h.1.andThen h'.1 (fun _ _ hk=>hk) (fun k hk hs=>by
   rcases hs with hs|hs
   ·exact .inl hs
   ·rcases h.2 k hs with h1|h1
    ·exact .inr h1
    ·omega),fun i hi=>by
   rcases h'.2 i hi with h1|h1
   ·exact h.2 i h1
   ·exact .inr (Nat.le_trans h.1.size h1)⟩
theorem RdT.kid {A:Option Addr}{xs:List Int}{c:Nat}(t:RdT b v w v' w')(h:RdS w b base s at_ er v ns)(hk:vW w A xs c):vW w' A xs c:=hk.turn t.1 h.ne
theorem RdT.row {lv:Value}{xs:List Int}{bl:Nat}(t:RdT b v w v' w')(h:RdS w b base s at_ er v ns)(hr:xj w bl lv xs):xj w' bl lv xs:=by
 obtain⟨A,c,rfl,ho⟩:=hr
 exact⟨A,c,rfl,ye ho fun g hg=>by
  obtain⟨cur,hcur⟩:=zZ ho g hg
  exact t.1.block g (za hcur) (h.ne g cur hcur)⟩
end
set_option maxRecDepth 100000 in
set_option maxHeartbeats 2000000 in
theorem qE (b:Nat)(s:ByteArray)(at_:Nat)(er:Int)(v:Value)(w:World)(h:RDe w b s at_ v er):Calls Tryz.prog 76 #[ptr b] w fun e w'=>e=.returned (.bool (decide (er=0)&&decide (at_ < s.size)))∧Ext w w':=by
 obtain⟨c0,c1,c2,c3⟩:=h.cells
 have hb:=h.lt; clear h; by_cases he:er=0
 ·subst he; have q0:((0:Int)==0)=true:=rfl; go_in
  go_upto_region 1 with fail; refine zg (18) (zd [0,1,2] (zj [3,4,5,6,7,8,9,10,11,12,13,14,15,16,17] .fin)) (by kernel_rfl) (by kernel_rfl) ?_; refine yq ?_; refine yr ?_; refine zv ?_; go_wp2_with fail; go_ret
  exact⟨by simp,xi⟩
 ·have q0:(er==0)=false:=by simpa using he
  have q1:decide (er=0)=false:=decide_eq_false he; clear he; go_in
  go_upto_region 1 with fail; refine zg (18) (zd [0,1,2] (zj [3,4,5,6,7,8,9,10,11,12,13,14,15,16,17] .fin)) (by kernel_rfl) (by kernel_rfl) ?_; refine yq ?_; refine yr ?_; refine zv ?_; go_wp2_with fail; go_ret
  exact⟨by simp[q1],xi⟩
set_option maxRecDepth 100000 in
set_option maxHeartbeats 2000000 in
theorem vV (b base:Nat)(s:ByteArray)(at_ n:Nat)(er x:Int)(v:Value)(ns:List Nod)(w:World)(h:RdS w b base s at_ er v ns):
 Calls Tryz.prog 77 #[ptr b,.int .i64 n,.int .i64 x] w fun e w'=>e=.returned (.int .i64 0)∧RdS w' b base s (if er=0 then n else at_) (if er=0 then x else er) v ns∧RdT b v w v w':=by
 obtain⟨c0,c1,c2,c3⟩:=h.blk.cells
 have hb:=h.blk.lt; have H:=zh h; by_cases he:er=0
 ·subst he; have f1:=zi h.blk 1; have f3:=zi h.blk 3; have T:Hid (zA (fun i=>i=b) w ((w.setCell ⟨b,3,none⟩ (.int .i64 x)).setCell ⟨b,1,none⟩ (.int .i64 n))):=zh ((zA.set1 b 3 _).trans (zA.set1 b 1 _)); have HR:Hid (RdS ((w.setCell ⟨b,3,none⟩ (.int .i64 x)).setCell ⟨b,1,none⟩ (.int .i64 n)) b base s n x v ns):=zh ⟨h.blk.fail n x,ye h.row (fun g hg=>T.out.block g (z8 h.row g hg) (fun he=>by
   subst he
   obtain⟨cur,hcur⟩:=zZ h.row g hg
   have hb:=h.blk; unfold RDe at hb; exact zU hcur hb (by decide) rfl)),fun m hm=>(h.kids m hm).turn T.out (fun g cs hg hh=>h.ne g cs hg (.inl hh)),h.cls⟩
  have q0:((0:Int)==0)=true:=rfl; clear h; go_in
  go_wp2_with fail; go_ret
  exact⟨rfl,by simpa using HR.out,T.out.mono (fun k _ hk=>.inl hk),fun _ h=>.inl h⟩
 ·have q0:(er==0)=false:=by simpa using he
  have q1:decide (er=0)=false:=decide_eq_false he; have HE:=zh he; clear h he; go_in
  go_wp2_with fail; go_ret
  exact⟨rfl,by simpa[HE.out]using H.out,RdT.refl⟩
theorem J6 (b base:Nat)(s:ByteArray)(at_:Nat)(er:Int)(v:Value)(ns:List Nod)(k:Int)(c:Cl)(kA:Option Addr)(kids:List Int)(kc:Nat)(w:World)(h:RdS w b base s at_ er v ns)(hk:vW w kA kids kc)(hc:c.ok)(hb:base≤w.heap.size)(hn:ns.length≤900000):
 Calls Tryz.prog 114 #[ptr b,.int .i64 k,c.V,.slice kA kids.length kc] w fun e w'=>∃v',e=.returned (.int .i64 ns.length)∧RdS w' b base s at_ er v' (ns++[⟨k,c,kA,kids,kc⟩])∧RdT b v w v' w':=by
 refine(zj6 er b base s at_ v ns.length (Yo ns) k c kA kids.length kc w h.blk h.row hb hn).mono ?_
 rintro e w' ⟨v',rfl,h1,h2,h3,h4⟩; have t:RdT b v w v' w':=⟨h3,fun i hi=>by
  rcases h4 with h4|⟨g,h4,h5⟩
  ·exact .inl (h4▸hi)
  ·rw[h4]at hi
   injection hi with hi; exact .inr (by omega)⟩
 refine⟨v',rfl,⟨h1,?_,fun m hm=>?_,fun m hm=>?_⟩,t⟩
 ·rw[zak,List.length_append]
  simpa[Yo,zhm]using h2
 ·rcases List.mem_append.1 hm with hm|hm
  ·exact t.kid h (h.kids m hm)
  ·rw[List.mem_singleton]at hm
   subst hm; exact t.kid h hk
 ·rcases List.mem_append.1 hm with hm|hm
  ·exact h.cls m hm
  ·rw[List.mem_singleton]at hm
   subst hm; exact hc
set_option maxRecDepth 100000 in
set_option maxHeartbeats 2000000 in
theorem zjB (c:Int)(w:World)(h0:0≤c)(h1:c < 256):Calls Tryz.prog 148 #[.int .u8 c] w fun e w'=>(∃d:Int,e=.returned (.int .i64 d)∧-1≤d∧d≤15)∧Ext w w':=by
 by_cases a1:48≤c<;>by_cases a2:c≤57<;>by_cases a3:97≤c<;>by_cases a4:c≤102<;>by_cases a5:65≤c<;>by_cases a6:c≤70<;>first|(exfalso;omega)|skip
 all_goals
  go_in
  go_wp2_with fail; go_ret
  exact⟨⟨_,rfl,by omega,by omega⟩,xi⟩
set_option maxRecDepth 100000 in
set_option maxHeartbeats 2000000 in
theorem zfO (c:Int)(w:World)(h0:0≤c)(h1:c < 256):Calls Tryz.prog 149 #[.int .u8 c] w (za4 w):=by
 by_cases a1:48≤c<;>by_cases a2:c≤57<;>by_cases a3:97≤c<;>by_cases a4:c≤122<;>by_cases a5:65≤c<;>by_cases a6:c≤90<;>first|(exfalso;omega)|skip
 all_goals
  go_in
  go_wp2_with fail; go_ret
  exact⟨_,rfl,xi⟩
end Go.Proofs.YtmbelmngniddjaaGreat
