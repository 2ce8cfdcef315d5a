/- Rf: texts that the proof rests on, part 15. -/
import Derived.Test.YtmbelmngniddjaaGreatRf14
namespace Go.Proofs.YtmbelmngniddjaaGreat
open Go.RowKit
attribute [local go_sem] zF zB zI zJ zw zt zN zD zX zQ zK zP zO zL zT zR zS zG zM zC
theorem ZV.rd {w:World}{nb base:Nat}{cs:List Cl}{nx:List (List Int)}{rl:List Int}{cv nv rv:Value}(h:ZV w nb base cs nx rl cv nv rv):Qh w cv nv rv cs nx rl:=h.at_.rd rfl rfl rfl h.nxl
structure zho (cs:List Cl)(nx:List (List Int))(rl:List Int)(R:Int):Prop where
 one:0 < cs.length
 most:cs.length≤1024
 zero:cs.getD 0 Cl.zero=Cl.zero
 rule:∀r∈rl,-1≤r∧r < R
 ok:∀xs∈nx,qY cs.length xs
 cls:∀c∈cs,c.ok
theorem zho.clsD {cs:List Cl}{nx:List (List Int)}{rl:List Int}{R:Int}(h:zho cs nx rl R)(j:Nat):(cs.getD j Cl.zero).ok:=by
 rw[List.getD_eq_getElem?_getD]
 by_cases hj:j < cs.length
 ·rw[List.getElem?_eq_getElem hj]
  exact h.cls _ (List.getElem_mem hj)
 ·rw[List.getElem?_eq_none (by omega)]
  exact Cl.zero_ok
def zeZ (w:World)(P:Int→Prop)(e:Ending)(w':World):Prop:=∃r:Int,e=.returned (.int .i64 r)∧P r∧Ext w w'
set_option maxRecDepth 100000 in
set_option maxHeartbeats 4000000 in
theorem zi3 (cv nv rv:Value)(cs:List Cl)(nx:List (List Int))(rl:List Int)(R:Int)(S:Option Addr)(sc:Nat)(ss:List Int)(w:World)(hN:Qh w cv nv rv cs nx rl)(hG:zho cs nx rl R)(hS:xW w S ss)(hs:qY cs.length ss)(hR:0≤R):
 Calls Tryz.prog 84 #[.agg #[cv,nv,rv],.slice S ss.length sc] w (zeZ w fun r=>-1≤r∧r < R):=by
 obtain⟨W,hW⟩:∃W,w.alloc (.cells #[cv,nv,rv] 108)=W:=⟨_,rfl⟩
 obtain⟨b,hb⟩:∃b,w.heap.size=b:=⟨_,rfl⟩
 have X1:Ext w W:=by rw[←hW];exact xi
 have B1:W.heap[b]?=some (.cells #[cv,nv,rv] 108):=by rw[←hW,←hb];exact heap_alloc_new _ _
 obtain⟨m,hmm⟩:∃m,cs.length=m:=⟨_,rfl⟩
 obtain⟨n,hn⟩:∃n,ss.length=n:=⟨_,rfl⟩
 obtain⟨RA,rc,hrv,hRI,_⟩:=hN.rul
 obtain⟨hl1,hl2⟩:=hN.len
 have hone:=hG.one; have hmost:=hG.most
 obtain⟨gr,orr,rfl,lgr,hrc⟩:=(hRI.ext X1).get (by omega)
 rw[hmm]at hl2 hs hrv hone hmost
 have hnm:=y9 hs
 rw[hn]at hnm
 have b2:=cr 2 B1; have lb:=za B1
 rw[hrv]at b2
 simp at b2
 have HC:Hid (∀wr,Ext W wr→wr.cell? ⟨b,2,none⟩=some (.slice (some ⟨gr,orr,none⟩) m rc)∧b < wr.heap.size∧gr < wr.heap.size∧∀t,t < m→∃r:Int,-1≤r∧r < R∧wr.cell? ⟨gr,orr+t,none⟩=some (.int .i64 r)):=zh (fun wr e=>⟨zy b2 lb e,Nat.lt_of_lt_of_le lb e.size,Nat.lt_of_lt_of_le lgr e.size,fun t ht=>by
  have hlt:t < rl.length:=by omega
  obtain⟨h3,h4⟩:=hG.rule rl[t] (List.getElem_mem hlt)
  exact⟨rl[t],h3,h4,zy (hrc t _ (List.getElem?_eq_getElem hlt)) lgr e⟩⟩)
 have HS:Hid (∀wr,Ext W wr→∀i,i < n→∃gs os t,S=some ⟨gs,os,none⟩∧gs < wr.heap.size∧t < m∧wr.cell? ⟨gs,os+i,none⟩=some (.int .i64 ((t:Nat):Int))):=zh (fun wr e i hi=>by
  obtain⟨gs,os,hSA,lgs,hsc⟩:=((hS.ext X1).ext e).get (by omega)
  have hlt:i < ss.length:=by omega
  have hr:=hs.2 ss[i] (List.getElem_mem hlt)
  refine⟨gs,os,ss[i].toNat,hSA,lgs,by omega,?_⟩
  rw[Int.toNat_of_nonneg hr.1]
  exact hsc i _ (List.getElem?_eq_getElem hlt))
 have HX:=zh X1; have HRR:=zh hR
 rw[hn]
 clear hN hS hrv hRI hl1 hl2 hrc X1 B1 hmm hn hG hs b2 lb lgr; go_in
 go_wp2_with fail; try simp only[hb,hW]
 clear hW hb; go_loopw [5,6] (fun lv iv wr=>∃(r:Int) (i:Nat),lv=.int .i64 r∧iv=.int .i64 i∧i≤n∧Hid (-1≤r∧r < R)∧Hid (Ext W wr)) (fun _ iv _=>n - (intOf iv).toNat)
 case atStart=>exact⟨-1,0,rfl,rfl,Nat.zero_le _,zh ⟨by omega,by have:=HRR.out;omega⟩,zh (Ext.refl _)⟩
 case round=>
  obtain⟨r,i,rfl,rfl,hi,HR,HY⟩:=hrel
  by_cases hlt:i < n
  ·obtain⟨gs,os,t,rfl,lgs,htm,s0⟩:=HS.out wr HY.out i hlt
   obtain⟨b2,lb,lgr,hru⟩:=HC.out wr HY.out
   obtain⟨q,hq1,hq2,r0⟩:=hru t htm
   have d1:decide ((t:Int) < m)=true:=by simp;omega
   have d2:decide ((t:Int)≥0)=true:=by simp
   have HQ:=zh (And.intro hq1 hq2); clear hru hq1 hq2; go_upto_region 5 with fail; refine zg (15) (zd [0,1,2] (zj [3,4,5,6,7,8,9,10,11,12,13,14] .fin)) (by kernel_rfl) (by kernel_rfl) ?_; (repeat first|refine yq ?_|refine yr ?_)
   refine zv ?_; go_upto_region 6 with fail; refine zg (9) (zd [0,2,3,4] (zj [1,5,6,7,8] .fin)) (by kernel_rfl) (by kernel_rfl) ?_; (repeat first|refine yq ?_|refine yr ?_)
   refine zv ?_; clear s0 r0 b2 lb lgr lgs d1 d2; by_cases h0:0≤q
   ·have e0:decide (q≥0)=true:=by simpa using h0
    by_cases h1:r < 0
    ·have e1:decide (r < 0)=true:=by simpa using h1
     clear h0 h1; go_wp2_with fail; go_roundw
     case rel=>exact⟨q,i+1,rfl,by go_num,by omega,HQ,zh (HY.out.trans xi)⟩
     case measure=>simp[intOf];omega
    ·have e1:decide (r < 0)=false:=by simpa using h1
     by_cases h2:q < r
     ·have e2:decide (q < r)=true:=by simpa using h2
      clear h0 h1 h2; go_wp2_with fail; go_roundw
      case rel=>exact⟨q,i+1,rfl,by go_num,by omega,HQ,zh (HY.out.trans xi)⟩
      case measure=>simp[intOf];omega
     ·have e2:decide (q < r)=false:=by simpa using h2
      clear h0 h1 h2; go_wp2_with fail; go_roundw
      case rel=>exact⟨r,i+1,rfl,by go_num,by omega,HR,zh (HY.out.trans xi)⟩
      case measure=>simp[intOf];omega
   ·have e0:decide (q≥0)=false:=by simpa using h0
    clear h0; go_wp2_with fail; go_roundw
    case rel=>exact⟨r,i+1,rfl,by go_num,by omega,HR,zh (HY.out.trans xi)⟩
    case measure=>simp[intOf];omega
  ·obtain rfl:i=n:=by omega
   go_wp2_with fail; go_ret
   exact⟨r,rfl,HR.out,HX.out.trans HY.out⟩
def ziU (w:World)(m:Nat)(e:Ending)(w':World):Prop:=∃zs,qY m zs∧Yb w zs e w'
set_option maxRecDepth 100000 in
set_option maxHeartbeats 8000000 in
theorem zkk (cv nv rv:Value)(cs:List Cl)(nx:List (List Int))(rl:List Int)(R:Int)(S:Option Addr)(sc b:Nat)(ss:List Int)(w:World)(hN:Qh w cv nv rv cs nx rl)(hG:zho cs nx rl R)(hS:xW w S ss)(hs:qY cs.length ss)(hb:b < 256):
 Calls Tryz.prog 85 #[.agg #[cv,nv,rv],.slice S ss.length sc,.int .u8 b] w (ziU w cs.length):=by
 obtain⟨W,hW⟩:∃W,w.alloc (.cells #[cv,nv,rv] 108)=W:=⟨_,rfl⟩
 obtain⟨g0,hg0⟩:∃b,w.heap.size=b:=⟨_,rfl⟩
 have X1:Ext w W:=by rw[←hW];exact xi
 have B1:W.heap[g0]?=some (.cells #[cv,nv,rv] 108):=by rw[←hW,←hg0];exact heap_alloc_new _ _
 obtain⟨m,hmm⟩:∃m,cs.length=m:=⟨_,rfl⟩
 obtain⟨n,hn⟩:∃n,ss.length=n:=⟨_,rfl⟩
 obtain⟨A,c,hcv,hA,_⟩:=hN.cls
 obtain⟨B,d,vs,hnv,hB,hvl,_,hvi⟩:=hN.nxt
 obtain⟨hl1,hl2⟩:=hN.len
 have hone:=hG.one; have hmost:=hG.most
 obtain⟨gb,ob,rfl,lgb,hbc⟩:=(hB.ext X1) (by omega)
 obtain⟨ga,oa,rfl,lga,hac⟩:=(hA.ext X1) (by rw[zbz];omega)
 rw[hmm]at hone hmost
 have hnm:=y9 hs
 rw[hn,hmm]at hnm
 have b0:=cr 0 B1; have b1:=cr 1 B1; have lb:=za B1
 rw[hcv,hmm]at b0
 rw[hnv,hmm]at b1
 simp at b0 b1
 have HE:Hid (∀wr,Ext W wr→wr.cell? ⟨g0,0,none⟩=some (.slice (some ⟨ga,oa,none⟩) m c)∧wr.cell? ⟨g0,1,none⟩=some (.slice (some ⟨gb,ob,none⟩) m d)∧g0 < wr.heap.size∧ga < wr.heap.size∧gb < wr.heap.size):=zh (fun wr e=>⟨zy b0 lb e,zy b1 lb e,Nat.lt_of_lt_of_le lb e.size,Nat.lt_of_lt_of_le lga e.size,Nat.lt_of_lt_of_le lgb e.size⟩); have HN:Hid (∀t,t < m→∃(D:Option Addr) (dd:Nat) (xs:List Int),qY m xs∧∀wr,Ext W wr→wr.cell? ⟨gb,ob+t,none⟩=some (.slice D xs.length dd)∧xW wr D xs):=zh (fun t ht=>by
  have hlt:t < nx.length:=by omega
  obtain⟨v,hv⟩:∃v,vs[t]?=some v:=⟨_,List.getElem?_eq_getElem (by omega)⟩
  obtain⟨D,dd,rfl,hD,_⟩:=hvi t v _ hv (List.getElem?_eq_getElem hlt)
  refine⟨D,dd,_,?_,fun wr e=>⟨zy (hbc t _ hv) lgb e,(hD.ext X1).ext e⟩⟩
  rw[←hmm]
  exact hG.ok _ (List.getElem_mem hlt))
 have HCL:Hid (∀wr,Ext W wr→∀y,y < m→∃z:Cl,z.ok∧wr.cell? ⟨ga,oa+y*4,none⟩=some (.int .u64 z.a)∧wr.cell? ⟨ga,oa+y*4+1,none⟩=some (.int .u64 z.b)∧wr.cell? ⟨ga,oa+y*4+2,none⟩=some (.int .u64 z.c)∧wr.cell? ⟨ga,oa+y*4+3,none⟩=some (.int .u64 z.d)):=zh (fun wr e y hy=>by
  have hyc:y < cs.length:=by omega
  refine⟨cs.getD y Cl.zero,hG.clsD y,?_,?_,?_,?_⟩
  ·exact zy (hac (y*4+0) _ (qW hyc rfl (by omega))) lga e
  ·exact zy (hac (y*4+1) _ (qW hyc rfl (by omega))) lga e
  ·exact zy (hac (y*4+2) _ (qW hyc rfl (by omega))) lga e
  ·exact zy (hac (y*4+3) _ (qW hyc rfl (by omega))) lga e)
 have HS:Hid (∀wr,Ext W wr→∀i,i < n→∃gs os t,S=some ⟨gs,os,none⟩∧gs < wr.heap.size∧t < m∧wr.cell? ⟨gs,os+i,none⟩=some (.int .i64 ((t:Nat):Int))):=zh (fun wr e i hi=>by
  obtain⟨gs,os,hSA,lgs,hsc⟩:=((hS.ext X1).ext e).get (by omega)
  have hlt:i < ss.length:=by omega
  have hr:=hs.2 ss[i] (List.getElem_mem hlt)
  refine⟨gs,os,ss[i].toNat,hSA,lgs,by omega,?_⟩
  rw[Int.toNat_of_nonneg hr.1]
  exact hsc i _ (List.getElem?_eq_getElem hlt))
 have HX:=zh X1
 obtain⟨hh,hhh⟩:∃hh,W.heap.size=hh:=⟨_,rfl⟩
 obtain⟨W1,hW1⟩:∃W1,W.alloc (.cells (madeCells #[.bool false] m) 4)=W1:=⟨_,rfl⟩
 have X2:Ext W W1:=by rw[←hW1];exact xi
 have H1:W1.heap[hh]?=some (.cells (madeCells #[.bool false] m) 4):=by rw[←hW1,←hhh];exact heap_alloc_new _ _
 have HB1:Hid (yQ W1 W.heap.size hh m (List.replicate m false)):=zh (yQ.made H1 (by omega) (by omega)); have HX2:=zh X2; have HHS:Hid (w.heap.size≤W.heap.size):=zh X1.size; have hmk:=fun w=>jk w m m rfl (by omega); simp only[hmm]
 rw[hn]
 clear hN hS hcv hA hB hvl hvi hnv hl1 hl2 hbc hac X1 B1 hmm hn hG hs X2 H1 lgb lga; go_in
 go_wp2_with fail; try simp only[hg0,hW,hhh,hW1]
 clear hg0 hW hhh hW1 hmk b0 b1 lb; go_loopw [8] (fun iv wr=>∃(i:Nat) (bs:List Bool),iv=.int .i64 i∧i≤n∧Hid (yQ wr W.heap.size hh m bs)∧Hid (Ext W wr)) (fun iv _=>n - (intOf iv).toNat)
 case atStart=>exact⟨0,_,rfl,Nat.zero_le _,HB1,HX2⟩
 case round=>
  clear HB1 HX2
  obtain⟨i,bs,rfl,hi,HB,HY⟩:=hrel
  by_cases hlt:i < n
  ·obtain⟨gs,os,t,rfl,lgs,htm,s0⟩:=HS.out wr HY.out i hlt
   obtain⟨b0,b1,lb,lga,lgb⟩:=HE.out wr HY.out
   obtain⟨D,dd,xs,hxo,hDD⟩:=HN.out t htm
   have n0:=(hDD wr HY.out).1; have d2:decide ((t:Int) < 0)=false:=by simp
   have d3:decide ((m:Int)≤t)=false:=by simp;omega
   have d4:decide (m≤t)=false:=by simp;omega
   have HD:=zh (fun wr e=>(hDD wr e).2); have HXO:=zh hxo
   obtain⟨xn,hxn⟩:∃k,xs.length=k:=⟨_,rfl⟩
   have hxl:xn≤m:=by have:=y9 hxo;omega
   rw[hxn]at n0
   have HXN:=zh hxn; clear hDD hxo hxn; go_upto_region 5 with fail; refine zg (15) (zd [0,1,2] (zj [3,4,5,6,7,8,9,10,11,12,13,14] .fin)) (by kernel_rfl) (by kernel_rfl) ?_; (repeat first|refine yq ?_|refine yr ?_)
   refine zv ?_; go_upto_region 6 with fail; refine zg (9) (zd [0,2,3,4] (zj [1,5,6,7,8] .fin)) (by kernel_rfl) (by kernel_rfl) ?_; (repeat first|refine yq ?_|refine yr ?_)
   refine zv ?_; clear s0 b0 b1 lb lga lgb n0 d2 d3 d4 lgs; go_wp2_with fail; have HB2:Hid (yQ wr.drew.drew W.heap.size hh m bs):=zh (HB.out.ext xi); have HY2:Hid (Ext W wr.drew.drew):=zh (HY.out.trans xi); go_loopw [10] (fun kv wq=>∃(k:Nat) (bs:List Bool),kv=.int .i64 k∧k≤xn∧Hid (yQ wq W.heap.size hh m bs)∧Hid (Ext W wq)) (fun kv _=>xn - (intOf kv).toNat)
   case atStart=>exact⟨0,bs,rfl,Nat.zero_le _,HB2,HY2⟩
   case round=>
    clear HB2 HY2 HB HY
    obtain⟨k,bs,rfl,hk,HB,HY⟩:=hrel
    by_cases hkl:k < xn
    ·obtain⟨gd,od,rfl,lgd,hdc⟩:=(HD.out wr HY.out).get (by have:=HXN.out;omega)
     have hkx:k < xs.length:=by have:=HXN.out;omega
     have x0:=hdc k _ (List.getElem?_eq_getElem hkx); have hr:=HXO.out.2 xs[k] (List.getElem_mem hkx)
     obtain⟨x,hx⟩:∃x,xs[k]=x:=⟨_,rfl⟩
     rw[hx]at x0 hr
     obtain⟨y,rfl⟩:∃y:Nat,x=(y:Int):=⟨x.toNat,by omega⟩
     have hym:y < m:=by omega
     obtain⟨z,zo,c0,c1,c2,c3⟩:=HCL.out wr HY.out y hym
     obtain⟨b0,b1,lb,lga,lgb⟩:=HE.out wr HY.out
     have HC:=zh (fun W=>zhJ z b W hb zo); have d6:decide (y < m)=true:=by simp;omega
     clear hdc hx hkx zo hr; go_upto_region 10 with fail; refine zg (10) (zd [0,2,3,4,8] (zj [1,5,6,7] (.step 9 .fin))) (by kernel_rfl) (by kernel_rfl) ?_; (repeat first|refine yq ?_|refine yr ?_)
     refine zp fun next hn=>?_;simp only[pick,yp]; go_wp2_with fail
     refine(HC.out _).mono ?_
     rintro e w5 ⟨rfl,hx5⟩; have HYW:Hid (Ext wr w5):=zh (Ext.trans xi hx5); have HY5:=zh (HY.out.trans HYW.out); have HB5:=zh (HB.out.ext HYW.out); have x5:=zy x0 lgd HYW.out; have l5:=Nat.lt_of_lt_of_le lgd HYW.out.size; clear x0 lgd hx5 HB HY b0 b1 lb lga lgb c0 c1 c2 c3
     obtain⟨hv,hhv⟩:∃hv,zjV z b=hv:=⟨_,rfl⟩
     simp only[hhv]
     clear hhv HC; go_wp2_with fail; refine zk (fun _=>yZ HYW.out) (hn _ _ ?_); clear hn next HYW; refine zv ?_; cases hv with
     |true=>
      obtain⟨q,hq⟩:∃q,bs[y]?=some q:=⟨_,List.getElem?_eq_getElem (by have:=HB5.out.1;omega)⟩
      have q5:=HB5.out.get hq; have f5:=HB5.out.frozen y; have lh:=HB5.out.lt; have HB6:=zh (HB5.out.put y true); have HY6:=zh (HY5.out.setCell (p:=⟨hh,y,none⟩) HB5.out.low (.bool true)); clear hq; go_wp2_with fail; clear q5 f5 x5; go_roundw
      case rel=>exact⟨k+1,_,by go_num,by omega,zh (HB6.out.ext xi),zh (HY6.out.trans xi)⟩
      case measure=>simp[intOf];omega
     |false=>
      go_wp2_with fail; go_roundw
      case rel=>exact⟨k+1,bs,by go_num,by omega,zh (HB5.out.ext xi),zh (HY5.out.trans xi)⟩
      case measure=>simp[intOf];omega
    ·obtain rfl:k=xn:=by omega
     go_wp2_with fail; go_roundw
     case rel=>exact⟨i+1,bs,by go_num,by omega,zh (HB.out.ext xi),zh (HY.out.trans xi)⟩
     case measure=>simp[intOf];omega
  ·obtain rfl:i=n:=by omega
   go_wp2_with fail; go_loopw [11,12] (fun v iv w7=>∃(k:Nat) (zs:List Int),k≤m∧iv=.int .i64 k∧Hid (xj w7 W.heap.size v zs)∧Hid (qY k zs)∧Hid (yQ w7 W.heap.size hh m bs)∧Hid (Ext W w7)) (fun _ i _=>m - (intOf i).toNat)
   case atStart=>exact⟨0,[],Nat.zero_le _,rfl,zh ⟨none,0,rfl,vr.nil _ _⟩,zh (qY.nil 0),HB,HY⟩
   case round=>
    clear HB HY
    obtain⟨k,zs,hk,rfl,hv,ZO,HB,HY⟩:=hrel
    by_cases hlt:k < m
    ·obtain⟨q,hq⟩:∃q,bs[k]?=some q:=⟨_,List.getElem?_eq_getElem (by have:=HB.out.1;omega)⟩
     have q7:=HB.out.get hq; have l7:=HB.out.lt; have hzl:zs.length≤k:=y9 ZO.out; clear hq; cases q with
     |true=>
      go_wp2_with (at_builtin;refine yV W (by rfl) (.tmp 78) (.tmp 80) rfl (hv.out.ext xi) (k:Int) wr.heap.size rfl rfl (by simp) (by rw[cr 0 (heap_alloc_new wr (.cells #[.int .i64 (k:Int)] 3))];rfl) (by omega) (by have:=HY.out.size;simp<;>omega) ?_;intro v8 w8 hr8 hgr8 hat8)
      obtain⟨A8,c8,hv8,ho8⟩:=hv.out
      have XA:Ext wr (wr.alloc (.cells #[.int .i64 (k:Int)] 3)):=xi; have HB8:Hid (yQ w8 W.heap.size hh m bs):=zh ⟨HB.out.1,by rw[hv8]at hgr8;exact xN ho8 hgr8 XA (yv HB.out.2 XA) (by decide)⟩; have HY8:Hid (Ext W w8):=zh ((HY.out.trans XA).grown hgr8 (fun g hg=>zV hv.out.ownU g hg)); have HR8:=zh hr8; clear hr8 hgr8 hat8 XA hv8 ho8; go_roundw
      case rel=>exact⟨k+1,zs++[(k:Int)],by omega,by go_num,HR8,zh ⟨by
       rw[List.nodup_append]
       exact⟨ZO.out.1,by simp,fun a ha b hb he=>by
        rw[List.mem_singleton]at hb
        subst hb he
        have:=ZO.out.2 _ ha
        omega⟩,fun x hx=>by
       rcases List.mem_append.1 hx with hx|hx
       ·have:=ZO.out.2 x hx;omega
       ·rw[List.mem_singleton]at hx;subst hx;omega⟩,HB8,HY8⟩
      case measure=>simp[intOf];omega
     |false=>
      go_wp2_with fail; go_roundw
      case rel=>exact⟨k+1,zs,by omega,by go_num,zh (hv.out.ext xi),zh (ZO.out.wide (by omega)),zh (HB.out.ext xi),zh (HY.out.trans xi)⟩
      case measure=>simp[intOf];omega
    ·obtain rfl:k=m:=by omega
     go_wp2_with fail; go_ret
     obtain⟨A8,c8,rfl,ho8⟩:=hv.out
     exact⟨zs,ZO.out,A8,c8,rfl,ho8.base HHS.out,HX.out.trans HY.out⟩
set_option maxRecDepth 100000 in
set_option maxHeartbeats 8000000 in
theorem zdt (cv nv rv:Value)(cs:List Cl)(nx:List (List Int))(rl:List Int)(R:Int)(w:World)(hN:Qh w cv nv rv cs nx rl)(hG:zho cs nx rl R)(hR:R≤16):
 Calls Tryz.prog 82 #[.agg #[cv,nv,rv]] w (zeZ w fun _=>True):=by
 obtain⟨W,hW⟩:∃W,w.alloc (.cells #[cv,nv,rv] 108)=W:=⟨_,rfl⟩
 obtain⟨g0,hg0⟩:∃b,w.heap.size=b:=⟨_,rfl⟩
 have X1:Ext w W:=by rw[←hW];exact xi
 have B1:W.heap[g0]?=some (.cells #[cv,nv,rv] 108):=by rw[←hW,←hg0];exact heap_alloc_new _ _
 obtain⟨m,hmm⟩:∃m,cs.length=m:=⟨_,rfl⟩
 obtain⟨A,c,hcv,hA,_⟩:=hN.cls
 obtain⟨B,d,vs,hnv,hB,hvl,_,hvi⟩:=hN.nxt
 obtain⟨RA,rc,hrv,hRI,_⟩:=hN.rul
 obtain⟨hl1,hl2⟩:=hN.len
 have h1:=hG.one; have h2:=hG.most
 obtain⟨gb,ob,rfl,lgb,hbc⟩:=(hB.ext X1) (by omega)
 obtain⟨gr,orr,rfl,lgr,hrc⟩:=(hRI.ext X1).get (by omega)
 obtain⟨ga,oa,rfl,lga,hac⟩:=(hA.ext X1) (by rw[zbz];omega)
 have c0:=hac (0*4+0) (.int .u64 0) (qW h1 (by rw[hG.zero];rfl) (by omega)); have c1:=hac (0*4+1) (.int .u64 0) (qW h1 (by rw[hG.zero];rfl) (by omega)); have c2:=hac (0*4+2) (.int .u64 0) (qW h1 (by rw[hG.zero];rfl) (by omega)); have c3:=hac (0*4+3) (.int .u64 0) (qW h1 (by rw[hG.zero];rfl) (by omega)); have b0:=cr 0 B1; have b1:=cr 1 B1; have b2:=cr 2 B1; have lb:=za B1
 rw[hcv,hmm]at b0
 rw[hnv,hmm]at b1
 rw[hrv,hmm]at b2
 rw[hmm]at h1 h2
 simp at b0 b1 b2 c0 c1 c2 c3
 have heq:=fun w=>ziE w; have d0:decide ((m:Int) < 1)=false:=by simp;omega
 have d1:decide ((m:Int) > 1024)=false:=by simp;omega
 have d2:decide (1024 < (m:Int))=false:=by simp;omega
 have d3:decide (1024 < m)=false:=by simp;omega
 have d4:decide (m < 1)=false:=by simp;omega
 have HX:=zh X1; have HE:Hid (∀wr,Ext W wr→wr.cell? ⟨g0,1,none⟩=some (.slice (some ⟨gb,ob,none⟩) m d)∧wr.cell? ⟨g0,2,none⟩=some (.slice (some ⟨gr,orr,none⟩) m rc)∧g0 < wr.heap.size∧gb < wr.heap.size∧gr < wr.heap.size):=zh (fun wr e=>⟨zy b1 lb e,zy b2 lb e,Nat.lt_of_lt_of_le lb e.size,Nat.lt_of_lt_of_le lgb e.size,Nat.lt_of_lt_of_le lgr e.size⟩); have HR:Hid (∀wr,Ext W wr→∀i,i < m→∃r:Int,-1≤r∧r < 16∧wr.cell? ⟨gr,orr+i,none⟩=some (.int .i64 r)):=zh (fun wr e i hi=>by
  have hlt:i < rl.length:=by omega
  obtain⟨h3,h4⟩:=hG.rule rl[i] (List.getElem_mem hlt)
  exact⟨rl[i],h3,by omega,zy (hrc i _ (List.getElem?_eq_getElem hlt)) lgr e⟩)
 have HN:Hid (∀t,t < m→∃(D:Option Addr) (dd xn:Nat),xn≤m∧∀wr,Ext W wr→wr.cell? ⟨gb,ob+t,none⟩=some (.slice D xn dd)∧∀j,j < xn→∃gd od x,D=some ⟨gd,od,none⟩∧gd < wr.heap.size∧wr.cell? ⟨gd,od+j,none⟩=some (.int .i64 x)):=zh (fun t ht=>by
  have hlt:t < nx.length:=by omega
  obtain⟨v,hv⟩:∃v,vs[t]?=some v:=⟨_,List.getElem?_eq_getElem (by omega)⟩
  obtain⟨D,dd,rfl,hD,_⟩:=hvi t v _ hv (List.getElem?_eq_getElem hlt)
  refine⟨D,dd,_,?_,fun wr e=>⟨zy (hbc t _ hv) lgb e,fun j hj=>?_⟩⟩
  ·rw[←hmm]
   exact y9 (hG.ok _ (List.getElem_mem hlt))
  ·obtain⟨gd,od,e1,e2,e3⟩:=((hD.ext X1).ext e).get (by omega)
   exact⟨gd,od,_,e1,e2,e3 j _ (List.getElem?_eq_getElem hj)⟩)
 clear hN hG hcv hnv hrv hA hB hRI hvl hvi hl1 hl2 hbc hrc hac hmm B1 X1; go_in
 go_wp2_with fail; try simp only[hg0,hW]
 clear hg0 hW b0 b1 b2 lb c0 c1 c2 c3 lga lgb lgr heq; go_loopw [4] (fun iv wr=>∃i:Nat,iv=.int .i64 i∧i≤m∧Hid (Ext W wr)) (fun iv _=>m - (intOf iv).toNat)
 case atStart=>exact⟨0,rfl,Nat.zero_le _,zh (Ext.refl _)⟩
 case round=>
  obtain⟨i,rfl,hi,HY⟩:=hrel
  by_cases hlt:i < m
  ·obtain⟨b1,b2,lb,lgb,lgr⟩:=HE.out wr HY.out
   obtain⟨r,hr1,hr2,r0⟩:=HR.out wr HY.out i hlt
   obtain⟨D,dd,xn,hxl,HDD⟩:=HN.out i hlt
   have HDH:=zh HDD; have e1:decide (r < -1)=false:=by simp;omega
   have e2:decide (r≥16)=false:=by simp;omega
   have e3:decide (16≤r)=false:=by simp;omega
   clear HDD; go_wp2_with fail; clear e1 e2 e3 r0 b1 b2 lb lgb lgr; go_loopw [5] (fun jv wq=>∃j:Nat,jv=.int .i64 j∧j≤xn∧Hid (Ext W wq)) (fun jv _=>xn - (intOf jv).toNat)
   case atStart=>exact⟨0,rfl,Nat.zero_le _,HY⟩
   case round=>
    clear HY
    obtain⟨j,rfl,hj,HY⟩:=hrel
    obtain⟨b1,b2,lb,lgb,lgr⟩:=HE.out wr HY.out
    obtain⟨n0,HD⟩:=HDH.out wr HY.out
    by_cases hjl:j < xn
    ·obtain⟨gd,od,x,rfl,lgd,x0⟩:=HD j hjl
     obtain⟨y,hjy⟩:∃y,0 < j→wr.cell? ⟨gd,od+(j - 1),none⟩=some (.int .i64 y):=by
      by_cases h0:0 < j
      ·obtain⟨gd',od',y,e1,_,e2⟩:=HD (j - 1) (by omega)
       injection e1 with e1; injection e1 with e1 e3; subst e1 e3
       exact⟨y,fun _=>e2⟩
      ·exact⟨0,fun h=>absurd h h0⟩
     have HJ:=zh hjy; have hxb:xn≤2000:=by omega
     clear HD hjy; go_upto_region 12 with fail; go_cut [110] (fun nv wc=>∃nb:Bool,nv=.bool nb∧Hid (Ext W wc))
     case first=>
      by_cases a1:x < 1
      ·have e1:decide (x < 1)=true:=decide_eq_true a1; clear a1; go_upto_region 12 with fail; refine zg (45) (zd [0,2,5] (zj [1,3,4,6,7,8,9,10,11,12,13,14,15,16,17,18,19,20,21,22,23,24,25,26,27,28,29,30,31,32,33,34,35,36,37,38,39,40,41,42,43,44] .fin)) (by kernel_rfl) (by kernel_rfl) ?_; (repeat first|refine yq ?_|refine yr ?_)
       refine zv ?_; go_wp2_with fail; go_meet
       exact⟨_,rfl,zh (HY.out.trans xi)⟩
      ·have e1:decide (x < 1)=false:=decide_eq_false a1; by_cases a2:(m:Int)≤x
       ·have e2:decide ((m:Int)≤x)=true:=decide_eq_true a2; have e3:decide (x≥(m:Int))=true:=decide_eq_true a2; clear a1 a2; go_upto_region 12 with fail; refine zg (45) (zd [0,2,5] (zj [1,3,4,6,7,8,9,10,11,12,13,14,15,16,17,18,19,20,21,22,23,24,25,26,27,28,29,30,31,32,33,34,35,36,37,38,39,40,41,42,43,44] .fin)) (by kernel_rfl) (by kernel_rfl) ?_; (repeat first|refine yq ?_|refine yr ?_)
        refine zv ?_; go_wp2_with fail; go_meet
        exact⟨_,rfl,zh (HY.out.trans xi)⟩
       ·have e2:decide ((m:Int)≤x)=false:=decide_eq_false a2; have e3:decide (x≥(m:Int))=false:=decide_eq_false a2; by_cases a3:j=0
        ·subst a3; have e4:decide (((0:Nat):Int) > 0)=false:=rfl; have e5:decide ((0:Int) > 0)=false:=rfl; have e6:decide ((0:Int) < 0)=false:=rfl; have x1:wr.cell? ⟨gd,od,none⟩=some (.int .i64 x):=x0; clear a1 a2; go_upto_region 12 with fail; refine zg (45) (zd [0,2,5] (zj [1,3,4,6,7,8,9,10,11,12,13,14,15,16,17,18,19,20,21,22,23,24,25,26,27,28,29,30,31,32,33,34,35,36,37,38,39,40,41,42,43,44] .fin)) (by kernel_rfl) (by kernel_rfl) ?_; (repeat first|refine yq ?_|refine yr ?_)
         refine zv ?_; go_wp2_with fail; go_meet
         exact⟨_,rfl,zh (HY.out.trans xi)⟩
        ·obtain⟨p,rfl⟩:∃p,j=p+1:=⟨j - 1,by omega⟩
         have y0:=HJ.out (by omega)
         rw[Nat.add_sub_cancel]at y0
         have e4:decide (0 < p+1)=true:=by simp
         have e5:wrap64 (((p+1:Nat):Int) - 1)=(p:Int):=by rw[IntWalk.wrap64_in _ (by omega)];omega
         have hpl:p < xn:=by omega
         clear a1 a2 a3; go_upto_region 12 with fail; refine zg (45) (zd [0,2,5] (zj [1,3,4,6,7,8,9,10,11,12,13,14,15,16,17,18,19,20,21,22,23,24,25,26,27,28,29,30,31,32,33,34,35,36,37,38,39,40,41,42,43,44] .fin)) (by kernel_rfl) (by kernel_rfl) ?_; (repeat first|refine yq ?_|refine yr ?_)
         refine zv ?_; go_wp2_with fail; go_meet
         exact⟨_,rfl,zh (HY.out.trans xi)⟩
     case rest=>
      obtain⟨nb,rfl,HZ⟩:=hcut
      clear b1 b2 lb lgb lgr n0 x0 lgd HJ; cases nb with
      |true=>
       go_wp2_with fail; go_ret
       exact⟨2,rfl,trivial,HX.out.trans HZ.out⟩
      |false=>
       go_wp2_with fail; go_roundw
       case rel=>exact⟨j+1,by go_num,by omega,HZ⟩
       case measure=>simp[intOf];omega
    ·obtain rfl:j=xn:=by omega
     clear HD; go_wp2_with fail; go_roundw
     case rel=>exact⟨i+1,by go_num,by omega,HY⟩
     case measure=>simp[intOf];omega
  ·obtain rfl:i=m:=by omega
   go_wp2_with fail; go_ret
   exact⟨0,rfl,trivial,HX.out.trans HY.out⟩
def zaH (ys:List Int):List Value:=ys.map fun y=>.int .u8 y
theorem Q7 (ys:List Int):(strOfNums ys).size=ys.length:=by
 unfold strOfNums; simp[ByteArray.size]
def zeG (w:World)(n:Nat)(e:Ending)(w':World):Prop:=∃s:ByteArray,e=.returned (.string s)∧s.size≤n∧Ext w w'
set_option maxRecDepth 100000 in
set_option maxHeartbeats 4000000 in
theorem zik (S:Option Addr)(sc m:Nat)(ss:List Int)(w:World)(hS:xW w S ss)(hs:qY m ss)(hm:m≤10000)(h0:0 < ss.length):Calls Tryz.prog 83 #[.slice S ss.length sc] w (zeG w 20000):=by
 obtain⟨n,hn⟩:∃n,ss.length=n:=⟨_,rfl⟩
 have hnm:=y9 hs
 rw[hn]at hnm
 have hn0:0 < n:=by omega
 have HS:Hid (∀wr,Ext w wr→∀i,i < n→∃gs os t,S=some ⟨gs,os,none⟩∧gs < wr.heap.size∧t < m∧wr.cell? ⟨gs,os+i,none⟩=some (.int .i64 ((t:Nat):Int))):=zh (fun wr e i hi=>by
  obtain⟨gs,os,hSA,lgs,hsc⟩:=(hS.ext e).get (by omega)
  have hlt:i < ss.length:=by omega
  have hr:=hs.2 ss[i] (List.getElem_mem hlt)
  refine⟨gs,os,ss[i].toNat,hSA,lgs,by omega,?_⟩
  rw[Int.toNat_of_nonneg hr.1]
  exact hsc i _ (List.getElem?_eq_getElem hlt))
 rw[hn]
 clear hS hs hn h0; go_in
 go_wp2_with fail; go_loopw [3,4] (fun v iv wr=>∃(i:Nat) (ys:List Int),iv=.int .i64 i∧i≤n∧Hid (ys.length=2*i)∧Hid (wr.ownsRow w.heap.size 5 1 v (2*i) (zaH ys))∧Hid (Ext w wr)) (fun _ iv _=>n - (intOf iv).toNat)
 case atStart=>exact⟨0,[],rfl,Nat.zero_le _,zh rfl,zh (World.ownsRow_nil _ _ _ _),zh (Ext.refl _)⟩
 case round=>
  obtain⟨i,ys,rfl,hi,HL,HO,HX⟩:=hrel
  obtain⟨A,c,hv,_⟩:=zW HO.out
  subst hv; by_cases hlt:i < n
  ·obtain⟨gs,os,t,rfl,lgs,htm,s0⟩:=HS.out wr HX.out i hlt
   have q1:((t:Int).tdiv 256)=((t / 256:Nat):Int):=by rw[Int.tdiv_eq_ediv_of_nonneg (by omega)];omega
   have q2:((t:Int).tmod 256)=((t % 256:Nat):Int):=by rw[Int.tmod_eq_emod_of_nonneg (by omega)];omega
   have w1:IntKind.u8.wrap ((t / 256:Nat):Int)=((t / 256:Nat):Int):=by simp[IntKind.wrap,IntKind.signed,IntKind.bits];omega
   have w2:IntKind.u8.wrap ((t % 256:Nat):Int)=((t % 256:Nat):Int):=by simp[IntKind.wrap,IntKind.signed,IntKind.bits]
   have HS0:Hid (2*i≤20000):=zh (by omega); go_upto_region 5 with fail; refine zg (14) (zd [0,1,2,3,7,8,9] (zj [4,5,6,10,11,12] (.step 13 (.step 14 (zd [15] .fin))))) (by kernel_rfl) (by kernel_rfl) ?_; (repeat first|refine yq ?_|refine yr ?_)
   refine zp fun next hn=>?_;simp only[pick,yp]; go_wp2_with fail; refine zk (fun _=>yZ xi) (hn _ _ ?_); clear hn next
   obtain⟨W,hW⟩:∃W,(wr.alloc (.cells #[.int .u8 ((t:Int) / 256),.int .u8 ((t:Int) % 256)] 5)).drew=W:=⟨_,rfl⟩
   have HXW:Hid (Ext wr W):=zh (by rw[←hW];exact xi); have HC:Hid (yI W (some ⟨wr.heap.size,0,none⟩) [.int .u8 ((t:Int) / 256),.int .u8 ((t:Int) % 256)]):=zh (by
    rw[←hW]
    exact yI.ext (xp wr 5 wr.heap.size #[.int .u8 ((t:Int) / 256),.int .u8 ((t:Int) % 256)] [.int .u8 ((t:Int) / 256),.int .u8 ((t:Int) % 256)] rfl rfl) xi)
   simp only[hW]
   clear hW
   obtain⟨i6,hi6,hz0,hz1,hz2⟩:=info_parts zbI
   refine zp fun next hn=>?_;simp only[pick,yp]; go_wp2_with (at_builtin;refine zE _ (by rfl) (.tmp 11) (.tmp 24) 166 rfl w.heap.size 5 i6 _ 1 1 Tryz.underlying166 hi6 hz0 hz1 hz2 rfl (by omega) (.slice A (2*i) c) (2*i) (zaH ys) rfl (yv HO.out HXW.out) (some ⟨wr.heap.size,0,none⟩) 2 2 [.int .u8 ((t:Int) / 256),.int .u8 ((t:Int) % 256)] rfl (by intro h;cases h) rfl HC.out (by intro u hu;simp at hu;rcases hu with rfl|rfl<;>rfl) (by unfold maxLen;have:=HS0.out;omega) (by omega) (by have:=HX.out.size;have:=HXW.out.size;simp<;>omega) ?_;intro v3 w3 hown3 hg3 hat3)
   have X3:Hid (Ext w w3):=zh ((HX.out.trans HXW.out).grown hg3 (fun g hg=>zV HO.out g hg)); refine zk (fun h=>absurd rfl h) (hn _ _ ?_); clear hn next; (repeat first|refine yq ?_|refine yr ?_)
   refine zv ?_; have HO3:Hid (w3.ownsRow w.heap.size 5 1 v3 (2*(i+1)) (zaH (ys++[(t:Int) / 256,(t:Int) % 256]))):=zh (by
    have:zaH (ys++[(t:Int) / 256,(t:Int) % 256])=zaH ys++[.int .u8 ((t:Int) / 256),.int .u8 ((t:Int) % 256)]:=by simp[zaH]
    rw[this,Nat.mul_add]
    exact hown3)
   clear hown3 hg3 hat3 hi6 hz0 hz1 hz2 s0 lgs q1 q2 w1 w2; go_wp2_with fail; go_roundw
   case rel=>exact⟨i+1,_,by go_num,by omega,zh (by have:=HL.out;simp only[List.length_append,List.length_cons,List.length_nil];omega),HO3,X3⟩
   case measure=>simp[intOf];omega
  ·obtain rfl:i=n:=by omega
   have h0:0 < i:=hn0
   obtain⟨b3,c3,hv3,_,lb3,_,_,hcc⟩:=qw HO.out (by omega)
   injection hv3 with hv3 hv4 hv5; subst hv3; clear hv4 hv5; have hcv:=run_convert_bytes_arg (P:=Tryz.prog) wr 166 5 Tryz.underlying166 Tryz.underlying5 b3 0 (2*i) c ys HL.out (fun j hj=>by
    rw[Nat.zero_add]
    refine hcc j _ ?_; have hjl:j < ys.length:=by have:=HL.out;omega
    rw[zaH,List.getElem?_map,List.getElem?_eq_getElem hjl,List.getD_eq_getElem?_getD,List.getElem?_eq_getElem hjl]
    rfl) 9 Tryz.underlying9
   obtain⟨z,hz,hzl⟩:∃z,strOfNums ys=z∧z.size≤20000:=⟨_,rfl,by rw[Q7];have:=HL.out;omega⟩
   rw[hz]at hcv
   clear hz hcc lb3; go_wp2_with fail; go_ret
   exact⟨z,rfl,hzl,HX.out⟩
theorem zid {P:Program}{C:World→Prop}{l:List Oper}{s:Nat}{Q:Act→World→Prop}{x y:Bt}{a:Act}{w:World}(h:BtW P l C s Q x a w)(h':BtW P l C s Q y a w):BtW P l C s Q (.two x y) a w:=⟨⟨h.out,h'.out⟩⟩
def zbY (w:World)(v:Value)(rss:List (List Nod)):Prop:=∃A c vs,v=.slice A rss.length c∧yI w A vs∧vs.length=rss.length∧∀(i:Nat) (u:Value) (ns:List Nod),vs[i]?=some u→rss[i]?=some ns→YI w u ns
theorem zbY.at_ {w:World}{v:Value}{rss:List (List Nod)}(h:zbY w v rss)(h0:0 < rss.length):∃g off c,v=.slice (some ⟨g,off,none⟩) rss.length c∧∀w',Ext w w'→g < w'.heap.size∧∀(i:Nat) (ns:List Nod),rss[i]?=some ns→∃A k,w'.cell? ⟨g,off+i,none⟩=some (.slice A ns.length k)∧YI w' (.slice A ns.length k) ns:=by
 obtain⟨A,c,vs,rfl,h2,h3,h4⟩:=h
 obtain⟨g,off,rfl,hg,hc⟩:=h2 (by omega)
 refine⟨g,off,c,rfl,fun w' e=>⟨Nat.lt_of_lt_of_le hg e.size,fun i ns hn=>?_⟩⟩
 have hlt:=(List.getElem?_eq_some_iff.1 hn).1
 obtain⟨u,hu⟩:∃u,vs[i]?=some u:=⟨_,List.getElem?_eq_getElem (by omega)⟩
 have hr:=h4 i u ns hu hn
 obtain⟨A,k,rfl,_⟩:=hr.row
 exact⟨A,k,zy (hc i _ hu) hg e,hr.ext e⟩
section
variable {w w':World}{nb base pb:Nat}{cs:List Cl}{nx:List (List Int)}{rl:List Int}{cv nv rv:Value}
theorem ZV.keepN (h:ZV w nb base cs nx rl cv nv rv){ds:Array Value}(hb:w.heap[pb]?=some (.cells ds 108))(hne:pb≠nb)(t:zA (fun k=>k=pb) w w'):ZV w' nb base cs nx rl cv nv rv:=by
 obtain⟨t1,t2,t3⟩:=h.at_.types
 obtain⟨vs,h1,h2,h3⟩:=h.at_.nxt
 refine⟨⟨t.keep h.at_.blk (fun he=>hne he.symm),h.at_.low,ye h.at_.cls fun k hk=>t.block k (z8 h.at_.cls k hk) (fun he=>by obtain⟨cu,hcu⟩:=t1 k hk;exact zU hcu hb (by decide) he),
  ⟨vs,ye h1 fun k hk=>t.block k (z8 h1 k hk) (fun he=>by obtain⟨cu,hcu⟩:=t2 k hk;exact zU hcu hb (by decide) he),h2,fun k u ys hu hy=>(h3 k u ys hu hy).keep t (fun k cs hcs hne hk=>by subst hk;exact zU hcs hb (by decide) rfl) _ (fun _ hg=>.inl hg)⟩,
  ye h.at_.rul fun k hk=>t.block k (z8 h.at_.rul k hk) (fun he=>by obtain⟨cu,hcu⟩:=t3 k hk;exact zU hcu hb (by decide) he)⟩,h.nxl,h.rll,h.ok,h.cls⟩
theorem ZV.offN (h:ZV w nb base cs nx rl cv nv rv){ds:Array Value}(hb:w.heap[pb]?=some (.cells ds 108))(hne:pb≠nb):¬Zf nb cv nv rv pb:=fun hg=>by
 obtain⟨t1,t2,t3⟩:=h.at_.types
 rcases hg with rfl|hg|hg|hg
 ·exact hne rfl
 ·obtain⟨cu,hc⟩:=t1 pb hg
  exact zU hc hb (by decide) rfl
 ·obtain⟨cu,hc⟩:=t2 pb hg
  exact zU hc hb (by decide) rfl
 ·obtain⟨cu,hc⟩:=t3 pb hg
  exact zU hc hb (by decide) rfl
end
structure BdN (w0 w:World)(nb base pb n i:Nat)(cs:List Cl)(nx:List (List Int))(rl:List Int)(cv nv rv:Value):Prop where
 nfa:ZV w nb base cs nx rl cv nv rv
 one:0 < cs.length
 most:cs.length≤1+512*i
 zero:cs.getD 0 Cl.zero=Cl.zero
 rule:∀r∈rl,-1≤r∧r < (n:Int)
 ext:Ext w0 w
 res:w.heap[pb]?=some (.cells #[zH,zH,zH] 108)
theorem BdN.toExt {w0 w w':World}{nb base pb n i:Nat}{cs:List Cl}{nx:List (List Int)}{rl:List Int}{cv nv rv:Value}(h:BdN w0 w nb base pb n i cs nx rl cv nv rv)(e:Ext w w'):BdN w0 w' nb base pb n i cs nx rl cv nv rv:=⟨h.nfa.ext e,h.one,h.most,h.zero,h.rule,h.ext.trans e,zb h.res e⟩
theorem BdN.node {w0 w w':World}{nb base pb n i lim:Nat}{cs:List Cl}{nx:List (List Int)}{rl:List Int}{cv nv rv:Value}{e:Ending}(h:BdN w0 w nb base pb n i cs nx rl cv nv rv)(hb:w0.heap.size≤base)(hne:pb≠nb)(hr:zdb w nb base cs rl cv nv rv lim e w')(hl:lim≤512):
 ∃(em:Bool) (F:Option Addr) (fc:Nat) (fs:List Int) (L:Option Addr) (lc:Nat) (ls:List Int) (cs':List Cl) (nx':List (List Int)) (rl':List Int) (cv' nv' rv':Value),e=.returned (.agg #[.bool em,.slice F fs.length fc,.slice L ls.length lc])∧yN w' rv' (.slice F fs.length fc) fs∧yN w' rv' (.slice L ls.length lc) ls∧BdN w0 w' nb base pb n (i+1) cs' nx' rl' cv' nv' rv'∧qY cs'.length fs∧qY cs'.length ls∧zA (Zf nb cv nv rv) w w':=by
 obtain⟨em,F,fc,fs,L,lc,ls,cs2,nx',rl2,cv',nv',rv',rfl,h1,h2,h3,h4,h5,h6,h7,h8,h9,h10⟩:=hr
 refine⟨em,F,fc,fs,L,lc,ls,cs++cs2,nx',rl++rl2,cv',nv',rv',rfl,h1,h2,⟨h3,by rw[List.length_append];have:=h.one;omega,by rw[List.length_append];have:=h.most;omega,?_,fun r hr=>?_,h8.ext h.ext (fun k hk=>Nat.le_trans hb (h.nfa.low_all k hk)),h8.keep h.res (h.nfa.offN h.res hne)⟩,h4,h5,h8⟩
 ·rw[List.getD_eq_getElem?_getD,List.getElem?_append_left h.one,←List.getD_eq_getElem?_getD]
  exact h.zero
 ·rcases List.mem_append.1 hr with hr|hr
  ·exact h.rule r hr
  ·have:=h7 r hr
   omega
def zfF (v:Value):Prop:=∃A n c,v=.slice A n c
def zht (w:World)(n:Nat)(e:Ending)(w':World):Prop:=∃(er:Int) (cv nv rv:Value),e=.returned (.tuple #[.agg #[cv,nv,rv],.int .i64 er])∧(er=0→∃cs nx rl,Qh w' cv nv rv cs nx rl∧zho cs nx rl n)∧(zfF cv∧zfF nv∧zfF rv)∧Ext w w'
set_option maxRecDepth 100000 in
set_option maxHeartbeats 4000000 in
theorem ze3 (v:Value)(rss:List (List Nod))(w:World)(h:zbY w v rss)(h0:0 < rss.length)(h16:rss.length≤16)(hl:∀ns∈rss,ns.length≤100000):
 Calls Tryz.prog 47 #[v] w (zht w rss.length):=by
 obtain⟨g,off,c,rfl,hat⟩:=h.at_ h0
 obtain⟨n,hn⟩:∃n,rss.length=n:=⟨_,rfl⟩
 rw[hn]at h0 h16 ⊢
 obtain⟨pb,hpb⟩:∃b,w.heap.size=b:=⟨_,rfl⟩
 obtain⟨W,hW⟩:∃W,((((w.alloc (.cells #[zH,zH,zH] 108)).alloc (.cells #[.int .u64 0,.int .u64 0,.int .u64 0,.int .u64 0] 145)).alloc (.cells #[zH] 33)).alloc (.cells #[.int .i64 (-1)] 3)).alloc (.cells #[.slice (some ⟨pb+1,0,none⟩) 1 1,.slice (some ⟨pb+2,0,none⟩) 1 1,.slice (some ⟨pb+3,0,none⟩) 1 1] 108)=W:=⟨_,rfl⟩
 have X1:Ext w W:=by rw[←hW];exact xi
 have P0:W.heap[pb]?=some (.cells #[zH,zH,zH] 108):=by rw[←hW,←hpb];exact(by simp only[zm,World.size_alloc];(repeat(split;(first|rfl|(exfalso;omega))));(try(first|(exfalso;omega)|simp_all)))
 have P1:W.heap[pb+1]?=some (.cells #[.int .u64 0,.int .u64 0,.int .u64 0,.int .u64 0] 145):=by rw[←hW,←hpb];exact(by simp only[zm,World.size_alloc];(repeat(split;(first|rfl|(exfalso;omega))));(try(first|(exfalso;omega)|simp_all)))
 have P2:W.heap[pb+2]?=some (.cells #[zH] 33):=by rw[←hW,←hpb];exact(by simp only[zm,World.size_alloc];(repeat(split;(first|rfl|(exfalso;omega))));(try(first|(exfalso;omega)|simp_all)))
 have P3:W.heap[pb+3]?=some (.cells #[.int .i64 (-1)] 3):=by rw[←hW,←hpb];exact(by simp only[zm,World.size_alloc];(repeat(split;(first|rfl|(exfalso;omega))));(try(first|(exfalso;omega)|simp_all)))
 have P4:W.heap[pb+4]?=some (.cells #[.slice (some ⟨pb+1,0,none⟩) 1 1,.slice (some ⟨pb+2,0,none⟩) 1 1,.slice (some ⟨pb+3,0,none⟩) 1 1] 108):=by rw[←hW,←hpb];exact(by simp only[zm,World.size_alloc];(repeat(split;(first|rfl|(exfalso;omega))));(try(first|(exfalso;omega)|simp_all)))
 have lit:∀{T:TypeId} {size k:Nat} {ds:Array Value},W.heap[k]?=some (.cells ds T)→pb≤k→ds.size=1*size→W.ownsRow pb T size (.slice (some ⟨k,0,none⟩) 1 1) 1 ds.toList:=fun {T size k ds} hk hb hs=>
  ⟨by simpa using hs,.inr ⟨k,1,ds,rfl,hb,hk,Nat.le_refl _,by unfold maxLen;omega,hs,by rw[←hs,←Array.length_toList,List.take_length]⟩⟩
 have HB0:Hid (BdN w W (pb+4) pb pb n 0 [Cl.zero] [[]] [-1] (.slice (some ⟨pb+1,0,none⟩) 1 1) (.slice (some ⟨pb+2,0,none⟩) 1 1) (.slice (some ⟨pb+3,0,none⟩) 1 1)):=zh ⟨⟨⟨P4,by omega,by
  have:=lit P1 (by omega) (size:=4) rfl
  exact this,⟨[zH],lit P2 (by omega) (size:=1) rfl,rfl,fun k v xs hv hx=>by
   have hk:k=0:=by
    have:=(List.getElem?_eq_some_iff.1 hv).1
    simp at this
    omega
   subst hk; simp at hv hx
   subst hv hx; exact yN.nil _ _⟩,lit P3 (by omega) (size:=1) rfl⟩,rfl,rfl,by simp[qY.nil],by simp[Cl.zero_ok]⟩,by simp,by simp,rfl,by simp;omega,X1,P0⟩
 have HAT:=zh hat; have HL:=zh hl; have HN:=zh hn; have HPB:Hid (w.heap.size=pb):=zh hpb; have q1:decide ((16:Int) < (n:Int))=false:=by rw[decide_eq_false_iff_not];omega
 clear h hat hl hn X1 P0 P1 P2 P3 P4 lit; go_in
 go_wp2_with fail; try simp only[hpb,hW]
 try simp only[show pb+1+1+1+1=pb+4 from rfl]
 clear hpb hW; go_loopw [5] (fun iv wr=>∃i:Nat,iv=.int .i64 i∧i≤n∧Hid (Ext W wr)∧Hid (∀(j:Nat) (ns:List Nod),j < i→rss[j]?=some ns→zga ns)) (fun iv _=>n - (intOf iv).toNat)
 case atStart=>exact⟨0,rfl,Nat.zero_le _,zh (Ext.refl _),zh (fun j ns h=>by omega)⟩
 case round=>
  obtain⟨i,rfl,hi,HX,HOK⟩:=hrel
  by_cases hlt:i < n
  ·obtain⟨ns,hns⟩:∃ns,rss[i]?=some ns:=⟨_,List.getElem?_eq_getElem (by have:=HN.out;omega)⟩
   obtain⟨lg,hcell⟩:=HAT.out wr (HB0.out.ext.trans HX.out)
   obtain⟨A,k,c0,hrx⟩:=hcell i ns hns
   have CK:=zh (J3 _ ns wr hrx (HL.out ns (List.mem_of_getElem? hns))); have HNS:=zh hns; clear hcell hrx hns; go_wp2_with fail; refine CK.out.mono ?_; rintro e w1 ⟨er,rfl,hok,x1⟩; have HE:=zh hok; have HX1:=zh (HX.out.trans x1); clear c0 lg CK hok x1 HX; by_cases e0:er=0
   ·have d1:(er !=0)=false:=by simp[e0]
    have HOK1:=zh (HE.out e0); clear e0 HE; go_wp2_with fail; go_roundw
    case rel=>exact⟨i+1,by go_num,by omega,HX1,zh (fun j ns' hj hn'=>by
     by_cases hji:j < i
     ·exact HOK.out j ns' hji hn'
     ·obtain rfl:j=i:=by omega
      rw[HNS.out]at hn'
      injection hn' with hn'; subst hn'; exact HOK1.out)⟩
    case measure=>simp[intOf];omega
   ·have d1:(er !=0)=true:=by simpa using e0
    have HE0:=zh e0; have R1:=zb HB0.out.res HX1.out; have P3:=qK R1 zH zH zH
    obtain⟨W3,hW3⟩:∃W3,y8 w1 pb zH zH zH=W3:=⟨_,rfl⟩
    have HX3:Hid (Ext w W3):=zh (by rw[←hW3];exact(yM (S:=fun k=>k=pb) rfl _ _ _).ext (HB0.out.ext.trans HX1.out) (fun k hk=>by have:=HPB.out;omega)); have r0:=cr 0 R1; have r1:=cr 1 R1; have r2:=cr 2 R1; have rlt:=za R1; have rf:=fun k=>zi R1 k
    rw[hW3]at P3
    have z0:=cr 0 P3; have z1:=cr 1 P3; have z2:=cr 2 P3; simp at r0 r1 r2 z0 z1 z2
    unfold y8 put2 at hW3; clear R1 P3 e0; go_wp2_with fail; exact bodyPost_ret (v:=.tuple #[.agg #[zH,zH,zH],.int .i64 er]) (by simp[results,Tryz.results47,go_sem, *]) rfl ⟨er,zH,zH,zH,rfl,fun h=>absurd h HE0.out,⟨⟨_,_,_,rfl⟩,⟨_,_,_,rfl⟩,⟨_,_,_,rfl⟩⟩,HX3.out⟩
  ·obtain rfl:i=n:=by omega
   have HB1:=zh (HB0.out.toExt HX.out); clear HB0 HX; go_wp2_with fail; go_loopw [7] (fun iv wr=>∃(j:Nat) (cs:List Cl) (nx:List (List Int)) (rl:List Int) (cv nv rv:Value),iv=.int .i64 j∧j≤i∧Hid (BdN w wr (pb+4) pb pb i j cs nx rl cv nv rv)) (fun iv _=>i - (intOf iv).toNat)
   case atStart=>exact⟨0,_,_,_,_,_,_,rfl,Nat.zero_le _,HB1⟩
   case round=>
    clear HB1
    obtain⟨j,cs,nx,rl,cv,nv,rv,rfl,hj,HB⟩:=hrel
    by_cases hlt:j < i
    ·obtain⟨ns,hns⟩:∃ns,rss[j]?=some ns:=⟨_,List.getElem?_eq_getElem (by have:=HN.out;omega)⟩
     obtain⟨lg,hcell⟩:=HAT.out wr HB.out.ext
     obtain⟨A,k,c0,hrx⟩:=hcell j ns hns
     have hok:=HOK.out j ns hlt hns
     obtain⟨m,hm⟩:∃m,ns.length=m:=⟨_,rfl⟩
     have hm1:1≤m∧m≤512:=by
      have h1:=hok.pos; have h2:=hok.most; omega
     obtain⟨g2,o2,k2,hA,_⟩:=hrx.at_ hok.pos
     injection hA with hA hA2 hA3; subst hA; clear hA2 hA3; have hlv:=ziI hok
     rw[hm]at hlv c0
     have HC:Hid (∀w1,Ext wr w1→Calls Tryz.prog 80 #[ptr (pb+4),.slice (some ⟨g2,o2,none⟩) m k,.int .i64 ((m:Int) - 1)] w1 (zdb w1 (pb+4) pb cs rl cv nv rv (lvN ns (m - 1)))):=zh (fun w1 e1=>by
      rw[show(m:Int) - 1=((m - 1:Nat):Int)by omega]
      have hx:∀w2,Ext w w2→YI w2 (.slice (some ⟨g2,o2,none⟩) ns.length k) ns:=fun w2 e2=>by
       obtain⟨_,hc2⟩:=HAT.out w2 e2
       obtain⟨A',k',c',hr'⟩:=hc2 j ns hns
       obtain⟨_,hc3⟩:=HAT.out w (Ext.refl _)
       obtain⟨A3,k3,c3,_⟩:=hc3 j ns hns
       have lw:=(HAT.out w (Ext.refl _)).1; have e3:=zy c3 lw e2; have e4:=zy c3 lw HB.out.ext
       rw[c']at e3
       rw[hm,c0]at e4
       injection e3 with e3; injection e4 with e4
       rw[e3]at hr'
       rw[hm,e4]
       rw[hm]at hr'
       exact hr'
      have hat':∀w2,Ext w w2→∀(q:Nat) (nd:Nod),ns[q]?=some nd→JX w2 g2 (o2+q*6) nd:=fun w2 e2 q nd hq=>by
       obtain⟨g5,o5,k5,h5,h6⟩:=(hx w2 e2).at_ hok.pos
       injection h5 with h5; injection h5 with h5; injection h5 with h5 h7; subst h5 h7; exact h6 q nd hq
      have hall:=zfN w g2 o2 k m (pb+4) pb ns hat' (fun w2 e2 nd hnd=>(hx w2 e2).kids nd hnd) (hx w (Ext.refl _)).cls hok hm (by have:=HPB.out;omega) m (Nat.le_refl _); exact hall (m - 1) (by omega) cs nx rl cv nv rv w1 (HB.out.nfa.ext e1) (HB.out.ext.trans e1) (by have:=HB.out.most;omega))
     have HLV:Hid (lvN ns (m - 1)≤512):=zh (by omega); clear hcell hrx hok hns hlv hm; go_upto_region 13 with fail; go_cut [8] (fun pv wc=>∃(qb:Nat) (em:Bool) (F:Option Addr) (fc:Nat) (fs:List Int) (L:Option Addr) (lc:Nat) (ls:List Int) (cs':List Cl) (nx':List (List Int)) (rl':List Int) (cv' nv' rv':Value),pv=.pointer (some ⟨qb,0,none⟩)∧Hid (PlA wc qb cs'.length rv' em F fc fs L lc ls)∧Hid (BdN w wc (pb+4) pb pb i (j+1) cs' nx' rl' cv' nv' rv'))
     case first=>
      refine zg (10) (zd [0,1,2,4,5,6] (zj [3,7,8,9] (.two (.step 10 (.late 11 (.late 12 .fin))) (.step 11 (.step 10 (.late 12 .fin)))))) (by kernel_rfl) (by kernel_rfl) ?_; (repeat first|refine yq ?_|refine yr ?_)
      refine zid ?_ ?_
      ·refine zp fun next hn=>?_;simp only[pick,yp]; go_wp2_with fail
       refine(HC.out _ xi).mono ?_
       intro e w1 hr
       obtain⟨em,F,fc,fs,L,lc,ls,cs',nx',rl',cv',nv',rv',rfl,f1,l1,b1,fo,lo,_⟩:=(HB.out.toExt (xi:Ext wr wr.drew)).node (by have:=HPB.out;omega) (by omega) hr HLV.out
       have F1:=zh f1; have L1:=zh l1; have B1:=zh b1; have PO:=zh (And.intro fo lo); clear f1 l1 b1 fo lo hr HC c0 lg; go_wp2_with fail; refine zk (fun h=>absurd rfl h) (hn _ _ ?_); clear hn next; refine vU fun next hn=>?_;simp only[pick,yp]; go_wp2_with fail; refine zk (fun _=>trivial) (hn _ _ ?_); clear hn next
       obtain⟨qb,hqb⟩:∃b,w1.heap.size=b:=⟨_,rfl⟩
       obtain⟨W2,hW2⟩:∃W2,w1.alloc (.cells #[.bool false,zH,zH] 148)=W2:=⟨_,rfl⟩
       have X2:Ext w1 W2:=by rw[←hW2];exact xi
       have Q2:W2.heap[qb]?=some (.cells #[.bool false,zH,zH] 148):=by rw[←hW2,←hqb];exact heap_alloc_new _ _
       obtain⟨W3,hW3⟩:∃W3,y8 W2 qb (.bool em) (.slice F fs.length fc) (.slice L ls.length lc)=W3:=⟨_,rfl⟩
       have T3:zA (fun k=>k=qb) W2 W3:=by rw[←hW3];exact yM (S:=fun k=>k=qb) rfl _ _ _
       have P3:Hid (PlA W3 qb cs'.length rv' em F fc fs L lc ls):=zh (by rw[←hW3];exact PlA.mk3 Q2 ⟨_,_,_,rfl⟩ (F1.out.extU X2) (L1.out.extU X2) PO.out.1 PO.out.2); have B3:Hid (BdN w W3 (pb+4) pb pb i (j+1) cs' nx' rl' cv' nv' rv'):=zh (by
        have b2:=B1.out.toExt X2
        exact⟨⟨b2.nfa.at_.keepB Q2 (by decide) T3,b2.nfa.nxl,b2.nfa.rll,b2.nfa.ok,b2.nfa.cls⟩,b2.one,b2.most,b2.zero,b2.rule,T3.ext b2.ext (fun k hk=>by have:=B1.out.ext.size;omega),T3.keep b2.res (fun he=>zU b2.res Q2 (by decide) he)⟩)
       have r0:=cr 0 Q2; have r1:=cr 1 Q2; have r2:=cr 2 Q2; have rlt:=za Q2; have rf:=fun k=>zi Q2 k; simp at r0 r1 r2
       try simp only[hqb,hW2]
       unfold y8 put2 at hW3; clear hW2 hqb X2 Q2 T3; refine vU fun next hn=>?_;simp only[pick,yp]; go_wp2_with fail; refine zk (fun _=>trivial) (hn _ _ ?_); clear hn next; refine zv ?_; go_wp2_with fail; go_meet
       exact⟨qb,em,F,fc,fs,L,lc,ls,cs',nx',rl',cv',nv',rv',rfl,P3,B3⟩
      ·refine zp fun next hn=>?_;simp only[pick,yp]; go_wp2_with fail; refine zk (fun _=>yZ xi) (hn _ _ ?_); clear hn next
       obtain⟨qb,hqb⟩:∃b,wr.heap.size=b:=⟨_,rfl⟩
       obtain⟨W2,hW2⟩:∃W2,(wr.alloc (.cells #[.bool false,zH,zH] 148)).drew=W2:=⟨_,rfl⟩
       have X2:Ext wr W2:=by rw[←hW2];exact xi
       have Q2:W2.heap[qb]?=some (.cells #[.bool false,zH,zH] 148):=by rw[←hW2,←hqb];exact heap_alloc_new wr _
       have HQ2:=zh Q2; have HX2:=zh X2; have HQB:Hid (wr.heap.size≤qb):=zh (by rw[←hqb];exact Nat.le_refl _); try simp only[hqb,hW2]
       clear hW2 hqb X2 Q2; refine zp fun next hn=>?_;simp only[pick,yp]; go_wp2_with fail
       refine(HC.out _ HX2.out).mono ?_
       intro e w1 hr
       obtain⟨em,F,fc,fs,L,lc,ls,cs',nx',rl',cv',nv',rv',rfl,f1,l1,b1,fo,lo,t1⟩:=(HB.out.toExt HX2.out).node (by have:=HPB.out;omega) (by omega) hr HLV.out
       have Q3:w1.heap[qb]?=some (.cells #[.bool false,zH,zH] 148):=t1.keep HQ2.out ((HB.out.toExt HX2.out).nfa.off HQ2.out (by decide))
       obtain⟨W3,hW3⟩:∃W3,y8 w1 qb (.bool em) (.slice F fs.length fc) (.slice L ls.length lc)=W3:=⟨_,rfl⟩
       have T3:zA (fun k=>k=qb) w1 W3:=by rw[←hW3];exact yM (S:=fun k=>k=qb) rfl _ _ _
       have P3:Hid (PlA W3 qb cs'.length rv' em F fc fs L lc ls):=zh (by rw[←hW3];exact PlA.mk3 Q3 ⟨_,_,_,rfl⟩ f1 l1 fo lo)
       have B3:Hid (BdN w W3 (pb+4) pb pb i (j+1) cs' nx' rl' cv' nv' rv'):=zh
        ⟨⟨b1.nfa.at_.keepB Q3 (by decide) T3,b1.nfa.nxl,b1.nfa.rll,b1.nfa.ok,b1.nfa.cls⟩,b1.one,b1.most,b1.zero,b1.rule,T3.ext b1.ext (fun k hk=>by have:=HB.out.ext.size;have:=HQB.out;omega),T3.keep b1.res (fun he=>zU b1.res Q3 (by decide) he)⟩
       have r0:=cr 0 Q3; have r1:=cr 1 Q3; have r2:=cr 2 Q3; have rlt:=za Q3; have rf:=fun k=>zi Q3 k; simp at r0 r1 r2
       clear f1 l1 b1 fo lo hr HC c0 lg t1 Q3 T3; unfold y8 put2 at hW3; go_wp2_with fail; refine zk (fun h=>absurd rfl h) (hn _ _ ?_); clear hn next; refine vU fun next hn=>?_;simp only[pick,yp]; go_wp2_with fail; refine zk (fun _=>trivial) (hn _ _ ?_); clear hn next; refine zv ?_; go_wp2_with fail; go_meet
       exact⟨qb,em,F,fc,fs,L,lc,ls,cs',nx',rl',cv',nv',rv',rfl,P3,B3⟩
     case rest=>
      obtain⟨qb,em,F,fc,fs,L,lc,ls,cs',nx',rl',cv',nv',rv',rfl,PA,BA⟩:=hcut
      clear HB HC c0 lg
      obtain⟨vs,hv1,hv2,hv3⟩:=BA.out.nfa.at_.nxt
      obtain⟨M,hM⟩:∃m,cs'.length=m:=⟨_,rfl⟩
      have hM0:0 < M:=by have:=BA.out.one;omega
      have hM9:M≤10000:=by have:=BA.out.most;omega
      rw[hM]at hv1
      obtain⟨gn,kn,hnv,hg1,hg2,⟨cur,hcur⟩,hg3,hg4⟩:=qw hv1 (by omega)
      have hvl:vs.length=M:=by have:=hv1.1;omega
      have hnl:=BA.out.nfa.nxl
      obtain⟨v0,hv⟩:∃v,vs[0]?=some v:=⟨_,List.getElem?_eq_getElem (by omega)⟩
      obtain⟨xs,hxs⟩:∃xs,nx'[0]?=some xs:=⟨_,List.getElem?_eq_getElem (by omega)⟩
      have hsl:=hv3 0 v0 xs hv hxs
      obtain⟨A0,a0,rfl,_⟩:=hsl.ints
      have hxo:=BA.out.nfa.ok xs (List.mem_of_getElem? hxs); have HU:=zh (fun W (e:Ext wc W)=>Zt (hsl.extU e) (PA.out.f.extU e) hxo PA.out.fo (by omega) (fun g hg=>Nat.lt_of_lt_of_le (z8 BA.out.nfa.at_.rul g hg) e.size)); have b1:=cr 1 BA.out.nfa.at_.blk; simp at b1
      have lb:=za BA.out.nfa.at_.blk; have n0:=hg4 0 _ hv
      obtain⟨p0,p1,p2,pl,pf⟩:=PA.out.cells
      have HCUR:=zh hcur; have HXO:=zh hxo; have HMM:=zh hM; have HNV:=zh hnv; have HM9:=zh (And.intro hM0 hM9)
      rw[hnv]at b1
      clear hv1 hv2 hv3 hvl hnl hv hxs hsl hxo hM hnv hg1 hg3 hg4 hcur; go_upto_region 14 with fail; refine zg (10) (zd [0,2,6] (zj [1,3,4,5,7] (.step 8 (zd [9] (.step 10 .fin))))) (by kernel_rfl) (by kernel_rfl) ?_; (repeat first|refine yq ?_|refine yr ?_)
      refine zp fun next hn=>?_;simp only[pick,yp]; go_wp2_with fail
      refine(HU.out _ xi).mono ?_
      rintro e w2 ⟨Z,zc,zs,rfl,hz,zo,hx2⟩; have Y2:Hid (Ext wc w2):=zh (Ext.trans xi hx2); have HZ:=zh hz; have HZO:=zh zo; clear hz zo hx2 HU; go_wp2_with fail; refine zk (fun _=>yZ Y2.out) (hn _ _ ?_); clear hn next; (repeat first|refine yq ?_|refine yr ?_)
      obtain⟨W3,hW3⟩:∃W3,w2.setCell ⟨gn,0,none⟩ (.slice Z zs.length zc)=W3:=⟨_,rfl⟩
      have T3:zA (fun k=>k=gn) w2 W3:=by rw[←hW3];exact zA.set1 _ _ _
      have hc2:=zb HCUR.out Y2.out; have B3:Hid (BdN w W3 (pb+4) pb pb i (j+1) cs' (nx'.set 0 zs) rl' cv' nv' rv'):=zh (by
       have b2:=BA.out.toExt Y2.out; have h1:=b2.nfa.at_
       rw[HNV.out,HMM.out]at h1
       have h2:=h1.setNext 0 HZ.out
       rw[hW3]at h2
       exact⟨⟨by rw[HNV.out,HMM.out];exact h2,by rw[List.length_set];exact b2.nfa.nxl,b2.nfa.rll,fun ys hys=>by
        rcases List.mem_or_eq_of_mem_set hys with hys|rfl
        ·exact b2.nfa.ok ys hys
        ·exact HZO.out,b2.nfa.cls⟩,b2.one,b2.most,b2.zero,b2.rule,T3.ext b2.ext (fun k hk=>by
         have:=HNV.out
         have h5:=b2.nfa.low_all gn (.inr (.inr (.inl (by rw[this];rfl))))
         have:=HPB.out
         omega),T3.keep b2.res (fun he=>zU b2.res hc2 (by decide) he)⟩)
      have PA3:Hid (PlA W3 qb cs'.length rv' em F fc fs L lc ls):=zh (by
       have p2:=PA.out.ext Y2.out
       exact⟨T3.keep p2.blk (fun he=>zU p2.blk hc2 (by decide) he),p2.f.keep T3 (fun g cs hg _ he=>zU hg hc2 (by decide) he) _ (fun _ h=>.inl h),p2.l.keep T3 (fun g cs hg _ he=>zU hg hc2 (by decide) he) _ (fun _ h=>.inl h),p2.fo,p2.lo⟩)
      have n2:=zy n0 hg2 Y2.out; have f2:=zi hc2 0; have lg2:=Nat.lt_of_lt_of_le hg2 Y2.out.size; clear n0 b1 lb p0 p1 p2 pl pf T3 hc2 hg2; refine zp fun next hn=>?_;simp only[pick,yp]; go_wp2_with fail; refine zk (fun h=>absurd rfl h) (hn _ _ ?_); clear hn next; refine zv ?_; try simp only[hW3]
      clear hW3 n2 f2 lg2 PA BA HXO HCUR; go_wp2_with fail
      obtain⟨ln,hln⟩:∃k,ls.length=k:=⟨_,rfl⟩
      have HLN:=zh hln; have hlnb:ln≤10000:=by have:=y9 PA3.out.lo;have:=HMM.out;omega
      go_loopw [9] (fun kv wq=>∃(k:Nat) (rl2:List Int),kv=.int .i64 k∧k≤ln∧Hid (PlA wq qb cs'.length rv' em F fc fs L lc ls)∧Hid (BdN w wq (pb+4) pb pb i (j+1) cs' (nx'.set 0 zs) rl2 cv' nv' rv')) (fun kv _=>ln - (intOf kv).toNat)
      case atStart=>exact⟨0,rl',rfl,Nat.zero_le _,PA3,B3⟩
      case round=>
       clear PA3 B3
       obtain⟨k,rl2,rfl,hk,PA,BA⟩:=hrel
       obtain⟨p0,p1,p2,pl,pf⟩:=PA.out.cells
       rw[hln]at p2
       have rr:=BA.out.nfa.at_.rul
       rw[HMM.out]at rr
       obtain⟨gr,kr,hrv,rg1,rg2,⟨rcur,hrcur⟩,rg3,rg4⟩:=qw rr (by have:=HM9.out;omega)
       have b2:=cr 2 BA.out.nfa.at_.blk; simp at b2
       rw[hrv]at b2
       have lb:=za BA.out.nfa.at_.blk; have hrl:rl2.length=M:=by rw[BA.out.nfa.rll,HMM.out]
       have rset:Hid (∀a,a < M→∃x:Int,-1≤x∧x < i∧wr.cell? ⟨gr,a,none⟩=some (.int .i64 x)∧PlA (wr.setCell ⟨gr,a,none⟩ (.int .i64 (j:Int))) qb cs'.length rv' em F fc fs L lc ls∧BdN w (wr.setCell ⟨gr,a,none⟩ (.int .i64 (j:Int))) (pb+4) pb pb i (j+1) cs' (nx'.set 0 zs) (rl2.set a (j:Int)) cv' nv' rv'):=zh (fun a ha=>by
        have hlt:a < rl2.length:=by omega
        have hru:=BA.out.rule rl2[a] (List.getElem_mem hlt); have T:zA (fun k=>k=gr) wr (wr.setCell ⟨gr,a,none⟩ (.int .i64 (j:Int))):=zA.set1 _ _ _; have hne:∀g ds,wr.heap[g]?=some (.cells ds 3)→rv'.ownBlock≠some g→¬g=gr:=fun g ds _ h he=>h (by rw[hrv,he];rfl)
        refine⟨rl2[a],hru.1,hru.2,rg4 a _ (by rw[iv,List.getElem?_map,List.getElem?_eq_getElem hlt];rfl),⟨T.keep PA.out.blk (fun he=>zU PA.out.blk hrcur (by decide) he),PA.out.f.keep T hne _ (fun _ h=>.inl h),PA.out.l.keep T hne _ (fun _ h=>.inl h),PA.out.fo,PA.out.lo⟩,?_⟩
        have h1:=BA.out.nfa.at_
        rw[hrv,HMM.out]at h1
        have h2:=h1.setRule a (.int .i64 (j:Int))
        rw[show(iv rl2).set a (.int .i64 (j:Int))=iv (rl2.set a (j:Int))by simp[iv]]at h2
        refine⟨⟨by rw[hrv,HMM.out];exact h2,BA.out.nfa.nxl,by rw[List.length_set];exact BA.out.nfa.rll,BA.out.nfa.ok,BA.out.nfa.cls⟩,BA.out.one,BA.out.most,BA.out.zero,fun r hr=>?_,T.ext BA.out.ext (fun k hk=>by
         have h5:=BA.out.nfa.low_all gr (.inr (.inr (.inr (by rw[hrv];rfl))))
         have:=HPB.out
         omega),T.keep BA.out.res (fun he=>zU BA.out.res hrcur (by decide) he)⟩
        rcases List.mem_or_eq_of_mem_set hr with hr|rfl
        ·exact BA.out.rule r hr
        ·omega)
       have rfz:∀a,wr.frozen? ⟨gr,a,none⟩=false:=fun a=>zi hrcur a; clear rr hrv rg1 rg3 rg4 hrcur hrl; by_cases hkl:k < ln
       ·obtain⟨L',lc',hle,hLi,_⟩:=PA.out.l.ints
        injection hle with hle1 hle2 hle3; subst hle1 hle3; clear hle2
        obtain⟨gl,ol,rfl,hgl,hcl⟩:=hLi (by have:=HLN.out;omega)
        obtain⟨x,hx⟩:∃x,ls.getD k 0=x:=⟨_,rfl⟩
        have l0:=hcl k (by have:=HLN.out;omega)
        rw[hx]at l0
        have hxr:=PA.out.lo.2 x (by
         rw[←hx,List.getD_eq_getElem?_getD,List.getElem?_eq_getElem (by have:=HLN.out;omega)]
         exact List.getElem_mem _)
        obtain⟨a,rfl⟩:∃a:Nat,x=a:=⟨x.toNat,by omega⟩
        have haM:a < M:=by have:=HMM.out;omega
        obtain⟨x0,_,_,y0,pa2,ba2⟩:=rset.out a haM
        have PA2:=zh pa2; have BA2:=zh ba2; have ha9:a < 100000:=by have:=HM9.out.2;omega
        have XD:Hid (∀V:World,V=V):=zh (fun _=>rfl); clear hLi hcl hx hxr pa2 ba2 rset; have fz:=rfz a; have fz2:wr.drew.frozen? ⟨gr,a,none⟩=false:=rfz a; go_upto_region 18 with fail; refine zg (9) (zd [0,2,4,7] (zj [1,3,5,6,8] (.step 9 .fin))) (by kernel_rfl) (by kernel_rfl) ?_; (repeat first|refine yq ?_|refine yr ?_)
        refine zp fun next hn=>?_;simp only[pick,yp]; go_wp2_with fail; refine zk (fun h=>absurd rfl h) (hn _ _ ?_); clear hn next; refine zv ?_; have XE:Ext (wr.setCell ⟨gr,a,none⟩ (.int .i64 (j:Int))) (wr.drew.setCell ⟨gr,a,none⟩ (.int .i64 (j:Int))):=(xi:Ext (wr.setCell ⟨gr,a,none⟩ (.int .i64 (j:Int))) (wr.setCell ⟨gr,a,none⟩ (.int .i64 (j:Int))).drew); have PA4:=zh (PA2.out.ext XE); have BA4:=zh (BA2.out.toExt XE); clear XE l0 y0 b2 lb p0 p1 p2 pl pf fz fz2 rfz; go_wp2_with fail; go_roundw
        case rel=>exact⟨k+1,_,by go_num,by omega,PA4,BA4⟩
        case measure=>simp[intOf];omega
       ·obtain rfl:k=ln:=by omega
        obtain⟨x0,hx1,hx2,y0,_,ba2⟩:=rset.out 0 HM9.out.1
        have BA2:=zh ba2; have fz:=rfz 0; have hM0:=HM9.out.1; clear ba2 rset rfz; cases em with
        |false=>
         go_wp2_with fail; go_roundw
         case rel=>exact⟨j+1,_,_,_,_,_,_,by go_num,by omega,BA⟩
         case measure=>simp[intOf];omega
        |true=>
         by_cases hneg:x0 < 0
         ·have d1:decide (x0 < 0)=true:=decide_eq_true hneg; clear hneg; go_wp2_with fail; go_roundw
          case rel=>exact⟨j+1,_,_,_,_,_,_,by go_num,by omega,BA2⟩
          case measure=>simp[intOf];omega
         ·have d1:decide (x0 < 0)=false:=decide_eq_false hneg; clear hneg; go_wp2_with fail; go_roundw
          case rel=>exact⟨j+1,_,_,_,_,_,_,by go_num,by omega,BA⟩
          case measure=>simp[intOf];omega
    ·obtain rfl:j=i:=by omega
     obtain⟨M,hM⟩:∃m,cs.length=m:=⟨_,rfl⟩
     have hM9:M≤10000:=by have:=HB.out.most;omega
     have blk:=HB.out.nfa.at_.blk
     obtain⟨CA,ck,hcv,_⟩:=zW HB.out.nfa.at_.cls
     obtain⟨vs,hv1,_⟩:=HB.out.nfa.at_.nxt
     obtain⟨NA,nk,hnv,_⟩:=zW hv1
     obtain⟨RA,rk,hrv,_⟩:=zW HB.out.nfa.at_.rul
     subst hcv hnv hrv
     rw[hM]at blk
     have b0:=cr 0 blk; have b1:=cr 1 blk; have b2:=cr 2 blk; have lb:=za blk; have R1:=HB.out.res; have r0:=cr 0 R1; have r1:=cr 1 R1; have r2:=cr 2 R1; have rlt:=za R1; have rf:=fun k=>zi R1 k; have HMM:=zh hM; clear blk hv1 hM; by_cases hbig:1024 < M
     ·have d1:decide ((1024:Int) < (M:Int))=true:=by rw[decide_eq_true_iff];omega
      have P3:=qK R1 zH zH zH
      obtain⟨W3,hW3⟩:∃W3,y8 wr pb zH zH zH=W3:=⟨_,rfl⟩
      have HX3:Hid (Ext w W3):=zh (by rw[←hW3];exact(yM (S:=fun k=>k=pb) rfl _ _ _).ext HB.out.ext (fun k hk=>by have:=HPB.out;omega))
      rw[hW3]at P3
      have z0:=cr 0 P3; have z1:=cr 1 P3; have z2:=cr 2 P3; simp at b0 b1 b2 r0 r1 r2 z0 z1 z2
      unfold y8 put2 at hW3; clear R1 P3 hbig; go_wp2_with fail; exact bodyPost_ret (v:=.tuple #[.agg #[zH,zH,zH],.int .i64 10]) (by simp[results,Tryz.results47,go_sem, *]) rfl ⟨10,zH,zH,zH,rfl,fun h=>by simp at h,⟨⟨_,_,_,rfl⟩,⟨_,_,_,rfl⟩,⟨_,_,_,rfl⟩⟩,HX3.out⟩
     ·have d1:decide ((1024:Int) < (M:Int))=false:=by rw[decide_eq_false_iff_not];omega
      have P3:=qK R1 (.slice CA M ck) (.slice NA M nk) (.slice RA M rk)
      obtain⟨W3,hW3⟩:∃W3,y8 wr pb (.slice CA M ck) (.slice NA M nk) (.slice RA M rk)=W3:=⟨_,rfl⟩
      have T3:zA (fun k=>k=pb) wr W3:=by rw[←hW3];exact yM (S:=fun k=>k=pb) rfl _ _ _
      have HX3:Hid (Ext w W3):=zh (T3.ext HB.out.ext (fun k hk=>by have:=HPB.out;omega)); have HRD:Hid (Qh W3 (.slice CA M ck) (.slice NA M nk) (.slice RA M rk) cs nx rl):=zh (by
       have:=(HB.out.nfa.keepN R1 (by omega) T3).rd
       rwa[HMM.out]at this)
      have HG:Hid (zho cs nx rl j):=zh ⟨HB.out.one,by have:=HMM.out;omega,HB.out.zero,HB.out.rule,HB.out.nfa.ok,HB.out.nfa.cls⟩
      rw[hW3]at P3
      have z0:=cr 0 P3; have z1:=cr 1 P3; have z2:=cr 2 P3; simp at b0 b1 b2 r0 r1 r2 z0 z1 z2
      unfold y8 put2 at hW3; clear R1 P3 hbig T3; go_wp2_with fail; exact bodyPost_ret (v:=.tuple #[.agg #[.slice CA M ck,.slice NA M nk,.slice RA M rk],.int .i64 0]) (by simp[results,Tryz.results47,go_sem, *]) rfl ⟨0,_,_,_,rfl,fun _=>⟨cs,nx,rl,HRD.out,HG.out⟩,⟨⟨_,_,_,rfl⟩,⟨_,_,_,rfl⟩,⟨_,_,_,rfl⟩⟩,HX3.out⟩
end Go.Proofs.YtmbelmngniddjaaGreat
namespace Go.Proofs.YtmbelmngniddjaaGreat
open Go.RowKit Go.Maps
attribute [local go_sem] zF zB zI zJ zw zt zN zD zX zQ zK zP zO zL zT zR zS zG zM zC
structure BdG (w:World)(base db p m:Nat)(nv rv sv:Value)(nl rl:List Int):Prop where
 blk:w.heap[db]?=some (.cells #[nv,rv] 35)
 low:base≤db
 nxt:xj w base nv nl
 rul:xj w base rv rl
 apart:∀g,nv.ownBlock=some g→rv.ownBlock≠some g
 sets:∃vs,w.ownsRow base 33 1 sv p vs∧∀(j:Nat) (v:Value),vs[j]?=some v→∃xs,qY m xs∧0 < xs.length∧j6 w (two nv rv) v xs
section
variable {w w':World}{base db p m:Nat}{nv rv sv:Value}{nl rl:List Int}
theorem BdG.ext (h:BdG w base db p m nv rv sv nl rl)(e:Ext w w'):BdG w' base db p m nv rv sv nl rl:=by
 obtain⟨vs,h1,h2⟩:=h.sets
 exact⟨zb h.blk e,h.low,h.nxt.ext e,h.rul.ext e,h.apart,vs,yv h1 e,fun j v hv=>by
  obtain⟨xs,a,b,c⟩:=h2 j v hv
  exact⟨xs,a,b,c.ext e⟩⟩
theorem BdG.keep {b:Nat}(h:BdG w base db p m nv rv sv nl rl)(t:zA (fun k=>k=b) w w')(hb:∀cs T,w.heap[b]?=some (.cells cs T)→T≠3∧T≠33∧T≠35):BdG w' base db p m nv rv sv nl rl:=by
 obtain⟨vs,h1,h2⟩:=h.sets
 obtain⟨A,c,rfl,hA⟩:=h.nxt
 obtain⟨B,d,rfl,hB⟩:=h.rul
 have key:∀{e:TypeId} {size n:Nat} {v:Value} {xs:List Value},w.ownsRow base e size v n xs→(e=3∨e=33)→w'.ownsRow base e size v n xs:=fun hr he=>ye hr fun k hk=>t.block k (z8 hr k hk) (fun hkb=>by
  subst hkb
  obtain⟨cur,hcur⟩:=zZ hr k hk
  have:=hb _ _ hcur
  rcases he with rfl|rfl
  ·exact this.1 rfl
  ·exact this.2.1 rfl)
 exact⟨t.keep h.blk (fun he=>by subst he;exact(hb _ _ h.blk).2.2 rfl),h.low,⟨A,c,rfl,key hA (.inl rfl)⟩,⟨B,d,rfl,key hB (.inl rfl)⟩,h.apart,vs,key h1 (.inr rfl),fun j v hv=>by
  obtain⟨xs,a,b,c⟩:=h2 j v hv
  exact⟨xs,a,b,c.keep t (fun g cs hg _ he=>by subst he;exact(hb _ _ hg).1 rfl) (fun g hg=>.inl hg)⟩⟩
theorem BdG.appN (h:BdG w base db p m nv rv sv nl rl){w2:World}{v':Value}{y:Int}(hr:xj w2 base v' (nl++[y]))(hg:w.grownBy w2 nv.ownBlock)(hat:v'.ownBlock=nv.ownBlock∨v'.ownBlock=some w.heap.size):BdG (w2.setCell ⟨db,0,none⟩ v') base db p m v' rv sv (nl++[y]) rl:=by
 obtain⟨vs,h1,h2⟩:=h.sets
 obtain⟨A,c,hnv,hA⟩:=h.nxt
 obtain⟨B,d,hrv,hB⟩:=h.rul
 obtain⟨C,e,hv',hC⟩:=hr
 have hA':w.ownsRow base 3 1 nv nl.length (iv nl):=by rw[hnv];exact hA
 have hB':w.ownsRow base 3 1 rv rl.length (iv rl):=by rw[hrv];exact hB
 have T:zA (fun g=>nv.ownBlock=some g) w w2:=zA.grown hg (fun g hg _=>hg); have hb2:w2.heap[db]?=some (.cells #[nv,rv] 35):=ym hA' hg (Ext.refl _) h.blk (by decide); have T2:zA (fun k=>k=db) w2 (w2.setCell ⟨db,0,none⟩ v'):=zA.set1 _ _ _
 refine⟨zn hb2 v',h.low,⟨C,e,hv',xF hb2 T2 hC (by decide)⟩,⟨B,d,hrv,?_⟩,fun g hg1 hg2=>?_,vs,xF hb2 T2 (xN hA' hg (Ext.refl _) h1 (by decide)) (by decide),fun j v hv=>?_⟩
 ·have:w2.ownsRow base 3 1 rv rl.length (iv rl):=ye hB' fun k hk=>T.block k (z8 hB' k hk) (fun hh=>h.apart k hh hk)
  have:=xF hb2 T2 this (by decide)
  rw[hrv]at this
  exact this
 ·rcases hat with h3|h3
  ·exact h.apart g (h3▸hg1) hg2
  ·rw[h3]at hg1;injection hg1 with hg1;have:=z8 hB' g hg2;omega
 ·obtain⟨xs,x1,x2,x3⟩:=h2 j v hv
  refine⟨xs,x1,x2,j6.keep (X:=two v' rv) (x3.keep T (fun g cs hcs hX hn=>hX (.inl hn)) (fun g hg=>?_)) T2 (fun g cs hcs _ he=>Bd.ne_int hb2 hcs he) (fun g hg=>.inl hg)⟩
  rcases hg with hg|hg
  ·rcases hat with h3|h3
   ·exact .inl (.inl (h3▸hg))
   ·rw[h3]at hg;injection hg with hg;exact .inr (by omega)
  ·exact .inl (.inr hg)
theorem BdG.appR (h:BdG w base db p m nv rv sv nl rl){w2:World}{v':Value}{y:Int}(hr:xj w2 base v' (rl++[y]))(hg:w.grownBy w2 rv.ownBlock)(hat:v'.ownBlock=rv.ownBlock∨v'.ownBlock=some w.heap.size):BdG (w2.setCell ⟨db,1,none⟩ v') base db p m nv v' sv nl (rl++[y]):=by
 obtain⟨vs,h1,h2⟩:=h.sets
 obtain⟨A,c,hnv,hA⟩:=h.nxt
 obtain⟨B,d,hrv,hB⟩:=h.rul
 obtain⟨C,e,hv',hC⟩:=hr
 have hA':w.ownsRow base 3 1 nv nl.length (iv nl):=by rw[hnv];exact hA
 have hB':w.ownsRow base 3 1 rv rl.length (iv rl):=by rw[hrv];exact hB
 have T:zA (fun g=>rv.ownBlock=some g) w w2:=zA.grown hg (fun g hg _=>hg); have hb2:w2.heap[db]?=some (.cells #[nv,rv] 35):=ym hB' hg (Ext.refl _) h.blk (by decide); have T2:zA (fun k=>k=db) w2 (w2.setCell ⟨db,1,none⟩ v'):=zA.set1 _ _ _
 refine⟨zn hb2 v',h.low,⟨A,c,hnv,?_⟩,⟨C,e,hv',xF hb2 T2 hC (by decide)⟩,fun g hg1 hg2=>?_,vs,xF hb2 T2 (xN hB' hg (Ext.refl _) h1 (by decide)) (by decide),fun j v hv=>?_⟩
 ·have:w2.ownsRow base 3 1 nv nl.length (iv nl):=ye hA' fun k hk=>T.block k (z8 hA' k hk) (fun hh=>h.apart k hk hh)
  have:=xF hb2 T2 this (by decide)
  rw[hnv]at this
  exact this
 ·rcases hat with h3|h3
  ·exact h.apart g hg1 (h3▸hg2)
  ·rw[h3]at hg2;injection hg2 with hg2;have:=z8 hA' g hg1;omega
 ·obtain⟨xs,x1,x2,x3⟩:=h2 j v hv
  refine⟨xs,x1,x2,j6.keep (X:=two nv v') (x3.keep T (fun g cs hcs hX hn=>hX (.inr hn)) (fun g hg=>?_)) T2 (fun g cs hcs _ he=>Bd.ne_int hb2 hcs he) (fun g hg=>.inl hg)⟩
  rcases hg with hg|hg
  ·exact .inl (.inl hg)
  ·rcases hat with h3|h3
   ·exact .inl (.inr (h3▸hg))
   ·rw[h3]at hg;injection hg with hg;exact .inr (by omega)
theorem BdG.appS (h:BdG w base db p m nv rv sv nl rl){w2:World}{sv' u:Value}{us:List Int}{vs:List Value}(h1:w.ownsRow base 33 1 sv p vs)(h2:∀(j:Nat) (v:Value),vs[j]?=some v→∃xs,qY m xs∧0 < xs.length∧j6 w (two nv rv) v xs)(ho:qY m us)(h0:0 < us.length)(hu:j6 w (two nv rv) u us)(hs:w2.ownsRow base 33 1 sv' (p+1) (vs++[u]))(hg:w.grownBy w2 sv.ownBlock):BdG w2 base db (p+1) m nv rv sv' nl rl:=by
 obtain⟨A,c,hnv,hA⟩:=h.nxt
 obtain⟨B,d,hrv,hB⟩:=h.rul
 have T:zA (fun g=>sv.ownBlock=some g) w w2:=zA.grown hg (fun g hg _=>hg)
 refine⟨ym h1 hg (Ext.refl _) h.blk (by decide),h.low,⟨A,c,hnv,xN h1 hg (Ext.refl _) hA (by decide)⟩,⟨B,d,hrv,xN h1 hg (Ext.refl _) hB (by decide)⟩,h.apart,vs++[u],hs,fun j v hv=>?_⟩
 have keep:∀{v:Value} {xs:List Int},j6 w (two nv rv) v xs→j6 w2 (two nv rv) v xs:=fun hi=>hi.keep T (fun g cs hcs _ hn=>by
  obtain⟨cur,hcur⟩:=zZ h1 g hn
  exact zU hcs hcur (by decide) rfl) (fun g hg=>.inl hg)
 rcases ZG hv with⟨_,hv⟩|⟨_,rfl⟩
 ·obtain⟨xs,a,b,c⟩:=h2 j v hv
  exact⟨xs,a,b,keep c⟩
 ·exact⟨us,ho,h0,keep hu⟩
end
structure Ju (w0 w:World)(g0 mb p:Nat)(cv nv rv:Value):Prop where
 box:w.heap[g0]?=some (.cells #[cv,nv,rv] 108)
 res:w.heap[g0+1]?=some (.cells #[zH,zH] 35)
 map:∃q f,q≤p∧QV w mb q f∧∀x k,f x=some k→0≤k∧k < (p:Int)
 ext:Ext w0 w
 mlow:w0.heap.size≤mb
section
variable {w0 w w':World}{g0 mb p:Nat}{cv nv rv:Value}
theorem Ju.turn {S:Nat→Prop}(h:Ju w0 w g0 mb p cv nv rv)(t:zA S w w')(h1:∀k,S k→w0.heap.size≤k)(h2:¬S g0)(h3:¬S (g0+1))(h4:¬S mb):Ju w0 w' g0 mb p cv nv rv:=by
 obtain⟨q,f,a1,a2,a3⟩:=h.map
 exact⟨t.keep h.box h2,t.keep h.res h3,⟨q,f,a1,a2.keep t h4,a3⟩,t.ext h.ext h1,h.mlow⟩
theorem Ju.toExt (h:Ju w0 w g0 mb p cv nv rv)(e:Ext w w'):Ju w0 w' g0 mb p cv nv rv:=by
 obtain⟨q,f,a1,a2,a3⟩:=h.map
 exact⟨zb h.box e,zb h.res e,⟨q,f,a1,a2.ext e,a3⟩,h.ext.trans e,h.mlow⟩
theorem Ju.grow {e:TypeId}{size n:Nat}{v:Value}{xs:List Value}(h:Ju w0 w g0 mb p cv nv rv)(hr:w.ownsRow w0.heap.size e size v n xs)(he:e=3∨e=33)(hg:w.grownBy w' v.ownBlock):Ju w0 w' g0 mb p cv nv rv:=by
 have t:zA (fun g=>v.ownBlock=some g) w w':=zA.grown hg (fun g hg _=>hg); have hm:=h.map; refine h.turn t (fun k hk=>zV hr k hk) (fun hk=>?_) (fun hk=>?_) (fun hk=>?_); all_goals obtain⟨cur,hcur⟩:=zZ hr _ hk
 ·rw[h.box]at hcur;injection hcur with hcur;injection hcur with _ hcur;rcases he with rfl|rfl<;>exact absurd hcur (by decide)
 ·rw[h.res]at hcur;injection hcur with hcur;injection hcur with _ hcur;rcases he with rfl|rfl<;>exact absurd hcur (by decide)
 ·obtain⟨q,f,_,a2,_⟩:=hm
  exact a2.ne hcur rfl
theorem Ju.store {db:Nat}{cs:Array Value}(h:Ju w0 w g0 mb p cv nv rv)(hd:w.heap[db]?=some (.cells cs 35))(hl:w0.heap.size≤db)(h1:db≠g0+1)(k:Nat)(v:Value):Ju w0 (w.setCell ⟨db,k,none⟩ v) g0 mb p cv nv rv:=by
 obtain⟨q,f,_,a2,_⟩:=h.map
 exact h.turn (S:=fun i=>i=db) (zA.set1 _ _ _) (fun i hi=>by omega) (fun hi=>zU h.box hd (by decide) hi) (fun hi=>h1 hi.symm) (fun hi=>a2.ne hd hi)
end
theorem Yf {w0 w w4:World}{g0 mb p p' db m:Nat}{cv cn cr nv rv sv v4:Value}{nl rl:List Int}{y:Int}(hB:BdG w w0.heap.size db p m nv rv sv nl rl)(hV:Ju w0 w g0 mb p' cv cn cr)(hd:db≠g0+1)(hr4:xj w4 w0.heap.size v4 (nl++[y]))(hg4:w.grownBy w4 nv.ownBlock)(hat4:v4.ownBlock=nv.ownBlock∨v4.ownBlock=some w.heap.size):
 ∃A l c,v4=.slice A l c∧w4.heap[db]?=some (.cells #[nv,rv] 35)∧BdG (w4.setCell ⟨db,0,none⟩ v4) w0.heap.size db p m v4 rv sv (nl++[y]) rl∧Ju w0 (w4.setCell ⟨db,0,none⟩ v4) g0 mb p' cv cn cr:=by
 obtain⟨RA,rc1,hrv1,hRA⟩:=hB.nxt
 have hRA':w.ownsRow w0.heap.size 3 1 nv nl.length (iv nl):=by rw[hrv1];exact hRA
 have D4:=ym hRA' hg4 (Ext.refl _) hB.blk (by decide); have hB4:=hB.appN hr4 hg4 hat4
 obtain⟨A,c,h,_⟩:=hr4
 exact⟨A,_,c,h,D4,hB4,(hV.grow hRA' (.inl rfl) hg4).store D4 hB.low hd 0 v4⟩
def zdc (p i n:Nat)(R:Int)(nl rl:List Int):Prop:=rl.length=i∧nl.length=n∧(∀r∈rl,-1≤r∧r < R)∧∀x∈nl,-1≤x∧x < (p:Int)
theorem zdc.rule {p i n:Nat}{R r:Int}{nl rl:List Int}(h:zdc p i n R nl rl)(hr:-1≤r∧r < R):zdc p (i+1) n R nl (rl++[r]):=
 ⟨by rw[List.length_append,h.1];rfl,h.2.1,fun x hx=>by
   rcases List.mem_append.1 hx with hx|hx
   ·exact h.2.2.1 x hx
   ·rw[List.mem_singleton]at hx;subst hx;exact hr,h.2.2.2⟩
theorem zdc.next {p i n:Nat}{R x:Int}{nl rl:List Int}(h:zdc p i n R nl rl)(hx:-1≤x∧x < (p:Int)):zdc p i (n+1) R (nl++[x]) rl:=
 ⟨h.1,by rw[List.length_append,h.2.1];rfl,h.2.2.1,fun y hy=>by
   rcases List.mem_append.1 hy with hy|hy
   ·exact h.2.2.2 y hy
   ·rw[List.mem_singleton]at hy;subst hy;exact hx⟩
theorem zdc.wide {p q i n:Nat}{R:Int}{nl rl:List Int}(h:zdc p i n R nl rl)(hq:p≤q):zdc q i n R nl rl:=⟨h.1,h.2.1,h.2.2.1,fun x hx=>by have:=h.2.2.2 x hx;omega⟩
def zjF (w:World)(R:Int)(e:Ending)(w':World):Prop:=∃(er:Int) (nv rv:Value),e=.returned (.tuple #[.agg #[nv,rv],.int .i64 er])∧(er=0→∃nl rl,xj w' 0 nv nl∧xj w' 0 rv rl∧YK nl rl∧∀r∈rl,r < R)∧(zfF nv∧zfF rv)∧Ext w w'
theorem Zi.rows {w:World}{nv rv:Value}{nl rl:List Int}(h:xj w 0 nv nl)(h':xj w 0 rv rl):Zi w nv rv nl rl:=by
 obtain⟨A,c,h1,h2⟩:=h
 obtain⟨B,d,h3,h4⟩:=h'
 exact⟨⟨A,c,h1,h2.ints.1,h2.ints.2.1⟩,B,d,h3,h4.ints.1,h4.ints.2.1⟩
end Go.Proofs.YtmbelmngniddjaaGreat
