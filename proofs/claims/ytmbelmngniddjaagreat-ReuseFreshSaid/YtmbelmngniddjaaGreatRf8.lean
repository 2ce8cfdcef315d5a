/- Rf: texts that the proof rests on, part 8. -/
import Derived.Test.YtmbelmngniddjaaGreatRf7
namespace Go.Proofs.YtmbelmngniddjaaGreat
open Go.RowKit
attribute [local go_sem] zF zB zI zJ zw zt zN zD zX zQ zK zP zO zL zT zR zS zG zM zC
def zjx (g:Gm)(b:List Int)(Y:RS):RS:=jm g.kn (ofS g (yS g) b) Y
def zaE (g:Gm)(X:Int→RS)(p:Pd)(k:Nat):Prop:=∀(A:Int) (a b:List Int),p.right=a++(g.terms+A) ::b→0≤A→a.length < k→∀r,zjx g b (X p.left) r→X A r
def vD (g:Gm)(X:Int→RS)(i:Nat):Prop:=∀(j:Nat) (p:Pd),j < i→g.prods[j]?=some p→zaE g X p p.right.length
theorem vD.next {g:Gm}{X:Int→RS}{i:Nat}{p:Pd}(h:vD g X i)(hp:g.prods[i]?=some p)(hh:zaE g X p p.right.length):vD g X (i+1):=by
 intro j q hj hq; by_cases hji:j=i
 ·subst hji
  rw[hp]at hq
  injection hq with hq; subst hq; exact hh
 ·exact h j q (by omega) hq
theorem zaE.zero (g:Gm)(X:Int→RS)(p:Pd):zaE g X p 0:=fun A a b _ _ h=>by omega
theorem zaE.term {g:Gm}{X:Int→RS}{p:Pd}{k:Nat}{s:Int}(h:zaE g X p k)(hs:p.right[k]?=some s)(ht:s < g.terms):zaE g X p (k+1):=by
 intro A a b h1 h2 h3; by_cases hk:a.length < k
 ·exact h A a b h1 h2 hk
 ·exfalso
  rw[h1,List.getElem?_append_right (by omega),show k - a.length=0 by omega]at hs
  simp at hs
  omega
theorem zaE.step {g:Gm}{X:Int→RS}{p:Pd}{k c:Nat}{s:Int}(h:zaE g X p k)(hs:p.right[k]?=some s)(hc:s - g.terms=(c:Int))(hn:∀r,zjx g (p.right.drop (k+1)) (X p.left) r→X (c:Int) r):zaE g X p (k+1):=by
 intro A a b h1 h2 h3; by_cases hk:a.length < k
 ·exact h A a b h1 h2 hk
 ·have hak:a.length=k:=by omega
  rw[h1,List.getElem?_append_right (by omega),show k - a.length=0 by omega]at hs
  simp at hs
  have hA:A=(c:Int):=by omega
  subst hA
  have:p.right.drop (k+1)=b:=by rw[h1,←hak,List.drop_append,List.drop_eq_nil_of_le (by omega),show a.length+1 - a.length=1 by omega];rfl
  rw[this]at hn
  exact hn
theorem zfw {g:Gm}{X:Int→RS}{p:Pd}(hp:p∈g.prods){k c:Nat}{s:Int}(hs:p.right[k]?=some s)(hc:s - g.terms=(c:Int))(hX:∀A r,X A r→xf g A r){r:Row}(hr:zjx g (p.right.drop (k+1)) (X p.left) r):xf g (c:Int) r:=by
 refine Yv hp (a:=p.right.take k) (b:=p.right.drop (k+1)) ?_ (vC (fun _ h=>h) (hX p.left) hr)
 obtain⟨h1,h2⟩:=List.getElem?_eq_some_iff.1 hs
 conv=>lhs;rw[←List.take_append_drop k p.right,List.drop_eq_getElem_cons h1,h2]
 congr 2
 omega
theorem zaW {g:Gm}(hg:VE g){n m:Nat}{zs:Nat→List ByteArray}(h:Jt n zs)(hs:∀A r,XZ n zs A r→xf g A r)(h0:XZ n zs 0 [255])(hc:vD g (XZ n zs) m)(hm:m=g.prods.length):Vi n zs (xf g):=fun A hA=>(h.set A hA).to fun r=>⟨hs A r,fun hf=>by
 have:=Ji (X:=fun A r=>A < 0∨XZ n zs A r) (.inr h0) (fun p hp B a b hr x hx=>by
  by_cases hB:B < 0
  ·exact .inl hB
  ·refine .inr ?_
   obtain⟨j,hj⟩:=List.mem_iff_getElem?.1 hp
   refine hc j p (by rw[hm];exact(List.getElem?_eq_some_iff.1 hj).1) hj B a b hr (by omega) (by rw[hr];simp) x (vC (fun _ h=>h) (fun y hy=>?_) hx); rcases hy with hy|hy
   ·have:=hg.left p hp
    omega
   ·exact hy) A r hf
 rcases this with this|this
 ·omega
 ·exact this⟩
theorem zhQ:yO [tbx 255] (fun x=>x=[255]):=by
 refine⟨by simp,fun z hz=>?_,fun r=>by simp[zbx]⟩
 rw[List.mem_singleton]at hz
 subst hz
 rw[zbx]
 exact⟨by simp,fun b hb=>.inr (by simpa using hb)⟩
theorem zef {n:Nat}(hn:1≤n):Jt n (jr (fun _=>[]) 0 [tbx 255])∧(∀(g:Gm) (A:Int) r,XZ n (jr (fun _=>[]) 0 [tbx 255]) A r→xf g A r)∧XZ n (jr (fun _=>[]) 0 [tbx 255]) 0 [255]∧MZ n (jr (fun _=>[]) 0 [tbx 255])≤1000*n:=by
 have e:=zeh (n:=n) (zs:=fun _=>[]) (a:=0) (us:=[tbx 255]) (Q:=fun x=>x=[255]) (Jt.nil n) (by omega) (zhQ.to fun r=>by
  unfold orS XZ; simp)
 refine⟨e.oks,fun g=>e.sound (xf g) (fun A r h=>by have:=h.2.2;simp at this) (fun r hr=>⟨0,rfl,hr⟩),e.new _ rfl,?_⟩
 have:=e.more (by simp)
 have:=zjz n
 omega
set_option maxRecDepth 100000 in
set_option maxHeartbeats 4000000 in
theorem VG (g:Gr)(n k:Nat)(w:World)(h:jC w g)(h0:yY g=0)(hn:g.nons=n)(hk:g.k=k):Calls Tryz.prog 57 #[grV g] w (zdG w n (xf g.gm)):=by
 have hmk:=fun w=>zbE w n g.nons hn (by have:=yk h0;omega); have hk3:1≤k∧k≤3:=by have:=yk h0;omega
 have HOF:=zh (fun sg so sc zs X R rc right w1 h1 hz hs hr hl hrs=>zhu g n k sg so sc zs X R rc right w1 h1 h0 hn hk hz hs hr hl hrs); have HFS:=zh (fun w1 h1=>Va g n k w1 h1 h0 hn hk); have HCA:=zh (fun va vb xs ys P Q w1 ha hb sa sb=>zaR k va vb xs ys P Q w1 hk3 ha hb sa sb); have HKN:=zh hk; have HGO:=zh (YJ h0); unfold grV at HOF HFS; clear hk
 obtain⟨hT,hN,hK,hP1,hP2⟩:=yk h0
 obtain⟨b1,W1,hb1,hW1,X1,GA,GO⟩:=xM g w h
 have HC:=zh (xL g W1 GO)
 rw[h0]at HC
 have HG:=zh GA; have HO:=zh GO; have HX1:=zh X1; have H0:=zh h0; have HNN:=zh hn; have hn16:1≤n∧n≤16:=by omega
 unfold grV at HC ⊢
 obtain⟨m,hm⟩:∃m,g.prods.length=m:=⟨_,rfl⟩
 have HM:=zh hm
 obtain⟨e0,e1,e2,e3,el⟩:=GA
 rw[hm]at e3 hP1 hP2 HC HOF HFS ⊢
 rw[hm]at hW1
 clear h X1 GO h0 hn hm; go_in
 go_upto_region 1 with fail; try simp only[hb1]
 try simp only[hW1]
 clear hb1 hW1; go_wp2_with fail; refine HC.out.mono ?_; rintro e W2 ⟨rfl,x2⟩; have HX2:=zh (HX1.out.trans x2); have HG2:=zh (HG.out.ext x2); have HO2:=zh (HO.out.ext x2); clear x2 HC e0 e1 e2 e3 el HG HO
 obtain⟨e0,e1,e2,e3,el⟩:=HG2.out
 rw[HM.out]at e3
 go_wp2_with fail
 refine(HFS.out _ HO2.out).mono ?_
 rintro e W3 ⟨fb,fs,rfl,hfb,hfs,hx3⟩; have HX3:=zh (HX2.out.trans hx3); have HFB:=zh hfb.rd; have HFO:=zh hfs; have HG3:=zh (HG2.out.ext hx3); have HO3:=zh (HO2.out.ext hx3); clear hfb hfs hx3 HFS e0 e1 e2 e3 el HG2 HO2
 obtain⟨e0,e1,e2,e3,el⟩:=HG3.out
 rw[HM.out]at e3
 obtain⟨ob,hob⟩:∃b,W3.heap.size=b:=⟨_,rfl⟩
 obtain⟨V0,hV0⟩:∃V,W3.alloc (.cells (madeCells #[zH] n) 122)=V:=⟨_,rfl⟩
 have HB0:Hid (vf V0 W3.heap.size ob n (fun _=>[])):=zh (by rw[←hV0];exact vf.made (by rw[←hob];exact heap_alloc_new _ _) (by omega)); have HV0:Hid (Ext W3 V0):=zh (by rw[←hV0];exact xi); have HOB:Hid (W3.heap.size≤ob):=zh (by omega); go_upto_region 5 with fail; try simp only[hob]
 try simp only[hV0]
 clear hob hV0 hmk e0 e1 e2 e3 el
 obtain⟨bb,hbb⟩:∃b,V0.heap.size=b:=⟨_,rfl⟩
 obtain⟨V1,hV1⟩:∃V,V0.alloc (.cells #[.int .u8 255] 5)=V:=⟨_,rfl⟩
 have hB1:V1.heap[bb]?=some (.cells #[.int .u8 255] 5):=by rw[←hV1,←hbb];exact heap_alloc_new _ _
 have x01:Ext V0 V1:=by rw[←hV1];exact xi
 have hcv:=run_convert_bytes_arg (P:=Tryz.prog) V1 166 5 Tryz.underlying166 Tryz.underlying5 bb 0 1 1 [255] rfl (fun i hi=>by
  obtain rfl:i=0:=by omega
  exact cr 0 hB1) 9 Tryz.underlying9
 rw[show strOfNums [255]=tbx 255 from rfl]at hcv
 obtain⟨tb,htb⟩:∃b,V1.heap.size=b:=⟨_,rfl⟩
 obtain⟨V2,hV2⟩:∃V,V1.alloc (.cells #[.string (tbx 255)] 9)=V:=⟨_,rfl⟩
 have hT2:=Qa V1 (tbx 255)
 rw[hV2,htb]at hT2
 have x02:Ext V0 V2:=by rw[←hV2];exact x01.trans xi
 have HB2:=zh (HB0.out.ext x02)
 obtain⟨v0,q0,hv0⟩:=HB2.out.rd.at_ 0 (by omega)
 have ql:=HB2.out.rd.lt; have qf:=HB2.out.frozen 0; have hn0:0 < n:=by omega
 rw[Nat.zero_add]at q0
 obtain⟨V3,hV3⟩:∃V,V2.setCell ⟨ob,0,none⟩ (.slice (some ⟨tb,0,none⟩) 1 1)=V:=⟨_,rfl⟩
 have HB3:Hid (vf V3 W3.heap.size ob n (jr (fun _=>[]) 0 [tbx 255])):=zh (by rw[←hV3];exact HB2.out.put hT2); have HV3:Hid (Ext W3 V3):=zh (by rw[←hV3];exact(HV0.out.trans x02).setCell HOB.out _)
 obtain⟨zs0,hz0⟩:∃z,jr (fun _=>[]) 0 [tbx 255]=z:=⟨_,rfl⟩
 have HES:=zh (zef (n:=n) (by omega))
 rw[hz0]at HB3 HES
 clear hz0 hB1 x01 x02 hT2 hv0 HB0 HV0 HB2; go_upto_region 6 with fail; try simp only[hbb]
 try simp only[hV1]
 try simp only[htb]
 try simp only[hV2]
 try simp only[hV3]
 clear hbb hV1 hcv htb hV2 hV3 q0 ql qf hn0; go_wp2_with fail; go_loopg [5] (2*MZ n zs0+1) (fun gh mv wr=>Hid (ExB fun mb=>∃(zs:Nat→List ByteArray),mv=.bool mb∧Hid (MZ n zs*2+(if mb then 1 else 0)≤gh)∧Hid (vf wr W3.heap.size ob n zs)∧Hid (Jt n zs∧(∀A r,XZ n zs A r→xf g.gm A r)∧XZ n zs 0 [255])∧Hid (mb=false→vD g.gm (XZ n zs) m)∧Hid (Ext W3 wr)))
 case atStart=>exact zh ⟨true,_,rfl,zh (by simp;omega),HB3,zh ⟨HES.out.1,HES.out.2.1 g.gm,HES.out.2.2.1⟩,zh (fun h=>by cases h),HV3⟩
 case round=>
  clear HB3 HV3 HES
  obtain⟨mb,zs,rfl,HMS,HB,HS,HCL,HX⟩:=hrel.out
  cases mb with
  |false=>
   have HF:=zh (zaW HGO.out HS.out.1 HS.out.2.1 HS.out.2.2 (HCL.out rfl) (by rw[←HM.out];simp[Gr.gm])); go_wp2_with fail; go_ret
   obtain⟨b1,b2⟩:=HB.out
   exact⟨ob,zs,rfl,⟨b1,Nat.le_trans HX3.out.size b2⟩,HF.out,HX3.out.trans HX.out⟩
  |true=>
   go_wp2_with fail; go_loopw [5,6] (fun mv iv wr=>Hid (ExB fun mb=>∃(i:Nat) (zs':Nat→List ByteArray),mv=.bool mb∧iv=.int .i64 i∧i≤m∧Hid (MZ n zs'+(if mb then 1 else 0)≤MZ n zs)∧Hid (vf wr W3.heap.size ob n zs')∧Hid (Jt n zs'∧(∀A r,XZ n zs' A r→xf g.gm A r)∧XZ n zs' 0 [255])∧Hid (mb=false→vD g.gm (XZ n zs') i)∧Hid (Ext W3 wr))) (fun _ iv _=>m - (intOf iv).toNat)
   case atStart=>exact zh ⟨false,0,zs,rfl,rfl,Nat.zero_le _,zh (by simp),HB,HS,zh (fun _ j p hj=>by omega),HX⟩
   case round=>
    clear HB HS HCL HX
    obtain⟨mb,i,zs',rfl,rfl,hi,HCF,HB,HS,HCL,HX⟩:=hrel.out
    obtain⟨e0,e1,e2,e3,el⟩:=HG3.out.ext HX.out
    rw[HM.out]at e3
    by_cases hlt:i < m
    ·obtain⟨p,hp⟩:∃p,g.prods[i]?=some p:=⟨_,List.getElem?_eq_getElem (by have:=HM.out;omega)⟩
     obtain⟨pg,po,hA,pl,d0,d1,_⟩:=(HO3.out.ext HX.out).prd hp
     have HPI:=zh (je H0.out hp); have HPG:=zh (vO hp); have HPO:=zh (by
      obtain⟨_,_,_,_,_,_,PO2⟩:=HO3.out.prd hp
      exact PO2)
     obtain⟨bp,W5,hbp,hW5,x5,pc⟩:=Zk p wr
     obtain⟨left,rA,rc,right⟩:=p
     obtain⟨a,rfl⟩:∃a:Nat,left=a:=⟨left.toNat,by have:=HPI.out.left.1;dsimp only at this;omega⟩
     rw[hA]at e3
     dsimp only at d0 d1 hW5 pc; have HPC:=zh pc; have HX5:=zh (HX.out.trans x5); have han:a < n:=by have:=HPI.out.left.2;dsimp only at this;have:=HNN.out;omega
     have HB5:=zh (HB.out.ext x5); have HPL:Hid (ob < bp):=zh (by have:=HB.out.rd.lt;omega); have HCN0:Hid (mb=false→vD g.gm (XZ n zs') i∧zaE g.gm (XZ n zs') ⟨(a:Int),right⟩ 0):=zh (fun h=>⟨HCL.out h,zaE.zero _ _ _⟩)
     obtain⟨rn,hrn⟩:∃n,right.length=n:=⟨_,rfl⟩
     have HRN:=zh hrn; have hrn8:rn≤8:=by rw[←hrn];exact HPI.out.len
     have hcap:=HPO.out.cap; have htop:=HPO.out.top; dsimp only at hcap htop
     rw[hrn]at hcap d1 hW5 HPC
     clear pc hp hA hrn; go_upto_region 13 with fail; try simp only[hbp]
     try simp only[hW5]
     clear hbp hW5 e0 e1 e2 e3 el d0 d1 pl x5; go_wp2_with fail; go_loopw [5,8] (fun mv kv wk=>Hid (ExB fun mb=>∃(k:Nat) (zs':Nat→List ByteArray),mv=.bool mb∧kv=.int .i64 k∧k≤rn∧Hid (MZ n zs'+(if mb then 1 else 0)≤MZ n zs)∧Hid (vf wk W3.heap.size ob n zs')∧Hid (Jt n zs'∧(∀A r,XZ n zs' A r→xf g.gm A r)∧XZ n zs' 0 [255])∧Hid (mb=false→vD g.gm (XZ n zs') i∧zaE g.gm (XZ n zs') ⟨(a:Int),right⟩ k)∧Hid (zA (fun x=>x=ob) W5 wk)∧Hid (Ext W3 wk))) (fun _ kv _=>rn - (intOf kv).toNat)
     case atStart=>exact zh ⟨mb,0,zs',rfl,rfl,Nat.zero_le _,HCF,HB5,HS,HCN0,zh (zA.of_ext (Ext.refl _)),HX5⟩
     case round=>
      clear HB5 HS HCL HCN0 HCF HB HX HX5 zs'
      obtain⟨mb,q,zs',rfl,rfl,hq,HCF,HB,HS,HCN,HT,HX⟩:=hrel.out
      have HBP:Hid (∀w1,zA (fun x=>x=ob) W5 w1→w1.cell? ⟨bp,0,none⟩=some (.int .i64 a)∧w1.cell? ⟨bp,1,none⟩=some (.slice rA rn rc)∧bp < w1.heap.size):=zh (fun w1 t=>by
       obtain⟨c0,c1,cl⟩:=HPC.out W5 (Ext.refl _)
       have hbb:=t.block bp cl (by have:=HPL.out;omega)
       exact⟨(World.cell?_of_block (w:=W5) (a:=⟨bp,0,none⟩) hbb).trans c0,(World.cell?_of_block (w:=W5) (a:=⟨bp,1,none⟩) hbb).trans c1,Nat.lt_of_lt_of_le cl t.size⟩)
      obtain⟨c0,c1,cl⟩:=HBP.out _ HT.out
      by_cases hlk:q < rn
      ·obtain⟨s,hs⟩:∃s,right[q]?=some s:=⟨_,List.getElem?_eq_getElem (by have:=HRN.out;omega)⟩
       have HSS:=zh hs
       obtain⟨hs0,hs1⟩:=HPI.out.sym s (List.mem_of_getElem? hs)
       obtain⟨e0,e1,e2,e3,el⟩:=HG3.out.ext HX.out
       obtain⟨sg,so,hrA,sl,y0⟩:=(HPO.out.ext HX.out).sym hs
       dsimp only at hrA
       obtain⟨W6,hW6⟩:∃W,wr.drew=W:=⟨_,rfl⟩
       have x6:Ext wr W6:=by rw[←hW6];exact xi
       have HB6:=zh (HB.out.ext x6); have HT6:=zh (HT.out.trans (zA.of_ext x6)); have HX6:=zh (HX.out.trans x6); have HC1:=zh c1
       rw[hrA]at c1
       by_cases hst:s < g.terms
       ·have e5:IntKind.i64.wrap (s - g.terms)=s - g.terms:=IntWalk.i64_in _ (by omega); have d1:decide (s - g.terms < 0)=true:=decide_eq_true (by omega); have HCN2:Hid (mb=false→vD g.gm (XZ n zs') i∧zaE g.gm (XZ n zs') ⟨(a:Int),right⟩ (q+1)):=zh (fun hm=>⟨(HCN.out hm).1,(HCN.out hm).2.term HSS.out hst⟩); clear hs hrA hst hs0 hs1 x6; go_upto_region 16 with fail; refine zg (9) (zd [0,2,5] (zj [1,3,4,6,7,8] .fin)) (by kernel_rfl) (by kernel_rfl) ?_; (repeat first|refine yq ?_|refine yr ?_)
        refine zv ?_; try simp only[hW6]
        clear hW6; go_wp2_with fail; go_roundw
        case rel=>exact zh ⟨mb,q+1,zs',rfl,by go_num,by omega,HCF,HB6,HS,HCN2,HT6,HX6⟩
        case measure=>simp[intOf];omega
       ·obtain⟨c,hc⟩:∃c:Nat,s - g.terms=c:=⟨(s - g.terms).toNat,by omega⟩
        have hcn:c < n:=by have:=HNN.out;omega
        have e5:IntKind.i64.wrap (s - g.terms)=(c:Int):=by rw[IntWalk.i64_in _ (by omega)];omega
        have HCC:Hid (s - g.terms=c):=zh hc; clear hs hst hs0 hs1 x6 hc; go_upto_region 16 with fail; refine zg (9) (zd [0,2,5] (zj [1,3,4,6,7,8] .fin)) (by kernel_rfl) (by kernel_rfl) ?_; (repeat first|refine yq ?_|refine yr ?_)
        refine zv ?_; try simp only[hW6]
        clear hW6 e0 e1 e2 e3 el c0 c1 cl e5 sl y0; go_upto_region 18 with fail; go_cut [10] (fun rv wc=>∃us,Hid (vK wc rv us)∧Hid (yO us (ofS g.gm (yS g.gm) (right.drop (q+1))))∧Hid (Ext W6 wc))
        case first=>
         obtain⟨e0,e1,e2,e3,el⟩:=HG3.out.ext HX6.out
         rw[HM.out]at e3
         obtain⟨c0,c1,cl⟩:=HBP.out _ HT6.out
         rw[hrA]at c1
         have hdl:(right.drop (q+1)).length=rn - (q+1):=by rw[List.length_drop,HRN.out]
         have hI:=HPO.out.right; dsimp only at hI
         rw[hrA]at hI
         by_cases hcp:rc=q+1
         ·have hd0:right.drop (q+1)=[]:=List.drop_eq_nil_of_le (by have:=HRN.out;omega); have HOS:Hid (∀w1,Ext W6 w1→Calls Tryz.prog 95 #[.agg #[.int .i64 g.terms,.int .i64 g.nons,.int .i64 g.k,.slice g.pA m g.pc],.slice (some ⟨fb,0,none⟩) n n,.slice (some ⟨sg,so,none⟩) 0 0] w1 (Qc w1 (ofS g.gm (yS g.gm) (right.drop (q+1))))):=zh (fun w1 e=>by
           have:=HOF.out fb 0 n fs (yS g.gm) (some ⟨sg,so,none⟩) 0 [] w1 (HO3.out.ext (HX6.out.trans e)) (HFB.out.ext (HX6.out.trans e)) HFO.out (fun h0=>by simp at h0) (by simp) (fun u hu=>by cases hu)
           rw[hd0]
           exact this)
          clear hd0; subst hcp; clear hdl hI hrA; have w1':IntKind.i64.wrap ((q:Int)+1)=(q:Int)+1:=IntWalk.i64_in _ (by omega); go_upto_region 18 with fail; refine zg (9) (zd [1,2,4,5] (zj [0,3,6] (.step 7 (zd [8] .fin)))) (by kernel_rfl) (by kernel_rfl) ?_; (repeat first|refine yq ?_|refine yr ?_)
          refine zp fun next hn=>?_;simp only[pick,yp]; go_wp2_with fail
          refine(HOS.out _ xi).mono ?_
          rintro e' Q1 ⟨vo,us,rfl,hvo,hso,hxo⟩; have HXo:Hid (Ext W6 Q1):=zh (Ext.trans xi hxo); have HVO:=zh hvo; have HSO:=zh hso; clear hxo hvo hso HOS; go_wp2_with fail; refine zk (fun _=>yZ HXo.out) (hn _ _ ?_); clear hn next; (repeat first|refine yq ?_|refine yr ?_)
          refine zv ?_; go_wp2_with fail; go_meet
          exact⟨us,HVO,HSO,HXo⟩
         ·have HOS:=zh (fun w1 (e:Ext W6 w1)=>HOF.out fb 0 n fs (yS g.gm) (some ⟨sg,so+(q+1),none⟩) (rc - (q+1)) (right.drop (q+1)) w1 (HO3.out.ext (HX6.out.trans e)) (HFB.out.ext (HX6.out.trans e)) HFO.out (fun h0=>by
           obtain⟨b,off,h1,h2,h3⟩:=(hI.ext (HX6.out.trans e)) (by rw[hdl]at h0;have:=HRN.out;omega)
           injection h1 with h1; injection h1 with h1 h1'; subst h1 h1'
           refine⟨_,_,rfl,h2,fun j hj=>?_⟩
           have:=h3 (q+1+j) (by rw[hdl]at hj;have:=HRN.out;omega)
           rw[List.getD_eq_getElem?_getD,List.getElem?_drop,←List.getD_eq_getElem?_getD,←this]
           congr 2
           omega) (by rw[hdl];omega) (fun u hu=>HPI.out.sym u (List.mem_of_mem_drop hu)))
          rw[hdl]at HOS
          clear hdl hI hrA; have w1':IntKind.i64.wrap ((q:Int)+1)=(q:Int)+1:=IntWalk.i64_in _ (by omega); go_upto_region 18 with fail; refine zg (9) (zd [1,2,4,5] (zj [0,3,6] (.step 7 (zd [8] .fin)))) (by kernel_rfl) (by kernel_rfl) ?_; (repeat first|refine yq ?_|refine yr ?_)
          refine zp fun next hn=>?_;simp only[pick,yp]; go_wp2_with fail
          refine(HOS.out _ xi).mono ?_
          rintro e' Q1 ⟨vo,us,rfl,hvo,hso,hxo⟩; have HXo:Hid (Ext W6 Q1):=zh (Ext.trans xi hxo); have HVO:=zh hvo; have HSO:=zh hso; clear hxo hvo hso HOS; go_wp2_with fail; refine zk (fun _=>yZ HXo.out) (hn _ _ ?_); clear hn next; (repeat first|refine yq ?_|refine yr ?_)
          refine zv ?_; go_wp2_with fail; go_meet
          exact⟨us,HVO,HSO,HXo⟩
        case rest=>
         obtain⟨us,hus,husk,hxc⟩:=hcut
         have HXC:=zh (HX6.out.trans hxc.out); have HTC:=zh (HT6.out.trans (zA.of_ext hxc.out)); have HBC:=zh (HB6.out.ext hxc.out); clear HX HT HB hxc hrA HB6 HT6 HX6
         obtain⟨e0,e1,e2,e3,el⟩:=HG3.out.ext HXC.out
         rw[HM.out]at e3
         rw[HKN.out]at e2
         obtain⟨c0,c1,cl⟩:=HBP.out _ HTC.out
         obtain⟨va,q0,hva⟩:=HBC.out.rd.at_ a han
         obtain⟨vc,q1,hvc⟩:=HBC.out.rd.at_ c hcn
         have ql:=HBC.out.rd.lt
         rw[Nat.zero_add]at q0 q1
         have HVC:=zh hvc; have HCT:=zh (fun w1 (e:Ext wc w1)=>HCA.out _ _ _ _ _ _ w1 (hus.out.ext e) (hva.ext e) husk.out (HS.out.1.set a han)); clear hva hvc; go_upto_region 19 with fail; refine zg (15) (zd [0,1,2,4,6,7,8] (zj [3,5,9,10,11] (.step 12 (.step 13 (zd [14] .fin))))) (by kernel_rfl) (by kernel_rfl) ?_; (repeat first|refine yq ?_|refine yr ?_)
         refine zp fun next hn=>?_;simp only[pick,yp]; go_wp2_with fail
         refine(HCT.out _ xi).mono ?_
         rintro e' Q1 ⟨vo,uo,rfl,hvo,hso,hxo⟩; have HXo:Hid (Ext wc Q1):=zh (Ext.trans xi hxo); have HUN:=zh (Jv _ _ _ _ _ _ Q1 (HVC.out.ext HXo.out) hvo (HS.out.1.set c hcn) hso); clear hxo hvo hso HCT; go_wp2_with fail; refine zk (fun _=>yZ HXo.out) (hn _ _ ?_); clear hn next; refine zp fun next hn=>?_;simp only[pick,yp]; go_wp2_with fail; refine HUN.out.mono ?_; rintro e' R1 ⟨vu,zu,rfl,hvu,hsu,hxu⟩; have HXu:Hid (Ext wc R1):=zh (HXo.out.trans hxu)
         obtain⟨A1,k1,rfl⟩:=hvu.size
         have HVU:=zh hvu; have HUP:=zh (zeh HS.out.1 hcn hsu); clear hvu hsu hxu HUN HXo; go_wp2_with fail; refine zk (fun _=>yZ HXu.out) (hn _ _ ?_); clear hn next e0 e1 e2 e3 el q0 q1 ql c0 c1 cl; (repeat first|refine yq ?_|refine yr ?_)
         refine zv ?_; have HXR:=zh (HXC.out.trans HXu.out); have HTR:=zh (HTC.out.trans (zA.of_ext HXu.out)); have HBR:=zh (HBC.out.ext HXu.out)
         obtain⟨vb,q0,hvb⟩:=HBR.out.rd.at_ c hcn
         have ql:=HBR.out.rd.lt; have qf:=HBR.out.frozen c
         rw[Nat.zero_add]at q0
         obtain⟨A2,k2,rfl⟩:=hvb.size
         obtain⟨l1,hl1⟩:∃l,zu.length=l:=⟨_,rfl⟩
         obtain⟨l2,hl2⟩:∃l,(zs' c).length=l:=⟨_,rfl⟩
         obtain⟨W7,hW7⟩:∃W,R1.setCell ⟨ob,c,none⟩ (.slice A1 zu.length k1)=W:=⟨_,rfl⟩
         have HB7:Hid (vf W7 W3.heap.size ob n (jr zs' c zu)):=zh (by rw[←hW7];exact HBR.out.put HVU.out); have HX7:Hid (Ext W3 W7):=zh (by rw[←hW7];exact HXR.out.setCell HOB.out _); have HT7:Hid (zA (fun x=>x=ob) W5 W7):=zh (by rw[←hW7];exact HTR.out.trans (zA.set1 _ _ _)); have HL1:=zh hl1; have HL2:=zh hl2
         rw[hl1]at hW7
         have hkn:g.gm.kn=k:=by
          show g.k.toNat=k
          have:=HKN.out
          omega
         have HS7:Hid (Jt n (jr zs' c zu)∧(∀A r,XZ n (jr zs' c zu) A r→xf g.gm A r)∧XZ n (jr zs' c zu) 0 [255]):=zh ⟨HUP.out.oks,HUP.out.sound _ HS.out.2.1 (fun r hr=>zfw (p:=⟨(a:Int),right⟩) (List.mem_of_getElem? HPG.out) HSS.out HCC.out HS.out.2.1 (by unfold zjx;rw[hkn];exact hr)),HUP.out.up _ _ HS.out.2.2⟩; have HKK:=zh hkn
         rw[hl1]
         rw[hl2]at q0
         clear hvb hl1 hl2 hkn; by_cases hgr:l2 < l1
         ·have HCF7:Hid (MZ n (jr zs' c zu)+1≤MZ n zs):=zh (by
           have h1:=HUP.out.more (by rw[HL1.out,HL2.out];exact hgr); have h2:=HCF.out; omega)
          have g1:decide ((l2:Int) < (l1:Int))=true:=decide_eq_true (by omega); have g2:decide (l2 < l1)=true:=decide_eq_true hgr; clear hgr; cases mb
          all_goals
           go_wp2_with fail; try simp only[hW7]
           go_roundw
           case rel=>exact zh ⟨true,q+1,_,rfl,by go_num,by omega,HCF7,HB7,HS7,zh (fun h=>by cases h),HT7,HX7⟩
           case measure=>simp[intOf];omega
         ·have g1:decide ((l2:Int) < (l1:Int))=false:=decide_eq_false (by omega); have g2:decide (l2 < l1)=false:=decide_eq_false hgr; have HSM:=zh (HUP.out.same (by rw[HL1.out,HL2.out];omega)); have HCF7:Hid (MZ n (jr zs' c zu)+(if mb then 1 else 0)≤MZ n zs):=zh (by
           rw[HSM.out.2]
           exact HCF.out)
          have HCL7:Hid (mb=false→vD g.gm (XZ n (jr zs' c zu)) i∧zaE g.gm (XZ n (jr zs' c zu)) ⟨(a:Int),right⟩ (q+1)):=zh (fun hm=>by
           rw[HSM.out.1]
           refine⟨(HCN.out hm).1,(HCN.out hm).2.step HSS.out HCC.out (fun r hr=>?_)⟩
           have:=HUP.out.new r (by unfold zjx at hr;rw[HKK.out]at hr;exact hr)
           rw[HSM.out.1]at this
           exact this)
          clear hgr; cases mb
          all_goals
           go_wp2_with fail; try simp only[hW7]
           go_roundw
           case rel=>exact zh ⟨_,q+1,_,rfl,by go_num,by omega,HCF7,HB7,HS7,HCL7,HT7,HX7⟩
           case measure=>simp[intOf];omega
      ·obtain rfl:q=rn:=by omega
       have HCN2:Hid (mb=false→vD g.gm (XZ n zs') (i+1)):=zh (fun hm=>(HCN.out hm).1.next HPG.out (by have:=(HCN.out hm).2;rw[←HRN.out]at this;exact this)); go_wp2_with fail; go_roundw
       case rel=>exact zh ⟨mb,i+1,zs',rfl,by go_num,by omega,HCF,HB,HS,HCN2,HX⟩
       case measure=>simp[intOf];omega
    ·obtain rfl:i=m:=by omega
     go_wp2_with fail; go_roundg (MZ n zs'*2+(if mb then 1 else 0))
     case measure=>
      have h1:=HMS.out; have h2:=HCF.out; cases mb<;>simp at h1 h2 ⊢<;>omega
     case rel=>exact zh ⟨mb,zs',rfl,zh (Nat.le_refl _),HB,HS,HCL,HX⟩
structure zgK (w0 w:World)(tb:Nat)(row:Value)(vs:List Value)(ss:List (List ByteArray)):Prop where
 blk:w.heap[tb]?=some (.cells #[row] 40)
 low:w0.heap.size≤tb
 own:w.ownsRow w0.heap.size 122 1 row vs.length vs
 ext:Ext w0 w
 len:ss.length=vs.length
 strs:∀(i:Nat) (v:Value) (s:List ByteArray),vs[i]?=some v→ss[i]?=some s→vK w v s
section
variable {w0 w w2:World}{tb:Nat}{row row' v:Value}{vs:List Value}{ss:List (List ByteArray)}{s:List ByteArray}
theorem zgK.to (h:zgK w0 w tb row vs ss)(e:Ext w w2):zgK w0 w2 tb row vs ss:=⟨zb h.blk e,h.low,yv h.own e,h.ext.trans e,h.len,fun i v s h1 h2=>(h.strs i v s h1 h2).ext e⟩
theorem zgK.app (h:zgK w0 w tb row vs ss)(hu:vK w v s)(ho:w2.ownsRow w0.heap.size 122 1 row' (vs.length+1) (vs++[v]))(hg:w.grownBy w2 row.ownBlock)(_:row'.ownBlock=row.ownBlock∨row'.ownBlock=some w.heap.size):(∀g:Nat,g < w0.heap.size→w2.heap[g]?=w.heap[g]?)∧(∀(g:Nat) (cs:Array Value) (T:TypeId),w.heap[g]?=some (.cells cs T)→T≠122→w2.heap[g]?=some (.cells cs T))∧zgK w0 (w2.setCell ⟨tb,0,none⟩ row') tb row' (vs++[v]) (ss++[s]):=by
 have T:zA (fun g=>row.ownBlock=some g) w w2:=zA.grown hg (fun g hg _=>hg); have k2:∀(g:Nat) (cs:Array Value) (T:TypeId),w.heap[g]?=some (.cells cs T)→T≠122→w2.heap[g]?=some (.cells cs T):=fun g cs U hgc hne=>T.keep hgc (fun hh=>by
  obtain⟨cur,hcur⟩:=zZ h.own g hh
  rw[hgc]at hcur
  injection hcur with hcur; injection hcur with _ hcur; exact hne hcur)
 have hb2:=k2 tb _ _ h.blk (by decide); have T2:zA (fun k=>k=tb) w2 (w2.setCell ⟨tb,0,none⟩ row'):=zA.set1 _ _ _; have S2:∀{v s},vK w v s→vK (w2.setCell ⟨tb,0,none⟩ row') v s:=fun hs=>(hs.turn T (fun g cs hgc hh=>by
  obtain⟨cur,hcur⟩:=zZ h.own g hh
  exact zU hgc hcur (by decide) rfl)).turn T2 (fun g cs hgc he=>zU hgc hb2 (by decide) he)
 refine⟨fun g hgl=>T.block g (Nat.lt_of_lt_of_le hgl h.ext.size) (fun hh=>by have:=zV h.own g hh;omega),k2,zn hb2 row',h.low,?_,?_,by simp[h.len],fun i v' s' h1 h2=>?_⟩
 ·rw[List.length_append]
  exact xF hb2 T2 ho (by decide)
 ·exact T2.ext (T.ext h.ext (fun k hk=>zV h.own k hk)) (fun k hk=>by have:=h.low;omega)
 ·by_cases hi:i < vs.length
  ·rw[List.getElem?_append_left hi]at h1
   rw[List.getElem?_append_left (by rw[h.len];exact hi)]at h2
   exact S2 (h.strs i v' s' h1 h2)
  ·obtain rfl:i=vs.length:=by
    have:=(List.getElem?_eq_some_iff.1 h1).1
    simp at this
    omega
   rw[List.getElem?_append_right (Nat.le_refl _),Nat.sub_self]at h1
   rw[List.getElem?_append_right (by rw[h.len];exact Nat.le_refl _),h.len,Nat.sub_self]at h2
   simp at h1 h2
   subst h1 h2; exact S2 hu
end
structure zcw (w:World)(tg tt:Nat)(g:Gm):Prop where
 lt:tg < w.heap.size
 typ:∃cs,w.heap[tg]?=some (.cells cs 122)
 at_:∀(i:Nat) (p:Pd),g.prods[i]?=some p→∃u us,w.cell? ⟨tg,tt+i,none⟩=some u∧vK w u us∧yO us (jh g p)
theorem zcw.ext {w w':World}{tg tt:Nat}{g:Gm}(h:zcw w tg tt g)(e:Ext w w'):zcw w' tg tt g:=
 ⟨Nat.lt_of_lt_of_le h.lt e.size,by
   obtain⟨cs,hcs⟩:=h.typ
   exact⟨cs,zb hcs e⟩,fun i p hp=>by
   obtain⟨u,us,h1,h2,h3⟩:=h.at_ i p hp
   exact⟨u,us,zy h1 h.lt e,h2.ext e,h3⟩⟩
theorem zcw.turn {w w':World}{tg tt:Nat}{g:Gm}{S:Nat→Prop}(h:zcw w tg tt g)(t:zA S w w')(hS:∀(g:Nat) (cs:Array Value) (T:TypeId),w.heap[g]?=some (.cells cs T)→T=122∨T=9→¬S g):zcw w' tg tt g:=by
 obtain⟨h1,⟨cs,h2⟩,h3⟩:=h
 have hk:=t.block tg h1 (hS tg cs _ h2 (.inl rfl))
 refine⟨Nat.lt_of_lt_of_le h1 t.size,⟨cs,t.keep h2 (hS tg cs _ h2 (.inl rfl))⟩,fun i p hp=>?_⟩
 obtain⟨u,us,k1,k2,k3⟩:=h3 i p hp
 exact⟨u,us,(World.cell?_of_block (w:=w) (a:=⟨tg,tt+i,none⟩) hk).trans k1,k2.turn t (fun g cs hg=>hS g cs _ hg (.inr rfl)),k3⟩
def zh5 (w:World)(m:Nat)(g:Gm)(e:Ending)(w':World):Prop:=∃tg tt tc,e=.returned (.agg #[.slice (some ⟨tg,tt,none⟩) m tc])∧zcw w' tg tt g∧Ext w w'
def zgE (g:Gm)(ss:List (List ByteArray))(i:Nat):Prop:=∀(j:Nat) (p:Pd),j < i→g.prods[j]?=some p→∃s,ss[j]?=some s∧yO s (jh g p)
theorem zgE.next {g:Gm}{ss:List (List ByteArray)}{i:Nat}{p:Pd}{s:List ByteArray}(h:zgE g ss i)(hl:ss.length=i)(hp:g.prods[i]?=some p)(hs:yO s (jh g p)):zgE g (ss++[s]) (i+1):=by
 intro j q hj hq; by_cases hji:j=i
 ·subst hji
  rw[hp]at hq
  injection hq with hq; subst hq
  refine⟨s,?_,hs⟩
  rw[List.getElem?_append_right (by omega),show j - ss.length=0 by omega]
  rfl
 ·obtain⟨u,h1,h2⟩:=h j q (by omega) hq
  exact⟨u,by rw[List.getElem?_append_left (by omega)];exact h1,h2⟩
set_option maxRecDepth 100000 in
set_option maxHeartbeats 4000000 in
theorem zdP (g:Gr)(n k:Nat)(w:World)(h:jC w g)(h0:yY g=0)(hn:g.nons=n)(hk:g.k=k):Calls Tryz.prog 55 #[grV g] w (zh5 w g.prods.length g.gm):=by
 have hk3:1≤k∧k≤3:=by have:=yk h0;omega
 have HOF:=zh (fun sg so sc zs X R rc right w1 h1 hz hs hr hl hrs=>zhu g n k sg so sc zs X R rc right w1 h1 h0 hn hk hz hs hr hl hrs); have HFS:=zh (fun w1 h1=>Va g n k w1 h1 h0 hn hk); have HFO:=zh (fun w1 h1=>VG g n k w1 h1 h0 hn hk); have HCA:=zh (fun va vb xs ys P Q w1 ha hb sa sb=>(show Calls Tryz.prog 94 #[.int .i64 g.k,va,vb] w1 (Qc w1 (jm k P Q))from by rw[hk];exact zaR k va vb xs ys P Q w1 hk3 ha hb sa sb)); have HKN:=zh hk
 obtain⟨hT,hN,hK,hP1,hP2⟩:=yk h0
 obtain⟨b1,W1,hb1,hW1,X1,GA,GO⟩:=xM g w h
 obtain⟨W2,hW2⟩:∃V,W1.alloc (.cells #[zH] 40)=V:=⟨_,rfl⟩
 have x12:Ext W1 W2:=by rw[←hW2];exact xi
 have hgs:W1.heap.size=b1+1:=by rw[←hW1,←hb1];simp
 have HRB:Hid (W2.heap[b1+1]?=some (.cells #[zH] 40)):=zh (by rw[←hW2,←hgs];exact heap_alloc_new _ _); have HRL:Hid (w.heap.size≤b1+1):=zh (by omega); have HG2:=zh (GA.ext x12); have HO2:=zh (GO.ext x12); have HX2:=zh (X1.trans x12); have H0:=zh h0; have HNN:=zh hn; have hn16:1≤n∧n≤16:=by omega
 unfold grV at HOF HFS HFO ⊢
 obtain⟨m,hm⟩:∃m,g.prods.length=m:=⟨_,rfl⟩
 have HM:=zh hm
 rw[hm]at hP1 hP2 HOF HFS HFO ⊢
 rw[hm]at hW1
 clear h X1 GA GO h0 hn hm hk x12; go_in
 go_upto_region 1 with fail; try simp only[hb1]
 try simp only[hW1]
 try simp only[hgs]
 try simp only[hW2]
 clear hb1 hW1 hgs hW2
 obtain⟨e0,e1,e2,e3,el⟩:=HG2.out
 rw[HM.out]at e3
 refine zg (6) (zj [0,2] (.step 1 (.step 3 (zd [4,5] .fin)))) (by kernel_rfl) (by kernel_rfl) ?_; (repeat first|refine yq ?_|refine yr ?_)
 refine zp fun next hn=>?_;simp only[pick,yp]; go_wp2_with fail
 refine(HFS.out _ (HO2.out.ext xi)).mono ?_
 rintro e' Q1 ⟨fb,fs,rfl,hfb,hfs,hq1⟩; have HQ1:Hid (Ext W2 Q1):=zh (Ext.trans xi hq1); have HFB:=zh hfb.rd; have HFK:=zh hfs; clear hfb hfs hq1 HFS; go_wp2_with fail; refine zk (fun _=>yZ HQ1.out) (hn _ _ ?_); clear hn next; (repeat first|refine yq ?_|refine yr ?_)
 refine zp fun next hn=>?_;simp only[pick,yp]; go_wp2_with fail
 refine(HFO.out _ (HO2.out.ext (HQ1.out.trans xi))).mono ?_
 rintro e' V2 ⟨wb,ws,rfl,hwb,hws,hv2⟩; have hq12:Ext Q1 V2:=Ext.trans xi hv2; have HV2:Hid (Ext W2 V2):=zh (HQ1.out.trans hq12); have HFB2:=zh (HFB.out.ext hq12); have HWB:=zh hwb.rd; have HWK:=zh hws; clear hwb hws hv2 HFO hq12 HFB HQ1; go_wp2_with fail; refine zk (fun _=>yZ HV2.out) (hn _ _ ?_); clear hn next; (repeat first|refine yq ?_|refine yr ?_)
 refine zv ?_; clear e0 e1 e2 e3 el
 obtain⟨tb,htb⟩:∃ob,V2.heap.size=ob:=⟨_,rfl⟩
 obtain⟨Vb,hVb⟩:∃V,V2.alloc (.cells #[zH] 40)=V:=⟨_,rfl⟩
 obtain⟨S0,hS0⟩:∃V,Vb.setCell ⟨tb,0,none⟩ zH=V:=⟨_,rfl⟩
 have hB:Vb.heap[tb]?=some (.cells #[zH] 40):=by rw[←hVb,←htb];exact heap_alloc_new _ _
 have HT0:Hid (zgK V2 S0 tb zH [] []):=zh ⟨by rw[←hS0];exact zn hB _,by omega,World.ownsRow_nil _ _ _ _,by rw[←hS0,←hVb];exact(xi:Ext V2 (V2.alloc (.cells #[zH] 40))).setCell (by show _≤tb;omega) _,rfl,fun i v s h=>by simp at h⟩; have u0:=cr 0 hB; have uf:=zi hB 0; have ul:=za hB; go_wp2_with fail; clear htb hVb hS0 hB u0 uf ul
 obtain⟨i6,hi6,hz0,hz1,hz2⟩:=info_parts Vs
 have HI:=zh hi6; have HZ0:=zh hz0; have HZ1:=zh hz1; have HZ2:=zh hz2; clear hi6 hz0 hz1 hz2; go_loopw [6] (fun iv wr=>∃(i:Nat) (row:Value) (vs:List Value) (ss:List (List ByteArray)),iv=.int .i64 i∧i≤m∧Hid (vs.length=i)∧Hid (zgK V2 wr tb row vs ss)∧Hid (zgE g.gm ss i)) (fun iv _=>m - (intOf iv).toNat)
 case atStart=>exact⟨0,_,[],[],rfl,Nat.zero_le _,zh rfl,HT0,zh (fun j p hj=>by omega)⟩
 case round=>
  clear HT0
  obtain⟨i,row,vs,ss,rfl,hi,HL,HT,HIS⟩:=hrel
  have HX:=zh HT.out.ext
  obtain⟨e0,e1,e2,e3,el⟩:=HG2.out.ext (HV2.out.trans HX.out)
  rw[HM.out]at e3
  by_cases hlt:i < m
  ·obtain⟨p,hp⟩:∃p,g.prods[i]?=some p:=⟨_,List.getElem?_eq_getElem (by have:=HM.out;omega)⟩
   obtain⟨pg,po,hA,pl,d0,d1,_⟩:=(HO2.out.ext (HV2.out.trans HX.out)).prd hp
   have HPI:=zh (je H0.out hp); have HPG:=zh (vO hp); have HPO:=zh (by
    obtain⟨_,_,_,_,_,_,PO2⟩:=HO2.out.prd hp
    exact PO2)
   obtain⟨bp,W5,hbp,hW5,x5,pc⟩:=Zk p wr
   obtain⟨left,rA,rc,right⟩:=p
   obtain⟨a,rfl⟩:∃a:Nat,left=a:=⟨left.toNat,by have:=HPI.out.left.1;dsimp only at this;omega⟩
   rw[hA]at e3
   dsimp only at d0 d1 hW5 pc; have HPC:=zh pc; have HX5:=zh (HX.out.trans x5); have HT5:=zh (HT.out.to x5); have han:a < n:=by have:=HPI.out.left.2;dsimp only at this;have:=HNN.out;omega
   clear pc hp hA; go_upto_region 7 with fail; try simp only[hbp]
   try simp only[hW5]
   clear hbp hW5 e0 e1 e2 e3 el d0 d1 pl x5
   obtain⟨e0,e1,e2,e3,el⟩:=HG2.out.ext (HV2.out.trans HX5.out)
   rw[HM.out]at e3
   obtain⟨c0,c1,cl⟩:=HPC.out _ (Ext.refl _)
   obtain⟨A0,k0,rfl,_⟩:=zW HT5.out.own
   obtain⟨vl,hvl⟩:∃l,vs.length=l:=⟨_,rfl⟩
   obtain rfl:vl=i:=by rw[←hvl];exact HL.out
   rw[hvl]at HT5
   have t0:=cr 0 HT5.out.blk; have tl:=za HT5.out.blk; simp at t0
   obtain⟨va,q0,hva⟩:=(HWB.out.ext HX5.out).at_ a han
   have ql:=(HWB.out.ext HX5.out).lt
   rw[Nat.zero_add]at q0
   have HVA:=zh hva; have HWX:=zh (HV2.out.trans HX5.out); have HOS:=zh (fun w1 (e:Ext W5 w1)=>HOF.out fb 0 n fs (yS g.gm) rA rc right w1 (HO2.out.ext (HWX.out.trans e)) (HFB2.out.ext (HX5.out.trans e)) HFK.out (HPO.out.right.ext (HWX.out.trans e)) HPI.out.len HPI.out.sym); clear hva hvl; refine zg (16) (zd [0,2,5,6,9,10] (zj [1,3,4,7,11,12,13] (.step 8 (.step 14 (.step 15 (.step 16 (zd [17] (.late 18 .fin)))))))) (by kernel_rfl) (by kernel_rfl) ?_; (repeat first|refine yq ?_|refine yr ?_)
   refine zp fun next hn=>?_;simp only[pick,yp]; go_wp2_with fail
   refine(HOS.out _ xi).mono ?_
   rintro e' Q2 ⟨vo,uo,rfl,hvo,hso,hxo⟩; have HXo:Hid (Ext W5 Q2):=zh (Ext.trans xi hxo); have HCT:=zh (HCA.out _ _ _ _ _ _ Q2 hvo (HVA.out.ext HXo.out) hso (HWK.out a han)); clear hxo hvo hso HOS; go_wp2_with fail; refine zk (fun _=>yZ HXo.out) (hn _ _ ?_); clear hn next; refine zp fun next hn=>?_;simp only[pick,yp]; go_wp2_with fail; refine HCT.out.mono ?_; rintro e' R1 ⟨vu,zu,rfl,hvu,hsu,hxu⟩; have HXu:Hid (Ext W5 R1):=zh (HXo.out.trans hxu)
   obtain⟨A1,k1,rfl⟩:=hvu.size
   have HVU:=zh hvu; have HSU:Hid (yO zu (jh g.gm ⟨(a:Int),right⟩)):=zh (by
    unfold jh
    rw[show g.gm.kn=k from by show g.k.toNat=k;have:=HKN.out;omega]
    exact hsu)
   clear hvu hsu hxu HCT HXo; go_wp2_with fail; refine zk (fun _=>yZ HXu.out) (hn _ _ ?_); clear hn next e0 e1 e2 e3 el q0 ql c0 c1 cl t0 tl; refine zp fun next hn=>?_;simp only[pick,yp]; go_wp2_with fail; refine zk (fun _=>yZ (HXu.out.trans (xi:Ext R1 _))) (hn _ _ ?_); clear hn next
   obtain⟨nb,hnb⟩:∃nb,R1.heap.size=nb:=⟨_,rfl⟩
   have HC0:=xp R1 122 R1.heap.size #[(.slice A1 zu.length k1)] [(.slice A1 zu.length k1)] rfl rfl
   obtain⟨N0,hN0⟩:∃V,R1.alloc (.cells #[(.slice A1 zu.length k1)] 122)=V:=⟨_,rfl⟩
   rw[hN0,hnb]at HC0
   have HCL:=zh HC0; have HXn:Hid (Ext W5 N0):=zh (by rw[←hN0];exact HXu.out.trans xi); have HVN:Hid (vK N0 (.slice A1 zu.length k1) zu):=zh (HVU.out.ext (by rw[←hN0];exact xi)); have HONE:Hid ((Value.slice A1 zu.length k1).oneCell'=true):=zh rfl; have HTn:=zh (HT5.out.to HXn.out); have HOWN:Hid (N0.ownsRow V2.heap.size 122 1 (.slice A0 vl k0) vl vs):=zh (by have:=HTn.out.own;rw[HL.out]at this;exact this); have HSZ:Hid (V2.heap.size≤N0.heap.size):=zh (HX5.out.trans HXn.out).size; try simp only[hN0,hnb]
   clear hN0 hnb HC0 HXu HVU; refine zp fun next hn=>?_;simp only[pick,yp]; go_wp2_with (at_builtin;refine zE _ (by rfl) (.tmp 26) (.tmp 40) 38 rfl V2.heap.size 122 i6 _ 1 24 Tryz.underlying38 HI.out HZ0.out HZ1.out HZ2.out rfl (by omega) (.slice A0 vl k0) vl vs rfl HOWN.out (some ⟨nb,0,none⟩) 1 1 [(.slice A1 zu.length k1)] rfl (by intro h;cases h) rfl HCL.out (by intro u hu;obtain rfl:=List.mem_singleton.1 hu;exact HONE.out) (by unfold maxLen;omega) (by omega) HSZ.out ?_;intro v5 w5 ho5 hg5 hat5)
   obtain⟨A5,k5,rfl,_⟩:=zW ho5
   obtain⟨_,hk2,ht5⟩:=HTn.out.app HVN.out (by rw[HL.out];exact ho5) hg5 hat5
   have hB5:=hk2 tb _ _ HTn.out.blk (by decide); refine zk (fun h=>absurd rfl h) (hn _ _ ?_); clear hn next hk2; have t0:=cr 0 hB5; have tl:=za hB5; have tf:=zi hB5 0; simp at t0
   obtain⟨S1,hS1⟩:∃V,w5.setCell ⟨tb,0,none⟩ (.slice A5 (vl+1) k5)=V:=⟨_,rfl⟩
   have HT6:Hid (zgK V2 S1 tb (.slice A5 (vl+1) k5) (vs++[.slice A1 zu.length k1]) (ss++[zu])):=zh (by rw[←hS1];exact ht5); have HL6:Hid ((vs++[Value.slice A1 zu.length k1]).length=vl+1):=zh (by rw[List.length_append,HL.out];rfl); have HIS6:=zh (HIS.out.next (by rw[HT.out.len,HL.out]) HPG.out HSU.out); clear ht5 ho5 hg5 hat5 hB5; (repeat first|refine yq ?_|refine yr ?_)
   refine vU fun next hn=>?_;simp only[pick,yp]; go_wp2_with fail; refine zk (fun _=>trivial) (hn _ _ ?_); clear hn next; refine zv ?_; try simp only[hS1]
   clear hS1 t0 tl tf; go_wp2_with fail; go_roundw
   case rel=>exact⟨vl+1,_,_,_,by go_num,by omega,HL6,HT6,HIS6⟩
   case measure=>simp[intOf];omega
  ·obtain rfl:i=m:=by omega
   obtain⟨A0,k0,rfl,_⟩:=zW HT.out.own
   obtain⟨vl,hvl⟩:∃l,vs.length=l:=⟨_,rfl⟩
   obtain rfl:vl=i:=by rw[←hvl];exact HL.out
   rw[hvl]at HT
   have hB2:=zb HRB.out (HV2.out.trans HX.out); have T3:zA (fun k=>k=b1+1) wr (wr.setCell ⟨b1+1,0,none⟩ (.slice A0 vl k0)):=zA.set1 _ _ _; have HX3:Hid (Ext w (wr.setCell ⟨b1+1,0,none⟩ (.slice A0 vl k0))):=zh (T3.ext (HX2.out.trans (HV2.out.trans HX.out)) (fun k hk=>by have:=HRL.out;omega)); have ho3:=xF hB2 T3 HT.out.own (by decide)
   rw[hvl]at ho3
   have HTR:Hid (∃tg,A0=some ⟨tg,0,none⟩∧zcw (wr.setCell ⟨b1+1,0,none⟩ (.slice A0 vl k0)) tg 0 g.gm):=zh (by
    obtain⟨A,c,hA,hc,_⟩:=zW ho3
    injection hA with hA _ _; subst hA
    obtain⟨tg,rfl,_,htl⟩:=QB ho3 (by omega)
    obtain⟨g',og,hg',hgl,hcc⟩:=hc (by rw[hvl];omega)
    injection hg' with hg'; injection hg' with a1 a2; subst a1 a2
    refine⟨tg,rfl,hgl,zZ ho3 tg rfl,fun j p hj=>?_⟩
    have hjl:j < vl:=by
     have:=(List.getElem?_eq_some_iff.1 hj).1
     have h2:=HM.out; simp only[Gr.gm,List.length_map]at this
     omega
    obtain⟨us,hus,hso⟩:=HIS.out j p hjl hj
    obtain⟨u,hu⟩:∃u,vs[j]?=some u:=⟨_,List.getElem?_eq_getElem (by omega)⟩
    exact⟨u,us,hcc j u hu,(HT.out.strs j u us hu hus).turn T3 (fun g cs hg he=>zU hg hB2 (by decide) he),hso⟩)
   have t0:=cr 0 HT.out.blk; have tl:=za HT.out.blk; have r0:=cr 0 hB2; have rl:=za hB2; have rf:=zi hB2 0; have f0:=cr 0 (zn (k:=0) hB2 (.slice A0 vl k0))
   obtain⟨S3,hS3⟩:∃V,wr.setCell ⟨b1+1,0,none⟩ (.slice A0 vl k0)=V:=⟨_,rfl⟩
   rw[hS3]at HX3 HTR f0
   simp at t0 r0 f0
   clear hB2 T3 ho3 hvl
   obtain⟨tg,rfl,htab⟩:=HTR.out
   have HTAB:=zh htab; clear htab HTR; go_wp2_with fail; exact bodyPost_ret (v:=.agg #[.slice (some ⟨tg,0,none⟩) vl k0]) (by simp[results,Tryz.results55,go_sem, *]) rfl ⟨tg,0,k0,rfl,HTAB.out,HX3.out⟩
def Cf (g:Gm)(a b:Nat):Prop:=∃p q x,g.prods[a]?=some p∧g.prods[b]?=some q∧p.left=q.left∧jh g p x∧jh g q x
theorem Vp {g:Gm}:vd g↔∀a b:Nat,a < b→¬Cf g a b:=by
 constructor
 ·rintro h a b hab ⟨p,q,x,hp,hq,hl,h1,h2⟩
  have:=h a b p q x hp hq hl h1 h2
  omega
 ·intro h i j p q x hp hq hl h1 h2; apply Classical.byContradiction
  intro hne; rcases Nat.lt_or_gt_of_ne hne with hlt|hlt
  ·exact h i j hlt ⟨p,q,x,hp,hq,hl,h1,h2⟩
  ·exact h j i hlt ⟨q,p,x,hq,hp,hl.symm,h2,h1⟩
def lfN (g:Gm)(a:Nat):Nat:=((g.prods[a]?).map fun p=>p.left.toNat).getD 0
def ziS (g:Gm)(l:Nat):Prop:=∀a b,a < b→lfN g a < l→¬Cf g a b
def ziN (g:Gm)(l a0:Nat):Prop:=∀a b,a < b→a < a0→lfN g a=l→¬Cf g a b
def zhW (g:Gm)(l a b0:Nat):Prop:=∀b,a < b→b < b0→lfN g a=l→¬Cf g a b
theorem Cf.lt {g:Gm}{a b:Nat}(h:Cf g a b):a < g.prods.length∧b < g.prods.length:=by
 obtain⟨p,q,x,hp,hq,_⟩:=h
 exact⟨(List.getElem?_eq_some_iff.1 hp).1,(List.getElem?_eq_some_iff.1 hq).1⟩
theorem ziN.next {g:Gm}{l a:Nat}(h:ziN g l a)(h':zhW g l a g.prods.length):ziN g l (a+1):=by
 intro a' b hab ha hl hc; by_cases h1:a'=a
 ·subst h1; exact h' b hab hc.lt.2 hl hc
 ·exact h a' b hab (by omega) hl hc
theorem ziS.next {g:Gm}{l:Nat}(h:ziS g l)(h':ziN g l g.prods.length):ziS g (l+1):=by
 intro a b hab hl hc; by_cases h1:lfN g a=l
 ·exact h' a b hab hc.lt.1 h1 hc
 ·exact h a b hab (by omega) hc
theorem zhW.next {g:Gm}{l a b:Nat}(h:zhW g l a b)(h':lfN g a=l→¬Cf g a b):zhW g l a (b+1):=by
 intro b' hab hb hl hc; by_cases h1:b'=b
 ·subst h1; exact h' hl hc
 ·exact h b' hab (by omega) hl hc
theorem zf2 {g:Gm}(hg:VE g){n:Nat}(hn:g.nons=n)(h:ziS g n):vd g:=by
 rw[Vp]
 intro a b hab hc; refine h a b hab ?_ hc
 obtain⟨p,q,x,hp,_⟩:=hc
 unfold lfN
 rw[hp]
 have:=hg.left p (List.mem_of_getElem? hp)
 show p.left.toNat < n; omega
def zie (w:World)(P:Prop)(e:Ending)(w':World):Prop:=∃(x y z:Int) (s:ByteArray) (is:Bool),e=.returned (.tuple #[.agg #[.int .i64 x,.int .i64 y,.int .i64 z,.string s],.bool is])∧(is=true↔P)∧Ext w w'
set_option maxRecDepth 100000 in
set_option maxHeartbeats 4000000 in
theorem JZ (g:Gr)(n tg tt tc:Nat)(w:World)(h:jC w g)(h0:yY g=0)(hn:g.nons=n)(ht:zcw w tg tt g.gm):Calls Tryz.prog 56 #[grV g,.agg #[.slice (some ⟨tg,tt,none⟩) g.prods.length tc]] w (zie w (¬vd g.gm)):=by
 have HGO:=zh (YJ h0)
 obtain⟨hT,hN,hK,hP1,hP2⟩:=yk h0
 obtain⟨b1,W1,hb1,hW1,X1,GA,GO⟩:=xM g w h
 obtain⟨m,hm⟩:∃m,g.prods.length=m:=⟨_,rfl⟩
 have HM:=zh hm
 rw[hm]at hP1 hP2 hW1
 obtain⟨W2,hW2⟩:∃V,W1.alloc (.cells #[.slice (some ⟨tg,tt,none⟩) m tc] 40)=V:=⟨_,rfl⟩
 have x12:Ext W1 W2:=by rw[←hW2];exact xi
 have hgs:W1.heap.size=b1+1:=by rw[←hW1,←hb1];simp
 have hB2:W2.heap[b1+1]?=some (.cells #[.slice (some ⟨tg,tt,none⟩) m tc] 40):=by rw[←hW2,←hgs];exact heap_alloc_new _ _
 have hgs2:W2.heap.size=b1+2:=by rw[←hW2];simp;omega
 obtain⟨W3,hW3⟩:∃V,W2.alloc (.cells #[.int .i64 0,.int .i64 0,.int .i64 0,.string ⟨#[]⟩] 75)=V:=⟨_,rfl⟩
 have x23:Ext W2 W3:=by rw[←hW3];exact xi
 have HCB:Hid (W3.heap[b1+2]?=some (.cells #[.int .i64 0,.int .i64 0,.int .i64 0,.string ⟨#[]⟩] 75)):=zh (by rw[←hW3,←hgs2];exact heap_alloc_new _ _); have HTB:=zh (zb hB2 x23); have HL:Hid (w.heap.size=b1):=zh hb1; have HG3:=zh (GA.ext (x12.trans x23)); have HO3:=zh (GO.ext (x12.trans x23)); have HX3:=zh (X1.trans (x12.trans x23)); have HTG:=zh (ht.ext (X1.trans (x12.trans x23))); have H0:=zh h0; have HNN:=zh hn; have hn16:1≤n∧n≤16:=by omega
 unfold grV
 rw[hm]
 clear h X1 GA GO h0 hn hm x12 x23 hB2 ht; go_in
 go_upto_region 1 with fail; try simp only[hb1]
 try simp only[hW1]
 try simp only[hgs]
 try simp only[hW2]
 try simp only[hgs2]
 try simp only[hW3]
 clear hb1 hW1 hgs hW2 hgs2 hW3; go_wp2_with fail; go_loopw [6] (fun lv wr=>∃l:Nat,lv=.int .i64 l∧l≤n∧Hid (ziS g.gm l)∧Hid (Ext W3 wr)) (fun lv _=>n - (intOf lv).toNat)
 case atStart=>exact⟨0,rfl,Nat.zero_le _,zh (fun a b _ h=>by omega),zh (Ext.refl _)⟩
 case round=>
  obtain⟨l,rfl,hl,HN1,HX⟩:=hrel
  obtain⟨e0,e1,e2,e3,el⟩:=HG3.out.ext HX.out
  rw[HNN.out]at e1
  by_cases hll:l < n
  ·go_wp2_with fail; clear e0 e1 e2 e3 el; go_loopw [7] (fun av wr=>∃a:Nat,av=.int .i64 a∧a≤m∧Hid (ziN g.gm l a)∧Hid (Ext W3 wr)) (fun av _=>m - (intOf av).toNat)
   case atStart=>exact⟨0,rfl,Nat.zero_le _,zh (fun a b _ h=>by omega),HX⟩
   case round=>
    clear HX
    obtain⟨a,rfl,ha,HN2,HX⟩:=hrel
    obtain⟨e0,e1,e2,e3,el⟩:=HG3.out.ext HX.out
    rw[HM.out]at e3
    by_cases hla:a < m
    ·go_wp2_with fail; clear e0 e1 e2 e3 el; go_loopw [8] (fun bv wr=>∃b:Nat,bv=.int .i64 b∧a < b∧b≤m∧Hid (zhW g.gm l a b)∧Hid (Ext W3 wr)) (fun bv _=>m - (intOf bv).toNat)
     case atStart=>exact⟨a+1,by go_num,by omega,by omega,zh (fun b h1 h2=>by omega),HX⟩
     case round=>
      clear HX
      obtain⟨b,rfl,hab,hb,HN3,HX⟩:=hrel
      obtain⟨e0,e1,e2,e3,el⟩:=HG3.out.ext HX.out
      rw[HM.out]at e3
      by_cases hlb:b < m
      ·obtain⟨p,hp⟩:∃p,g.prods[a]?=some p:=⟨_,List.getElem?_eq_getElem (by have:=HM.out;omega)⟩
       obtain⟨q,hq⟩:∃p,g.prods[b]?=some p:=⟨_,List.getElem?_eq_getElem (by have:=HM.out;omega)⟩
       obtain⟨pg,po,hA,pl,d0,d1,_⟩:=(HO3.out.ext HX.out).prd hp
       obtain⟨pg',po',hA',pl',d0',d1',_⟩:=(HO3.out.ext HX.out).prd hq
       rw[hA]at hA'
       injection hA' with hA'; injection hA' with a1 a2; subst a1 a2
       rw[hA]at e3
       have HPG:=zh (vO hp); have HQG:=zh (vO hq); have hpi:=(je H0.out hp).left; have hqi:=(je H0.out hq).left
       obtain⟨pleft,rA,rc,pr⟩:=p
       obtain⟨qleft,rA',rc',qr⟩:=q
       dsimp only at d0 d0' hpi hqi; have HLF:Hid (lfN g.gm a=pleft.toNat):=zh (by unfold lfN;rw[HPG.out];rfl); clear hp hq hA d1 d1'; by_cases hc:pleft=l∧qleft=l
       ·obtain⟨rfl,rfl⟩:=hc
        obtain⟨ua,sa,u0,hsa,oka⟩:=(HTG.out.ext HX.out).at_ a _ HPG.out
        obtain⟨ub,sb,u1,hsb,okb⟩:=(HTG.out.ext HX.out).at_ b _ HQG.out
        have ul:=(HTG.out.ext HX.out).lt
        obtain⟨Aa,ca,rfl⟩:=hsa.size
        obtain⟨Ab,cb,rfl⟩:=hsb.size
        obtain⟨na,hna⟩:∃k,sa.length=k:=⟨_,rfl⟩
        have HNA:=zh hna; have HSA:=zh hsa; have HSB:=zh hsb; have HKA:=zh oka; have HKB:=zh okb; have hna1:na≤1000:=by rw[←hna];exact oka.len
        rw[hna]at u0
        have f1:((l:Int) !=(l:Int))=false:=by simp
        have HU:Hid (∀w1,Ext wr w1→w1.cell? ⟨tg,tt+a,none⟩=some (.slice Aa na ca)∧w1.cell? ⟨tg,tt+b,none⟩=some (.slice Ab sb.length cb)∧tg < w1.heap.size):=zh (fun w1 e=>⟨zy u0 ul e,zy u1 ul e,Nat.lt_of_lt_of_le ul e.size⟩); clear hna hsa hsb oka okb; go_wp2_with fail; clear e0 e1 e2 e3 el d0 d0' pl pl' u0 u1 ul f1; go_loopw [9] (fun iv wk=>∃i:Nat,iv=.int .i64 i∧i≤na∧Hid (∀x∈sa.take i,¬jh g.gm ⟨(l:Int),qr⟩ (rb x))∧Hid (Ext wr wk)) (fun iv _=>na - (intOf iv).toNat)
        case atStart=>exact⟨0,rfl,Nat.zero_le _,zh (fun x hx=>by simp at hx),zh (Ext.refl _)⟩
        case round=>
         obtain⟨i,rfl,hi,HNO,HY⟩:=hrel
         have HXY:=zh (HX.out.trans HY.out)
         obtain⟨u0,u1,ul⟩:=HU.out _ HY.out
         have hTB:=zb HTB.out HXY.out; have t0:=cr 0 hTB; have tl:=za hTB; simp at t0
         clear hTB; by_cases hli:i < na
         ·obtain⟨x,hx⟩:∃x,sa[i]?=some x:=⟨_,List.getElem?_eq_getElem (by have:=HNA.out;omega)⟩
          obtain⟨ga,oa,hAa,la,z0⟩:=(HSA.out.ext HY.out).get hx
          subst hAa; have HXI:=zh hx
          obtain⟨r,hr⟩:∃r:Bool,r=true↔x∈sb:=by
           by_cases hm:x∈sb
           ·exact⟨true,⟨fun _=>hm,fun _=>rfl⟩⟩
           ·exact⟨false,⟨fun h=>(by cases h),fun h=>absurd h hm⟩⟩
          have HRR:=zh hr; have HHS:=zh (fun w1 e=>VB Ab cb sb x w1 ((HSB.out.ext e).cells.2.1) (by have:=HKB.out.len;omega) r hr); clear hx hr; go_upto_region 14 with fail; refine zg (14) (zd [0,2,5,7,10] (zj [1,3,4,6,8,9,11,12] (.step 13 .fin))) (by kernel_rfl) (by kernel_rfl) ?_; (repeat first|refine yq ?_|refine yr ?_)
          refine zp fun next hn=>?_;simp only[pick,yp]; go_wp2_with fail
          refine(HHS.out _ (HY.out.trans xi)).mono ?_
          rintro e' W6 ⟨rfl,hx6⟩; have HY6:Hid (Ext wr W6):=zh (Ext.trans xi hx6); clear hx6 HHS; go_wp2_with fail; refine zk (fun _=>yZ HY6.out) (hn _ _ ?_); clear hn next u0 u1 ul t0 tl la z0; refine zv ?_; have HX6:=zh (HXY.out.trans HY6.out); cases r with
          |false=>
           go_wp2_with fail; go_roundw
           case rel=>exact⟨i+1,by go_num,by omega,zh (fun y hy hlk=>by
            rw[List.take_add_one,HXI.out]at hy
            rcases List.mem_append.1 hy with hy|hy
            ·exact HNO.out y hy hlk
            ·simp at hy
             subst hy
             obtain⟨z,hz,he⟩:=List.mem_map.1 ((HKB.out.mem _).2 hlk)
             have h1:=HRR.out.2 (by rw[←zhv he];exact hz); cases h1),zh (HY.out.trans HY6.out)⟩
           case measure=>simp[intOf];omega
          |true=>
           have HCF:Hid (¬vd g.gm):=zh (fun hst=>Vp.1 hst a b hab ⟨_,_,rb x,HPG.out,HQG.out,rfl,(HKA.out.mem _).1 (List.mem_map.2 ⟨x,List.mem_of_getElem? HXI.out,rfl⟩),(HKB.out.mem _).1 (List.mem_map.2 ⟨x,HRR.out.1 rfl,rfl⟩)⟩)
           obtain⟨u0,u1,ul⟩:=HU.out _ (HY.out.trans HY6.out)
           have hTB:=zb HTB.out HX6.out; have t0:=cr 0 hTB; have tl:=za hTB; simp at t0
           obtain⟨ga',oa',hAa,la,z9⟩:=(HSA.out.ext (HY.out.trans HY6.out)).get HXI.out
           injection hAa with hAa; injection hAa with a1 a2; subst a1 a2; clear hTB; have hC3:=zb HCB.out HX6.out; have P4:=yE hC3 (.int .i64 l) (.int .i64 a) (.int .i64 b) (.string x); have HX4:Hid (Ext w (yX W6 (b1+2) (.int .i64 l) (.int .i64 a) (.int .i64 b) (.string x))):=zh ((yg (S:=fun k=>k=b1+2) rfl _ _ _ _).ext (HX3.out.trans HX6.out) (fun k hk=>by have:=HL.out;omega))
           obtain⟨W4,hW4⟩:∃W4,yX W6 (b1+2) (.int .i64 l) (.int .i64 a) (.int .i64 b) (.string x)=W4:=⟨_,rfl⟩
           rw[hW4]at P4 HX4
           have z0:=cr 0 hC3; have z1:=cr 1 hC3; have z2:=cr 2 hC3; have z3:=cr 3 hC3; have zl:=za hC3; have zf:=fun k=>zi hC3 k; have f0:=cr 0 P4; have f1:=cr 1 P4; have f2:=cr 2 P4; have f3:=cr 3 P4; simp at z0 z1 z2 z3 f0 f1 f2 f3
           unfold yX y8 put2 at hW4; clear hC3 P4; go_wp2_with fail; exact bodyPost_ret (v:=.tuple #[.agg #[.int .i64 l,.int .i64 a,.int .i64 b,.string x],.bool true]) (by simp[results,Tryz.results56,go_sem, *]) rfl ⟨l,a,b,x,true,rfl,⟨fun _=>HCF.out,fun _=>rfl⟩,HX4.out⟩
         ·obtain rfl:i=na:=by omega
          have HN4:Hid (zhW g.gm l a (b+1)):=zh (HN3.out.next (fun _ hcf=>by
           obtain⟨p',q',x,hp',hq',hl',h1,h2⟩:=hcf
           rw[HPG.out]at hp'
           rw[HQG.out]at hq'
           injection hp' with hp'; injection hq' with hq'; subst hp' hq'
           obtain⟨y,hy,rfl⟩:=List.mem_map.1 ((HKA.out.mem _).2 h1)
           exact HNO.out y (by rw[List.take_of_length_le (by have:=HNA.out;omega)];exact hy) h2))
          go_wp2_with fail; go_roundw
          case rel=>exact⟨b+1,by go_num,by omega,by omega,HN4,HXY⟩
          case measure=>simp[intOf];omega
       ·have HN4:Hid (zhW g.gm l a (b+1)):=zh (HN3.out.next (fun hlf hcf=>by
         obtain⟨p',q',x,hp',hq',hl',_⟩:=hcf
         rw[HPG.out]at hp'
         rw[HQG.out]at hq'
         injection hp' with hp'; injection hq' with hq'; subst hp' hq'; have h1:=HLF.out; have h2:pleft=qleft:=hl'; apply hc
         omega))
        by_cases hc1:pleft=l
        ·have f1:(pleft !=(l:Int))=false:=by simp[hc1]
         have f2:(qleft !=(l:Int))=true:=by simp;intro h;exact hc ⟨hc1,h⟩
         clear hc hc1; go_wp2_with fail; go_roundw
         case rel=>exact⟨b+1,by go_num,by omega,by omega,HN4,HX⟩
         case measure=>simp[intOf];omega
        ·have f1:(pleft !=(l:Int))=true:=by simpa using hc1
         clear hc hc1; go_wp2_with fail; go_roundw
         case rel=>exact⟨b+1,by go_num,by omega,by omega,HN4,HX⟩
         case measure=>simp[intOf];omega
      ·obtain rfl:b=m:=by omega
       have HN4:Hid (ziN g.gm l (a+1)):=zh (HN2.out.next (by rw[show g.gm.prods.length=b by rw[←HM.out];simp[Gr.gm]];exact HN3.out)); go_wp2_with fail; go_roundw
       case rel=>exact⟨a+1,by go_num,by omega,HN4,HX⟩
       case measure=>simp[intOf];omega
    ·obtain rfl:a=m:=by omega
     have HN4:Hid (ziS g.gm (l+1)):=zh (HN1.out.next (by rw[show g.gm.prods.length=a by rw[←HM.out];simp[Gr.gm]];exact HN2.out)); go_wp2_with fail; go_roundw
     case rel=>exact⟨l+1,by go_num,by omega,HN4,HX⟩
     case measure=>simp[intOf];omega
  ·obtain rfl:l=n:=by omega
   have HST:=zh (zf2 HGO.out HNN.out HN1.out); have hC3:=zb HCB.out HX.out; have P4:=yE hC3 (.int .i64 0) (.int .i64 0) (.int .i64 0) (.string ⟨#[]⟩); have HX4:Hid (Ext w (yX wr (b1+2) (.int .i64 0) (.int .i64 0) (.int .i64 0) (.string ⟨#[]⟩))):=zh ((yg (S:=fun k=>k=b1+2) rfl _ _ _ _).ext (HX3.out.trans HX.out) (fun k hk=>by have:=HL.out;omega))
   obtain⟨W4,hW4⟩:∃W4,yX wr (b1+2) (.int .i64 0) (.int .i64 0) (.int .i64 0) (.string ⟨#[]⟩)=W4:=⟨_,rfl⟩
   rw[hW4]at P4 HX4
   have z0:=cr 0 hC3; have z1:=cr 1 hC3; have z2:=cr 2 hC3; have z3:=cr 3 hC3; have zl:=za hC3; have zf:=fun k=>zi hC3 k; have f0:=cr 0 P4; have f1:=cr 1 P4; have f2:=cr 2 P4; have f3:=cr 3 P4; simp at z0 z1 z2 z3 f0 f1 f2 f3
   unfold yX y8 put2 at hW4; clear hC3 P4; go_wp2_with fail; exact bodyPost_ret (v:=.tuple #[.agg #[.int .i64 0,.int .i64 0,.int .i64 0,.string ⟨#[]⟩],.bool false]) (by simp[results,Tryz.results56,go_sem, *]) rfl ⟨0,0,0,⟨#[]⟩,false,rfl,⟨fun h=>(by cases h),fun h=>absurd HST.out h⟩,HX4.out⟩
theorem zbd {P:Program}{C:World→Prop}{l:List Oper}{s:Nat}{Q:Act→World→Prop}{t u:Bt}{a:Act}{w:World}(h1:BtW P l C s Q t a w)(h2:BtW P l C s Q u a w):BtW P l C s Q (.two t u) a w:=⟨⟨h1.out,h2.out⟩⟩
theorem zki {W7:World}{g0:Nat}{v0 a0 a1 a2 a3:Value}(hB7:W7.heap[g0+1]?=some (.cells #[v0] 40))(hC7:W7.heap[g0+2]?=some (.cells #[a0,a1,a2,a3] 75))(tv c0 c1 c2 c3:Value):
 ∃W8 W9,W7.setCell ⟨g0+1,0,none⟩ tv=W8∧(((W8.setCell ⟨g0+2,0,none⟩ c0).setCell ⟨g0+2,1,none⟩ c1).setCell ⟨g0+2,2,none⟩ c2).setCell ⟨g0+2,3,none⟩ c3=W9∧W8.heap[g0+2]?=some (.cells #[a0,a1,a2,a3] 75)∧W9.heap[g0+2]?=some (.cells #[c0,c1,c2,c3] 75)∧W9.heap[g0+1]?=some (.cells #[tv] 40)∧zA (fun k=>k=g0+1∨k=g0+2) W7 W9∧zA (fun k=>k=g0+1) W7 W8:=by
 have hB8:=zn (k:=0) hB7 tv; have hC8:=zY (k:=0) (g:=g0+1) hC7 (by omega) tv; have P9:=yE hC8 c0 c1 c2 c3; have T78:zA (fun k=>k=g0+1∨k=g0+2) W7 (W7.setCell ⟨g0+1,0,none⟩ tv):=zA.setCell _ (p:=⟨g0+1,0,none⟩) (.inl rfl) _; have T89:zA (fun k=>k=g0+1∨k=g0+2) (W7.setCell ⟨g0+1,0,none⟩ tv) (yX (W7.setCell ⟨g0+1,0,none⟩ tv) (g0+2) c0 c1 c2 c3):=yg (S:=fun k=>k=g0+1∨k=g0+2) (.inr rfl) _ _ _ _; have T89':zA (fun k=>k=g0+2) (W7.setCell ⟨g0+1,0,none⟩ tv) (yX (W7.setCell ⟨g0+1,0,none⟩ tv) (g0+2) c0 c1 c2 c3):=yg (S:=fun k=>k=g0+2) rfl _ _ _ _
 exact⟨_,_,rfl,rfl,hC8,P9,T89'.keep (by simpa using hB8) (by omega),T78.trans T89,zA.set1 _ _ _⟩
def zj9 (w:World)(m:Nat)(g:Gm)(e:Ending)(w':World):Prop:=∃(er:Int) (tv:Value) (x y z:Int) (s:ByteArray),e=.returned (.tuple #[.agg #[tv],.agg #[.int .i64 x,.int .i64 y,.int .i64 z,.string s],.int .i64 er])∧(er=0↔vd g)∧(er=0→∃tg tt tc,tv=.slice (some ⟨tg,tt,none⟩) m tc∧zcw w' tg tt g)∧Ext w w'
set_option maxRecDepth 100000 in
set_option maxHeartbeats 4000000 in
theorem Qi (g:Gr)(n k:Nat)(w:World)(h:jC w g)(h0:yY g=0)(hn:g.nons=n)(hk:g.k=k):Calls Tryz.prog 24 #[grV g] w (zj9 w g.prods.length g.gm):=by
 have HTA:=zh (fun w1 h1=>zdP g n k w1 h1 h0 hn hk); have HCO:=zh (fun tg tt tc w1 h1 ht=>JZ g n tg tt tc w1 h1 h0 hn ht); have HCK:=zh (fun w1 h1=>xL g w1 h1)
 rw[h0]at HCK
 obtain⟨hT,hN,hK,hP1,hP2⟩:=yk h0
 obtain⟨b1,W1,hb1,hW1,X1,GA,GO⟩:=xM g w h
 obtain⟨m,hm⟩:∃m,g.prods.length=m:=⟨_,rfl⟩
 have HM:=zh hm
 rw[hm]at hP1 hP2 hW1
 obtain⟨W2,hW2⟩:∃V,W1.alloc (.cells #[zH] 40)=V:=⟨_,rfl⟩
 have x12:Ext W1 W2:=by rw[←hW2];exact xi
 have hgs:W1.heap.size=b1+1:=by rw[←hW1,←hb1];simp
 have hB2:W2.heap[b1+1]?=some (.cells #[zH] 40):=by rw[←hW2,←hgs];exact heap_alloc_new _ _
 have hgs2:W2.heap.size=b1+2:=by rw[←hW2];simp;omega
 obtain⟨W3,hW3⟩:∃V,W2.alloc (.cells #[.int .i64 0,.int .i64 0,.int .i64 0,.string ⟨#[]⟩] 75)=V:=⟨_,rfl⟩
 have x23:Ext W2 W3:=by rw[←hW3];exact xi
 have HCB:Hid (W3.heap[b1+2]?=some (.cells #[.int .i64 0,.int .i64 0,.int .i64 0,.string ⟨#[]⟩] 75)):=zh (by rw[←hW3,←hgs2];exact heap_alloc_new _ _); have HTB:=zh (zb hB2 x23); have HL:Hid (w.heap.size=b1):=zh hb1; have HG3:=zh (GA.ext (x12.trans x23)); have HO3:=zh (GO.ext (x12.trans x23)); have HX3:=zh (X1.trans (x12.trans x23)); unfold grV at HTA HCO HCK ⊢
 rw[hm]at HTA HCO HCK ⊢
 clear h X1 GA GO h0 hn hm hk x12 x23 hB2; go_in
 go_upto_region 1 with fail; try simp only[hb1]
 try simp only[hW1]
 try simp only[hgs]
 try simp only[hW2]
 try simp only[hgs2]
 try simp only[hW3]
 clear hb1 hW1 hgs hW2 hgs2 hW3
 obtain⟨e0,e1,e2,e3,el⟩:=HG3.out
 rw[HM.out]at e3
 go_wp2_with fail
 refine(HCK.out _ HO3.out).mono ?_
 rintro e' W4 ⟨rfl,x4⟩; have HX4:Hid (Ext W3 W4):=zh x4; clear e0 e1 e2 e3 el x4 HCK
 obtain⟨e0,e1,e2,e3,el⟩:=HG3.out.ext HX4.out
 rw[HM.out]at e3
 go_wp2_with fail
 refine(HTA.out _ (HO3.out.ext HX4.out)).mono ?_
 rintro e' W5 ⟨tg,tt,tc,rfl,htg,x5⟩; have HX5:Hid (Ext W3 W5):=zh (HX4.out.trans x5); have HTG:=zh htg; clear e0 e1 e2 e3 el x5 htg HTA HX4
 obtain⟨e0,e1,e2,e3,el⟩:=HG3.out.ext HX5.out
 rw[HM.out]at e3
 obtain⟨sb,hsb⟩:∃b,W5.heap.size=b:=⟨_,rfl⟩
 obtain⟨V1,hV1⟩:∃V,W5.alloc (.cells #[zH] 40)=V:=⟨_,rfl⟩
 obtain⟨V2,hV2⟩:∃V,V1.setCell ⟨sb,0,none⟩ (.slice (some ⟨tg,tt,none⟩) m tc)=V:=⟨_,rfl⟩
 have hS1:V1.heap[sb]?=some (.cells #[zH] 40):=by rw[←hV1,←hsb];exact heap_alloc_new _ _
 have hS2:V2.heap[sb]?=some (.cells #[.slice (some ⟨tg,tt,none⟩) m tc] 40):=by rw[←hV2];exact zn hS1 _
 have x52:Ext W5 V2:=by rw[←hV2];exact(Ext.setCell (show Ext W5 V1 from by rw[←hV1];exact xi) (by show _≤sb;omega) _)
 have HX6:=zh (HX5.out.trans x52); have HT6:=zh (HTG.out.ext x52); have HS6:=zh hS2; have s0:=cr 0 hS1; have sl:=za hS1; have sf:=zi hS1 0; simp at s0
 go_upto_region 5 with fail; try simp only[hsb]
 try simp only[hV1]
 try simp only[hV2]
 clear hsb hV1 hV2 hS1 hS2 s0 sl sf x52 e0 e1 e2 e3 el HTG
 obtain⟨e0,e1,e2,e3,el⟩:=HG3.out.ext HX6.out
 rw[HM.out]at e3
 have s0:=cr 0 HS6.out; have sl:=za HS6.out; simp at s0
 have HCC:=zh (HCO.out tg tt tc V2 (HO3.out.ext HX6.out) HT6.out); go_wp2_with fail; refine HCC.out.mono ?_; rintro e' W7 ⟨x,y,z,s,is,rfl,hst,x7⟩; have HX7:=zh (HX6.out.trans x7); have HST:=zh hst; have hT7:=HT6.out.ext x7; have hS7:=zb HS6.out x7; clear e0 e1 e2 e3 el x7 HCC HCO s0 sl hst
 obtain⟨cb,hcb⟩:∃ob,W7.heap.size=ob:=⟨_,rfl⟩
 obtain⟨W7a,hW7a⟩:∃V,W7.alloc (.cells #[.int .i64 0,.int .i64 0,.int .i64 0,.string ⟨#[]⟩] 75)=V:=⟨_,rfl⟩
 have hD7:W7a.heap[cb]?=some (.cells #[.int .i64 0,.int .i64 0,.int .i64 0,.string ⟨#[]⟩] 75):=by rw[←hW7a,←hcb];exact heap_alloc_new _ _
 obtain⟨W8,hW8⟩:∃W4,yX W7a cb (.int .i64 x) (.int .i64 y) (.int .i64 z) (.string s)=W4:=⟨_,rfl⟩
 have X78:Ext W7 W8:=by rw[←hW8];exact(yg (S:=fun k=>k=cb) rfl _ _ _ _).ext (show Ext W7 W7a from by rw[←hW7a];exact xi) (fun k hk=>by omega)
 have HD8:Hid (W8.heap[cb]?=some (.cells #[.int .i64 x,.int .i64 y,.int .i64 z,.string s] 75)):=zh (by rw[←hW8];exact yE hD7 _ _ _ _); have HX8:=zh (HX7.out.trans X78); have HS8:=zh (zb hS7 X78); have HT8:=zh (hT7.ext X78); have HCLE:Hid (b1+2 < cb):=zh (by have:=za (zb HCB.out HX7.out);omega); have z0:=cr 0 hD7; have z1:=cr 1 hD7; have z2:=cr 2 hD7; have z3:=cr 3 hD7; have zl:=za hD7; have zf:=fun k=>zi hD7 k; simp at z0 z1 z2 z3
 unfold yX y8 put2 at hW8; go_upto_region 6 with fail; try simp only[hcb]
 try simp only[hW7a]
 try simp only[hW8]
 clear hcb hW7a hW8 hD7 z0 z1 z2 z3 zl zf hT7 hS7 X78; cases is with
 |true=>
  go_upto_region 7 with fail
  obtain⟨V8,hV8⟩:∃V,W8.drew=V:=⟨_,rfl⟩
  have x8:Ext W8 V8:=by rw[←hV8];exact xi
  obtain⟨W9,W10,hW9,hW10,hC9,hC10,hB10,T10,T9⟩:=zki (zb (zb HTB.out HX8.out) x8) (zb (zb HCB.out HX8.out) x8) zH (.int .i64 x) (.int .i64 y) (.int .i64 z) (.string s)
  have hD8:=zb HD8.out x8; have hD9:=T9.keep hD8 (by have:=HCLE.out;omega); have HXF:Hid (Ext w W10):=zh (T10.ext (HX3.out.trans (HX8.out.trans x8)) (fun k hk=>by have:=HL.out;omega)); have hB8:=zb (zb HTB.out HX8.out) x8; have q0:=cr 0 hB8; have ql:=za hB8; have qf:=zi hB8 0; have c0:=cr 0 hC9; have c1:=cr 1 hC9; have c2:=cr 2 hC9; have c3:=cr 3 hC9; have cl:=za hC9; have cf:=fun k=>zi hC9 k; have d0:=cr 0 hD8; have d1:=cr 1 hD8; have d2:=cr 2 hD8; have d3:=cr 3 hD8; have dl:=za hD8; have f0:=cr 0 hD9; have f1:=cr 1 hD9; have f2:=cr 2 hD9; have f3:=cr 3 hD9; have fl:=za hD9; have r0:=cr 0 hC10; have r1:=cr 1 hC10; have r2:=cr 2 hC10; have r3:=cr 3 hC10; have rl:=za hC10; have t0:=cr 0 hB10; have tl:=za hB10; simp at q0 c0 c1 c2 c3 d0 d1 d2 d3 f0 f1 f2 f3 r0 r1 r2 r3 t0
  clear hB8 hC9 hD8 hD9 hC10 hB10 T10 T9; go_upto_region 7 with fail; refine zg (2) (zd [0] (.two (.step 1 (.step 2 (.late 3 (zd [4] .fin)))) (.step 2 (.late 1 (.late 3 (zd [4] .fin)))))) (by kernel_rfl) (by kernel_rfl) ?_; try simp only[hV8]
  refine yq ?_; refine zbd ?_ ?_
  ·refine zp fun next hn=>?_;simp only[pick,yp]; go_wp2_with fail; refine zk (fun _=>yZ x8) (hn _ _ ?_); clear hn next; refine zp fun next hn=>?_;simp only[pick,yp]; go_wp2_with fail; refine zk (fun h=>absurd rfl h) (hn _ _ ?_); clear hn next; try simp only[hW9]
   refine vU fun next hn=>?_;simp only[pick,yp]; go_wp2_with fail; refine zk (fun _=>trivial) (hn _ _ ?_); clear hn next; try simp only[hW10]
   refine yq ?_; refine zv ?_; go_wp2_with fail; exact bodyPost_ret (v:=.tuple #[.agg #[zH],.agg #[.int .i64 x,.int .i64 y,.int .i64 z,.string s],.int .i64 9]) (by simp[results,Tryz.results24,go_sem, *]) rfl ⟨9,zH,x,y,z,s,rfl,⟨fun h=>by omega,fun h=>absurd h (HST.out.1 (by simp))⟩,fun h=>by omega,HXF.out⟩
  ·refine zp fun next hn=>?_;simp only[pick,yp]; go_wp2_with fail; refine zk (fun h=>absurd rfl h) (hn _ _ ?_); clear hn next; try simp only[hW9]
   refine vU fun next hn=>?_;simp only[pick,yp]; go_wp2_with fail; refine zk (fun _=>trivial) (hn _ _ ?_); clear hn next; refine vU fun next hn=>?_;simp only[pick,yp]; go_wp2_with fail; refine zk (fun _=>trivial) (hn _ _ ?_); clear hn next; try simp only[hW10]
   refine yq ?_; refine zv ?_; go_wp2_with fail; exact bodyPost_ret (v:=.tuple #[.agg #[zH],.agg #[.int .i64 x,.int .i64 y,.int .i64 z,.string s],.int .i64 9]) (by simp[results,Tryz.results24,go_sem, *]) rfl ⟨9,zH,x,y,z,s,rfl,⟨fun h=>by omega,fun h=>absurd h (HST.out.1 (by simp))⟩,fun h=>by omega,HXF.out⟩
 |false=>
  go_upto_region 8 with fail
  obtain⟨W9,W10,hW9,hW10,hC9,hC10,hB10,T10,T9⟩:=zki (zb HTB.out HX8.out) (zb HCB.out HX8.out) (.slice (some ⟨tg,tt,none⟩) m tc) (.int .i64 0) (.int .i64 0) (.int .i64 0) (.string ⟨#[]⟩)
  have hB8:=zb HTB.out HX8.out; have hD8:=HD8.out; have hD9:=T9.keep hD8 (by have:=HCLE.out;omega); have HXF:Hid (Ext w W10):=zh (T10.ext (HX3.out.trans HX8.out) (fun k hk=>by have:=HL.out;omega)); have hcc:=zb HCB.out HX8.out; have HTF:Hid (zcw W10 tg tt g.gm):=zh (HT8.out.turn T10 (fun q cs T hg hT hh=>by
   rcases hh with rfl|rfl
   ·rw[hB8]at hg;injection hg with hg;injection hg with _ hg;subst hg;revert hT;decide
   ·rw[hcc]at hg;injection hg with hg;injection hg with _ hg;subst hg;revert hT;decide))
  have s0:=cr 0 HS8.out; have sl:=za HS8.out; simp at s0
  clear hcc; have q0:=cr 0 hB8; have ql:=za hB8; have qf:=zi hB8 0; have c0:=cr 0 hC9; have c1:=cr 1 hC9; have c2:=cr 2 hC9; have c3:=cr 3 hC9; have cl:=za hC9; have cf:=fun k=>zi hC9 k; have d0:=cr 0 hD8; have d1:=cr 1 hD8; have d2:=cr 2 hD8; have d3:=cr 3 hD8; have dl:=za hD8; have f0:=cr 0 hD9; have f1:=cr 1 hD9; have f2:=cr 2 hD9; have f3:=cr 3 hD9; have fl:=za hD9; have r0:=cr 0 hC10; have r1:=cr 1 hC10; have r2:=cr 2 hC10; have r3:=cr 3 hC10; have rl:=za hC10; have t0:=cr 0 hB10; have tl:=za hB10; simp at q0 c0 c1 c2 c3 d0 d1 d2 d3 f0 f1 f2 f3 r0 r1 r2 r3 t0
  clear hB8 hC9 hD8 hD9 hC10 hB10 T10 T9; go_wp2_with fail; try simp only[hW9]
  try simp only[hW10]
  have HSS:Hid (vd g.gm):=zh (Classical.byContradiction fun hh=>by
   have:=HST.out.2 hh
   simp at this)
  exact bodyPost_ret (v:=.tuple #[.agg #[.slice (some ⟨tg,tt,none⟩) m tc],.agg #[.int .i64 0,.int .i64 0,.int .i64 0,.string ⟨#[]⟩],.int .i64 0]) (by simp[results,Tryz.results24,go_sem, *]) rfl ⟨0,_,0,0,0,_,rfl,⟨fun _=>HSS.out,fun _=>rfl⟩,fun _=>⟨tg,tt,tc,rfl,HTF.out⟩,HXF.out⟩
def jH (g:Gr):Prop:=yY g=0∧zkj g.gm∧qx g.gm∧vd g.gm
def zjm (w:World)(P:Prop)(e:Ending)(w':World):Prop:=∃er:Int,e=.returned (.int .i64 er)∧(er=0↔P)∧Ext w w'
set_option maxRecDepth 100000 in
set_option maxHeartbeats 2000000 in
theorem Ym (g:Gr)(w:World)(h:jC w g):Calls Tryz.prog 22 #[grV g] w (zjm w (jH g)):=by
 by_cases h0:yY g=0
 ·obtain⟨n,hn⟩:∃n:Nat,g.nons=n:=⟨g.nons.toNat,by have:=yk h0;omega⟩
  obtain⟨k,hk⟩:∃k:Nat,g.k=k:=⟨g.k.toNat,by have:=yk h0;omega⟩
  have HRE:=zh (fun w1 h1=>zao g n w1 h1 h0 hn); have HLE:=zh (fun w1 h1=>zgp g n w1 h1 h0 hn); have HBU:=zh (fun w1 h1=>Qi g n k w1 h1 h0 hn hk); unfold grV at HRE HLE HBU; clear hk
  obtain⟨hT,hN,hK,hP1,hP2⟩:=yk h0
  obtain⟨b1,W1,hb1,hW1,X1,GA,GO⟩:=xM g w h
  have HC:=zh (xL g W1 GO)
  rw[h0]at HC
  have HG:=zh GA; have HO:=zh GO; have HX1:=zh X1; have H0:=zh h0; have HNN:=zh hn; have hn16:1≤n∧n≤16:=by omega
  unfold grV at HC ⊢
  obtain⟨m,hm⟩:∃m,g.prods.length=m:=⟨_,rfl⟩
  have HM:=zh hm
  obtain⟨e0,e1,e2,e3,el⟩:=GA
  rw[hm]at e3 hP1 hP2 HC HRE HLE HBU ⊢
  rw[hm]at hW1
  clear h X1 GO h0 hn hm; go_in
  go_upto_region 1 with fail; try simp only[hb1]
  try simp only[hW1]
  clear hb1 hW1; go_wp2_with fail; refine HC.out.mono ?_; rintro e W2 ⟨rfl,x2⟩; have HX2:=zh (HX1.out.trans x2); have HG2:=zh (HG.out.ext x2); have HO2:=zh (HO.out.ext x2); clear x2 HC e0 e1 e2 e3 el HG HO
  obtain⟨e0,e1,e2,e3,el⟩:=HG2.out
  rw[HM.out]at e3
  go_wp2_with fail
  refine(HRE.out _ HO2.out).mono ?_
  rintro e W3 ⟨i3,ok,rfl,hok,x3⟩; have HX3:Hid (Ext W2 W3):=zh x3; have HOK:=zh hok; clear hok x3 HRE e0 e1 e2 e3 el; cases ok with
  |false=>
   go_wp2_with fail; go_ret
   exact⟨5,rfl,⟨fun h=>by omega,fun h=>by
    have:=HOK.out.2 h.2.1
    simp at this⟩,HX2.out.trans HX3.out⟩
  |true=>
   obtain⟨e0,e1,e2,e3,el⟩:=HG2.out.ext HX3.out
   rw[HM.out]at e3
   go_wp2_with fail
   refine(HLE.out _ (HO2.out.ext HX3.out)).mono ?_
   rintro e W4 ⟨i4,is,rfl,his,x4⟩; have HX4:Hid (Ext W2 W4):=zh (HX3.out.trans x4); have HIS:=zh his; clear his x4 HLE e0 e1 e2 e3 el; cases is with
   |true=>
    go_wp2_with fail; go_ret
    exact⟨4,rfl,⟨fun h=>by omega,fun h=>absurd h.2.2.1 (HIS.out.1 (by simp))⟩,HX2.out.trans HX4.out⟩
   |false=>
    obtain⟨e0,e1,e2,e3,el⟩:=HG2.out.ext HX4.out
    rw[HM.out]at e3
    go_wp2_with fail
    refine(HBU.out _ (HO2.out.ext HX4.out)).mono ?_
    rintro e W5 ⟨er,tv,x,y,z,s,rfl,her,_,x5⟩; have HX5:Hid (Ext W2 W5):=zh (HX4.out.trans x5); have HER:=zh her; clear her x5 HBU e0 e1 e2 e3 el; go_wp2_with fail; go_ret
    exact⟨er,rfl,⟨fun h=>⟨H0.out,HOK.out.1 (by simp),Classical.byContradiction (fun hh=>by
     have:=HIS.out.2 hh
     simp at this),HER.out.1 h⟩,fun h=>HER.out.2 h.2.2.2⟩,HX2.out.trans HX5.out⟩
 ·obtain⟨b1,W1,hb1,hW1,X1,GA,GO⟩:=xM g w h
  have HC:=zh (xL g W1 GO); have HX1:=zh X1; have H0:=zh h0
  obtain⟨er,her⟩:∃er,yY g=er:=⟨_,rfl⟩
  rw[her]at HC
  have q0:(er !=0)=true:=by rw[←her];simpa using h0
  have HER:=zh her; unfold grV at HC ⊢
  obtain⟨e0,e1,e2,e3,el⟩:=GA
  clear h X1 GO h0 her; go_in
  go_upto_region 1 with fail; try simp only[hb1]
  try simp only[hW1]
  clear hb1 hW1; go_wp2_with fail; refine HC.out.mono ?_; rintro e W2 ⟨rfl,x2⟩; have HX2:=zh (HX1.out.trans x2); clear x2 HC e0 e1 e2 e3 el; go_wp2_with fail; go_ret
  exact⟨er,rfl,⟨fun h=>absurd (by rw[HER.out];exact h) H0.out,fun h=>absurd h.1 H0.out⟩,HX2.out⟩
end Go.Proofs.YtmbelmngniddjaaGreat
