/- Rf: texts that the proof rests on, part 16. -/
import Derived.Test.YtmbelmngniddjaaGreatRf15
namespace Go.Proofs.YtmbelmngniddjaaGreat
open Go.RowKit Go.Maps
attribute [local go_sem] zF zB zI zJ zw zt zN zD zX zQ zK zP zO zL zT zR zS zG zM zC
set_option maxRecDepth 100000 in
set_option maxHeartbeats 1500000 in
theorem zey (cv nv rv:Value)(cs:List Cl)(nx:List (List Int))(rl0:List Int)(R:Int)(w:World)(hN:Qh w cv nv rv cs nx rl0)(hG:zho cs nx rl0 R)(hR0:0≤R)(hR:R≤16):
 Calls Tryz.prog 48 #[.agg #[cv,nv,rv],.int .i64 512] w (zjF w R):=by
 obtain⟨g0,hg0⟩:∃b,w.heap.size=b:=⟨_,rfl⟩
 obtain⟨W,hW⟩:∃W,(w.alloc (.cells #[cv,nv,rv] 108)).alloc (.cells #[zH,zH] 35)=W:=⟨_,rfl⟩
 have X1:Ext w W:=by rw[←hW];exact xi
 have B1:W.heap[g0]?=some (.cells #[cv,nv,rv] 108):=by rw[←hW,←hg0];exact(by simp only[zm,World.size_alloc];(repeat(split;(first|rfl|(exfalso;omega))));(try(first|(exfalso;omega)|simp_all)))
 have R1:W.heap[g0+1]?=some (.cells #[zH,zH] 35):=by rw[←hW,←hg0];exact(by simp only[zm,World.size_alloc];(repeat(split;(first|rfl|(exfalso;omega))));(try(first|(exfalso;omega)|simp_all)))
 have b0:=cr 0 B1; have b1:=cr 1 B1; have b2:=cr 2 B1; have lb:=za B1; simp at b0 b1 b2
 obtain⟨m,hm⟩:∃m,cs.length=m:=⟨_,rfl⟩
 have hm1:=hG.one; have hm2:=hG.most
 rw[hm]at hm1 hm2
 have HMM:=zh hm; have HN:=zh hN; have HGG:=zh hG; have HRR:=zh (And.intro hR0 hR); have HX1:=zh X1; have HB1:=zh B1; have HR1:=zh R1; have HG0:=zh hg0; have HCK:=zh (zdt cv nv rv cs nx rl0 R W (hN.ext X1) hG hR); clear hN hG X1 B1 R1 hm hR0 hR; go_in
 go_wp2_with fail; try simp only[hg0]
 refine HCK.out.mono ?_; rintro e W2 ⟨er,rfl,_,hx2⟩; have HX2:=zh (HX1.out.trans hx2); have HB2:=zh (zb HB1.out hx2); have HR2:=zh (zb HR1.out hx2); clear b0 b1 b2 lb hx2 hW hg0 HCK; have T6:Hid (∀(W9:World),Ext w W9→Ext w (put2 W9 (g0+1) zH zH)):=zh (fun W9 e=>(qU (S:=fun k=>k=g0+1) rfl _ _).ext e (fun k hk=>by have:=HG0.out;omega)); by_cases e0:er=0
 ·have d0:(er !=0)=false:=by simp[e0]
  clear e0; have hmm:=@run_makeMap Tryz.prog
  obtain⟨a0,ha0⟩:∃a0,W2.heap.size=a0:=⟨_,rfl⟩
  obtain⟨W3,hW3⟩:∃W3,((W2.alloc (.cells #[.int .i64 0] 3)).alloc (.cells #[.slice (some ⟨a0,0,none⟩) 1 1] 33)).alloc (.map #[] 0)=W3:=⟨_,rfl⟩
  have X3:Ext W2 W3:=by rw[←hW3];exact xi
  have A3:W3.heap[a0]?=some (.cells #[.int .i64 0] 3):=by rw[←hW3,←ha0];exact(by simp only[zm,World.size_alloc];(repeat(split;(first|rfl|(exfalso;omega))));(try(first|(exfalso;omega)|simp_all)))
  have S3:W3.heap[a0+1]?=some (.cells #[.slice (some ⟨a0,0,none⟩) 1 1] 33):=by rw[←hW3,←ha0];exact(by simp only[zm,World.size_alloc];(repeat(split;(first|rfl|(exfalso;omega))));(try(first|(exfalso;omega)|simp_all)))
  have M3:QV W3 (a0+2) 0 fun _=>none:=by
   have:=QV.made ((W2.alloc (.cells #[.int .i64 0] 3)).alloc (.cells #[.slice (some ⟨a0,0,none⟩) 1 1] 33))
   rw[hW3]at this
   have hs:((W2.alloc (.cells #[.int .i64 0] 3)).alloc (.cells #[.slice (some ⟨a0,0,none⟩) 1 1] 33)).heap.size=a0+2:=by rw[←ha0];simp
   rwa[hs]at this
  have HX3:=zh (HX2.out.trans X3); have HA3:=zh A3; have HS3:=zh S3; have HB3:=zh (zb HB2.out X3); have HR3:=zh (zb HR2.out X3); have HA0:Hid (w.heap.size≤a0):=zh (by rw[←ha0];exact HX2.out.size); have s0:=cr 0 S3; simp at s0
  have ls:=za S3; have PO0:Hid (qY m [(0:Int)]):=zh ⟨by simp,fun x hx=>by rw[List.mem_singleton]at hx;subst hx;omega⟩; have HK:=zh (zik (some ⟨a0,0,none⟩) 1 m [(0:Int)] W3 (zju A3) PO0.out (by omega) (by simp)); simp only[List.length_cons,List.length_nil,Nat.zero_add]at HK
  clear X3 A3 S3
  obtain⟨mb,hmb⟩:∃mb,a0+1+1=mb:=⟨_,rfl⟩
  have M3':QV W3 mb 0 fun _=>none:=by rw[←hmb];exact M3
  have HM3:=zh M3'; have HMB:=zh hmb; clear M3 M3'; go_wp2_with fail; refine HK.out.mono ?_; rintro e W4 ⟨ks,rfl,hks,hx4⟩; simp only[]
  have hks':ks.size≤maxLen:=by unfold maxLen;omega
  obtain⟨W5,hrun,hM5,hT5⟩:=(HM3.out.ext hx4).put (by omega) ks hks' 0 (by omega) (by omega)
  have nM:=fun {g:Nat} {cs:Array Value} {U:TypeId} (hg:W3.heap[g]?=some (.cells cs U))=>Ne.symm ((HM3.out.ext hx4).ne (zb hg hx4)); have HA5:=zh (hT5.keep (zb HA3.out hx4) (nM HA3.out)); have HS5:=zh (hT5.keep (zb HS3.out hx4) (nM HS3.out)); have HB5:=zh (hT5.keep (zb HB3.out hx4) (nM HB3.out)); have HR5:=zh (hT5.keep (zb HR3.out hx4) (nM HR3.out)); have HM5:=zh hM5; have HX5:=zh (hT5.ext (HX3.out.trans hx4) (fun k hk=>by have:=HA0.out;omega)); clear hmm ha0 hW3 s0 ls hM5 hT5 nM hx4 hmb
  obtain⟨db,hdb⟩:∃db,W5.heap.size=db:=⟨_,rfl⟩
  obtain⟨W5b,hW5b⟩:∃W6,W5.alloc (.cells #[zH,zH] 35)=W6:=⟨_,rfl⟩
  have D5:W5b.heap[db]?=some (.cells #[zH,zH] 35):=by rw[←hW5b,←hdb];exact heap_alloc_new _ _
  have X5:Ext W5 W5b:=by rw[←hW5b];exact xi
  obtain⟨W6,hW6⟩:∃W6,put2 W5b db zH zH=W6:=⟨_,rfl⟩
  have D6:W6.heap[db]?=some (.cells #[zH,zH] 35):=by rw[←hW6];exact Yp D5 _ _
  have X6:Ext W5 W6:=by rw[←hW6];exact(qU (S:=fun k=>k=db) rfl _ _).ext X5 (fun k hk=>by omega)
  have HI6:Hid (BdG W6 w.heap.size db 1 m zH zH (.slice (some ⟨a0+1,0,none⟩) 1 1) [] []):=zh ⟨D6,by have:=HX5.out.size;omega,⟨none,0,rfl,vr.nil _ _⟩,⟨none,0,rfl,vr.nil _ _⟩,fun g hg=>(by cases hg),[.slice (some ⟨a0,0,none⟩) 1 1],
   ⟨rfl,.inr ⟨a0+1,1,_,rfl,by have:=HA0.out;omega,zb HS5.out X6,Nat.le_refl _,by unfold maxLen;omega,rfl,rfl⟩⟩,fun j v hv=>by
    obtain rfl:j=0:=by
     have:=(List.getElem?_eq_some_iff.1 hv).1
     simpa using this
    simp at hv
    subst hv
    exact⟨[(0:Int)],PO0.out,by simp,some ⟨a0,0,none⟩,1,rfl,(zju HA5.out).ext X6,Nat.le_refl _,fun g off s hg=>by
     injection hg with hg; injection hg with hg; subst hg
     exact⟨⟨_,zb HA5.out X6⟩,fun hh=>by rcases hh with hh|hh<;>cases hh⟩⟩⟩
  have HV6:Hid (Ju w W6 g0 mb 1 cv nv rv):=zh ⟨zb HB5.out X6,zb HR5.out X6,
   ⟨0+1,_,Nat.le_refl _,HM5.out.ext X6,fun x k hk=>by
     try dsimp only at hk
     split at hk
     ·injection hk with hk;omega
     ·cases hk⟩,HX5.out.trans X6,by have:=HA0.out;have:=HMB.out;omega⟩
  have HDB:Hid (db≠g0+1∧db≠g0):=zh ⟨by rw[←hdb];have:=za HR5.out;omega,by rw[←hdb];have:=za HB5.out;omega⟩; have r0:=cr 0 D5; have r1:=cr 1 D5; have ff:=fun k=>zi D5 k; simp at r0 r1
  unfold put2 at hW6; clear X5 D5 D6 X6 HA5 HS5 HM5 HB5 HR5 HM3 HB3 HR3 HA3 HS3 HK HX3; go_wp2_with fail; clear hW6 hrun hdb hW5b r0 r1 ff; go_loopw [7,10] (fun sv iv wr=>∃(i p:Nat) (nv1 rv1:Value) (nl rl:List Int),iv=.int .i64 i∧i≤p∧1≤p∧p≤512∧Hid (BdG wr w.heap.size db p m nv1 rv1 sv nl rl)∧Hid (Ju w wr g0 mb p cv nv rv)∧Hid (zdc p i (256*i) R nl rl)) (fun _ i _=>512 - (intOf i).toNat)
  case atStart=>exact⟨0,1,_,_,_,_,rfl,Nat.zero_le _,Nat.le_refl _,by omega,HI6,HV6,zh ⟨rfl,rfl,by simp,by simp⟩⟩
  case round=>
   obtain⟨i,p,nv1,rv1,nl,rl,rfl,hip,hp1,hp5,hI,hV,NU⟩:=hrel
   clear HI6 HV6; have hX:=zh hV.out.ext; have hB:=zh hV.out.box
   obtain⟨vs,hvs,hvi⟩:=hI.out.sets
   obtain⟨SA,sc,rfl,hSA,_⟩:=zW hvs
   by_cases hlt:i < p
   ·obtain⟨gs,os,rfl,lgs,hsc⟩:=hSA (by have:=hvs.1;omega)
    obtain⟨v,hv⟩:∃v,vs[i]?=some v:=⟨_,List.getElem?_eq_getElem (by have:=hvs.1;omega)⟩
    obtain⟨xs,hxo,hx0,S,c1,rfl,hS,hSc,hS2⟩:=hvi i v hv
    have s0:=hsc i _ hv; have n0:=cr 0 hB.out; have n1:=cr 1 hB.out; have n2:=cr 2 hB.out; have ln:=za hB.out; have d1:=cr 1 hI.out.blk; have ld:=za hI.out.blk; simp at n0 n1 n2 d1 s0
    obtain⟨xn,hxn⟩:∃k,xs.length=k:=⟨_,rfl⟩
    have HE:Hid (∀W,Ext wr W→Calls Tryz.prog 84 #[.agg #[cv,nv,rv],.slice S xn c1] W (zeZ W fun r=>-1≤r∧r < R)):=zh (fun W e=>by
     have:=zi3 cv nv rv cs nx rl0 R S c1 xs W ((HN.out.ext hX.out).ext e) HGG.out (hS.ext e) (by rw[HMM.out];exact hxo) HRR.out.1
     rwa[hxn]at this)
    rw[hxn]at s0
    have HBD:=zh hI.out; have HVS:=zh hvs; clear hsc hS hS2 hvi hvs hv hSA hxo hx0 hxn
    obtain⟨cgs,hcgs⟩:∃cur,wr.heap[gs]?=some (.cells cur 33):=zZ HVS.out gs rfl
    have HGS:=zh hcgs; have kx0:∀x:EdL wr [g0,db,gs],x.V.cell? ⟨g0,0,none⟩=some cv:=fun x=>x.cell (by simp) n0; have kx1:∀x:EdL wr [g0,db,gs],x.V.cell? ⟨g0,1,none⟩=some nv:=fun x=>x.cell (by simp) n1; have kx2:∀x:EdL wr [g0,db,gs],x.V.cell? ⟨g0,2,none⟩=some rv:=fun x=>x.cell (by simp) n2; have kx3:∀x:EdL wr [g0,db,gs],x.V.cell? ⟨db,1,none⟩=some rv1:=fun x=>x.cell (by simp) d1; have kx4:∀x:EdL wr [g0,db,gs],x.V.cell? ⟨gs,os+i,none⟩=some (.slice S xn c1):=fun x=>x.cell (by simp) s0; have kx5:∀x:EdL wr [g0,db,gs],g0 < x.V.heap.size:=fun x=>x.lt (by simp) ln; have kx6:∀x:EdL wr [g0,db,gs],db < x.V.heap.size:=fun x=>x.lt (by simp) ld; have kx7:∀x:EdL wr [g0,db,gs],gs < x.V.heap.size:=fun x=>x.lt (by simp) lgs; have HLT:Hid (∀k∈[g0,db,gs],k < wr.heap.size):=zh (by simp;exact⟨ln,ld,lgs⟩); clear hcgs; go_upto_region 12 with fail; refine Zc (T:=EdL wr [g0,db,gs]) EdL.V (11) (zd [0,3,4,5] (zj [1,2,6] (.step 7 (.step 8 (.step 9 (zd [10] (.step 11 .fin))))))) (by kernel_rfl) (by kernel_rfl) ⟨⟨wr.drew,fun _ _=>rfl⟩,rfl⟩ ?_; (repeat first|refine yq ?_|refine yr ?_)
    clear kx0 kx1 kx2 kx3 kx4 kx5 kx6 kx7 n0 n1 n2 s0 d1; refine zp fun next hn=>?_;simp only[pick,yp]; go_wp2_with fail
    refine(HE.out _ xi).mono ?_
    rintro e w2 ⟨r,rfl,hr,hx2⟩; have HRN:=zh hr; have HY2:Hid (Ext wr w2):=zh (Ext.trans xi hx2); clear hx2 hr; go_wp2_with fail; refine zk (fun _=>Jd (fun _ _=>rfl) HY2.out HLT.out) (hn _ _ ?_); clear hn next; refine zp fun next hn=>?_;simp only[pick,yp]; go_wp2_with fail; refine zk (fun _=>Jd (fun _ _=>rfl) (HY2.out.trans xi) HLT.out) (hn _ _ ?_); clear hn next; have HBD3:=zh (HBD.out.ext (HY2.out.trans (xi:Ext w2 (w2.alloc (.cells #[.int .i64 r] 3)))))
    obtain⟨b3,hb3⟩:∃b3,w2.heap.size=b3:=⟨_,rfl⟩
    obtain⟨W3,hW3⟩:∃W3,w2.alloc (.cells #[.int .i64 r] 3)=W3:=⟨_,rfl⟩
    have l3:b3 < W3.heap.size:=by rw[←hW3,←hb3];simp
    have HX3:Hid (Ext wr W3):=zh (by rw[←hW3];exact HY2.out.trans xi); have a3:W3.cell? ⟨b3,0,none⟩=some (.int .i64 r):=by rw[←hW3,←hb3];exact(cr 0 (heap_alloc_new w2 (.cells #[.int .i64 r] 3))).trans (by simp)
    rw[hW3]at HBD3
    simp only[hW3,hb3]
    clear hW3 hb3; have HRL:Hid (rl.length≤1000000):=zh (by have:=NU.out.1;omega); refine zp fun next hn=>?_;simp only[pick,yp]; go_wp2_with (at_builtin;refine yV w (by rfl) (.tmp 45) (.tmp 52) rfl HBD3.out.rul r b3 rfl rfl l3 a3 HRL.out (by have:=(hX.out.trans HX3.out).size;omega) ?_;intro v4 w4 hr4 hg4 hat4)
    obtain⟨A4,l4,c4,rfl⟩:∃A l c,v4=.slice A l c:=by
     obtain⟨A,c,h,_⟩:=hr4
     exact⟨A,_,c,h⟩
    obtain⟨RA,rc1,hrv1,hRA⟩:=HBD3.out.rul
    have hRA':W3.ownsRow w.heap.size 3 1 rv1 rl.length (iv rl):=by rw[hrv1];exact hRA
    have HV4:=zh ((hV.out.toExt HX3.out).grow hRA' (.inl rfl) hg4); have D4:=ym hRA' hg4 (Ext.refl _) HBD3.out.blk (by decide); have GS4:=ym hRA' hg4 (Ext.refl _) (zb HGS.out HX3.out) (by decide); have HBD5:=zh (HBD3.out.appR hr4 hg4 hat4); have HV5:=zh (HV4.out.store D4 HBD3.out.low HDB.out.1 1 (.slice A4 l4 c4)); have hsame:∀k∈[g0,db,gs],w4.heap[k]?=wr.heap[k]?:=by
     intro k hk; simp at hk
     rcases hk with rfl|rfl|rfl
     ·exact HV4.out.box.trans hB.out.symm
     ·exact D4.trans HBD.out.blk.symm
     ·exact GS4.trans HGS.out.symm
    refine zk (fun _=>⟨⟨w4,hsame⟩,rfl⟩) (hn _ _ ?_); clear hn next hsame; have d4:=cr 1 D4; simp at d4
    have f4:=zi D4 1
    obtain⟨W5,hW5⟩:∃W5,w4.setCell ⟨db,1,none⟩ (.slice A4 l4 c4)=W5:=⟨_,rfl⟩
    rw[hW5]at HBD5 HV5
    clear D4 GS4 hRA hRA' hrv1 hr4 hg4 hat4 a3 l3; (repeat first|refine yq ?_|refine yr ?_)
    refine zp fun next hn=>?_;simp only[pick,yp]; go_wp2_with fail; refine zk (fun h=>absurd rfl h) (hn _ _ ?_); clear hn next; refine zv ?_; try simp only[hW5]
    clear hW5 d4 f4; go_wp2_with fail; have NU1:=zh (NU.out.rule HRN.out); clear hI hV hX hB NU; go_loopw [7,11] (fun sv bv wr=>∃(b p:Nat) (nv1 rv1:Value) (nl rl:List Int),bv=.int .i64 b∧b≤256∧i < p∧1≤p∧p≤512∧Hid (BdG wr w.heap.size db p m nv1 rv1 sv nl rl)∧Hid (Ju w wr g0 mb p cv nv rv)∧Hid (zdc p (i+1) (256*i+b) R nl rl)) (fun _ b _=>256 - (intOf b).toNat)
    case atStart=>exact⟨0,p,_,_,_,_,rfl,by omega,hlt,hp1,hp5,HBD5,HV5,NU1⟩
    case round=>
     clear HBD5 HV5 NU1 hp1 hp5 hlt HV4 HBD3 HX3 HY2 HLT HGS HVS HBD HE hip
     obtain⟨b,p,nv1,rv1,nl,rl,rfl,hb,hip,hp1,hp5,HBD,hV,NU⟩:=hrel
     obtain⟨vs,hvs,hvi⟩:=HBD.out.sets
     obtain⟨SA,sc,rfl,hSA,_⟩:=zW hvs
     by_cases hlt:b < 256
     ·obtain⟨gs,os,rfl,lgs,hsc⟩:=hSA (by have:=hvs.1;omega)
      obtain⟨v,hv⟩:∃v,vs[i]?=some v:=⟨_,List.getElem?_eq_getElem (by have:=hvs.1;omega)⟩
      obtain⟨xs,hxo,hx0,S,c1,rfl,hS,hSc,hS2⟩:=hvi i v hv
      have s0:=hsc i _ hv; have n0:=cr 0 hV.out.box; have n1:=cr 1 hV.out.box; have n2:=cr 2 hV.out.box; have ln:=za hV.out.box; simp at n0 n1 n2 s0
      obtain⟨xn,hxn⟩:∃k,xs.length=k:=⟨_,rfl⟩
      have HGO:Hid (∀W,Ext wr W→Calls Tryz.prog 85 #[.agg #[cv,nv,rv],.slice S xn c1,.int .u8 b] W (ziU W m)):=zh (fun W e=>by
       have:=zkk cv nv rv cs nx rl0 R S c1 b xs W ((HN.out.ext hV.out.ext).ext e) HGG.out (hS.ext e) (by rw[HMM.out];exact hxo) hlt
       rwa[hxn,HMM.out]at this)
      rw[hxn]at s0
      have HVS:=zh hvs; clear hsc hS hS2 hvi hvs hv hSA hxo hx0 hxn; go_upto_region 16 with fail; refine zg (9) (zd [1,2,3,5] (zj [0,4,6] (.step 7 (zd [8] .fin)))) (by kernel_rfl) (by kernel_rfl) ?_; (repeat first|refine yq ?_|refine yr ?_)
      clear n0 n1 n2 s0; refine zp fun next hn=>?_;simp only[pick,yp]; go_wp2_with fail
      refine(HGO.out _ xi).mono ?_
      rintro e w2 ⟨ys,hyo,A2,c2,rfl,ho2,hx2'⟩; have HY2:Hid (Ext wr w2):=zh (Ext.trans xi hx2'); have HO2:=zh ho2; have HYO:=zh hyo; have HSZ:Hid (wr.heap.size≤wr.drew.heap.size):=zh (Nat.le_refl _); clear hx2' ho2 hyo; go_wp2_with fail; refine zk (fun _=>yZ HY2.out) (hn _ _ ?_); clear hn next; (repeat first|refine yq ?_|refine yr ?_)
      refine zv ?_; have HB2:=zh (HBD.out.ext HY2.out); have HV2:=zh (hV.out.toExt HY2.out)
      obtain⟨yn,hyn⟩:∃k,ys.length=k:=⟨_,rfl⟩
      have HYN:=zh hyn; by_cases hz:yn=0
      ·subst hz
       rw[hyn]
       have dz:decide (((0:Nat):Int) > 0)=false:=rfl; clear hyn; have d0:=cr 0 HB2.out.blk; simp at d0
       have ld:=za HB2.out.blk; have hnl:nl.length≤1000000:=by have:=NU.out.2.1;omega
       go_wp2_with (at_builtin;refine yV w (by rfl) (.tmp 95) (.tmp 97) rfl (HB2.out.ext xi).nxt (-1) w2.heap.size rfl rfl (by simp) (by rw[cr 0 (heap_alloc_new w2 (.cells #[.int .i64 (-1)] 3))];rfl) hnl (by have:=HV2.out.ext.size;simp<;>omega) ?_;intro v4 w4 hr4 hg4 hat4;obtain⟨A4,l4,c4,rfl,D4,HB5,HV5⟩:=Yf (HB2.out.ext xi) (HV2.out.toExt xi) HDB.out.1 hr4 hg4 hat4;have d4:=cr 0 D4;simp at d4;have f4:=zi D4 0;obtain⟨W5,hW5⟩:∃W5,w4.setCell ⟨db,0,none⟩ (.slice A4 l4 c4)=W5:=⟨_,rfl⟩;rw[hW5]at HB5 HV5;clear D4 hr4 hg4 hat4 d0 ld hnl)
       clear hW5 d4 f4; go_roundw
       case rel=>exact⟨b+1,p,_,_,_,_,by go_num,by omega,by omega,by omega,by omega,zh HB5,zh HV5,zh (by have:=NU.out.next (x:=-1) (by omega);rwa[Nat.add_assoc]at this)⟩
       case measure=>simp[intOf];omega
      ·have dz:decide (0 < yn)=true:=by simp;omega
       have dz2:decide ((yn:Int) > 0)=true:=by simp;omega
       rw[hyn]
       have HK:Hid (∀W,Ext w2 W→Calls Tryz.prog 83 #[.slice A2 yn c2] W (zeG W 20000)):=zh (fun W e=>by
        have:=zik A2 c2 m ys W ((HO2.out.ints.1).ext e) HYO.out (by omega) (by omega)
        rwa[hyn]at this)
       clear hyn hz; go_wp2_with fail
       refine(HK.out _ (Ext.refl _)).mono ?_
       rintro e w3 ⟨kt,rfl,hkt,hx3⟩; have HX3:=zh hx3; have HB3:=zh (HB2.out.ext hx3); have HV3:=zh (HV2.out.toExt hx3)
       obtain⟨q,f,hq,hm,hf⟩:=HV3.out.map
       have hrun:=hm.look kt (by unfold maxLen;omega); have HM:=zh (And.intro hq (And.intro hm hf)); have HKT:=zh hkt; cases hfx:f kt.data.toList with
       |some k=>
        obtain⟨hk0,hkp⟩:=hf _ k hfx
        rw[hfx]at hrun
        have hrun':(Instr.lookup 154 (.map (some mb)) (.string kt) true).run Tryz.prog w3=.ok (.tuple #[.int .i64 k,.bool true]) w3:=hrun; have HKP:=zh (And.intro hk0 hkp); clear hrun hx3 hm hf hq hk0 hkp hfx hkt; have d0:=cr 0 HB3.out.blk; simp at d0
        have ld:=za HB3.out.blk; have hnl:nl.length≤1000000:=by have:=NU.out.2.1;omega
        go_wp2_with (at_builtin;refine yV w (by rfl) (.tmp 95) (.tmp 97) rfl (HB3.out.ext xi).nxt k w3.heap.size rfl rfl (by simp) (by rw[cr 0 (heap_alloc_new w3 (.cells #[.int .i64 k] 3))];rfl) hnl (by have:=HV3.out.ext.size;simp<;>omega) ?_;intro v4 w4 hr4 hg4 hat4;obtain⟨A4,l4,c4,rfl,D4,HB5,HV5⟩:=Yf (HB3.out.ext xi) (HV3.out.toExt xi) HDB.out.1 hr4 hg4 hat4;have d4:=cr 0 D4;simp at d4;have f4:=zi D4 0;obtain⟨W5,hW5⟩:∃W5,w4.setCell ⟨db,0,none⟩ (.slice A4 l4 c4)=W5:=⟨_,rfl⟩;rw[hW5]at HB5 HV5;clear D4 hr4 hg4 hat4 d0 ld hnl)
        clear hW5 d4 f4; go_roundw
        case rel=>exact⟨b+1,p,_,_,_,_,by go_num,by omega,by omega,by omega,by omega,zh HB5,zh HV5,zh (by have:=NU.out.next (x:=k) (by have:=HKP.out;omega);rwa[Nat.add_assoc]at this)⟩
        case measure=>simp[intOf];omega
       |none=>
        rw[hfx]at hrun
        have hrun':(Instr.lookup 154 (.map (some mb)) (.string kt) true).run Tryz.prog w3=.ok (.tuple #[.int .i64 0,.bool false]) w3:=hrun; clear hrun hx3 hm hf hq hfx hkt; by_cases hfull:p=512
        ·subst hfull; have q1:(((512:Nat):Int)==512)=true:=rfl; have R9:=HV3.out.res; have P6:=Yp R9 zH zH
         obtain⟨W6,hW6⟩:∃W6,put2 w3 (g0+1) zH zH=W6:=⟨_,rfl⟩
         have HX6:Hid (Ext w W6):=zh (by rw[←hW6];exact T6.out w3 HV3.out.ext)
         rw[hW6]at P6
         have z0:=cr 0 P6; have z1:=cr 1 P6; have r0:=cr 0 R9; have r1:=cr 1 R9; have ff:=fun k=>zi R9 k; have lr:=za R9; simp at z0 z1 r0 r1
         unfold put2 at hW6; clear P6 R9; go_wp2_with fail; exact bodyPost_ret (v:=.tuple #[.agg #[zH,zH],.int .i64 10]) (by simp[results,Tryz.results48,go_sem, *]) rfl ⟨10,zH,zH,rfl,fun h=>by simp at h,⟨⟨_,_,_,rfl⟩,⟨_,_,_,rfl⟩⟩,HX6.out⟩
        ·have q1:((p:Int)==512)=false:=by simp;omega
         have q2:decide ((p:Int)=512)=false:=by simp;omega
         have HP5:Hid (p < 512):=zh (by omega); have HU:Hid (j6 (w3.alloc (.cells #[.slice A2 yn c2] 33)) (two nv1 rv1) (.slice A2 yn c2) ys):=zh (by
          obtain⟨h1,h2,h3,h4⟩:=HO2.out.ints
          refine j6.ext (w:=w2) ⟨A2,c2,by rw[HYN.out],h1,h2,fun g off s hA=>?_⟩ (HX3.out.trans xi); subst hA; have hk:(Value.slice (some ⟨g,off,s⟩) ys.length c2).ownBlock=some g:=rfl
          refine⟨zZ HO2.out g hk,fun hh=>?_⟩
          have h6:=zV HO2.out g hk; have h7:wr.heap.size≤g:=h6
          obtain⟨NA,nc,hn1,hNA⟩:=HBD.out.nxt
          obtain⟨QA,qc,hq1,hQA⟩:=HBD.out.rul
          rcases hh with hh|hh
          ·rw[hn1]at hh;have:=z8 hNA g hh;omega
          ·rw[hq1]at hh;have:=z8 hQA g hh;omega)
         have HC:Hid (yI (w3.alloc (.cells #[.slice A2 yn c2] 33)) (some ⟨w3.heap.size,0,none⟩) [.slice A2 yn c2]):=zh (xp w3 33 w3.heap.size #[.slice A2 yn c2] [.slice A2 yn c2] rfl rfl)
         obtain⟨vs2,hvs2,hvi2⟩:=(HB3.out.ext (xi:Ext w3 (w3.alloc (.cells #[.slice A2 yn c2] 33)))).sets
         have HVS2:=zh hvs2; have HVI2:=zh hvi2
         obtain⟨i6,hi6,hz0,hz1,hz2⟩:=info_parts zbw
         clear hvs2 hvi2 hfull; go_wp2_with (at_builtin;refine zE _ (by rfl) (.tmp 85) (.tmp 87) 106 rfl w.heap.size 33 i6 _ 1 24 Tryz.underlying106 hi6 hz0 hz1 hz2 rfl (by omega) (.slice (some ⟨gs,os,none⟩) p sc) p vs2 rfl HVS2.out (some ⟨w3.heap.size,0,none⟩) 1 1 [.slice A2 yn c2] rfl (by intro h;cases h) rfl HC.out (by intro u hu;obtain rfl:=List.mem_singleton.1 hu;rfl) (by unfold maxLen;omega) (by omega) (by have:=HV3.out.ext.size;simp<;>omega) ?_;intro v5 w5 ho5 hg5 hat5)
         obtain⟨A5,c5,rfl,_⟩:=zW ho5
         have T5:zA (fun g=>(Value.slice (some ⟨gs,os,none⟩) p sc).ownBlock=some g) (w3.alloc (.cells #[.slice A2 yn c2] 33)) w5:=zA.grown hg5 (fun g hg _=>hg)
         obtain⟨A2',c2',hA2,hI5,_⟩:=HU.out.keep T5 (fun g cs hcs _ hn=>by
          obtain⟨cur,hcur⟩:=zZ HVS2.out g hn
          exact zU hcs hcur (by decide) rfl) (fun g hg=>.inl hg)
         injection hA2 with a1 a2 a3; subst a1 a3; have HB6:=zh ((HB3.out.ext (xi:Ext w3 (w3.alloc (.cells #[.slice A2 yn c2] 33)))).appS HVS2.out HVI2.out HYO.out (by have:=HYN.out;have h9:=dz;simp at h9;omega) HU.out ho5 hg5); have HV6:=zh ((HV3.out.toExt (xi:Ext w3 (w3.alloc (.cells #[.slice A2 yn c2] 33)))).grow HVS2.out (.inr rfl) hg5); have K5:=zik A2 c2 m ys w5 hI5 HYO.out (by omega) (by have:=HYN.out;have h9:=dz;simp at h9;omega)
         rw[HYN.out]at K5
         have HK5:=zh K5; clear T5 hI5 a2 ho5 hg5 hat5 hrun' q1 q2 K5 hi6 hz0 hz1 hz2; go_wp2_with fail; refine HK5.out.mono ?_; rintro e w6 ⟨kt2,rfl,hkt2,hx6⟩
         obtain⟨q,f,hq,hm,hf⟩:=(HV6.out.toExt hx6).map
         obtain⟨w7,hrun7,hM7,hT7⟩:=hm.put (by omega) kt2 (by unfold maxLen;omega) (p:Int) (by omega) (by omega)
         have hv:=HV6.out.toExt hx6; have HB7:=zh ((HB6.out.ext hx6).keep hT7 (fun cs T hc=>absurd rfl (hm.ne hc))); have HV7:Hid (Ju w w7 g0 mb (p+1) cv nv rv):=zh ⟨hT7.keep hv.box (Ne.symm (hm.ne hv.box)),hT7.keep hv.res (Ne.symm (hm.ne hv.res)),⟨q+1,_,by omega,hM7,fun x k hk=>by
          try dsimp only at hk
          split at hk
          ·injection hk with hk;omega
          ·have:=hf x k hk;omega⟩,hT7.ext hv.ext (fun i hi=>by have:=hv.mlow;omega),hv.mlow⟩
         clear hv hm hf hM7 hT7 hx6 hq HB6 HV6 hkt2; have d0:=cr 0 HB7.out.blk; simp at d0
         have ld:=za HB7.out.blk; have hnl:nl.length≤1000000:=by have:=NU.out.2.1;omega
         go_wp2_with (at_builtin;refine yV w (by rfl) (.tmp 95) (.tmp 97) rfl (HB7.out.ext xi).nxt (p:Int) w7.heap.size rfl rfl (by simp) (by rw[cr 0 (heap_alloc_new w7 (.cells #[.int .i64 (p:Int)] 3))];rfl) hnl (by have:=HV7.out.ext.size;simp<;>omega) ?_;intro v4 w4 hr4 hg4 hat4;obtain⟨A4,l4,c4,rfl,D4,HB5,HV5⟩:=Yf (HB7.out.ext xi) (HV7.out.toExt xi) HDB.out.1 hr4 hg4 hat4;have d4:=cr 0 D4;simp at d4;have f4:=zi D4 0;obtain⟨W5,hW5⟩:∃W5,w4.setCell ⟨db,0,none⟩ (.slice A4 l4 c4)=W5:=⟨_,rfl⟩;rw[hW5]at HB5 HV5;clear D4 hr4 hg4 hat4 d0 ld hnl)
         clear hW5 d4 f4; go_roundw
         case rel=>exact⟨b+1,p+1,_,_,_,_,by go_num,by omega,by omega,by omega,by have:=HP5.out;omega,zh HB5,zh HV5,zh (by have:=(NU.out.wide (Nat.le_succ p)).next (x:=(p:Int)) (by omega);rwa[Nat.add_assoc]at this)⟩
         case measure=>simp[intOf];omega
     ·obtain rfl:b=256:=by omega
      go_wp2_with fail; go_roundw
      case rel=>exact⟨i+1,p,_,_,_,_,by go_num,by omega,by omega,by omega,HBD,hV,zh (by have:=NU.out;rwa[show 256*(i+1)=256*i+256 by omega])⟩
      case measure=>simp[intOf];omega
   ·obtain rfl:i=p:=by omega
    obtain⟨NA,nc,rfl,hNA⟩:=hI.out.nxt
    obtain⟨QA,qc,rfl,hQA⟩:=hI.out.rul
    have R0:=hV.out.res; have D0:=hI.out.blk; have T9:∀v1 v2,zA (fun k=>k=g0+1) wr (put2 wr (g0+1) v1 v2):=fun v1 v2=>qU (S:=fun k=>k=g0+1) rfl _ _; have HX6:Hid (∀v1 v2,Ext w (put2 wr (g0+1) v1 v2)):=zh (fun v1 v2=>(T9 v1 v2).ext hV.out.ext (fun k hk=>by have:=HG0.out;omega)); have HD6:Hid (∀v1 v2,vr (put2 wr (g0+1) v1 v2) w.heap.size NA nc nl∧vr (put2 wr (g0+1) v1 v2) w.heap.size QA qc rl):=zh (fun v1 v2=>⟨xF R0 (T9 v1 v2) hNA (by decide),xF R0 (T9 v1 v2) hQA (by decide)⟩); have HOK:Hid (YK nl rl∧∀r∈rl,r < R):=zh (by
     obtain⟨a1,a2,a3,a4⟩:=NU.out
     refine⟨⟨by omega,by omega,by omega,fun r hr=>?_,fun x hx=>?_⟩,fun r hr=>(a3 r hr).2⟩
     ·have:=a3 r hr;have:=HRR.out;omega
     ·have:=a4 x hx;omega)
    obtain⟨n1,hn1⟩:∃n1,nl.length=n1:=⟨_,rfl⟩
    obtain⟨n2,hn2⟩:∃n2,rl.length=n2:=⟨_,rfl⟩
    rw[hn1,hn2]at D0
    have HN1:=zh hn1; have HN2:=zh hn2
    obtain⟨W6,hW6⟩:∃W6,put2 wr (g0+1) (.slice NA n1 nc) (.slice QA n2 qc)=W6:=⟨_,rfl⟩
    have hx6:=HX6.out (.slice NA n1 nc) (.slice QA n2 qc); have hd6:=HD6.out (.slice NA n1 nc) (.slice QA n2 qc); have P6:=Yp R0 (.slice NA n1 nc) (.slice QA n2 qc)
    rw[hW6]at hx6 hd6 P6
    have HXX:=zh hx6; have HDD:=zh hd6; have e0:=cr 0 P6; have e1:=cr 1 P6; have d0:=cr 0 D0; have d1:=cr 1 D0; have r0:=cr 0 R0; have r1:=cr 1 R0; have ff:=fun k=>zi R0 k; simp at e0 e1 d0 d1 r0 r1
    have lr:=za R0; have ld:=za D0; unfold put2 at hW6; clear hx6 hd6 P6 R0 D0 T9 HX6 HD6 hNA hQA hn1 hn2 hvi hvs hSA hI; go_wp2_with fail
    exact bodyPost_ret (v:=.tuple #[.agg #[.slice NA n1 nc,.slice QA n2 qc],.int .i64 0]) (by simp[results,Tryz.results48,go_sem, *]) rfl
     ⟨0,_,_,rfl,fun _=>⟨nl,rl,⟨NA,nc,by rw[HN1.out],HDD.out.1.base (Nat.zero_le _)⟩,⟨QA,qc,by rw[HN2.out],HDD.out.2.base (Nat.zero_le _)⟩,HOK.out.1,HOK.out.2⟩,⟨⟨_,_,_,rfl⟩,⟨_,_,_,rfl⟩⟩,HXX.out⟩
 ·have d0:(er !=0)=true:=by simpa using e0
  have HE0:=zh e0; have P6:=Yp HR2.out zH zH
  obtain⟨W6,hW6⟩:∃W6,put2 W2 (g0+1) zH zH=W6:=⟨_,rfl⟩
  have HX6:Hid (Ext w W6):=zh (by rw[←hW6];exact T6.out W2 HX2.out)
  rw[hW6]at P6
  have z0:=cr 0 P6; have z1:=cr 1 P6; have r0:=cr 0 HR2.out; have r1:=cr 1 HR2.out; have ff:=fun k=>zi HR2.out k; have lr:=za HR2.out; simp at z0 z1 r0 r1
  unfold put2 at hW6; clear P6 e0; go_wp2_with fail; exact bodyPost_ret (v:=.tuple #[.agg #[zH,zH],.int .i64 er]) (by simp[results,Tryz.results48,go_sem, *]) rfl ⟨er,zH,zH,rfl,fun h=>absurd h HE0.out,⟨⟨_,_,_,rfl⟩,⟨_,_,_,rfl⟩⟩,HX6.out⟩
end Go.Proofs.YtmbelmngniddjaaGreat
namespace Go.Proofs.YtmbelmngniddjaaGreat
open Go.RowKit
attribute [local go_sem] zF zB zI zJ zw zt zN zD zX zQ zK zP zO zL zT zR zS zG zM zC
theorem vE {xs:List Int}{i:Nat}(h:i < xs.length)(v:Int):(xs.set i v).getD i 0=v:=by rw[List.getD_eq_getElem?_getD,List.getElem?_set_self h];rfl
theorem qO {xs:List Int}{i j:Nat}(h:j≠i)(v:Int):(xs.set i v).getD j 0=xs.getD j 0:=by rw[List.getD_eq_getElem?_getD,List.getElem?_set_ne (Ne.symm h),←List.getD_eq_getElem?_getD]
theorem zgH {xs ys:List Int}{j:Nat}(h:j < xs.length):(xs++ys).getD j 0=xs.getD j 0:=by rw[List.getD_eq_getElem?_getD,List.getElem?_append_left h,←List.getD_eq_getElem?_getD]
theorem zg4 {xs:List Int}(y:Int):(xs++[y]).getD xs.length 0=y:=by rw[List.getD_eq_getElem?_getD,List.getElem?_append_right (Nat.le_refl _)];simp
theorem ZS {xs:List Int}{j:Nat}(h:j < xs.length):xs.getD j 0∈xs:=by rw[List.getD_eq_getElem?_getD,List.getElem?_eq_getElem h];exact List.getElem_mem h
structure PtI (ps ns fs:List Int)(m i:Nat):Prop where
 nlen:ns.length=m+1
 nrng:∀x∈ns,0≤x∧x≤m
 flen:fs.length≤i
 frng:∀x∈fs,0≤x∧x < i
 hit:∀j,j < i→∃k:Nat,k < fs.length∧ns.getD j 0=k∧ps.getD (fs.getD k 0).toNat 0=ps.getD j 0
 onto:∀k:Nat,k < fs.length→∃j,j < i∧ns.getD j 0=k
theorem PtI.start (ps:List Int)(m:Nat):PtI ps (jN (fun j=>(j:Int)) 0 (m+1)) [] m 0:=
 ⟨qR _ _ _,fun x hx=>(by
   obtain⟨j,hj,rfl⟩:=List.mem_map.1 hx
   rw[if_neg (by omega)]
   omega),Nat.le_refl _,fun x hx=>(by cases hx),fun j hj=>(by omega),fun k hk=>(by simp at hk)⟩
theorem PtI.old {ps ns fs:List Int}{m i v:Nat}(h:PtI ps ns fs m i)(hi:i≤m)(hv:v < fs.length)(he:ps.getD (fs.getD v 0).toNat 0=ps.getD i 0):PtI ps (ns.set i v) fs m (i+1):=
 ⟨by rw[List.length_set];exact h.nlen,fun x hx=>by
   rcases List.mem_or_eq_of_mem_set hx with hx|rfl
   ·exact h.nrng x hx
   ·have:=h.flen;omega,by have:=h.flen;omega,fun x hx=>by have:=h.frng x hx;omega,fun j hj=>by
   by_cases hji:j=i
   ·subst hji
    exact⟨v,hv,vE (by rw[h.nlen];omega) _,he⟩
   ·obtain⟨k,h1,h2,h3⟩:=h.hit j (by omega)
    exact⟨k,h1,by rw[qO hji];exact h2,h3⟩,fun k hk=>by
   obtain⟨j,h1,h2⟩:=h.onto k hk
   exact⟨j,by omega,by rw[qO (by omega)];exact h2⟩⟩
theorem PtI.new {ps ns fs:List Int}{m i:Nat}(h:PtI ps ns fs m i)(hi:i≤m):PtI ps (ns.set i fs.length) (fs++[(i:Int)]) m (i+1):=
 ⟨by rw[List.length_set];exact h.nlen,fun x hx=>by
   rcases List.mem_or_eq_of_mem_set hx with hx|rfl
   ·exact h.nrng x hx
   ·have:=h.flen;omega,by have:=h.flen;simp;omega,fun x hx=>by
   rcases List.mem_append.1 hx with hx|hx
   ·have:=h.frng x hx;omega
   ·simp at hx;omega,fun j hj=>by
   by_cases hji:j=i
   ·subst hji
    exact⟨fs.length,by simp,vE (by rw[h.nlen];omega) _,by rw[zg4];simp⟩
   ·obtain⟨k,h1,h2,h3⟩:=h.hit j (by omega)
    exact⟨k,by simp;omega,by rw[qO hji];exact h2,by rw[zgH h1];exact h3⟩,fun k hk=>by
   rcases Nat.lt_or_ge k fs.length with hk2|hk2
   ·obtain⟨j,h1,h2⟩:=h.onto k hk2
    exact⟨j,by omega,by rw[qO (by omega)];exact h2⟩
   ·obtain rfl:k=fs.length:=by simp at hk;omega
    exact⟨i,by omega,vE (by rw[h.nlen];omega) _⟩⟩
def zjZ (ps:List Int)(m c:Nat):Prop:=∀x:Nat,x < c→∃j,j≤m∧ps.getD j 0=x
theorem PtI.more {ps ns fs:List Int}{m c:Nat}(h:PtI ps ns fs m (m+1))(hc:zjZ ps m c):c≤fs.length:=by
 have h1:∀x:Nat,x < c→∃k,k < fs.length∧ps.getD (fs.getD k 0).toNat 0=(x:Int):=fun x hx=>by
  obtain⟨j,hj,e⟩:=hc x hx
  obtain⟨k,k1,_,k3⟩:=h.hit j (by omega)
  exact⟨k,k1,k3.trans e⟩
 obtain⟨g,hg⟩:∃g:Nat→Nat,∀x,x < c→g x < fs.length∧ps.getD (fs.getD (g x) 0).toNat 0=(x:Int):=
  ⟨fun x=>if h:x < c then(h1 x h).choose else 0,fun x hx=>by simp only[dif_pos hx];exact(h1 x hx).choose_spec⟩
 have p:qY fs.length ((List.range c).map fun x=>(g x:Int)):=⟨by
  unfold List.Nodup
  rw[List.pairwise_map]
  refine List.Pairwise.imp_of_mem ?_ List.nodup_range; intro a b ha hb hab he
  rw[List.mem_range]at ha hb
  have e:g a=g b:=by exact_mod_cast he
  have ea:=(hg a ha).2; have eb:=(hg b hb).2
  rw[e]at ea
  omega,fun x hx=>by
  obtain⟨y,hy,rfl⟩:=List.mem_map.1 hx
  have:=(hg y (List.mem_range.1 hy)).1
  omega⟩
 have:=y9 p
 simpa using this
theorem PtI.next {ps ns fs:List Int}{m:Nat}(h:PtI ps ns fs m (m+1)):zjZ ns m fs.length:=fun x hx=>by
 obtain⟨j,h1,h2⟩:=h.onto x hx
 exact⟨j,by omega,h2⟩
structure PtW (W W3 w:World)(nb:Nat)(P:Option Addr)(fv:Value)(fs ns ps:List Int):Prop where
 blk:w.heap[nb]?=some (.cells (iv ns).toArray 3)
 fst:xj w W3.heap.size fv fs
 prt:xW w P ps
 ext:Ext W w
 siz:W3.heap.size≤w.heap.size
 lo:W.heap.size≤nb
 hi:nb < W3.heap.size
 old:∀b off,P=some ⟨b,off,none⟩→b < nb
section
variable {W W3 w w':World}{nb:Nat}{P:Option Addr}{fv v':Value}{fs ns ps:List Int}{y:Int}
theorem PtW.toExt (h:PtW W W3 w nb P fv fs ns ps)(e:Ext w w'):PtW W W3 w' nb P fv fs ns ps:=
 ⟨zb h.blk e,h.fst.ext e,h.prt.ext e,h.ext.trans e,Nat.le_trans h.siz e.size,h.lo,h.hi,h.old⟩
theorem J7 {S:Nat→Prop}(h:xW w P ps)(t:zA S w w')(hs:∀b off,P=some ⟨b,off,none⟩→¬S b):xW w' P ps:=fun h0=>by
 obtain⟨b,off,hP,hb,hc⟩:=h h0
 have hk:=t.block b hb (hs b off hP)
 exact⟨b,off,hP,Nat.lt_of_lt_of_le hb t.size,fun j hj=>(World.cell?_of_block (w:=w) (a:=⟨b,off+j,none⟩) hk).trans (hc j hj)⟩
theorem PtW.set (h:PtW W W3 w nb P fv fs ns ps)(k:Nat)(v:Int):PtW W W3 (w.setCell ⟨nb,k,none⟩ (.int .i64 v)) nb P fv fs (ns.set k v) ps:=by
 have T:zA (fun j=>j=nb) w (w.setCell ⟨nb,k,none⟩ (.int .i64 v)):=zA.set1 _ _ _
 refine⟨?_,?_,J7 h.prt T (fun b off hb he=>by have:=h.old b off hb;omega),T.ext h.ext (fun j hj=>by have:=h.lo;omega),Nat.le_trans h.siz T.size,h.lo,h.hi,h.old⟩
 ·have:=zn (k:=k) h.blk (.int .i64 v)
  rw[List.setIfInBounds_toArray]at this
  rw[this]
  simp[iv]
 ·obtain⟨A,c,rfl,ho⟩:=h.fst
  exact⟨A,c,rfl,ye ho fun g hg=>T.block g (z8 ho g hg) (by have:=zV ho g hg;have:=h.hi;omega)⟩
theorem PtW.grow (h:PtW W W3 w nb P fv fs ns ps)(hr:xj w' W3.heap.size v' (fs++[y]))(hg:w.grownBy w' fv.ownBlock):PtW W W3 w' nb P v' (fs++[y]) ns ps:=by
 have T:zA (fun g=>fv.ownBlock=some g) w w':=zA.grown hg (fun g hg _=>hg); have low:∀g,fv.ownBlock=some g→W3.heap.size≤g:=fun g hg=>by
  obtain⟨A,c,rfl,ho⟩:=h.fst
  exact zV ho g hg
 exact⟨T.keep h.blk (fun hh=>by have:=low _ hh;have:=h.hi;omega),hr,J7 h.prt T (fun b off hb he=>by have:=low _ he;have:=h.old b off hb;have:=h.hi;omega),T.ext h.ext (fun g hg=>by have:=low _ hg;have:=h.lo;have:=h.hi;omega),Nat.le_trans h.siz T.size,h.lo,h.hi,h.old⟩
theorem PtW.next (h:PtW W W3 w nb P fv fs ns ps){k:Nat}(hk:k < ns.length):w.cell? ⟨nb,k,none⟩=some (.int .i64 (ns.getD k 0))∧w.frozen? ⟨nb,k,none⟩=false∧nb < w.heap.size:=by
 refine⟨?_,zi h.blk k,za h.blk⟩
 rw[cr k h.blk,List.getElem?_toArray]
 exact J8 hk
end
set_option maxRecDepth 100000 in
set_option maxHeartbeats 4000000 in
theorem zez (nv rv:Value)(nl rl:List Int)(w:World)(hN:Zi w nv rv nl rl)(hO:YK nl rl):
 Calls Tryz.prog 87 #[.agg #[nv,rv]] w fun e w'=>∃(A:Option Addr) (c:Nat) (ps:List Int),e=.returned (.slice A (rl.length+1) c)∧ps.length=rl.length+1∧(∀x:Int,x∈ps→0≤x∧x≤(rl.length:Int))∧xW w' A ps∧Ext w w':=by
 obtain⟨W,hW⟩:∃W,w.alloc (.cells #[nv,rv] 35)=W:=⟨_,rfl⟩
 obtain⟨g0,hg0⟩:∃b,w.heap.size=b:=⟨_,rfl⟩
 have X1:Ext w W:=by rw[←hW];exact xi
 have B1:W.heap[g0]?=some (.cells #[nv,rv] 35):=by rw[←hW,←hg0];exact heap_alloc_new _ _
 obtain⟨m,hmm⟩:∃m,rl.length=m:=⟨_,rfl⟩
 have h2:=hO.most; have h1:=hO.one
 obtain⟨B,d,hrv,hB,_⟩:=hN.2
 obtain⟨gr,orr,rfl,lgr,hrc⟩:=(hB.ext X1) h1
 have b1:=cr 1 B1; have lb:=za B1
 rw[hrv,hmm]at b1
 simp at b1
 have HX:=zh X1; have HG0:=zh hg0; have HM:=zh hmm; have HE:Hid (∀wr,Ext W wr→wr.cell? ⟨g0,0,none⟩=some nv∧wr.cell? ⟨g0,1,none⟩=some rv∧g0 < wr.heap.size):=zh (fun wr e=>by
  have:=zb B1 e
  have b0:=cr 0 this; have b1:=cr 1 this; simp at b0 b1
  exact⟨b0,b1,za this⟩)
 have HRV:Hid (rv=.slice (some ⟨gr,orr,none⟩) m d):=zh (by rw[hrv,hmm]); have HR:Hid (∀wr,Ext W wr→∀i,i < m→wr.cell? ⟨gr,orr+i,none⟩=some (.int .i64 (rl.getD i 0))∧gr < wr.heap.size∧-1≤rl.getD i 0∧rl.getD i 0 < 16):=zh (fun wr e i hi=>by
  have hlt:i < rl.length:=by omega
  have h3:=hO.rule rl[i] (List.getElem_mem hlt); have h4:rl.getD i 0=rl[i]:=by rw[List.getD_eq_getElem?_getD,List.getElem?_eq_getElem hlt];rfl
  rw[h4]
  have:=zy (hrc i hlt) lgr e
  rw[h4]at this
  exact⟨this,Nat.lt_of_lt_of_le lgr e.size,h3.1,h3.2⟩)
 have HAL:Hid (∀(wr:World) (P:Option Addr) (pc i k:Nat) (ps:List Int),Ext W wr→xW wr P ps→ps.length=m+1→i≤m→k≤m→∃r:Bool,(r=true→ps.getD k 0=ps.getD i 0)∧Calls Tryz.prog 120 #[.agg #[nv,rv],.slice P (m+1) pc,.int .i64 i,.int .i64 k] wr fun e w'=>e=.returned (.bool r)∧Ext wr w'):=zh (fun wr P pc i k ps e hi hpl him hki=>by
  obtain⟨r,hr⟩:∃r:Bool,r=true↔zfe nl rl.length ps i k:=by
   by_cases ha:zfe nl rl.length ps i k
   ·exact⟨true,⟨fun _=>ha,fun _=>rfl⟩⟩
   ·exact⟨false,⟨fun h=>(by cases h),fun h=>absurd h ha⟩⟩
  have h:=zev nv rv nl rl ps P pc i k r wr (hN.ext (X1.trans e)) hO hi (by omega) (by omega) (by omega) hr
  rw[hpl]at h
  exact⟨r,fun h=>(hr.1 h).1.symm,h⟩)
 have hmk1:=fun w=>ziB w (m+1) ((m:Int)+1) (by omega) (by omega)
 rw[hmm]at h1 h2
 simp only[hmm]
 clear hN hO hrv hB hrc hmm B1 X1; go_in
 go_wp2_with fail
 obtain⟨pb,hpb⟩:∃pb,W.heap.size=pb:=⟨_,rfl⟩
 obtain⟨W1,hW1⟩:∃W1,W.alloc (.cells (madeCells #[.int .i64 0] (m+1)) 3)=W1:=⟨_,rfl⟩
 have X2:Ext W W1:=by rw[←hW1];exact xi
 have HP1:Hid (W1.heap[pb]?=some (.cells (iv (jN (fun j=>rl.getD j 0+1) 0 (m+1))).toArray 3)):=zh (by rw[←hW1,←hpb,←Vn];exact heap_alloc_new _ _); have HX2:=zh X2; have HPB:=zh hpb; simp only[hW1,hpb]
 clear hW1 hpb X2 b1 lb lgr hW hg0; go_loopw [5] (fun i wr=>∃k:Nat,k≤m∧i=.int .i64 k∧Hid (wr.heap[pb]?=some (.cells (iv (jN (fun j=>rl.getD j 0+1) k (m+1))).toArray 3))∧Hid (Ext W wr)) (fun i _=>m - (intOf i).toNat)
 case atStart=>exact⟨0,Nat.zero_le _,rfl,HP1,HX2⟩
 case round=>
  clear HP1 HX2
  obtain⟨k,hk,rfl,hp,hx1⟩:=hrel
  by_cases hlt:k < m
  ·obtain⟨_,e1,l0⟩:=HE.out _ hx1.out
   rw[HRV.out]at e1
   obtain⟨r0,lr,hr1,hr2⟩:=HR.out _ hx1.out k hlt
   have hp2:=zex hp.out (show k < m+1 by omega); have q0:wr.cell? ⟨pb,k,none⟩=some (.int .i64 0):=by
    rw[cr k hp.out,List.getElem?_toArray]
    unfold iv
    rw[List.getElem?_map,Zy _ (by omega),if_neg (by omega)]
    rfl
   have f0:=zi hp.out k; have lp:=za hp.out; have hxx2:Ext W (wr.setCell ⟨pb,k,none⟩ (.int .i64 (rl.getD k 0+1))):=hx1.out.setCell (by show _≤pb;have:=HPB.out;omega) _
   obtain⟨x,hx⟩:∃x,rl.getD k 0=x:=⟨_,rfl⟩
   rw[hx]at r0 hr1 hr2 hxx2
   obtain⟨W2,hW2⟩:∃W2,wr.setCell ⟨pb,k,none⟩ (.int .i64 (x+1))=W2:=⟨_,rfl⟩
   simp only[hx]at hp2
   rw[hW2]at hp2 hxx2
   have HP2:=zh hp2; have HX2:=zh hxx2; clear hp2 hxx2 hx; go_wp2_with fail; clear hW2 q0 f0; go_roundw
   case rel=>exact⟨k+1,by omega,by go_num,HP2,HX2⟩
   case measure=>simp[intOf];omega
  ·obtain rfl:k=m:=by omega
   have HP0:Hid (xW wr (some ⟨pb,0,none⟩) (ps0 rl)):=zh (by
    unfold ps0
    rw[HM.out]
    exact Vf hp.out rfl)
   have HPL:Hid ((ps0 rl).length=k+1):=zh (by rw[←HM.out];exact qR _ _ _); have HXW:=zh hx1.out; go_wp2_with fail; clear hp hx1; go_loopw [4,6] (fun pv cnt wr=>∃(P:Option Addr) (pc:Nat) (ps:List Int) (c:Nat),pv=.slice P (k+1) pc∧cnt=.int .i64 c∧c≤k+1∧Hid (xW wr P ps)∧Hid (ps.length=k+1)∧Hid (zjZ ps k c)∧Hid (Ext W wr)) (fun _ c _=>k+1 - (intOf c).toNat)
   case atStart=>exact⟨_,_,_,0,rfl,rfl,Nat.zero_le _,HP0,HPL,zh (fun x hx=>by omega),HXW⟩
   case round=>
    clear HP0 HXW HPL
    obtain⟨P,pc,ps,c,rfl,rfl,hck,hps,HPL,HON,hx1⟩:=hrel
    go_wp2_with fail
    obtain⟨nb,hnb⟩:∃nb,wr.heap.size=nb:=⟨_,rfl⟩
    obtain⟨W3,hW3⟩:∃W3,wr.alloc (.cells (madeCells #[.int .i64 0] (k+1)) 3)=W3:=⟨_,rfl⟩
    have X3:Ext wr W3:=by rw[←hW3];exact xi
    have HPW:Hid (PtW W W3 W3 nb P zH [] (jN (fun j=>(j:Int)) 0 (k+1)) ps):=zh (by
     have h1:W3.heap[nb]?=some (.cells (iv (jN (fun j=>(j:Int)) 0 (k+1))).toArray 3):=by rw[←hW3,←hnb,←Vn];exact heap_alloc_new _ _
     refine⟨h1,⟨none,0,rfl,vr.nil _ _⟩,hps.out.ext X3,hx1.out.trans X3,Nat.le_refl _,by rw[←hnb];exact hx1.out.size,za h1,fun b off hP=>?_⟩
     obtain⟨b',off',h1,h2,_⟩:=hps.out (by rw[HPL.out];omega)
     rw[hP]at h1
     injection h1 with h1; injection h1 with h1; omega)
    simp only[hW3,hnb]
    clear hW3 hnb X3 hx1 hps; go_loopw [8,9] (fun fv iv' wr=>∃(i:Nat) (ns fs:List Int),i≤k+1∧iv'=.int .i64 i∧Hid (PtW W W3 wr nb P fv fs ns ps)∧Hid (PtI ps ns fs k i)) (fun _ i _=>k+1 - (intOf i).toNat)
    case atStart=>exact⟨0,_,_,Nat.zero_le _,rfl,HPW,zh (PtI.start ps k)⟩
    case round=>
     clear HPW
     obtain⟨i,ns,fs,hi,rfl,HP,HI⟩:=hrel
     obtain⟨FA,fc,rfl,_⟩:=HP.out.fst
     obtain⟨fl,hfl⟩:∃n,fs.length=n:=⟨_,rfl⟩
     have hfli:fl≤i:=by have:=HI.out.flen;omega
     have HFL:=zh hfl; simp only[hfl]
     by_cases hlt:i < k+1
     ·have hik:i≤k:=by omega
      have dik:decide (i≤k)=true:=decide_eq_true hik; have hnl:=HI.out.nlen
      obtain⟨q0,f0,ln⟩:=HP.out.next (k:=i) (by omega)
      obtain⟨q,hq⟩:∃q,ns.getD i 0=q:=⟨_,rfl⟩
      rw[hq]at q0
      obtain⟨W4,hW4⟩:∃W4,wr.setCell ⟨nb,i,none⟩ (.int .i64 fl)=W4:=⟨_,rfl⟩
      have HP4:Hid (PtW W W3 W4 nb P (.slice FA fl fc) fs (ns.set i fl) ps):=zh (by rw[←hW4];have:=HP.out.set i fl;rw[HFL.out]at this;exact this); clear HP hnl hq hfl; go_wp2_with fail; clear hW4 q0 f0 ln; go_loopw [10] (fun kv w5=>∃j v:Nat,j≤fl∧kv=.int .i64 ((j:Int) - 1)∧Hid (PtW W W3 w5 nb P (.slice FA fl fc) fs (ns.set i v) ps)∧(v=fl∨v < fl∧ps.getD (fs.getD v 0).toNat 0=ps.getD i 0)) (fun kv _=>(intOf kv+1).toNat)
      case atStart=>exact⟨fl,fl,Nat.le_refl _,by go_num,HP4,.inl rfl⟩
      case round=>
       clear HP4
       obtain⟨j,v,hj,rfl,HP5,hv⟩:=hrel
       obtain⟨e0,e1,l0⟩:=HE.out _ HP5.out.ext
       have hv9:v≤fl:=by omega
       have hnl:=HI.out.nlen
       obtain⟨n5,f5,l5⟩:=HP5.out.next (k:=i) (by rw[List.length_set];omega)
       rw[vE (by omega)]at n5
       rcases Nat.eq_zero_or_pos j with rfl|h0
       ·have e3:((0:Nat):Int) - 1=-1:=by omega
        simp only[e3]
        rcases Nat.lt_or_ge v fl with hvl|hvl
        ·have hps2:ps.getD (fs.getD v 0).toNat 0=ps.getD i 0:=by
          rcases hv with rfl|hv
          ·omega
          ·exact hv.2
         have HI2:Hid (PtI ps (ns.set i v) fs k (i+1)):=zh (HI.out.old hik (by rw[HFL.out];exact hvl) hps2); have d1:((v:Int)==fl)=false:=by simp;omega
         have d2:decide ((v:Int)=fl)=false:=by simp;omega
         have d3:decide (v=fl)=false:=by simp;omega
         clear hv hps2 hnl; go_wp2_with fail; go_roundw
         case rel=>exact⟨i+1,_,_,by omega,by go_num,by first|exact HP5|(rw[HFL.out];exact HP5),HI2⟩
         case measure=>simp[intOf];omega
        ·obtain rfl:v=fl:=by omega
         have HI2:Hid (PtI ps (ns.set i v) (fs++[(i:Int)]) k (i+1)):=zh (by have:=HI.out.new hik;rw[HFL.out]at this;exact this); have HKL:Hid (fs.length≤1000000):=zh (by rw[HFL.out];omega); have HF5:=zh HP5.out.fst; have HSZ5:=zh HP5.out.siz; clear hv hnl; go_wp2_with (at_builtin;refine yV W3 (by rfl) (.tmp 70) (.tmp 72) rfl (HF5.out.ext xi) (i:Int) wr.heap.size rfl rfl (by simp) (by rw[cr 0 (heap_alloc_new wr (.cells #[.int .i64 (i:Int)] 3))];rfl) HKL.out (by have:=HSZ5.out;simp<;>omega) ?_;intro v6 w6 hr6 hg6 hat6)
         have HP6:=zh ((HP5.out.toExt (xi:Ext wr (wr.alloc (.cells #[.int .i64 (i:Int)] 3)))).grow hr6 hg6); go_roundw
         case rel=>exact⟨i+1,_,_,by omega,by go_num,HP6,HI2⟩
         case measure=>simp[intOf];omega
       ·obtain⟨j',rfl⟩:∃j',j=j'+1:=⟨j - 1,by omega⟩
        have e3:((j'+1:Nat):Int) - 1=(j':Int):=by omega
        simp only[e3]
        obtain⟨FA',fc',hfe,hFA⟩:=HP5.out.fst
        injection hfe with hfe1 hfe2 hfe3; subst hfe1 hfe3; clear hfe2
        obtain⟨gf,of_,rfl,lf,hfc⟩:=hFA.ints.1.get (by rw[HFL.out];omega)
        obtain⟨a,ha,hai⟩:∃a:Nat,fs.getD j' 0=a∧a < i:=⟨(fs.getD j' 0).toNat,by have:=HI.out.frng _ (ZS (xs:=fs) (j:=j') (by rw[HFL.out];omega));omega,by have:=HI.out.frng _ (ZS (xs:=fs) (j:=j') (by rw[HFL.out];omega));omega⟩
        have f0:=hfc j' _ (List.getElem?_eq_getElem (by rw[HFL.out];omega))
        rw[show fs[j']'(by rw[HFL.out];omega)=(a:Int)from by rw[←ha,List.getD_eq_getElem?_getD,List.getElem?_eq_getElem (by rw[HFL.out];omega)];rfl]at f0
        obtain⟨r,hr,hc⟩:=HAL.out wr.drew P pc i a ps (HP5.out.ext.trans xi) (HP5.out.prt.ext xi) HPL.out (by omega) (by omega)
        have HC:=zh hc; have HRR:Hid (r=true→ps.getD (fs.getD j' 0).toNat 0=ps.getD i 0):=zh (fun h=>by rw[ha];simpa using hr h); clear hFA hfc hc hr ha hnl n5 f5 l5; go_upto_region 17 with fail; refine yj (8) (zd [1,2,3,4,5] (zj [0,6] (.step 7 .fin))) (by kernel_rfl) (by kernel_rfl) ?_; refine btp ?_; refine bts ?_; refine yy fun next hn=>?_;simp only[pick,yp]; go_wp2_with fail; refine HC.out.mono ?_; rintro e w6 ⟨rfl,hx6⟩; have HY6:Hid (Ext wr w6):=zh (Ext.trans xi hx6); clear hx6 HC; go_wp2_with fail; refine zk (fun _=>yZ HY6.out) (hn _ _ ?_); clear hn next; (refine xw ?_)
        have HP6:=zh (HP5.out.toExt HY6.out); cases r with
        |false=>
         go_wp2_with fail; go_roundw
         case rel=>exact⟨j',v,by omega,by go_num,HP6,hv⟩
         case measure=>simp[intOf];try omega
        |true=>
         have hnl:=HI.out.nlen
         obtain⟨n6,f6,l6⟩:=HP6.out.next (k:=i) (by rw[List.length_set];omega)
         rw[vE (by omega)]at n6
         obtain⟨W7,hW7⟩:∃W7,w6.setCell ⟨nb,i,none⟩ (.int .i64 j')=W7:=⟨_,rfl⟩
         have HP7:Hid (PtW W W3 W7 nb P (.slice (some ⟨gf,of_,none⟩) fl fc) fs (ns.set i j') ps):=zh (by
          rw[←hW7]
          have:=HP6.out.set i j'
          rwa[List.set_set]at this)
         clear hnl; go_wp2_with fail; clear hW7 n6 f6 l6; go_roundw
         case rel=>exact⟨j',j',by omega,by go_num,HP7,.inr ⟨by omega,HRR.out rfl⟩⟩
         case measure=>simp[intOf];try omega
     ·obtain rfl:i=k+1:=by omega
      have HINT:Hid (xW wr (some ⟨nb,0,none⟩) ns):=zh (Vf HP.out.blk rfl); have HMO:=zh (HI.out.more HON.out); have HNL:Hid (ns.length=k+1):=zh HI.out.nlen; have HXX:=zh HP.out.ext
      rw[HFL.out]at HMO
      by_cases hcf:fl=c
      ·subst hcf; go_wp2_with fail; go_ret
       exact⟨_,_,ns,rfl,HNL.out,HI.out.nrng,HINT.out,HX.out.trans HXX.out⟩
      ·have d1:((fl:Int)==c)=false:=by simp;omega
       have d2:decide ((fl:Int)=c)=false:=by simp;omega
       have d3:decide (fl=c)=false:=by simp;omega
       have HN9:Hid (zjZ ns k fl):=zh (by have:=HI.out.next;rwa[HFL.out]at this); have hmo:=HMO.out; clear hfl; go_wp2_with fail; go_roundw
       case rel=>exact⟨_,_,ns,fl,rfl,by go_num,by omega,HINT,HNL,HN9,HXX⟩
       case measure=>simp[intOf];try omega
end Go.Proofs.YtmbelmngniddjaaGreat
namespace Go.Proofs.YtmbelmngniddjaaGreat
open Go.RowKit Go.Maps
attribute [local go_sem] zF zB zI zJ zw zt zN zD zX zQ zK zP zO zL zT zR zS zG zM zC
structure PrS (ps:List Int)(m p:Nat)(sl:List Int)(f:Int→Option Int):Prop where
 len:sl.length=p
 rng:∀x∈sl,0≤x∧x < (m:Int)
 nod:sl.Pairwise fun a b=>ps.getD a.toNat 0≠ps.getD b.toNat 0
 fwd:∀x k,f x=some k→0≤k∧k < (p:Int)
 bwd:∀x,f x=none→∀a∈sl,ps.getD a.toNat 0≠x
theorem PrS.few {ps sl:List Int}{m p:Nat}{f:Int→Option Int}(h:PrS ps m p sl f):p≤m:=by
 have:=y9 (m:=m) (xs:=sl) ⟨h.nod.imp fun hne he=>hne (by rw[he]),h.rng⟩
 rwa[h.len]at this
theorem PrS.new {ps sl:List Int}{m p t:Nat}{f:Int→Option Int}{x:Int}(h:PrS ps m p sl f)(ht:t < m)(hx:ps.getD t 0=x)(hf:f x=none):PrS ps m (p+1) (sl++[(t:Int)]) (fun y=>if y=x then some (p:Int)else f y):=by
 refine⟨by rw[List.length_append,h.len];rfl,fun y hy=>?_,?_,fun y k hk=>?_,fun y hy a ha=>?_⟩
 ·rcases List.mem_append.1 hy with hy|hy
  ·exact h.rng y hy
  ·rw[List.mem_singleton]at hy;subst hy;omega
 ·rw[List.pairwise_append]
  refine⟨h.nod,List.pairwise_singleton _ _,fun a ha b hb=>?_⟩
  rw[List.mem_singleton]at hb
  subst hb
  rw[Int.toNat_natCast,hx]
  exact h.bwd x hf a ha
 ·try dsimp only at hk
  by_cases hyx:y=x
  ·rw[if_pos hyx]at hk
   injection hk with hk; omega
  ·rw[if_neg hyx]at hk
   have:=h.fwd y k hk
   omega
 ·try dsimp only at hy
  by_cases hyx:y=x
  ·rw[if_pos hyx]at hy
   cases hy
  ·rw[if_neg hyx]at hy
   rcases List.mem_append.1 ha with ha|ha
   ·exact h.bwd y hy a ha
   ·rw[List.mem_singleton]at ha
    subst ha
    rw[Int.toNat_natCast,hx]
    exact fun he=>hyx he.symm
theorem PrS.one {ps:List Int}{m:Nat}(hm:0 < m):PrS ps m 1 [0] (fun y=>if y=ps.getD 0 0 then some 0 else none):=
 ⟨rfl,fun x hx=>(by rw[List.mem_singleton]at hx;subst hx;omega),List.pairwise_singleton _ _,fun x k hk=>(by
   try dsimp only at hk
   split at hk
   ·injection hk with hk;omega
   ·cases hk),fun x hx a ha=>(by
   try dsimp only at hx
   split at hx
   ·cases hx
   ·rename_i hne
    rw[List.mem_singleton]at ha
    subst ha; exact fun he=>hne he.symm)⟩
def zgG (w:World)(R:Int)(e:Ending)(w':World):Prop:=∃(nv rv:Value) (nl rl:List Int),e=.returned (.tuple #[.agg #[nv,rv],.int .i64 0])∧xj w' 0 nv nl∧xj w' 0 rv rl∧YK nl rl∧(∀r∈rl,r < R)∧(zfF nv∧zfF rv)∧Ext w w'
def LsG (w0 w:World)(db mb m p n i:Nat)(R:Int)(ps:List Int)(sv:Value):Prop:=
 ∃nv rv nl rl sl f,Ls w0 w db mb nv rv sv nl rl sl f∧PrS ps m p sl f∧zdc p i n R nl rl
set_option maxRecDepth 100000 in
set_option maxHeartbeats 1500000 in
theorem zhV (nv rv:Value)(nl rl:List Int)(R:Int)(w:World)(hN:Zi w nv rv nl rl)(hO:YK nl rl)(hR:∀r∈rl,r < R)(hR9:R≤16):
 Calls Tryz.prog 49 #[.agg #[nv,rv]] w (zgG w R):=by
 obtain⟨g0,hg0⟩:∃b,w.heap.size=b:=⟨_,rfl⟩
 obtain⟨W,hW⟩:∃W,(w.alloc (.cells #[nv,rv] 35)).alloc (.cells #[zH,zH] 35)=W:=⟨_,rfl⟩
 have X1:Ext w W:=by rw[←hW];exact xi
 have B1:W.heap[g0]?=some (.cells #[nv,rv] 35):=by rw[←hW,←hg0];exact(by simp only[zm,World.size_alloc];(repeat(split;(first|rfl|(exfalso;omega))));(try(first|(exfalso;omega)|simp_all)))
 have R1:W.heap[g0+1]?=some (.cells #[zH,zH] 35):=by rw[←hW,←hg0];exact(by simp only[zm,World.size_alloc];(repeat(split;(first|rfl|(exfalso;omega))));(try(first|(exfalso;omega)|simp_all)))
 obtain⟨m,hmm⟩:∃m,rl.length=m:=⟨_,rfl⟩
 have hm1:=hO.one; have hm2:=hO.most; have HCK:=zh (ZA nv rv nl rl W (hN.ext X1) hO); have HPA:=zh (fun w1 (e:Ext W w1)=>zez nv rv nl rl w1 (hN.ext (X1.trans e)) hO); have HTO:=zh (fun w1 (e:Ext W w1) i b hi hb=>zhr nv rv nl rl i b w1 (hN.ext (X1.trans e)) hO hi hb); have HTL:=zh (fun i b (hi:i≤rl.length) (hb:b < 256)=>zhl (i:=i) (b:=b) hO hi hb)
 obtain⟨B,d,hrv,hB,hBd⟩:=hN.2
 obtain⟨gr,orr,rfl,lgr,hrc⟩:=(hB.ext X1) hm1
 rw[hmm]at hm1 hm2 hrv
 simp only[hmm]at HCK HPA HTO HTL
 have b0:=cr 0 B1; have b1:=cr 1 B1; have lb:=za B1; simp at b0 b1
 have HB1:=zh B1; have HR1:=zh R1; have HRV:=zh hrv; have HM:=zh hmm; have HX1:=zh X1; have HG0:=zh hg0; have HRC:Hid (∀i,i < m→∃r,(-1≤r∧r < R)∧W.cell? ⟨gr,orr+i,none⟩=some (.int .i64 r)):=zh (fun i hi=>⟨rl[i]'(by omega),⟨(hO.rule _ (List.getElem_mem _)).1,hR _ (List.getElem_mem _)⟩,by have:=hrc i (by omega);rwa[List.getD_eq_getElem?_getD,List.getElem?_eq_getElem (by omega)]at this⟩); clear hN hO hB hrc hmm B1 R1 X1 hBd hrv hR; go_in
 go_wp2_with fail; try simp only[hg0]
 refine HCK.out.mono ?_; rintro e W2 ⟨rfl,hx2⟩; have HX2:=zh hx2; have c0:=zy b0 lb hx2; have c1:=zy b1 lb hx2; have lb2:=Nat.lt_of_lt_of_le lb hx2.size
 rw[HRV.out]at c1
 clear b0 b1 lb hx2 hW hg0 HCK; go_upto_region 4 with fail; refine yj (7) (zd [2] (zj [0,3,4] (.step 1 (zd [5,6] .fin)))) (by kernel_rfl) (by kernel_rfl) ?_; refine btp ?_; refine bts ?_; refine yy fun next hn=>?_;simp only[pick,yp]; go_wp2_with fail
 rw[←HRV.out]
 refine(HPA.out _ (HX2.out.trans xi)).mono ?_
 rintro e W3 ⟨PA,pc,ps,rfl,hpl,hpr,hP,hx3⟩; have HX3:=zh (Ext.trans (xi:Ext W2 W2.drew) hx3)
 obtain⟨gp,op,rfl,lgp,hpc⟩:=hP (by omega)
 have HPC:Hid (∀w1,Ext W3 w1→∀j:Nat,j≤m→w1.cell? ⟨gp,op+j,none⟩=some (.int .i64 (ps.getD j 0))∧gp < w1.heap.size):=zh (fun w1 e j hj=>⟨by
  have:=hpc j (by omega)
  exact zy this lgp e,Nat.lt_of_lt_of_le lgp e.size⟩)
 have HPR:Hid (∀j:Nat,j≤m→0≤ps.getD j 0∧ps.getD j 0≤(m:Int)):=zh (fun j hj=>hpr _ (ZS (by omega))); clear hP hx3 hpc lgp HPA hpl hpr; go_wp2_with fail; refine zk (fun _=>yZ HX3.out) (hn _ _ ?_); clear hn next; refine btp ?_; (refine xw ?_)
 have HX4:=zh (HX2.out.trans HX3.out); have HE:Hid (∀w1,Ext W3 w1→w1.cell? ⟨g0,0,none⟩=some nv∧w1.cell? ⟨g0,1,none⟩=some (.slice (some ⟨gr,orr,none⟩) m d)∧g0 < w1.heap.size∧w1.heap[g0+1]?=some (.cells #[zH,zH] 35)∧gr < w1.heap.size∧∀i,i < m→∃r,(-1≤r∧r < R)∧w1.cell? ⟨gr,orr+i,none⟩=some (.int .i64 r)):=zh (fun w1 e=>by
  have e':=HX4.out.trans e; have b:=zb HB1.out e'; have b0:=cr 0 b; have b1:=cr 1 b; simp at b0 b1
  rw[HRV.out]at b1
  refine⟨b0,b1,za b,zb HR1.out e',Nat.lt_of_lt_of_le lgr e'.size,fun i hi=>?_⟩
  obtain⟨r,h1,h2⟩:=HRC.out i hi
  exact⟨r,h1,zy h2 lgr e'⟩)
 have HT:Hid (∀w1,Ext W3 w1→∀(i b:Nat),i≤m→b < 256→Calls Tryz.prog 88 #[.agg #[nv,.slice (some ⟨gr,orr,none⟩) m d],.int .i64 i,.int .i64 b] w1 fun e w'=>e=.returned (.int .i64 (toF nl m i b))∧Ext w1 w'):=zh (fun w1 e i b hi hb=>by
  have:=HTO.out w1 (HX4.out.trans e) i b hi hb
  rwa[HRV.out]at this)
 clear HX2 HX3 HTO HRC c0 c1 lb2 HB1 HR1; have hmk:=@run_makeMap Tryz.prog
 obtain⟨q0,lq⟩:=HPC.out ((W3.alloc (.cells #[.int .i64 0] 3)).alloc (.map #[] 0)) xi 0 (by omega)
 obtain⟨qm,lqm⟩:=HPC.out W3 (Ext.refl _) m (by omega)
 rw[Nat.add_zero]at q0
 obtain⟨y0,hy0⟩:∃y,ps.getD 0 0=y:=⟨_,rfl⟩
 obtain⟨z,hz⟩:∃z,ps.getD m 0=z:=⟨_,rfl⟩
 have hyr:=HPR.out 0 (by omega)
 rw[hy0]at q0 hyr
 rw[hz]at qm
 have HZ:=zh hz
 obtain⟨a0,ha0⟩:∃a0,W3.heap.size=a0:=⟨_,rfl⟩
 have M4:YV ((W3.alloc (.cells #[.int .i64 0] 3)).alloc (.map #[] 0)) (a0+1) 0 fun _=>none:=by
  have:=YV.made (W3.alloc (.cells #[.int .i64 0] 3))
  rwa[show(W3.alloc (.cells #[.int .i64 0] 3)).heap.size=a0+1 from by rw[←ha0];simp]at this
 have S4:((W3.alloc (.cells #[.int .i64 0] 3)).alloc (.map #[] 0)).heap[a0]?=some (.cells #[.int .i64 0] 3):=by rw[←ha0];exact(by simp only[zm,World.size_alloc];(repeat(split;(first|rfl|(exfalso;omega))));(try(first|(exfalso;omega)|simp_all)))
 obtain⟨W5,hrun,hM5,hT5⟩:=M4.put (by omega) y0 0 (by omega) (by omega) (by omega) (by omega)
 have HS5:=zh (hT5.keep S4 (Ne.symm (M4.ne S4))); have HX5:Hid (Ext W3 W5):=zh (hT5.ext (xi:Ext W3 ((W3.alloc (.cells #[.int .i64 0] 3)).alloc (.map #[] 0))) (fun k hk=>by omega)); have HM5:=zh hM5; clear M4 S4 hM5 hT5
 obtain⟨db,hdb⟩:∃db,W5.heap.size=db:=⟨_,rfl⟩
 obtain⟨W5b,hW5b⟩:∃W6,W5.alloc (.cells #[zH,zH] 35)=W6:=⟨_,rfl⟩
 have D5:W5b.heap[db]?=some (.cells #[zH,zH] 35):=by rw[←hW5b,←hdb];exact heap_alloc_new _ _
 have X5:Ext W5 W5b:=by rw[←hW5b];exact xi
 obtain⟨W6,hW6⟩:∃W6,put2 W5b db zH zH=W6:=⟨_,rfl⟩
 have D6:W6.heap[db]?=some (.cells #[zH,zH] 35):=by rw[←hW6];exact Yp D5 _ _
 have X6:Ext W5 W6:=by rw[←hW6];exact(qU (S:=fun k=>k=db) rfl _ _).ext X5 (fun k hk=>by omega)
 obtain⟨mb,hmb⟩:∃mb,a0+1=mb:=⟨_,rfl⟩
 rw[hmb]at hrun
 have HI6:Hid (LsG W3 W6 db mb m 1 0 0 R ps (.slice (some ⟨a0,0,none⟩) 1 1)):=zh ⟨zH,zH,[],[],[0],_,⟨D6,by have:=HX5.out.size;omega,⟨none,0,rfl,vr.nil _ _⟩,⟨none,0,rfl,vr.nil _ _⟩,⟨some ⟨a0,0,none⟩,1,rfl,⟨rfl,.inr ⟨a0,1,_,rfl,by omega,zb HS5.out X6,Nat.le_refl _,by unfold maxLen;omega,rfl,rfl⟩⟩⟩,fun g hg=>(by cases hg),fun g hg=>(by cases hg),fun g hg=>(by cases hg),⟨1,Nat.le_refl _,by rw[←hmb];exact HM5.out.ext X6⟩,by omega,HX5.out.trans X6⟩,by have:=PrS.one (ps:=ps) hm1;rwa[hy0]at this,⟨rfl,rfl,fun r hr=>(by cases hr),fun x hx=>(by cases hx)⟩⟩; have HDB:Hid (db≠g0+1∧W3.heap.size≤db):=zh ⟨by have:=za (HE.out _ HX5.out).2.2.2.1;omega,by have:=HX5.out.size;omega⟩; have r0:=cr 0 D5; have r1:=cr 1 D5; have ff:=fun k=>zi D5 k; have lr:=za D5; simp at r0 r1
 unfold put2 at hW6; clear X5 D5 D6 X6 HS5 HM5; go_wp2_with fail; clear hW6 hrun hdb hW5b r0 r1 ff lr q0 lq qm lqm hmk ha0 hmb hz hy0 hyr; go_loopw [8,11] (fun sv iv wr=>∃i p:Nat,iv=.int .i64 i∧i≤p∧p≤m∧1≤p∧Hid (LsG W3 wr db mb m p (256*i) i R ps sv)) (fun _ i _=>m - (intOf i).toNat)
 case atStart=>exact⟨0,1,rfl,by omega,hm1,Nat.le_refl _,HI6⟩
 case round=>
  clear HI6
  obtain⟨i,p,rfl,hi,hpm,hp1,hI⟩:=hrel
  obtain⟨nv1,rv1,nl1,rl1,sl,f,hl,hps,hnum⟩:=hI.out
  have HL:=zh hl; have HPS:=zh hps; have HNUM:=zh hnum
  obtain⟨SA,sc,rfl,hSA⟩:=hl.sts
  have hsl:=hps.len; simp only[hsl]
  by_cases hlt:i < p
  ·obtain⟨gs,os,rfl,lgs,hsc⟩:=hSA.ints.1 (by omega)
   have s0:=hsc i (by omega)
   obtain⟨a,ha,him⟩:∃a:Nat,sl.getD i 0=a∧a < m:=by
    have:=hps.rng _ (ZS (xs:=sl) (j:=i) (by omega))
    exact⟨(sl.getD i 0).toNat,by omega,by omega⟩
   rw[ha]at s0
   have HA:Hid (sl.getD i 0=(a:Int)):=zh ha; have HGS:Hid ((Value.slice (some ⟨gs,os,none⟩) p sc).ownBlock=some gs):=zh rfl
   obtain⟨n0,n1,ln,_,lgr2,hrr⟩:=HE.out _ hl.ext
   obtain⟨r,hRi,rr0⟩:=hrr a him
   have HRI:=zh hRi; have d1:=cr 1 hl.blk; have ld:=za hl.blk; simp at d1
   have HLb:Hid (Ls W3 wr db mb nv1 rv1 (.slice (some ⟨gs,os,none⟩) p sc) nl1 rl1 sl f):=zh (by have:=HL.out;rw[hsl]at this;exact this); clear hsc hSA hl hrr hRi hI hps hnum hsl ha HL; have kx1:∀x:EdL wr [g0,db,gs,gr],x.V.cell? ⟨g0,1,none⟩=some (.slice (some ⟨gr,orr,none⟩) m d):=fun x=>x.cell (by simp) n1; have kx3:∀x:EdL wr [g0,db,gs,gr],x.V.cell? ⟨db,1,none⟩=some rv1:=fun x=>x.cell (by simp) d1; have kx4:∀x:EdL wr [g0,db,gs,gr],x.V.cell? ⟨gs,os+i,none⟩=some (.int .i64 a):=fun x=>x.cell (by simp) s0; have kx2:∀x:EdL wr [g0,db,gs,gr],x.V.cell? ⟨gr,orr+a,none⟩=some (.int .i64 r):=fun x=>x.cell (by simp) rr0; have kx5:∀x:EdL wr [g0,db,gs,gr],g0 < x.V.heap.size:=fun x=>x.lt (by simp) ln; have kx6:∀x:EdL wr [g0,db,gs,gr],db < x.V.heap.size:=fun x=>x.lt (by simp) ld; have kx7:∀x:EdL wr [g0,db,gs,gr],gs < x.V.heap.size:=fun x=>x.lt (by simp) lgs; have kx8:∀x:EdL wr [g0,db,gs,gr],gr < x.V.heap.size:=fun x=>x.lt (by simp) lgr2; have HLT:Hid (∀k∈[g0,db,gs,gr],k < wr.heap.size):=zh (by simp;exact⟨ln,ld,lgs,lgr2⟩); have HLW:Hid (g0 < W3.heap.size∧gr < W3.heap.size):=zh ⟨(HE.out _ (Ext.refl _)).2.2.1,(HE.out _ (Ext.refl _)).2.2.2.2.1⟩; go_upto_region 12 with fail; refine xz (T:=EdL wr [g0,db,gs,gr]) EdL.V (13) (zd [0,2,4,5,6] (zj [1,3,7,8,9] (.step 10 (.step 11 (zd [12] (.step 13 .fin)))))) (by kernel_rfl) (by kernel_rfl) ⟨⟨wr.drew,fun _ _=>rfl⟩,rfl⟩ ?_; refine btp ?_; refine bts ?_; clear kx1 kx2 kx3 kx4 kx5 kx6 kx7 kx8 n0 n1 s0 rr0 d1; refine yy fun next hn=>?_;simp only[pick,yp]; go_wp2_with fail; refine zk (fun _=>Jd (fun _ _=>rfl) (xi:Ext wr _) HLT.out) (hn _ _ ?_); clear hn next
   obtain⟨b3,hb3⟩:∃b3,wr.heap.size=b3:=⟨_,rfl⟩
   obtain⟨V3,hV3⟩:∃W3,(wr.alloc (.cells #[.int .i64 r] 3)).drew=W3:=⟨_,rfl⟩
   have X3:Ext wr V3:=by rw[←hV3];exact xi
   have HL3:=zh (HLb.out.toExt X3); have l3:b3 < V3.heap.size:=by rw[←hV3,←hb3];simp
   have a3:V3.cell? ⟨b3,0,none⟩=some (.int .i64 r):=by rw[←hV3,←hb3];exact(cr 0 (show(wr.alloc (.cells #[.int .i64 r] 3)).drew.heap[wr.heap.size]?=_ from heap_alloc_new wr (.cells #[.int .i64 r] 3))).trans (by simp)
   have HSA:Hid (∀k∈[g0,db,gs,gr],V3.heap[k]?=wr.heap[k]?):=zh (fun k hk=>X3.below.block k (HLT.out k hk)); try simp only[hV3,hb3]
   clear hV3 hb3 X3; have HRL:Hid (rl1.length≤1000000):=zh (by have:=HNUM.out.1;omega); refine yy fun next hn=>?_;simp only[pick,yp]; go_wp2_with (at_builtin;refine yV W3 (by rfl) (.tmp 45) (.tmp 54) rfl HL3.out.rul r b3 rfl rfl l3 a3 HRL.out (by have:=HL3.out.ext.size;omega) ?_;intro v4 w4 hr4 hg4 hat4)
   obtain⟨A4,l4,c4,rfl,D4,hs1,hs2,HL5⟩:=HL3.out.stepR hr4 hg4 hat4
   have hsame:∀k∈[g0,db,gs,gr],w4.heap[k]?=wr.heap[k]?:=by
    intro k hk; refine Eq.trans ?_ (HSA.out k hk); simp at hk
    rcases hk with rfl|rfl|rfl|rfl
    ·exact hs1 _ HLW.out.1
    ·exact D4.trans HL3.out.blk.symm
    ·exact hs2 _ HGS.out
    ·exact hs1 _ HLW.out.2
   refine zk (fun _=>⟨⟨w4,hsame⟩,rfl⟩) (hn _ _ ?_); clear hn next hsame hs1 hs2; have d4:=cr 1 D4; simp at d4
   have f4:=zi D4 1
   obtain⟨W5,hW5⟩:∃W5,w4.setCell ⟨db,1,none⟩ (.slice A4 l4 c4)=W5:=⟨_,rfl⟩
   rw[hW5]at HL5
   have HL5:=zh HL5; clear D4 hr4 hg4 hat4 a3 l3; refine btp ?_; refine yy fun next hn=>?_;simp only[pick,yp]; go_wp2_with fail; refine zk (fun h=>absurd rfl h) (hn _ _ ?_); clear hn next; (refine xw ?_)
   clear hW5 d4 f4 HL3; go_wp2_with fail; clear lgs ld ln lgr2; have HG5:Hid (LsG W3 W5 db mb m p (256*i+0) (i+1) R ps (.slice (some ⟨gs,os,none⟩) p sc)):=zh ⟨_,_,_,_,_,f,HL5.out,HPS.out,HNUM.out.rule HRI.out⟩; clear HNUM HRI HPS HA; go_loopw [8,12] (fun sv bv wr=>∃b p:Nat,bv=.int .i64 b∧b≤256∧i < p∧p≤m∧Hid (LsG W3 wr db mb m p (256*i+b) (i+1) R ps sv)) (fun _ b _=>256 - (intOf b).toNat)
   case atStart=>exact⟨0,p,rfl,by omega,hlt,hpm,HG5⟩
   case round=>
    clear HG5 HL5 HLb hp1 hpm hlt HLT HGS HSA HRL
    obtain⟨b,p,rfl,hb,hip,hpm,hI⟩:=hrel
    obtain⟨nv1,rv1,nl1,rl1,sl,f,hl,hps,hnum⟩:=hI.out
    have HPS:=zh hps; have HNUM:=zh hnum
    obtain⟨SA,sc,hsv,hSA⟩:=hl.sts
    have hsl:=hps.len
    rw[hsl]at hsv
    subst hsv; have HL:=zh hl; by_cases hlt:b < 256
    ·obtain⟨gs,os,rfl,lgs,hsc⟩:=hSA.ints.1 (by omega)
     have s0:=hsc i (by omega)
     obtain⟨a,ha,him⟩:∃a:Nat,sl.getD i 0=a∧a < m:=by
      have:=hps.rng _ (ZS (xs:=sl) (j:=i) (by omega))
      exact⟨(sl.getD i 0).toNat,by omega,by omega⟩
     rw[ha]at s0
     obtain⟨n0,n1,ln,_,_,_⟩:=HE.out _ hl.ext
     have C:=HT.out _ (hl.ext.trans (xi:Ext wr wr.drew)) a b (by omega) hlt; have hnl:nl1.length≤1000000:=by have:=hnum.2.1;omega
     have HNL:=zh hnl; have HSL:=zh hsl; have htm:=HTL.out a b (by have:=HM.out;omega) hlt; clear hsc hSA hl hI hnl hps hnum hsl ha
     obtain⟨t,ht⟩:∃t,toF nl m a b=t:=⟨_,rfl⟩
     rw[ht]at C htm
     have HC:=zh C; clear C ht; go_upto_region 16 with fail; refine yj (8) (zd [1,2,3,5] (zj [0,4] (.step 6 (zd [7] .fin)))) (by kernel_rfl) (by kernel_rfl) ?_; refine btp ?_; refine bts ?_; clear n0 n1 s0; refine yy fun next hn=>?_;simp only[pick,yp]; go_wp2_with fail; refine HC.out.mono ?_; rintro e w2 ⟨rfl,hx2'⟩; have HY2:Hid (Ext wr w2):=zh (Ext.trans xi hx2'); clear hx2'; go_wp2_with fail; refine zk (fun _=>yZ HY2.out) (hn _ _ ?_); clear hn next HC; refine btp ?_; (refine xw ?_)
     have HL2:=zh (HL.out.toExt HY2.out); clear HL HY2
     obtain⟨qt,lqt⟩:=HPC.out _ HL2.out.ext t htm
     obtain⟨hx0,hx9⟩:=HPR.out t htm
     have hxz:ps.getD t 0≠z→t < m:=fun hne=>by
      have:=HZ.out
      rcases Nat.lt_or_ge t m with h|h
      ·exact h
      ·obtain rfl:t=m:=by omega
       exact absurd this hne
     obtain⟨x,hx⟩:∃x,ps.getD t 0=x:=⟨_,rfl⟩
     rw[hx]at qt hx0 hx9 hxz
     have HXV:=zh hx; clear hx; have d0:=cr 0 HL2.out.blk; simp at d0
     have ld:=za HL2.out.blk; have hnl:=HNL.out; by_cases hxe:x=z
     ·subst hxe; clear hxz; go_wp2_with (at_builtin;refine yV W3 (by rfl) (.tmp 75) (.tmp 76) rfl (HL2.out.toExt xi).nxt (-1) w2.heap.size rfl rfl (by simp) (by rw[cr 0 (heap_alloc_new w2 (.cells #[.int .i64 (-1)] 3))];rfl) hnl (by have:=HL2.out.ext.size;simp<;>omega) ?_;intro v4 w4 hr4 hg4 hat4;obtain⟨A4,l4,c4,rfl,D4,HB5⟩:=(HL2.out.toExt xi).stepN hr4 hg4 hat4;have d4:=cr 0 D4;simp at d4;have f4:=zi D4 0;obtain⟨W5,hW5⟩:∃W5,w4.setCell ⟨db,0,none⟩ (.slice A4 l4 c4)=W5:=⟨_,rfl⟩;rw[hW5]at HB5;clear D4 hr4 hg4 hat4 d0 ld hnl)
      clear hW5 d4 f4; go_roundw
      case rel=>exact⟨b+1,p,by go_num,by omega,hip,hpm,zh ⟨_,_,_,_,_,f,HB5,HPS.out,HNUM.out.next (by omega)⟩⟩
      case measure=>simp[intOf];omega
     ·have htm2:=hxz hxe; have q1:(x==z)=false:=by simp;omega
      have q2:decide (x=z)=false:=by simp;omega
      obtain⟨q,hq,hm⟩:=HL2.out.map
      have hrun:=hm.look x (by omega) (by omega); have HM2:=zh (And.intro hq hm); clear hm hq hxz; cases hfx:f x with
      |some k=>
       rw[hfx]at hrun
       have hkr:=HPS.out.fwd x k hfx; have hrun':(Instr.lookup 159 (.map (some mb)) (.int .i64 x) true).run Tryz.prog w2=.ok (.tuple #[.int .i64 k,.bool true]) w2:=hrun; clear hrun hfx HM2; go_wp2_with (at_builtin;refine yV W3 (by rfl) (.tmp 103) (.tmp 105) rfl (HL2.out.toExt xi).nxt (k) w2.heap.size rfl rfl (by simp) (by rw[cr 0 (heap_alloc_new w2 (.cells #[.int .i64 (k)] 3))];rfl) hnl (by have:=HL2.out.ext.size;simp<;>omega) ?_;intro v4 w4 hr4 hg4 hat4;obtain⟨A4,l4,c4,rfl,D4,HB5⟩:=(HL2.out.toExt xi).stepN hr4 hg4 hat4;have d4:=cr 0 D4;simp at d4;have f4:=zi D4 0;obtain⟨W5,hW5⟩:∃W5,w4.setCell ⟨db,0,none⟩ (.slice A4 l4 c4)=W5:=⟨_,rfl⟩;rw[hW5]at HB5;clear D4 hr4 hg4 hat4 d0 ld hnl)
       clear hW5 d4 f4; go_roundw
       case rel=>exact⟨b+1,p,by go_num,by omega,hip,hpm,zh ⟨_,_,_,_,_,f,HB5,HPS.out,HNUM.out.next (by omega)⟩⟩
       case measure=>simp[intOf];omega
      |none=>
       rw[hfx]at hrun
       have HFX:=zh hfx; have hrun':(Instr.lookup 159 (.map (some mb)) (.int .i64 x) true).run Tryz.prog w2=.ok (.tuple #[.int .i64 0,.bool false]) w2:=hrun; clear hrun hfx; have hsl:sl.length≤1000000:=by have:=HSL.out;omega
       go_upto_region 23 with(at_builtin;refine yV W3 (by rfl) (.tmp 92) (.tmp 94) rfl (xs:=sl) ((by have h:=HL2.out.sts;exact h.ext xi)) (t:Int) w2.heap.size rfl rfl (by simp) (by rw[cr 0 (heap_alloc_new w2 (.cells #[.int .i64 ((t:Int))] 3))];rfl) hsl (by have:=HL2.out.ext.size;simp<;>omega) ?_;intro v4 w4 hr4 hg4 hat4)
       obtain⟨HS4,HK4⟩:=(HL2.out.toExt (xi:Ext w2 (w2.alloc (.cells #[.int .i64 ((t:Int))] 3)))).stepS hr4 hg4 hat4
       have hm4:=HK4 q (HM2.out.2.ext xi)
       obtain⟨A4,c4,rfl,_⟩:=id hr4
       obtain⟨qt4,lqt4⟩:=HPC.out _ HS4.ext t htm
       rw[HXV.out]at qt4
       obtain⟨w7,hrun7,hm7,hT7⟩:=hm4.put (by have:=HM2.out.1;have:=HSL.out;omega) x (p:Int) (by omega) (by omega) (by omega) (by omega)
       have h7:=HS4.put hm4 HM2.out.1 hm7 hT7; have HP7:=zh (HPS.out.new htm2 HXV.out HFX.out); have hp7:=HP7.out.few; have hlen:(sl++[(t:Int)]).length=p+1:=by rw[List.length_append,HSL.out];rfl
       rw[hlen]at h7
       have HL7:=zh h7; clear h7 hm7 hT7 hm4 HK4 HS4 hr4 hg4 hat4 HM2 d0 ld hsl; have d0:=cr 0 HL7.out.blk; simp at d0
       have ld:=za HL7.out.blk; go_wp2_with (at_builtin;refine yV W3 (by rfl) (.tmp 103) (.tmp 105) rfl (HL7.out.toExt xi).nxt ((p:Int)) w7.heap.size rfl rfl (by simp) (by rw[cr 0 (heap_alloc_new w7 (.cells #[.int .i64 ((p:Int))] 3))];rfl) hnl (by have:=HL7.out.ext.size;simp<;>omega) ?_;intro v4 w4 hr4 hg4 hat4;obtain⟨A4,l4,c4,rfl,D4,HB5⟩:=(HL7.out.toExt xi).stepN hr4 hg4 hat4;have d4:=cr 0 D4;simp at d4;have f4:=zi D4 0;obtain⟨W5,hW5⟩:∃W5,w4.setCell ⟨db,0,none⟩ (.slice A4 l4 c4)=W5:=⟨_,rfl⟩;rw[hW5]at HB5;clear D4 hr4 hg4 hat4 d0 ld hnl)
       clear hW5 d4 f4; go_roundw
       case rel=>exact⟨b+1,p+1,by go_num,by omega,by omega,hp7,zh ⟨_,_,_,_,_,_,HB5,HP7.out,(HNUM.out.wide (Nat.le_succ p)).next (by omega)⟩⟩
       case measure=>simp[intOf];omega
    ·obtain rfl:b=256:=by omega
     go_wp2_with fail; go_roundw
     case rel=>exact⟨i+1,p,by go_num,by omega,hpm,by omega,by rw[Nat.mul_add];exact hI⟩
     case measure=>simp[intOf];omega
  ·obtain rfl:i=p:=by omega
   have HPS2:=HPS; clear hI hsl hSA
   obtain⟨NA,nc,rfl,hNA⟩:=hl.nxt
   obtain⟨QA,qc,rfl,hQA⟩:=hl.rul
   have R0:=(HE.out _ hl.ext).2.2.2.1; have D0:=hl.blk; have T6:∀v1 v2,zA (fun k=>k=g0+1) wr (put2 wr (g0+1) v1 v2):=fun v1 v2=>qU (S:=fun k=>k=g0+1) rfl _ _; have HX6:Hid (∀v1 v2,Ext w (put2 wr (g0+1) v1 v2)):=zh (fun v1 v2=>(T6 v1 v2).ext (HX1.out.trans (HX4.out.trans hl.ext)) (fun k hk=>by have:=HG0.out;omega)); have HD6:Hid (∀v1 v2,vr (put2 wr (g0+1) v1 v2) W3.heap.size NA nc nl1∧vr (put2 wr (g0+1) v1 v2) W3.heap.size QA qc rl1):=zh (fun v1 v2=>⟨xF R0 (T6 v1 v2) hNA (by decide),xF R0 (T6 v1 v2) hQA (by decide)⟩)
   obtain⟨n1,hn1⟩:∃n1,nl1.length=n1:=⟨_,rfl⟩
   obtain⟨n2,hn2⟩:∃n2,rl1.length=n2:=⟨_,rfl⟩
   rw[hn1,hn2]at D0
   have HN1:=zh hn1; have HN2:=zh hn2
   obtain⟨W6,hW6⟩:∃W6,put2 wr (g0+1) (.slice NA n1 nc) (.slice QA n2 qc)=W6:=⟨_,rfl⟩
   have hx6:=HX6.out (.slice NA n1 nc) (.slice QA n2 qc); have hd6:=HD6.out (.slice NA n1 nc) (.slice QA n2 qc); have P6:=Yp R0 (.slice NA n1 nc) (.slice QA n2 qc)
   rw[hW6]at hx6 hd6 P6
   have HXX:=zh hx6; have HDD:=zh hd6; have e0:=cr 0 P6; have e1:=cr 1 P6; have d0:=cr 0 D0; have d1:=cr 1 D0; have r0:=cr 0 R0; have r1:=cr 1 R0; have ff:=fun k=>zi R0 k; simp at e0 e1 d0 d1 r0 r1
   have lr:=za R0; have ld:=za D0; unfold put2 at hW6; clear hx6 hd6 P6 R0 D0 T6 HX6 HD6 hNA hQA hn1 hn2 hl hps hnum HL; go_wp2_with fail
   exact bodyPost_ret (v:=.tuple #[.agg #[.slice NA n1 nc,.slice QA n2 qc],.int .i64 0]) (by simp[results,Tryz.results49,go_sem, *]) rfl
    ⟨_,_,nl1,rl1,rfl,⟨NA,nc,by rw[HN1.out],HDD.out.1.base (Nat.zero_le _)⟩,⟨QA,qc,by rw[HN2.out],HDD.out.2.base (Nat.zero_le _)⟩,⟨by rw[HNUM.out.1];exact hp1,by rw[HNUM.out.1];omega,by rw[HNUM.out.1,HNUM.out.2.1],fun r hr=>by have:=HNUM.out.2.2.1 r hr;omega,fun x hx=>by rw[HNUM.out.1];exact HNUM.out.2.2.2 x hx⟩,fun r hr=>(HNUM.out.2.2.1 r hr).2,⟨⟨_,_,_,rfl⟩,⟨_,_,_,rfl⟩⟩,HXX.out⟩
end Go.Proofs.YtmbelmngniddjaaGreat
