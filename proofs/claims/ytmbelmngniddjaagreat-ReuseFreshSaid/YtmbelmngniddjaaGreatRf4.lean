/- Rf: texts that the proof rests on, part 4. -/
import Derived.Test.YtmbelmngniddjaaGreatRf3
namespace Go.Proofs.YtmbelmngniddjaaGreat
open Go.RowKit
attribute [local go_sem] zF zB zI zJ zw zt zN zD zX zQ zK zP zO zL zT zR zS zG zM zC
def zbs (p:Int)(q:Int×Int×Int×Int):Value:=.agg #[.int .i64 q.1,.int .i64 p,.int .i64 q.2.1,.int .i64 q.2.2.1,.int .i64 q.2.2.2]
def zhs (w:World)(p:Nat)(q:Int×Int×Int×Int)(e:Ending)(w':World):Prop:=e=.returned (zbs p q)∧Ext w w'
theorem ziK {w:World}{b:Nat}{T:TypeId}{a0 a1 a2 a3 a4:Value}(h:w.heap[b]?=some (.cells #[a0,a1,a2,a3,a4] T))(v0 v2 v3 v4:Value):((((w.setCell ⟨b,0,none⟩ v0).setCell ⟨b,2,none⟩ v2).setCell ⟨b,3,none⟩ v3).setCell ⟨b,4,none⟩ v4).heap[b]?=some (.cells #[v0,a1,v2,v3,v4] T):=zn (zn (zn (zn h _) _) _) _
set_option maxRecDepth 100000 in
set_option maxHeartbeats 4000000 in
theorem zb5 (nv rv kv:Value)(nl rl kl:List Int)(kinds:Int)(s:ByteArray)(p:Nat)(w:World)(hN:Qp w nv rv kv nl rl kl)(hO:v9 nl rl kl kinds)(hp:p≤s.size)(hs:s.size≤1000000):
 Calls Tryz.prog 63 #[zaP nv rv kv kinds,.string s,.int .i64 p] w (zhs w p (vI nl rl kl s p)):=by
 obtain⟨g0,hg0⟩:∃b,w.heap.size=b:=⟨_,rfl⟩
 obtain⟨W,hW⟩:∃W,((w.alloc (.cells #[nv,rv,kv,.int .i64 kinds] 37)).alloc (.cells #[.int .i64 0,.int .i64 0,.int .i64 0,.int .i64 0,.int .i64 0] 83)).alloc (.cells #[.int .i64 0,.int .i64 0,.int .i64 0,.int .i64 0,.int .i64 0] 83)=W:=⟨_,rfl⟩
 have X1:Ext w W:=by rw[←hW];exact xi
 have B1:W.heap[g0]?=some (.cells #[nv,rv,kv,.int .i64 kinds] 37):=by rw[←hW,←hg0];exact(by simp only[zm,World.size_alloc];(repeat(split;(first|rfl|(exfalso;omega))));(try(first|(exfalso;omega)|simp_all)))
 have R1:W.heap[g0+1]?=some (.cells #[.int .i64 0,.int .i64 0,.int .i64 0,.int .i64 0,.int .i64 0] 83):=by rw[←hW,←hg0];exact(by simp only[zm,World.size_alloc];(repeat(split;(first|rfl|(exfalso;omega))));(try(first|(exfalso;omega)|simp_all)))
 have T1:W.heap[g0+2]?=some (.cells #[.int .i64 0,.int .i64 0,.int .i64 0,.int .i64 0,.int .i64 0] 83):=by rw[←hW,←hg0];exact(by simp only[zm,World.size_alloc];(repeat(split;(first|rfl|(exfalso;omega))));(try(first|(exfalso;omega)|simp_all)))
 obtain⟨W1,hW1⟩:∃W1,ZX W (g0+2) (.int .i64 0) (.int .i64 p) (.int .i64 0) (.int .i64 0) (.int .i64 0)=W1:=⟨_,rfl⟩
 have HT1:Hid (W1.heap[g0+2]?=some (.cells #[.int .i64 0,.int .i64 p,.int .i64 0,.int .i64 0,.int .i64 0] 83)):=zh (by rw[←hW1];exact vZ T1 _ _ _ _ _); have TT:zA (fun k=>k=g0+2) W W1:=by rw[←hW1];exact xG (S:=fun k=>k=g0+2) rfl _ _ _ _ _
 have HX1:Hid (Ext w W1):=zh (TT.ext X1 (fun k hk=>by omega)); have HR1:Hid (W1.heap[g0+1]?=some (.cells #[.int .i64 0,.int .i64 0,.int .i64 0,.int .i64 0,.int .i64 0] 83)):=zh (TT.keep R1 (by omega)); have HB1:Hid (W1.heap[g0]?=some (.cells #[nv,rv,kv,.int .i64 kinds] 37)):=zh (TT.keep B1 (by omega)); have HN:=zh hN; have HO:=zh hO; have HG0:=zh hg0; have r0:=cr 0 T1; have r1:=cr 1 T1; have r2:=cr 2 T1; have r3:=cr 3 T1; have r4:=cr 4 T1; have ff:=fun k=>zi T1 k; simp at r0 r1 r2 r3 r4
 unfold ZX yX y8 put2 at hW1; have hz:(1:Nat)+1=2:=rfl; clear hN hO X1 B1 R1 T1 TT; unfold zaP; go_in
 go_wp2_with fail; simp only[show g0+1+1=g0+2 from rfl]
 clear r0 r1 r2 r3 r4 ff hW1 hW hg0 hz
 go_loopw [2] (fun av wr=>∃(p':Nat) (ext:Int),av=.int .i64 p'∧p'≤s.size∧0≤ext∧ext≤s.size+1∧Hid (nxt nl rl kl s (s.size+1 - p') p' ext=vI nl rl kl s p)∧Hid (wr.heap[g0+2]?=some (.cells #[.int .i64 0,.int .i64 p,.int .i64 0,.int .i64 0,.int .i64 ext] 83))∧
  Hid (wr.heap[g0+1]?=some (.cells #[.int .i64 0,.int .i64 0,.int .i64 0,.int .i64 0,.int .i64 0] 83))∧Hid (wr.heap[g0]?=some (.cells #[nv,rv,kv,.int .i64 kinds] 37))∧Hid (Ext w wr)) (fun a _=>s.size+1 - (intOf a).toNat)
 case atStart=>exact⟨p,0,rfl,hp,by omega,by omega,zh rfl,HT1,HR1,HB1,HX1⟩
 case round=>
  obtain⟨p',ext,rfl,hp',hx0,hx1,hnx,ht,hr,hb,hx⟩:=hrel
  clear HT1 HR1 HB1 HX1; have b0:=cr 0 hb.out; have b1:=cr 1 hb.out; have lb:=za hb.out; simp at b0 b1
  rcases Nat.lt_or_ge p' s.size with hlt|hge
  ·have HC:=zh (ziz nv rv nl rl s p' wr (HN.out.ext hx.out).1 HO.out.dfa hlt hs)
   obtain⟨m1,m2,m3,m4,m5,m6⟩:=jn (s:=s) (p:=p') HO.out hlt
   have HST:=zh (zgF (s:=s) HO.out hlt ext (q:=xT nl rl s p') rfl)
   obtain⟨q,hq⟩:∃q,xT nl rl s p'=q:=⟨_,rfl⟩
   rw[hq]at HC HST m1 m2 m3 m4 m5 m6
   obtain⟨qr,qt,qe⟩:=q
   clear hq; dsimp only at m1 m2 m3 m4 m5 m6; go_wp2_with fail; refine HC.out.mono ?_; rintro e w2 ⟨rfl,hx2⟩; dsimp only; have ht2:=zh (zb ht.out hx2); have hr2:=zh (zb hr.out hx2); have hb2:=zh (zb hb.out hx2); have HX2:=zh (hx.out.trans hx2); clear b0 b1 lb hx2 HC
   obtain⟨xb,hxb⟩:∃xb,w2.heap.size=xb:=⟨_,rfl⟩
   obtain⟨V3,hV3⟩:∃V3,w2.alloc (.cells #[.int .i64 0,.int .i64 0,.int .i64 0,.int .i64 0] 170)=V3:=⟨_,rfl⟩
   have D3:V3.heap[xb]?=some (.cells #[.int .i64 0,.int .i64 0,.int .i64 0,.int .i64 0] 170):=by rw[←hV3,←hxb];exact heap_alloc_new _ _
   have X3:Ext w2 V3:=by rw[←hV3];exact xi
   obtain⟨V4,hV4⟩:∃V4,yX V3 xb (.int .i64 qr) (.int .i64 p') (.int .i64 qt) (.int .i64 qe)=V4:=⟨_,rfl⟩
   have hD4:V4.heap[xb]?=some (.cells #[.int .i64 qr,.int .i64 p',.int .i64 qt,.int .i64 qe] 170):=by rw[←hV4];exact yE D3 _ _ _ _
   have X4:Ext w2 V4:=by rw[←hV4];exact(yg (S:=fun k=>k=xb) rfl _ _ _ _).ext X3 (fun k hk=>by omega)
   have HD4:=zh hD4; have HX4:=zh X4; have HXB:Hid (w2.heap.size=xb):=zh hxb; have o0:=cr 0 D3; have o1:=cr 1 D3; have o2:=cr 2 D3; have o3:=cr 3 D3; have fo:=fun k=>zi D3 k; simp at o0 o1 o2 o3
   unfold yX y8 put2 at hV4; clear hD4 X4 X3 D3; have ht4:=zb ht2.out HX4.out; have b4:=cr 4 ht4; have fb:=fun k=>zi ht4 k; have lt4:=za ht4; have x0:=cr 0 HD4.out; have x3:=cr 3 HD4.out; have lx:=za HD4.out; simp at b4 x0 x3
   obtain⟨e1,he1⟩:∃e1,max ext qe=e1:=⟨_,rfl⟩
   have hmx:(if ext < qe then qe else ext)=e1:=by rw[←he1];simp only[Int.max_def];split<;>split<;>omega
   have he1b:0≤e1∧e1≤s.size+1:=by omega
   have D5:=zn (k:=4) ht4 (.int .i64 e1); have T5:zA (fun k=>k=g0+2) V4 (V4.setCell ⟨g0+2,4,none⟩ (.int .i64 e1)):=zA.set1 _ _ _
   obtain⟨V5,hV5⟩:∃V5,V4.setCell ⟨g0+2,4,none⟩ (.int .i64 e1)=V5:=⟨_,rfl⟩
   rw[hV5]at D5 T5
   have HT5:Hid (V5.heap[g0+2]?=some (.cells #[.int .i64 0,.int .i64 p,.int .i64 0,.int .i64 0,.int .i64 e1] 83)):=zh D5; have HR5:=zh (T5.keep (zb hr2.out HX4.out) (by omega)); have HB5:=zh (T5.keep (zb hb2.out HX4.out) (by omega)); have HL5:=zh (T5.keep HD4.out (by have:=za ht2.out;have:=HXB.out;omega)); have HX5:=zh (T5.ext (HX2.out.trans HX4.out) (fun k hk=>by have:=HG0.out;omega)); have HE1:=zh he1; clear D5 T5 ht4 he1; go_upto_region 7 with fail; clear hV3 hV4 hV5 o0 o1 o2 o3 fo fb b4 x0 x3 lx lt4 hmx hxb ht2 hr2 hb2 ht hr hb hx HX2 HX4 HD4; have x0:=cr 0 HL5.out; have x2:=cr 2 HL5.out; have lx:=za HL5.out; have b2:=cr 2 HB5.out; have lb:=za HB5.out; simp at x0 x2 b2
   by_cases h0:qr < 0
   ·obtain⟨Vd,hVd⟩:∃Vd,V5.drew=Vd:=⟨_,rfl⟩
    have XD:Ext V5 Vd:=by rw[←hVd];exact xi
    have TD:=zb HT5.out XD; have LD:=zb HL5.out XD; have HBD:=zh (zb HB5.out XD); have HRD:=zh (zb HR5.out XD); have HXD:=zh (HX5.out.trans XD); have hgx:g0+2≠xb:=zU HT5.out HL5.out (by decide); have T6:=zn (k:=0) TD (.int .i64 (-1)); have T7:=zn (k:=2) T6 (.int .i64 p'); have T8:=zn (k:=3) T7 (.int .i64 qt); have L6:=zY LD hgx (k:=0) (.int .i64 (-1)); have L7:=zY L6 hgx (k:=2) (.int .i64 p'); have L8:=zY L7 hgx (k:=3) (.int .i64 qt); have U8:zA (fun k=>k=g0+2) Vd (((Vd.setCell ⟨g0+2,0,none⟩ (.int .i64 (-1))).setCell ⟨g0+2,2,none⟩ (.int .i64 p')).setCell ⟨g0+2,3,none⟩ (.int .i64 qt)):=((zA.set1 _ _ _).trans (zA.set1 _ _ _)).trans (zA.set1 _ _ _)
    obtain⟨V6,hV6⟩:∃V6,Vd.setCell ⟨g0+2,0,none⟩ (.int .i64 (-1))=V6:=⟨_,rfl⟩
    rw[hV6]at T6 T7 T8 L6 L7 L8 U8
    obtain⟨V7,hV7⟩:∃V7,V6.setCell ⟨g0+2,2,none⟩ (.int .i64 p')=V7:=⟨_,rfl⟩
    rw[hV7]at T7 T8 L7 L8 U8
    obtain⟨V8,hV8⟩:∃V8,V7.setCell ⟨g0+2,3,none⟩ (.int .i64 qt)=V8:=⟨_,rfl⟩
    rw[hV8]at T8 L8 U8
    have HT6:Hid (V6.heap[g0+2]?=some (.cells #[.int .i64 (-1),.int .i64 p,.int .i64 0,.int .i64 0,.int .i64 e1] 83)):=zh T6; have HT7:Hid (V7.heap[g0+2]?=some (.cells #[.int .i64 (-1),.int .i64 p,.int .i64 p',.int .i64 0,.int .i64 e1] 83)):=zh T7; have HT8:Hid (V8.heap[g0+2]?=some (.cells #[.int .i64 (-1),.int .i64 p,.int .i64 p',.int .i64 qt,.int .i64 e1] 83)):=zh T8; have HL8:=zh L8; have HB8:=zh (U8.keep HBD.out (by omega)); have HR8:=zh (U8.keep HRD.out (by omega)); have HX8:=zh (U8.ext HXD.out (fun k hk=>by have:=HG0.out;omega)); have HS6:Hid (∀k∈[xb],V6.heap[k]?=V5.heap[k]?):=zh (fun k hk=>by obtain rfl:=List.mem_singleton.1 hk;exact L6.trans HL5.out.symm); have HS7:Hid (∀k∈[xb],V7.heap[k]?=V5.heap[k]?):=zh (fun k hk=>by obtain rfl:=List.mem_singleton.1 hk;exact L7.trans HL5.out.symm); have t0:=cr 0 TD; have t2:=cr 2 T6; have t3:=cr 3 T7; have f0:=zi TD 0; have f2:=zi T6 2; have f3:=zi T7 3; have w1:=cr 1 HL5.out; have w2':=cr 2 HL5.out; simp at t0 t2 t3 w1 w2'
    clear XD TD LD T6 T7 T8 L6 L7 L8 U8; go_upto_region 8 with fail; have kx0:∀x:EdL V5 [xb],x.V.cell? ⟨xb,1,none⟩=some (.int .i64 p'):=fun x=>x.cell (by simp) w1; have kx1:∀x:EdL V5 [xb],x.V.cell? ⟨xb,2,none⟩=some (.int .i64 qt):=fun x=>x.cell (by simp) w2'; have kx2:∀x:EdL V5 [xb],xb < x.V.heap.size:=fun x=>x.lt (by simp) lx; refine xz (T:=EdL V5 [xb]) EdL.V (9) (zd [0,2,4] (zj [1,3] (.step 5 (zd [6] (.step 7 (zd [8] (.step 9 .fin))))))) (by kernel_rfl) (by kernel_rfl) ⟨⟨V5.drew,fun _ _=>rfl⟩,rfl⟩ ?_; refine btp ?_; refine bts ?_; clear kx0 kx1 kx2 w1 w2' x0 x2 b2; simp only[hVd]
    clear hVd; refine yy fun next hn=>?_;simp only[pick,yp]; go_wp2_with fail; refine zk (fun _=>⟨⟨V6,HS6.out⟩,rfl⟩) (hn _ _ ?_); clear hn next hV6 t0 f0; refine btp ?_; refine yy fun next hn=>?_;simp only[pick,yp]; go_wp2_with fail; refine zk (fun _=>⟨⟨V7,HS7.out⟩,rfl⟩) (hn _ _ ?_); clear hn next hV7 t2 f2; refine btp ?_; refine yy fun next hn=>?_;simp only[pick,yp]; go_wp2_with fail; refine zk (fun h=>absurd rfl h) (hn _ _ ?_); clear hn next hV8 t3 f3; (refine xw ?_)
    have x0:=cr 0 HL8.out; have lx8:=za HL8.out; simp at x0
    go_upto_region 11 with fail; clear x0
    obtain⟨eN,he2⟩:∃eN,max e1 (qt+1)=eN:=⟨_,rfl⟩
    have hmx:(if e1 < qt+1 then qt+1 else e1)=eN:=by rw[←he2];simp only[Int.max_def];split<;>split<;>omega
    have t3:=cr 3 HT8.out; have t4:=cr 4 HT8.out; have f4:=zi HT8.out 4; have lt9:=za HT8.out; simp at t3 t4
    have TA:=zn (k:=4) HT8.out (.int .i64 eN); have UA:zA (fun k=>k=g0+2) V8 (V8.setCell ⟨g0+2,4,none⟩ (.int .i64 eN)):=zA.set1 _ _ _
    obtain⟨VA,hVA⟩:∃VA,V8.setCell ⟨g0+2,4,none⟩ (.int .i64 eN)=VA:=⟨_,rfl⟩
    rw[hVA]at TA UA
    have HTA:Hid (VA.heap[g0+2]?=some (.cells #[.int .i64 (-1),.int .i64 p,.int .i64 p',.int .i64 qt,.int .i64 eN] 83)):=zh TA; have HRA:=zh (UA.keep HR8.out (by omega)); have HXA:=zh (UA.ext HX8.out (fun k hk=>by have:=HG0.out;omega)); have HQ:Hid (vI nl rl kl s p=((-1),(p':Int),qt,eN)):=zh (by
     have hs':=HST.out; try dsimp only at hs'
     rw[if_pos h0,HE1.out,he2]at hs'
     rw[←hnx.out,hs'])
    clear TA UA he2; go_upto_region 12 with fail; clear hVA t3 t4 f4 hmx; have P9:=vZ HRA.out (.int .i64 ((-1))) (.int .i64 p) (.int .i64 p') (.int .i64 qt) (.int .i64 eN)
    obtain⟨W9,hW9⟩:∃W9,ZX VA (g0+1) (.int .i64 ((-1))) (.int .i64 p) (.int .i64 p') (.int .i64 qt) (.int .i64 eN)=W9:=⟨_,rfl⟩
    have HX9:Hid (Ext w W9):=zh (by rw[←hW9];exact(xG (S:=fun k=>k=g0+1) rfl _ _ _ _ _).ext HXA.out (fun k hk=>by have:=HG0.out;omega))
    rw[hW9]at P9
    have a0:=cr 0 HTA.out; have a1:=cr 1 HTA.out; have a2:=cr 2 HTA.out; have a3:=cr 3 HTA.out; have a4:=cr 4 HTA.out; have la:=za HTA.out; have r0:=cr 0 HRA.out; have r1:=cr 1 HRA.out; have r2:=cr 2 HRA.out; have r3:=cr 3 HRA.out; have r4:=cr 4 HRA.out; have ff:=fun k=>zi HRA.out k; have lr:=za HRA.out; have e0:=cr 0 P9; have e1:=cr 1 P9; have e2:=cr 2 P9; have e3:=cr 3 P9; have e4:=cr 4 P9; simp at a0 a1 a2 a3 a4 r0 r1 r2 r3 r4 e0 e1 e2 e3 e4
    unfold ZX yX y8 put2 at hW9; clear P9; go_wp2_with fail; exact bodyPost_ret (v:=.agg #[.int .i64 ((-1)),.int .i64 p,.int .i64 p',.int .i64 qt,.int .i64 eN]) (by simp[results,Tryz.results63,go_sem, *]) rfl ⟨by rw[HQ.out];rfl,HX9.out⟩
   ·obtain⟨qn,rfl⟩:∃qn:Nat,qr=(qn:Int):=⟨qr.toNat,by omega⟩
    have hqn:qn < kl.length:=by omega
    obtain⟨K,kc,hkv,hK⟩:=(HN.out.ext HX5.out).2
    obtain⟨gk,ok,rfl,lk,hkc⟩:=hK (by omega)
    have k0:=hkc qn hqn
    obtain⟨kd,hkd⟩:∃kd,kl.getD qn 0=kd:=⟨_,rfl⟩
    rw[hkd]at k0
    rw[hkv]at b2
    obtain⟨kn,hkn⟩:∃kn,kl.length=kn:=⟨_,rfl⟩
    rw[hkn]at b2
    have hqk:qn < kn:=by omega
    have HKN:=zh hkn; have HKD:=zh hkd; clear hK hkc hkd hkv hkn; by_cases h1:0≤kd
    ·have d1:decide (0≤kd)=true:=decide_eq_true h1; go_upto_region 8 with fail
     obtain⟨Vd,hVd⟩:∃Vd,V5.drew=Vd:=⟨_,rfl⟩
     have XD:Ext V5 Vd:=by rw[←hVd];exact xi
     have TD:=zb HT5.out XD; have LD:=zb HL5.out XD; have HBD:=zh (zb HB5.out XD); have HRD:=zh (zb HR5.out XD); have HXD:=zh (HX5.out.trans XD); have hgx:g0+2≠xb:=zU HT5.out HL5.out (by decide); have T6:=zn (k:=0) TD (.int .i64 (-1)); have T7:=zn (k:=2) T6 (.int .i64 p'); have T8:=zn (k:=3) T7 (.int .i64 qt); have L6:=zY LD hgx (k:=0) (.int .i64 (-1)); have L7:=zY L6 hgx (k:=2) (.int .i64 p'); have L8:=zY L7 hgx (k:=3) (.int .i64 qt); have U8:zA (fun k=>k=g0+2) Vd (((Vd.setCell ⟨g0+2,0,none⟩ (.int .i64 (-1))).setCell ⟨g0+2,2,none⟩ (.int .i64 p')).setCell ⟨g0+2,3,none⟩ (.int .i64 qt)):=((zA.set1 _ _ _).trans (zA.set1 _ _ _)).trans (zA.set1 _ _ _)
     obtain⟨V6,hV6⟩:∃V6,Vd.setCell ⟨g0+2,0,none⟩ (.int .i64 (-1))=V6:=⟨_,rfl⟩
     rw[hV6]at T6 T7 T8 L6 L7 L8 U8
     obtain⟨V7,hV7⟩:∃V7,V6.setCell ⟨g0+2,2,none⟩ (.int .i64 p')=V7:=⟨_,rfl⟩
     rw[hV7]at T7 T8 L7 L8 U8
     obtain⟨V8,hV8⟩:∃V8,V7.setCell ⟨g0+2,3,none⟩ (.int .i64 qt)=V8:=⟨_,rfl⟩
     rw[hV8]at T8 L8 U8
     have HT6:Hid (V6.heap[g0+2]?=some (.cells #[.int .i64 (-1),.int .i64 p,.int .i64 0,.int .i64 0,.int .i64 e1] 83)):=zh T6; have HT7:Hid (V7.heap[g0+2]?=some (.cells #[.int .i64 (-1),.int .i64 p,.int .i64 p',.int .i64 0,.int .i64 e1] 83)):=zh T7; have HT8:Hid (V8.heap[g0+2]?=some (.cells #[.int .i64 (-1),.int .i64 p,.int .i64 p',.int .i64 qt,.int .i64 e1] 83)):=zh T8; have HL8:=zh L8; have HB8:=zh (U8.keep HBD.out (by omega)); have HR8:=zh (U8.keep HRD.out (by omega)); have HX8:=zh (U8.ext HXD.out (fun k hk=>by have:=HG0.out;omega)); have HS6:Hid (∀k∈[xb],V6.heap[k]?=V5.heap[k]?):=zh (fun k hk=>by obtain rfl:=List.mem_singleton.1 hk;exact L6.trans HL5.out.symm); have HS7:Hid (∀k∈[xb],V7.heap[k]?=V5.heap[k]?):=zh (fun k hk=>by obtain rfl:=List.mem_singleton.1 hk;exact L7.trans HL5.out.symm); have t0:=cr 0 TD; have t2:=cr 2 T6; have t3:=cr 3 T7; have f0:=zi TD 0; have f2:=zi T6 2; have f3:=zi T7 3; have w1:=cr 1 HL5.out; have w2':=cr 2 HL5.out; simp at t0 t2 t3 w1 w2'
     clear XD TD LD T6 T7 T8 L6 L7 L8 U8; have kx0:∀x:EdL V5 [xb],x.V.cell? ⟨xb,1,none⟩=some (.int .i64 p'):=fun x=>x.cell (by simp) w1; have kx1:∀x:EdL V5 [xb],x.V.cell? ⟨xb,2,none⟩=some (.int .i64 qt):=fun x=>x.cell (by simp) w2'; have kx2:∀x:EdL V5 [xb],xb < x.V.heap.size:=fun x=>x.lt (by simp) lx; refine xz (T:=EdL V5 [xb]) EdL.V (9) (zd [0,2,4] (zj [1,3] (.step 5 (zd [6] (.step 7 (zd [8] (.step 9 .fin))))))) (by kernel_rfl) (by kernel_rfl) ⟨⟨V5.drew,fun _ _=>rfl⟩,rfl⟩ ?_; refine btp ?_; refine bts ?_; clear kx0 kx1 kx2 w1 w2' x0 x2 b2; simp only[hVd]
     clear hVd; refine yy fun next hn=>?_;simp only[pick,yp]; go_wp2_with fail; refine zk (fun _=>⟨⟨V6,HS6.out⟩,rfl⟩) (hn _ _ ?_); clear hn next hV6 t0 f0; refine btp ?_; refine yy fun next hn=>?_;simp only[pick,yp]; go_wp2_with fail; refine zk (fun _=>⟨⟨V7,HS7.out⟩,rfl⟩) (hn _ _ ?_); clear hn next hV7 t2 f2; refine btp ?_; refine yy fun next hn=>?_;simp only[pick,yp]; go_wp2_with fail; refine zk (fun h=>absurd rfl h) (hn _ _ ?_); clear hn next hV8 t3 f3; (refine xw ?_)
     have x0:=cr 0 HL8.out; have lx8:=za HL8.out; simp at x0
     have b2:=cr 2 HB8.out; have lb8:=za HB8.out; simp at b2
     obtain⟨K,kc,hkv,hK⟩:=(HN.out.ext HX8.out).2
     obtain⟨gk,ok,rfl,lk,hkc⟩:=hK (by omega)
     have k0:=hkc qn hqn
     rw[HKD.out]at k0
     rw[hkv,HKN.out]at b2
     have t0:=cr 0 HT8.out; have f0:=zi HT8.out 0; have lt8:=za HT8.out; simp at t0
     have T9:=zn (k:=0) HT8.out (.int .i64 kd); have U9:zA (fun k=>k=g0+2) V8 (V8.setCell ⟨g0+2,0,none⟩ (.int .i64 kd)):=zA.set1 _ _ _
     obtain⟨V9,hV9⟩:∃V9,V8.setCell ⟨g0+2,0,none⟩ (.int .i64 kd)=V9:=⟨_,rfl⟩
     rw[hV9]at T9 U9
     have HT9:Hid (V9.heap[g0+2]?=some (.cells #[.int .i64 kd,.int .i64 p,.int .i64 p',.int .i64 qt,.int .i64 e1] 83)):=zh T9; have HR9:=zh (U9.keep HR8.out (by omega)); have HX9':=zh (U9.ext HX8.out (fun k hk=>by have:=HG0.out;omega)); clear T9 U9 hK hkc hkv; go_upto_region 11 with fail; clear hV9 t0 f0 k0 b2 x0
     obtain⟨eN,he2⟩:∃eN,max e1 (qt+1)=eN:=⟨_,rfl⟩
     have hmx:(if e1 < qt+1 then qt+1 else e1)=eN:=by rw[←he2];simp only[Int.max_def];split<;>split<;>omega
     have t3:=cr 3 HT9.out; have t4:=cr 4 HT9.out; have f4:=zi HT9.out 4; have lt9:=za HT9.out; simp at t3 t4
     have TA:=zn (k:=4) HT9.out (.int .i64 eN); have UA:zA (fun k=>k=g0+2) V9 (V9.setCell ⟨g0+2,4,none⟩ (.int .i64 eN)):=zA.set1 _ _ _
     obtain⟨VA,hVA⟩:∃VA,V9.setCell ⟨g0+2,4,none⟩ (.int .i64 eN)=VA:=⟨_,rfl⟩
     rw[hVA]at TA UA
     have HTA:Hid (VA.heap[g0+2]?=some (.cells #[.int .i64 kd,.int .i64 p,.int .i64 p',.int .i64 qt,.int .i64 eN] 83)):=zh TA; have HRA:=zh (UA.keep HR9.out (by omega)); have HXA:=zh (UA.ext HX9'.out (fun k hk=>by have:=HG0.out;omega)); have HQ:Hid (vI nl rl kl s p=(kd,(p':Int),qt,eN)):=zh (by
      have hs':=HST.out; try dsimp only at hs'
      rw[if_neg (by omega),Int.toNat_natCast,HKD.out,if_pos h1,HE1.out,he2]at hs'
      rw[←hnx.out,hs'])
     clear TA UA he2; go_upto_region 12 with fail; clear hVA t3 t4 f4 hmx; have P9:=vZ HRA.out (.int .i64 (kd)) (.int .i64 p) (.int .i64 p') (.int .i64 qt) (.int .i64 eN)
     obtain⟨W9,hW9⟩:∃W9,ZX VA (g0+1) (.int .i64 (kd)) (.int .i64 p) (.int .i64 p') (.int .i64 qt) (.int .i64 eN)=W9:=⟨_,rfl⟩
     have HX9:Hid (Ext w W9):=zh (by rw[←hW9];exact(xG (S:=fun k=>k=g0+1) rfl _ _ _ _ _).ext HXA.out (fun k hk=>by have:=HG0.out;omega))
     rw[hW9]at P9
     have a0:=cr 0 HTA.out; have a1:=cr 1 HTA.out; have a2:=cr 2 HTA.out; have a3:=cr 3 HTA.out; have a4:=cr 4 HTA.out; have la:=za HTA.out; have r0:=cr 0 HRA.out; have r1:=cr 1 HRA.out; have r2:=cr 2 HRA.out; have r3:=cr 3 HRA.out; have r4:=cr 4 HRA.out; have ff:=fun k=>zi HRA.out k; have lr:=za HRA.out; have e0:=cr 0 P9; have e1:=cr 1 P9; have e2:=cr 2 P9; have e3:=cr 3 P9; have e4:=cr 4 P9; simp at a0 a1 a2 a3 a4 r0 r1 r2 r3 r4 e0 e1 e2 e3 e4
     unfold ZX yX y8 put2 at hW9; clear P9; go_wp2_with fail; exact bodyPost_ret (v:=.agg #[.int .i64 (kd),.int .i64 p,.int .i64 p',.int .i64 qt,.int .i64 eN]) (by simp[results,Tryz.results63,go_sem, *]) rfl ⟨by rw[HQ.out];rfl,HX9.out⟩
    ·have hs':=HST.out; try dsimp only at hs'
     rw[if_neg (by omega),Int.toNat_natCast,HKD.out,if_neg h1,HE1.out]at hs'
     obtain⟨qtn,rfl⟩:∃qtn:Nat,qt=(qtn:Int):=⟨qt.toNat,by omega⟩
     rw[Int.toNat_natCast]at hs'
     have HSS:=zh hs'; clear hs'; go_wp2_with fail; go_roundw
     case rel=>exact⟨qtn,e1,rfl,by omega,he1b.1,he1b.2,zh (by rw[←hnx.out,HSS.out]),HT5,HR5,HB5,HX5⟩
     case measure=>simp[intOf];omega
  ·have hpe:p'=s.size:=by omega
   have HC:=zh (zfI nv rv nl rl s wr (HN.out.ext hx.out).1 HO.out.dfa); have HQ:Hid (vI nl rl kl s p=((-2:Int),(s.size:Int),(s.size:Int),(s.size:Int)+1)):=zh (by rw[←hnx.out,hpe,zhP])
   rw[hpe]
   go_wp2_with fail; refine HC.out.mono ?_; rintro e w2 ⟨rfl,hx2⟩; have ht2:=zh (zb ht.out hx2); have hr2:=zh (zb hr.out hx2); have HX2:=zh (hx.out.trans hx2); clear b0 b1 lb hx2 HC
   obtain⟨xb,hxb⟩:∃xb,w2.heap.size=xb:=⟨_,rfl⟩
   obtain⟨V3,hV3⟩:∃V3,w2.alloc (.cells #[.int .i64 0,.int .i64 0,.int .i64 0,.int .i64 0] 170)=V3:=⟨_,rfl⟩
   have D3:V3.heap[xb]?=some (.cells #[.int .i64 0,.int .i64 0,.int .i64 0,.int .i64 0] 170):=by rw[←hV3,←hxb];exact heap_alloc_new _ _
   have X3:Ext w2 V3:=by rw[←hV3];exact xi
   obtain⟨V4,hV4⟩:∃V4,yX V3 xb (.int .i64 0) (.int .i64 0) (.int .i64 0) (.int .i64 0)=V4:=⟨_,rfl⟩
   have hD4:V4.heap[xb]?=some (.cells #[.int .i64 0,.int .i64 0,.int .i64 0,.int .i64 0] 170):=by rw[←hV4];exact yE D3 _ _ _ _
   have X4:Ext w2 V4:=by rw[←hV4];exact(yg (S:=fun k=>k=xb) rfl _ _ _ _).ext X3 (fun k hk=>by omega)
   have HD4:=zh hD4; have HX4:=zh X4; have HXB:Hid (w2.heap.size=xb):=zh hxb; have o0:=cr 0 D3; have o1:=cr 1 D3; have o2:=cr 2 D3; have o3:=cr 3 D3; have fo:=fun k=>zi D3 k; simp at o0 o1 o2 o3
   unfold yX y8 put2 at hV4; clear hD4 X4 X3 D3; have ht4:=zb ht2.out HX4.out; have hr4:=zb hr2.out HX4.out; have b0:=cr 0 ht4; have b2:=cr 2 ht4; have b3:=cr 3 ht4; have b4:=cr 4 ht4; have fb:=fun k=>zi ht4 k; simp at b0 b2 b3 b4
   have D5:=ziK ht4 (.int .i64 (-2)) (.int .i64 s.size) (.int .i64 s.size) (.int .i64 ((s.size:Int)+1))
   have X5:Ext w ((((V4.setCell ⟨g0+2,0,none⟩ (.int .i64 (-2))).setCell ⟨g0+2,2,none⟩ (.int .i64 s.size)).setCell ⟨g0+2,3,none⟩ (.int .i64 s.size)).setCell ⟨g0+2,4,none⟩ (.int .i64 ((s.size:Int)+1))):=
    ((((HX2.out.trans HX4.out).setCell (p:=⟨g0+2,0,none⟩) (by show _≤g0+2;have:=HG0.out;omega) _).setCell (p:=⟨g0+2,2,none⟩) (by show _≤g0+2;have:=HG0.out;omega) _).setCell (p:=⟨g0+2,3,none⟩) (by show _≤g0+2;have:=HG0.out;omega) _).setCell (p:=⟨g0+2,4,none⟩) (by show _≤g0+2;have:=HG0.out;omega) _
   have R5:=zY (zY (zY (zY hr4 (show g0+2≠g0+1 by omega) (k:=0) (.int .i64 (-2))) (show g0+2≠g0+1 by omega) (k:=2) (.int .i64 s.size)) (show g0+2≠g0+1 by omega) (k:=3) (.int .i64 s.size)) (show g0+2≠g0+1 by omega) (k:=4) (.int .i64 ((s.size:Int)+1))
   obtain⟨V5,hV5⟩:∃V5,((((V4.setCell ⟨g0+2,0,none⟩ (.int .i64 (-2))).setCell ⟨g0+2,2,none⟩ (.int .i64 s.size)).setCell ⟨g0+2,3,none⟩ (.int .i64 s.size)).setCell ⟨g0+2,4,none⟩ (.int .i64 ((s.size:Int)+1)))=V5:=⟨_,rfl⟩
   rw[hV5]at D5 X5 R5
   have HD5:=zh D5; have HX5:=zh X5; have HR5:=zh R5; clear D5 X5 R5 ht4 hr4; go_upto_region 5 with fail; clear hV3 hV4 hV5 o0 o1 o2 o3 fo b0 b2 b3 b4 fb hxb; have P9:=vZ HR5.out (.int .i64 (-2)) (.int .i64 p) (.int .i64 s.size) (.int .i64 s.size) (.int .i64 ((s.size:Int)+1))
   obtain⟨W9,hW9⟩:∃W9,ZX V5 (g0+1) (.int .i64 (-2)) (.int .i64 p) (.int .i64 s.size) (.int .i64 s.size) (.int .i64 ((s.size:Int)+1))=W9:=⟨_,rfl⟩
   have HX9:Hid (Ext w W9):=zh (by rw[←hW9];exact(xG (S:=fun k=>k=g0+1) rfl _ _ _ _ _).ext HX5.out (fun k hk=>by have:=HG0.out;omega))
   rw[hW9]at P9
   have a0:=cr 0 HD5.out; have a1:=cr 1 HD5.out; have a2:=cr 2 HD5.out; have a3:=cr 3 HD5.out; have a4:=cr 4 HD5.out; have la:=za HD5.out; have r0:=cr 0 HR5.out; have r1:=cr 1 HR5.out; have r2:=cr 2 HR5.out; have r3:=cr 3 HR5.out; have r4:=cr 4 HR5.out; have ff:=fun k=>zi HR5.out k; have lr:=za HR5.out; have e0:=cr 0 P9; have e1:=cr 1 P9; have e2:=cr 2 P9; have e3:=cr 3 P9; have e4:=cr 4 P9; simp at a0 a1 a2 a3 a4 r0 r1 r2 r3 r4 e0 e1 e2 e3 e4
   unfold ZX yX y8 put2 at hW9; clear P9; go_wp2_with fail; exact bodyPost_ret (v:=.agg #[.int .i64 (-2),.int .i64 p,.int .i64 s.size,.int .i64 s.size,.int .i64 ((s.size:Int)+1)]) (by simp[results,Tryz.results63,go_sem, *]) rfl ⟨by rw[HQ.out];rfl,HX9.out⟩
set_option maxRecDepth 100000 in
set_option maxHeartbeats 4000000 in
theorem VU (nv rv kv:Value)(nl rl kl:List Int)(kinds:Int)(s:ByteArray)(p:Nat)(w:World)(hN:Qp w nv rv kv nl rl kl)(hO:v9 nl rl kl kinds)(hp:p≤s.size)(hs:s.size≤1000000):
 Calls Tryz.prog 29 #[zaP nv rv kv kinds,.string s,.int .i64 p] w fun e w'=>e=.returned (.tuple #[zbs p (vI nl rl kl s p),.int .i64 0])∧Ext w w':=by
 obtain⟨g0,hg0⟩:∃b,w.heap.size=b:=⟨_,rfl⟩
 obtain⟨W,hW⟩:∃W,(w.alloc (.cells #[nv,rv,kv,.int .i64 kinds] 37)).alloc (.cells #[.int .i64 0,.int .i64 0,.int .i64 0,.int .i64 0,.int .i64 0] 83)=W:=⟨_,rfl⟩
 have X1:Ext w W:=by rw[←hW];exact xi
 have B1:W.heap[g0]?=some (.cells #[nv,rv,kv,.int .i64 kinds] 37):=by rw[←hW,←hg0];exact(by simp only[zm,World.size_alloc];(repeat(split;(first|rfl|(exfalso;omega))));(try(first|(exfalso;omega)|simp_all)))
 have R1:W.heap[g0+1]?=some (.cells #[.int .i64 0,.int .i64 0,.int .i64 0,.int .i64 0,.int .i64 0] 83):=by rw[←hW,←hg0];exact(by simp only[zm,World.size_alloc];(repeat(split;(first|rfl|(exfalso;omega))));(try(first|(exfalso;omega)|simp_all)))
 have b0:=cr 0 B1; have b1:=cr 1 B1; have b2:=cr 2 B1; have b3:=cr 3 B1; have lb:=za B1; simp at b0 b1 b2 b3
 have HCK:=zh (zeD nv rv kv nl rl kl kinds W (hN.ext X1) hO); have HNX:=zh (fun W' (e:Ext W W')=>zb5 nv rv kv nl rl kl kinds s p W' ((hN.ext X1).ext e) hO hp hs); have HX:=zh X1; have HB1:=zh B1; have HR1:=zh R1; have HG0:=zh hg0; have q0:decide ((p:Int) < 0)=false:=by simp
 have q1:decide ((s.size:Int) < p)=false:=by simp;omega
 have q2:decide (s.size < p)=false:=by simp;omega
 clear hN hO X1 B1 R1; unfold zaP at HCK HNX ⊢; go_in
 go_wp2_with fail; try simp only[hW]
 refine HCK.out.mono ?_; rintro e W2 ⟨rfl,hx2⟩; have hb2:=zb HB1.out hx2; have b0:=cr 0 hb2; have b1:=cr 1 hb2; have b2:=cr 2 hb2; have b3:=cr 3 hb2; have lb:=za hb2; simp at b0 b1 b2 b3
 have HX2:=zh hx2; clear hb2 hx2; go_wp2_with fail
 refine(HNX.out _ HX2.out).mono ?_
 rintro e W3 ⟨rfl,hx3⟩
 obtain⟨t,ht⟩:∃t,vI nl rl kl s p=t:=⟨_,rfl⟩
 rw[ht]
 obtain⟨t0,t1,t2,t3⟩:=t
 have HTT:=zh ht; clear ht; unfold zbs; dsimp only; have R3:=zb HR1.out (HX2.out.trans hx3); have P4:=vZ R3 (.int .i64 t0) (.int .i64 p) (.int .i64 t1) (.int .i64 t2) (.int .i64 t3)
 obtain⟨W4,hW4⟩:∃W4,ZX W3 (g0+1) (.int .i64 t0) (.int .i64 p) (.int .i64 t1) (.int .i64 t2) (.int .i64 t3)=W4:=⟨_,rfl⟩
 have HX4:Hid (Ext w W4):=zh (by rw[←hW4];exact(xG (S:=fun k=>k=g0+1) rfl _ _ _ _ _).ext (HX.out.trans (HX2.out.trans hx3)) (fun k hk=>by have:=HG0.out;omega))
 rw[hW4]at P4
 have r0:=cr 0 R3; have r1:=cr 1 R3; have r2:=cr 2 R3; have r3:=cr 3 R3; have r4:=cr 4 R3; have ff:=fun k=>zi R3 k; have e0:=cr 0 P4; have e1:=cr 1 P4; have e2:=cr 2 P4; have e3:=cr 3 P4; have e4:=cr 4 P4; simp at r0 r1 r2 r3 r4 e0 e1 e2 e3 e4
 unfold ZX yX y8 put2 at hW4; clear R3 P4 hx3 b0 b1 b2 b3 lb hW hg0; go_wp2_with fail; exact bodyPost_ret (v:=.tuple #[.agg #[.int .i64 t0,.int .i64 p,.int .i64 t1,.int .i64 t2,.int .i64 t3],.int .i64 0]) (by simp[results,Tryz.results29,go_sem, *]) rfl ⟨by rw[HTT.out];rfl,HX4.out⟩
abbrev Row:=List UInt8
abbrev RS:=Row→Prop
def qC (k:Nat)(a:Row):Bool:=decide (k≤a.length)||a.getLast?==some 255
def xK (k:Nat)(a b:Row):Row:=(if qC k a then a else a++b).take k
theorem xh {k:Nat}{a b:Row}(h:qC k a=true):xK k a b=a.take k:=by unfold xK;rw[if_pos h]
theorem qI {k:Nat}{a b:Row}(h:qC k a=false):xK k a b=(a++b).take k:=by unfold xK;rw[if_neg (by simp[h])]
theorem vP {k:Nat}{a:Row}:qC k a=false↔a.length < k∧a.getLast?≠some 255:=by
 unfold qC; simp
theorem qM {k:Nat}{a:Row}:qC k a=true↔k≤a.length∨a.getLast?=some 255:=by
 unfold qC; simp
theorem Zm (k:Nat)(a:Row)(h:qC k a=true):qC k (a.take k)=true:=by
 rw[qM]at h ⊢
 by_cases hk:k≤a.length
 ·left;simp;omega
 ·rw[List.take_of_length_le (by omega)];exact h
theorem Zw (k:Nat)(a b:Row):(a++b.take k).take k=(a++b).take k:=by
 rw[List.take_append,List.take_append,List.take_take]
 congr 2
 omega
theorem zd1 (k:Nat)(a b:Row):(xK k a b).length≤k:=by unfold xK;simp;omega
theorem Qx (k:Nat)(a b c:Row):xK k (xK k a b) c=xK k a (xK k b c):=by
 cases ha:qC k a with
 |true=>
  rw[xh ha,xh ha,xh (Zm k a ha),List.take_take,Nat.min_self]
 |false=>
  rw[qI ha,qI ha]
  obtain⟨a1,a2⟩:=vP.1 ha
  cases hb:qC k b with
  |true=>
   rw[xh hb,Zw]
   have hw:qC k (a++b)=true:=by
    rw[qM]at hb ⊢
    rcases hb with hb|hb
    ·left;simp;omega
    ·right
     rw[List.getLast?_append,hb]
     rfl
   rw[xh (Zm k _ hw),List.take_take,Nat.min_self]
  |false=>
   rw[qI hb,Zw]
   obtain⟨b1,b2⟩:=vP.1 hb
   by_cases hl:k≤(a++b).length
   ·rw[xh (Zm k _ (qM.2 (.inl hl))),List.take_take,Nat.min_self,←List.append_assoc,List.take_append_of_le_length hl]
   ·rw[List.take_of_length_le (by omega),qI,List.append_assoc]
    rw[vP]
    refine⟨by omega,?_⟩
    rw[List.getLast?_append]
    cases hbl:b.getLast? with
    |none=>simpa using a2
    |some x=>rw[hbl]at b2;simpa using b2
theorem Qm {k:Nat}{a:Row}(h:a.length≤k):xK k [] a=a:=by
 cases hk:qC k []with
 |true=>
  rw[qM]at hk
  rcases hk with hk|hk
  ·simp at hk;subst hk
   have:a=[]:=List.length_eq_zero_iff.1 (by omega)
   subst this;rfl
  ·cases hk
 |false=>rw[qI hk,List.nil_append,List.take_of_length_le h]
theorem Qn {k:Nat}{a:Row}(h:a.length≤k):xK k a []=a:=by
 unfold xK; split
 ·exact List.take_of_length_le h
 ·rw[List.append_nil];exact List.take_of_length_le h
def jm (k:Nat)(A B:RS):RS:=fun x=>∃a b,A a∧B b∧x=xK k a b
theorem jO (k:Nat)(A B C:RS):jm k (jm k A B) C=jm k A (jm k B C):=by
 funext x
 apply propext
 constructor
 ·rintro⟨_,c,⟨a,b,ha,hb,rfl⟩,hc,rfl⟩
  exact⟨a,_,ha,⟨b,c,hb,hc,rfl⟩,Qx k a b c⟩
 ·rintro⟨a,_,ha,⟨b,c,hb,hc,rfl⟩,rfl⟩
  exact⟨_,c,⟨a,b,ha,hb,rfl⟩,hc,(Qx k a b c).symm⟩
theorem vC {k:Nat}{A A' B B':RS}(h:∀x,A x→A' x)(h':∀x,B x→B' x){x:Row}(hx:jm k A B x):jm k A' B' x:=by
 obtain⟨a,b,ha,hb,rfl⟩:=hx
 exact⟨a,b,h a ha,h' b hb,rfl⟩
def QZ (k:Nat)(A:RS):Prop:=∀x,A x→x.length≤k
theorem jg (k:Nat)(A B:RS):QZ k (jm k A B):=by
 rintro x ⟨a,b,_,_,rfl⟩; exact zd1 k a b
def zaT:RS:=fun x=>x=[]
theorem zbh {k:Nat}{A:RS}(h:QZ k A):jm k zaT A=A:=by
 funext x
 apply propext
 constructor
 ·rintro⟨a,b,rfl,hb,rfl⟩
  rwa[Qm (h b hb)]
 ·intro hx
  exact⟨[],x,rfl,hx,(Qm (h x hx)).symm⟩
theorem zbR {k:Nat}{A:RS}(h:QZ k A):jm k A zaT=A:=by
 funext x
 apply propext
 constructor
 ·rintro⟨a,b,ha,rfl,rfl⟩
  rwa[Qn (h a ha)]
 ·intro hx
  exact⟨x,[],hx,rfl,(Qn (h x hx)).symm⟩
structure Pd where
 left:Int
 right:List Int
structure Gm where
 terms:Int
 nons:Int
 k:Int
 prods:List Pd
structure VE (g:Gm):Prop where
 terms:1≤g.terms∧g.terms≤8
 nons:1≤g.nons∧g.nons≤16
 k:1≤g.k∧g.k≤3
 prods:1≤g.prods.length∧g.prods.length≤64
 right:∀p∈g.prods,p.right.length≤8
 left:∀p∈g.prods,0≤p.left∧p.left < g.nons
 sym:∀p∈g.prods,∀s∈p.right,0≤s∧s < g.terms+g.nons
def Gm.kn (g:Gm):Nat:=g.k.toNat
def Qf (g:Gm)(X:Int→RS)(s:Int):RS:=if s < g.terms then fun x=>x=[UInt8.ofNat s.toNat]else X (s - g.terms)
def ofL (g:Gm)(X:Int→RS)(acc:RS)(right:List Int):RS:=right.foldl (fun acc s=>jm g.kn acc (Qf g X s)) acc
def ofS (g:Gm)(X:Int→RS)(right:List Int):RS:=ofL g X zaT right
theorem zbr (g:Gm)(X:Int→RS)(acc:RS)(r:List Int)(s:Int):ofL g X acc (r++[s])=jm g.kn (ofL g X acc r) (Qf g X s):=by simp[ofL]
theorem J0 {g:Gm}{X Y:Int→RS}(h:∀A x,X A x→Y A x){s:Int}{x:Row}(hx:Qf g X s x):Qf g Y s x:=by
 unfold Qf at*; split at hx
 ·rwa[if_pos (by assumption)]
 ·rw[if_neg (by assumption)];exact h _ _ hx
theorem Jb {g:Gm}{X Y:Int→RS}(h:∀A x,X A x→Y A x)(r:List Int):∀{acc acc':RS},(∀x,acc x→acc' x)→∀{x:Row},ofL g X acc r x→ofL g Y acc' r x:=by
 induction r with
 |nil=>intro acc acc' ha x hx;exact ha x hx
 |cons s r ih=>intro acc acc' ha x hx;exact ih (acc:=jm g.kn acc (Qf g X s)) (acc':=jm g.kn acc' (Qf g Y s)) (fun y hy=>vC ha (fun z hz=>J0 h hz) hy) hx
theorem Y3 {g:Gm}{X Y:Int→RS}(h:∀A x,X A x→Y A x){r:List Int}{x:Row}(hx:ofS g X r x):ofS g Y r x:=Jb h r (fun _ hx=>hx) hx
theorem zed {g:Gm}{X:Int→RS}(r:List Int):∀{acc:RS},QZ g.kn acc→QZ g.kn (ofL g X acc r):=by
 induction r with
 |nil=>intro acc h;exact h
 |cons s r ih=>intro acc _;exact ih (jg _ _ _)
theorem zcv (k:Nat):QZ k zaT:=by rintro x rfl;simp
theorem zeM (g:Gm)(X:Int→RS)(r:List Int):QZ g.kn (ofS g X r):=zed r (zcv _)
theorem ziq {g:Gm}{X:Int→RS}(r:List Int):∀{acc:RS},QZ g.kn acc→ofL g X acc r=jm g.kn acc (ofS g X r):=by
 induction r with
 |nil=>intro acc h;exact(zbR h).symm
 |cons s r ih=>
  intro acc h; show ofL g X (jm g.kn acc (Qf g X s)) r=jm g.kn acc (ofL g X (jm g.kn zaT (Qf g X s)) r)
  rw[ih (jg _ _ _),ih (jg _ _ _),←jO g.kn acc,←jO g.kn acc zaT,zbR h]
theorem zb2 {g:Gm}{X:Int→RS}(s:Int)(r:List Int):ofS g X (s ::r)=jm g.kn (jm g.kn zaT (Qf g X s)) (ofS g X r):=ziq r (jg _ _ _)
def j9 (g:Gm):Nat→Int→RS
 |0,_=>fun _=>False
 |n+1,A=>fun x=>∃p∈g.prods,p.left=A∧ofS g (j9 g n) p.right x
def yS (g:Gm)(A:Int):RS:=fun x=>∃n,j9 g n A x
theorem zav {g:Gm}(n:Nat):∀A x,j9 g n A x→j9 g (n+1) A x:=by
 induction n with
 |zero=>intro A x h;exact h.elim
 |succ n ih=>
  rintro A x ⟨p,hp,hl,hx⟩
  exact⟨p,hp,hl,Y3 ih hx⟩
theorem Qy {g:Gm}{n m:Nat}(h:n≤m):∀A x,j9 g n A x→j9 g m A x:=by
 induction h with
 |refl=>intro A x h;exact h
 |step _ ih=>intro A x h;exact zav _ A x (ih A x h)
theorem zjb {g:Gm}(r:List Int):∀{acc:Nat→RS},(∀n m x,n≤m→acc n x→acc m x)→∀{x:Row},ofL g (yS g) (fun x=>∃n,acc n x) r x→∃n,ofL g (j9 g n) (acc n) r x:=by
 induction r with
 |nil=>intro acc _ x hx;exact hx
 |cons s r ih=>
  intro acc hm x hx; have key:∀y,jm g.kn (fun x=>∃n,acc n x) (Qf g (yS g) s) y→∃n,jm g.kn (acc n) (Qf g (j9 g n) s) y:=by
   rintro y ⟨a,b,⟨n,ha⟩,hb,rfl⟩; unfold Qf at hb; split at hb
   ·exact⟨n,a,b,ha,by unfold Qf;rwa[if_pos (by assumption)],rfl⟩
   ·obtain⟨m,hb⟩:=hb
    exact⟨max n m,a,b,hm _ _ _ (Nat.le_max_left _ _) ha,by unfold Qf;rw[if_neg (by assumption)];exact Qy (Nat.le_max_right _ _) _ _ hb,rfl⟩
  exact ih (acc:=fun n=>jm g.kn (acc n) (Qf g (j9 g n) s)) (fun n m y h hy=>vC (hm n m · h) (fun z hz=>J0 (Qy h) hz) hy) (Jb (fun _ _ h=>h) r key hx)
theorem zi8 {g:Gm}{r:List Int}{x:Row}(h:ofS g (yS g) r x):∃n,ofS g (j9 g n) r x:=
 zjb r (acc:=fun _=>zaT) (fun _ _ _ _ h=>h) (Jb (fun _ _ h=>h) r (fun _ h=>⟨0,h⟩) h)
theorem Vc {g:Gm}{A:Int}{x:Row}:yS g A x↔∃p∈g.prods,p.left=A∧ofS g (yS g) p.right x:=by
 constructor
 ·rintro⟨n,h⟩
  cases n with
  |zero=>exact h.elim
  |succ n=>
   obtain⟨p,hp,hl,hx⟩:=h
   exact⟨p,hp,hl,Y3 (fun _ _ h=>⟨n,h⟩) hx⟩
 ·rintro⟨p,hp,hl,hx⟩
  obtain⟨n,hn⟩:=zi8 hx
  exact⟨n+1,p,hp,hl,hn⟩
theorem JA {g:Gm}{X:Int→RS}(h:∀p∈g.prods,∀x,ofS g X p.right x→X p.left x):∀A x,yS g A x→X A x:=by
 rintro A x ⟨n,hx⟩; induction n generalizing A x with
 |zero=>exact hx.elim
 |succ n ih=>
  obtain⟨p,hp,rfl,hx⟩:=hx
  exact h p hp x (Y3 ih hx)
def zaD (g:Gm):Nat→Int→RS
 |0,A=>fun x=>A=0∧x=[255]
 |n+1,A=>fun x=>zaD g n A x∨∃p∈g.prods,∃a b,p.right=a++(g.terms+A) ::b∧jm g.kn (ofS g (yS g) b) (zaD g n p.left) x
def xf (g:Gm)(A:Int):RS:=fun x=>∃n,zaD g n A x
theorem Yv {g:Gm}{p:Pd}(hp:p∈g.prods){A:Int}{a b:List Int}(hr:p.right=a++(g.terms+A) ::b){x:Row}(hx:jm g.kn (ofS g (yS g) b) (xf g p.left) x):xf g A x:=by
 obtain⟨u,v,hu,⟨n,hv⟩,rfl⟩:=hx
 exact⟨n+1,.inr ⟨p,hp,a,b,hr,u,v,hu,hv,rfl⟩⟩
theorem Ji {g:Gm}{X:Int→RS}(h0:X 0 [255])(h:∀p∈g.prods,∀A a b,p.right=a++(g.terms+A) ::b→∀x,jm g.kn (ofS g (yS g) b) (X p.left) x→X A x):∀A x,xf g A x→X A x:=by
 rintro A x ⟨n,hx⟩; induction n generalizing A x with
 |zero=>obtain⟨rfl,rfl⟩:=hx;exact h0
 |succ n ih=>
  rcases hx with hx|⟨p,hp,a,b,hr,hx⟩
  ·exact ih A x hx
  ·exact h p hp A a b hr x (vC (fun _ h=>h) (ih p.left) hx)
theorem Jj {g:Gm}(hk:1≤g.kn)(A:Int):QZ g.kn (xf g A):=by
 rintro x ⟨n,hx⟩; induction n generalizing A x with
 |zero=>obtain⟨_,rfl⟩:=hx;simpa using hk
 |succ n ih=>
  rcases hx with hx|⟨p,hp,a,b,hr,hx⟩
  ·exact ih A x hx
  ·exact jg _ _ _ x hx
def jh (g:Gm)(p:Pd):RS:=jm g.kn (ofS g (yS g) p.right) (xf g p.left)
def vd (g:Gm):Prop:=∀(i j:Nat) (p q:Pd) (x:Row),g.prods[i]?=some p→g.prods[j]?=some q→p.left=q.left→jh g p x→jh g q x→i=j
inductive Zs (g:Gm) (t:Bool):Int→Prop
 |mk {p:Pd} (hp:p∈g.prods) (h1:∀s∈p.right,s < g.terms→t=true) (h2:∀s∈p.right,g.terms≤s→Zs g t (s - g.terms)):Zs g t p.left
def ZH (g:Gm)(t:Bool)(X:Int→Prop)(s:Int):Prop:=(s < g.terms∧t=true)∨(g.terms≤s∧X (s - g.terms))
theorem Zs.of {g:Gm}{t:Bool}{p:Pd}(hp:p∈g.prods)(h:∀s∈p.right,ZH g t (Zs g t) s):Zs g t p.left:=
 .mk hp (fun s hs hl=>by rcases h s hs with h|h;exact h.2;omega) (fun s hs hl=>by rcases h s hs with h|h;omega;exact h.2)
theorem Zs.least {g:Gm}{t:Bool}{X:Int→Prop}(h:∀p∈g.prods,(∀s∈p.right,ZH g t X s)→X p.left){A:Int}(hA:Zs g t A):X A:=by
 induction hA with
 |mk hp h1 h2 ih=>
  refine h _ hp fun s hs=>?_; by_cases hl:s < g.terms
  ·exact .inl ⟨hl,h1 s hs hl⟩
  ·exact .inr ⟨by omega,ih s hs (by omega)⟩
def Qt (g:Gm)(A B:Int):Prop:=0≤B∧∃p∈g.prods,p.left=A∧∃a b,p.right=a++(g.terms+B) ::b∧∀s∈a,g.terms≤s∧Zs g false (s - g.terms)
inductive vB (g:Gm):Int→Int→Prop
 |one {A B:Int} (h:Qt g A B):vB g A B
 |step {A B C:Int} (h:Qt g A B) (h':vB g B C):vB g A C
theorem vB.trans {g:Gm}{A B C:Int}(h:vB g A B)(h':vB g B C):vB g A C:=by
 induction h with
 |one h=>exact .step h h'
 |step h _ ih=>exact .step h (ih h')
def qx (g:Gm):Prop:=∀A,¬vB g A A
theorem Qt.inside {g:Gm}(hg:VE g){A B:Int}(h:Qt g A B):0≤A∧A < g.nons∧0≤B∧B < g.nons:=by
 obtain⟨h0,p,hp,rfl,a,b,hr,_⟩:=h
 have h1:=hg.left p hp; have h2:=hg.sym p hp (g.terms+B) (by rw[hr];simp); omega
theorem zcd {α:Type}(l:List α)(p q:α→Bool)(hpq:∀x∈l,p x=true→q x=true){x:α}(hx:x∈l)(h1:q x=true)(h2:p x=false):l.countP p < l.countP q:=by
 induction l with
 |nil=>cases hx
 |cons a l ih=>
  have hle:l.countP p≤l.countP q:=List.countP_mono_left (fun y hy=>hpq y (List.mem_cons_of_mem _ hy))
  rw[List.countP_cons,List.countP_cons]
  rcases List.mem_cons.1 hx with rfl|hx
  ·rw[h1,h2];simp;omega
  ·have:=ih (fun y hy=>hpq y (List.mem_cons_of_mem _ hy)) hx
   have h3:=hpq a (by simp); cases hpa:p a with
   |true=>rw[h3 hpa];simp;omega
   |false=>simp;cases q a<;>simp<;>omega
noncomputable def bC (p:Prop):Bool:=@decide p (Classical.propDecidable p)
theorem zfk {p:Prop}:bC p=true↔p:=@decide_eq_true_iff p (Classical.propDecidable p)
theorem zbt {p:Prop}:bC p=false↔¬p:=@decide_eq_false_iff_not p (Classical.propDecidable p)
noncomputable def vF (g:Gm)(A:Int):Nat:=(List.range g.nons.toNat).countP fun n:Nat=>bC (vB g A (n:Int))
theorem zeA {g:Gm}(hg:VE g)(hf:qx g){A B:Int}(h:Qt g A B):vF g B < vF g A:=by
 unfold vF
 obtain⟨_,_,h0,h1⟩:=h.inside hg
 refine zcd _ _ _ (fun n _ hn=>?_) (x:=B.toNat) (List.mem_range.2 (by omega)) ?_ ?_
 ·rw[zfk]at hn ⊢
  exact .step h hn
 ·rw[zfk,Int.toNat_of_nonneg h0]
  exact .one h
 ·rw[zbt,Int.toNat_of_nonneg h0]
  exact hf B
theorem zbo {g:Gm}(hf:qx g){A:Int}(h0:0≤A)(h1:A < g.nons):vF g A < g.nons.toNat:=by
 unfold vF; have h:=zcd (List.range g.nons.toNat) (fun n:Nat=>bC (vB g A (n:Int))) (fun _=>true) (fun _ _ _=>rfl) (x:=A.toNat) (List.mem_range.2 (by omega)) rfl (by
  rw[zbt,Int.toNat_of_nonneg h0]
  exact hf A)
 rw[List.countP_true,List.length_range]at h
 exact h
structure DtP where
 sym:Int
 kind:Int
 lo:Int
 inn:Int
 hi:Int
 look:Int
inductive yi where
 |node:DtP→List yi→yi
def yi.d:yi→DtP
 | .node d _=>d
def yi.kids:yi→List yi
 | .node _ k=>k
mutual
def yu:yi→Nat
 | .node _ ks=>1+yL ks
def yL:List yi→Nat
 |[]=>0
 |t ::ts=>yu t+yL ts
end
theorem qi (a b:List yi):yL (a++b)=yL a+yL b:=by
 induction a with
 |nil=>simp[yL]
 |cons t ts ih=>simp only[List.cons_append,yL,ih];omega
theorem zfh (t:yi):yL [t]=yu t:=by simp[yL]
theorem yF (d:DtP)(ks:List yi):yu (.node d ks)=1+yL ks:=by simp[yu]
structure LxP where
 g:Gm
 n:Nat
 tk:Nat→Int×Int×Int×Int
 pred:Int→Row→Int
 beh:Int→Int→Bool
def QS (k:Int):UInt8:=if k=-1 then 254 else UInt8.ofNat k.toNat
def Zd (tk:Nat→Int×Int×Int×Int):Nat→Nat→Row→Int→Row×Int
 |0,_,row,ext=>(row,ext)
 |k+1,p,row,ext=>if(tk p).1=-2 then(row++[255],max ext (tk p).2.2.2)else Zd tk k (tk p).2.2.1.toNat (row++[QS (tk p).1]) (max ext (tk p).2.2.2)
def LxP.win (L:LxP)(p:Nat):Row×Int:=Zd L.tk L.g.kn p [] p
def xt (kind:Int)(p:Nat)(q:Int×Int×Int×Int):DtP:=⟨q.1,kind,p,q.2.1,q.2.2.1,q.2.2.2⟩
def LxP.right (L:LxP)(i:Int):List Int:=((L.g.prods[i.toNat]?).map (·.right)).getD []
mutual
def yG (L:LxP):Nat→Int→Nat→Int→List yi→Nat→Option yi
 |0,_,_,_,_,_=>none
 |f+1,left,til,look,kids,lo=>
  if 0≤L.pred left (L.win til).1 then
   match yz L f (L.right (L.pred left (L.win til).1)) til kids with
   |none=>none
   |some (ks,to')=>some (.node ⟨L.g.terms+left,2,lo,lo,to',max look (L.win til).2⟩ ks)
  else if(L.tk til).1=-2∨L.beh left (L.tk til).1=true then some (.node ⟨L.g.terms+left,if kids.isEmpty then 4 else 2,lo,lo,til,max look (L.win til).2⟩ kids)
  else yG L f left (L.tk til).2.2.1.toNat (max look (L.win til).2) (kids++[.node (xt 5 til (L.tk til)) []]) lo
def yz (L:LxP):Nat→List Int→Nat→List yi→Option (List yi×Nat)
 |0,_,_,_=>none
 |_+1,[],til,kids=>some (kids,til)
 |f+1,s ::r,til,kids=>
  match vG L f s til with
  |none=>none
  |some t=>yz L f r t.d.hi.toNat (kids++[t])
def vG (L:LxP):Nat→Int→Nat→Option yi
 |0,_,_=>none
 |f+1,s,p=>
  if L.g.terms≤s then yG L f (s - L.g.terms) p 0 [] p
  else if(L.tk p).1=s then some (.node (xt 3 p (L.tk p)) [])
  else some (.node ⟨s,4,p,p,p,(L.tk p).2.2.2⟩ [])
end
theorem JC (L:LxP):∀f,(∀left til look kids lo t,yG L f left til look kids lo=some t→yG L (f+1) left til look kids lo=some t)∧(∀r til kids z,yz L f r til kids=some z→yz L (f+1) r til kids=some z)∧∀s p t,vG L f s p=some t→vG L (f+1) s p=some t:=by
 intro f; induction f with
 |zero=>refine⟨?_,?_,?_⟩<;>intros<;>simp_all [yG,yz,vG]
 |succ f ih=>
  obtain⟨h1,h2,h3⟩:=ih
  refine⟨fun left til look kids lo t h=>?_,fun r til kids z h=>?_,fun s p t h=>?_⟩
  ·unfold yG at h ⊢; split at h
   ·rename_i hp
    rw[if_pos hp]
    cases hs:yz L f (L.right (L.pred left (L.win til).1)) til kids with
    |none=>rw[hs]at h;cases h
    |some z=>rw[hs]at h;rw[h2 _ _ _ _ hs];exact h
   ·rename_i hp
    rw[if_neg hp]
    split at h
    ·rename_i hq;rw[if_pos hq];exact h
    ·rename_i hq;rw[if_neg hq];exact h1 _ _ _ _ _ _ h
  ·cases r with
   |nil=>unfold yz at h ⊢;exact h
   |cons s r=>
    unfold yz at h ⊢; cases hs:vG L f s til with
    |none=>rw[hs]at h;cases h
    |some t=>rw[hs]at h;rw[h3 _ _ _ hs];exact h2 _ _ _ _ h
  ·unfold vG at h ⊢; split at h
   ·rename_i hp;rw[if_pos hp];exact h1 _ _ _ _ _ _ h
   ·rename_i hp;rw[if_neg hp];exact h
theorem Zv {L:LxP}{f f':Nat}(h:f≤f'){r:List Int}{til:Nat}{kids:List yi}{z:List yi×Nat}(ht:yz L f r til kids=some z):yz L f' r til kids=some z:=by
 induction h with
 |refl=>exact ht
 |step _ ih=>exact(JC L _).2.1 _ _ _ _ ih
theorem YQ {L:LxP}{f f':Nat}(h:f≤f'){s:Int}{p:Nat}{t:yi}(ht:vG L f s p=some t):vG L f' s p=some t:=by
 induction h with
 |refl=>exact ht
 |step _ ih=>exact(JC L _).2.2 _ _ _ ih
theorem zfJ (tk:Nat→Int×Int×Int×Int):∀(k p:Nat) (row:Row) (e e':Int),(Zd tk k p row e).1=row++(Zd tk k p [] e').1:=by
 intro k; induction k with
 |zero=>intro p row e e';simp[Zd]
 |succ k ih=>
  intro p row e e'; unfold Zd; split
  ·simp
  ·rw[ih _ _ _ 0,ih _ _ (max e' _) 0];simp
theorem zbZ (tk:Nat→Int×Int×Int×Int):∀(k p:Nat) (row:Row) (e:Int),e≤(Zd tk k p row e).2:=by
 intro k; induction k with
 |zero=>intro p row e;exact Int.le_refl _
 |succ k ih=>
  intro p row e; unfold Zd; split
  ·exact Int.le_max_left _ _
  ·exact Int.le_trans (Int.le_max_left _ _) (ih _ _ _)
theorem zgi (L:LxP)(hk:1≤L.g.kn)(p:Nat):∃r,(L.win p).1=(if(L.tk p).1=-2 then 255 else QS (L.tk p).1) ::r:=by
 obtain⟨k,hk⟩:∃k,L.g.kn=k+1:=⟨L.g.kn - 1,by omega⟩
 unfold LxP.win
 rw[hk]
 unfold Zd; split
 ·exact⟨[],rfl⟩
 ·rw[zfJ _ _ _ _ _ 0];exact⟨_,rfl⟩
theorem zd0 (L:LxP)(hk:1≤L.g.kn)(p:Nat):(L.tk p).2.2.2≤(L.win p).2:=by
 obtain⟨k,hk⟩:∃k,L.g.kn=k+1:=⟨L.g.kn - 1,by omega⟩
 unfold LxP.win
 rw[hk]
 unfold Zd; split
 ·exact Int.le_max_right _ _
 ·exact Int.le_trans (Int.le_max_right _ _) (zbZ _ _ _ _ _)
structure QL (L:LxP):Prop where
 gm:VE L.g
 nons:L.g.nons≤6
 short:∀p∈L.g.prods,p.right.length≤5
 left:qx L.g
 strong:vd L.g
 tok:∀p,p≤L.n→-2≤(L.tk p).1∧(L.tk p).1 < L.g.terms∧(p:Int)≤(L.tk p).2.1∧(L.tk p).2.1≤(L.tk p).2.2.1∧(L.tk p).2.2.1≤L.n∧(L.tk p).2.2.1+1≤(L.tk p).2.2.2∧(L.tk p).2.2.2≤L.n+1∧((L.tk p).1≠-2→(p:Int) < (L.tk p).2.2.1)
 yes:∀A w,0≤L.pred A w→∃p,L.g.prods[(L.pred A w).toNat]?=some p∧p.left=A∧jh L.g p w
 no:∀A w,L.pred A w < 0→∀p∈L.g.prods,p.left=A→¬jh L.g p w
def mK:Nat→Nat
 |0=>0
 |k+1=>5*mK k+1
theorem zh8 {k:Nat}:∀{m:Nat},k≤m→mK k≤mK m
 |0,h=>by
  obtain rfl:k=0:=by omega
  exact Nat.le_refl _
 |m+1,h=>by
  by_cases hk:k=m+1
  ·subst hk;exact Nat.le_refl _
  ·have:=zh8 (k:=k) (m:=m) (by omega)
   show mK k≤5*mK m+1; omega
theorem mK6 {k:Nat}(h:k≤6):mK k≤3906:=Nat.le_trans (zh8 h) (by decide)
theorem JT (g:Gm)(A:Int):QZ g.kn (yS g A):=by
 rintro x ⟨n,hx⟩; cases n with
 |zero=>exact hx.elim
 |succ n=>
  obtain⟨p,_,_,hx⟩:=hx
  exact zeM _ _ _ x hx
theorem VE.kn {g:Gm}(h:VE g):1≤g.kn:=by
 have:=h.k
 unfold Gm.kn; omega
theorem zcK {k:Nat}(hk:1≤k)(b:UInt8)(y:Row):∃r,xK k [b] y=b ::r:=by
 obtain⟨k,rfl⟩:∃j,k=j+1:=⟨k - 1,by omega⟩
 unfold xK; split
 ·exact⟨_,rfl⟩
 ·exact⟨_,rfl⟩
theorem ziH {g:Gm}(hk:1≤g.kn){X:Int→RS}{s:Int}{r:List Int}{C:RS}{w:Row}(hs:s < g.terms)(h:jm g.kn (ofS g X (s ::r)) C w):∃y,w=UInt8.ofNat s.toNat ::y:=by
 rw[zb2,jO]at h
 obtain⟨a,b,⟨a1,a2,rfl,ha,rfl⟩,_,rfl⟩:=h
 unfold Qf at ha
 rw[if_pos hs]at ha
 subst ha
 rw[Qm (by simpa using hk)]
 exact zcK hk _ _
theorem zjw {g:Gm}{s:Int}{r:List Int}{C:RS}{w:Row}(hs:g.terms≤s)(h:jm g.kn (ofS g (yS g) (s ::r)) C w):jm g.kn (yS g (s - g.terms)) (jm g.kn (ofS g (yS g) r) C) w:=by
 rw[zb2,jO]at h
 have:Qf g (yS g) s=yS g (s - g.terms):=by
  unfold Qf
  rw[if_neg (by omega)]
 rw[this,zbh (JT g _)]at h
 exact h
section
variable {L:LxP}(H:QL L)
include H
theorem QL.rank {A:Int}(h0:0≤A)(h1:A < L.g.nons):vF L.g A+1≤6:=by
 have:=zbo H.left h0 h1
 have:=H.nons
 omega
theorem QL.first {til:Nat}(hto:til≤L.n){s:Int}(h0:0≤s)(hs:s < L.g.terms){y:Row}(h:(L.win til).1=UInt8.ofNat s.toNat ::y):(L.tk til).1=s:=by
 obtain⟨r,hr⟩:=zgi L H.gm.kn til
 rw[hr]at h
 injection h with h _
 obtain⟨t1,t2,_⟩:=H.tok til hto
 have h8:=H.gm.terms; have hsn:(UInt8.ofNat s.toNat).toNat=s.toNat:=by
  rw[UInt8.toNat_ofNat']
  omega
 have hh:=congrArg UInt8.toNat h
 rw[hsn]at hh
 by_cases e:(L.tk til).1=-2
 ·rw[if_pos e]at hh
  have:(255:UInt8).toNat=255:=rfl
  omega
 ·rw[if_neg e]at hh
  unfold QS at hh; by_cases e1:(L.tk til).1=-1
  ·rw[if_pos e1]at hh
   have:(254:UInt8).toNat=254:=rfl
   omega
  ·rw[if_neg e1,UInt8.toNat_ofNat']at hh
   omega
end
def zj3 (L:LxP)(k lo:Nat)(t:yi)(hi:Nat):Prop:=
 t.d.hi=hi∧lo≤hi∧hi≤L.n∧(hi=lo→yu t≤mK (k+1))∧(lo < hi→yu t+105468≤125000*(hi - lo)+15625*(k+1))
def zas (L:LxP)(til:Nat):Prop:=∀left look kids lo,0≤left→left < L.g.nons→lo≤til→yL kids≤til - lo→∃f t hi,yG L f left til look kids lo=some t∧til≤hi∧zj3 L (vF L.g left) lo t hi
section
variable {L:LxP}(H:QL L)
include H
theorem zim {til:Nat}(hto:til≤L.n)(hT:zas L til){s:Int}(h1:s < L.g.terms+L.g.nons):∃f t hi,vG L f s til=some t∧t.d.hi=(hi:Nat)∧til≤hi∧hi≤L.n∧(hi=til→yu t≤3906)∧(til < hi→yu t+105468≤125000*(hi - til)+93750):=by
 by_cases hs:L.g.terms≤s
 ·obtain⟨f,t,hi,hf,hle,g1,g2,g3,g4,g5⟩:=hT (s - L.g.terms) 0 [] til (by omega) (by omega) (Nat.le_refl _) (by simp[yL])
  have hr:=H.rank (A:=s - L.g.terms) (by omega) (by omega)
  refine⟨f+1,t,hi,?_,g1,hle,g3,fun h=>Nat.le_trans (g4 h) (mK6 hr),fun h=>?_⟩
  ·unfold vG
   rw[if_pos hs]
   exact hf
  ·have h5:=g5 h; clear g4 g5 hf hT; generalize vF L.g (s - L.g.terms)=rk at*
   have h6:15625*(rk+1)≤93750:=by omega
   exact Nat.le_trans h5 (Nat.add_le_add_left h6 _)
 ·by_cases hk:(L.tk til).1=s
  ·obtain⟨t1,t2,t3,t4,t5,t6,t7,t8⟩:=H.tok til hto
   refine⟨1,.node (xt 3 til (L.tk til)) [],(L.tk til).2.2.1.toNat,?_,?_,by omega,by omega,fun _=>by simp[yu,yL],fun h=>?_⟩
   ·unfold vG
    rw[if_neg hs,if_pos hk]
   ·show(L.tk til).2.2.1=_
    omega
   ·simp only[yu,yL]
    omega
  ·refine⟨1,.node ⟨s,4,til,til,til,(L.tk til).2.2.2⟩ [],til,?_,rfl,Nat.le_refl _,hto,fun _=>by simp[yu,yL],fun h=>by omega⟩
   unfold vG
   rw[if_neg hs,if_neg hk]
theorem zbQ:∀(rest:List Int) (til:Nat) (kids:List yi),til≤L.n→(∀q,til≤q→q≤L.n→zas L q)→(∀s∈rest,s < L.g.terms+L.g.nons)→
 ∃f ks to',yz L f rest til kids=some (kids++ks,to')∧til≤to'∧to'≤L.n∧(to'=til→yL ks≤3906*rest.length)∧(til < to'→yL ks+105468≤125000*(to' - til)+93750+3906*(rest.length - 1)):=by
 intro rest; induction rest with
 |nil=>intro til kids hto _ _;exact⟨1,[],til,by simp[yz],Nat.le_refl _,hto,fun _=>by simp[yL],fun h=>by omega⟩
 |cons s r ih=>
  intro til kids hto hT hs
  obtain⟨f1,t,hi,e1,g1,g2,g3,g4,g5⟩:=zim H hto (hT til (Nat.le_refl _) hto) (hs s (by simp))
  obtain⟨f2,ks,to',e2,k1,k2,k3,k4⟩:=ih hi (kids++[t]) g3 (fun q hq=>hT q (by omega)) (fun x hx=>hs x (List.mem_cons_of_mem _ hx))
  refine⟨max f1 f2+1,t ::ks,to',?_,by omega,k2,fun h=>?_,fun h=>?_⟩
  ·unfold yz
   rw[YQ (Nat.le_max_left _ _) e1]
   simp only[g1,Int.toNat_natCast]
   rw[Zv (Nat.le_max_right _ _) e2,List.append_assoc]
   rfl
  ·have:=g4 (by omega)
   have:=k3 (by omega)
   simp only[yL,List.length_cons]
   omega
  ·simp only[yL,List.length_cons]
   by_cases hp:til < hi
   ·have:=g5 hp
    by_cases hq:hi < to'
    ·have:=k4 hq
     omega
    ·have:=k3 (by omega)
     omega
   ·have:=g4 (by omega)
    have:=k4 (by omega)
    by_cases hr:r.length=0
    ·have:r=[]:=List.length_eq_zero_iff.1 hr
     subst this; cases f2 with
     |zero=>simp[yz]at e2
     |succ f2=>
      simp[yz]at e2
      omega
    ·omega
def zi1 (L:LxP)(til k:Nat):Prop:=∀(B:Int) (C:RS),vF L.g B < k→0≤B→B < L.g.nons→(∀x,C x→xf L.g B x)→jm L.g.kn (yS L.g B) C (L.win til).1→
 ∃f t hi,yG L f B til 0 [] til=some t∧zj3 L (vF L.g B) til t hi∧(hi=til→C (L.win til).1∧Zs L.g false B)
theorem zfr {til k:Nat}(hto:til≤L.n)(hP:zi1 L til k)(hG:∀q,til < q→q≤L.n→zas L q){p:Pd}(hp:p∈L.g.prods)(hk:vF L.g p.left≤k)(hk6:k≤6){C:RS}(hC:∀x,C x→xf L.g p.left x):∀(rest pre:List Int),p.right=pre++rest→(∀s∈pre,L.g.terms≤s∧Zs L.g false (s - L.g.terms))→jm L.g.kn (ofS L.g (yS L.g) rest) C (L.win til).1→∀kids:List yi,
 ∃f ks to',yz L f rest til kids=some (kids++ks,to')∧til≤to'∧to'≤L.n∧(to'=til→yL ks≤rest.length*mK k∧C (L.win til).1∧∀s∈rest,L.g.terms≤s∧Zs L.g false (s - L.g.terms))∧(til < to'→yL ks+105468≤125000*(to' - til)+15625*k+3906*(rest.length - 1)):=by
 intro rest; induction rest with
 |nil=>
  intro pre _ _ hw kids
  refine⟨1,[],til,by simp[yz],Nat.le_refl _,hto,fun _=>⟨by simp[yL],?_,fun s h=>by cases h⟩,fun h=>by omega⟩
  rwa[show ofS L.g (yS L.g) []=zaT from rfl,zbh (fun x hx=>Jj H.gm.kn p.left x (hC x hx))]at hw
 |cons s r ih=>
  intro pre hpr hnul hw kids; have hsym:=H.gm.sym p hp; have hs:=hsym s (by rw[hpr];simp); have hrest:∀x∈r,x < L.g.terms+L.g.nons:=fun x hx=>(hsym x (by rw[hpr];simp[hx])).2; by_cases ht:L.g.terms≤s
  ·have hB:Qt L.g p.left (s - L.g.terms):=⟨by omega,p,hp,rfl,pre,r,by rw[hpr];congr 2;omega,hnul⟩; have hw2:=zjw ht hw
   have hF:∀x,jm L.g.kn (ofS L.g (yS L.g) r) C x→xf L.g (s - L.g.terms) x:=fun x hx=>
    Yv hp (a:=pre) (b:=r) (by rw[hpr];congr 2;omega) (vC (fun _ h=>h) hC hx)
   have hrk:=zeA H.gm H.left hB
   obtain⟨f1,t,hi,e1,⟨g1,g2,g3,g4,g5⟩,g6⟩:=hP (s - L.g.terms) _ (by omega) (by omega) (by omega) hF hw2
   have e1':vG L (f1+1) s til=some t:=by
    unfold vG
    rw[if_pos ht]
    exact e1
   by_cases hz:hi=til
   ·obtain⟨hw3,hn⟩:=g6 hz
    obtain⟨f2,ks,to',e2,k1,k2,k3,k4⟩:=ih (pre++[s]) (by rw[hpr];simp) (fun x hx=>by
     rcases List.mem_append.1 hx with hx|hx
     ·exact hnul x hx
     ·rw[List.mem_singleton]at hx
      subst hx
      exact⟨ht,hn⟩) hw3 (kids++[t])
    have hsz:yu t≤mK k:=Nat.le_trans (g4 hz) (zh8 (by omega)); have hs6:=mK6 hk6
    refine⟨max (f1+1) f2+1,t ::ks,to',?_,k1,k2,fun h=>?_,fun h=>?_⟩
    ·unfold yz
     rw[YQ (Nat.le_max_left _ _) e1']
     simp only[g1,Int.toNat_natCast,hz]
     rw[Zv (Nat.le_max_right _ _) e2,List.append_assoc]
     rfl
    ·obtain⟨a1,a2,a3⟩:=k3 h
     refine⟨?_,a2,fun x hx=>?_⟩
     ·simp only[yL,List.length_cons,Nat.add_mul]
      omega
     ·rcases List.mem_cons.1 hx with rfl|hx
      ·exact⟨ht,hn⟩
      ·exact a3 x hx
    ·have:=k4 h
     simp only[yL,List.length_cons]
     by_cases hr:r.length=0
     ·have:r=[]:=List.length_eq_zero_iff.1 hr
      subst this; cases f2 with
      |zero=>simp[yz]at e2
      |succ f2=>
       simp[yz]at e2
       omega
     ·omega
   ·obtain⟨f2,ks,to',e2,k1,k2,k3,k4⟩:=zbQ H r hi (kids++[t]) g3 (fun q hq=>hG q (by omega)) hrest
    refine⟨max (f1+1) f2+1,t ::ks,to',?_,by omega,k2,fun h=>by omega,fun h=>?_⟩
    ·unfold yz
     rw[YQ (Nat.le_max_left _ _) e1']
     simp only[g1,Int.toNat_natCast]
     rw[Zv (Nat.le_max_right _ _) e2,List.append_assoc]
     rfl
    ·have hs5:=g5 (by omega); simp only[yL,List.length_cons]
     by_cases hq:hi < to'
     ·have:=k4 hq
      omega
     ·have:=k3 (by omega)
      omega
  ·obtain⟨y,hy⟩:=ziH H.gm.kn (by omega) hw
   have hk1:=H.first hto hs.1 (by omega) hy
   obtain⟨t1,t2,t3,t4,t5,t6,t7,t8⟩:=H.tok til hto
   have hpos:=t8 (by omega)
   obtain⟨hi,hhi⟩:∃hi:Nat,(L.tk til).2.2.1=hi:=⟨(L.tk til).2.2.1.toNat,by omega⟩
   obtain⟨f2,ks,to',e2,k1,k2,k3,k4⟩:=zbQ H r hi (kids++[.node (xt 3 til (L.tk til)) []]) (by omega) (fun q hq=>hG q (by omega)) hrest
   refine⟨max 1 f2+1,.node (xt 3 til (L.tk til)) [] ::ks,to',?_,by omega,k2,fun h=>by omega,fun h=>?_⟩
   ·unfold yz; have e1:vG L 1 s til=some (.node (xt 3 til (L.tk til)) []):=by
     unfold vG
     rw[if_neg ht,if_pos hk1]
    rw[YQ (Nat.le_max_left _ _) e1]
    show yz L _ r (L.tk til).2.2.1.toNat _=_
    rw[hhi,Int.toNat_natCast,Zv (Nat.le_max_right _ _) e2,List.append_assoc]
    rfl
   ·simp only[yL,yu,List.length_cons]
    by_cases hq:hi < to'
    ·have:=k4 hq
     omega
    ·have:=k3 (by omega)
     omega
theorem QL.pred_is {A:Int}{w:Row}{p:Pd}(hp:p∈L.g.prods)(hl:p.left=A)(hw:jh L.g p w):0≤L.pred A w∧L.right (L.pred A w)=p.right:=by
 have h0:0≤L.pred A w:=by
  apply Classical.byContradiction
  intro h; exact H.no A w (by omega) p hp hl hw
 obtain⟨p',hp',hl',hw'⟩:=H.yes A w h0
 obtain⟨j,hj⟩:=List.mem_iff_getElem?.1 hp
 have:=H.strong _ _ p' p w hp' hj (by rw[hl,hl']) hw' hw
 subst this
 rw[hp']at hj
 injection hj with hj; subst hj
 exact⟨h0,by unfold LxP.right;rw[hp'];rfl⟩
theorem zc4 {til:Nat}(hto:til≤L.n)(hG:∀q,til < q→q≤L.n→zas L q):∀k,k≤6→zi1 L til k:=by
 intro k; induction k with
 |zero=>intro _ B C h;omega
 |succ k ih=>
  intro hk6 B C hr h0 h1 hC hw
  obtain⟨u,c,hu,hc,hwe⟩:=hw
  obtain⟨p,hp,hl,hu'⟩:=Vc.1 hu
  have hw':jm L.g.kn (ofS L.g (yS L.g) p.right) C (L.win til).1:=⟨u,c,hu',hc,hwe⟩; have hC':∀x,C x→xf L.g p.left x:=by rw[hl];exact hC
  obtain⟨h2,h3⟩:=H.pred_is hp hl (vC (fun _ h=>h) hC' hw')
  have hrp:vF L.g p.left=vF L.g B:=by rw[hl]
  have hkk:vF L.g B≤k:=by omega
  obtain⟨f,ks,to',e,k1,k2,k3,k4⟩:=zfr H hto (k:=vF L.g B) (fun B' C' hlt=>ih (by omega) B' C' (by omega)) hG hp (by omega) (by omega) hC' p.right [] rfl (fun s h=>by cases h) hw' []
  refine⟨f+1,.node ⟨L.g.terms+B,2,til,til,to',max 0 (L.win til).2⟩ ks,to',?_,⟨rfl,k1,k2,fun h=>?_,fun h=>?_⟩,fun h=>?_⟩
  ·unfold yG
   rw[if_pos h2,h3,e]
   rfl
  ·obtain⟨a1,_⟩:=k3 h
   have:=H.short p hp
   rw[yF]
   show _≤5*mK _+1
   have:p.right.length*mK (vF L.g B)≤5*mK (vF L.g B):=Nat.mul_le_mul_right _ this
   omega
  ·have:=k4 h
   have:=H.short p hp
   rw[yF]
   omega
  ·obtain⟨_,a2,a3⟩:=k3 h
   refine⟨a2,?_⟩
   rw[←hl]
   exact Zs.of hp fun s hs=>.inr (a3 s hs)
theorem JG (til:Nat)(hto:til≤L.n)(hG:∀q,til < q→q≤L.n→zas L q):zas L til:=by
 intro left look kids lo h0 h1 hlo hsz; have hrk:=H.rank h0 h1; by_cases hp:0≤L.pred left (L.win til).1
 ·obtain⟨p,hp',hl,hw⟩:=H.yes left _ hp
  have hpm:=List.mem_of_getElem? hp'; have hright:L.right (L.pred left (L.win til).1)=p.right:=by unfold LxP.right;rw[hp'];rfl
  obtain⟨f,ks,to',e,k1,k2,k3,k4⟩:=zfr H hto (k:=vF L.g left) (zc4 H hto hG _ (by omega)) hG hpm (by rw[hl];exact Nat.le_refl _) (by omega) (C:=xf L.g p.left) (fun _ h=>h) p.right [] rfl (fun s h=>by cases h) hw kids
  have hs5:=H.short p hpm; have hm:=mK6 (k:=vF L.g left) (by omega); have hml:p.right.length*mK (vF L.g left)≤5*mK (vF L.g left):=Nat.mul_le_mul_right _ hs5
  refine⟨f+1,.node ⟨L.g.terms+left,2,lo,lo,to',max look (L.win til).2⟩ (kids++ks),to',?_,k1,rfl,by omega,k2,fun h=>?_,fun h=>?_⟩
  ·unfold yG
   rw[if_pos hp,hright,e]
  ·obtain⟨a1,_⟩:=k3 (by omega)
   rw[yF,qi]
   show _≤5*mK _+1; omega
  ·rw[yF,qi]
   by_cases hq:til < to'
   ·have:=k4 hq
    omega
   ·obtain⟨a1,_⟩:=k3 (by omega)
    omega
 ·by_cases hq:(L.tk til).1=-2∨L.beh left (L.tk til).1=true
  ·refine⟨1,.node ⟨L.g.terms+left,if kids.isEmpty then 4 else 2,lo,lo,til,max look (L.win til).2⟩ kids,til,?_,Nat.le_refl _,rfl,hlo,hto,fun h=>?_,fun h=>?_⟩
   ·unfold yG
    rw[if_neg hp,if_pos hq]
   ·rw[yF]
    show _≤5*mK _+1; omega
   ·rw[yF]
    omega
  ·obtain⟨t1,t2,t3,t4,t5,t6,t7,t8⟩:=H.tok til hto
   have hpos:=t8 (fun h=>hq (.inl h))
   obtain⟨hi,hhi⟩:∃hi:Nat,(L.tk til).2.2.1=hi:=⟨(L.tk til).2.2.1.toNat,by omega⟩
   obtain⟨f,t,hi2,e,k1,k2⟩:=hG hi (by omega) (by omega) left (max look (L.win til).2) (kids++[.node (xt 5 til (L.tk til)) []]) lo h0 h1 (by omega) (by rw[qi,zfh];simp only[yu,yL];omega)
   refine⟨f+1,t,hi2,?_,by omega,k2⟩
   unfold yG
   rw[if_neg hp,if_neg hq,hhi,Int.toNat_natCast]
   exact e
theorem zgk:∀(r til:Nat),til≤L.n→L.n - til≤r→zas L til:=by
 intro r; induction r with
 |zero=>intro til hto hr;exact JG H til hto (fun q h1 h2=>by omega)
 |succ r ih=>intro til hto hr;exact JG H til hto (fun q h1 h2=>ih q h2 (by omega))
end
end Go.Proofs.YtmbelmngniddjaaGreat
