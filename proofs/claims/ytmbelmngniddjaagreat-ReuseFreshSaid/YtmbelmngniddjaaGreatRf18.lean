/- Rf: texts that the proof rests on, part 18. -/
import Derived.Test.YtmbelmngniddjaaGreatRf17
namespace Go.Proofs.YtmbelmngniddjaaGreat
open Go.RowKit
attribute [local go_sem] zF zB zI zJ zw zt zN zD zX zQ zK zP zO zL zT zR zS zG zM zC
def bsV (r:Row):List Value:=r.map fun b=>.int .u8 (b.toNat:Int)
def zjh (w:World)(base:Nat)(v:Value)(r:Row):Prop:=w.ownsRow base 5 1 v r.length (bsV r)
theorem Qr (w0:World){w:World}{ops:Array Oper}{rest:List Oper}{o:Oper}{a:Act}{Q:Exit→Act→World→Prop}(hw:Region.wanted o (yielded ops a.tmps)=true)(s x:Operand)
 (ho:o.op=.call {callee:=.builtin .append,args:=#[s,x],argTypes:=#[166,166]}) {r:Row} {v:Value} (hr:zjh w w0.heap.size v r) (y:UInt8) (g:Nat)
 (hs:a.eval s=v) (hx:a.eval x=.slice (some ⟨g,0,none⟩) 1 1) (hg:g < w.heap.size) (hc:w.cell? ⟨g,0,none⟩=some (.int .u8 (y.toNat:Int))) (hlen:r.length≤1000000) (hext:Ext w0 w)
 (h:∀v' w',zjh w' w0.heap.size v' (r++[y])→Ext w0 w'→wpList Tryz.prog ops Q rest (a.put o.dst v') w'):wpList Tryz.prog ops Q (o ::rest) a w:=by
 obtain⟨i3,hi,hz0,hz1,hz2⟩:=info_parts zbI
 refine zE w hw s x 166 ho w0.heap.size 5 i3 _ 1 1 Tryz.underlying166 hi hz0 hz1 hz2 rfl (by omega) _ r.length (bsV r) hs hr (some ⟨g,0,none⟩) 1 1 (bsV [y]) hx (fun h=>by cases h) rfl
  (fun _=>⟨g,0,rfl,hg,fun k u hk=>?_⟩) (fun u hu=>?_) (by unfold maxLen;omega) (by omega) hext.size fun v' w' h2 h3 h4=>?_
 ·cases k with
  |zero=>simp[bsV]at hk;rw[←hk];exact hc
  |succ k=>simp[bsV]at hk
 ·simp only[bsV,List.map_cons,List.map_nil,List.mem_singleton]at hu
  subst hu; rfl
 ·refine h _ w' ?_ (hext.grown h3 fun g hg=>zV hr g hg); unfold zjh bsV
  rw[List.map_append,List.length_append]
  exact h2
theorem zbM {w:World}{base:Nat}{v:Value}{r:Row}(h:zjh w base v r)(h0:0 < r.length):∃b o c,v=.slice (some ⟨b,o,none⟩) r.length c∧(convert 166 9 (.slice (some ⟨b,o,none⟩) r.length c)).run Tryz.prog w=.ok (.string (strOfNums (r.map fun x=>(x.toNat:Int)))) w:=by
 obtain⟨A,c,rfl,hc,_⟩:=zW h
 obtain⟨b,o,rfl,hb,hcc⟩:=hc (by unfold bsV;rw[List.length_map];exact h0)
 refine⟨b,o,c,rfl,run_convert_bytes_arg (P:=Tryz.prog) w 166 5 Tryz.underlying166 Tryz.underlying5 b o r.length c (r.map fun x=>(x.toNat:Int)) (by simp) (fun i hi=>?_) 9 Tryz.underlying9⟩
 refine hcc i _ ?_; unfold bsV
 rw[List.getElem?_map,List.getD_eq_getElem?_getD,List.getElem?_map,List.getElem?_eq_getElem hi]
 rfl
theorem zdL (r:Row):rb (strOfNums (r.map fun x=>(x.toNat:Int)))=r:=by
 unfold rb
 rw[strOfNums_data,List.map_map]
 conv=>rhs;rw[←List.map_id r]
 refine List.map_congr_left fun x _=>?_; simp
theorem zdo {k:Int}(h0:0≤k)(h1:k < 16):((QS k).toNat:Int)=k:=by
 unfold QS
 rw[if_neg (by omega)]
 obtain⟨n,rfl⟩:=Int.eq_ofNat_of_zero_le h0
 rw[Int.toNat_natCast]
 have:n < 16:=by omega
 simp
 omega
def zbJ (w:World)(z:Row×Int)(e:Ending)(w':World):Prop:=∃x:ByteArray,e=.returned (.tuple #[.string x,.int .i64 z.2,.int .i64 0])∧rb x=z.1∧Ext w w'
set_option maxRecDepth 100000 in
set_option maxHeartbeats 4000000 in
theorem zc6 (nv rv kv:Value)(nl rl kl:List Int)(kinds:Int)(s:ByteArray)(p k:Nat)(w:World)(hN:Qp w nv rv kv nl rl kl)(hO:v9 nl rl kl kinds)(hp:p≤s.size)(hs:s.size≤1000000)(hk1:1≤k)(hk:k≤1000):
 Calls Tryz.prog 58 #[zaP nv rv kv kinds,.string s,.int .i64 p,.int .i64 k] w (zbJ w (Zd (fun q=>vI nl rl kl s q) k p [] p)):=by
 obtain⟨g0,hg0⟩:∃b,w.heap.size=b:=⟨_,rfl⟩
 obtain⟨W,hW⟩:∃W,w.alloc (.cells #[nv,rv,kv,.int .i64 kinds] 37)=W:=⟨_,rfl⟩
 have X1:Ext w W:=by rw[←hW];exact xi
 have B1:W.heap[g0]?=some (.cells #[nv,rv,kv,.int .i64 kinds] 37):=by rw[←hW,←hg0];exact heap_alloc_new _ _
 have HB:Hid (∀w1,Ext W w1→w1.cell? ⟨g0,0,none⟩=some nv∧w1.cell? ⟨g0,1,none⟩=some rv∧w1.cell? ⟨g0,2,none⟩=some kv∧w1.cell? ⟨g0,3,none⟩=some (.int .i64 kinds)∧g0 < w1.heap.size):=zh (fun w1 e=>by
  have B2:=zb B1 e; have b0:=cr 0 B2; have b1:=cr 1 B2; have b2:=cr 2 B2; have b3:=cr 3 B2; simp at b0 b1 b2 b3
  exact⟨b0,b1,b2,b3,za B2⟩)
 have HTN:=zh (VU nv rv kv nl rl kl kinds s p W (hN.ext X1) hO hp hs); have HTT:=zh (fun(q:Nat) (hq:q≤s.size) w1 (e:Ext W w1)=>zb5 nv rv kv nl rl kl kinds s q w1 ((hN.ext X1).ext e) hO hq hs); have HTB:=zh (fun(q:Nat) (hq:q≤s.size)=>za8 hO hq (s:=s)); have HKFEV:=zh hO.few
 obtain⟨tk,htk⟩:∃tk:Nat→Int×Int×Int×Int,(fun q=>vI nl rl kl s q)=tk:=⟨_,rfl⟩
 have htk':∀q,vI nl rl kl s q=tk q:=fun q=>congrFun htk q; simp only[htk']at HTN HTT HTB ⊢
 obtain⟨z,hz⟩:∃z,Zd tk k p [] p=z:=⟨_,rfl⟩
 rw[hz]
 have HZ:=zh hz; have HX1:=zh X1; clear hN hO X1 B1 htk htk' hz; unfold zhs at HTT; unfold zaP zbs at HTN HTT; unfold zaP
 obtain⟨uq,huq⟩:∃z,tk p=z:=⟨_,rfl⟩
 rw[huq]at HTN
 obtain⟨t0,t1,t2,t3⟩:=uq
 clear huq; dsimp only at HTN; go_in
 go_upto_region 1 with fail; try simp only[hg0]
 try simp only[hW]
 clear hW hg0
 obtain⟨b0,b1,b2,b3,lb⟩:=HB.out W (Ext.refl _)
 go_wp2_with fail; refine HTN.out.mono ?_; rintro e' W2 ⟨rfl,hx2⟩; have HX2:=zh hx2; clear b0 b1 b2 b3 lb HTN
 obtain⟨kb,hkb⟩:∃b,W2.heap.size=b:=⟨_,rfl⟩
 obtain⟨W3a,hW3a⟩:∃W,W2.alloc (.cells #[.int .i64 0,.int .i64 0,.int .i64 0,.int .i64 0,.int .i64 0] 83)=W:=⟨_,rfl⟩
 have hR:W3a.heap[kb]?=some (.cells #[.int .i64 0,.int .i64 0,.int .i64 0,.int .i64 0,.int .i64 0] 83):=by rw[←hW3a,←hkb];exact heap_alloc_new _ _
 obtain⟨W3,hW3⟩:∃W,ZX W3a kb (.int .i64 t0) (.int .i64 p) (.int .i64 t1) (.int .i64 t2) (.int .i64 t3)=W:=⟨_,rfl⟩
 have X3:Ext W2 W3:=by rw[←hW3];exact(xG (S:=fun k=>k=kb) rfl _ _ _ _ _).ext (show Ext W2 W3a from by rw[←hW3a];exact xi) (fun k hk=>by omega)
 have HX3:=zh (hx2.trans X3); have z0:=cr 0 hR; have z1:=cr 1 hR; have z2:=cr 2 hR; have z3:=cr 3 hR; have z4:=cr 4 hR; have zf:=fun k=>zi hR k; have zl:=za hR; simp at z0 z1 z2 z3 z4
 unfold ZX yX y8 put2 at hW3; clear hx2 hR X3; go_upto_region 2 with fail; try simp only[hkb]
 try simp only[hW3a]
 try simp only[hW3]
 clear hkb hW3a hW3 z0 z1 z2 z3 z4 zf zl; go_wp2_with fail; go_loopw [2,13,14,15] (fun pv rv ev iv wr=>∃(i q:Nat) (row:Row) (ex:Int),pv=.int .i64 q∧ev=.int .i64 ex∧iv=.int .i64 i∧i≤k∧q≤s.size∧Hid (zjh wr W3.heap.size rv row)∧Hid (row.length=i)∧Hid (Zd tk (k - i) q row ex=z)∧Hid (Ext W3 wr)) (fun _ _ _ iv _=>k - (intOf iv).toNat)
 case atStart=>exact⟨0,p,[],p,rfl,rfl,rfl,Nat.zero_le _,hp,zh (World.ownsRow_nil _ _ _ _),zh rfl,HZ,zh (Ext.refl _)⟩
 case round=>
  obtain⟨i,q,row,ex,rfl,rfl,rfl,hi,hq,HR,HRL,HW,HX⟩:=hrel
  by_cases hlt:i < k
  ·obtain⟨b0,b1,b2,b3,lb⟩:=HB.out wr (HX3.out.trans HX.out)
   have hbd:=HTB.out q hq; have HTQ:=HTT.out q hq; have hws:Zd tk (k - i) q row ex=if(tk q).1=-2 then(row++[255],max ex (tk q).2.2.2)else Zd tk (k - (i+1)) (tk q).2.2.1.toNat (row++[QS (tk q).1]) (max ex (tk q).2.2.2):=by
    rw[show k - i=(k - (i+1))+1 from by omega]
    rfl
   rw[HW.out]at hws
   unfold YM at hbd
   obtain⟨uq,huq⟩:∃z,tk q=z:=⟨_,rfl⟩
   rw[huq]at hbd hws HTQ
   obtain⟨u0,u1,u2,u3⟩:=uq
   dsimp only at hbd hws HTQ; have HBD:=zh hbd; have HWS:=zh hws; have HTQ2:=zh HTQ; have HRS:=zh HR.out; clear hbd hws HTQ HW HZ huq; go_wp2_with fail
   refine(HTQ2.out wr (HX3.out.trans HX.out)).mono ?_
   rintro e' W4 ⟨rfl,hx4⟩; clear b0 b1 b2 b3 lb HTQ2
   obtain⟨kb,hkb⟩:∃b,W4.heap.size=b:=⟨_,rfl⟩
   obtain⟨W5a,hW5a⟩:∃W,W4.alloc (.cells #[.int .i64 0,.int .i64 0,.int .i64 0,.int .i64 0,.int .i64 0] 83)=W:=⟨_,rfl⟩
   have hR:W5a.heap[kb]?=some (.cells #[.int .i64 0,.int .i64 0,.int .i64 0,.int .i64 0,.int .i64 0] 83):=by rw[←hW5a,←hkb];exact heap_alloc_new _ _
   obtain⟨W5,hW5⟩:∃W,ZX W5a kb (.int .i64 u0) (.int .i64 q) (.int .i64 u1) (.int .i64 u2) (.int .i64 u3)=W:=⟨_,rfl⟩
   have X5:Ext W4 W5:=by rw[←hW5];exact(xG (S:=fun k=>k=kb) rfl _ _ _ _ _).ext (show Ext W4 W5a from by rw[←hW5a];exact xi) (fun k hk=>by omega)
   have HX5:=zh (HX.out.trans (hx4.trans X5)); have HR5:=zh (yv HRS.out (hx4.trans X5)); have z0:=cr 0 hR; have z1:=cr 1 hR; have z2:=cr 2 hR; have z3:=cr 3 hR; have z4:=cr 4 hR; have zf:=fun k=>zi hR k; have zl:=za hR; simp at z0 z1 z2 z3 z4
   have hT5:W5.heap[kb]?=some (.cells #[.int .i64 u0,.int .i64 q,.int .i64 u1,.int .i64 u2,.int .i64 u3] 83):=by rw[←hW5];exact vZ hR _ _ _ _ _
   have HT5:=zh hT5; unfold ZX yX y8 put2 at hW5; clear hx4 hR X5 hT5 HRS HR HX; go_upto_region 10 with fail; try simp only[hkb]
   try simp only[hW5a]
   try simp only[hW5]
   clear hkb hW5a hW5 z0 z1 z2 z3 z4 zf zl; have y0:=cr 0 HT5.out; have y3:=cr 3 HT5.out; have y4:=cr 4 HT5.out; have yl:=za HT5.out; simp at y0 y3 y4
   obtain⟨mx,hmx⟩:∃m:Int,(if ex < u3 then u3 else ex)=m:=⟨_,rfl⟩
   have HMX:Hid (max ex u3=mx):=zh (by rw[←hmx];omega); refine zg (8) (zd [0,1,4] (zj [2,3,5,6,7] .fin)) (by kernel_rfl) (by kernel_rfl) ?_; (repeat first|refine yq ?_|refine yr ?_)
   refine zv ?_; clear hmx y0 y3 y4 yl
   obtain⟨W6,hW6⟩:∃V,W5.drew=V:=⟨_,rfl⟩
   have X56:Ext W5 W6:=by rw[←hW6];exact xi
   have HX6:=zh (HX5.out.trans X56); have HR6:=zh (yv HR5.out X56); have hR6:=zb HT5.out X56; have y0:=cr 0 hR6; have yl:=za hR6; simp at y0
   try simp only[hW6]
   clear hW6 X56 hR6 HR5 HX5
   obtain⟨q2,hq2⟩:∃n:Nat,u2=n:=⟨u2.toNat,by have:=HBD.out;omega⟩
   subst hq2; have hlen:row.length≤1000000:=by have:=HRL.out;omega
   have HLN:=zh hlen; clear hlen; by_cases h2:u0=-2
   ·subst h2; go_upto_region 14 with fail; go_wp2_with (at_builtin;refine Qr W3 (by rfl) (.tmp 53) (.tmp 54) rfl (yv HR6.out (xi:Ext W6 (W6.alloc (.cells #[.int .u8 255] 5)))) 255 W6.heap.size rfl rfl (by simp) (by rw[cr 0 (heap_alloc_new W6 (.cells #[.int .u8 255] 5))];rfl) HLN.out (HX6.out.trans xi) ?_;intro v7 w7 hr7 hx7;have HX7:=zh hx7;obtain⟨cb,co,cc,rfl,hcv⟩:=zbM hr7 (by simp);have hrb:=zdL (row++[255]);obtain⟨sx,hsx⟩:∃x,strOfNums ((row++[(255:UInt8)]).map fun x=>(x.toNat:Int))=x:=⟨_,rfl⟩;rw[hsx]at hcv hrb;have HRB:=zh hrb;obtain⟨ln,hln⟩:∃n,(row++[(255:UInt8)]).length=n:=⟨_,rfl⟩;rw[hln]at hcv ⊢;clear hr7 hx7 hsx hrb hln)
    have HZ:Hid ((row++[255],mx)=z):=zh (by have:=HWS.out;simp only[if_true,HMX.out]at this;exact this.symm); exact bodyPost_ret (v:=.tuple #[.string sx,.int .i64 mx,.int .i64 0]) (by simp[results,Tryz.results58,go_sem, *]) rfl ⟨sx,by rw[←HZ.out],by rw[←HZ.out];exact HRB.out,HX1.out.trans (HX3.out.trans HX7.out)⟩
   ·by_cases h3:u0=-1
    ·subst h3; go_upto_region 16 with fail; go_wp2_with (at_builtin;refine Qr W3 (by rfl) (.tmp 60) (.tmp 61) rfl (yv HR6.out (xi:Ext W6 (W6.alloc (.cells #[.int .u8 254] 5)))) 254 W6.heap.size rfl rfl (by simp) (by rw[cr 0 (heap_alloc_new W6 (.cells #[.int .u8 254] 5))];rfl) HLN.out (HX6.out.trans xi) ?_;intro v7 w7 hr7 hx7;have HX7:=zh hx7;have HR7:=zh hr7;clear hr7 hx7)
     have HZ:Hid (Zd tk (k - (i+1)) q2 (row++[254]) mx=z):=zh (by have:=HWS.out;rw[if_neg (by decide),HMX.out,Int.toNat_natCast]at this;exact this.symm); have hq2:q2≤s.size:=by have:=HBD.out;omega
     have HRL7:Hid ((row++[(254:UInt8)]).length=i+1):=zh (by rw[List.length_append,HRL.out];rfl); go_wp2_with fail; go_roundw
     case rel=>exact⟨i+1,q2,row++[254],mx,rfl,rfl,by go_num,by omega,hq2,HR7,HRL7,HZ,HX7⟩
     case measure=>simp[intOf];omega
    ·have hk0:0≤u0∧u0 < 16:=by have:=HBD.out;have:=HKFEV.out;omega
     have e1:(u0==-2)=false:=by simpa using h2
     have e2:(u0==-1)=false:=by simpa using h3
     have f8:IntKind.u8.wrap u0=u0:=by
      show u0 % 256=u0; omega
     have HK0:=zh hk0; have HN2:=zh h2; clear h2 h3; go_upto_region 12 with fail; go_wp2_with (at_builtin;refine Qr W3 (by rfl) (.tmp 45) (.tmp 49) rfl (yv HR6.out (xi:Ext W6 (W6.alloc (.cells #[.int .u8 u0] 5)))) (QS u0) W6.heap.size rfl rfl (by simp) (by rw[cr 0 (heap_alloc_new W6 (.cells #[.int .u8 u0] 5))];rw[zdo hk0.1 hk0.2];rfl) HLN.out (HX6.out.trans xi) ?_;intro v7 w7 hr7 hx7;have HX7:=zh hx7;have HR7:=zh hr7;clear hr7 hx7)
     have HZ:Hid (Zd tk (k - (i+1)) q2 (row++[QS u0]) mx=z):=zh (by have:=HWS.out;rw[if_neg HN2.out,HMX.out,Int.toNat_natCast]at this;exact this.symm); have hq2:q2≤s.size:=by have:=HBD.out;omega
     have HRL7:Hid ((row++[QS u0]).length=i+1):=zh (by rw[List.length_append,HRL.out];rfl); go_wp2_with fail; go_roundw
     case rel=>exact⟨i+1,q2,row++[QS u0],mx,rfl,rfl,by go_num,by omega,hq2,HR7,HRL7,HZ,HX7⟩
     case measure=>simp[intOf];omega
  ·obtain rfl:i=k:=by omega
   obtain⟨cb,co,cc,rfl,hcv⟩:=zbM HR.out (by have:=HRL.out;omega)
   have hrb:=zdL row
   obtain⟨sx,hsx⟩:∃x,strOfNums (row.map fun x=>(x.toNat:Int))=x:=⟨_,rfl⟩
   rw[hsx]at hcv hrb
   have HZ2:Hid ((row,ex)=z):=zh (by have:=HW.out;rw[Nat.sub_self]at this;exact this); have HRB:=zh hrb; clear hsx hrb HR; go_wp2_with fail; exact bodyPost_ret (v:=.tuple #[.string sx,.int .i64 ex,.int .i64 0]) (by simp[results,Tryz.results58,go_sem, *]) rfl ⟨sx,by rw[←HZ2.out],by rw[←HZ2.out];exact HRB.out,HX1.out.trans (HX3.out.trans HX.out)⟩
inductive InR (u:yi):yi→Prop
 |self:InR u u
 |kid {d:DtP} {ks:List yi} {k:yi} (hk:k∈ks) (h:InR u k):InR u (.node d ks)
theorem InR.cases' {u:yi}{d:DtP}{ks:List yi}(h:InR u (.node d ks)):u=.node d ks∨∃k∈ks,InR u k:=by
 cases h with
 |self=>exact .inl rfl
 |kid hk h=>exact .inr ⟨_,hk,h⟩
structure JY (L:LxP)(a:Int)(u:yi):Prop where
 lo:a≤u.d.lo
 non:u.d.kind=2→0≤u.d.sym - L.g.terms∧u.d.sym - L.g.terms < L.g.nons∧∃f lo:Nat,u.d.lo=lo∧lo≤L.n∧yG L f (u.d.sym - L.g.terms) lo 0 [] lo=some u
def Qo (L:LxP)(a:Int)(ks:List yi):Prop:=∀k∈ks,∀u,InR u k→JY L a u
theorem Qo.snoc {L:LxP}{a:Int}{ks:List yi}{k:yi}(h:Qo L a ks)(h':∀u,InR u k→JY L a u):Qo L a (ks++[k]):=by
 intro x hx; rcases List.mem_append.1 hx with hx|hx
 ·exact h x hx
 ·rw[List.mem_singleton]at hx
  subst hx; exact h'
theorem InR.leaf {u:yi}{d:DtP}(h:InR u (.node d [])):u=.node d []:=by
 rcases h.cases' with h|⟨k,hk,_⟩
 ·exact h
 ·cases hk
theorem JY.leaf {L:LxP}{a:Int}{d:DtP}(h1:a≤d.lo)(h2:d.kind≠2){u:yi}(h:InR u (.node d [])):JY L a u:=by
 rw[h.leaf]
 exact⟨h1,fun h=>absurd h h2⟩
section
variable {L:LxP}(H:QL L)
include H
theorem xH:∀f,
 (∀left (til:Nat) look kids (lo:Nat) t,0≤left→left < L.g.nons→til≤L.n→lo≤til→Qo L lo kids→yG L f left til look kids lo=some t→(∃hi:Nat,t.d.hi=hi∧til≤hi∧hi≤L.n)∧t.d.lo=lo∧t.d.sym=L.g.terms+left∧Qo L lo t.kids)∧
 (∀r (til:Nat) kids z (lo:Nat),(∀s∈r,s < L.g.terms+L.g.nons)→til≤L.n→lo≤til→Qo L lo kids→yz L f r til kids=some z→til≤z.2∧z.2≤L.n∧Qo L lo z.1)∧
 ∀s (p:Nat) t,s < L.g.terms+L.g.nons→p≤L.n→vG L f s p=some t→(∃hi:Nat,t.d.hi=hi∧p≤hi∧hi≤L.n)∧∀u,InR u t→JY L p u:=by
 intro f; induction f with
 |zero=>refine⟨?_,?_,?_⟩<;>intros<;>simp_all [yG,yz,vG]
 |succ f ih=>
  obtain⟨i1,i2,i3⟩:=ih
  refine⟨fun left til look kids lo t h0 h1 hto hlo hk h=>?_,fun r til kids z lo hr hto hlo hk h=>?_,fun s p t hs hp h=>?_⟩
  ·unfold yG at h; split at h
   ·rename_i hpr
    obtain⟨q,hq,hl,_⟩:=H.yes left _ hpr
    have hright:L.right (L.pred left (L.win til).1)=q.right:=by unfold LxP.right;rw[hq];rfl
    rw[hright]at h
    cases hs:yz L f q.right til kids with
    |none=>rw[hs]at h;cases h
    |some z=>
     rw[hs]at h
     obtain⟨a,b,c⟩:=i2 _ _ _ _ lo (fun s hs=>(H.gm.sym q (List.mem_of_getElem? hq) s hs).2) hto hlo hk hs
     injection h with h; subst h
     exact⟨⟨_,rfl,a,b⟩,rfl,rfl,c⟩
   ·split at h
    ·injection h with h; subst h
     exact⟨⟨_,rfl,Nat.le_refl _,hto⟩,rfl,rfl,hk⟩
    ·rename_i hq
     obtain⟨t1,t2,t3,t4,t5,t6,t7,t8⟩:=H.tok til hto
     have hpos:=t8 (fun h=>hq (.inl h))
     obtain⟨hi,hhi⟩:∃hi:Nat,(L.tk til).2.2.1=hi:=⟨(L.tk til).2.2.1.toNat,by omega⟩
     rw[hhi,Int.toNat_natCast]at h
     obtain⟨⟨e,a,b,c⟩,d⟩:=i1 _ _ _ _ lo _ h0 h1 (by omega) (by omega) (hk.snoc fun u hu=>JY.leaf (by show(lo:Int)≤(til:Int);omega) (by show(5:Int)≠2;decide) hu) h
     exact⟨⟨e,a,by omega,c⟩,d⟩
  ·cases r with
   |nil=>
    unfold yz at h; injection h with h; subst h
    exact⟨Nat.le_refl _,hto,hk⟩
   |cons s r=>
    unfold yz at h; cases hs:vG L f s til with
    |none=>rw[hs]at h;cases h
    |some t=>
     rw[hs]at h
     obtain⟨⟨hi,a,b,c⟩,d⟩:=i3 _ _ _ (hr s (by simp)) hto hs
     simp only[a,Int.toNat_natCast]at h
     obtain⟨e1,e2,e3⟩:=i2 _ _ _ _ lo (fun x hx=>hr x (List.mem_cons_of_mem _ hx)) c (by omega) (hk.snoc fun u hu=>⟨by have:=(d u hu).lo;omega,(d u hu).non⟩) h
     exact⟨by omega,e2,e3⟩
  ·have hh:=h; unfold vG at h; split at h
   ·rename_i hts
    obtain⟨a,b,c,d⟩:=i1 _ _ _ _ p _ (by omega) (by omega) hp (Nat.le_refl _) (fun k hk=>by cases hk) h
    refine⟨a,fun u hu=>?_⟩
    obtain⟨dt,ks⟩:=t
    rcases hu.cases' with rfl|⟨k,hk,hu⟩
    ·have e:(yi.node dt ks).d.sym - L.g.terms=s - L.g.terms:=by rw[c];omega
     refine⟨by rw[b];exact Int.le_refl _,fun _=>?_⟩
     rw[e]
     exact⟨by omega,by omega,f,p,b,hp,h⟩
    ·exact d k hk u hu
   ·obtain⟨t1,t2,t3,t4,t5,t6,t7,t8⟩:=H.tok p hp
    split at h
    ·injection h with h; subst h
     refine⟨⟨(L.tk p).2.2.1.toNat,?_,by omega,by omega⟩,fun u hu=>JY.leaf (Int.le_refl _) (by show(3:Int)≠2;decide) hu⟩
     show(L.tk p).2.2.1=_
     omega
    ·injection h with h; subst h
     exact⟨⟨p,rfl,Nat.le_refl _,hp⟩,fun u hu=>JY.leaf (Int.le_refl _) (by show(4:Int)≠2;decide) hu⟩
end
theorem zdV {L:LxP}:∀f left til look kids lo t,yG L f left til look kids lo=some t→look≤t.d.look:=by
 intro f; induction f with
 |zero=>intros;simp_all [yG]
 |succ f ih=>
  intro left til look kids lo t h; unfold yG at h; split at h
  ·cases hs:yz L f (L.right (L.pred left (L.win til).1)) til kids with
   |none=>rw[hs]at h;cases h
   |some z=>
    rw[hs]at h
    injection h with h; subst h; exact Int.le_max_left _ _
  ·split at h
   ·injection h with h; subst h; exact Int.le_max_left _ _
   ·exact Int.le_trans (Int.le_max_left _ _) (ih _ _ _ _ _ _ h)
theorem zgc {L:LxP}{f:Nat}{left:Int}{til:Nat}{look:Int}{kids:List yi}{lo:Nat}{t:yi}(h:yG L (f+1) left til look kids lo=some t):(L.win til).2≤t.d.look:=by
 unfold yG at h; split at h
 ·cases hs:yz L f (L.right (L.pred left (L.win til).1)) til kids with
  |none=>rw[hs]at h;cases h
  |some z=>
   rw[hs]at h
   injection h with h; subst h; exact Int.le_max_right _ _
 ·split at h
  ·injection h with h; subst h; exact Int.le_max_right _ _
  ·exact Int.le_trans (Int.le_max_right _ _) (zdV _ _ _ _ _ _ _ h)
theorem zfK (tk:Nat→Int×Int×Int×Int):∀(k p:Nat) (row:Row) (e:Int),1≤k→(tk p).2.2.2≤(Zd tk k p row e).2:=by
 intro k p row e hk
 obtain⟨k,rfl⟩:∃j,k=j+1:=⟨k - 1,by omega⟩
 unfold Zd; split
 ·exact Int.le_max_right _ _
 ·exact Int.le_trans (Int.le_max_right _ _) (zbZ _ _ _ _ _)
theorem zdJ {tk tk':Nat→Int×Int×Int×Int}{n:Nat}{a:Int}(hs:∀p:Nat,p≤n→(tk p).2.2.2≤a→tk' p=tk p)(hr:∀p:Nat,p≤n→(p:Int)≤(tk p).2.2.1∧(tk p).2.2.1≤n):∀(k p:Nat) (row:Row) (e:Int),p≤n→(Zd tk k p row e).2≤a→Zd tk' k p row e=Zd tk k p row e:=by
 intro k; induction k with
 |zero=>intro p row e _ _;rfl
 |succ k ih=>
  intro p row e hp h; have h1:=hs p hp (Int.le_trans (zfK tk (k+1) p row e (by omega)) h); unfold Zd at h ⊢
  rw[h1]
  split
  ·rfl
  ·rename_i hne
   rw[if_neg hne]at h
   have:=hr p hp
   exact ih _ _ _ (by omega) h
def Unm (a b:Int)(u:yi):Prop:=u.d.look≤a∨b≤u.d.lo
def zkf (a b:Int)(ks:List yi):Prop:=∀k∈ks,∀u,InR u k→Unm a b u
def zia (a:Int)(ks:List yi):Prop:=∀k∈ks,∀u,InR u k→u.d.look≤a
theorem zia.snoc {a:Int}{ks:List yi}{k:yi}(h:zia a ks)(h':∀u,InR u k→u.d.look≤a):zia a (ks++[k]):=by
 intro x hx; rcases List.mem_append.1 hx with hx|hx
 ·exact h x hx
 ·rw[List.mem_singleton]at hx
  subst hx; exact h'
theorem zdi {L:LxP}:∀f,(∀left til look kids lo t,yG L f left til look kids lo=some t→∀k∈kids,k∈t.kids)∧∀r til kids z,yz L f r til kids=some z→∀k∈kids,k∈z.1:=by
 intro f; induction f with
 |zero=>refine⟨?_,?_⟩<;>intros<;>simp_all [yG,yz]
 |succ f ih=>
  obtain⟨i1,i2⟩:=ih
  refine⟨fun left til look kids lo t h k hk=>?_,fun r til kids z h k hk=>?_⟩
  ·unfold yG at h; split at h
   ·cases hs:yz L f (L.right (L.pred left (L.win til).1)) til kids with
    |none=>rw[hs]at h;cases h
    |some z=>
     rw[hs]at h
     injection h with h; subst h; exact i2 _ _ _ _ hs k hk
   ·split at h
    ·injection h with h; subst h; exact hk
    ·exact i1 _ _ _ _ _ _ h k (List.mem_append_left _ hk)
  ·cases r with
   |nil=>
    unfold yz at h; injection h with h; subst h; exact hk
   |cons s r=>
    unfold yz at h; cases hs:vG L f s til with
    |none=>rw[hs]at h;cases h
    |some t=>
     rw[hs]at h
     exact i2 _ _ _ _ h k (List.mem_append_left _ hk)
theorem zgm {L:LxP}{f:Nat}{r:List Int}{til:Nat}{kids:List yi}{t:yi}{z:List yi×Nat}(h:yz L f r til (kids++[t])=some z):t∈z.1:=(zdi f).2 _ _ _ _ h t (by simp)
theorem zcE {L L':LxP}(H:QL L)(hg:L'.g=L.g)(hp:L'.pred=L.pred)(hb:L'.beh=L.beh){a b:Nat}(ha:a≤b)(hn:b≤L.n)(hs:∀p:Nat,p≤L.n→(L.tk p).2.2.2≤a→L'.tk p=L.tk p):∀f,
 (∀left (til:Nat) look kids (lo:Nat) t,til≤L.n→lo < a→yG L f left til look kids lo=some t→Unm a b t→zkf a b t.kids→zia a kids→yG L' f left til look kids lo=some t∧t.d.hi < a∧zia a t.kids∧t.d.look≤a)∧
 (∀r (til:Nat) kids z,til < a→(∀s∈r,s < L.g.terms+L.g.nons)→yz L f r til kids=some z→zkf a b z.1→zia a kids→yz L' f r til kids=some z∧z.2 < a∧zia a z.1)∧
 ∀s (p:Nat) t,p < a→s < L.g.terms+L.g.nons→vG L f s p=some t→(∀u,InR u t→Unm a b u)→vG L' f s p=some t∧t.d.hi < a∧(∀u,InR u t→u.d.look≤a):=by
 have hright:∀i,L'.right i=L.right i:=fun i=>by unfold LxP.right;rw[hg]
 have hr:∀p:Nat,p≤L.n→(p:Int)≤(L.tk p).2.2.1∧(L.tk p).2.2.1≤L.n:=fun p h=>by have:=H.tok p h;omega
 have hwin:∀p:Nat,p≤L.n→(L.win p).2≤a→L'.win p=L.win p:=fun p h1 h2=>by
  unfold LxP.win at h2 ⊢
  rw[hg]
  exact zdJ hs hr _ _ _ _ h1 h2
 intro f; induction f with
 |zero=>refine⟨?_,?_,?_⟩<;>intros<;>simp_all [yG,yz,vG]
 |succ f ih=>
  obtain⟨i1,i2,i3⟩:=ih
  refine⟨fun left til look kids lo t hto hlo h hu hk hka=>?_,fun r til kids z hto hrs h hu hka=>?_,fun s p t hlt hst h hu=>?_⟩
  ·have hlo':t.d.lo=lo:=by
    clear i1 i2 i3 hu hk hka hlo; generalize f+1=f1 at h
    induction f1 generalizing til look kids with
    |zero=>simp[yG]at h
    |succ f1 ih1=>
     unfold yG at h; split at h
     ·cases hs:yz L f1 (L.right (L.pred left (L.win til).1)) til kids with
      |none=>rw[hs]at h;cases h
      |some z=>
       rw[hs]at h
       injection h with h; subst h; rfl
     ·split at h
      ·injection h with h; subst h; rfl
      ·have:=hr til hto
       exact ih1 _ _ _ (by omega) h
   have hlk:t.d.look≤a:=by
    rcases hu with hu|hu
    ·exact hu
    ·omega
   have hwl:=Int.le_trans (zgc h) hlk; have hw:=hwin til hto hwl; have hte:=Int.le_trans (zd0 L H.gm.kn til) hwl; have htk:=hs til hto hte
   obtain⟨t1,t2,t3,t4,t5,t6,t7,t8⟩:=H.tok til hto
   unfold yG at h ⊢
   rw[hp,hw,hright,hb,htk,hg]
   split at h
   ·rename_i hpr
    rw[if_pos hpr]
    obtain⟨q,hq,_,_⟩:=H.yes left _ hpr
    have hright2:L.right (L.pred left (L.win til).1)=q.right:=by unfold LxP.right;rw[hq];rfl
    cases hs:yz L f (L.right (L.pred left (L.win til).1)) til kids with
    |none=>rw[hs]at h;cases h
    |some z=>
     rw[hs]at h
     injection h with h; subst h
     obtain⟨e1,e2,e3⟩:=i2 _ til kids z (by omega) (by rw[hright2];exact fun s hs=>(H.gm.sym q (List.mem_of_getElem? hq) s hs).2) hs hk hka
     rw[e1]
     exact⟨rfl,by show(z.2:Int) < a;omega,e3,hlk⟩
   ·rename_i hpr
    rw[if_neg hpr]
    split at h
    ·rename_i hst
     rw[if_pos hst]
     injection h with h; subst h
     exact⟨rfl,by show(til:Int) < a;omega,hka,hlk⟩
    ·rename_i hst
     rw[if_neg hst]
     exact i1 _ _ _ _ _ _ (by omega) hlo h hu hk (hka.snoc fun u hu=>by rw[hu.leaf];exact hte)
  ·cases r with
   |nil=>
    unfold yz at h ⊢; injection h with h; subst h
    exact⟨rfl,hto,hka⟩
   |cons s r=>
    unfold yz at h ⊢; cases hs:vG L f s til with
    |none=>rw[hs]at h;cases h
    |some t=>
     rw[hs]at h
     have hmem:=zgm h
     obtain⟨e1,e2,e3⟩:=i3 _ _ _ hto (hrs s (by simp)) hs (hu t hmem)
     obtain⟨hi,c1,c2,c3⟩:=((xH H f).2.2 _ _ _ (hrs s (by simp)) (by omega) hs).1
     rw[e1]
     simp only[c1,Int.toNat_natCast]at h ⊢
     exact i2 _ _ _ _ (by omega) (fun x hx=>hrs x (List.mem_cons_of_mem _ hx)) h hu (hka.snoc e3)
  ·unfold vG at h ⊢
   rw[hg]
   split at h
   ·rename_i hts
    rw[if_pos hts]
    obtain⟨dt,ks⟩:=t
    obtain⟨e1,e2,e3,e4⟩:=i1 _ _ _ _ _ _ (by omega) hlt h (hu _ .self) (fun k hk u hu'=>hu u (.kid hk hu')) (fun k hk=>by cases hk)
    refine⟨e1,e2,fun u hu=>?_⟩
    rcases hu.cases' with rfl|⟨k,hk,hu⟩
    ·exact e4
    ·exact e3 k hk u hu
   ·rename_i hts
    rw[if_neg hts]
    obtain⟨t1,t2,t3,t4,t5,t6,t7,t8⟩:=H.tok p (by omega)
    have key:(L.tk p).2.2.2≤a:=by
     split at h
     ·injection h with h; subst h; rcases hu _ .self with h|h
      ·exact h
      ·have:(b:Int)≤(p:Int):=h
       omega
     ·injection h with h; subst h; rcases hu _ .self with h|h
      ·exact h
      ·have:(b:Int)≤(p:Int):=h
       omega
    rw[hs p (by omega) key]
    split at h
    ·rename_i hk
     rw[if_pos hk]
     injection h with h; subst h
     exact⟨rfl,by show(L.tk p).2.2.1 < a;omega,fun u hu=>by rw[hu.leaf];exact key⟩
    ·rename_i hk
     rw[if_neg hk]
     injection h with h; subst h
     exact⟨rfl,by show(p:Int) < a;omega,fun u hu=>by rw[hu.leaf];exact key⟩
def DtP.mv (d:Int)(x:DtP):DtP:=⟨x.sym,x.kind,x.lo+d,x.inn+d,x.hi+d,x.look+d⟩
mutual
def yi.mv (d:Int):yi→yi
 | .node x ks=>.node (x.mv d) (mvL d ks)
def mvL (d:Int):List yi→List yi
 |[]=>[]
 |t ::ts=>t.mv d ::mvL d ts
end
theorem VN (d:Int)(ks:List yi):mvL d ks=ks.map (yi.mv d):=by
 induction ks with
 |nil=>rfl
 |cons t ts ih=>simp[mvL,ih]
theorem zjU (d:Int)(t:yi):(t.mv d).d=t.d.mv d:=by
 cases t; rfl
def zau (d:Int)(q:Int×Int×Int×Int):Int×Int×Int×Int:=(q.1,q.2.1+d,q.2.2.1+d,q.2.2.2+d)
theorem zdE (d:Int)(k:Int){p p':Nat}(hp:(p':Int)=p+d)(q:Int×Int×Int×Int):yi.node (xt k p' (zau d q)) []=(yi.node (xt k p q) []).mv d:=by
 simp[yi.mv,mvL,xt,DtP.mv,zau,hp]
theorem zhI {tk tk':Nat→Int×Int×Int×Int}{n:Nat}{b:Nat}{d:Int}(hs:∀p p':Nat,b≤p→p≤n→(p':Int)=p+d→tk' p'=zau d (tk p))(hr:∀p:Nat,p≤n→(p:Int)≤(tk p).2.2.1∧(tk p).2.2.1≤n)(hbd:0≤(b:Int)+d):∀(k p p':Nat) (row:Row) (e e':Int),b≤p→p≤n→(p':Int)=p+d→e'=e+d→Zd tk' k p' row e'=((Zd tk k p row e).1,(Zd tk k p row e).2+d):=by
 intro k; induction k with
 |zero=>intro p p' row e e' _ _ _ he;simp[Zd,he]
 |succ k ih=>
  intro p p' row e e' hb hp hpp he; have h1:=hs p p' hb hp hpp; have hrp:=hr p hp; unfold Zd
  rw[h1]
  have hm:max e' (zau d (tk p)).2.2.2=max e (tk p).2.2.2+d:=by
   show max e' ((tk p).2.2.2+d)=_; omega
  rw[hm]
  show(if(tk p).1=-2 then _ else _)=_
  split
  ·rfl
  ·have e1:(zau d (tk p)).1=(tk p).1:=rfl
   rw[e1]
   refine ih _ _ _ _ _ (by omega) (by omega) ?_ rfl
   show((((tk p).2.2.1+d).toNat:Nat):Int)=_
   omega
theorem zaO {L L':LxP}(H:QL L)(hg:L'.g=L.g)(hp:L'.pred=L.pred)(hb:L'.beh=L.beh){b:Nat}{d:Int}(hbd:0≤(b:Int)+d)(hs:∀p p':Nat,b≤p→p≤L.n→(p':Int)=p+d→L'.tk p'=zau d (L.tk p)):∀f,
 (∀left (til to':Nat) look look' kids (lo lo':Nat) t,b≤til→til≤L.n→(to':Int)=til+d→(lo':Int)=lo+d→(look'=look+d∨look=0∧look'=0)→0≤left→left < L.g.nons→yG L f left til look kids lo=some t→yG L' f left to' look' (mvL d kids) lo'=some (t.mv d))∧
 (∀r (til to':Nat) kids z,b≤til→til≤L.n→(to':Int)=til+d→(∀s∈r,s < L.g.terms+L.g.nons)→yz L f r til kids=some z→∃z2:Nat,(z2:Int)=z.2+d∧yz L' f r to' (mvL d kids)=some (mvL d z.1,z2))∧
 ∀s (p p':Nat) t,b≤p→p≤L.n→(p':Int)=p+d→s < L.g.terms+L.g.nons→vG L f s p=some t→vG L' f s p'=some (t.mv d):=by
 have hright:∀i,L'.right i=L.right i:=fun i=>by unfold LxP.right;rw[hg]
 have hr:∀p:Nat,p≤L.n→(p:Int)≤(L.tk p).2.2.1∧(L.tk p).2.2.1≤L.n:=fun p h=>by have:=H.tok p h;omega
 have hwin:∀p p':Nat,b≤p→p≤L.n→(p':Int)=p+d→L'.win p'=((L.win p).1,(L.win p).2+d):=fun p p' h1 h2 h3=>by
  unfold LxP.win
  rw[hg]
  exact zhI hs hr hbd _ _ _ _ _ _ h1 h2 h3 h3
 intro f; induction f with
 |zero=>refine⟨?_,?_,?_⟩<;>intros<;>simp_all [yG,yz,vG]
 |succ f ih=>
  obtain⟨i1,i2,i3⟩:=ih
  refine⟨fun left til to' look look' kids lo lo' t hbt hto htt hll hlk hl0 hl1 h=>?_,fun r til to' kids z hbt hto htt hrs h=>?_,fun s q q' t hbq hq hqq hst h=>?_⟩
  ·have hw:=hwin til to' hbt hto htt; have htk:=hs til to' hbt hto htt
   obtain⟨t1,t2,t3,t4,t5,t6,t7,t8⟩:=H.tok til hto
   have hwe:=zd0 L H.gm.kn til; have hm:max look' (L'.win to').2=max look (L.win til).2+d:=by
    rw[hw]
    show max look' ((L.win til).2+d)=_; rcases hlk with hlk|⟨hlk,hlk'⟩<;>omega
   have e1:(zau d (L.tk til)).1=(L.tk til).1:=rfl; have e2:(L'.win to').1=(L.win til).1:=by rw[hw]
   unfold yG at h ⊢
   rw[hp,hright,hb,htk,hg,hm,e2,e1]
   split at h
   ·rename_i hpr
    rw[if_pos hpr]
    obtain⟨q,hq,_,_⟩:=H.yes left _ hpr
    have hright2:L.right (L.pred left (L.win til).1)=q.right:=by unfold LxP.right;rw[hq];rfl
    cases hs:yz L f (L.right (L.pred left (L.win til).1)) til kids with
    |none=>rw[hs]at h;cases h
    |some z=>
     rw[hs]at h
     injection h with h; subst h
     obtain⟨z2,c1,c2⟩:=i2 _ til to' kids z hbt hto htt (by rw[hright2];exact fun s hs=>(H.gm.sym q (List.mem_of_getElem? hq) s hs).2) hs
     rw[c2]
     simp[yi.mv,DtP.mv,hll,c1]
   ·rename_i hpr
    rw[if_neg hpr]
    split at h
    ·rename_i hst
     rw[if_pos hst]
     injection h with h; subst h
     have:(mvL d kids).isEmpty=kids.isEmpty:=by cases kids<;>rfl
     rw[this]
     simp[yi.mv,DtP.mv,hll,htt]
    ·rename_i hst
     rw[if_neg hst]
     have:=i1 left (L.tk til).2.2.1.toNat (zau d (L.tk til)).2.2.1.toNat (max look (L.win til).2) (max look (L.win til).2+d) (kids++[.node (xt 5 til (L.tk til)) []]) lo lo' t (by omega) (by omega) (by
      show((((L.tk til).2.2.1+d).toNat:Nat):Int)=_
      omega) hll (.inl rfl) hl0 hl1 h
     rw[VN,List.map_append,←VN]at this
     rw[←this,zdE d 5 htt]
     rfl
  ·cases r with
   |nil=>
    unfold yz at h ⊢; injection h with h; subst h
    exact⟨to',htt,rfl⟩
   |cons s r=>
    unfold yz at h ⊢; cases hs:vG L f s til with
    |none=>rw[hs]at h;cases h
    |some t=>
     rw[hs]at h
     rw[i3 _ _ _ _ hbt hto htt (hrs s (by simp)) hs]
     obtain⟨hi,c1,c2,c3⟩:=((xH H f).2.2 _ _ _ (hrs s (by simp)) hto hs).1
     simp only[c1,Int.toNat_natCast]at h ⊢
     obtain⟨z2,k1,k2⟩:=i2 r hi (t.mv d).d.hi.toNat (kids++[t]) z (by omega) c3 (by
      rw[zjU]
      show(((t.d.hi+d).toNat:Nat):Int)=_
      omega) (fun x hx=>hrs x (List.mem_cons_of_mem _ hx)) h
     refine⟨z2,k1,?_⟩
     rw[←k2,VN,VN,List.map_append]
     rfl
  ·unfold vG at h ⊢
   rw[hg]
   split at h
   ·rename_i hts
    rw[if_pos hts]
    exact i1 _ _ _ _ _ [] _ _ _ hbq hq hqq hqq (.inr ⟨rfl,rfl⟩) (by omega) (by omega) h
   ·rename_i hts
    rw[if_neg hts,hs q q' hbq hq hqq]
    have e1:(zau d (L.tk q)).1=(L.tk q).1:=rfl
    rw[e1]
    split at h
    ·rename_i hk
     rw[if_pos hk]
     injection h with h; subst h
     rw[zdE d 3 hqq]
    ·rename_i hk
     rw[if_neg hk]
     injection h with h; subst h; simp[yi.mv,mvL,DtP.mv,zau,hqq]
def zh2 (w:World)(b:Nat)(v0 v1 v2 v3 v4 v5 v6 v7:Value):World:=(((ZX w b v0 v1 v2 v3 v4).setCell ⟨b,5,none⟩ v5).setCell ⟨b,6,none⟩ v6).setCell ⟨b,7,none⟩ v7
theorem JR {S:Nat→Prop}{w:World}{b:Nat}(hb:S b)(v0 v1 v2 v3 v4 v5 v6 v7:Value):zA S w (zh2 w b v0 v1 v2 v3 v4 v5 v6 v7):=(((xG hb v0 v1 v2 v3 v4).trans (zA.setCell _ (p:=⟨b,5,none⟩) hb v5)).trans (zA.setCell _ (p:=⟨b,6,none⟩) hb v6)).trans (zA.setCell _ (p:=⟨b,7,none⟩) hb v7)
theorem zdF {w:World}{b:Nat}{T:TypeId}{a0 a1 a2 a3 a4 a5 a6 a7:Value}(h:w.heap[b]?=some (.cells #[a0,a1,a2,a3,a4,a5,a6,a7] T))(v0 v1 v2 v3 v4 v5 v6 v7:Value):(zh2 w b v0 v1 v2 v3 v4 v5 v6 v7).heap[b]?=some (.cells #[v0,v1,v2,v3,v4,v5,v6,v7] T):=by
 have h0:=zn (k:=0) h v0
 rw[show(#[a0,a1,a2,a3,a4,a5,a6,a7]:Array Value).setIfInBounds 0 v0=#[v0,a1,a2,a3,a4,a5,a6,a7]from rfl]at h0
 have h1:=zn (k:=1) h0 v1
 rw[show(#[v0,a1,a2,a3,a4,a5,a6,a7]:Array Value).setIfInBounds 1 v1=#[v0,v1,a2,a3,a4,a5,a6,a7]from rfl]at h1
 have h2:=zn (k:=2) h1 v2
 rw[show(#[v0,v1,a2,a3,a4,a5,a6,a7]:Array Value).setIfInBounds 2 v2=#[v0,v1,v2,a3,a4,a5,a6,a7]from rfl]at h2
 have h3:=zn (k:=3) h2 v3
 rw[show(#[v0,v1,v2,a3,a4,a5,a6,a7]:Array Value).setIfInBounds 3 v3=#[v0,v1,v2,v3,a4,a5,a6,a7]from rfl]at h3
 have h4:=zn (k:=4) h3 v4
 rw[show(#[v0,v1,v2,v3,a4,a5,a6,a7]:Array Value).setIfInBounds 4 v4=#[v0,v1,v2,v3,v4,a5,a6,a7]from rfl]at h4
 have h5:=zn (k:=5) h4 v5
 rw[show(#[v0,v1,v2,v3,v4,a5,a6,a7]:Array Value).setIfInBounds 5 v5=#[v0,v1,v2,v3,v4,v5,a6,a7]from rfl]at h5
 have h6:=zn (k:=6) h5 v6
 rw[show(#[v0,v1,v2,v3,v4,v5,a6,a7]:Array Value).setIfInBounds 6 v6=#[v0,v1,v2,v3,v4,v5,v6,a7]from rfl]at h6
 have h7:=zn (k:=7) h6 v7
 rw[show(#[v0,v1,v2,v3,v4,v5,v6,a7]:Array Value).setIfInBounds 7 v7=#[v0,v1,v2,v3,v4,v5,v6,v7]from rfl]at h7
 unfold zh2 ZX yX y8 put2; exact h7
def zcl (kind:Int)(p:Int)(q:Int×Int×Int×Int):Value:=.agg #[.int .i64 q.1,.int .i64 kind,.int .i64 p,.int .i64 q.2.1,.int .i64 q.2.2.1,.int .i64 q.2.2.2,zH,.int .u64 0]
set_option maxRecDepth 100000 in
set_option maxHeartbeats 4000000 in
theorem VS (kind p:Int)(q:Int×Int×Int×Int)(w:World):Calls Tryz.prog 30 #[.int .i64 kind,zbs p q] w fun e w'=>e=.returned (zcl kind p q)∧Ext w w':=by
 obtain⟨t0,t1,t2,t3⟩:=q
 obtain⟨g0,hg0⟩:∃b,w.heap.size=b:=⟨_,rfl⟩
 obtain⟨W,hW⟩:∃W,(w.alloc (.cells #[.int .i64 t0,.int .i64 p,.int .i64 t1,.int .i64 t2,.int .i64 t3] 83)).alloc (.cells #[.int .i64 0,.int .i64 0,.int .i64 0,.int .i64 0,.int .i64 0,.int .i64 0,zH,.int .u64 0] 54)=W:=⟨_,rfl⟩
 have X1:Ext w W:=by rw[←hW];exact xi
 have B1:W.heap[g0]?=some (.cells #[.int .i64 t0,.int .i64 p,.int .i64 t1,.int .i64 t2,.int .i64 t3] 83):=by rw[←hW,←hg0];exact(by simp only[zm,World.size_alloc];(repeat(split;(first|rfl|(exfalso;omega))));(try(first|(exfalso;omega)|simp_all)))
 have R1:W.heap[g0+1]?=some (.cells #[.int .i64 0,.int .i64 0,.int .i64 0,.int .i64 0,.int .i64 0,.int .i64 0,zH,.int .u64 0] 54):=by rw[←hW,←hg0];exact(by simp only[zm,World.size_alloc];(repeat(split;(first|rfl|(exfalso;omega))));(try(first|(exfalso;omega)|simp_all)))
 have P4:=zdF R1 (.int .i64 t0) (.int .i64 kind) (.int .i64 p) (.int .i64 t1) (.int .i64 t2) (.int .i64 t3) zH (.int .u64 0)
 obtain⟨W4,hW4⟩:∃W4,zh2 W (g0+1) (.int .i64 t0) (.int .i64 kind) (.int .i64 p) (.int .i64 t1) (.int .i64 t2) (.int .i64 t3) zH (.int .u64 0)=W4:=⟨_,rfl⟩
 have HX4:Hid (Ext w W4):=zh (by rw[←hW4];exact(JR (S:=fun k=>k=g0+1) rfl _ _ _ _ _ _ _ _).ext X1 (fun k hk=>by omega))
 rw[hW4]at P4
 have b0:=cr 0 B1; have b1:=cr 1 B1; have b2:=cr 2 B1; have b3:=cr 3 B1; have b4:=cr 4 B1; have lb:=za B1; have r0:=cr 0 R1; have r1:=cr 1 R1; have r2:=cr 2 R1; have r3:=cr 3 R1; have r4:=cr 4 R1; have r5:=cr 5 R1; have r6:=cr 6 R1; have r7:=cr 7 R1; have ff:=fun k=>zi R1 k; have e0:=cr 0 P4; have e1:=cr 1 P4; have e2:=cr 2 P4; have e3:=cr 3 P4; have e4:=cr 4 P4; have e5:=cr 5 P4; have e6:=cr 6 P4; have e7:=cr 7 P4; simp at b0 b1 b2 b3 b4 r0 r1 r2 r3 r4 r5 r6 r7 e0 e1 e2 e3 e4 e5 e6 e7
 unfold zh2 ZX yX y8 put2 at hW4; clear B1 R1 P4 X1; unfold zbs zcl; dsimp only; go_in
 go_upto_region 1 with fail; try simp only[hg0]
 try clear hW
 go_wp2_with fail; exact bodyPost_ret (v:=.agg #[.int .i64 t0,.int .i64 kind,.int .i64 p,.int .i64 t1,.int .i64 t2,.int .i64 t3,zH,.int .u64 0]) (by simp[results,Tryz.results30,go_sem, *]) rfl ⟨rfl,HX4.out⟩
structure Sh where
 sym:Int
 kind:Int
 lo:Int
 inn:Int
 hi:Int
 look:Int
 ks:List Int
structure Pt where
 nd:Sh
 kA:Option Addr
 kc:Nat
def ptC (p:Pt):List Value:=[.int .i64 p.nd.sym,.int .i64 p.nd.kind,.int .i64 p.nd.lo,.int .i64 p.nd.inn,.int .i64 p.nd.hi,.int .i64 p.nd.look,.slice p.kA p.nd.ks.length p.kc,.int .u64 0]
def pw (ps:List Pt):List Value:=ps.flatMap ptC
theorem JU (ps:List Pt):(pw ps).length=ps.length*8:=by
 induction ps with
 |nil=>rfl
 |cons p ps ih=>simp only[pw,List.flatMap_cons,List.length_append,List.length_cons]at*;rw[ih];simp[ptC];omega
theorem zdg (ps qs:List Pt):pw (ps++qs)=pw ps++pw qs:=List.flatMap_append
theorem zhb:∀{ps:List Pt} {k:Nat} {p:Pt} (r:Nat),ps[k]?=some p→r < 8→(pw ps)[k*8+r]?=(ptC p)[r]?
 |[],k,p,r,h,_=>by simp at h
 |q ::ps,0,p,r,h,hr=>by
  simp at h
  subst h; simp only[pw,List.flatMap_cons,Nat.zero_mul,Nat.zero_add]
  rw[List.getElem?_append_left (by simp[ptC];omega)]
 |q ::ps,k+1,p,r,h,hr=>by
  simp only[pw,List.flatMap_cons]
  rw[List.getElem?_append_right (by simp[ptC];omega)]
  have:=zhb (ps:=ps) (k:=k) r (by simpa using h) hr
  rw[←this]
  congr 1
  simp[ptC]
  omega
theorem zjk (ps:List Pt):∀u∈pw ps,u.oneCell'=true:=by
 intro u hu
 obtain⟨x,_,hx⟩:=List.mem_flatMap.1 hu
 simp only[ptC,List.mem_cons,List.not_mem_nil,or_false]at hx
 rcases hx with rfl|rfl|rfl|rfl|rfl|rfl|rfl|rfl<;>rfl
theorem zhG:∀{qs:List Pt} {i:Nat} {q q':Pt} {r:Nat} {u:Value},qs[i]?=some q→r < 8→ptC q'=(ptC q).set r u→pw (qs.set i q')=(pw qs).set (i*8+r) u
 |[],i,q,q',r,u,h,_,_=>by simp at h
 |p ::qs,0,q,q',r,u,h,hr,hc=>by
  simp at h
  subst h; simp only[List.set_cons_zero,pw,List.flatMap_cons,Nat.zero_mul,Nat.zero_add]
  rw[hc,List.set_append_left _ _ (by simp[ptC];omega)]
 |p ::qs,i+1,q,q',r,u,h,hr,hc=>by
  have ih:=zhG (qs:=qs) (i:=i) (q:=q) (q':=q') (r:=r) (u:=u) (by simpa using h) hr hc; simp only[List.set_cons_succ]
  have e:pw (p ::qs.set i q')=ptC p++pw (qs.set i q'):=by simp[pw]
  have e2:pw (p ::qs)=ptC p++pw qs:=by simp[pw]
  rw[e,e2,ih,List.set_append_right _ _ (by simp[ptC];omega)]
  congr 2
  simp[ptC]
  omega
theorem zc9 {w:World}{base g c n:Nat}{qs:List Pt}(h:w.ownsRow base 54 8 (.slice (some ⟨g,0,none⟩) n c) n (pw qs)){i:Nat}{q q':Pt}{r:Nat}{u:Value}(hi:qs[i]?=some q)(hr:r < 8)(hc:ptC q'=(ptC q).set r u):
 (w.setCell ⟨g,i*8+r,none⟩ u).ownsRow base 54 8 (.slice (some ⟨g,0,none⟩) n c) n (pw (qs.set i q')):=by
 obtain⟨h1,h2⟩:=h
 rw[zhG hi hr hc]
 rcases h2 with⟨h2,_⟩|⟨g',cap,cur,h2,h3,h4,h5,h6,h7,h8⟩
 ·cases h2
 ·injection h2 with a1 a2 a3; injection a1 with a1; injection a1 with a1; subst a1 a3
  refine⟨by rw[List.length_set];exact h1,.inr ⟨g,c,cur.setIfInBounds (i*8+r) u,rfl,h3,by simp[World.setCell,Array.getElem?_modify,h4],h5,h6,by rw[Array.size_setIfInBounds];exact h7,?_⟩⟩
  rw[Array.toList_setIfInBounds,List.take_set,h8]
structure ZD (w:World)(p:Pt):Prop where
 ints:xW w p.kA p.nd.ks
 cap:p.nd.ks.length≤p.kc
 top:p.kc≤maxLen
 nil:p.kA=none→p.kc=0
 typ:∀g off s,p.kA=some ⟨g,off,s⟩→∃cs,w.heap[g]?=some (.cells cs 3)
theorem ZD.turn {w w':World}{p:Pt}{S:Nat→Prop}(h:ZD w p)(t:zA S w w')(hS:∀g cs,w.heap[g]?=some (.cells cs 3)→¬S g):ZD w' p:=by
 refine⟨fun h0=>?_,h.cap,h.top,h.nil,fun g off s hA=>?_⟩
 ·obtain⟨b,off,k1,k2,k3⟩:=h.ints h0
  obtain⟨cs,hcs⟩:=h.typ b off _ k1
  exact⟨b,off,k1,Nat.lt_of_lt_of_le k2 t.size,fun k hk=>(World.cell?_of_block (w:=w) (a:=⟨b,off+k,none⟩) (t.block b k2 (hS b cs hcs))).trans (k3 k hk)⟩
 ·obtain⟨cs,hcs⟩:=h.typ g off s hA
  exact⟨cs,t.keep hcs (hS g cs hcs)⟩
theorem xj.kids {w:World}{base:Nat}{A:Option Addr}{c:Nat}{p:Pt}(h:xj w base (.slice A p.nd.ks.length c) p.nd.ks)(hA:p.kA=A)(hc:p.kc=c):ZD w p:=by
 have ho:=h.own
 obtain⟨A',c',hv,hi⟩:=h
 injection hv with h1 _ h3; subst h1 h3 hA hc
 obtain⟨k1,k2,k3,k4⟩:=hi.ints
 exact⟨k1,k2,k3,k4,fun g off s hg=>zZ ho g (by rw[hg];rfl)⟩
structure jX (w:World)(base:Nat)(v:Value)(ps:List Pt):Prop where
 own:w.ownsRow base 54 8 v ps.length (pw ps)
 kids:∀p∈ps,ZD w p
section
variable {w w':World}{base:Nat}{v:Value}{ps:List Pt}
theorem jX.turn {S:Nat→Prop}(h:jX w base v ps)(t:zA S w w')(h1:∀g,v.ownBlock=some g→¬S g)(h2:∀g cs,w.heap[g]?=some (.cells cs 3)→¬S g):jX w' base v ps:=
 ⟨ye h.own fun g hg=>t.block g (z8 h.own g hg) (h1 g hg),fun p hp=>(h.kids p hp).turn t h2⟩
theorem jX.ext (h:jX w base v ps)(e:Ext w w'):jX w' base v ps:=h.turn (zA.of_ext (S:=fun _=>False) e) (fun _ _ h=>h) (fun _ _ _ h=>h)
structure zjd (w:World)(b k:Nat)(p:Pt):Prop where
 sym:w.cell? ⟨b,k,none⟩=some (.int .i64 p.nd.sym)
 kind:w.cell? ⟨b,k+1,none⟩=some (.int .i64 p.nd.kind)
 lo:w.cell? ⟨b,k+2,none⟩=some (.int .i64 p.nd.lo)
 inn:w.cell? ⟨b,k+3,none⟩=some (.int .i64 p.nd.inn)
 hi:w.cell? ⟨b,k+4,none⟩=some (.int .i64 p.nd.hi)
 look:w.cell? ⟨b,k+5,none⟩=some (.int .i64 p.nd.look)
 kids:w.cell? ⟨b,k+6,none⟩=some (.slice p.kA p.nd.ks.length p.kc)
 met:w.cell? ⟨b,k+7,none⟩=some (.int .u64 0)
 lt:b < w.heap.size
 frozen:∀j,w.frozen? ⟨b,j,none⟩=false
theorem jX.at_ {g c n i:Nat}{p:Pt}(h:jX w base (.slice (some ⟨g,0,none⟩) n c) ps)(hn:n=ps.length)(hi:ps[i]?=some p):zjd w g (i*8) p:=by
 subst hn
 obtain⟨A,cap,hv,hc,_⟩:=zW h.own
 injection hv with hA _ _; subst hA; have hlt:=(List.getElem?_eq_some_iff.1 hi).1
 obtain⟨b,off,he,hb,hcc⟩:=hc (by rw[JU];omega)
 injection he with he; injection he with he1 he2; subst he1 he2; have key:∀r v,r < 8→(ptC p)[r]?=some v→w.cell? ⟨g,i*8+r,none⟩=some v:=fun r v hr hv=>by
  have:=hcc (i*8+r) v ((zhb r hi hr).trans hv)
  rwa[Nat.zero_add]at this
 exact⟨by have:=key 0 _ (by omega) rfl;simpa using this,key 1 _ (by omega) rfl,key 2 _ (by omega) rfl,key 3 _ (by omega) rfl,key 4 _ (by omega) rfl,key 5 _ (by omega) rfl,key 6 _ (by omega) rfl,key 7 _ (by omega) rfl,hb,fun j=>World.ownsRow.frozenAt h.own j⟩
theorem jX.store {g c n i r:Nat}{q q':Pt}{u:Value}(h:jX w base (.slice (some ⟨g,0,none⟩) n c) ps)(hn:n=ps.length)(hi:ps[i]?=some q)(hr:r < 8)(hc:ptC q'=(ptC q).set r u)(hk:ZD w q'):jX (w.setCell ⟨g,i*8+r,none⟩ u) base (.slice (some ⟨g,0,none⟩) n c) (ps.set i q'):=by
 subst hn
 obtain⟨cur,hcur⟩:=zZ h.own g rfl
 have T:zA (fun k=>k=g) w (w.setCell ⟨g,i*8+r,none⟩ u):=zA.set1 _ _ _
 refine⟨by rw[List.length_set];exact zc9 h.own hi hr hc,fun p hp=>?_⟩
 have hne:∀g' cs,w.heap[g']?=some (.cells cs 3)→¬g'=g:=fun g' cs hg he=>zU hg hcur (by decide) he; rcases List.mem_or_eq_of_mem_set hp with hp|rfl
 ·exact(h.kids p hp).turn T hne
 ·exact hk.turn T hne
theorem jX.len (h:jX w base v ps):∃A c,v=.slice A ps.length c:=by
 obtain⟨A,c,hv,_⟩:=zW h.own
 exact⟨A,c,hv⟩
theorem jX.block {A:Option Addr}{n c:Nat}(h:jX w base (.slice A n c) ps)(h0:0 < ps.length):∃g,A=some ⟨g,0,none⟩∧base≤g∧g < w.heap.size∧∃cs,w.heap[g]?=some (.cells cs 54):=by
 have ho:=h.own
 obtain⟨A',c',hv,_⟩:=zW ho
 injection hv with h1 h2 h3; subst h1 h2 h3
 obtain⟨g,rfl,h4,h5⟩:=QB ho h0
 exact⟨g,rfl,h4,h5,zZ ho g rfl⟩
end
theorem zfY:(Tryz.prog.info? 54).map (fun i=>(i.zero,i.size,i.bytes))=some (some (.agg #[.int .i64 0,.int .i64 0,.int .i64 0,.int .i64 0,.int .i64 0,.int .i64 0,.slice none 0 0,.int .u64 0]),8,80):=by kernel_rfl
theorem zd6 (w0:World){w:World}{ops:Array Oper}{rest:List Oper}{o:Oper}{a:Act}{Q:Exit→Act→World→Prop}(hw:Region.wanted o (yielded ops a.tmps)=true)(s x:Operand)
 (ho:o.op=.call {callee:=.builtin .append,args:=#[s,x],argTypes:=#[45,45]}) {ps qs:List Pt} {v:Value} (hr:jX w w0.heap.size v ps) {A:Option Addr} {c:Nat}
 (hs:a.eval s=v) (hx:a.eval x=.slice A qs.length c) (hA:A=none→c=0) (hc:yI w A (pw qs)) (hk:∀q∈qs,ZD w q) (hlen:ps.length≤1000000000) (hlen2:qs.length≤1000000000) (hext:Ext w0 w)
 (h:∀v' w',jX w' w0.heap.size v' (ps++qs)→w.grownBy w' v.ownBlock→(v'.ownBlock=v.ownBlock∨v'.ownBlock=some w.heap.size)→Ext w0 w'→wpList Tryz.prog ops Q rest (a.put o.dst v') w'):wpList Tryz.prog ops Q (o ::rest) a w:=by
 obtain⟨i3,hi,hz0,hz1,hz2⟩:=info_parts zfY
 refine zE w hw s x 45 ho w0.heap.size 54 i3 _ 8 80 Tryz.underlying45 hi hz0 hz1 hz2 rfl (by omega) v ps.length (pw ps) hs hr.own A qs.length c (pw qs) hx hA (JU _)
  hc (zjk _) (by unfold maxLen;omega) (by omega) hext.size fun v' w' h2 h3 h4=>?_
 have T:zA (fun g=>v.ownBlock=some g) w w':=zA.grown h3 (fun g hg _=>hg); have hne:∀g cs,w.heap[g]?=some (.cells cs 3)→¬v.ownBlock=some g:=fun g cs hg he=>by
  obtain⟨cur,hcur⟩:=zZ hr.own g he
  exact zU hg hcur (by decide) rfl
 refine h v' w' ⟨by rw[zdg,List.length_append];exact h2,fun p hp=>?_⟩ h3 h4 (hext.grown h3 fun g hg=>zV hr.own g hg); rcases List.mem_append.1 hp with hp|hp
 ·exact(hr.kids p hp).turn T hne
 ·exact(hk p hp).turn T hne
def yK (n:Nat)(q:Sh):Sh:={q with ks:=q.ks.map (· +(n:Int))}
def zc1 (n:Nat):List Sh→List Sh
 |[]=>[]
 |p ::r=>{p with ks:=p.ks++[(n:Int)]} ::r
def q9 (ps qs:List Sh):List Sh:=zc1 ps.length ps++qs.map (yK ps.length)
def shs (ps:List Pt):List Sh:=ps.map (·.nd)
theorem zA.old {S:Nat→Prop}{w w':World}(t:zA (fun g=>S g∨w.heap.size≤g) w w'):zA S w w':=
 ⟨t.os,t.tape,t.output,t.size,fun k hk hS=>t.block k hk (fun he=>by
   rcases he with he|he
   ·exact hS he
   ·omega)⟩
theorem zA.wide {S S':Nat→Prop}{w w':World}(t:zA S w w')(h:∀g,S g→S' g):zA S' w w':=⟨t.os,t.tape,t.output,t.size,fun k hk hS=>t.block k hk (fun he=>hS (h k he))⟩
theorem jp {w:World}{g k:Nat}{v:Value}{cs:Array Value}{T:TypeId}(hb:w.heap[g]?=some (.cells cs T))(hc:w.cell? ⟨g,k,none⟩=some v):w.setCell ⟨g,k,none⟩ v=w:=by
 refine zcV w g k cs _ _ _ hb ?_
 rw[←hc]
 exact(cr k hb).symm
def QO (n k:Nat)(qs us:List Pt):Prop:=us.length=qs.length∧∀(j:Nat) (q:Pt),qs[j]?=some q→∃p,us[j]?=some p∧(j < k→p.nd=yK n q.nd)∧(k≤j→p=q)
theorem QO.zero (n:Nat)(qs:List Pt):QO n 0 qs qs:=⟨rfl,fun j q h=>⟨q,h,fun h=>by omega,fun _=>rfl⟩⟩
theorem QO.step {n k:Nat}{qs us:List Pt}{q q':Pt}(h:QO n k qs us)(hq:qs[k]?=some q)(hs:q'.nd=yK n q.nd):QO n (k+1) qs (us.set k q'):=by
 have hk:=(List.getElem?_eq_some_iff.1 hq).1
 refine⟨by rw[List.length_set];exact h.1,fun j p hj=>?_⟩
 obtain⟨p',h1,h2,h3⟩:=h.2 j p hj
 by_cases hjk:j=k
 ·subst hjk
  rw[hq]at hj
  injection hj with hj; subst hj
  exact⟨q',by rw[List.getElem?_set_self (by rw[h.1];exact hk)],fun _=>hs,fun h=>by omega⟩
 ·exact⟨p',by rw[List.getElem?_set_ne (fun h=>hjk h.symm)];exact h1,fun h=>h2 (by omega),fun h=>h3 (by omega)⟩
theorem QO.all {n:Nat}{qs us:List Pt}(h:QO n qs.length qs us):shs us=(shs qs).map (yK n):=by
 unfold shs; apply List.ext_getElem?
 intro j
 rw[List.getElem?_map,List.getElem?_map,List.getElem?_map]
 by_cases hj:j < qs.length
 ·obtain⟨q,hq⟩:∃q,qs[j]?=some q:=⟨_,List.getElem?_eq_getElem hj⟩
  obtain⟨p,h1,h2,_⟩:=h.2 j q hq
  rw[h1,hq]
  simp[h2 hj]
 ·rw[List.getElem?_eq_none (by rw[h.1];omega),List.getElem?_eq_none (by omega)]
  rfl
theorem zgX {ps:List Pt}{p p':Pt}{n:Nat}(h0:ps[0]?=some p)(hp:p'.nd={p.nd with ks:=p.nd.ks++[(n:Int)]}):shs (ps.set 0 p')=zc1 n (shs ps):=by
 cases ps with
 |nil=>simp at h0
 |cons a r=>
  simp at h0
  subst h0; simp[shs,zc1,hp]
set_option maxRecDepth 100000 in
set_option maxHeartbeats 2000000 in
theorem zcm (v u:Value)(ps qs:List Pt)(w0 w:World)(hv:jX w w0.heap.size v ps)(hu:jX w w0.heap.size u qs)(ha:j8 v u)(h0:0 < ps.length)(hq0:0 < qs.length)(hp:ps.length≤100000000)(hq:qs.length≤100000000)(hk:∀p∈ps++qs,p.nd.ks.length≤1000∧∀k∈p.nd.ks,0≤k∧k≤1000000000)(e:Ext w0 w):
 Calls Tryz.prog 28 #[v,u] w fun e w'=>∃v' rs,e=.returned v'∧jX w' w0.heap.size v' rs∧shs rs=q9 (shs ps) (shs qs)∧zA (fun g=>v.ownBlock=some g∨u.ownBlock=some g) w w'∧Ext w0 w':=by
 obtain⟨VA,vc,rfl⟩:=hv.len
 obtain⟨UA,uc,rfl⟩:=hu.len
 obtain⟨vg,rfl,hvb,hvl,vcs,hvt⟩:=hv.block h0
 obtain⟨ug,rfl,hub,hul,ucs,hut⟩:=hu.block hq0
 have hne:vg≠ug:=fun he=>ha vg rfl (by rw[he];rfl)
 obtain⟨p0,hp0⟩:∃p,ps[0]?=some p:=⟨_,List.getElem?_eq_getElem h0⟩
 obtain⟨pn,hpn⟩:∃n,ps.length=n:=⟨_,rfl⟩
 obtain⟨qn,hqn⟩:∃n,qs.length=n:=⟨_,rfl⟩
 have hC0:=hv.at_ rfl hp0; have hK0:=hv.kids p0 (List.mem_of_getElem? hp0); have hB0:=hk p0 (List.mem_append_left _ (List.mem_of_getElem? hp0)); have HV:=zh hv; have HU:=zh hu; have HK:=zh hk; have HE:=zh e; have HP0:=zh hp0; have HPN:=zh hpn; have HQN:=zh hqn; have HNE:=zh hne; have HK0:=zh hK0; have HC0:=zh hC0; have HB0:=zh hB0; have HVL:Hid (vg < w.heap.size∧ug < w.heap.size∧w0.heap.size≤vg∧w0.heap.size≤ug):=zh ⟨hvl,hul,hvb,hub⟩
 obtain⟨c0,c1,c2,c3,c4,c5,c6,c7,cl,cf⟩:=hC0
 rw[hpn]at hp h0
 rw[hqn]at hq hq0
 simp only[hpn,hqn]
 simp at c6
 clear hv hu hk e hp0 hpn hqn hvt hut hK0 hB0 ha hne c0 c1 c2 c3 c4 c5 c7 hvl hul hvb hub
 obtain⟨ks,hks⟩:∃n,p0.nd.ks.length=n:=⟨_,rfl⟩
 have HKS:=zh hks
 rw[hks]at c6
 clear hks; go_in
 have cf6:=cf 6; go_upto_region 2 with(first|(at_builtin;refine Jk w (by rfl) (.tmp 9) (.tmp 13) rfl (Yi w w.heap.size (Nat.le_refl _)) p0.nd.ks p0.kA p0.kc rfl (by rw[HKS.out];rfl) HK0.out.nil (HK0.out.ints.ext xi) (by have:=HB0.out.1;simp<;>omega) xi ?_;intro v4 w4 hr4 hg4 hx4;have HX4:=zh hx4;have HR4:=zh hr4;obtain⟨K4,k4,rfl,_⟩:=id hr4;clear hr4 hg4 hx4)|(at_builtin;refine yV w (by rfl) (.tmp 14) (.tmp 17) rfl (xs:=[]++p0.nd.ks) (HR4.out.ext xi) (pn:Int) w4.heap.size rfl rfl (by simp) (by rw[cr 0 (heap_alloc_new w4 (.cells #[.int .i64 ((pn:Int))] 3))];rfl) (by have:=HB0.out.1;simp<;>omega) (by have:=HX4.out.size;simp<;>omega) ?_;intro v5 w5 hr5 hg5 hat5;have HX5:Hid (Ext w w5):=zh ((HX4.out.trans (xi:Ext w4 (w4.alloc (.cells #[.int .i64 ((pn:Int))] 3)))).grown hg5 (fun g hg=>zV HR4.out.own g hg));obtain⟨K5,k5,rfl,_⟩:=id hr5;have d6:=zy c6 cl HX5.out;have dl:=Nat.lt_of_lt_of_le cl HX5.out.size;have df:w5.frozen? ⟨vg,6,none⟩=false:=((HV.out.ext HX5.out).at_ rfl HP0.out).frozen 6))
 obtain⟨p1,hp1⟩:∃p1:Pt,p1=⟨{p0.nd with ks:=p0.nd.ks++[(pn:Int)]},K5,k5⟩:=⟨_,rfl⟩
 obtain⟨W6,hW6⟩:∃V,w5.setCell ⟨vg,6,none⟩ (.slice K5 (p0.nd.ks.length+1) k5)=V:=⟨_,rfl⟩
 have hs6:jX W6 w0.heap.size (.slice (some ⟨vg,0,none⟩) pn vc) (ps.set 0 p1):=by
  have hkk:ZD w5 p1:=by
   rw[hp1]
   exact xj.kids (p:=⟨{p0.nd with ks:=p0.nd.ks++[(pn:Int)]},K5,k5⟩) hr5 rfl rfl
  have:=(HV.out.ext HX5.out).store (g:=vg) (i:=0) (r:=6) (q:=p0) (q':=p1) (u:=.slice K5 (p0.nd.ks.length+1) k5) rfl HP0.out (by omega) (by rw[hp1];simp[ptC]) hkk
  rw[←hW6,←HPN.out]
  simpa using this
 have T6:zA (fun g=>g=vg) w5 W6:=by rw[←hW6];exact zA.set1 _ _ _
 have hu6:jX W6 w0.heap.size (.slice (some ⟨ug,0,none⟩) qs.length uc) qs:=(HU.out.ext HX5.out).turn T6 (fun g hg he=>by
  injection hg with hg; exact HNE.out (he.symm.trans hg.symm)) (fun g cs hg he=>by
  obtain⟨cur,hcur⟩:=zZ (HV.out.ext HX5.out).own vg rfl
  exact zU hg hcur (by decide) he)
 have HS6:=zh hs6; have HU6:=zh hu6; have HT6:Hid (zA (fun g=>g=vg∨g=ug∨w.heap.size≤g) w W6):=zh ((zA.of_ext HX5.out).trans (T6.wide (fun g h=>.inl h))); have HN1:Hid (shs (ps.set 0 p1)=zc1 pn (shs ps)):=zh (zgX HP0.out (by rw[hp1])); have HP1:Hid ((ps.set 0 p1).length=pn):=zh (by rw[List.length_set];exact HPN.out); try simp only[hW6]
 clear hW6 hs6 T6 hu6 hp1 d6 dl df hr5 hg5 hat5 c6 cl cf cf6
 obtain⟨ps1,hps1⟩:∃l,ps.set 0 p1=l:=⟨_,rfl⟩
 rw[hps1]at HS6 HN1 HP1
 clear hps1; go_wp2_with fail; go_loopw [5] (fun i wr=>∃k us,i=.int .i64 (k:Nat)∧k≤qn∧Hid (jX wr w0.heap.size (.slice (some ⟨ug,0,none⟩) qn uc) us)∧Hid (QO pn k qs us)∧Hid (jX wr w0.heap.size (.slice (some ⟨vg,0,none⟩) pn vc) ps1)∧Hid (zA (fun g=>g=vg∨g=ug∨w.heap.size≤g) w wr)) (fun i _=>qn - (intOf i).toNat)
 case atStart=>exact⟨0,qs,rfl,Nat.zero_le _,zh (by rw[←HQN.out];exact HU6.out),zh (QO.zero _ _),HS6,HT6⟩
 case round=>
  clear HU6 HS6 HT6
  obtain⟨k,us,rfl,hkq,hr,hm,hv,ht⟩:=hrel
  have hul:=hm.out.1
  rw[HQN.out]at hul
  have HUL:=zh hul; clear hul; by_cases hlt:k < qn
  ·obtain⟨q,hqk⟩:∃q,qs[k]?=some q:=⟨_,List.getElem?_eq_getElem (by have:=HQN.out;omega)⟩
   obtain⟨p,huk,_,hpq⟩:=hm.out.2 k q hqk
   have hpq:=hpq (Nat.le_refl _); subst hpq; have HQK:=zh hqk; have HUK:=zh huk; have hBq:=HK.out p (List.mem_append_right _ (List.mem_of_getElem? hqk)); have HBQ:=zh hBq
   obtain⟨c0,c1,c2,c3,c4,c5,c6,c7,cl,cf⟩:=hr.out.at_ HUL.out.symm huk
   obtain⟨n,hn⟩:∃n,p.nd.ks.length=n:=⟨_,rfl⟩
   have HN:=zh hn
   rw[hn]at c6
   have hn1:=hBq.1
   rw[hn]at hn1
   clear hqk huk hBq hn
   obtain⟨pb,hpb⟩:∃b,wr.heap.size=b:=⟨_,rfl⟩
   obtain⟨Wb,hWb⟩:∃V,wr.alloc (.cells #[.int .i64 0,.int .i64 0,.int .i64 0,.int .i64 0,.int .i64 0,.int .i64 0,zH,.int .u64 0] 54)=V:=⟨_,rfl⟩
   have hz:Wb.heap[pb]?=some (.cells #[.int .i64 0,.int .i64 0,.int .i64 0,.int .i64 0,.int .i64 0,.int .i64 0,zH,.int .u64 0] 54):=by rw[←hWb,←hpb];exact heap_alloc_new _ _
   obtain⟨W3,hW3⟩:∃V,zh2 Wb pb (.int .i64 p.nd.sym) (.int .i64 p.nd.kind) (.int .i64 p.nd.lo) (.int .i64 p.nd.inn) (.int .i64 p.nd.hi) (.int .i64 p.nd.look) (.slice p.kA n p.kc) (.int .u64 0)=V:=⟨_,rfl⟩
   have h3:W3.heap[pb]?=some (.cells #[.int .i64 p.nd.sym,.int .i64 p.nd.kind,.int .i64 p.nd.lo,.int .i64 p.nd.inn,.int .i64 p.nd.hi,.int .i64 p.nd.look,.slice p.kA n p.kc,.int .u64 0] 54):=by rw[←hW3];exact zdF hz _ _ _ _ _ _ _ _
   obtain⟨W4,hW4⟩:∃V,W3.setCell ⟨pb,6,none⟩ zH=V:=⟨_,rfl⟩
   have h4:W4.heap[pb]?=some (.cells #[.int .i64 p.nd.sym,.int .i64 p.nd.kind,.int .i64 p.nd.lo,.int .i64 p.nd.inn,.int .i64 p.nd.hi,.int .i64 p.nd.look,zH,.int .u64 0] 54):=by rw[←hW4];exact zn h3 _
   have X4:Ext wr W4:=by
    rw[←hW4]
    exact(Ext.setCell (show Ext wr W3 from by rw[←hW3];exact(JR (S:=fun k=>k=pb) rfl _ _ _ _ _ _ _ _).ext (show Ext wr Wb from by rw[←hWb];exact xi) (fun k hk=>by omega)) (by show _≤pb;omega) _)
   have HX4:=zh X4; have HTP:Hid (∃cs,W4.heap[pb]?=some (.cells cs 54)):=zh ⟨_,h4⟩; have HPB:Hid (wr.heap.size≤pb∧pb < W4.heap.size):=zh ⟨by omega,za h4⟩; have H4:=zh h4; have H3:=zh h3; have z0:=cr 0 hz; have z1:=cr 1 hz; have z2:=cr 2 hz; have z3:=cr 3 hz; have z4:=cr 4 hz; have z5:=cr 5 hz; have z6:=cr 6 hz; have z7:=cr 7 hz; have zl:=za hz; have zf:=fun k=>zi hz k; simp at z0 z1 z2 z3 z4 z5 z6 z7
   unfold zh2 ZX yX y8 put2 at hW3; clear hz h3 h4 X4; go_upto_region 6 with fail; try simp only[hpb]
   try simp only[hWb]
   try simp only[hW3]
   clear hpb hWb hW3 z0 z1 z2 z3 z4 z5 z6 z7 zl zf c0 c1 c2 c3 c4 c5 c6 c7 cl cf; have y6:=cr 6 H3.out; have yl:=za H3.out; have yf:=zi H3.out 6; simp at y6
   go_upto_region 7 with fail; try simp only[hW4]
   clear hW4 y6 yl yf H3; go_wp2_with fail; go_loopw [7] (fun j' wr=>∃j KA kc,j'=.int .i64 (j:Nat)∧j≤n∧Hid (wr.heap[pb]?=some (.cells #[.int .i64 p.nd.sym,.int .i64 p.nd.kind,.int .i64 p.nd.lo,.int .i64 p.nd.inn,.int .i64 p.nd.hi,.int .i64 p.nd.look,.slice KA j kc,.int .u64 0] 54))∧Hid (xj wr W4.heap.size (.slice KA j kc) ((p.nd.ks.take j).map (· +(pn:Int))))∧Hid (zA (fun g=>g=pb) W4 wr)) (fun j _=>n - (intOf j).toNat)
   case atStart=>exact⟨0,none,0,rfl,Nat.zero_le _,H4,zh ⟨none,0,rfl,vr.nil _ _⟩,zh (zA.of_ext (Ext.refl _))⟩
   case round=>
    clear H4
    obtain⟨j,KA,kc,rfl,hj,hb2,hk2,ht2⟩:=hrel
    have hr2:jX wr w0.heap.size (.slice (some ⟨ug,0,none⟩) qn uc) us:=(hr.out.ext HX4.out).turn ht2.out (fun g hg he=>by
     have hg':ug=g:=by injection hg
     have he':g=pb:=he; have h1:=HVL.out.2.1; have h2:=ht.out.size; have h3:=HPB.out.1; omega) (fun g cs hg he=>by
     have h3:=HPB.out.2
     have:W4.heap[g]?=wr.heap[g]?∨True:=.inr trivial
     subst he
     obtain⟨cs4,hc4⟩:=HTP.out
     rw[hc4]at hg
     cases hg)
    have HR2:=zh hr2
    obtain⟨c0,c1,c2,c3,c4,c5,c6,c7,cl,cf⟩:=hr2.at_ HUL.out.symm HUK.out
    rw[HN.out]at c6
    by_cases hjn:j < n
    ·have hkk:=hr2.kids p (List.mem_of_getElem? HUK.out)
     obtain⟨kb,ko,hkA,hkl,hkc⟩:=hkk.ints (by rw[HN.out];omega)
     obtain⟨kcs,hkt⟩:=hkk.typ kb ko none hkA
     obtain⟨ucs,hut⟩:=zZ hr2.own ug rfl
     obtain⟨x,hx⟩:∃x,p.nd.ks.getD j 0=x:=⟨_,rfl⟩
     have k0:=hkc j (by rw[HN.out];omega)
     rw[hx]at k0
     have hxm:x∈p.nd.ks:=by
      rw[←hx,List.getD_eq_getElem?_getD,List.getElem?_eq_getElem (by rw[HN.out];exact hjn)]
      exact List.getElem_mem _
     have hxb:=HBQ.out.2 x hxm; have HXT:Hid ((p.nd.ks.take (j+1)).map (· +(pn:Int))=(p.nd.ks.take j).map (· +(pn:Int))++[x+(pn:Int)]):=zh (by rw[qu (by rw[HN.out];exact hjn),hx,List.map_append];rfl)
     rw[hkA]at c6
     have p6:=cr 6 hb2.out; have pl:=za hb2.out; simp at p6
     have kx0:=fun x:EdL wr [pb,ug,kb]=>x.cell (by simp) p6; have kx1:=fun x:EdL wr [pb,ug,kb]=>x.cell (by simp) c6; have kx2:=fun x:EdL wr [pb,ug,kb]=>x.cell (by simp) k0; have kx3:=fun x:EdL wr [pb,ug,kb]=>x.lt (by simp) pl; have kx4:=fun x:EdL wr [pb,ug,kb]=>x.lt (by simp) cl; have kx5:=fun x:EdL wr [pb,ug,kb]=>x.lt (by simp) hkl; have HLT:Hid (∀k∈[pb,ug,kb],k < wr.heap.size):=zh (by simp;exact⟨pl,cl,hkl⟩); have HUT:=zh hut; have HKT:=zh hkt; have hw1:IntKind.i64.wrap (x+(pn:Int))=x+(pn:Int):=by simp[IntKind.wrap,IntKind.signed,IntKind.bits];omega
     have hw2:wrap64 (x+(pn:Int))=x+(pn:Int):=by unfold wrap64;omega
     have HKW:Hid (kb < W4.heap.size):=zh (by
      obtain⟨cs,hcs⟩:=(hr.out.kids p (List.mem_of_getElem? HUK.out)).typ kb ko none hkA
      exact Nat.lt_of_lt_of_le (za hcs) HX4.out.size)
     clear hkk hkc hkA hkt hut hx hxm hr2; go_upto_region 10 with fail; refine xz (T:=EdL wr [pb,ug,kb]) EdL.V (16) (zd [0,2,3,4,5,7,10,11] (zj [1,6,8,9,12] (.step 13 (.step 14 (zd [15] (.step 16 .fin)))))) (by kernel_rfl) (by kernel_rfl) ⟨⟨wr.drew,fun _ _=>rfl⟩,rfl⟩ ?_; refine btp ?_; refine bts ?_; clear kx0 kx1 kx2 kx3 kx4 kx5 p6 c0 c1 c2 c3 c4 c5 c6 c7 k0 hw1 hw2; refine yy fun next hn=>?_;simp only[pick,yp]; go_wp2_with fail; refine zk (fun _=>Jd (fun _ _=>rfl) (xi:Ext wr _) HLT.out) (hn _ _ ?_); clear hn next
     obtain⟨b3,hb3⟩:∃b3,wr.heap.size=b3:=⟨_,rfl⟩
     obtain⟨V3,hV3⟩:∃W3,(wr.alloc (.cells #[.int .i64 (x+(pn:Int))] 3)).drew=W3:=⟨_,rfl⟩
     have X3:Ext wr V3:=by rw[←hV3];exact xi
     have HX3:=zh X3; have l3:b3 < V3.heap.size:=by rw[←hV3,←hb3];simp
     have a3:V3.cell? ⟨b3,0,none⟩=some (.int .i64 (x+(pn:Int))):=by rw[←hV3,←hb3];exact(cr 0 (show(wr.alloc (.cells #[.int .i64 (x+(pn:Int))] 3)).drew.heap[wr.heap.size]?=_ from heap_alloc_new wr (.cells #[.int .i64 (x+(pn:Int))] 3))).trans (by simp)
     have HK3:=zh (hk2.out.ext X3); have HB3:=zh (zb hb2.out X3); have HUT3:=zh (zb HUT.out X3); have HKT3:=zh (zb HKT.out X3); have HSZ:Hid (W4.heap.size≤V3.heap.size):=zh (Nat.le_trans ht2.out.size X3.size); have HT3:=zh (ht2.out.trans (zA.of_ext X3)); try simp only[hV3,hb3]
     clear hV3 hb3 X3; have hll:((p.nd.ks.take j).map (· +(pn:Int))).length≤1000000:=by rw[List.length_map,List.length_take];omega
     refine yy fun next hn=>?_;simp only[pick,yp]; go_wp2_with (at_builtin;refine yV W4 (by rfl) (.tmp 43) (.tmp 55) rfl HK3.out (x+(pn:Int)) b3 rfl rfl l3 a3 hll HSZ.out ?_;intro v4 w4 hr4 hg4 hat4)
     have T4:zA (fun g=>(Value.slice KA j kc).ownBlock=some g) V3 w4:=zA.grown hg4 (fun g hg _=>hg); have hb4:=T4.keep HB3.out (fun hh=>YB HK3.out.own HB3.out (by decide) hh); have hut4:=T4.keep HUT3.out (fun hh=>YB HK3.out.own HUT3.out (by decide) hh); have hkt4:w4.heap[kb]?=wr.heap[kb]?:=by
      refine(T4.block kb (za HKT3.out) (fun hh=>?_)).trans (HKT3.out.trans HKT.out.symm)
      have h1:=zV HK3.out.own kb hh; have h2:=HKW.out; omega
     have hsame:∀k∈[pb,ug,kb],w4.heap[k]?=wr.heap[k]?:=by
      intro k hk; simp at hk
      rcases hk with rfl|rfl|rfl
      ·exact hb4.trans hb2.out.symm
      ·exact hut4.trans HUT.out.symm
      ·exact hkt4
     refine zk (fun _=>⟨⟨w4,hsame⟩,rfl⟩) (hn _ _ ?_); clear hn next hsame
     obtain⟨KB,kbc,rfl,_⟩:=id hr4
     have d6:=cr 6 hb4; have dl:=za hb4; have df:=zi hb4 6; simp at d6
     have hlen:((p.nd.ks.take j).map (· +(pn:Int))++[x+(pn:Int)]).length=j+1:=by rw[List.length_append,List.length_map,List.length_take,HN.out,Nat.min_eq_left (by omega)];rfl
     rw[hlen]at hr4 ⊢
     obtain⟨W5,hW5⟩:∃V,w4.setCell ⟨pb,6,none⟩ (.slice KB (j+1) kbc)=V:=⟨_,rfl⟩
     have T5:zA (fun g=>g=pb) w4 W5:=by rw[←hW5];exact zA.set1 _ _ _
     have HB5:Hid (W5.heap[pb]?=some (.cells #[.int .i64 p.nd.sym,.int .i64 p.nd.kind,.int .i64 p.nd.lo,.int .i64 p.nd.inn,.int .i64 p.nd.hi,.int .i64 p.nd.look,.slice KB (j+1) kbc,.int .u64 0] 54)):=zh (by rw[←hW5];exact zn hb4 _); have HR5:Hid (xj W5 W4.heap.size (.slice KB (j+1) kbc) ((p.nd.ks.take (j+1)).map (· +(pn:Int)))):=zh (by
      rw[HXT.out]
      exact hr4.keepT T5 (fun g hg he=>YB hr4.own hb4 (by decide) (he▸hg)))
     have HT5:Hid (zA (fun g=>g=pb) W4 W5):=zh (zA.old (((HT3.out.wide (fun g h=>.inl h)).trans (T4.wide (fun g hg=>.inr (zV HK3.out.own g hg)))).trans (T5.wide (fun g h=>.inl h)))); clear hb4 hut4 hkt4 T4 T5 hr4 hg4 hat4 a3 l3; refine btp ?_; refine yy fun next hn=>?_;simp only[pick,yp]; go_wp2_with fail; refine zk (fun h=>absurd rfl h) (hn _ _ ?_); clear hn next; (refine xw ?_)
     try simp only[hW5]
     clear hW5 d6 dl df; go_wp2_with fail; go_roundw
     case rel=>exact⟨j+1,KB,kbc,by go_num,by omega,HB5,HR5,HT5⟩
     case measure=>simp[intOf];omega
    ·obtain rfl:j=n:=by omega
     have HXT:Hid ((p.nd.ks.take j).map (· +(pn:Int))=(yK pn p.nd).ks):=zh (by rw[List.take_of_length_le (by have:=HN.out;omega)];rfl)
     rw[HXT.out]at hk2
     obtain⟨ucs,hut⟩:=zZ hr2.own ug rfl
     have y0:=cr 0 hb2.out; have y1:=cr 1 hb2.out; have y2:=cr 2 hb2.out; have y3:=cr 3 hb2.out; have y4:=cr 4 hb2.out; have y5:=cr 5 hb2.out; have y6:=cr 6 hb2.out; have y7:=cr 7 hb2.out; have yl:=za hb2.out; simp at y0 y1 y2 y3 y4 y5 y6 y7
     have i0:=jp (k:=k*8) hut c0; have i1:=jp (k:=k*8+1) hut c1; have i2:=jp (k:=k*8+2) hut c2; have i3:=jp (k:=k*8+3) hut c3; have i4:=jp (k:=k*8+4) hut c4; have i5:=jp (k:=k*8+5) hut c5
     obtain⟨W7,hW7⟩:∃V,wr.setCell ⟨ug,k*8+6,none⟩ (.slice KA j kc)=V:=⟨_,rfl⟩
     have hks:(yK pn p.nd).ks.length=j:=by rw[←HXT.out,List.length_map,List.length_take,HN.out,Nat.min_self]
     obtain⟨p',hp'⟩:∃p':Pt,p'=⟨yK pn p.nd,KA,kc⟩:=⟨_,rfl⟩
     have hkk:ZD wr p':=by
      rw[hp']
      refine xj.kids (base:=W4.heap.size) (p:=⟨yK pn p.nd,KA,kc⟩) (A:=KA) (c:=kc) ?_ rfl rfl; show xj wr _ (.slice KA (yK pn p.nd).ks.length kc) _
      rw[hks]
      exact hk2.out
     have h7:jX W7 w0.heap.size (.slice (some ⟨ug,0,none⟩) qn uc) (us.set k p'):=by
      rw[←hW7]
      exact hr2.store (r:=6) (q:=p) HUL.out.symm HUK.out (by omega) (by rw[hp'];simp[ptC,yK];rw[←hks];simp[yK]) hkk
     have HR7:=zh h7; have HM7:Hid (QO pn (k+1) qs (us.set k p')):=zh (hm.out.step HQK.out (by rw[hp'])); have T7:zA (fun g=>g=ug) wr W7:=by rw[←hW7];exact zA.set1 _ _ _
     have hv2:jX wr w0.heap.size (.slice (some ⟨vg,0,none⟩) pn vc) ps1:=(hv.out.ext HX4.out).turn ht2.out (fun g hg he=>by
      have hg':vg=g:=by injection hg
      have he':g=pb:=he; have h1:=HVL.out.1; have h2:=ht.out.size; have h3:=HPB.out.1; omega) (fun g cs hg he=>by
      subst he
      obtain⟨cs4,hc4⟩:=HTP.out
      rw[hc4]at hg
      cases hg)
     have HV7:Hid (jX W7 w0.heap.size (.slice (some ⟨vg,0,none⟩) pn vc) ps1):=zh (hv2.turn T7 (fun g hg he=>by
      have hg':vg=g:=by injection hg
      have he':g=ug:=he; exact HNE.out (hg'.trans he')) (fun g cs hg he=>zU hg hut (by decide) he))
     have HT7:Hid (zA (fun g=>g=vg∨g=ug∨w.heap.size≤g) w W7):=zh (((ht.out.trans (zA.of_ext HX4.out)).trans (ht2.out.wide (fun g hg=>.inr (.inr (by
      have h2:=ht.out.size; have h3:=HPB.out.1; have h4:g=pb:=hg; omega))))).trans (T7.wide (fun g hg=>.inr (.inl hg))))
     obtain⟨us7,hus7⟩:∃l,us.set k p'=l:=⟨_,rfl⟩
     rw[hus7]at HR7 HM7
     have hut7:W7.heap[ug]?=some (.cells (ucs.setIfInBounds (k*8+6) (.slice KA j kc)) 54):=by rw[←hW7];exact zn hut _
     have c7':W7.cell? ⟨ug,k*8+7,none⟩=some (.int .u64 0):=(h7.at_ (by rw[List.length_set];exact HUL.out.symm) (List.getElem?_set_self (by
      have:=HUL.out
      have:=(List.getElem?_eq_some_iff.1 HUK.out).1
      omega))).met
     have i7:=jp (k:=k*8+7) hut7 c7'; have cl7:=za hut7; have f7:∀r,W7.frozen? ⟨ug,r,none⟩=false:=fun r=>zi hut7 r; clear h7 T7 hv2 hut hut7 hkk hp' hr2 HX4 hus7 HXT; go_upto_region 4 with fail; try simp only[hW7]
     clear hW7 i0 i1 i2 i3 i4 i5 i7 cl7 f7 c7' y0 y1 y2 y3 y4 y5 y6 y7 yl c0 c1 c2 c3 c4 c5 c6 c7 cl cf; go_wp2_with fail; go_roundw
     case rel=>exact⟨k+1,us7,by go_num,by omega,HR7,HM7,HV7,HT7⟩
     case measure=>simp[intOf];omega
  ·obtain rfl:k=qn:=by omega
   have HC:Hid (yI wr (some ⟨ug,0,none⟩) (pw us)):=zh (by
    obtain⟨A,c,hA,hc,_⟩:=zW hr.out.own
    injection hA with hA; subst hA; exact hc)
   have HS:Hid (shs us=(shs qs).map (yK pn)):=zh (by
    have h:=hm.out
    rw[←HQN.out]at h
    exact h.all)
   have HEX:Hid (Ext w0 wr):=zh (ht.out.ext HE.out (fun g hg=>by
    have h1:=HVL.out.2.2; have h2:=HE.out.size; rcases hg with rfl|rfl|hg<;>omega))
   have HP1':Hid (ps1.length≤1000000000):=zh (by rw[HP1.out];omega); have HU1':Hid (us.length≤1000000000):=zh (by rw[HUL.out];omega); go_wp2_with (at_builtin;refine zd6 w0 (by rfl) (.tmp 62) (.tmp 63) rfl (ps:=ps1) (qs:=us) hv.out (A:=some ⟨ug,0,none⟩) (c:=uc) rfl (by rw[HUL.out];rfl) (fun h=>by cases h) HC.out hr.out.kids HP1'.out HU1'.out HEX.out ?_;intro v8 w8 hr8 hg8 hat8 hx8)
   have T8:zA (fun g=>(Value.slice (some ⟨vg,0,none⟩) pn vc).ownBlock=some g) wr w8:=zA.grown hg8 (fun g hg _=>hg); have HT8:Hid (zA (fun g=>(Value.slice (some ⟨vg,0,none⟩) pn vc).ownBlock=some g∨(Value.slice (some ⟨ug,0,none⟩) k uc).ownBlock=some g) w w8):=zh (zA.old ((ht.out.wide (fun g hg=>by
    rcases hg with rfl|rfl|hg
    ·exact .inl (.inl rfl)
    ·exact .inl (.inr rfl)
    ·exact .inr hg)).trans (T8.wide (fun g hg=>.inl (.inl hg)))))
   have HR8:=zh hr8; have HX8:=zh hx8; have HSS:Hid (shs (ps1++us)=q9 (shs ps) (shs qs)):=zh (by
    unfold q9
    rw[show(shs ps).length=pn from by rw[←HPN.out];simp[shs],←HN1.out,←HS.out]
    simp[shs])
   clear hr8 hg8 hat8 hx8 T8; go_ret
   exact⟨v8,_,rfl,HR8.out,HSS.out,HT8.out,HX8.out⟩
def shD (d:DtP)(ks:List Int):Sh:=⟨d.sym,d.kind,d.lo,d.inn,d.hi,d.look,ks⟩
mutual
def yH:yi→List Sh
 | .node d ks=>qq [shD d []] ks
def qq:List Sh→List yi→List Sh
 |acc,[]=>acc
 |acc,t ::ts=>qq (q9 acc (yH t)) ts
end
theorem zd4 (acc:List Sh)(ks:List yi)(k:yi):qq acc (ks++[k])=q9 (qq acc ks) (yH k):=by
 induction ks generalizing acc with
 |nil=>simp[qq]
 |cons t ts ih=>simp only[List.cons_append,qq];exact ih _
theorem zd8 (d:DtP)(ks:List yi)(k:yi):yH (.node d (ks++[k]))=q9 (yH (.node d ks)) (yH k):=by
 simp only[yH]
 exact zd4 _ _ _
theorem zeI (n:Nat)(ps:List Sh):(zc1 n ps).length=ps.length:=by cases ps<;>rfl
theorem Ql (ps qs:List Sh):(q9 ps qs).length=ps.length+qs.length:=by
 unfold q9
 rw[List.length_append,zeI,List.length_map]
mutual
theorem yT:∀t:yi,(yH t).length=yu t
 | .node d ks=>by
  simp only[yH,yu]
  rw[zac]
  rfl
theorem zac:∀(acc:List Sh) (ks:List yi),(qq acc ks).length=acc.length+yL ks
 |acc,[]=>by simp[qq,yL]
 |acc,t ::ts=>by
  simp only[qq,yL]
  rw[zac _ ts,Ql,yT t]
  omega
end
theorem zb4:∀(ts:List yi) (ks0:List Int) (r:List Sh),∃ks' r',ks'.length=ks0.length+ts.length∧∀d,qq (shD d ks0 ::r) ts=shD d ks' ::r'
 |[],ks0,r=>⟨ks0,r,rfl,fun d=>by simp[qq]⟩
 |t ::ts,ks0,r=>by
  obtain⟨ks',r',h1,h2⟩:=zb4 ts (ks0++[((r.length+1:Nat):Int)]) (r++(yH t).map (yK (r.length+1)))
  refine⟨ks',r',by rw[h1,List.length_append,List.length_cons];simp;omega,fun d=>?_⟩
  rw[←h2 d]
  simp only[qq]
  congr 1
theorem zeY (ts:List yi):∃ks' r',ks'.length=ts.length∧∀d,yH (.node d ts)=shD d ks' ::r':=by
 obtain⟨ks',r',h1,h2⟩:=zb4 ts [] []
 exact⟨ks',r',by simpa using h1,fun d=>by simp only[yH];exact h2 d⟩
def zhZ (l:List Sh):Prop:=∀a∈l,∀k∈a.ks,0≤k∧k≤l.length
theorem zhZ.behind {ps qs:List Sh}(hp:zhZ ps)(hq:zhZ qs):zhZ (q9 ps qs):=by
 intro a ha k hk
 rw[Ql]
 unfold q9 at ha; rcases List.mem_append.1 ha with ha|ha
 ·cases ps with
  |nil=>cases ha
  |cons p r=>
   have hlen:(0:Int)≤((p ::r).length:Int):=by omega
   simp only[zc1,List.mem_cons]at ha
   rcases ha with rfl|ha
   ·simp only at hk
    rcases List.mem_append.1 hk with hk|hk
    ·have:=hp p (List.mem_cons_self ..) k hk
     omega
    ·rw[List.mem_singleton]at hk
     subst hk; omega
   ·have:=hp a (List.mem_cons_of_mem _ ha) k hk
    omega
 ·obtain⟨b,hb,rfl⟩:=List.mem_map.1 ha
  simp only[yK]at hk
  obtain⟨j,hj,rfl⟩:=List.mem_map.1 hk
  have:=hq b hb j hj
  omega
mutual
theorem zaI:∀t:yi,zhZ (yH t)
 | .node d ks=>by
  simp only[yH]
  exact zbN _ ks (by intro a ha k hk;simp only[List.mem_singleton]at ha;subst ha;cases hk)
theorem zbN:∀(acc:List Sh) (ks:List yi),zhZ acc→zhZ (qq acc ks)
 |acc,[],h=>by simpa[qq]using h
 |acc,t ::ts,h=>by
  simp only[qq]
  exact zbN _ ts (h.behind (zaI t))
end
def Jp (N:Nat)(t:yi):Prop:=∀u,InR u t→u.kids.length≤N
theorem Jp.kid {N:Nat}{d:DtP}{ks:List yi}{k:yi}(h:Jp N (.node d ks))(hk:k∈ks):Jp N k:=fun u hu=>h u (.kid hk hu)
def zfa (N:Nat)(l:List Sh):Prop:=∀a∈l,a.ks.length≤N
theorem zeL {N n:Nat}{l:List Sh}(h:zfa N l):zfa N (l.map (yK n)):=by
 intro a ha
 obtain⟨b,hb,rfl⟩:=List.mem_map.1 ha
 simp only[yK,List.length_map]
 exact h b hb
mutual
theorem zbc {N:Nat}:∀t:yi,Jp N t→zfa N (yH t)
 | .node d ks,h=>by
  simp only[yH]
  obtain⟨_,h2⟩:=JP (N:=N) [] [] ks (fun k hk=>h.kid hk) (by intro a ha;cases ha) (by simpa[yi.kids]using h _ .self) d
  exact h2
theorem JP {N:Nat}:∀(ks0:List Int) (r:List Sh) (ks:List yi),(∀k∈ks,Jp N k)→zfa N r→ks0.length+ks.length≤N→∀d,qq (shD d ks0 ::r) ks=qq (shD d ks0 ::r) ks∧zfa N (qq (shD d ks0 ::r) ks)
 |ks0,r,[],h,hr,hl,d=>by
  refine⟨rfl,?_⟩
  simp only[qq]
  intro a ha; rcases List.mem_cons.1 ha with rfl|ha
  ·simpa[shD]using hl
  ·exact hr a ha
 |ks0,r,t ::ts,h,hr,hl,d=>by
  refine⟨rfl,?_⟩
  simp only[qq]
  have e:q9 (shD d ks0 ::r) (yH t)=shD d (ks0++[((r.length+1:Nat):Int)]) ::(r++(yH t).map (yK (r.length+1))):=rfl
  rw[e]
  refine(JP _ _ ts (fun k hk=>h k (List.mem_cons_of_mem _ hk)) ?_ (by simp at hl ⊢;omega) d).2
  intro a ha; rcases List.mem_append.1 ha with ha|ha
  ·exact hr a ha
  ·exact zeL (zbc t (h t (List.mem_cons_self ..))) a ha
end
structure xO (t:yi):Prop where
 size:yu t≤20000000
 wide:Jp 1000 t
theorem zbT:∀{ks:List yi} {k:yi},k∈ks→yu k≤yL ks
 |[],k,h=>by cases h
 |t ::ts,k,h=>by
  simp only[yL]
  rcases List.mem_cons.1 h with rfl|h
  ·omega
  ·have:=zbT h
   omega
theorem xO.kid {d:DtP}{ks:List yi}{k:yi}(h:xO (.node d ks))(hk:k∈ks):xO k:=
 ⟨Nat.le_trans (zbT hk) (Nat.le_trans (by rw[yF];omega) h.size),h.wide.kid hk⟩
theorem xO.pre {d d':DtP}{ks rs:List yi}(h:xO (.node d (ks++rs))):xO (.node d' ks):=by
 refine⟨?_,fun u hu=>?_⟩
 ·have:=h.size
  rw[yF,qi]at this
  rw[yF]
  omega
 ·rcases hu.cases' with rfl|⟨k,hk,hu⟩
  ·have:=h.wide _ .self
   simp only[yi.kids,List.length_append]at this ⊢
   omega
  ·exact h.wide u (.kid (List.mem_append_left _ hk) hu)
end Go.Proofs.YtmbelmngniddjaaGreat
