/- Rf: texts that the proof rests on, part 19. -/
import Derived.Test.YtmbelmngniddjaaGreatRf18
namespace Go.Proofs.YtmbelmngniddjaaGreat
open Go.RowKit
attribute [local go_sem] zF zB zI zJ zw zt zN zD zX zQ zK zP zO zL zT zR zS zG zM zC
structure zhc (w:World)(lb:Nat)(D:vJ)(N0:Option Addr)(m0 c0:Nat)(N1:Option Addr)(m1 c1:Nat)(N2:Option Addr)(m2 c2:Nat):Prop where
 k0:w.cell? ⟨lb,0,none⟩=some (.slice N0 m0 c0)
 k1:w.cell? ⟨lb,1,none⟩=some (.slice N1 m1 c1)
 k2:w.cell? ⟨lb,2,none⟩=some (.slice N2 m2 c2)
 k3:w.cell? ⟨lb,3,none⟩=some (.int .i64 D.kn)
 k4:w.cell? ⟨lb,4,none⟩=some (.int .i64 D.gc.terms)
 k5:w.cell? ⟨lb,5,none⟩=some (.int .i64 D.gc.nons)
 k6:w.cell? ⟨lb,6,none⟩=some (.int .i64 D.gc.k)
 k7:w.cell? ⟨lb,7,none⟩=some (.slice D.gc.pA D.gc.prods.length D.gc.pc)
 k8:w.cell? ⟨lb,8,none⟩=some (.slice (some ⟨D.tg,D.tt,none⟩) D.gc.prods.length D.tc)
 k9:w.cell? ⟨lb,9,none⟩=some (.slice (some ⟨D.xg,D.xo,none⟩) D.n D.xc)
 k10:w.cell? ⟨lb,10,none⟩=some (.int .i64 D.M)
 lt:lb < w.heap.size
theorem vx {w:World}{lb:Nat}{D:vJ}{g:Gm}(h:jM w lb D g):∃N0 m0 c0 N1 m1 c1 N2 m2 c2,D.nv=.slice N0 m0 c0∧D.rv=.slice N1 m1 c1∧D.kv=.slice N2 m2 c2∧∀w1,Ext w w1→zhc w1 lb D N0 m0 c0 N1 m1 c1 N2 m2 c2:=by
 obtain⟨⟨⟨A,c,h1,_⟩,B,d,h2,_⟩,K,kc,h3,_⟩:=h.lex
 refine⟨_,_,_,_,_,_,_,_,_,h1,h2,h3,fun w1 e=>?_⟩
 have hb:=zb h.blk e
 rw[h1,h2,h3]at hb
 have k0:=cr 0 hb; have k1:=cr 1 hb; have k2:=cr 2 hb; have k3:=cr 3 hb; have k4:=cr 4 hb; have k5:=cr 5 hb; have k6:=cr 6 hb; have k7:=cr 7 hb; have k8:=cr 8 hb; have k9:=cr 9 hb; have k10:=cr 10 hb; simp at k0 k1 k2 k3 k4 k5 k6 k7 k8 k9 k10
 exact⟨k0,k1,k2,k3,k4,k5,k6,k7,k8,k9,k10,za hb⟩
set_option maxRecDepth 100000 in
set_option maxHeartbeats 2000000 in
theorem zfu (lb:Nat)(D:vJ)(g:Gm)(left:Int)(x:ByteArray)(w:World)(h:jM w lb D g):Calls Tryz.prog 59 #[.pointer (some ⟨lb,0,none⟩),.int .i64 left,.string x] w fun e w'=>e=.returned (.int .i64 (QM g left (rb x)))∧Ext w w':=by
 obtain⟨N0,m0,c0,N1,m1,c1,N2,m2,c2,_,_,_,HCL⟩:=vx h
 have HP:=zh (fun w1 (e1:Ext w w1)=>zaF D.gc D.n D.tg D.tt D.tc left x w1 (h.gr.ext e1) h.acc.1 h.hn (by rw[h.gm];exact h.tab.ext e1) h.acc.2.2.2)
 rw[h.gm]at HP
 obtain⟨m,hm⟩:∃m,D.gc.prods.length=m:=⟨_,rfl⟩
 obtain⟨_,_,_,_,k4,k5,k6,k7,k8,_,_,kl⟩:=HCL w (Ext.refl _)
 unfold grV at HP
 rw[hm]at HP k7 k8
 clear h HCL hm; go_in
 go_upto_region 1 with fail; refine zg (12) (zd [0,1,2,4,5,6,8,9] (zj [3,7] (.step 10 (zd [11] .fin)))) (by kernel_rfl) (by kernel_rfl) ?_; (repeat first|refine yq ?_|refine yr ?_)
 refine zp fun next hn=>?_;simp only[pick,yp]; go_wp2_with fail
 refine(HP.out _ xi).mono ?_
 rintro e' W2 ⟨rfl,hx2⟩; have HX2:Hid (Ext w W2):=zh (Ext.trans xi hx2); clear hx2 HP; go_wp2_with fail; refine zk (fun _=>yZ HX2.out) (hn _ _ ?_); clear hn next; (repeat first|refine yq ?_|refine yr ?_)
 refine zv ?_; go_wp2_with fail; go_ret
 exact⟨rfl,HX2.out⟩
set_option maxRecDepth 100000 in
set_option maxHeartbeats 2000000 in
theorem zgM (lb:Nat)(D:vJ)(g:Gm)(A:Nat)(kind:Int)(w:World)(h:jM w lb D g)(hA:A < D.n)(h1:-1≤kind)(h2:kind < D.gc.terms):Calls Tryz.prog 61 #[.pointer (some ⟨lb,0,none⟩),.int .i64 A,.int .i64 kind] w fun e w'=>e=.returned (.bool (decide (0≤kind)&&D.β A kind.toNat))∧Ext w w':=by
 obtain⟨N0,m0,c0,N1,m1,c1,N2,m2,c2,_,_,_,HCL⟩:=vx h
 obtain⟨_,_,_,_,k4,k5,_,_,_,k9,_,kl⟩:=HCL w (Ext.refl _)
 have hnn:=h.hn; have htt:=h.ht; have q1:(kind==-2)=false:=by simp;omega
 have q2:decide (D.gc.terms≤kind)=false:=decide_eq_false (by omega); have q3:decide ((A:Int) < D.gc.nons)=true:=decide_eq_true (by omega); by_cases hk:kind < 0
 ·have hk1:kind=-1:=by omega
  subst hk1; clear h HCL hnn htt; go_in
  go_wp2_with fail; go_ret
  exact⟨rfl,Ext.refl _⟩
 ·obtain⟨k,hkk⟩:∃k:Nat,kind=k:=⟨kind.toNat,by omega⟩
  subst hkk
  obtain⟨b2,o2,c3,n1,n2,n3,n4⟩:=h.nxt.at_ A hA
  have n5:=n4 k (by omega); have n6:=h.nxt.lt
  obtain⟨r,hr⟩:∃r,D.β A k=r:=⟨_,rfl⟩
  rw[hr]at n5
  have hkt:k < D.t:=by omega
  have HR:Hid ((decide (0≤(k:Int))&&D.β A ((k:Int)).toNat)=r):=zh (by rw[Int.toNat_natCast,hr];simp); clear h HCL n4 hnn htt hr; go_in
  go_wp2_with fail; go_ret
  exact⟨congrArg (fun b=>Ending.returned (.bool b)) HR.out.symm,Ext.refl _⟩
def zgv (w:World)(t:yi)(e:Ending)(w':World):Prop:=∃v rs,e=.returned v∧jX w' w.heap.size v rs∧shs rs=yH t∧Ext w w'
theorem ju (w:World)(base:Nat)(hb:base≤w.heap.size)(q:Sh)(hk:q.ks=[]):jX (w.alloc (.cells #[.int .i64 q.sym,.int .i64 q.kind,.int .i64 q.lo,.int .i64 q.inn,.int .i64 q.hi,.int .i64 q.look,zH,.int .u64 0] 54)) base (.slice (some ⟨w.heap.size,0,none⟩) 1 1) [⟨q,none,0⟩]:=by
 refine⟨?_,fun p hp=>?_⟩
 ·have:=ze1 w base 54 8 w.heap.size 1 #[.int .i64 q.sym,.int .i64 q.kind,.int .i64 q.lo,.int .i64 q.inn,.int .i64 q.hi,.int .i64 q.look,zH,.int .u64 0] rfl hb rfl (by unfold maxLen;omega)
  simpa[pw,ptC,hk]using this
 ·obtain rfl:=List.mem_singleton.1 hp
  exact⟨fun h0=>by simp[hk]at h0,by simp[hk],by simp,fun _=>rfl,fun g off s h=>by cases h⟩
def zil (s:ByteArray)(D:vJ)(g:Gm)(f:Nat):Prop:=∀(lb A p:Nat) (t:yi) (w:World),jM w lb D g→A < D.n→p≤s.size→yG (qZ D g s) f (A:Int) p 0 [] p=some t→xO t→Calls Tryz.prog 27 #[.pointer (some ⟨lb,0,none⟩),.string s,.int .i64 A,.int .i64 p] w (zgv w t)
set_option maxRecDepth 100000 in
set_option maxHeartbeats 2000000 in
theorem zgY (lb:Nat)(D:vJ)(g:Gm)(s:ByteArray)(hs:s.size≤1000)(f:Nat)(IH:zil s D g f)(sy:Int)(p:Nat)(t:yi)(w:World)(h:jM w lb D g)(_:0≤sy)(h1:sy < g.terms+g.nons)(hp:p≤s.size)(ht:vG (qZ D g s) (f+1) sy p=some t)(hsm:xO t):Calls Tryz.prog 60 #[.pointer (some ⟨lb,0,none⟩),.string s,.int .i64 sy,.int .i64 p] w (zgv w t):=by
 obtain⟨N0,m0,c0,N1,m1,c1,N2,m2,c2,e0,e1,e2,HCL⟩:=vx h
 obtain⟨k0,k1,k2,k3,k4,_,_,_,_,_,_,kl⟩:=HCL w (Ext.refl _)
 have htm:D.gc.terms=g.terms:=by rw[←h.gm];rfl
 have hnm:D.gc.nons=g.nons:=by rw[←h.gm];rfl
 have hnn:=h.hn; have hbt:=(yk h.acc.1).1; have hbn:=(yk h.acc.1).2.1; unfold vG at ht; by_cases hc:g.terms≤sy
 ·rw[if_pos (show(qZ D g s).g.terms≤sy from hc)]at ht
  obtain⟨A,hA⟩:∃A:Nat,sy - g.terms=A:=⟨(sy - g.terms).toNat,by omega⟩
  have ht2:yG (qZ D g s) f (A:Int) p 0 [] p=some t:=by rw[←hA];exact ht
  have HT:=zh (IH lb A p t w h (by omega) hp ht2 hsm); have q1:decide (D.gc.terms≤sy)=true:=decide_eq_true (by omega); have f1:wrap64 (sy - D.gc.terms)=A:=by rw[htm,hA];exact IntWalk.wrap64_in _ (by omega)
  clear h HCL ht ht2 IH e0 e1 e2; go_in
  go_wp2_with fail; refine HT.out.mono ?_; rintro e' W2 ⟨v,rs,rfl,a1,a2,a3⟩; have H1:=zh a1; have H2:=zh a2; have H3:=zh a3; clear a1 a2 a3 HT k0 k1 k2 k3 k4 kl; go_wp2_with fail; go_ret
  exact⟨v,rs,rfl,H1.out,H2.out,H3.out⟩
 ·rw[if_neg (show ¬(qZ D g s).g.terms≤sy from hc)]at ht
  have HN:=zh (VU D.nv D.rv D.kv D.nl D.rl D.kl D.kn s p w h.lex h.lok hp (by omega))
  rw[e0,e1,e2]at HN
  have htk:(qZ D g s).tk p=vI D.nl D.rl D.kl s p:=rfl
  rw[htk]at ht
  obtain⟨q,hq⟩:∃q,vI D.nl D.rl D.kl s p=q:=⟨_,rfl⟩
  rw[hq]at ht HN
  obtain⟨t0,t1,t2,t3⟩:=q
  dsimp only at ht; have q1:decide (D.gc.terms≤sy)=false:=decide_eq_false (by omega); unfold zaP zbs at HN; dsimp only at HN; have HT:=zh ht; clear h HCL ht IH e0 e1 e2 hq htk; go_in
  go_wp2_with fail; refine HN.out.mono ?_; rintro e' W2 ⟨rfl,hx2⟩; clear HN k0 k1 k2 k3 k4 kl
  obtain⟨kb,hkb⟩:∃b,W2.heap.size=b:=⟨_,rfl⟩
  obtain⟨W3a,hW3a⟩:∃W,W2.alloc (.cells #[.int .i64 0,.int .i64 0,.int .i64 0,.int .i64 0,.int .i64 0] 83)=W:=⟨_,rfl⟩
  have hR:W3a.heap[kb]?=some (.cells #[.int .i64 0,.int .i64 0,.int .i64 0,.int .i64 0,.int .i64 0] 83):=by rw[←hW3a,←hkb];exact heap_alloc_new _ _
  obtain⟨W3,hW3⟩:∃W,ZX W3a kb (.int .i64 t0) (.int .i64 p) (.int .i64 t1) (.int .i64 t2) (.int .i64 t3)=W:=⟨_,rfl⟩
  have h3:W3.heap[kb]?=some (.cells #[.int .i64 t0,.int .i64 p,.int .i64 t1,.int .i64 t2,.int .i64 t3] 83):=by rw[←hW3];exact vZ hR _ _ _ _ _
  have X3:Ext W2 W3:=by rw[←hW3];exact(xG (S:=fun k=>k=kb) rfl _ _ _ _ _).ext (show Ext W2 W3a from by rw[←hW3a];exact xi) (fun k hk=>by omega)
  have HX3:=zh (hx2.trans X3); have H3:=zh h3; have HLF:=zh (VS 3 p (t0,t1,t2,t3) W3); have z0:=cr 0 hR; have z1:=cr 1 hR; have z2:=cr 2 hR; have z3:=cr 3 hR; have z4:=cr 4 hR; have zf:=fun k=>zi hR k; have zl:=za hR; simp at z0 z1 z2 z3 z4
  unfold zbs zcl at HLF; dsimp only at HLF; unfold ZX yX y8 put2 at hW3; clear hx2 hR X3 h3; go_upto_region 4 with fail; try simp only[hkb]
  try simp only[hW3a]
  try simp only[hW3]
  clear hkb hW3a hW3 z0 z1 z2 z3 z4 zf zl; have y0:=cr 0 H3.out; have y1:=cr 1 H3.out; have y2:=cr 2 H3.out; have y3:=cr 3 H3.out; have y4:=cr 4 H3.out; have yl:=za H3.out; simp at y0 y1 y2 y3 y4
  by_cases hts:t0=sy
  ·have q2:(t0==sy)=true:=by simpa using hts
   have HTT:Hid (t=.node (xt 3 p (t0,t1,t2,t3)) []):=zh (by have:=HT.out;rw[if_pos hts]at this;injection this with this;exact this.symm); clear hts; go_wp2_with fail; refine HLF.out.mono ?_; rintro e' W4 ⟨rfl,hx4⟩; have HX4:=zh (HX3.out.trans hx4); have HRL:=zh (ju W4 w.heap.size HX4.out.size (shD (xt 3 p (t0,t1,t2,t3)) []) rfl); clear hx4 HLF y0 y1 y2 y3 y4 yl; go_wp2_with fail; go_ret
   exact⟨_,_,rfl,HRL.out,by rw[HTT.out];simp[yH,qq,shs],HX4.out.trans xi⟩
  ·have q2:(t0==sy)=false:=by simpa using hts
   have HTT:Hid (t=.node ⟨sy,4,p,p,p,t3⟩ []):=zh (by have:=HT.out;rw[if_neg hts]at this;injection this with this;exact this.symm); have HRL:=zh (ju W3 w.heap.size HX3.out.size (shD ⟨sy,4,p,p,p,t3⟩ []) rfl); clear hts HLF; go_wp2_with fail; go_ret
   exact⟨_,_,rfl,HRL.out,by rw[HTT.out];simp[yH,qq,shs],HX3.out.trans xi⟩
theorem jX.baseV {w:World}{base base':Nat}{v:Value}{ps:List Pt}(h:jX w base v ps)(hb:base'≤base):jX w base' v ps:=
 ⟨⟨h.own.1,h.own.2.imp id fun⟨g,cap,cur,h1,h2,h3⟩=>⟨g,cap,cur,h1,Nat.le_trans hb h2,h3⟩⟩,h.kids⟩
def yU (w:World)(base:Nat)(v:Value)(t:yi):Prop:=∃rs,jX w base v rs∧shs rs=yH t
theorem yU.ext {w w':World}{base:Nat}{v:Value}{t:yi}(h:yU w base v t)(e:Ext w w'):yU w' base v t:=by
 obtain⟨rs,h1,h2⟩:=h
 exact⟨rs,h1.ext e,h2⟩
theorem yU.base {w:World}{base base':Nat}{v:Value}{t:yi}(h:yU w base v t)(hb:base'≤base):yU w base' v t:=by
 obtain⟨rs,h1,h2⟩:=h
 exact⟨rs,h1.baseV hb,h2⟩
theorem yU.open {w:World}{base:Nat}{v:Value}{d:DtP}{kids:List yi}(h:yU w base v (.node d kids)):∃g n c,v=.slice (some ⟨g,0,none⟩) n c∧0 < n∧n=yu (.node d kids)∧base≤g∧g < w.heap.size∧w.cell? ⟨g,1,none⟩=some (.int .i64 d.kind)∧w.cell? ⟨g,4,none⟩=some (.int .i64 d.hi)∧w.cell? ⟨g,5,none⟩=some (.int .i64 d.look)∧(∀j,w.frozen? ⟨g,j,none⟩=false)∧∃cs,w.heap[g]?=some (.cells cs 54):=by
 obtain⟨rs,h1,h2⟩:=h
 obtain⟨ks',r',hl,hd⟩:=zeY kids
 rw[hd d]at h2
 obtain⟨A,c,rfl⟩:=h1.len
 have hlen:rs.length=yu (.node d kids):=by
  rw[←yT,hd d,←h2]
  simp[shs]
 have hpos:0 < rs.length:=by rw[hlen,yF];omega
 obtain⟨g,rfl,k1,k2,k3⟩:=h1.block hpos
 obtain⟨p,hp⟩:∃p,rs[0]?=some p:=⟨_,List.getElem?_eq_getElem hpos⟩
 have hC:=h1.at_ rfl hp
 rw[Nat.zero_mul]at hC
 have hpn:p.nd=shD d ks':=by
  have:(shs rs)[0]?=some (shD d ks'):=by rw[h2];rfl
  unfold shs at this
  rw[List.getElem?_map,hp]at this
  injection this
 have a1:=hC.kind; have a4:=hC.hi; have a5:=hC.look
 rw[hpn]at a1 a4 a5
 simp[shD]at a1 a4 a5
 exact⟨g,_,c,rfl,hpos,hlen,k1,k2,a1,a4,a5,hC.frozen,k3⟩
theorem yU.put {w W:World}{base g n c:Nat}{d d':DtP}{kids:List yi}{r:Nat}{x:Int}(h:yU w base (.slice (some ⟨g,0,none⟩) n c) (.node d kids))(hW:w.setCell ⟨g,r,none⟩ (.int .i64 x)=W)(hr:r < 6)(hd':∀ks:List Int,∀q:Pt,q.nd=shD d ks→ptC {q with nd:=shD d' ks}=(ptC q).set r (.int .i64 x)):yU W base (.slice (some ⟨g,0,none⟩) n c) (.node d' kids):=by
 obtain⟨rs,h1,h2⟩:=h
 obtain⟨ks',r',hl,hd⟩:=zeY kids
 rw[hd d]at h2
 obtain⟨A,cc,hv⟩:=h1.len
 injection hv with hv1 hv2 hv3; cases rs with
 |nil=>simp[shs]at h2
 |cons p rs=>
  simp only[shs,List.map_cons,List.cons.injEq]at h2
  have hk:=h1.kids p (List.mem_cons_self ..); have hq:({p with nd:=shD d' ks'}:Pt).nd.ks=p.nd.ks:=by rw[h2.1];rfl
  have:=h1.store (i:=0) (r:=r) (q':={p with nd:=shD d' ks'}) (u:=.int .i64 x) hv2 rfl (by omega) (hd' ks' p h2.1) ⟨by rw[hq];exact hk.ints,by rw[hq];exact hk.cap,hk.top,hk.nil,hk.typ⟩
  rw[Nat.zero_mul,Nat.zero_add,hW]at this
  refine⟨_,this,?_⟩
  rw[hd d']
  simp only[List.set_cons_zero,shs,List.map_cons]
  rw[←h2.2]
theorem yU.hi {w W:World}{base g n c:Nat}{d:DtP}{kids:List yi}{x:Int}(h:yU w base (.slice (some ⟨g,0,none⟩) n c) (.node d kids))(hW:w.setCell ⟨g,4,none⟩ (.int .i64 x)=W):yU W base (.slice (some ⟨g,0,none⟩) n c) (.node {d with hi:=x} kids):=
 h.put hW (by omega) (fun ks q hq=>by unfold ptC;rw[hq];rfl)
theorem yU.look {w W:World}{base g n c:Nat}{d:DtP}{kids:List yi}{x:Int}(h:yU w base (.slice (some ⟨g,0,none⟩) n c) (.node d kids))(hW:w.setCell ⟨g,5,none⟩ (.int .i64 x)=W):yU W base (.slice (some ⟨g,0,none⟩) n c) (.node {d with look:=x} kids):=
 h.put hW (by omega) (fun ks q hq=>by unfold ptC;rw[hq];rfl)
theorem yU.kind {w W:World}{base g n c:Nat}{d:DtP}{kids:List yi}{x:Int}(h:yU w base (.slice (some ⟨g,0,none⟩) n c) (.node d kids))(hW:w.setCell ⟨g,1,none⟩ (.int .i64 x)=W):yU W base (.slice (some ⟨g,0,none⟩) n c) (.node {d with kind:=x} kids):=
 h.put hW (by omega) (fun ks q hq=>by unfold ptC;rw[hq];rfl)
theorem zeF {t:yi}{rs:List Pt}(h:shs rs=yH t)(hs:xO t):rs.length≤20000000∧∀p∈rs,p.nd.ks.length≤1000∧∀k∈p.nd.ks,0≤k∧k≤1000000000:=by
 have hl:rs.length=yu t:=by rw[←yT,←h];simp[shs]
 have hsz:=hs.size
 refine⟨by omega,fun p hp=>?_⟩
 have hm:p.nd∈yH t:=by rw[←h];exact List.mem_map_of_mem hp
 refine⟨zbc t hs.wide _ hm,fun k hk=>?_⟩
 have:=zaI t _ hm k hk
 rw[yT]at this
 omega
theorem yU.behind (v u:Value)(d:DtP)(kids:List yi)(t:yi)(w0 w:World)(hv:yU w w0.heap.size v (.node d kids))(hu:yU w w0.heap.size u t)(ha:j8 v u)(hs:xO (.node d kids))(ht:xO t)(e:Ext w0 w):
 Calls Tryz.prog 28 #[v,u] w fun e w'=>∃v',e=.returned v'∧yU w' w0.heap.size v' (.node d (kids++[t]))∧zA (fun g=>v.ownBlock=some g∨u.ownBlock=some g) w w'∧Ext w0 w':=by
 obtain⟨rs,h1,h2⟩:=hv
 obtain⟨us,k1,k2⟩:=hu
 obtain⟨a1,a2⟩:=zeF h2 hs
 obtain⟨b1,b2⟩:=zeF k2 ht
 have l1:rs.length=yu (.node d kids):=by rw[←yT,←h2];simp[shs]
 have l2:us.length=yu t:=by rw[←yT,←k2];simp[shs]
 refine(zcm v u rs us w0 w h1 k1 ha (by rw[l1,yF];omega) (by cases t;rw[l2,yF];omega) (by omega) (by omega) (fun p hp=>by
  rcases List.mem_append.1 hp with hp|hp
  ·exact a2 p hp
  ·exact b2 p hp) e).mono ?_
 rintro e' w' ⟨v',rs',rfl,m1,m2,m3,m4⟩
 exact⟨v',rfl,⟨rs',m1,by rw[m2,h2,k2,zd8]⟩,m3,m4⟩
theorem zbi {L:LxP}:∀f,(∀left til look kids lo t,yG L f left til look kids lo=some t→∃rs,t.kids=kids++rs)∧∀r til kids z,yz L f r til kids=some z→∃rs,z.1=kids++rs:=by
 intro f; induction f with
 |zero=>refine⟨?_,?_⟩<;>intros<;>simp_all [yG,yz]
 |succ f ih=>
  obtain⟨i1,i2⟩:=ih
  refine⟨fun left til look kids lo t h=>?_,fun r til kids z h=>?_⟩
  ·unfold yG at h; split at h
   ·cases hs:yz L f (L.right (L.pred left (L.win til).1)) til kids with
    |none=>rw[hs]at h;cases h
    |some z=>
     rw[hs]at h
     injection h with h; subst h; exact i2 _ _ _ _ hs
   ·split at h
    ·injection h with h; subst h
     exact⟨[],by simp[yi.kids]⟩
    ·obtain⟨rs,hr⟩:=i1 _ _ _ _ _ _ h
     exact⟨_ ::rs,by rw[hr,List.append_assoc];rfl⟩
  ·cases r with
   |nil=>
    unfold yz at h; injection h with h; subst h
    exact⟨[],by simp⟩
   |cons s r=>
    unfold yz at h; cases hs:vG L f s til with
    |none=>rw[hs]at h;cases h
    |some t=>
     rw[hs]at h
     obtain⟨rs,hr⟩:=i2 _ _ _ _ h
     exact⟨t ::rs,by rw[hr,List.append_assoc];rfl⟩
theorem zbg {ks:List yi}(h:ks≠[]):1≤yL ks:=by
 cases ks with
 |nil=>exact absurd rfl h
 |cons t ts=>cases t;simp only[yL,yu];omega
theorem xO.preK {t:yi}(h:xO t){ks rs:List yi}(hk:t.kids=ks++rs)(d':DtP):xO (.node d' ks):=by
 cases t; simp only[yi.kids]at hk
 subst hk; exact h.pre
theorem xO.inK {t:yi}(h:xO t){k:yi}(hk:k∈t.kids):xO k:=by
 cases t; exact h.kid hk
structure TrC (w:World)(lb A:Nat)(s:ByteArray)(D:vJ)(L:LxP)(f:Nat)(N0:Option Addr)(m0 c0:Nat)(N1:Option Addr)(m1 c1:Nat)(N2:Option Addr)(m2 c2 kk:Nat):Prop where
 cells:∀w1,Ext w w1→zhc w1 lb D N0 m0 c0 N1 m1 c1 N2 m2 c2
 win:∀(q:Nat),q≤s.size→∀w1,Ext w w1→Calls Tryz.prog 58 #[zaP (.slice N0 m0 c0) (.slice N1 m1 c1) (.slice N2 m2 c2) D.kn,.string s,.int .i64 q,.int .i64 kk] w1 (zbJ w1 (L.win q))
 nxt:∀(q:Nat),q≤s.size→∀w1,Ext w w1→Calls Tryz.prog 29 #[zaP (.slice N0 m0 c0) (.slice N1 m1 c1) (.slice N2 m2 c2) D.kn,.string s,.int .i64 q] w1 fun e w'=>e=.returned (.tuple #[zbs q (L.tk q),.int .i64 0])∧Ext w1 w'
 pred:∀(x:ByteArray) w1,Ext w w1→Calls Tryz.prog 59 #[.pointer (some ⟨lb,0,none⟩),.int .i64 A,.string x] w1 fun e w'=>e=.returned (.int .i64 (L.pred A (rb x)))∧Ext w1 w'
 beh:∀kind:Int,-1≤kind→kind < D.gc.terms→∀w1,Ext w w1→Calls Tryz.prog 61 #[.pointer (some ⟨lb,0,none⟩),.int .i64 A,.int .i64 kind] w1 fun e w'=>e=.returned (.bool (L.beh A kind))∧Ext w1 w'
 sym:∀(f':Nat),f' < f→∀(sy:Int) (q:Nat) (t:yi),vG L f' sy q=some t→0≤sy→sy < D.gc.terms+D.gc.nons→q≤s.size→xO t→∀w1,Ext w w1→Calls Tryz.prog 60 #[.pointer (some ⟨lb,0,none⟩),.string s,.int .i64 sy,.int .i64 q] w1 (zgv w1 t)
 symHi:∀(f':Nat) (sy:Int) (q:Nat) (t:yi),vG L f' sy q=some t→sy < D.gc.terms+D.gc.nons→q≤s.size→∃hi:Nat,t.d.hi=hi∧hi≤s.size
 tok:∀(q:Nat),q≤s.size→YM s.size D.gc.terms q (L.tk q)
 yes:∀row,0≤L.pred A row→∃(i:Nat) (pr:Prd),L.pred A row=i∧D.gc.prods[i]?=some pr∧L.right (L.pred A row)=pr.right∧(∀sy∈pr.right,0≤sy∧sy < D.gc.terms+D.gc.nons)∧pr.right.length≤8
 gr:jC w D.gc
 terms:L.g.terms=D.gc.terms
 kd:D.gc.k=kk
theorem zhp {w:World}{lb A:Nat}{s:ByteArray}{D:vJ}{g:Gm}{f:Nat}(hs:s.size≤1000)(H:QL (qZ D g s))(IH:∀f',f' < f→zil s D g f')(h:jM w lb D g)(hA:A < D.n):
 ∃N0 m0 c0 N1 m1 c1 N2 m2 c2 kk,TrC w lb A s D (qZ D g s) f N0 m0 c0 N1 m1 c1 N2 m2 c2 kk:=by
 obtain⟨N0,m0,c0,N1,m1,c1,N2,m2,c2,e0,e1,e2,HCL⟩:=vx h
 have htm:D.gc.terms=g.terms:=by rw[←h.gm];rfl
 have hnm:D.gc.nons=g.nons:=by rw[←h.gm];rfl
 have hbn:=yk h.acc.1
 obtain⟨kk,hkk⟩:∃k:Nat,D.gc.k=k:=⟨D.gc.k.toNat,by omega⟩
 have hkn:g.kn=kk:=by
  rw[←h.gm]
  show D.gc.k.toNat=kk; omega
 refine⟨N0,m0,c0,N1,m1,c1,N2,m2,c2,kk,HCL,fun q hq w1 e=>?_,fun q hq w1 e=>?_,fun x w1 e=>?_,fun kind hk1 hk2 w1 e=>?_,fun f' hf sy q t ht h0 h1 hq hsm w1 e=>?_,fun f' sy q t ht h1 hq=>?_,fun q hq=>?_,fun row hr=>?_,h.gr,htm.symm,hkk⟩
 ·have:=zc6 D.nv D.rv D.kv D.nl D.rl D.kl D.kn s q kk w1 (h.lex.ext e) h.lok hq (by omega) (by omega) (by omega)
  rw[e0,e1,e2]at this
  show Calls _ _ _ w1 (zbJ w1 (Zd (fun q=>vI D.nl D.rl D.kl s q) g.kn q [] q))
  rw[hkn]
  exact this
 ·have:=VU D.nv D.rv D.kv D.nl D.rl D.kl D.kn s q w1 (h.lex.ext e) h.lok hq (by omega)
  rw[e0,e1,e2]at this
  exact this
 ·exact zfu lb D g A x w1 (h.ext e)
 ·exact zgM lb D g A kind w1 (h.ext e) hA hk1 hk2
 ·cases f' with
  |zero=>simp[vG]at ht
  |succ f'=>exact zgY lb D g s hs f' (IH f' (by omega)) sy q t w1 (h.ext e) h0 (by omega) hq ht hsm
 ·obtain⟨⟨hi,a,_,b⟩,_⟩:=(xH H f').2.2 sy q t (by show sy < g.terms+g.nons;omega) hq ht
  exact⟨hi,a,b⟩
 ·have:=za8 h.lok hq (s:=s)
  rw[h.kin]at this
  exact this
 ·obtain⟨pd,h1,h2,_⟩:=H.yes A row hr
  obtain⟨i,hi⟩:∃i:Nat,(qZ D g s).pred A row=i:=⟨((qZ D g s).pred A row).toNat,by omega⟩
  rw[hi,Int.toNat_natCast]at h1
  have h3:D.gc.gm.prods[i]?=some pd:=by rw[h.gm];exact h1
  have h4:(D.gc.prods.map fun p=>(⟨p.left,p.right⟩:Pd))[i]?=some pd:=h3
  rw[List.getElem?_map]at h4
  cases hpr:D.gc.prods[i]? with
  |none=>rw[hpr]at h4;cases h4
  |some pr=>
   rw[hpr]at h4
   injection h4 with h4; have hin:=je h.acc.1 hpr
   refine⟨i,pr,hi,hpr,?_,fun sy hsy=>hin.sym sy hsy,hin.len⟩
   rw[hi]
   unfold LxP.right
   rw[Int.toNat_natCast,h1,←h4]
   rfl
set_option maxRecDepth 100000 in
set_option maxHeartbeats 8000000 in
theorem zdY (w:World)(lb A:Nat)(s:ByteArray)(D:vJ)(L:LxP)(f:Nat)(N0:Option Addr)(m0 c0:Nat)(N1:Option Addr)(m1 c1:Nat)(N2:Option Addr)(m2 c2 kk p:Nat)(t:yi)(h:TrC w lb A s D L f N0 m0 c0 N1 m1 c1 N2 m2 c2 kk)(_:s.size≤1000)(hA:A < 16)(htn:1≤D.gc.terms∧D.gc.terms≤8)(hp:p≤s.size)(ht:yG L f (A:Int) p 0 [] p=some t)(hsm:xO t):
 Calls Tryz.prog 27 #[.pointer (some ⟨lb,0,none⟩),.string s,.int .i64 A,.int .i64 p] w (zgv w t):=by
 obtain⟨sy0,hsy0⟩:∃x,D.gc.terms+(A:Int)=x:=⟨_,rfl⟩
 have f1:wrap64 (D.gc.terms+(A:Int))=D.gc.terms+(A:Int):=IntWalk.wrap64_in _ (by omega); have HS0:Hid (L.g.terms+(A:Int)=sy0):=zh (by rw[h.terms,hsy0]); have HH:=zh h; have HT0:=zh ht; have HSM:=zh hsm
 obtain⟨ob,hob⟩:∃b,w.heap.size=b:=⟨_,rfl⟩
 obtain⟨W1,hW1⟩:∃V,w.alloc (.cells #[.int .i64 (D.gc.terms+(A:Int)),.int .i64 2,.int .i64 p,.int .i64 p,.int .i64 p,.int .i64 0,zH,.int .u64 0] 54)=V:=⟨_,rfl⟩
 have HR1:Hid (yU W1 w.heap.size (.slice (some ⟨ob,0,none⟩) 1 1) (.node ⟨sy0,2,p,p,p,0⟩ [])):=zh (by
  refine⟨_,by rw[←hW1,←hob,hsy0];exact ju w w.heap.size (Nat.le_refl _) (shD ⟨sy0,2,p,p,p,0⟩ []) rfl,by simp[yH,qq,shs]⟩)
 have HX1:Hid (Ext w W1):=zh (by rw[←hW1];exact xi)
 obtain⟨_,_,_,_,k4,_,_,_,_,_,_,kl⟩:=h.cells w (Ext.refl _)
 clear h ht hsm hsy0; go_in
 go_upto_region 2 with fail; try simp only[hob]
 try simp only[hW1]
 clear hob hW1 k4 kl f1; go_loopg [9] f (fun gh ov wr=>∃(til:Nat) (look:Int) (kids:List yi),gh≤f∧til≤s.size∧Hid (yU wr w.heap.size ov (.node ⟨sy0,2,p,p,til,look⟩ kids))∧Hid (yG L gh A til look kids p=some t)∧Hid (Ext w wr))
 case atStart=>exact⟨p,0,[],Nat.le_refl _,hp,HR1,HT0,HX1⟩
 case round=>
  clear HR1 HT0 HX1
  obtain⟨til,look,kids,hgf,htl,HR,HT,HX⟩:=hrel
  obtain⟨f2,hf2⟩:∃f2,gk=f2+1:=⟨gk - 1,by
   cases gk with
   |zero=>have:=HT.out;simp[yG]at this
   |succ n=>rfl⟩
  obtain⟨og,on,oc,rfl,hon,hons,hob,hol,d1,d4,d5,df,_⟩:=HR.out.open
  dsimp only at d1 d4 d5; have HON:=zh hons; clear hons; have df5:=df 5
  obtain⟨k0,k1,k2,k3,_,_,k6,_,_,_,_,kl⟩:=HH.out.cells wr HX.out
  rw[HH.out.kd]at k6
  have HWI:=zh (HH.out.win til htl); have HG:=zh (show w.heap.size≤og∧og < wr.heap.size from⟨hob,hol⟩); have HGF:Hid (f2+1≤f):=zh (by omega); have HF2:=zh hf2
  obtain⟨z,hz⟩:∃z,L.win til=z:=⟨_,rfl⟩
  have HWZ:=zh hz
  rw[hz]at HWI
  obtain⟨zr,ze⟩:=z
  unfold zaP zbJ at HWI; dsimp only at HWI; clear hob hz hgf hf2; go_upto_region 2 with fail; refine zg (22) (zd [0,1,2,4,5,6,7,9,10,11,12] (zj [3,8,13] (.step 14 (zd [15,16,17,18,19,20,21] .fin)))) (by kernel_rfl) (by kernel_rfl) ?_; (repeat first|refine yq ?_|refine yr ?_)
  refine zp fun next hn=>?_;simp only[pick,yp]; go_wp2_with fail
  refine(HWI.out _ (HX.out.trans xi)).mono ?_
  rintro e' W2 ⟨x,rfl,hx,hx2⟩; have HY2:Hid (Ext wr W2):=zh (Ext.trans xi hx2); have HRX:=zh hx; clear hx hx2 HWI k0 k1 k2 k3 k6 kl d1 d4 d5 df df5; go_wp2_with fail; refine zk (fun _=>yZ HY2.out) (hn _ _ ?_); clear hn next; (repeat first|refine yq ?_|refine yr ?_)
  refine zv ?_; have HR2:=zh (HR.out.ext HY2.out)
  obtain⟨og',on',oc',hov,-,-,-,hol2,d1,d4,d5,df,-⟩:=HR2.out.open
  injection hov with hv1 hv2 hv3; injection hv1 with hv1; injection hv1 with hv1; subst hv1 hv2 hv3; dsimp only at d5; have df5:=df 5
  obtain⟨mx,hmx⟩:∃m:Int,(if look < ze then ze else look)=m:=⟨_,rfl⟩
  have HMX:Hid (max look ze=mx):=zh (by rw[←hmx];omega)
  obtain⟨W3,hW3⟩:∃V,W2.setCell ⟨og,5,none⟩ (.int .i64 mx)=V:=⟨_,rfl⟩
  have HR3:Hid (yU W3 w.heap.size (.slice (some ⟨og,0,none⟩) on oc) (.node ⟨sy0,2,p,p,til,mx⟩ kids)):=zh (HR2.out.look hW3); have HX3:Hid (Ext w W3):=zh (by rw[←hW3];exact(HX.out.trans HY2.out).setCell (by show _≤og;have:=HG.out;omega) _); have HG3:Hid (w.heap.size≤og∧og < W3.heap.size):=zh ⟨HG.out.1,by rw[←hW3];simpa using hol2⟩; go_upto_region 4 with fail; try simp only[hW3]
  clear hW3 d1 d4 d5 df df5 hmx HR2 HY2 HR HG HX hol2 hol; go_wp2_with fail
  refine(HH.out.pred x W3 HX3.out).mono ?_
  rintro e' W4 ⟨rfl,hx4⟩; have HX4:=zh (HX3.out.trans hx4); have HR4:=zh (HR3.out.ext hx4); have HG4:Hid (w.heap.size≤og∧og < W4.heap.size):=zh ⟨HG3.out.1,Nat.lt_of_lt_of_le HG3.out.2 hx4.size⟩
  have HLO:Hid ((if 0≤L.pred A zr then
   match yz L f2 (L.right (L.pred A zr)) til kids with
   |none=>none
   |some (ks,to')=>some (.node ⟨sy0,2,p,p,to',mx⟩ ks)
  else if(L.tk til).1=-2∨L.beh A (L.tk til).1=true then some (.node ⟨sy0,if kids.isEmpty then 4 else 2,p,p,til,mx⟩ kids)
  else yG L f2 A (L.tk til).2.2.1.toNat mx (kids++[.node (xt 5 til (L.tk til)) []]) p)=some t):=zh (by
   have:=HT.out
   rw[HF2.out]at this
   unfold yG at this
   rw[HWZ.out]at this
   dsimp only at this
   rw[HMX.out,HS0.out]at this
   exact this)
  rw[HRX.out]
  have HY:=zh (HH.out.yes zr)
  obtain⟨pr,hpr⟩:∃q,L.pred A zr=q:=⟨_,rfl⟩
  rw[hpr]at HLO HY ⊢
  clear hx4 HR3 HX3 HG3 HT HWZ HRX hpr HMX; by_cases hq:0≤pr
  ·have q1:decide (0≤pr)=true:=decide_eq_true hq
   obtain⟨i,⟨pleft,rA,rc,right⟩,rfl,hpg,hri,hsy,hrl⟩:=HY.out hq
   dsimp only at hri hsy hrl
   obtain⟨z,hz⟩:∃z,yz L f2 (L.right (i:Int)) til kids=some z:=by
    have:=HLO.out
    rw[if_pos hq]at this
    cases hh:yz L f2 (L.right (i:Int)) til kids with
    |none=>rw[hh]at this;cases this
    |some z=>exact⟨z,rfl⟩
   have HTE:Hid (t=.node ⟨sy0,2,p,p,z.2,mx⟩ z.1):=zh (by
    have:=HLO.out
    rw[if_pos hq,hz]at this
    injection this with this; exact this.symm)
   rw[hri]at hz
   have HZ:=zh hz; have HSY:=zh hsy
   obtain⟨pg,po,hA1,pl,x0,x1,POK⟩:=(HH.out.gr.ext HX4.out).prd hpg
   obtain⟨_,_,_,_,_,_,POW⟩:=(HH.out.gr).prd hpg
   have HPO:=zh POW; dsimp only at x0 x1
   obtain⟨rn,hrn⟩:∃n,right.length=n:=⟨_,rfl⟩
   have HRN:=zh hrn; have hil:=(List.getElem?_eq_some_iff.1 hpg).1
   rw[hrn]at x1 hrl
   obtain⟨_,_,_,_,_,_,_,k7,_,_,_,kl⟩:=HH.out.cells W4 HX4.out
   rw[hA1]at k7
   obtain⟨m,hm⟩:∃m,D.gc.prods.length=m:=⟨_,rfl⟩
   rw[hm]at k7 hil
   have hcap:=HH.out.gr.cap
   rw[hm]at hcap
   clear hsy hri hpg hz POK POW hrn hm HY HLO hA1 hq; go_wp2_with fail; clear k7 kl x0 x1 pl hcap hil q1; go_loopw [9,15] (fun ov iv wr=>∃(j til2 f3:Nat) (kids2:List yi),iv=.int .i64 j∧j≤rn∧til2≤s.size∧f3≤f2∧Hid (yU wr w.heap.size ov (.node ⟨sy0,2,p,p,til2,mx⟩ kids2))∧Hid (yz L f3 (right.drop j) til2 kids2=some z)∧Hid (Ext w wr)) (fun _ iv _=>rn - (intOf iv).toNat)
   case atStart=>exact⟨0,til,f2,kids,rfl,Nat.zero_le _,htl,Nat.le_refl _,HR4,HZ,HX4⟩
   case round=>
    clear HR4 HZ
    obtain⟨j,til2,f3,kids2,rfl,hj,ht2,hf3,HR,HZ,HX⟩:=hrel
    by_cases hlt:j < rn
    ·obtain⟨sy,hsj⟩:∃x,right[j]?=some x:=⟨_,List.getElem?_eq_getElem (by have:=HRN.out;omega)⟩
     have hdr:right.drop j=sy ::right.drop (j+1):=by
      have hj':=(List.getElem?_eq_some_iff.1 hsj)
      obtain⟨hj1,hj2⟩:=hj'
      rw[List.drop_eq_getElem_cons hj1,hj2]
     rw[hdr]at HZ
     obtain⟨f4,rfl⟩:∃f4,f3=f4+1:=⟨f3 - 1,by
      cases f3 with
      |zero=>have:=HZ.out;simp[yz]at this
      |succ n=>rfl⟩
     obtain⟨t3,ht3⟩:∃t3,vG L f4 sy til2=some t3:=by
      have:=HZ.out
      unfold yz at this; cases hh:vG L f4 sy til2 with
      |none=>rw[hh]at this;cases this
      |some t3=>exact⟨t3,rfl⟩
     have HZ3:Hid (yz L f4 (right.drop (j+1)) t3.d.hi.toNat (kids2++[t3])=some z):=zh (by
      have:=HZ.out
      unfold yz at this
      rw[ht3]at this
      exact this)
     have hsyb:=HSY.out sy (List.mem_of_getElem? hsj)
     obtain⟨hi,hhi,hhn⟩:=HH.out.symHi f4 sy til2 t3 ht3 hsyb.2 ht2
     rw[hhi,Int.toNat_natCast]at HZ3
     obtain⟨rs,hrs⟩:=(zbi f4).2 _ _ _ _ HZ3.out
     have HSM2:Hid (xO (.node ⟨sy0,2,p,p,til2,mx⟩ kids2)∧xO t3):=zh (by
      have:=HSM.out
      rw[HTE.out,hrs]at this
      exact⟨by rw[List.append_assoc]at this;exact this.pre,this.kid (by simp)⟩)
     have HSYM:=zh (HH.out.sym f4 (by have:=HGF.out;omega) sy til2 t3 ht3 hsyb.1 hsyb.2 ht2 HSM2.out.2); have HF4:Hid (f4≤f2):=zh (by omega)
     obtain⟨rb',ro,hrA,rl,x0⟩:=(HPO.out.ext HX.out).sym hsj
     dsimp only at hrA; subst hrA
     obtain⟨og2,on2,oc2,rfl,hon2,hons,hob,hol,_,d4,_,_,_⟩:=HR.out.open
     dsimp only at d4; have HG2:=zh (show w.heap.size≤og2∧og2 < wr.heap.size from⟨hob,hol⟩)
     obtain⟨d3,ks3⟩:=t3
     have hhi:d3.hi=hi:=hhi; have HHI:=zh hhi; have HJB:Hid (j < rn):=zh hlt; clear hdr hrs hsyb hsj ht3 hhi HZ hons hob hf3 ht2; go_upto_region 10 with fail; refine zg (12) (zd [0,1,2,3,4,6,7,8] (zj [5,9] (.step 10 (zd [11] .fin)))) (by kernel_rfl) (by kernel_rfl) ?_; (repeat first|refine yq ?_|refine yr ?_)
     refine zp fun next hn=>?_;simp only[pick,yp]; go_wp2_with fail
     refine(HSYM.out _ (HX.out.trans xi)).mono ?_
     rintro e' U0 ⟨v0,ss0,rfl,hr,hsh,hxu⟩; have HY:Hid (Ext wr U0):=zh (Ext.trans xi hxu); have hsub:yU U0 wr.heap.size v0 (.node d3 ks3):=⟨ss0,hr,hsh⟩
     obtain⟨sg,sn,sc,rfl,hsn,hsns,hsb,hsl,_,s4,_,_,_⟩:=hsub.open
     rw[HHI.out]at s4
     have HAP:Hid (j8 (.slice (some ⟨og2,0,none⟩) on2 oc2) (.slice (some ⟨sg,0,none⟩) sn sc)):=zh (fun g h1 h2=>by
      have e1:og2=g:=by injection h1
      have e2:sg=g:=by injection h2
      have:=HG2.out.2
      omega)
     have HBH:=zh (yU.behind _ _ _ kids2 _ w U0 (HR.out.ext HY.out) (hsub.base HX.out.size) HAP.out HSM2.out.1 HSM2.out.2 (HX.out.trans HY.out)); clear hr hsh hxu hsub hsb hsns HAP HSYM; go_wp2_with fail; refine zk (fun _=>yZ HY.out) (hn _ _ ?_); clear hn next d4 hol x0 rl; (repeat first|refine yq ?_|refine yr ?_)
     refine zv ?_; go_wp2_with fail; refine HBH.out.mono ?_; rintro e' T0 ⟨v2,rfl,hr,_,hxt⟩
     obtain⟨og3,on3,oc3,rfl,hon3,hons3,hob3,hol3,_,d4,_,df,_⟩:=hr.open
     dsimp only at d4; have df4:=df 4
     obtain⟨W5,hW⟩:∃V,T0.setCell ⟨og3,4,none⟩ (.int .i64 (hi:Int))=V:=⟨_,rfl⟩
     have HR5:Hid (yU W5 w.heap.size (.slice (some ⟨og3,0,none⟩) on3 oc3) (.node ⟨sy0,2,p,p,hi,mx⟩ (kids2++[.node d3 ks3]))):=zh (hr.hi hW); have HX5:Hid (Ext w W5):=zh (by rw[←hW];exact hxt.setCell hob3 _); clear hr hxt hons3 hob3 HBH s4 hsl hsn HR HX HY HG2; go_upto_region 9 with fail; try simp only[hW]
     clear hW d4 df df4 hol3 hon3; go_wp2_with fail; go_roundw
     case rel=>exact⟨j+1,hi,f4,kids2++[.node d3 ks3],by go_num,by omega,hhn,HF4.out,HR5,HZ3,HX5⟩
     case measure=>have:=HJB.out;simp[intOf];omega
    ·obtain rfl:j=rn:=by omega
     rw[List.drop_eq_nil_of_le (by have:=HRN.out;omega)]at HZ
     have HTE2:Hid (t=.node ⟨sy0,2,p,p,til2,mx⟩ kids2):=zh (by
      have h1:=HZ.out; cases f3 with
      |zero=>simp[yz]at h1
      |succ n=>
       unfold yz at h1; injection h1 with h1
       rw[HTE.out,←h1])
     go_wp2_with fail
     obtain⟨rs,hr,hsh⟩:=HR.out
     go_ret
     exact⟨_,rs,rfl,hr,by rw[HTE2.out];exact hsh,HX.out⟩
  ·have q1:decide (0≤pr)=false:=decide_eq_false hq
   have HL2:Hid ((if(L.tk til).1=-2∨L.beh A (L.tk til).1=true then some (.node ⟨sy0,if kids.isEmpty then 4 else 2,p,p,til,mx⟩ kids)
    else yG L f2 A (L.tk til).2.2.1.toNat mx (kids++[.node (xt 5 til (L.tk til)) []]) p)=some t):=zh (by
    have:=HLO.out
    rw[if_neg hq]at this
    exact this)
   have hbd:=HH.out.tok til htl; have HNX:=zh (HH.out.nxt til htl)
   obtain⟨uq,huq⟩:∃q,L.tk til=q:=⟨_,rfl⟩
   rw[huq]at HL2 hbd HNX
   obtain⟨u0,u1,u2,u3⟩:=uq
   unfold YM at hbd; unfold zaP zbs at HNX; dsimp only at HL2 hbd HNX; have HBD:=zh hbd
   obtain⟨_,_,_,hov,-,-,-,hol2,d1,d4,d5,df,-⟩:=HR4.out.open
   injection hov with hv1 hv2 hv3; injection hv1 with hv1; injection hv1 with hv1; subst hv1 hv2 hv3; dsimp only at d4
   obtain⟨k0,k1,k2,k3,_,_,_,_,_,_,_,kl⟩:=HH.out.cells W4 HX4.out
   clear HLO HY hbd huq hq d1 d5 df; go_upto_region 15 with fail; go_cut [18] (fun tv wc=>∃kb:Nat,tv=.pointer (some ⟨kb,0,none⟩)∧Hid (wc.heap[kb]?=some (.cells #[.int .i64 u0,.int .i64 til,.int .i64 u1,.int .i64 u2,.int .i64 u3] 83))∧Hid (W4.heap.size≤kb)∧Hid (Ext W4 wc))
   case first=>
    go_upto_region 15 with fail; refine zg (14) (zd [0,1,2,4,5,6,7] (zj [3,8] (.two (.step 9 (zd [10,11,12] (.step 13 (.step 14 (zd [15] .fin))))) (.step 13 (.step 9 (zd [10,11,12] (.step 14 (zd [15] .fin)))))))) (by kernel_rfl) (by kernel_rfl) ?_; (repeat first|refine yq ?_|refine yr ?_)
    clear k0 k1 k2 k3 kl d4 hol2 q1; refine zbd ?_ ?_
    ·refine zp fun next hn=>?_;simp only[pick,yp]; go_wp2_with fail
     refine(HNX.out _ (HX4.out.trans xi)).mono ?_
     rintro e' V1 ⟨rfl,hv1⟩; have HY:Hid (Ext W4 V1):=zh (Ext.trans xi hv1); clear hv1 HNX; go_wp2_with fail; refine zk (fun _=>yZ HY.out) (hn _ _ ?_); clear hn next; (repeat first|refine yq ?_|refine yr ?_)
     refine zp fun next hn=>?_;simp only[pick,yp]; go_wp2_with fail; refine zk (fun _=>yZ (HY.out.trans (xi:Ext V1 _))) (hn _ _ ?_); clear hn next
     obtain⟨kb,hkb⟩:∃b,V1.heap.size=b:=⟨_,rfl⟩
     obtain⟨V2,hV2⟩:∃W,V1.alloc (.cells #[.int .i64 0,.int .i64 0,.int .i64 0,.int .i64 0,.int .i64 0] 83)=W:=⟨_,rfl⟩
     have hR:V2.heap[kb]?=some (.cells #[.int .i64 0,.int .i64 0,.int .i64 0,.int .i64 0,.int .i64 0] 83):=by rw[←hV2,←hkb];exact heap_alloc_new _ _
     have XA:Ext W4 V2:=by rw[←hV2];exact HY.out.trans xi
     have hkl:W4.heap.size≤kb:=by have:=HY.out.size;omega
     try simp only[hV2,hkb]
     clear hV2 hkb
     obtain⟨W5,hW5⟩:∃W,ZX V2 kb (.int .i64 u0) (.int .i64 til) (.int .i64 u1) (.int .i64 u2) (.int .i64 u3)=W:=⟨_,rfl⟩
     have h5:W5.heap[kb]?=some (.cells #[.int .i64 u0,.int .i64 til,.int .i64 u1,.int .i64 u2,.int .i64 u3] 83):=by rw[←hW5];exact vZ hR _ _ _ _ _
     have X5:Ext W4 W5:=by rw[←hW5];exact(xG (S:=fun k=>k=kb) rfl _ _ _ _ _).ext XA (fun k hk=>by omega)
     have z0:=cr 0 hR; have z1:=cr 1 hR; have z2:=cr 2 hR; have z3:=cr 3 hR; have z4:=cr 4 hR; have zf:=fun k=>zi hR k; have zl:=za hR; simp at z0 z1 z2 z3 z4
     have H5:=zh h5; have HX5:=zh X5; have HKB:=zh hkl; unfold ZX yX y8 put2 at hW5; clear hR XA h5 X5 hkl; refine zp fun next hn=>?_;simp only[pick,yp]; go_wp2_with fail; refine zk (fun h=>absurd rfl h) (hn _ _ ?_); clear hn next; (repeat first|refine yq ?_|refine yr ?_)
     refine zv ?_; try simp only[hW5]
     clear hW5 z0 z1 z2 z3 z4 zf zl; go_wp2_with fail; go_meet
     exact⟨kb,rfl,H5,HKB,HX5⟩
    ·refine zp fun next hn=>?_;simp only[pick,yp]; go_wp2_with fail; refine zk (fun _=>yZ (xi:Ext W4 _)) (hn _ _ ?_); clear hn next; (repeat first|refine yq ?_|refine yr ?_)
     obtain⟨kb,hkb⟩:∃b,W4.heap.size=b:=⟨_,rfl⟩
     obtain⟨V0,hV0⟩:∃W,(W4.alloc (.cells #[.int .i64 0,.int .i64 0,.int .i64 0,.int .i64 0,.int .i64 0] 83)).drew=W:=⟨_,rfl⟩
     have hR0:V0.heap[kb]?=some (.cells #[.int .i64 0,.int .i64 0,.int .i64 0,.int .i64 0,.int .i64 0] 83):=by rw[←hV0,←hkb];exact heap_alloc_new _ _
     have X0:Ext W4 V0:=by rw[←hV0];exact xi
     have hkl:W4.heap.size≤kb:=by omega
     try simp only[hV0,hkb]
     clear hV0 hkb; have HX0:=zh X0; refine zp fun next hn=>?_;simp only[pick,yp]; go_wp2_with fail
     refine(HNX.out _ (HX4.out.trans HX0.out)).mono ?_
     rintro e' V2 ⟨rfl,hv1⟩; have HY:Hid (Ext W4 V2):=zh (HX0.out.trans hv1); have hR:=zb hR0 hv1; have XA:Ext W4 V2:=HY.out; clear hv1 HNX hR0 X0; go_wp2_with fail; refine zk (fun _=>yZ HY.out) (hn _ _ ?_); clear hn next; (repeat first|refine yq ?_|refine yr ?_)
     obtain⟨W5,hW5⟩:∃W,ZX V2 kb (.int .i64 u0) (.int .i64 til) (.int .i64 u1) (.int .i64 u2) (.int .i64 u3)=W:=⟨_,rfl⟩
     have h5:W5.heap[kb]?=some (.cells #[.int .i64 u0,.int .i64 til,.int .i64 u1,.int .i64 u2,.int .i64 u3] 83):=by rw[←hW5];exact vZ hR _ _ _ _ _
     have X5:Ext W4 W5:=by rw[←hW5];exact(xG (S:=fun k=>k=kb) rfl _ _ _ _ _).ext XA (fun k hk=>by omega)
     have z0:=cr 0 hR; have z1:=cr 1 hR; have z2:=cr 2 hR; have z3:=cr 3 hR; have z4:=cr 4 hR; have zf:=fun k=>zi hR k; have zl:=za hR; simp at z0 z1 z2 z3 z4
     have H5:=zh h5; have HX5:=zh X5; have HKB:=zh hkl; unfold ZX yX y8 put2 at hW5; clear hR XA h5 X5 hkl; refine zp fun next hn=>?_;simp only[pick,yp]; go_wp2_with fail; refine zk (fun h=>absurd rfl h) (hn _ _ ?_); clear hn next; (repeat first|refine yq ?_|refine yr ?_)
     refine zv ?_; try simp only[hW5]
     clear hW5 z0 z1 z2 z3 z4 zf zl; go_wp2_with fail; go_meet
     exact⟨kb,rfl,H5,HKB,HX5⟩
   case rest=>
    clear k0 k1 k2 k3 kl d4 hol2 q1 HNX
    obtain⟨kb,rfl,H5,HKB,HX⟩:=hcut
    have HXW:=zh (HX4.out.trans HX.out); have HR5:=zh (HR4.out.ext HX.out); have y0:=cr 0 H5.out; have yl:=za H5.out; simp at y0
    by_cases h2:u0=-2
    ·have HTE:Hid (t=.node ⟨sy0,if kids.isEmpty then 4 else 2,p,p,til,mx⟩ kids):=zh (by
      have:=HL2.out
      rw[if_pos (.inl h2)]at this
      injection this with this; exact this.symm)
     subst h2; have HOS:=zh (yU.open HR5.out); by_cases hk:kids=[]
     ·subst hk
      obtain⟨_,_,_,hov,-,hsz,hob,hol2,d1,-,-,df,-⟩:=HOS.out
      injection hov with hv1 hv2 hv3; injection hv1 with hv1; injection hv1 with hv1; subst hv1 hv2 hv3; dsimp only at d1; have hn1:on=1:=by rw[hsz];simp[yu,yL]
      subst hn1; have df1:=df 1
      obtain⟨W9,hW⟩:∃V,wc.setCell ⟨og,1,none⟩ (.int .i64 4)=V:=⟨_,rfl⟩
      have HR9:=zh (HR5.out.kind hW); have HX9:Hid (Ext w W9):=zh (by rw[←hW];exact HXW.out.setCell hob _); clear hsz hob HOS; go_upto_region 19 with fail; try simp only[hW]
      clear hW d1 df df1 hol2; go_wp2_with fail
      obtain⟨rs,hr,hsh⟩:=HR9.out
      go_ret
      exact⟨_,rs,rfl,hr,by rw[HTE.out];exact hsh,HX9.out⟩
     ·have q2:((on:Int)==1)=false:=by
       obtain⟨_,_,_,hov,-,hsz,-,-,-,-,-,-,-⟩:=HOS.out
       injection hov with hv1 hv2 hv3
       rw[←hv2]at hsz
       have:=zbg hk
       rw[yF]at hsz
       simp
       omega
      have HTE2:Hid (t=.node ⟨sy0,2,p,p,til,mx⟩ kids):=zh (by
       rw[HTE.out]
       cases kids with
       |nil=>exact absurd rfl hk
       |cons a b=>rfl)
      clear hk HOS; go_wp2_with fail
      obtain⟨rs,hr,hsh⟩:=HR5.out
      go_ret
      exact⟨_,rs,rfl,hr,by rw[HTE2.out];exact hsh,HXW.out⟩
    ·have e1:(u0==-2)=false:=by simpa using h2
     have HNE:=zh h2; clear h2; go_wp2_with fail
     refine(HH.out.beh u0 (by have h1:=HBD.out.1;have h2:=HNE.out;omega) HBD.out.2.1 _ HXW.out).mono ?_
     rintro e' W6 ⟨rfl,hx6⟩; have HX6:=zh (HXW.out.trans hx6); have HR6:=zh (HR5.out.ext hx6); have H6:=zh (zb H5.out hx6)
     obtain⟨bv,hbv⟩:∃b,L.beh A u0=b:=⟨_,rfl⟩
     have HBV:=zh hbv
     rw[hbv]
     clear hx6 hbv y0 yl e1 HR5 HXW H5; cases bv with
     |true=>
      have HTE:Hid (t=.node ⟨sy0,if kids.isEmpty then 4 else 2,p,p,til,mx⟩ kids):=zh (by
       have:=HL2.out
       rw[if_pos (.inr HBV.out)]at this
       injection this with this; exact this.symm)
      have HOS:=zh (yU.open HR6.out); by_cases hk:kids=[]
      ·subst hk
       obtain⟨_,_,_,hov,-,hsz,hob,hol2,d1,-,-,df,-⟩:=HOS.out
       injection hov with hv1 hv2 hv3; injection hv1 with hv1; injection hv1 with hv1; subst hv1 hv2 hv3; dsimp only at d1; have hn1:on=1:=by rw[hsz];simp[yu,yL]
       subst hn1; have df1:=df 1
       obtain⟨W9,hW⟩:∃V,W6.setCell ⟨og,1,none⟩ (.int .i64 4)=V:=⟨_,rfl⟩
       have HR9:=zh (HR6.out.kind hW); have HX9:Hid (Ext w W9):=zh (by rw[←hW];exact HX6.out.setCell hob _); clear hsz hob HOS; go_upto_region 19 with fail; try simp only[hW]
       clear hW d1 df df1 hol2; go_wp2_with fail
       obtain⟨rs,hr,hsh⟩:=HR9.out
       go_ret
       exact⟨_,rs,rfl,hr,by rw[HTE.out];exact hsh,HX9.out⟩
      ·have q2:((on:Int)==1)=false:=by
        obtain⟨_,_,_,hov,-,hsz,-,-,-,-,-,-,-⟩:=HOS.out
        injection hov with hv1 hv2 hv3
        rw[←hv2]at hsz
        have:=zbg hk
        rw[yF]at hsz
        simp
        omega
       have HTE2:Hid (t=.node ⟨sy0,2,p,p,til,mx⟩ kids):=zh (by
        rw[HTE.out]
        cases kids with
        |nil=>exact absurd rfl hk
        |cons a b=>rfl)
       clear hk HOS; go_wp2_with fail
       obtain⟨rs,hr,hsh⟩:=HR6.out
       go_ret
       exact⟨_,rs,rfl,hr,by rw[HTE2.out];exact hsh,HX6.out⟩
     |false=>
      have HL3:Hid (yG L f2 A u2.toNat mx (kids++[.node (xt 5 til (u0,u1,u2,u3)) []]) p=some t):=zh (by
       have:=HL2.out
       rw[if_neg (fun hh=>hh.elim HNE.out (fun h=>by rw[HBV.out]at h;cases h))]at this
       exact this)
      obtain⟨til',ht'⟩:∃n:Nat,u2=n:=⟨u2.toNat,by have:=HBD.out;omega⟩
      subst ht'
      rw[Int.toNat_natCast]at HL3
      have ht3:til'≤s.size:=by have:=HBD.out;omega
      obtain⟨rs,hrs⟩:=(zbi f2).1 _ _ _ _ _ _ HL3.out
      have HS1:Hid (xO (.node ⟨sy0,2,p,p,til,mx⟩ kids)):=zh (by rw[List.append_assoc]at hrs;exact HSM.out.preK hrs _); have HS2:Hid (xO (.node (xt 5 til (u0,u1,(til':Int),u3)) [])):=zh (HSM.out.inK (by rw[hrs];simp)); have HLF:=zh (fun w=>VS 5 til (u0,u1,(til':Int),u3) w); unfold zbs zcl at HLF; dsimp only at HLF; have y0:=cr 0 H6.out; have y1:=cr 1 H6.out; have y2:=cr 2 H6.out; have y3:=cr 3 H6.out; have y4:=cr 4 H6.out; have yl:=za H6.out; simp at y0 y1 y2 y3 y4
      clear hrs; go_wp2_with fail
      refine(HLF.out _).mono ?_
      rintro e' W7 ⟨rfl,hx7⟩; have HX7:=zh (HX6.out.trans hx7); have hrl:=ju W7 w.heap.size HX7.out.size (shD (xt 5 til (u0,u1,(til':Int),u3)) []) rfl; have hr7:=HR6.out.ext hx7; have h7:=zb H6.out hx7; clear hx7 y0 y1 y2 y3 y4 yl HLF
      obtain⟨sg,hsg⟩:∃b,W7.heap.size=b:=⟨_,rfl⟩
      have hob7:og < W7.heap.size:=by
       obtain⟨_,_,_,hov,-,-,-,hol2,-,-,-,-,-⟩:=hr7.open
       injection hov with hv1 hv2 hv3; injection hv1 with hv1; injection hv1 with hv1; omega
      obtain⟨W8,hW8⟩:∃V,W7.alloc (.cells #[.int .i64 u0,.int .i64 5,.int .i64 til,.int .i64 u1,.int .i64 til',.int .i64 u3,zH,.int .u64 0] 54)=V:=⟨_,rfl⟩
      have x78:Ext W7 W8:=by rw[←hW8];exact xi
      have hrl2:yU W8 w.heap.size (.slice (some ⟨sg,0,none⟩) 1 1) (.node (xt 5 til (u0,u1,(til':Int),u3)) []):=⟨_,by rw[←hW8,←hsg];exact hrl,by simp[yH,qq,shs]⟩; have HX8:=zh (HX7.out.trans x78); have HR8:=zh (hr7.ext x78); have HRL:=zh hrl2; have H8:=zh (zb h7 x78); have HAP:Hid (j8 (.slice (some ⟨og,0,none⟩) on oc) (.slice (some ⟨sg,0,none⟩) 1 1)):=zh (fun g h1 h2=>by
       have e1:og=g:=by injection h1
       have e2:sg=g:=by injection h2
       omega)
      have HBH:=zh (yU.behind _ _ _ kids _ w W8 HR8.out HRL.out HAP.out HS1.out HS2.out HX8.out); clear hr7 h7 hob7 x78 hrl hrl2; go_wp2_with fail; try simp only[hsg,hW8]
      clear hsg hW8; refine HBH.out.mono ?_; rintro e' T1 ⟨v1,rfl,hr,htt,hxt⟩; clear HBH; have h9:=htt.keep H8.out (fun hh=>by
       obtain⟨_,ha,_⟩:=HR8.out
       obtain⟨_,hb,_⟩:=HRL.out
       rcases hh with hh|hh
       ·exact YB ha.own H8.out (by decide) hh
       ·exact YB hb.own H8.out (by decide) hh)
      obtain⟨g1,n1,cc1,rfl,hn1,-,hgb,hgl,-,d4,-,df,-⟩:=hr.open
      dsimp only at d4; have df4:=df 4; have y3:=cr 3 h9; have yl:=za h9; simp at y3
      obtain⟨W9,hW⟩:∃V,T1.setCell ⟨g1,4,none⟩ (.int .i64 (til':Int))=V:=⟨_,rfl⟩
      have HR9:=zh (hr.hi hW); have HX9:Hid (Ext w W9):=zh (by rw[←hW];exact hxt.setCell hgb _); clear hr htt hxt hgb h9 H8 HRL HAP HR8 HX8; go_wp2_with fail; try simp only[hW]
      clear hW d4 df df4 y3 yl hn1 HKB H6 HR6 HX7 HX6 hgl; go_roundg f2
      case measure=>have:=HF2.out;omega
      case rel=>exact⟨til',mx,_,by have:=HGF.out;omega,ht3,HR9,HL3,HX9⟩
theorem zcb {s:ByteArray}{D:vJ}{g:Gm}(hs:s.size≤1000)(H:QL (qZ D g s)):∀f,zil s D g f:=by
 intro f; induction f using Nat.strongRecOn with
 |ind f IH=>
  intro lb A p t w h hA hp ht hsm
  obtain⟨N0,m0,c0,N1,m1,c1,N2,m2,c2,kk,hc⟩:=zhp hs H IH h hA
  have hb:=yk h.acc.1; have hn:=h.hn; exact zdY w lb A s D _ f N0 m0 c0 N1 m1 c1 N2 m2 c2 kk p t hc hs (by omega) hb.1 hp ht hsm
def zhy (w:World)(t:yi)(e:Ending)(w':World):Prop:=∃v,e=.returned (.tuple #[v,.int .i64 0])∧yU w' w.heap.size v t∧Ext w w'
set_option maxRecDepth 100000 in
set_option maxHeartbeats 2000000 in
theorem ziZ (lb:Nat)(D:vJ)(g:Gm)(s:ByteArray)(A p f:Nat)(t:yi)(w:World)(h:jM w lb D g)(hs:s.size≤1000)(H:QL (qZ D g s))(hM:(s.size:Int)≤D.M)(hA:A < D.n)(hp:p≤s.size)(ht:yG (qZ D g s) f (A:Int) p 0 [] p=some t)(hsm:xO t):Calls Tryz.prog 13 #[.pointer (some ⟨lb,0,none⟩),.string s,.int .i64 A,.int .i64 p] w (zhy w t):=by
 have HT:=zh (zcb hs H f lb A p t w h hA hp ht hsm)
 obtain⟨N0,m0,c0,N1,m1,c1,N2,m2,c2,_,_,_,HCL⟩:=vx h
 obtain⟨_,_,_,_,_,k5,_,_,_,_,k10,kl⟩:=HCL w (Ext.refl _)
 have hnn:=h.hn; have q0:decide (D.M < (s.size:Int))=false:=decide_eq_false (by omega); have q1:decide (D.gc.nons≤(A:Int))=false:=decide_eq_false (by omega); have q2:decide ((s.size:Int) < (p:Int))=false:=decide_eq_false (by omega); have q3:decide (s.size < p)=false:=decide_eq_false (by omega); clear h HCL hnn ht hsm H hM; go_in
 go_wp2_with fail; refine HT.out.mono ?_; rintro e' W2 ⟨v,rs,rfl,hr,hsh,hx⟩; have HR:Hid (yU W2 w.heap.size v t):=zh ⟨rs,hr,hsh⟩; have HX:=zh hx; clear hr hsh hx HT; go_wp2_with fail; exact bodyPost_ret (v:=.tuple #[v,.int .i64 0]) (by simp[results,Tryz.results13,go_sem, *]) rfl ⟨v,rfl,HR.out,HX.out⟩
def xJ (L:LxP):Nat→Nat→List yi→List yi
 |0,_,ks=>ks
 |f+1,p,ks=>if(L.tk p).1=-2 then ks++[.node (xt 6 p (L.tk p)) []]else xJ L f (L.tk p).2.2.1.toNat (ks++[.node (xt 5 p (L.tk p)) []])
theorem JE {L:LxP}:∀(f p:Nat) (ks:List yi),∃rs,xJ L f p ks=ks++rs:=by
 intro f; induction f with
 |zero=>intro p ks;exact⟨[],by simp[xJ]⟩
 |succ f ih=>
  intro p ks; unfold xJ; split
  ·exact⟨_,rfl⟩
  ·obtain⟨rs,hr⟩:=ih (L.tk p).2.2.1.toNat (ks++[.node (xt 5 p (L.tk p)) []])
   exact⟨_ ::rs,by rw[hr,List.append_assoc];rfl⟩
theorem zcJ {L:LxP}{n:Nat}(hb:∀p,p≤n→(L.tk p).2.2.1≤n∧((L.tk p).1≠-2→(p:Int) < (L.tk p).2.2.1)):∀(f f' p:Nat) (ks:List yi),p≤n→n+1 - p≤f→n+1 - p≤f'→xJ L f p ks=xJ L f' p ks:=by
 intro f; induction f with
 |zero=>intro f' p ks h1 h2;omega
 |succ f ih=>
  intro f' p ks h1 h2 h3
  obtain⟨f',rfl⟩:∃g,f'=g+1:=⟨f' - 1,by omega⟩
  unfold xJ; split
  ·rfl
  ·rename_i hk
   obtain⟨a,b⟩:=hb p h1
   have:=b hk
   exact ih f' _ _ (by omega) (by omega) (by omega)
def qF (L:LxP)(t0:yi):yi:=.node ⟨-3,1,0,0,L.n,1⟩ (xJ L (L.n+1) t0.d.hi.toNat [t0])
set_option maxRecDepth 100000 in
set_option maxHeartbeats 2000000 in
theorem zhR (lb:Nat)(D:vJ)(g:Gm)(s:ByteArray)(f:Nat)(t0:yi)(w:World)(h:jM w lb D g)(hs:s.size≤1000)(H:QL (qZ D g s))(hM:(s.size:Int)≤D.M)(ht:yG (qZ D g s) f 0 0 0 [] 0=some t0)(hsm:xO (qF (qZ D g s) t0)):Calls Tryz.prog 10 #[.pointer (some ⟨lb,0,none⟩),.string s] w (zhy w (qF (qZ D g s) t0)):=by
 obtain⟨N0,m0,c0,N1,m1,c1,N2,m2,c2,kk,hc⟩:=zhp (A:=0) (f:=0) hs H (fun f' hf=>by omega) h (by have:=(yk h.acc.1).2.1;have:=h.hn;omega)
 have hb:=yk h.acc.1; have hnn:=h.hn; have hp0:xO t0:=by
  obtain⟨rs,hr⟩:=JE (L:=qZ D g s) ((qZ D g s).n+1) t0.d.hi.toNat [t0]
  exact hsm.inK (by unfold qF;simp only[yi.kids];rw[hr];simp)
 obtain⟨hi0,hhi,_,hhn⟩:=((xH H f).1 0 0 0 [] 0 t0 (by omega) (by show(0:Int) < g.nons;rw[←h.gm];show 0 < D.gc.nons;omega) (Nat.zero_le _) (Nat.le_refl _) (fun _ h=>by cases h) ht).1
 obtain⟨L,hL⟩:∃L,qZ D g s=L:=⟨_,rfl⟩
 have hLn:L.n=s.size:=by rw[←hL];rfl
 have HTR:=zh (fun w1 (e:Ext w w1)=>zcb hs H f lb 0 0 t0 w1 (h.ext e) (by omega) (Nat.zero_le _) ht hp0); have HNX:=zh hc.nxt; have HTB:=zh hc.tok; have HCL:=zh hc.cells
 obtain⟨tF,htF⟩:∃t,qF (qZ D g s) t0=t:=⟨_,rfl⟩
 have HTF:Hid (.node ⟨-3,1,0,0,s.size,1⟩ (xJ L (s.size+1) hi0 [t0])=tF):=zh (by rw[←htF,←hLn,←hL];unfold qF;rw[hhi,Int.toNat_natCast])
 rw[htF]at hsm ⊢
 have HSM:=zh hsm; have HP0:=zh hp0; have HHI:=zh hhi; have hi0s:hi0≤s.size:=by rw[←hLn,←hL];exact hhn
 rw[hL]at HNX HTB
 have q0:decide (D.M < (s.size:Int))=false:=decide_eq_false (by omega)
 obtain⟨_,_,_,_,_,_,_,_,_,_,k10,kl⟩:=hc.cells w (Ext.refl _)
 obtain⟨ob,hob⟩:∃b,w.heap.size=b:=⟨_,rfl⟩
 obtain⟨W1,hW1⟩:∃V,w.alloc (.cells #[.int .i64 (-3),.int .i64 1,.int .i64 0,.int .i64 0,.int .i64 s.size,.int .i64 1,zH,.int .u64 0] 54)=V:=⟨_,rfl⟩
 have HR1:Hid (yU W1 w.heap.size (.slice (some ⟨ob,0,none⟩) 1 1) (.node ⟨-3,1,0,0,s.size,1⟩ [])):=zh (by
  refine⟨_,by rw[←hW1,←hob];exact ju w w.heap.size (Nat.le_refl _) (shD ⟨-3,1,0,0,s.size,1⟩ []) rfl,by simp[yH,qq,shs]⟩)
 have HX1:Hid (Ext w W1):=zh (by rw[←hW1];exact xi); have HOB:Hid (ob < W1.heap.size):=zh (by rw[←hW1,←hob];simp); clear h H hM ht hsm hc hb hnn hp0 hhi hhn hL hLn htF; go_in
 go_upto_region 4 with fail; try simp only[hob]
 try simp only[hW1]
 clear hob hW1 k10 kl q0; go_wp2_with fail
 refine(HTR.out W1 HX1.out).mono ?_
 rintro e' W2 ⟨v0,rs0,rfl,hr,hsh,hx2⟩
 obtain⟨d0,ks0⟩:=t0
 have hsub:yU W2 W1.heap.size v0 (.node d0 ks0):=⟨rs0,hr,hsh⟩; have HX2:=zh (HX1.out.trans hx2); have HR2:=zh (HR1.out.ext hx2)
 obtain⟨sg,sn,sc,rfl,hsn,-,hsb,hsl,-,s4,-,-,-⟩:=hsub.open
 have hh:d0.hi=hi0:=HHI.out
 rw[hh]at s4
 have HAP:Hid (j8 (.slice (some ⟨ob,0,none⟩) 1 1) (.slice (some ⟨sg,0,none⟩) sn sc)):=zh (fun g h1 h2=>by
  have e1:ob=g:=by injection h1
  have e2:sg=g:=by injection h2
  have:=HOB.out
  omega)
 have HSR:Hid (xO (.node ⟨-3,1,0,0,s.size,1⟩ [])):=zh (by
  have:=HSM.out
  rw[←HTF.out]at this
  exact(xO.pre (ks:=[]) (by simpa using this)))
 have HBH:=zh (yU.behind _ _ _ [] _ w W2 HR2.out (hsub.base HX1.out.size) HAP.out HSR.out HP0.out HX2.out); clear hr hsh hx2 hsub hh HTR HR1; go_wp2_with fail; refine HBH.out.mono ?_; rintro e' W3 ⟨v1,rfl,hr3,-,hx3⟩
 rw[List.nil_append]at hr3
 have HR3:=zh hr3; have HX3:=zh hx3; clear hr3 hx3 HBH HAP s4 hsl hsb hsn HR2 HX2; go_wp2_with fail; go_loopw [6,8] (fun ov pv wr=>∃(q:Nat) (kids:List yi),pv=.int .i64 q∧q≤s.size∧Hid (yU wr w.heap.size ov (.node ⟨-3,1,0,0,s.size,1⟩ kids))∧Hid (.node ⟨-3,1,0,0,s.size,1⟩ (xJ L (s.size+1) q kids)=tF)∧Hid (Ext w wr)) (fun _ pv _=>s.size+1 - (intOf pv).toNat)
 case atStart=>exact⟨hi0,_,rfl,hi0s,HR3,HTF,HX3⟩
 case round=>
  clear HR3 HX3
  obtain⟨q,kids,rfl,hq,HR,HT,HX⟩:=hrel
  obtain⟨k0,k1,k2,k3,_,_,_,_,_,_,_,kl⟩:=HCL.out wr HX.out
  have hNX:=HNX.out q hq wr HX.out; have hbd:=HTB.out q hq; have HTT:Hid (.node ⟨-3,1,0,0,s.size,1⟩ (if(L.tk q).1=-2 then kids++[.node (xt 6 q (L.tk q)) []]else xJ L s.size (L.tk q).2.2.1.toNat (kids++[.node (xt 5 q (L.tk q)) []]))=tF):=zh HT.out
  obtain⟨uq,huq⟩:∃z,L.tk q=z:=⟨_,rfl⟩
  rw[huq]at hNX hbd HTT
  obtain⟨u0,u1,u2,u3⟩:=uq
  unfold YM at hbd; unfold zaP zbs at hNX; dsimp only at hNX hbd HTT; have HBD:=zh hbd; have HN:=zh hNX; clear hbd hNX huq HT; go_wp2_with fail; refine HN.out.mono ?_; rintro e' W5 ⟨rfl,hx5⟩; clear k0 k1 k2 k3 kl HN
  obtain⟨kb,hkb⟩:∃b,W5.heap.size=b:=⟨_,rfl⟩
  obtain⟨W6a,hW6a⟩:∃W,W5.alloc (.cells #[.int .i64 0,.int .i64 0,.int .i64 0,.int .i64 0,.int .i64 0] 83)=W:=⟨_,rfl⟩
  have hR:W6a.heap[kb]?=some (.cells #[.int .i64 0,.int .i64 0,.int .i64 0,.int .i64 0,.int .i64 0] 83):=by rw[←hW6a,←hkb];exact heap_alloc_new _ _
  obtain⟨W6,hW6⟩:∃W,ZX W6a kb (.int .i64 u0) (.int .i64 q) (.int .i64 u1) (.int .i64 u2) (.int .i64 u3)=W:=⟨_,rfl⟩
  have h3:W6.heap[kb]?=some (.cells #[.int .i64 u0,.int .i64 q,.int .i64 u1,.int .i64 u2,.int .i64 u3] 83):=by rw[←hW6];exact vZ hR _ _ _ _ _
  have X3:Ext W5 W6:=by rw[←hW6];exact(xG (S:=fun k=>k=kb) rfl _ _ _ _ _).ext (show Ext W5 W6a from by rw[←hW6a];exact xi) (fun k hk=>by omega)
  have z0:=cr 0 hR; have z1:=cr 1 hR; have z2:=cr 2 hR; have z3:=cr 3 hR; have z4:=cr 4 hR; have zf:=fun k=>zi hR k; have zl:=za hR; simp at z0 z1 z2 z3 z4
  have H6:=zh h3; have HX6:=zh (HX.out.trans (hx5.trans X3)); have HR6:=zh (HR.out.ext (hx5.trans X3)); unfold ZX yX y8 put2 at hW6; clear hx5 hR X3 h3 HR HX; go_upto_region 8 with fail; try simp only[hkb]
  try simp only[hW6a]
  try simp only[hW6]
  clear hkb hW6a hW6 z0 z1 z2 z3 z4 zf zl; by_cases h2:u0=-2
  ·have e1:(u0==-2)=true:=by simpa using h2
   have HTE:Hid (.node ⟨-3,1,0,0,s.size,1⟩ (kids++[.node (xt 6 q (u0,u1,u2,u3)) []])=tF):=zh (by
    have:=HTT.out
    rw[if_pos h2]at this
    exact this)
   have HS1:Hid (xO (.node ⟨-3,1,0,0,s.size,1⟩ kids)):=zh (by have:=HSM.out;rw[←HTE.out]at this;exact this.pre); have HS2:Hid (xO (.node (xt 6 q (u0,u1,u2,u3)) [])):=zh (by have:=HSM.out;rw[←HTE.out]at this;exact this.kid (by simp)); clear h2 HTT; have HLF:=zh (fun w=>VS 6 q (u0,u1,u2,u3) w); unfold zbs zcl at HLF; dsimp only at HLF; have y0:=cr 0 H6.out; have y1:=cr 1 H6.out; have y2:=cr 2 H6.out; have y3:=cr 3 H6.out; have y4:=cr 4 H6.out; have yl:=za H6.out; simp at y0 y1 y2 y3 y4
   go_wp2_with fail
   refine(HLF.out _).mono ?_
   rintro e' W7 ⟨rfl,hx7⟩; have HX7:=zh (HX6.out.trans hx7); have hrl:=ju W7 w.heap.size HX7.out.size (shD (xt 6 q (u0,u1,u2,u3)) []) rfl; have hr7:=HR6.out.ext hx7; have h7:=zb H6.out hx7; clear hx7 y0 y1 y2 y3 y4 yl HLF
   obtain⟨sg,hsg⟩:∃b,W7.heap.size=b:=⟨_,rfl⟩
   obtain⟨og,on,oc,rfl,-,-,-,hob7,-,-,-,-,-⟩:=hr7.open
   obtain⟨W8,hW8⟩:∃V,W7.alloc (.cells #[.int .i64 u0,.int .i64 6,.int .i64 q,.int .i64 u1,.int .i64 u2,.int .i64 u3,zH,.int .u64 0] 54)=V:=⟨_,rfl⟩
   have x78:Ext W7 W8:=by rw[←hW8];exact xi
   have hrl2:yU W8 w.heap.size (.slice (some ⟨sg,0,none⟩) 1 1) (.node (xt 6 q (u0,u1,u2,u3)) []):=⟨_,by rw[←hW8,←hsg];exact hrl,by simp[yH,qq,shs]⟩; have HX8:=zh (HX7.out.trans x78); have HR8:=zh (hr7.ext x78); have HRL:=zh hrl2; have H8:=zh (zb h7 x78); have HAP:Hid (j8 (.slice (some ⟨og,0,none⟩) on oc) (.slice (some ⟨sg,0,none⟩) 1 1)):=zh (fun g h1 h2=>by
    have e1:og=g:=by injection h1
    have e2:sg=g:=by injection h2
    omega)
   have HBH:=zh (yU.behind _ _ _ kids _ w W8 HR8.out HRL.out HAP.out HS1.out HS2.out HX8.out); clear hr7 h7 hob7 x78 hrl hrl2; go_wp2_with fail; try simp only[hsg,hW8]
   clear hsg hW8; refine HBH.out.mono ?_; rintro e' T1 ⟨v1,rfl,hr,htt,hxt⟩; clear HBH
   rw[HTE.out]at hr
   have HR9:=zh hr; have HX9:=zh hxt; clear hr hxt htt H8 HRL HAP HR8 HX8; go_wp2_with fail; exact bodyPost_ret (v:=.tuple #[v1,.int .i64 0]) (by simp[results,Tryz.results10,go_sem, *]) rfl ⟨v1,rfl,HR9.out,HX9.out⟩
  ·have e1:(u0==-2)=false:=by simpa using h2
   obtain⟨til',ht'⟩:∃n:Nat,u2=n:=⟨u2.toNat,by have:=HBD.out;omega⟩
   have HT':=zh ht'; have hlt:q < til'∧til'≤s.size:=by have:=HBD.out;have:=this.2.2.2.2.2.2.2 h2;omega
   have HLT:=zh hlt; have HTE:Hid (.node ⟨-3,1,0,0,s.size,1⟩ (xJ L (s.size+1) til' (kids++[.node (xt 5 q (u0,u1,u2,u3)) []]))=tF):=zh (by
    have:=HTT.out
    rw[if_neg h2,ht',Int.toNat_natCast]at this
    rw[ht',←this,zcJ (L:=L) (n:=s.size) (fun p hp=>by
     have:=HTB.out p hp
     unfold YM at this
     exact⟨this.2.2.2.2.1,this.2.2.2.2.2.2.2⟩) (s.size+1) s.size til' _ (by omega) (by omega) (by omega)])
   obtain⟨rs,hrs⟩:=JE (L:=L) (s.size+1) til' (kids++[.node (xt 5 q (u0,u1,u2,u3)) []])
   have HS1:Hid (xO (.node ⟨-3,1,0,0,s.size,1⟩ kids)):=zh (by have:=HSM.out;rw[←HTE.out,hrs,List.append_assoc]at this;exact this.pre); have HS2:Hid (xO (.node (xt 5 q (u0,u1,u2,u3)) [])):=zh (by have:=HSM.out;rw[←HTE.out,hrs]at this;exact this.kid (by simp)); clear h2 HTT ht' hlt hrs; have HLF:=zh (fun w=>VS 5 q (u0,u1,u2,u3) w); unfold zbs zcl at HLF; dsimp only at HLF; have y0:=cr 0 H6.out; have y1:=cr 1 H6.out; have y2:=cr 2 H6.out; have y3:=cr 3 H6.out; have y4:=cr 4 H6.out; have yl:=za H6.out; simp at y0 y1 y2 y3 y4
   go_wp2_with fail
   refine(HLF.out _).mono ?_
   rintro e' W7 ⟨rfl,hx7⟩; have HX7:=zh (HX6.out.trans hx7); have hrl:=ju W7 w.heap.size HX7.out.size (shD (xt 5 q (u0,u1,u2,u3)) []) rfl; have hr7:=HR6.out.ext hx7; have h7:=zb H6.out hx7; clear hx7 y0 y1 y2 y3 y4 yl HLF
   obtain⟨sg,hsg⟩:∃b,W7.heap.size=b:=⟨_,rfl⟩
   obtain⟨og,on,oc,rfl,-,-,-,hob7,-,-,-,-,-⟩:=hr7.open
   obtain⟨W8,hW8⟩:∃V,W7.alloc (.cells #[.int .i64 u0,.int .i64 5,.int .i64 q,.int .i64 u1,.int .i64 u2,.int .i64 u3,zH,.int .u64 0] 54)=V:=⟨_,rfl⟩
   have x78:Ext W7 W8:=by rw[←hW8];exact xi
   have hrl2:yU W8 w.heap.size (.slice (some ⟨sg,0,none⟩) 1 1) (.node (xt 5 q (u0,u1,u2,u3)) []):=⟨_,by rw[←hW8,←hsg];exact hrl,by simp[yH,qq,shs]⟩; have HX8:=zh (HX7.out.trans x78); have HR8:=zh (hr7.ext x78); have HRL:=zh hrl2; have H8:=zh (zb h7 x78); have HAP:Hid (j8 (.slice (some ⟨og,0,none⟩) on oc) (.slice (some ⟨sg,0,none⟩) 1 1)):=zh (fun g h1 h2=>by
    have e1:og=g:=by injection h1
    have e2:sg=g:=by injection h2
    omega)
   have HBH:=zh (yU.behind _ _ _ kids _ w W8 HR8.out HRL.out HAP.out HS1.out HS2.out HX8.out); clear hr7 h7 hob7 x78 hrl hrl2; go_wp2_with fail; try simp only[hsg,hW8]
   clear hsg hW8; refine HBH.out.mono ?_; rintro e' T1 ⟨v1,rfl,hr,htt,hxt⟩; clear HBH; have h9:=htt.keep H8.out (fun hh=>by
    obtain⟨_,ha,_⟩:=HR8.out
    obtain⟨_,hb,_⟩:=HRL.out
    rcases hh with hh|hh
    ·exact YB ha.own H8.out (by decide) hh
    ·exact YB hb.own H8.out (by decide) hh)
   have y3:=cr 3 h9; have yl:=za h9; simp at y3
   have HR9:=zh hr; have HX9:=zh hxt; clear hr hxt htt H8 HRL HAP HR8 HX8 h9
   rw[HT'.out]at y3
   go_wp2_with fail; go_roundw
   case rel=>exact⟨til',_,rfl,HLT.out.2,HR9,HTE,HX9⟩
   case measure=>have:=HLT.out;simp[intOf];omega
def zhH (rs:List Rul):Prop:=(∀r∈rs,r.text.size≤24)∧rs.length≤6
def zaJ (g:Gr):Prop:=yY g=0→g.nons≤6∧∀p∈g.prods,p.right.length≤5
def zkg (w:World)(P:Prop)(e:Ending)(w':World):Prop:=∃b,e=.returned (.bool b)∧(b=true→P)∧Ext w w'
set_option maxRecDepth 100000 in
set_option maxHeartbeats 2000000 in
theorem QY (v:Value)(rs:List Rul)(w:World)(h:zfD w v rs)(hl:rs.length≤9223372036854775807):Calls Tryz.prog 6 #[v] w (zkg w (zhH rs)):=by
 obtain⟨RA,rc,rfl,hr0⟩:=h
 have HR:=zh hr0
 obtain⟨n,hn⟩:∃n,rs.length=n:=⟨_,rfl⟩
 have HN:=zh hn
 rw[hn]at HR hl ⊢
 clear hr0 hn; go_in
 go_wp2_with fail; go_loopw [3] (fun iv wr=>∃i:Nat,iv=.int .i64 i∧i≤n∧Hid (∀(j:Nat) (r:Rul),j < i→rs[j]?=some r→r.text.size≤24)∧Hid (Ext w wr)) (fun iv _=>n - (intOf iv).toNat)
 case atStart=>exact⟨0,rfl,Nat.zero_le _,zh (fun j r h=>by omega),zh xi⟩
 case round=>
  obtain⟨i,rfl,hi,HT,HX⟩:=hrel
  by_cases hlt:i < n
  ·obtain⟨r,hr⟩:∃r,rs[i]?=some r:=⟨_,List.getElem?_eq_getElem (by have:=HN.out;omega)⟩
   obtain⟨g,off,hA,hg,hc⟩:=HR.out (by omega)
   obtain⟨c0,c1,_⟩:=hc i r hr
   have c0:=zy c0 hg HX.out; have c1:=zy c1 hg HX.out; have hg:=Nat.lt_of_lt_of_le hg HX.out.size; have HRI:=zh hr; subst hA; clear hc hr HR; by_cases l1:24 < r.text.size
   ·have q1:decide ((24:Int) < (r.text.size:Int))=true:=decide_eq_true (by omega); go_wp2_with fail; go_ret
    exact⟨false,rfl,(fun h=>by cases h),HX.out.trans xi⟩
   ·have q1:decide ((24:Int) < (r.text.size:Int))=false:=decide_eq_false (by omega); have HNX:Hid (∀(j:Nat) (r:Rul),j < i+1→rs[j]?=some r→r.text.size≤24):=zh (fun j r' hj hr'=>by
     by_cases hji:j=i
     ·subst hji
      rw[HRI.out]at hr'
      injection hr' with hr'; subst hr'; omega
     ·exact HT.out j r' (by omega) hr')
    by_cases l2:24 < r.name.size
    ·have q2:decide ((24:Int) < (r.name.size:Int))=true:=decide_eq_true (by omega); go_wp2_with fail; go_ret
     exact⟨false,rfl,(fun h=>by cases h),HX.out.trans xi⟩
    ·have q2:decide ((24:Int) < (r.name.size:Int))=false:=decide_eq_false (by omega); go_wp2_with fail; go_roundw
     case rel=>exact⟨i+1,by go_num,by omega,HNX,zh (HX.out.trans xi)⟩
     case measure=>simp[intOf];omega
  ·obtain rfl:i=n:=by omega
   by_cases l1:i≤6
   ·have q1:decide ((i:Int)≤6)=true:=decide_eq_true (by omega); have HB:Hid (zhH rs):=zh ⟨fun r hr=>by
     obtain⟨j,hj⟩:=List.mem_iff_getElem?.1 hr
     exact HT.out j r (by have:=(List.getElem?_eq_some_iff.1 hj).1;have:=HN.out;omega) hj,by rw[HN.out];exact l1⟩
    go_wp2_with fail; go_ret
    exact⟨true,rfl,fun _=>HB.out,HX.out.trans xi⟩
   ·have q1:decide ((i:Int)≤6)=false:=decide_eq_false (by omega); go_wp2_with fail; go_ret
    exact⟨false,rfl,(fun h=>by cases h),HX.out.trans xi⟩
set_option maxRecDepth 100000 in
set_option maxHeartbeats 2000000 in
theorem zaQ (g:Gr)(w:World)(h:jC w g):Calls Tryz.prog 7 #[grV g] w (zkg w (zaJ g)):=by
 have H:=zh h; unfold grV; clear h; by_cases c0:100 < g.prods.length
 ·have q0:decide ((100:Int) < (g.prods.length:Int))=true:=decide_eq_true (by omega); go_in
  go_wp2_with fail; go_ret
  exact⟨false,rfl,fun h=>(by cases h),xi⟩
 have q0:decide ((100:Int) < (g.prods.length:Int))=false:=decide_eq_false (by omega)
 obtain⟨b1,hb1⟩:∃b1,w.heap.size=b1:=⟨_,rfl⟩
 obtain⟨W1,hW1⟩:∃W1,w.alloc (.cells #[.int .i64 g.terms,.int .i64 g.nons,.int .i64 g.k,.slice g.pA g.prods.length g.pc] 25)=W1:=⟨_,rfl⟩
 have X1:Hid (Ext w W1):=zh (by rw[←hW1];exact xi); have GA:Hid (Y8 W1 b1 g):=zh (Y8.of (by rw[←hW1,←hb1];exact heap_alloc_new _ _)); go_in
 go_upto_region 1 with fail; clear hW1 hb1
 obtain⟨e0,e1,e2,e3,el⟩:=GA.out
 go_wp2_with fail; clear e0 e1 e2 e3 el; go_loopw [3] (fun v wi=>∃i:Nat,i≤g.prods.length∧v=.int .i64 i∧Hid (∀(j:Nat) (p:Prd),j < i→g.prods[j]?=some p→p.right.length≤5∨8 < p.right.length)∧Hid (Ext W1 wi)) (fun v _=>g.prods.length - (intOf v).toNat)
 case atStart=>exact⟨0,by omega,rfl,zh (fun j p h=>by omega),zh xi⟩
 case round=>
  obtain⟨i,hi,rfl,HJ,hx⟩:=hrel
  have HX:=zh hx.out
  obtain⟨e0,e1,e2,e3,el⟩:=GA.out.ext hx.out
  by_cases hlt:i < g.prods.length
  ·obtain⟨p,hp⟩:∃p,g.prods[i]?=some p:=⟨_,List.getElem?_eq_getElem hlt⟩
   obtain⟨b,off,hA,hb,hcell⟩:=(H.out.ext (X1.out.trans hx.out)).prods (by omega)
   obtain⟨d0,d1⟩:=hcell i p hp
   rw[hA]at e3
   have HPI:=zh hp; clear hcell hp hx hA; have HNX:Hid (p.right.length≤5∨8 < p.right.length→∀(j:Nat) (p:Prd),j < i+1→g.prods[j]?=some p→p.right.length≤5∨8 < p.right.length):=zh (fun hh j p' hj hp'=>by
    by_cases hji:j=i
    ·subst hji
     rw[HPI.out]at hp'
     injection hp' with hp'; subst hp'; exact hh
    ·exact HJ.out j p' (by omega) hp')
   by_cases l1:5 < p.right.length
   ·have q1:decide ((5:Int) < (p.right.length:Int))=true:=decide_eq_true (by omega); by_cases l2:p.right.length≤8
    ·have q2:decide ((p.right.length:Int)≤8)=true:=decide_eq_true (by omega); go_wp2_with fail; go_ret
     exact⟨false,rfl,fun h=>(by cases h),(X1.out.trans HX.out).trans xi⟩
    ·have q2:decide ((p.right.length:Int)≤8)=false:=decide_eq_false (by omega); have HN2:=zh (HNX.out (.inr (by omega))); by_cases l3:100 < p.right.length
     ·have q3:decide ((100:Int) < (p.right.length:Int))=true:=decide_eq_true (by omega); go_wp2_with fail; go_ret
      exact⟨false,rfl,fun h=>(by cases h),(X1.out.trans HX.out).trans xi⟩
     ·have q3:decide ((100:Int) < (p.right.length:Int))=false:=decide_eq_false (by omega); go_wp2_with fail; go_roundw
      case rel=>exact⟨i+1,by omega,by go_num,HN2,zh (HX.out.trans xi)⟩
      case measure=>simp[intOf];omega
   ·have q1:decide ((5:Int) < (p.right.length:Int))=false:=decide_eq_false (by omega); have q3:decide ((100:Int) < (p.right.length:Int))=false:=decide_eq_false (by omega); have HN2:=zh (HNX.out (.inl (by omega))); go_wp2_with fail; go_roundw
    case rel=>exact⟨i+1,by omega,by go_num,HN2,zh (HX.out.trans xi)⟩
    case measure=>simp[intOf];omega
  ·obtain rfl:i=g.prods.length:=by omega
   clear hx; have HFI:Hid (g.nons≤6→zaJ g):=zh (fun h6 h0=>⟨h6,fun p hp=>by
    obtain⟨j,hj⟩:=List.mem_iff_getElem?.1 hp
    have h8:=(je h0 hj).len
    have:=HJ.out j p (List.getElem?_eq_some_iff.1 hj).1 hj
    omega⟩)
   have HBI:Hid (8 < g.terms∨16 < g.nons∨3 < g.k∨64 < g.prods.length→zaJ g):=zh (fun hb h0=>by
    have:=yk h0
    omega)
   by_cases b1:8 < g.terms
   ·have r1:decide (8 < g.terms)=true:=decide_eq_true (by omega); have HBG:=zh (HBI.out (by omega)); go_wp2_with fail; go_ret
    exact⟨true,rfl,fun _=>HBG.out,(X1.out.trans HX.out).trans xi⟩
   have r1:decide (8 < g.terms)=false:=decide_eq_false (by omega); by_cases b2:16 < g.nons
   ·have r2:decide (16 < g.nons)=true:=decide_eq_true (by omega); have HBG:=zh (HBI.out (by omega)); go_wp2_with fail; go_ret
    exact⟨true,rfl,fun _=>HBG.out,(X1.out.trans HX.out).trans xi⟩
   have r2:decide (16 < g.nons)=false:=decide_eq_false (by omega); by_cases b3:3 < g.k
   ·have r3:decide (3 < g.k)=true:=decide_eq_true (by omega); have HBG:=zh (HBI.out (by omega)); go_wp2_with fail; go_ret
    exact⟨true,rfl,fun _=>HBG.out,(X1.out.trans HX.out).trans xi⟩
   have r3:decide (3 < g.k)=false:=decide_eq_false (by omega); by_cases b4:64 < g.prods.length
   ·have r4:decide ((64:Int) < (g.prods.length:Int))=true:=decide_eq_true (by omega); have HBG:=zh (HBI.out (by omega)); go_wp2_with fail; go_ret
    exact⟨true,rfl,fun _=>HBG.out,(X1.out.trans HX.out).trans xi⟩
   have r4:decide ((64:Int) < (g.prods.length:Int))=false:=decide_eq_false (by omega); by_cases b5:g.terms≤4
   ·have r5:decide (g.terms≤4)=true:=decide_eq_true b5; by_cases b6:g.nons≤6
    ·have r6:decide (g.nons≤6)=true:=decide_eq_true b6; have HBG:=zh (HFI.out b6)
     obtain⟨d1,hd1⟩:∃d,decide ((g.prods.length:Int)≤14)=d:=⟨_,rfl⟩
     obtain⟨d2,hd2⟩:∃d,decide (g.k≤2)=d:=⟨_,rfl⟩
     obtain⟨d3,hd3⟩:∃d,decide (g.terms≤3)=d:=⟨_,rfl⟩
     cases d1<;>cases d2<;>cases d3
     all_goals go_wp2_with fail
     all_goals go_ret
     all_goals exact⟨_,rfl,fun _=>HBG.out,(X1.out.trans HX.out).trans xi⟩
    ·have r6:decide (g.nons≤6)=false:=decide_eq_false b6; go_wp2_with fail; go_ret
     exact⟨false,rfl,fun h=>(by cases h),(X1.out.trans HX.out).trans xi⟩
   ·have r5:decide (g.terms≤4)=false:=decide_eq_false b5; go_wp2_with fail; go_ret
    exact⟨false,rfl,fun h=>(by cases h),(X1.out.trans HX.out).trans xi⟩
end Go.Proofs.YtmbelmngniddjaaGreat
