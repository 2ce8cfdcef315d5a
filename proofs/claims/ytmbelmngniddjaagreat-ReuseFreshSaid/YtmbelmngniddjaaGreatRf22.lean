/- Rf: texts that the proof rests on, part 22. -/
import Derived.Test.YtmbelmngniddjaaGreatRf21
namespace Go.Proofs.YtmbelmngniddjaaGreat
open Go.RowKit
attribute [local go_sem] zF zB zI zJ zw zt zN zD zX zQ zK zP zO zL zT zR zS zG zM zC
theorem Yy {w:World}{base g n c k:Nat}{qs:List Prt}{u:Value}{A:Option Addr}{kc:Nat}{xs:List Int}(hk:vr w base A kc xs)(hr:w.ownsRow base 54 8 (.slice (some ⟨g,0,none⟩) n c) n (pv qs)):vr (w.setCell ⟨g,k,none⟩ u) base A kc xs:=
 QD hk hr fun b hb hne=>by
  have:b≠g:=fun h=>hne (by rw[h];rfl)
  simp[World.setCell,Array.getElem?_modify,Ne.symm this]
theorem Zp.put {w:World}{base c g:Nat}{qs:List Prt}(h:Zp w base (some ⟨g,0,none⟩) c qs){i:Nat}{q q':Prt}{r:Nat}{u:Value}(hi:qs[i]?=some q)(hr:r < 8)(hc:yh q'=(yh q).set r u)
 (hk:q'.kA=q.kA∧q'.kc=q.kc∧q'.nd.kids=q.nd.kids) (hf:VQ q'):Zp (w.setCell ⟨g,i*8+r,none⟩ u) base (some ⟨g,0,none⟩) c (qs.set i q'):=by
 refine⟨by rw[List.length_set];exact zdC h.row hi hr hc,fun x hx=>?_,fun x hx=>?_⟩
 ·rcases List.mem_or_eq_of_mem_set hx with hx|rfl
  ·exact Yy (h.kids x hx) h.row
  ·rw[hk.1,hk.2.1,hk.2.2]
   exact Yy (h.kids q (List.mem_of_getElem? hi)) h.row
 ·rcases List.mem_or_eq_of_mem_set hx with hx|rfl
  ·exact h.fine x hx
  ·exact hf
structure zdW (w:World)(b k:Nat)(p:Prt):Prop where
 sym:w.cell? ⟨b,k,none⟩=some (.int .i64 p.nd.sym)
 kind:w.cell? ⟨b,k+1,none⟩=some (.int .i64 p.nd.kind)
 lo:w.cell? ⟨b,k+2,none⟩=some (.int .i64 p.nd.lo)
 inn:w.cell? ⟨b,k+3,none⟩=some (.int .i64 p.nd.inn)
 hi:w.cell? ⟨b,k+4,none⟩=some (.int .i64 p.nd.hi)
 look:w.cell? ⟨b,k+5,none⟩=some (.int .i64 p.nd.look)
 kids:w.cell? ⟨b,k+6,none⟩=some (.slice p.kA p.nd.kids.length p.kc)
 met:w.cell? ⟨b,k+7,none⟩=some (.int .u64 p.nd.met)
 lt:b < w.heap.size
 frozen:∀j,w.frozen? ⟨b,j,none⟩=false
theorem Zp.at {w:World}{base c g:Nat}{qs:List Prt}(h:Zp w base (some ⟨g,0,none⟩) c qs){i:Nat}{q:Prt}(hi:qs[i]?=some q):zdW w g (i*8) q:=by
 obtain⟨b,off,he,hb,hc⟩:=h.cells.1 (by have:=(List.getElem?_eq_some_iff.1 hi).1;omega)
 injection he with he; injection he with he1 he2; subst he1 he2
 obtain⟨d0,d1,d2,d3,d4,d5,d6,d7⟩:=hc i q hi
 rw[Nat.zero_add]at d0 d1 d2 d3 d4 d5 d6 d7
 exact⟨d0,d1,d2,d3,d4,d5,d6,d7,hb,fun j=>World.ownsRow.frozenAt h.row j⟩
end Go.Proofs.YtmbelmngniddjaaGreat
namespace Go.Proofs.YtmbelmngniddjaaGreat
end Go.Proofs.YtmbelmngniddjaaGreat
namespace Go.Proofs.YtmbelmngniddjaaGreat
open Go.RowKit
def Low (n:Nat)(W:World)(Φ:World→Prop):Prop:=∃U,U.heap.size=n∧Below n U W∧Φ U
theorem Low.below {n:Nat}{W W':World}{Φ:World→Prop}(h:Low n W Φ)(e:Below n W W'):Low n W' Φ:=by
 obtain⟨U,h1,h2,h3⟩:=h
 exact⟨U,h1,h2.trans e,h3⟩
theorem Low.imp {n:Nat}{W:World}{Φ Φ':World→Prop}(h:Low n W Φ)(f:∀U,Φ U→Φ' U):Low n W Φ':=by
 obtain⟨U,h1,h2,h3⟩:=h
 exact⟨U,h1,h2,f U h3⟩
theorem Low.size {n:Nat}{W:World}{Φ:World→Prop}(h:Low n W Φ):n≤W.heap.size:=by
 obtain⟨U,h1,h2,h3⟩:=h
 have:=h2.size
 omega
theorem Low.up {n:Nat}{W:World}{Φ:World→Prop}(h:Low n W Φ)(f:∀U,Φ U→Below U.heap.size U W→Φ W):Φ W:=by
 obtain⟨U,h1,h2,h3⟩:=h
 exact f U h3 (h1.symm▸h2)
theorem zeR {n:Nat}{A B:World}(h:Below n A B)(p:Addr)(u:Value):Below n (A.setCell p u) (B.setCell p u):=by
 refine⟨h.os,h.tape,h.output,by have:=h.size;simpa[World.setCell]using this,fun k hk=>?_⟩
 have:=h.block k hk
 simp only[World.setCell,Array.getElem?_modify]
 rw[this]
theorem Low.store {n:Nat}{W:World}{Φ Φ':World→Prop}(h:Low n W Φ){p:Addr}{u:Value}(f:∀U,Φ U→Φ' (U.setCell p u)):Low n (W.setCell p u) Φ':=by
 obtain⟨U,h1,h2,h3⟩:=h
 exact⟨U.setCell p u,by simpa[World.setCell]using h1,zeR h2 p u,f U h3⟩
theorem vr.below {w w':World}{base:Nat}{A:Option Addr}{c:Nat}{xs:List Int}(h:vr w base A c xs)(e:Below w.heap.size w w'):vr w' base A c xs:=ye h fun g hg=>e.block g (z8 h g hg)
theorem qk {W:World}{m:Nat}{p:Prt}(h:W.heap[m]?=some (.cells (yh p).toArray 54)):m < W.heap.size∧W.cell? ⟨m,0,none⟩=some (.int .i64 p.nd.sym)∧W.cell? ⟨m,1,none⟩=some (.int .i64 p.nd.kind)∧W.cell? ⟨m,2,none⟩=some (.int .i64 p.nd.lo)∧
 W.cell? ⟨m,3,none⟩=some (.int .i64 p.nd.inn)∧W.cell? ⟨m,4,none⟩=some (.int .i64 p.nd.hi)∧W.cell? ⟨m,5,none⟩=some (.int .i64 p.nd.look)∧W.cell? ⟨m,6,none⟩=some (.slice p.kA p.nd.kids.length p.kc)∧W.cell? ⟨m,7,none⟩=some (.int .u64 p.nd.met):=
 ⟨za h,cr 0 h,cr 1 h,cr 2 h,cr 3 h,cr 4 h,cr 5 h,cr 6 h,cr 7 h⟩
end Go.Proofs.YtmbelmngniddjaaGreat
namespace Go.Proofs.YtmbelmngniddjaaGreat
open Go.RowKit
attribute [local go_sem] zF zB zI zJ zw zt zN zD zX zQ zK zP zO zL zT zR zS zG zM zC
attribute [local go_sem] Oper.semAt_some
def zjT (x:Nat×Prt):Array Value:=#[.int .i64 (x.1:Int),zf5 x.2]
def zaM (ps:List Prt):List (Nat×Prt):=(ps.mapIdx fun i p=>(i,p)).reverse
theorem vT (ps:List Prt):(zaM ps).length=ps.length:=by simp[zaM]
theorem zbA {ps:List Prt}{j:Nat}{p:Prt}(hj:j < ps.length)(hp:ps[ps.length - 1 - j]?=some p):(zaM ps)[j]?=some (ps.length - 1 - j,p):=by
 unfold zaM
 rw[List.getElem?_reverse (by simpa using hj),List.length_mapIdx,List.getElem?_mapIdx,hp]
 rfl
theorem zdZ {ps:List Prt}{j:Nat}{x:Nat×Prt}(h:(zaM ps)[j]?=some x):j < ps.length∧x.1=ps.length - 1 - j∧ps[x.1]?=some x.2:=by
 have hj:j < ps.length:=by have:=(List.getElem?_eq_some_iff.1 h).1;rwa[vT]at this
 obtain⟨p,hp⟩:∃p,ps[ps.length - 1 - j]?=some p:=⟨_,List.getElem?_eq_getElem (by omega)⟩
 rw[zbA hj hp]at h
 injection h with h; subst h
 exact⟨hj,rfl,hp⟩
theorem zdu (A:Option Addr)(n c:Nat)(w:World):
 Calls Tryz.prog 101 #[.slice A n c] w fun e w'=>e=.returned (.func (.func 126) #[] #[pt w.heap.size])∧w'=w.alloc (.cells #[.slice A n c] 45):=by
 go_in
 go_wp2_with fail; go_ret
 exact⟨rfl,rfl⟩
set_option maxRecDepth 100000 in
set_option maxHeartbeats 3000000 in
theorem ze5 (A:Option Addr)(c:Nat)(ps:List Prt)(w0 w1:World)(fb:Nat)(S:Nat→Prop)(hP:j4 w0 A ps)(hlen:ps.length≤1000000)(_:ps.length≤c)(_:c≤9223372036854775807)
 (h0:Below w0.heap.size w0 w1) (hfb:w1.heap[fb]?=some (.cells #[.slice A ps.length c] 45)) (hfS:¬S fb) (hfree:∀b,b < w0.heap.size→¬S b):
 zib Tryz.prog 126 #[pt fb] zjT (zaM ps) S w1:=by
 intro l J Jx hJ hJx hY hJ0; have HP:=zh hP; have HFR:=zh hfree; have HFS:=zh hfS; have HY:=zh (fun(j:Nat) (p:Prt) (W:World) (hj:j < ps.length) (hp:ps[ps.length - 1 - j]?=some p) hB hJj=>hY j _ W (zbA hj hp) hB hJj); have HJ:=zh hJ; have S0:Hid (Below w0.heap.size w0 w1∧w1.heap[fb]?=some (.cells #[.slice A ps.length c] 45)∧w1.heap.size≤w1.heap.size∧J 0 w1):=zh ⟨h0,hfb,Nat.le_refl _,hJ0⟩; have c0:=cr 0 hfb; simp at c0
 have l0:=za hfb; have b1:wrap64 ((ps.length:Int) - 1)=(ps.length:Int) - 1:=IntWalk.wrap64_in _ (by omega); have HW1:=zh h0.size; clear hP hfree hfS hY hJ hJx hJ0 h0 hfb; simp only[List.append_toArray,List.cons_append,List.nil_append]
 go_in
 go_wp2_with fail; clear c0 l0 b1; go_loopg [3] ps.length (fun g i wr=>∃j:Nat,j≤ps.length∧Hid (g=ps.length - j)∧i=.int .i64 ((ps.length:Int) - 1 - (j:Int))∧Hid (Below w0.heap.size w0 wr∧wr.heap[fb]?=some (.cells #[.slice A ps.length c] 45)∧w1.heap.size≤wr.heap.size∧J j wr))
 case atStart=>exact⟨0,Nat.zero_le _,zh rfl,by congr 1;omega,S0⟩
 case round=>
  obtain⟨j,hj,hg,rfl,hs⟩:=hrel
  by_cases hlt:j < ps.length
  ·obtain⟨p,hp⟩:∃p,ps[ps.length - 1 - j]?=some p:=⟨_,List.getElem?_eq_getElem (by omega)⟩
   obtain⟨k,hk⟩:∃k,ps.length - 1 - j=k:=⟨_,rfl⟩
   have hki:((ps.length:Int) - 1 - (j:Int))=(k:Int):=by omega
   have hkl:k < ps.length:=by omega
   rw[hki]
   have hY:=HY.out j p wr hlt hp hs.out.2.2.1 hs.out.2.2.2
   rw[hk]at hp hY
   obtain⟨s1,s2,s3,s4⟩:=hs.out
   obtain⟨b,off,rfl,hb,hcell⟩:=(HP.out.below s1) (by omega)
   obtain⟨d0,d1,d2,d3,d4,d5,d6,d7⟩:=hcell k p hp
   have c0:=cr 0 s2; simp at c0
   have l0:=za s2
   obtain⟨fn,tmps,assign,body,hy,hRound⟩:=hY
   unfold zjT at hy; have HR:=zh hRound; have S2:=zh s2; have S1:=zh s1; have S3:=zh s3; clear hRound s1 s2 s3 s4 hcell hp; go_upto_region 3 with fail
   refine(wpIn_wide (n:=1)).1 ?_
   gi_wp2
   refine HR.out.mono ?_; rintro e w8 (⟨rfl,hJ8,t8⟩|⟨rfl,hJ8,t8⟩)
   ·have n1:=S1.out.trans (t8.below S1.out.size fun k hk=>Nat.le_of_not_lt fun h=>HFR.out k h hk.1); have n2:=(t8.block _ l0 (fun hk=>HFS.out hk.1)).trans S2.out; have n3:=Nat.le_trans S3.out t8.size; have N8:Hid (Below w0.heap.size w0 w8∧w8.heap[fb]?=some (.cells #[.slice (some ⟨b,off,none⟩) ps.length c] 45)∧w1.heap.size≤w8.heap.size∧J (j+1) w8):=zh ⟨n1,n2,n3,hJ8⟩; have b1:wrap64 ((k:Int) - 1)=(ps.length:Int) - 1 - ((j+1:Nat):Int):=by
     rw[show((k:Int) - 1)=(ps.length:Int) - 1 - ((j+1:Nat):Int)by omega]
     exact IntWalk.wrap64_in _ (by omega)
    clear n1 n2 n3 t8 hJ8 hs
    gi_wp2
    go_wp2_with fail; go_roundg (ps.length - (j+1))
    case rel=>exact⟨j+1,by omega,zh rfl,by first|exact congrArg (Value.int .i64) b1|(congr 1;omega),N8⟩
    case measure=>have:=hg.out;omega
   ·have n3:=Nat.le_trans S3.out t8.size; clear t8 hs
    gi_wp2
    go_wp2_with fail; refine bodyPost_ret (results_none rfl _ _ _) rfl ?_
    exact⟨⟨_,rfl⟩,n3,.inr ⟨j+1,by rw[vT];omega,hJ8⟩⟩
  ·obtain rfl:j=ps.length:=by omega
   have hki:((ps.length:Int) - 1 - (ps.length:Int))=-1:=by omega
   rw[hki]
   go_wp2_with fail; go_end0
   exact⟨⟨_,rfl⟩,hs.out.2.2.1,.inl (by rw[vT];exact hs.out.2.2.2)⟩
end Go.Proofs.YtmbelmngniddjaaGreat
namespace Go.Proofs.YtmbelmngniddjaaGreat
open Go.RowKit
attribute [local go_sem] zF zB zI zJ zw zt zN zD zX zQ zK zP zO zL zT zR zS zG zM zC
attribute [local go_sem] Oper.semAt_some
theorem zfc (x y:Int):bits .or .u64 x y=((BitVec.ofInt 64 x|||BitVec.ofInt 64 y).toNat:Int):=by
 show IntKind.u64.wrap _=_; have h:=(BitVec.ofInt 64 x|||BitVec.ofInt 64 y).isLt; exact IntWalk.u64_in _ ⟨Int.natCast_nonneg _,by have:(2:Nat)^64=18446744073709551616:=rfl;show(((BitVec.ofInt 64 x|||BitVec.ofInt 64 y).toNat:Nat):Int)≤_;omega⟩
theorem zfW (bit m:Int):0≤bits .or .u64 m bit∧bits .or .u64 m bit≤18446744073709551615:=by
 rw[zfc]
 have h:=(BitVec.ofInt 64 m|||BitVec.ofInt 64 bit).isLt
 have:(2:Nat)^64=18446744073709551616:=rfl
 omega
def qJ (bit:Int)(m:Int):Int:=bits .or .u64 m bit
theorem zcU {l:List Nd}{ks:List Int}{k:Nat}{x:Int}(h:ks[k]?=some x):xY l (ks.take (k+1))=max (xY l (ks.take k)) (Js l x):=by
 obtain⟨hl,hx⟩:=List.getElem?_eq_some_iff.1 h
 unfold xY
 rw[List.take_succ_eq_append_getElem hl,List.foldl_append,hx]
 rfl
end Go.Proofs.YtmbelmngniddjaaGreat
namespace Go.Proofs.YtmbelmngniddjaaGreat
open Go.RowKit
attribute [local go_sem] zF zB zI zJ zw zt zN zD zX zQ zK zP zO zL zT zR zS zG zM zC
attribute [local go_sem] Oper.semAt_some
structure vX (l:List Nd)(k:Nat)(bs:List Bool):Prop where
 len:bs.length=l.length
 behind:∀(j:Nat) (p:Nd),l[j]?=some p→k≤j→bs[j]?=some (decide (p.met≠0)||p.kids.any fun x=>(bs[x.toNat]?).getD false)
theorem vX.first {l:List Nd}{bs:List Bool}(h:bs.length=l.length):vX l l.length bs:=⟨h,fun _ _ hp hj=>absurd (yw hp) (Nat.not_lt.2 hj)⟩
theorem vX.last {l:List Nd}{bs:List Bool}(h:vX l 0 bs):ve l bs:=⟨h.len,fun j p hp=>h.behind j p hp (Nat.zero_le _)⟩
theorem zfp {l:List Nd}{bs:List Bool}(T:xR l){k j:Nat}{p:Nd}{v:Bool}(hp:l[j]?=some p)(hj:k≤j):(p.kids.any fun x=>((bs.set k v)[x.toNat]?).getD false)=p.kids.any fun x=>(bs[x.toNat]?).getD false:=
 Vo fun x hx=>by
  obtain⟨c,rfl,h1,h2⟩:=T.kid_behind hp x hx
  rw[Int.toNat_natCast,List.getElem?_set_ne (by omega)]
theorem vX.step {l:List Nd}{bs:List Bool}(T:xR l){k:Nat}(h:vX l (k+1) bs){p:Nd}(hp:l[k]?=some p):vX l k (bs.set k (decide (p.met≠0)||p.kids.any fun x=>(bs[x.toNat]?).getD false)):=by
 have hk:=yw hp
 refine⟨by rw[List.length_set];exact h.len,fun j q hq hj=>?_⟩
 rw[zfp T hq hj]
 rcases Nat.eq_or_lt_of_le hj with rfl|hj
 ·rw[hp]at hq
  injection hq with hq; subst hq
  rw[List.getElem?_set_self (by rw[h.len];exact hk)]
 ·rw[List.getElem?_set_ne (by omega)]
  exact h.behind j q hq hj
def qp (w:World)(g:Nat)(bs:List Bool):Prop:=w.heap[g]?=some (.cells (bs.map Value.bool).toArray 4)
theorem qp.new (w:World)(n:Nat):qp (w.alloc (.cells (madeCells #[.bool false] n) 4)) w.heap.size (List.replicate n false):=by
 unfold qp
 rw[heap_alloc_new,zco,List.map_replicate]
theorem qp.cell {w:World}{g:Nat}{bs:List Bool}(h:qp w g bs){k:Nat}{v:Bool}(hk:bs[k]?=some v):w.cell? ⟨g,k,none⟩=some (.bool v)∧w.frozen? ⟨g,k,none⟩=false∧g < w.heap.size:=by
 unfold qp at h
 refine⟨?_,by simp[World.frozen?,h],za h⟩
 rw[cr _ h]
 simp[hk]
theorem qp.store {w:World}{g:Nat}{bs:List Bool}(h:qp w g bs)(k:Nat)(v:Bool):qp (w.setCell ⟨g,k,none⟩ (.bool v)) g (bs.set k v):=by
 unfold qp at*; simp[World.setCell,Array.getElem?_modify,h,List.map_set]
theorem qp.below {w w':World}{g:Nat}{bs:List Bool}(h:qp w g bs)(e:Below w.heap.size w w'):qp w' g bs:=(e.block g (za h)).trans h
theorem qp.ext {w w':World}{g:Nat}{bs:List Bool}(h:qp w g bs)(e:Ext w w'):qp w' g bs:=h.below e.below
theorem zdD:(Tryz.prog.info? 4).map (fun i=>(i.zero,i.size,i.bytes))=some (some (.bool false),1,1):=by kernel_rfl
def zby (w:World)(bs:List Bool)(e:Ending)(w':World):Prop:=∃g,e=.returned (.slice (some ⟨g,0,none⟩) bs.length bs.length)∧qp w' g bs∧w.heap.size≤g∧Ext w w'
structure StV (w W2:World)(n0 m g d3 n:Nat)(p:Prt)(bs:List Bool)(V:World):Prop where
 low:Low n0 V (fun U=>qp U g bs∧U.heap[d3]?=some (.cells #[.slice (some ⟨g,0,none⟩) n n] 121)∧Below w.heap.size w U)
 part:V.heap[m]?=some (.cells (yh p).toArray 54)
 turn:zA (fun k=>((k=g∨n0≤k)∧k < n0)∨m≤k) W2 V
 hm:n0≤m
 hg:g < n0
 hd:d3≠g
section
variable {w W2 V V':World}{n0 m g d3 n:Nat}{p:Prt}{bs:List Bool}
theorem StV.ext (h:StV w W2 n0 m g d3 n p bs V)(e:Ext V V'):StV w W2 n0 m g d3 n p bs V':=⟨h.low.below (e.below.mono h.low.size),zb h.part e,h.turn.trans (zA.of_ext e),h.hm,h.hg,h.hd⟩
theorem StV.made (h:StV w W2 n0 m g d3 n p bs V):qp V g bs:=Low.up (Φ:=fun U=>qp U g bs) (h.low.imp fun _ h=>h.1) fun _ h e=>h.below e
theorem StV.out (h:StV w W2 n0 m g d3 n p bs V):V.heap[d3]?=some (.cells #[.slice (some ⟨g,0,none⟩) n n] 121):=Low.up (Φ:=fun U=>U.heap[d3]?=some (.cells #[.slice (some ⟨g,0,none⟩) n n] 121)) (h.low.imp fun _ h=>h.2.1) fun _ h e=>(e.block _ (za h)).trans h
theorem StV.below (h:StV w W2 n0 m g d3 n p bs V):Below w.heap.size w V:=Low.up (Φ:=Below w.heap.size w) (h.low.imp fun _ h=>h.2.2) fun _ h e=>h.trans (e.mono h.size)
theorem StV.store (h:StV w W2 n0 m g d3 n p bs V)(hwg:w.heap.size≤g)(k:Nat)(v:Bool):StV w W2 n0 m g d3 n p (bs.set k v) (V.setCell ⟨g,k,none⟩ (.bool v)):=by
 have hmg:¬g=m:=by have:=h.hm;have:=h.hg;omega
 refine⟨h.low.store fun U hU=>⟨hU.1.store k v,?_,hU.2.2.setCell hwg _⟩,?_,h.turn.trans (zA.setCell V (p:=⟨g,k,none⟩) (.inl ⟨.inl rfl,h.hg⟩) _),h.hm,h.hg,h.hd⟩
 ·have:=hU.2.1
  have h3:=h.hd; simp[World.setCell,Array.getElem?_modify,Ne.symm h3,this]
 ·have:=h.part
  simp[World.setCell,Array.getElem?_modify,hmg,this]
end
def StI (w:World)(n0 g d3 n:Nat)(ps:List Prt)(k:Nat)(W:World):Prop:=
 ∃bs:List Bool,Low n0 W (fun U=>qp U g bs∧U.heap[d3]?=some (.cells #[.slice (some ⟨g,0,none⟩) n n] 121)∧Below w.heap.size w U)∧vX (nds ps) k bs
set_option maxRecDepth 100000 in
set_option maxHeartbeats 1000000 in
theorem zc5 (x:Int)(c g d3 n:Nat)(bs:List Bool)(w:World)(hx:x=(c:Int))(hc:c < bs.length)(hn:bs.length=n)(_:n≤1000000)(hM:qp w g bs)(hd:w.heap[d3]?=some (.cells #[.slice (some ⟨g,0,none⟩) n n] 121)):
 Calls Tryz.prog 103 #[.int .i64 x,pt d3] w fun e w'=>e=.returned (.bool ((bs[x.toNat]?).getD false))∧Ext w w':=by
 subst hx
 obtain⟨v,hv⟩:∃v,bs[c]?=some v:=⟨_,List.getElem?_eq_getElem hc⟩
 obtain⟨d1,d2,d4⟩:=hM.cell hv
 have HV:Hid ((bs[(c:Int).toNat]?).getD false=v):=zh (by rw[Int.toNat_natCast,hv];rfl); have k0:=cr 0 hd; simp at k0
 have l0:=za hd
 rw[hn]at hc
 clear hM hd hv; go_in
 go_wp2_with fail; go_ret
 exact⟨yx HV.out.symm,Ext.refl _⟩
end Go.Proofs.YtmbelmngniddjaaGreat
namespace Go.Proofs.YtmbelmngniddjaaGreat
open Go.RowKit
attribute [local go_sem] zF zB zI zJ zw zt zN zD zX zQ zK zP zO zL zT zR zS zG zM zC
attribute [local go_sem] Oper.semAt_some
set_option maxRecDepth 100000 in
set_option maxHeartbeats 4000000 in
theorem zeV (A:Option Addr)(c:Nat)(ps:List Prt)(w:World)(h:PS w A c ps)(T:xR (nds ps)):
 Calls Tryz.prog 70 #[.slice A ps.length c] w fun e w'=>∃st,ve (nds ps) st∧zby w st e w':=by
 have hl:=h.few.len; have hp:=T.pos
 rw[zx]at hp
 have S:=zh h; have HT:=zh T; have hmk:=run_make_row' (P:=Tryz.prog) 121 4 (.bool false) 1 Tryz.underlying121 zdD rfl .i64 .i64 ps.length (by omega) (by omega); clear h T; refine qN Tryz.func70 rfl ?_; simp only[Tryz.ntmps70,List.size_toArray,List.length_cons,List.length_nil,Nat.reduceAdd,Nat.reduceSub,Array.replicate_succ,Array.replicate_zero,List.push_toArray,List.append_toArray,List.nil_append,List.cons_append]
 go_wp2_with fail
 refine(zbb S.out HT.out).mono ?_
 rintro e w1 ⟨rfl,hx1⟩; have HX1:=zh hx1; clear hx1; go_upto_region 4 with fail
 obtain⟨g,hg⟩:∃g,w1.heap.size=g:=⟨_,rfl⟩
 have M0:=qp.new w1 ps.length
 obtain⟨W2,hW2⟩:∃W2,(w1.alloc (.cells (madeCells #[.bool false] ps.length) 4)).alloc (.cells #[.slice (some ⟨g,0,none⟩) ps.length ps.length] 121)=W2:=⟨_,rfl⟩
 have M2:qp W2 g (List.replicate ps.length false):=by rw[←hW2,←hg];exact M0.ext xi
 have G2:W2.heap[g+1]?=some (.cells #[.slice (some ⟨g,0,none⟩) ps.length ps.length] 121):=by
  rw[←hW2,←hg]
  exact(by simp only[zm,World.size_alloc];(repeat(split;(first|rfl|(exfalso;omega))));(try(first|(exfalso;omega)|simp_all)))
 have X2:Ext w W2:=by rw[←hW2];exact HX1.out.trans xi
 have S2:W2.heap.size=g+2:=by rw[←hW2,←hg];simp
 have HGW:Hid (w.heap.size≤g):=zh (by rw[←hg];exact HX1.out.size)
 rw[hg,hW2]
 clear M0 hW2 hmk; go_wp2_with fail
 refine(zdu A ps.length c _).mono ?_
 rintro e w3 ⟨rfl,hw3⟩; have X3:Ext W2 w3:=by rw[hw3];exact xi
 have S3:w3.heap.size=g+3:=by rw[hw3];simp[S2]
 have G8:w3.heap[g+2]?=some (.cells #[.slice A ps.length c] 45):=by rw[hw3,←S2];exact heap_alloc_new _ _
 rw[S2]
 clear hw3; go_wp2_with fail; have I0:StI w (g+3) g (g+1) ps.length ps ps.length w3:=by
  refine⟨List.replicate ps.length false,⟨w3,S3,Below.refl _ _,M2.ext X3,zb G2 X3,(X2.trans X3).below⟩,?_⟩
  have:=vX.first (l:=nds ps) (bs:=List.replicate ps.length false) (by rw[List.length_replicate,zx])
  rwa[zx]at this
 have hwg:w.heap.size≤g:=HGW.out
 refine zbp (gf:=126) (lb:=#[pt (g+2)]) (encs:=zjT) (xs:=zaM ps) (S:=fun k=>k=g∨g+3≤k) rfl (enters_of Tryz.func126 (by kernel_rfl) rfl) (fun _=>rfl) (fun k hk=>by omega)
  (fun w1 hx _=>ze5 A c ps w w1 (g+2) _ S.out.parts (by omega) S.out.cap S.out.top ((X2.trans X3).trans hx).below (zb G8 hx) (by omega) (fun k hk=>by omega))
  (fun j W'=>StI w (g+3) g (g+1) ps.length ps (ps.length - j) W') (fun _ _ _=>False) ?_ (fun _ _ _ _ _ _ h=>h) I0 ?_ ?_ (fun _ _ _ _ _ h=>h.elim)
 ·rintro j U U' hbe hsz ⟨rs,h1,h2⟩
  exact⟨rs,h1.below (by rw[←S3];exact hbe),h2⟩
 ·rintro l j ⟨k,p⟩ W' hx hI hsz
  obtain⟨hj,hk,hp⟩:=zdZ hx
  dsimp only at hk hp; have HKK:=zh hk; have hkl:k < ps.length:=by omega
  clear hI hx hk; simp only[zjT,zf5]
  gi_wp2
  refine⟨(Ext.refl _).alloc _,?_⟩
  obtain⟨m,hm⟩:∃m,W'.heap.size=m:=⟨_,rfl⟩
  have hP0:=heap_alloc_new W' (.cells (yh p).toArray 54)
  rw[hm]at hP0 ⊢
  intro W2' t2 hI2 hsz2
  obtain⟨bs,hlow,hE⟩:=hI2
  have hmn:g+3≤m:=by omega
  have V0:StV w W2' (g+3) m g (g+1) ps.length p bs W2':=⟨hlow,(t2.block m (by have:=za hP0;exact this) (by omega)).trans hP0,zA.refl _,hmn,by omega,by omega⟩; have HV0:=zh V0; have HE:=zh hE; have HPP:=zh hp; have HJ:=zh hj; clear t2 hlow hE V0 hP0 hp hsz hsz2 hm hj
  obtain⟨ly,y0,y1,y2,y3,y4,y5,y6,y7⟩:=qk HV0.out.part
  have k0:=cr 0 HV0.out.out; simp at k0
  have l0:=za HV0.out.out; have hbl:bs.length=ps.length:=by rw[HE.out.len,zx]
  obtain⟨v0,hv0⟩:∃v0,bs[k]?=some v0:=⟨_,List.getElem?_eq_getElem (by omega)⟩
  -- what a round comes to
  have FIN:Hid (∀V,StV w W2' (g+3) m g (g+1) ps.length p (bs.set k (decide (p.nd.met≠0)||p.nd.kids.any fun x=>(bs[x.toNat]?).getD false)) V→
   zA (fun b1=>((b1=g∨g+3≤b1)∧b1 < w3.heap.size)∨m≤b1) W2' V∧StI w (g+3) g (g+1) ps.length ps (ps.length - (j+1)) V):=zh (by
   intro V hV; have hkk:ps.length - (j+1)=k:=by have:=HKK.out;omega
   have hkj:ps.length - j=k+1:=by have:=HKK.out;have:=HJ.out;omega
   rw[S3,hkk]
   have hE:=HE.out
   rw[hkj]at hE
   exact⟨hV.turn,_,hV.low,hE.step HT.out (yJ HPP.out)⟩)
  have HBL:=zh hbl
  obtain⟨bv,hbv⟩:∃bv,(p.nd.kids.any fun x=>(bs[x.toNat]?).getD false)=bv:=⟨_,rfl⟩
  have HBV:=zh hbv
  have CC:=zh (fun(V:World) (x:Ext W2' V)=>zh3 103 #[pt (g+1)] (fun x=>(bs[x.toNat]?).getD false) p.kA p.kc p.nd.kids V
   (((S.out.oks.get HPP.out).below (HV0.out.ext x).below).kids) (by have:=(S.out.oks.get HPP.out).cap;have:=(S.out.few.kids_le (List.mem_of_getElem? HPP.out));omega) (enters_of Tryz.func103 (by kernel_rfl) rfl)
   (fun wr y hx hy=>by
     obtain⟨cn,rfl,hc1,hc2⟩:=HT.out.kid_behind (yJ HPP.out) y hy
     rw[zx]at hc2
     have HVx:=HV0.out.ext (x.trans hx); exact zc5 _ cn g (g+1) ps.length bs wr rfl (by rw[HBL.out];exact hc2) HBL.out (by omega) HVx.made HVx.out))
  obtain⟨b1,hb1⟩:∃b1,(p.nd.met !=0)=b1:=⟨_,rfl⟩
  rw[hbv]at FIN CC
  clear hbl hbv
  gi_wp2
  cases b1 with
  |true=>
   refine jA (12) [([0,1,2,3,4,5,6,7,8],9),([10,11],12)] [] (by kernel_rfl) (by kernel_rfl) (by kernel_rfl) ?_; (refine qP fun K hK=>?_);(first|(simp only[xQ])|(simp only[pick,yp]));(repeat go_big_quiet_step (fail));(refine wpQuiet_nil (hK _ fun next hn=>?_));(clear hK K);(simp only[pick,yp])
   go_wp2_with fail; refine zk (fun _=>yZ (Ext.refl _).drew) (hn _ _ ?_); clear hn next; (refine qP fun K hK=>?_);(first|(simp only[xQ])|(simp only[pick,yp]));(repeat go_big_quiet_step (fail));(refine wpQuiet_nil (hK _ fun next hn=>?_));(clear hK K);(simp only[pick,yp])
   have HVd:=zh (HV0.out.ext (Ext.refl _).drew)
   obtain⟨c1,c2,c3⟩:=HVd.out.made.cell hv0
   go_wp2_with fail; refine zk (fun h=>absurd rfl h) (hn _ _ ?_); clear hn next; (refine Jo fun K hK=>?_);(first|(simp only[xQ])|(simp only[pick,yp]));(repeat go_big_quiet_step (fail));(refine wpQuiet_nil (hK _ ?_));(clear hK K)
   have HV9:=HVd.out.store hwg k true; have e1:(decide (p.nd.met≠0)||bv)=true:=by
    have:p.nd.met≠0:=by simpa using hb1
    simp[this]
   rw[e1]at FIN
   gi_wp2
   exact FIN.out _ HV9
  |false=>
   refine jA (12) [([0,1,2,3,4,5,6,7,8],9),([10,11],12)] [] (by kernel_rfl) (by kernel_rfl) (by kernel_rfl) ?_; (refine qP fun K hK=>?_);(first|(simp only[xQ])|(simp only[pick,yp]));(repeat go_big_quiet_step (fail));(refine wpQuiet_nil (hK _ fun next hn=>?_));(clear hK K);(simp only[pick,yp])
   go_wp2_with fail
   refine(CC.out _ (Ext.refl _).drew).mono ?_
   rintro e w8 ⟨rfl,hx8⟩; have HX8:Hid (Ext W2' w8):=zh (((Ext.refl _).drew).trans hx8); clear hx8 ly y0 y1 y2 y3 y4 y5 y6 y7 k0 l0; go_wp2_with fail; refine zk (fun _=>yZ HX8.out) (hn _ _ ?_); clear hn next; (refine qP fun K hK=>?_);(first|(simp only[xQ])|(simp only[pick,yp]));(repeat go_big_quiet_step (fail));(refine wpQuiet_nil (hK _ fun next hn=>?_));(clear hK K);(simp only[pick,yp])
   have HVd:=zh (HV0.out.ext HX8.out)
   obtain⟨c1,c2,c3⟩:=HVd.out.made.cell hv0
   go_wp2_with fail; refine zk (fun h=>absurd rfl h) (hn _ _ ?_); clear hn next; (refine Jo fun K hK=>?_);(first|(simp only[xQ])|(simp only[pick,yp]));(repeat go_big_quiet_step (fail));(refine wpQuiet_nil (hK _ ?_));(clear hK K)
   have HV9:=HVd.out.store hwg k bv; have e1:(decide (p.nd.met≠0)||bv)=bv:=by
    have:p.nd.met=0:=by simpa using hb1
    simp[this]
   rw[e1]at FIN
   gi_wp2
   exact FIN.out _ HV9
 ·rintro D V ⟨bs,hlow,hE⟩ hD hsz hk
  rw[vT,Nat.sub_self]at hE
  have k7:=cr 0 (Low.up (Φ:=fun U=>U.heap[g+1]?=some (.cells #[.slice (some ⟨g,0,none⟩) ps.length ps.length] 121)) (hlow.imp fun _ h=>h.2.1) fun U h e=>(e.block _ (za h)).trans h); simp at k7
  have l7:g+1 < V.heap.size:=by have:=hlow.size;omega
  have tD:zA (fun b=>b=D) V (V.putObj D (.deferred none)):=yC _ _ rfl; have hlow2:=hlow.below (tD.below hlow.size fun k hk=>by omega); have hM2:=Low.up (Φ:=fun U=>qp U g bs) (hlow2.imp fun _ h=>h.1) fun U h e=>h.below e; have hB2:Below w.heap.size w (V.putObj D (.deferred none)):=Low.up (Φ:=Below w.heap.size w) (hlow2.imp fun _ h=>h.2.2) fun U h e=>h.trans (e.mono h.size); have hbl:bs.length=ps.length:=by rw[hE.len,zx]
  have OUT:Hid (∃st,ve (nds ps) st∧zby w st (.returned (.slice (some ⟨g,0,none⟩) ps.length ps.length)) (V.putObj D (.deferred none))):=zh
   ⟨bs,hE.last,g,by rw[hbl],hM2,hwg,Ext.of_below hB2⟩
  clear hlow hE tD hlow2 hM2 hB2 hbl; go_wp2_with fail; exact qh (D:=D) (v:=.slice (some ⟨g,0,none⟩) ps.length ps.length) rfl hk (by simp[results,Tryz.results70,go_sem]) OUT.out
end Go.Proofs.YtmbelmngniddjaaGreat
namespace Go.Proofs.YtmbelmngniddjaaGreat
open Go.RowKit
attribute [local go_sem] zF zB zI zJ zw zt zN zD zX zQ zK zP zO zL zT zR zS zG zM zC
section
variable {A:Option Addr}{c:Nat}{ps:List Prt}{w:World}
set_option maxRecDepth 100000 in
set_option maxHeartbeats 2000000 in
theorem zgC (h:PS w A c ps)(T:¬xR (nds ps)):Calls Tryz.prog 70 #[.slice A ps.length c] w fun e w'=>e=.returned (.slice none 0 0)∧Ext w w':=by
 have CH:=zh (zfS h T); clear h T; refine qN Tryz.func70 rfl ?_; simp only[Tryz.ntmps70,List.size_toArray,List.length_cons,List.length_nil,Nat.reduceAdd,Nat.reduceSub,Array.replicate_succ,Array.replicate_zero,List.push_toArray,List.append_toArray,List.nil_append,List.cons_append]
 go_wp2_with fail; refine CH.out.mono ?_; rintro e w3 ⟨rfl,hx3⟩; have HX3:=zh hx3; clear hx3; go_wp2_with fail; exact zer (v:=.slice none 0 0) rfl (by simp[results,Tryz.results70,go_sem]) ⟨rfl,HX3.out⟩
end
attribute [local go_sem] Oper.semAt_some
def ziR (l:List Nd)(xs:List Nat):Prop:=(xR l→∃st,ve l st∧Gs l st 0 xs)∧(¬xR l→xs=[])
theorem zgy (l:List Nd):∃xs,ziR l xs:=by
 by_cases T:xR l
 ·by_cases h:∃st,ve l st
  ·obtain⟨st,hs⟩:=h
   obtain⟨xs,hx⟩:=ziX T hs.1 l.length 0 (by omega)
   exact⟨xs,fun _=>⟨st,hs,hx⟩,fun h=>absurd T h⟩
  ·exfalso; apply h
   have:∀n k,l.length - k≤n→∃bs:List Bool,bs.length=l.length∧∀(j:Nat) (p:Nd),l[j]?=some p→k≤j→bs[j]?=some (decide (p.met≠0)||p.kids.any fun x=>(bs[x.toNat]?).getD false):=by
    intro n; induction n with
    |zero=>intro k hk;exact⟨List.replicate l.length false,List.length_replicate ..,fun j p hp hj=>by have:=yw hp;omega⟩
    |succ n ih=>
     intro k hk
     obtain⟨bs,h1,h2⟩:=ih (k+1) (by omega)
     rcases Nat.lt_or_ge k l.length with hlt|hge
     ·obtain⟨p,hp⟩:∃p,l[k]?=some p:=⟨_,List.getElem?_eq_getElem hlt⟩
      have:=vX.step T ⟨h1,h2⟩ hp
      exact⟨_,this.len,this.behind⟩
     ·exact⟨bs,h1,fun j p hp hj=>by have:=yw hp;omega⟩
   obtain⟨bs,h1,h2⟩:=this l.length 0 (by omega)
   exact⟨bs,h1,fun j p hp=>h2 j p hp (Nat.zero_le _)⟩
 ·exact⟨[],fun h=>absurd h T,fun _=>rfl⟩
def ziL (x:Nat):Array Value:=#[.int .i64 (x:Int)]
theorem Jc (A:Option Addr)(n c:Nat)(w:World):
 Calls Tryz.prog 38 #[.slice A n c] w fun e w'=>e=.returned (.func (.func 69) #[] #[pt w.heap.size])∧w'=w.alloc (.cells #[.slice A n c] 45):=by
 go_in
 go_wp2_with fail; go_ret
 exact⟨rfl,rfl⟩
set_option maxRecDepth 100000 in
set_option maxHeartbeats 2000000 in
theorem VV (A:Option Addr)(c:Nat)(ps:List Prt)(xs:List Nat)(w0 w1:World)(fb:Nat)(S:Nat→Prop)(hS:PS w0 A c ps)(hG:ziR (nds ps) xs)
 (h0:Below w0.heap.size w0 w1) (hfb:w1.heap[fb]?=some (.cells #[.slice A ps.length c] 45)) (hfS:¬S fb) (hfree:∀b,b < w0.heap.size→¬S b):
 zgh Tryz.prog 69 #[pt fb] ziL xs S (fun _ _=>True) w1:=by
 intro l J Jx K0 hSl hlw hK0 hJ hJx hR hY hJ0; have hlen:=hS.few.len; have SP:=zh hS; have HG:=zh hG; have HFR:=zh hfree; have HFS:=zh hfS; have HY:=zh hY; have HJ:=zh hJ; have c0:=cr 0 hfb; simp at c0
 have l0:=za hfb; have HFB:=zh hfb; have HFBL:=zh l0; have HB0:=zh h0; have HB0S:=zh h0.size; have HJ0:=zh hJ0; have HSL2:=zh hSl; have HLW:=zh hlw; have HKS:=zh hK0; clear hR hSl hlw hK0; clear hS hG hfree hfS hY hJ hJx hJ0 h0 hfb; simp only[List.append_toArray,List.cons_append,List.nil_append]
 by_cases T:xR (nds ps)
 ·have HT:=zh T
  obtain⟨st0,hst0,hgs⟩:=HG.out.1 T
  have HST0:=zh hst0; have HGS:=zh hgs; clear hst0 hgs T; go_in
  go_wp2_with fail
  refine(zeV A c ps _ (SP.out.below HB0.out) HT.out).mono ?_
  rintro e w2 ⟨st,hst,g,rfl,hM,hgw,hx2⟩; obtain rfl:st=st0:=ve.one HT.out hst HST0.out; have hsl:st.length=ps.length:=by rw[hst.1,zx]
  have S0:Hid (Below w0.heap.size w0 w2∧w2.heap[fb]?=some (.cells #[.slice A ps.length c] 45)∧w1.heap.size≤w2.heap.size∧qp w2 g st∧J 0 K0 w2∧¬K0 g∧∀b,K0 b→S b∨w1.heap.size≤b):=
   zh ⟨HB0.out.trans (hx2.below.mono HB0.out.size),zb HFB.out hx2,hx2.size,hM,HJ.out _ _ _ _ hx2 HJ0.out,fun h=>by have:=(HKS.out g h).2;omega,fun b hb=>.inl (HKS.out b hb).1⟩
  have HGW:Hid (w1.heap.size≤g):=zh hgw; have HSL:=zh hsl
  rw[hsl]
  clear hst hM hgw hx2 hsl c0 l0 HB0 HFB HJ0; go_wp2_with fail; go_loopw [4] (fun v wr=>∃(i j:Nat) (K:Nat→Prop),v=.int .i64 i∧Hid (Gs (nds ps) st i (xs.drop j))∧i≤ps.length∧j≤xs.length∧Hid (Below w0.heap.size w0 wr∧wr.heap[fb]?=some (.cells #[.slice A ps.length c] 45)∧w1.heap.size≤wr.heap.size∧qp wr g st∧J j K wr∧¬K g∧∀b,K b→S b∨w1.heap.size≤b)) (fun v _=>ps.length - (intOf v).toNat)
  case atStart=>exact⟨0,0,K0,rfl,HGS,Nat.zero_le _,Nat.zero_le _,S0⟩
  case round=>
   obtain⟨i,j,K,rfl,hg,hil,hjl,hs⟩:=hrel
   by_cases hlt:i < ps.length
   ·obtain⟨p,hp⟩:∃p,ps[i]?=some p:=⟨_,List.getElem?_eq_getElem hlt⟩
    obtain⟨v,hv⟩:∃v,st[i]?=some v:=⟨_,List.getElem?_eq_getElem (by rw[HSL.out];exact hlt)⟩
    obtain⟨s1,s2,s3,s4,s5,s6,s7⟩:=hs.out
    obtain⟨b,off,hA,hb,hcell⟩:=(SP.out.below s1).parts (by omega)
    have d1:=(hcell i p hp).2.1
    obtain⟨f0,f1,f2⟩:=s4.cell hv
    have k0:=cr 0 s2; simp at k0
    have l0:=za s2; have hcap:=SP.out.cap; have hgs:=hg.out; have HPP:=zh hp; have HVV:=zh hv; have HA:=zh hA
    rw[hA]at k0
    clear hcell hp hv s1 s2 s3 s4 s5 s6 s7 hA f1; by_cases htk:p.nd.kind=2∧v=false
    ·obtain⟨hk,rfl⟩:=htk
     have hk1:(p.nd.kind !=2)=false:=by simp[hk]
     obtain⟨m,hm⟩:=HT.out.part (i:=i) (by rw[zx];exact hlt)
     -- the next one to be told
     have hnext:∃ys,xs.drop j=i ::ys∧Gs (nds ps) st m ys:=by
      generalize xs.drop j=zs at hgs ⊢
      cases hgs with
      |done _ hd=>rw[zx]at hd;omega
      |skip _ q _ hq hc _=>
       rw[yJ HPP.out]at hq
       cases hq; rcases hc with hc|hc
       ·exact absurd hk hc
       ·rw[HVV.out]at hc;cases hc
      |take _ q m' ys hq _ _ hm' h2=>
       have:=hm.det hm'
       subst this
       exact⟨ys,rfl,h2⟩
     obtain⟨ys,hys,hgs2⟩:=hnext
     have hjx:xs[j]?=some i:=by
      have:(xs.drop j)[0]?=some i:=by rw[hys];rfl
      rwa[List.getElem?_drop,Nat.add_zero]at this
     have hyd:xs.drop (j+1)=ys:=by
      have:(xs.drop j).drop 1=ys:=by rw[hys];rfl
      rwa[List.drop_drop]at this
     have hjlt:=(List.getElem?_eq_some_iff.1 hjx).1
     obtain⟨fn,tmps,assign,body,hy,hRound⟩:=HY.out j i K wr hjx hs.out.2.2.1 hs.out.2.2.2.2.1
     unfold ziL at hy; have HR:=zh hRound; have HM:=zh hm; have HG2:Hid (Gs (nds ps) st m (xs.drop (j+1))):=zh (by rw[hyd];exact hgs2); have hmi:=hm.lt_end; have hml:=hm.le
     rw[zx]at hml
     clear hRound hm hys hjx hyd hgs hgs2 hk; go_upto_region 5 with fail
     refine(wpIn_wide (n:=1)).1 ?_
     gi_wp2
     refine HR.out.mono ?_; rintro e w8 ⟨t8,(⟨rfl,K',hK',hJ8⟩|⟨rfl,hJ8⟩)⟩
     ·obtain⟨s1,s2,s3,s4,s5,s6,s7⟩:=hs.out
      have n1:=s1.trans (t8.below s1.size fun k hk=>Nat.le_of_not_lt fun h=>by
       rcases hk with hk|rfl
       ·rcases s7 k hk with hk|hk
        ·exact HFR.out k h hk
        ·have:=HB0S.out;omega
       ·exact HFR.out k h HSL2.out)
      have n2:=(t8.block _ l0 (fun hk=>by
       rcases hk with hk|hk
       ·rcases s7 fb hk with hk|hk
        ·exact HFS.out hk
        ·have:=HFBL.out;omega
       ·exact HFS.out (hk▸HSL2.out))).trans s2
      have n3:=Nat.le_trans s3 t8.size; have n4:qp w8 g st:=(t8.block _ (za s4) (fun hk=>by
       rcases hk with hk|hk
       ·exact s6 hk
       ·have:=HGW.out;have:=HLW.out;omega)).trans s4
      have n6:¬K' g:=fun hk=>by
       rcases hK' g hk with hk|hk
       ·exact s6 hk
       ·have:=za s4;omega
      have n7:∀b,K' b→S b∨w1.heap.size≤b:=fun b hb=>by
       rcases hK' b hb with hk|hk
       ·exact s7 b hk
       ·exact .inr (by omega)
      have q0:=cr 0 n2; simp at q0
      have lq:=za n2; have CE:=zh (zig i m (SP.out.below n1) HT.out HM.out); have N8:=zh (show Below w0.heap.size w0 w8∧w8.heap[fb]?=some (.cells #[.slice A ps.length c] 45)∧w1.heap.size≤w8.heap.size∧qp w8 g st∧J (j+1) K' w8∧¬K' g∧∀b,K' b→S b∨w1.heap.size≤b from⟨n1,n2,n3,n4,hJ8,n6,n7⟩); clear n1 n2 n3 n4 n6 n7 hK' t8 hJ8 hs s1 s2 s3 s4 s5 s6 s7 k0 d1 f0 f2 hb
      gi_wp2
      go_wp2_with fail; refine CE.out.mono ?_; rintro e w9 ⟨rfl,hx9⟩
      obtain⟨s1,s2,s3,s4,s5,s6,s7⟩:=N8.out
      have N9:=zh (show Below w0.heap.size w0 w9∧w9.heap[fb]?=some (.cells #[.slice A ps.length c] 45)∧w1.heap.size≤w9.heap.size∧qp w9 g st∧J (j+1) K' w9∧¬K' g∧∀b,K' b→S b∨w1.heap.size≤b from
       ⟨s1.trans (hx9.below.mono s1.size),zb s2 hx9,Nat.le_trans s3 hx9.size,s4.ext hx9,HJ.out _ _ _ _ hx9 s5,s6,s7⟩)
      clear s1 s2 s3 s4 s5 s6 s7 hx9 N8; go_wp2_with fail; go_roundw
      case rel=>exact⟨m,j+1,K',rfl,HG2,hml,by omega,N9⟩
      case measure=>simp[intOf];omega
     ·have n3:=Nat.le_trans hs.out.2.2.1 t8.size; clear t8 hs
      gi_wp2
      go_wp2_with fail; refine bodyPost_ret (results_none rfl _ _ _) rfl ?_
      exact⟨⟨_,rfl⟩,n3,.inr ⟨j+1,by omega,hJ8⟩⟩
    ·have hnext:Gs (nds ps) st (i+1) (xs.drop j):=by
      generalize hxs:xs.drop j=zs at hgs
      cases hgs with
      |done _ hd=>rw[zx]at hd;omega
      |skip _ q _ hq hc h2=>exact h2
      |take _ q m' ys hq hk hs' hm' h2=>
       rw[yJ HPP.out]at hq
       cases hq
       rw[HVV.out]at hs'
       injection hs' with hs'; exact absurd ⟨hk,hs'⟩ htk
     have HN:=zh hnext; have hw1:wrap64 ((i:Int)+1)=((i+1:Nat):Int):=by
      rw[show((i:Int)+1)=((i+1:Nat):Int)by omega]
      exact IntWalk.wrap64_in _ (by omega)
     have hcs:(p.nd.kind !=2)=true∨((p.nd.kind !=2)=false∧v=true):=by
      by_cases hk:p.nd.kind=2
      ·refine .inr ⟨by simp[hk],?_⟩; cases v with
       |true=>rfl
       |false=>exact absurd ⟨hk,rfl⟩ htk
      ·exact .inl (by simpa using hk)
     clear htk hgs hnext; rcases hcs with hk1|⟨hk1,rfl⟩
     all_goals
      go_wp2_with fail; go_roundw
      case rel=>exact⟨i+1,j,K,by go_num,HN,by omega,hjl,hs⟩
      case measure=>simp[intOf];omega
   ·obtain rfl:i=ps.length:=by omega
    have hnil:xs.drop j=[]:=by
     have:=hg.out
     generalize hxs:xs.drop j=zs at this
     cases this with
     |done _ _=>rfl
     |skip _ q _ hq _ _=>have:=yw hq;rw[zx]at this;omega
     |take _ q _ _ hq _ _ _ _=>have:=yw hq;rw[zx]at this;omega
    have hj:j=xs.length:=by
     have:=congrArg List.length hnil
     rw[List.length_drop,List.length_nil]at this
     omega
    go_wp2_with fail; go_end0
    exact⟨⟨_,rfl⟩,hs.out.2.2.1,.inl ⟨K,by rw[←hj];exact hs.out.2.2.2.2.1⟩⟩
 ·have hx:=HG.out.2 T; subst hx; have HT:=zh T; clear T; go_in
  go_wp2_with fail
  refine(zgC (SP.out.below HB0.out) HT.out).mono ?_
  rintro e w2 ⟨rfl,hx2⟩; have HX2:=zh hx2; clear hx2; go_wp2_with fail; go_loopw [4] (fun v wr=>v=.int .i64 0∧Hid (Ext w1 wr)) (fun v _=>0)
  case atStart=>exact⟨rfl,HX2⟩
  case round=>
   obtain⟨rfl,hs⟩:=hrel
   go_wp2_with fail; go_end0
   exact⟨⟨_,rfl⟩,hs.out.size,.inl ⟨K0,HJ.out _ _ _ _ hs.out HJ0.out⟩⟩
end Go.Proofs.YtmbelmngniddjaaGreat
namespace Go.Proofs.YtmbelmngniddjaaGreat
open Go.RowKit
attribute [local go_sem] zF zB zI zJ zw zt zN zD zX zQ zK zP zO zL zT zR zS zG zM zC
theorem zcY {l:List Nd}{st:List Bool}(h:ve l st){ks:List Int}{n e:Nat}{ok:Bool}(t:yP l ks n ok e):ok=true→(∀k∈ks,(st[k.toNat]?).getD false=false)→∀(j:Nat) (p:Nd),n≤j→j < e→l[j]?=some p→p.met=0:=by
 induction t with
 |nil n=>intro _ _ j p h1 h2;omega
 |bad k ks n hb=>intro ho;cases ho
 |sub p ks n m hp ht ih=>intro ho;cases ho
 |cons p ks n m ok e hp ht1 ht2 ih1 ih2=>
  intro ho hk j q h1 h2 hq; have h0:=hk (n:Int) (List.mem_cons_self ..); have hs:=h.2 n p hp
  rw[Int.toNat_natCast,hs]at h0
  simp only[Option.getD_some,Bool.or_eq_false_iff,decide_eq_false_iff_not,List.any_eq_false]at h0
  by_cases hjn:j=n
  ·subst hjn
   rw[hp]at hq
   injection hq with hq; subst hq; exact Classical.byContradiction (fun hh=>h0.1 hh)
  ·by_cases hjm:j < m
   ·exact ih1 rfl (fun k hk'=>by simpa using h0.2 k hk') j q (by omega) hjm hq
   ·exact ih2 ho (fun k hk'=>hk k (List.mem_cons_of_mem _ hk')) j q (by omega) h2 hq
theorem zfs {l:List Nd}{st:List Bool}(h:ve l st){i m:Nat}(hp:YG l i m)(hs:(st[i]?).getD false=false):∀(j:Nat) (p:Nd),i≤j→j < m→l[j]?=some p→p.met=0:=
 zcY h hp.trek rfl (fun k hk=>by
  rw[List.mem_singleton]at hk
  subst hk
  rw[Int.toNat_natCast]
  exact hs)
def DB (L:LxP)(d:DtP):Prop:=(-3≤d.sym∧d.sym < L.g.terms+L.g.nons)∧(1≤d.kind∧d.kind≤6)∧(0≤d.lo∧d.lo≤L.n)∧(0≤d.inn∧d.inn≤L.n)∧(0≤d.hi∧d.hi≤L.n)∧(0≤d.look∧d.look≤(L.n:Int)+1)
def jJ (L:LxP)(t:yi):Prop:=∀u,InR u t→DB L u.d
theorem jd {L:LxP}{d:DtP}(h:DB L d):jJ L (.node d []):=fun u hu=>by
 rw[hu.leaf]
 exact h
theorem Yg {L:LxP}{d:DtP}{ks:List yi}(hd:DB L d)(h:∀k∈ks,jJ L k):jJ L (.node d ks):=fun u hu=>by
 rcases hu.cases' with rfl|⟨k,hk,hu⟩
 ·exact hd
 ·exact h k hk u hu
theorem jY {L:LxP}{ks:List yi}{k:yi}(h:∀k∈ks,jJ L k)(hk:jJ L k):∀x∈ks++[k],jJ L x:=fun x hx=>by
 rcases List.mem_append.1 hx with hx|hx
 ·exact h x hx
 ·rw[List.mem_singleton]at hx
  rw[hx]
  exact hk
section
variable {L:LxP}(H:QL L)
include H
theorem zjg:∀(k p:Nat) (row:Row) (ext:Int),p≤L.n→0≤ext→ext≤(L.n:Int)+1→0≤(Zd L.tk k p row ext).2∧(Zd L.tk k p row ext).2≤(L.n:Int)+1:=by
 intro k; induction k with
 |zero=>intro p row ext hp h0 h1;exact⟨h0,h1⟩
 |succ k ih=>
  intro p row ext hp h0 h1
  obtain⟨t1,t2,t3,t4,t5,t6,t7,t8⟩:=H.tok p hp
  unfold Zd; split
  ·dsimp only; omega
  ·exact ih _ _ _ (by omega) (by omega) (by omega)
theorem zeB:∀f,
 (∀left (til:Nat) look kids (lo:Nat) t,0≤left→left < L.g.nons→til≤L.n→lo≤til→0≤look→look≤(L.n:Int)+1→(∀k∈kids,jJ L k)→yG L f left til look kids lo=some t→jJ L t)∧
 (∀r (til:Nat) kids z,(∀s∈r,0≤s∧s < L.g.terms+L.g.nons)→til≤L.n→(∀k∈kids,jJ L k)→yz L f r til kids=some z→(til≤z.2∧z.2≤L.n)∧∀k∈z.1,jJ L k)∧
 ∀s (p:Nat) t,0≤s→s < L.g.terms+L.g.nons→p≤L.n→vG L f s p=some t→jJ L t:=by
 have hterms:=H.gm.terms; intro f; induction f with
 |zero=>refine⟨?_,?_,?_⟩<;>intros<;>simp_all [yG,yz,vG]
 |succ f ih=>
  obtain⟨i1,i2,i3⟩:=ih
  refine⟨fun left til look kids lo t h0 h1 hto hlo hl0 hl1 hk h=>?_,fun r til kids z hr hto hk h=>?_,fun s p t hs0 hs hp h=>?_⟩
  ·obtain⟨w1,w2⟩:=zjg H L.g.kn til [] til hto (by omega) (by omega)
   have w1:0≤(L.win til).2:=w1; have w2:(L.win til).2≤(L.n:Int)+1:=w2; unfold yG at h; split at h
   ·rename_i hpr
    obtain⟨q,hq,_,_⟩:=H.yes left _ hpr
    have hright:L.right (L.pred left (L.win til).1)=q.right:=by unfold LxP.right;rw[hq];rfl
    rw[hright]at h
    cases hs:yz L f q.right til kids with
    |none=>rw[hs]at h;cases h
    |some z=>
     rw[hs]at h
     have hin:=H.gm.sym q (List.mem_of_getElem? hq)
     obtain⟨⟨b1,b2⟩,a⟩:=i2 _ _ _ _ hin hto hk hs
     injection h with h; subst h; refine Yg ?_ a; unfold DB; dsimp only at b1 b2 ⊢; omega
   ·split at h
    ·injection h with h; subst h; refine Yg ?_ hk; unfold DB; dsimp only; split<;>omega
    ·rename_i hno
     obtain⟨t1,t2,t3,t4,t5,t6,t7,t8⟩:=H.tok til hto
     have hlt:=t8 (fun hh=>hno (.inl hh)); refine i1 _ _ _ _ _ _ h0 h1 (by omega) (by omega) (by omega) (by omega) (jY hk (jd ?_)) h; unfold DB xt; dsimp only; omega
  ·cases r with
   |nil=>
    unfold yz at h; injection h with h; subst h
    exact⟨⟨Nat.le_refl _,hto⟩,hk⟩
   |cons s r=>
    unfold yz at h; cases hs:vG L f s til with
    |none=>rw[hs]at h;cases h
    |some t=>
     rw[hs]at h
     obtain⟨hi,a,b,c⟩:=((xH H f).2.2 _ _ _ (hr s (by simp)).2 hto hs).1
     simp only[a,Int.toNat_natCast]at h
     obtain⟨⟨e1,e2⟩,e3⟩:=i2 _ _ _ _ (fun x hx=>hr x (List.mem_cons_of_mem _ hx)) c (jY hk (i3 _ _ _ (hr s (by simp)).1 (hr s (by simp)).2 hto hs)) h
     exact⟨⟨by omega,e2⟩,e3⟩
  ·unfold vG at h
   obtain⟨t1,t2,t3,t4,t5,t6,t7,t8⟩:=H.tok p hp
   split at h
   ·exact i1 _ _ _ _ p _ (by omega) (by omega) hp (Nat.le_refl _) (Int.le_refl _) (by omega) (fun k hk=>by cases hk) h
   ·split at h
    ·injection h with h; subst h; refine jd ?_; unfold DB xt; dsimp only; omega
    ·injection h with h; subst h; refine jd ?_; unfold DB; dsimp only; omega
theorem zgx:∀(f p:Nat) (ks:List yi),p≤L.n→(∀k∈ks,jJ L k)→∀k∈xJ L f p ks,jJ L k:=by
 have hterms:=H.gm.terms; have hnn:=H.gm.nons; intro f; induction f with
 |zero=>intro p ks _ hk;simpa only[xJ]using hk
 |succ f ih=>
  intro p ks hp hk
  obtain⟨t1,t2,t3,t4,t5,t6,t7,t8⟩:=H.tok p hp
  unfold xJ; split
  ·refine jY hk (jd ?_); unfold DB xt; dsimp only; omega
  ·rename_i hno; refine ih _ _ (by omega) (jY hk (jd ?_)); unfold DB xt; dsimp only; omega
theorem zgL {f:Nat}{t0:yi}(ht:yG L f 0 0 0 [] 0=some t0):jJ L (qF L t0):=by
 have hterms:=H.gm.terms; have hnn:=H.gm.nons
 obtain⟨hi2,e1,_,e2⟩:=((xH H f).1 0 0 0 [] 0 t0 (by omega) (by omega) (Nat.zero_le _) (Nat.le_refl _) (fun _ h=>by cases h) ht).1
 unfold qF; refine Yg ?_ (zgx H _ _ _ (by rw[e1];simpa using e2) (fun k hk=>?_))
 ·unfold DB; dsimp only; omega
 ·rw[List.mem_singleton]at hk
  rw[hk]
  exact(zeB H f).1 0 0 0 [] 0 t0 (by omega) (by omega) (Nat.zero_le _) (Nat.le_refl _) (Int.le_refl _) (by omega) (fun k hk=>by cases hk) ht
end
theorem zes {L:LxP}{t:yi}(h:jJ L t):∀q∈yH t,∃d,DB L d∧q.sym=d.sym∧q.kind=d.kind∧q.lo=d.lo∧q.inn=d.inn∧q.hi=d.hi∧q.look=d.look:=fun q hq=>by
 obtain⟨u,hu,ks,rfl⟩:=Y0 t q hq
 exact⟨u.d,h u hu,rfl,rfl,rfl,rfl,rfl,rfl⟩
theorem jP (s:ByteArray)(i:Nat):vj s i=((s.data.toList[i]?).getD 0).toNat:=by
 unfold vj; congr 2
 by_cases h:i < s.size
 ·rw[getElem?_pos s i h,List.getElem?_eq_getElem (by simpa using h)]
  simp[ByteArray.getElem_eq_getElem_data]
 ·rw[getElem?_neg s i h,List.getElem?_eq_none (by simpa using h)]
theorem vH (s:ByteArray):s.size=s.data.toList.length:=by simp
def zfB (s ins:ByteArray)(a b:Nat):ByteArray:=s.extract 0 a++ins++s.extract b s.size
theorem Zx (s ins:ByteArray)(a b:Nat):(zfB s ins a b).data.toList=s.data.toList.take a++ins.data.toList++s.data.toList.drop b:=by
 unfold zfB; simp only[ByteArray.data_append,ByteArray.data_extract,Array.toList_append,Array.toList_extract,List.extract_eq_take_drop,List.drop_zero,Nat.sub_zero]
 congr 1
 rw[List.take_of_length_le]
 rw[List.length_drop]
 simp
theorem ZP {s ins:ByteArray}{a b:Nat}(hab:a≤b)(hb:b≤s.size):(zfB s ins a b).size=a+ins.size+(s.size - b):=by
 rw[vH,Zx,List.length_append,List.length_append,List.length_take,List.length_drop,←vH,←vH]
 omega
theorem zjD {s ins:ByteArray}{a b:Nat}(hab:a≤b)(hb:b≤s.size):TxA s (zfB s ins a b) a:=by
 refine⟨by omega,by rw[ZP hab hb];omega,fun i hi=>?_⟩
 have hl:i < (s.data.toList.take a).length:=by rw[List.length_take,←vH];omega
 rw[jP,jP,Zx,List.append_assoc,List.getElem?_append_left hl,List.getElem?_take_of_lt hi]
theorem zjv {s ins:ByteArray}{a b:Nat}(hab:a≤b)(hb:b≤s.size):TxB s (zfB s ins a b) b ((ins.size:Int) - ((b:Int) - a)):=by
 refine⟨hb,by rw[ZP hab hb];omega,by omega,fun i i' hi hs hd=>?_⟩
 have h1:(s.data.toList.take a++ins.data.toList).length=a+ins.size:=by rw[List.length_append,List.length_take,←vH,←vH];omega
 rw[jP,jP,Zx,List.getElem?_append_right (by rw[h1];omega),h1,List.getElem?_drop]
 congr 3
 omega
theorem zdU (s ins:ByteArray)(a:Nat)(hi:ins.size=0)(_:a≤s.size):zfB s ins a a=s:=by
 apply ByteArray.ext
 apply Array.ext'
 rw[Zx]
 have:ins.data.toList=[]:=List.eq_nil_of_length_eq_zero (by rw[←vH];exact hi)
 rw[this,List.append_nil,List.take_append_drop]
theorem zfV {out:List Nd}{i:Nat}{v:yi}(h:qG out i (yH v))(_:i+yu v≤out.length):zi7 out i (i+yu v)=ndR v:=by
 unfold zi7 zhC ndR; apply List.ext_getElem?
 intro j
 rw[List.getElem?_map,List.getElem?_map,List.getElem?_take]
 by_cases hj:j < yu v
 ·rw[if_pos (by omega),List.getElem?_drop]
  obtain⟨q,hq⟩:∃q,(yH v)[j]?=some q:=⟨_,List.getElem?_eq_getElem (by rw[yT];exact hj)⟩
  rw[h j q hq,hq]
  simp only[Option.map_some,Nd.by,nd1,yK,List.map_map]
  congr 2
  refine(List.map_congr_left (g:=id) fun x _=>?_).trans (List.map_id _)
  simp only[Function.comp,id]
  omega
 ·rw[if_neg (by omega),List.getElem?_eq_none (by rw[yT];omega)]
  rfl
theorem zj0 {c:Int}(h3:3≤c)(h:c≤300):52≤zjW c:=by
 unfold zjW; have h1:(53:Int)≤(524288:Int).tdiv c:=by
  rw[Int.tdiv_eq_ediv_of_nonneg (by decide)]
  exact Int.le_ediv_of_mul_le (by omega) (by omega)
 split<;>omega
theorem Jw {L:LxP}{t:yi}(hn:L.n≤1000)(hg:VE L.g)(h:jJ L t):∀q∈yH t,I64 q.sym∧I64 q.kind∧I64 q.lo∧I64 q.inn∧I64 q.hi∧I64 q.look:=fun q hq=>by
 obtain⟨d,hd,e0,e1,e2,e3,e4,e5⟩:=zes h q hq
 have h1:=hg.terms; have h2:=hg.nons; unfold DB at hd; unfold I64
 rw[e0,e1,e2,e3,e4,e5]
 omega
theorem zcZ {L:LxP}{t:yi}(hn:L.n≤1000)(h:jJ L t):∀q∈ndR t,zjY q:=fun q hq=>by
 obtain⟨z,hz,rfl⟩:=List.mem_map.1 hq
 obtain⟨d,hd,e0,e1,e2,e3,e4,e5⟩:=zes h z hz
 unfold DB at hd
 refine⟨?_,?_,?_,?_⟩<;>simp only[nd1,e2,e3,e4,e5]<;>unfold ZY<;>omega
set_option maxHeartbeats 400000 in
theorem jR (n:Int)(w:World):Calls Tryz.prog 67 #[.int .i64 n] w fun e w'=>e=.returned (.int .i64 (yR n))∧w=w':=by
 go_in
 go_wp2
 all_goals go_ret
 all_goals exact⟨yt (by unfold yR;(repeat(first|omega|split))),rfl⟩
set_option maxRecDepth 100000 in
set_option maxHeartbeats 1000000 in
theorem zet (a d:Int)(w:World):Calls Tryz.prog 65 #[.agg #[.int .i64 a,.int .i64 d]] w fun e w'=>e=.returned (.agg #[.int .i64 (yR a),.int .i64 (yR d)])∧Ext w w':=by
 go_in
 go_upto_region 1 with fail; go_region_with (go_at_call 67;refine(jR _ _).mono ?_;rintro e w1 ⟨rfl,rfl⟩)
 all_goals
  go_wp2_with fail; refine bodyPost_ret (v:=.agg #[.int .i64 (yR a),.int .i64 (yR d)]) (by simp[results,Tryz.results65,go_sem, *]) rfl ⟨rfl,xi⟩
set_option maxRecDepth 100000 in
set_option maxHeartbeats 1000000 in
theorem Qg (a d i:Int)(w:World):Calls Tryz.prog 66 #[.agg #[.int .i64 a,.int .i64 d,.int .i64 i]] w fun e w'=>e=.returned (.agg #[.int .i64 (yR a),.int .i64 (yR d),.int .i64 (yR i)])∧Ext w w':=by
 go_in
 go_upto_region 1 with fail; go_wp2_with fail; refine QQ (10) [([0,1,3,4,6,7],2),([],5),([],8),([9],10)] [] (by kernel_rfl) (by kernel_rfl) ?_; (refine qP fun K hK=>?_);(first|(simp only[xQ])|(simp only[pick,yp]));(repeat go_big_quiet_step (fail));(refine wpQuiet_nil (hK _ fun next hn=>?_));(clear hK K);(simp only[pick,yp])
 go_wp2_with fail
 refine(jR _ _).mono ?_
 rintro e w1 ⟨rfl,rfl⟩; go_wp2_with fail; refine zk (fun _=>yZ xi) (hn _ _ ?_); clear hn next; (refine qP fun K hK=>?_);(first|(simp only[xQ])|(simp only[pick,yp]));(repeat go_big_quiet_step (fail));(refine wpQuiet_nil (hK _ fun next hn=>?_));(clear hK K);(simp only[pick,yp])
 go_wp2_with fail
 refine(jR _ _).mono ?_
 rintro e w1 ⟨rfl,rfl⟩; go_wp2_with fail; refine zk (fun _=>yZ xi) (hn _ _ ?_); clear hn next; (refine qP fun K hK=>?_);(first|(simp only[xQ])|(simp only[pick,yp]));(repeat go_big_quiet_step (fail));(refine wpQuiet_nil (hK _ fun next hn=>?_));(clear hK K);(simp only[pick,yp])
 go_wp2_with fail
 refine(jR _ _).mono ?_
 rintro e w1 ⟨rfl,rfl⟩; go_wp2_with fail; refine zk (fun _=>yZ xi) (hn _ _ ?_); clear hn next; (refine qP fun K hK=>?_);(first|(simp only[xQ])|(simp only[pick,yp]));(repeat go_big_quiet_step (fail));(refine wpQuiet_nil (hK _ fun next hn=>?_));(clear hK K);(simp only[pick,yp])
 go_wp2_with fail; refine zk (fun h=>absurd rfl h) (hn _ _ ?_); clear hn next; (refine Jo fun K hK=>?_);(first|(simp only[xQ])|(simp only[pick,yp]));(repeat go_big_quiet_step (fail));(refine wpQuiet_nil (hK _ ?_));(clear hK K)
 go_wp2_with fail; refine bodyPost_ret (v:=.agg #[.int .i64 (yR a),.int .i64 (yR d),.int .i64 (yR i)]) (by simp[results,Tryz.results66,go_sem, *]) rfl ⟨rfl,xi⟩
set_option maxRecDepth 100000 in
set_option maxHeartbeats 1000000 in
theorem zda (f t a d i:Int)(w:World):
 Calls Tryz.prog 33 #[.agg #[.int .i64 f,.int .i64 t],.agg #[.int .i64 a,.int .i64 d,.int .i64 i]] w fun e w'=>e=.returned (.bool (zbU f t a d i))∧Ext w w':=by
 have ha:=xS a; have hd:=xS d; have hi:=xS i; have hf:=xS f; have ht:=xS t; go_in
 go_wp2_with fail; go_upto_region 1 with fail; go_cut [] (fun wx=>Ext ((w.alloc (.cells #[.int .i64 (yR f),.int .i64 (yR t)] 61)).alloc (.cells #[.int .i64 (yR a),.int .i64 (yR d),.int .i64 (yR i)] 50)) wx)
 case first=>
  go_region_with (first|(go_at_call 65;refine(zet _ _ _).mono ?_;rintro e w1 ⟨rfl,os1,k1,rfl⟩)|(go_at_call 66;refine(Qg _ _ _ _).mono ?_;rintro e w2 ⟨rfl,os2,k2,rfl⟩))
  all_goals(go_wp2_with fail;go_meet;exact xi)
 case rest=>
  obtain⟨os,k,rfl⟩:=hcut
  go_wp2
  all_goals go_ret
  all_goals exact⟨yx (by unfold zbU;simp[*];try omega),xi⟩
set_option maxRecDepth 100000 in
set_option maxHeartbeats 1000000 in
theorem zgB (p:Prt)(w:World):Calls Tryz.prog 34 #[zf5 p] w fun e w'=>e=.returned (.agg #[.int .i64 (jb p.nd),.int .i64 p.nd.look])∧Ext w w':=by
 obtain⟨⟨sym,kind,lo,inn,hi,look,kids,met⟩,kA,kc⟩:=p
 by_cases hk:kind=1
 ·have HO:Hid (jb ⟨sym,kind,lo,inn,hi,look,kids,met⟩=-1):=zh (if_pos hk); have hk1:(kind==1)=true:=by simpa using hk
  clear hk; go_in
  go_wp2_with fail; refine bodyPost_ret (v:=.agg #[.int .i64 (-1),.int .i64 look]) (by simp[results,Tryz.results34,go_sem, *]) rfl ⟨?_,xi⟩
  rw[HO.out]
 ·have HO:Hid (jb ⟨sym,kind,lo,inn,hi,look,kids,met⟩=lo):=zh (if_neg hk); have hk1:(kind==1)=false:=by simpa using hk
  clear hk; go_in
  go_wp2_with fail; refine bodyPost_ret (v:=.agg #[.int .i64 lo,.int .i64 look]) (by simp[results,Tryz.results34,go_sem, *]) rfl ⟨?_,xi⟩
  rw[HO.out]
set_option maxRecDepth 100000 in
set_option maxHeartbeats 1000000 in
theorem zb7 (x a d i:Int)(w:World):
 Calls Tryz.prog 35 #[.int .i64 x,.agg #[.int .i64 a,.int .i64 d,.int .i64 i]] w fun e w'=>e=.returned (.int .i64 (zb6 x a d i))∧Ext w w':=by
 have ha:=xS a; have hd:=xS d; have hi:=xS i; have hx:=xS x; go_in
 go_upto_region 1 with fail; refine yj (5) (zj [0,2] (.step 1 (.step 3 (zj [4] (.step 5 .fin))))) (by kernel_rfl) (by kernel_rfl) ?_; refine bts ?_; refine yy fun next hn=>?_;simp only[pick,yp]; go_wp2_with fail
 refine(jR _ _).mono ?_
 rintro e w1 ⟨rfl,rfl⟩; go_wp2_with fail; refine zk (fun _=>yZ xi) (hn _ _ ?_); clear hn next; refine yy fun next hn=>?_;simp only[pick,yp]; go_wp2_with fail
 refine(Qg _ _ _ _).mono ?_
 rintro e w2 ⟨rfl,os2,k2,rfl⟩; go_wp2_with fail; refine zk (fun _=>yZ xi) (hn _ _ ?_); clear hn next; refine bts ?_; refine yy fun next hn=>?_;simp only[pick,yp]; go_wp2_with fail; refine zk (fun h=>absurd rfl h) (hn _ _ ?_); clear hn next; (refine xw ?_)
 go_wp2
 all_goals go_ret
 all_goals exact⟨yt (by unfold zb6 Yn;repeat(first|omega|split)),xi⟩
set_option maxRecDepth 100000 in
set_option maxHeartbeats 1000000 in
theorem zhE (x a d i:Int)(w:World):
 Calls Tryz.prog 36 #[.int .i64 x,.agg #[.int .i64 a,.int .i64 d,.int .i64 i]] w fun e w'=>e=.returned (.int .i64 (zjX x a d i))∧Ext w w':=by
 have ha:=xS a; have hd:=xS d; have hi:=xS i; have hx:=xS x; go_in
 go_upto_region 1 with fail; refine yj (5) (zj [0,2] (.step 1 (.step 3 (zj [4] (.step 5 .fin))))) (by kernel_rfl) (by kernel_rfl) ?_; refine bts ?_; refine yy fun next hn=>?_;simp only[pick,yp]; go_wp2_with fail
 refine(jR _ _).mono ?_
 rintro e w1 ⟨rfl,rfl⟩; go_wp2_with fail; refine zk (fun _=>yZ xi) (hn _ _ ?_); clear hn next; refine yy fun next hn=>?_;simp only[pick,yp]; go_wp2_with fail
 refine(Qg _ _ _ _).mono ?_
 rintro e w2 ⟨rfl,os2,k2,rfl⟩; go_wp2_with fail; refine zk (fun _=>yZ xi) (hn _ _ ?_); clear hn next; refine bts ?_; refine yy fun next hn=>?_;simp only[pick,yp]; go_wp2_with fail; refine zk (fun h=>absurd rfl h) (hn _ _ ?_); clear hn next; (refine xw ?_)
 go_wp2
 all_goals go_ret
 all_goals exact⟨yt (by unfold zjX Yn;repeat(first|omega|split)),xi⟩
end Go.Proofs.YtmbelmngniddjaaGreat
namespace Go.Proofs.YtmbelmngniddjaaGreat
open Go.RowKit
attribute [local go_sem] zF zB zI zJ zw zt zN zD zX zQ zK zP zO zL zM zC
set_option maxHeartbeats 2000000 in
theorem zfd (p:Prt)(w:World):Calls Tryz.prog 64 #[zf5 p] w fun e w'=>e=.returned (.bool (decide (ZW p.nd)))∧Ext w w':=by
 obtain⟨⟨sym,kind,lo,inn,hi,look,kids,met⟩,kA,kc⟩:=p
 go_in
 go_wp2_with (first|(go_at_call 100;refine(zdv _ _).mono ?_;rintro e w' ⟨rfl,rfl⟩)|go_in)
 all_goals go_ret
 all_goals refine⟨yx ?_,(Ext.refl _).alloc _⟩
 all_goals(rw[Bool.eq_iff_iff,decide_eq_true_iff])
 all_goals grind [ZW,zf8,YH]
end Go.Proofs.YtmbelmngniddjaaGreat
namespace Go.Proofs.YtmbelmngniddjaaGreat
open Go.RowKit
attribute [local go_sem] zF zB zI zJ zw zt zN zD zX zQ zK zP zO zL zT zR zS zG zM zC
set_option maxRecDepth 100000 in
set_option maxHeartbeats 1500000 in
theorem zbO (A:Option Addr)(c:Nat)(ps:List Prt):∀(fuel i m:Nat) (ok:Bool) (p:Prt) (w:World),PS w A c ps→ps.length - i≤fuel→ps[i]?=some p→yP (nds ps) p.nd.kids (i+1) ok m→
 Calls Tryz.prog 41 #[.slice A ps.length c,.int .i64 i] w fun e w'=>e=.returned (.int .i64 (ZK (nds ps) (i+1) m ok p.nd.hi p.nd.lo p.nd.kids))∧Ext w w':=by
 intro fuel; induction fuel with
 |zero=>
  intro i m ok p w h hf hp ht
  have:=yw hp
  omega
 |succ fuel ih=>
  intro i m ok p w h hf hp ht; have hil:=yw hp; have hl:=h.few.len
  obtain⟨b,off,rfl,hb,hcell⟩:=h.parts (by omega)
  obtain⟨_,_,d2,_,d4,_,d6,_⟩:=hcell i p hp
  have hcap:=h.cap; have b1:IntKind.i64.wrap ((i:Int)+1)=((i+1:Nat):Int):=by
   rw[show((i:Int)+1)=((i+1:Nat):Int)by omega]
   exact IntWalk.i64_in _ (by omega)
  have hpo:=h.oks.get hp; have ho1:=hpo.cap; have ho2:=hpo.top; have S:=zh h; have IH:=zh ih; have HT:=zh ht; have HPP:=zh hp; have HPO:=zh hpo; clear h ih ht hp hcell hpo; go_in
  go_upto_region 1 with fail; refine Je (by kernel_rfl) (by kernel_rfl) ?_; repeat(go_big_quiet_step (fail))
  refine wpQuiet_nil ?_; intro _ hw'
  obtain⟨x9,rfl⟩:=hw'
  obtain⟨W4,hW4⟩:∃W4,more w x9.os x9.k=W4:=⟨_,rfl⟩
  have HX4:Hid (Ext w W4):=zh (by rw[←hW4];exact⟨_,_,rfl⟩)
  rw[hW4]
  clear hW4
  have CELLS:=zh (fun(V:World) (x:Ext w V)=>(⟨(x.below.cell (p:=⟨b,off+i*8+4,none⟩) hb).trans d4,(x.below.cell (p:=⟨b,off+i*8+6,none⟩) hb).trans d6,Nat.lt_of_lt_of_le hb x.size⟩:
   V.cell? ⟨b,off+i*8+4,none⟩=some (.int .i64 p.nd.hi)∧V.cell? ⟨b,off+i*8+6,none⟩=some (.slice p.kA p.nd.kids.length p.kc)∧b < V.heap.size))
  clear d2 d4 d6 b1; go_wp2_with fail
  go_loopw [5,6,7] (fun nx av kv wr=>∃(k n2:Nat) (a2:Int),k≤p.nd.kids.length∧kv=.int .i64 k∧nx=.int .i64 n2∧av=.int .i64 a2∧i < n2∧n2≤ps.length∧
   Hid (yP (nds ps) (p.nd.kids.drop k) n2 ok m∧ZK (nds ps) (i+1) m ok p.nd.hi p.nd.lo p.nd.kids=ZK (nds ps) n2 m ok p.nd.hi a2 (p.nd.kids.drop k))∧Hid (Ext w wr)) (fun _ _ kv _=>p.nd.kids.length - (intOf kv).toNat)
  case atStart=>exact⟨0,i+1,p.nd.lo,Nat.zero_le _,rfl,rfl,rfl,by omega,by omega,zh ⟨HT.out,rfl⟩,HX4⟩
  case round=>
   obtain⟨k,n2,a2,hk,rfl,rfl,rfl,hin,hn2,hH,hx⟩:=hrel
   obtain⟨kd4,kd6,kb⟩:=CELLS.out wr hx.out
   by_cases hlt:k < p.nd.kids.length
   ·obtain⟨bk,offk,hkA,hbk,hck⟩:=(HPO.out.ext hx.out).kids (by omega)
    have e1:=hck k hlt
    obtain⟨x,hxk⟩:∃x,p.nd.kids[k]?=some x:=⟨_,List.getElem?_eq_getElem hlt⟩
    rw[List.getD_eq_getElem?_getD,hxk]at e1
    dsimp only[Option.getD_some]at e1; have hdr:p.nd.kids.drop k=x ::p.nd.kids.drop (k+1):=by
     rw[List.drop_eq_getElem_cons hlt]
     congr 1
     rw[List.getElem?_eq_getElem hlt]at hxk
     injection hxk
    have hH':=hH.out
    rw[hdr]at hH'
    obtain⟨ht2,he2⟩:=hH'
    have HE2:=zh he2; have HT2:=zh ht2
    rw[hkA]at kd6
    clear hck hxk hdr he2 ht2 hH hkA; by_cases hbad:x≠(n2:Int)∨(nds ps).length≤n2
    ·have HR:=zh (zf9 (hi:=p.nd.hi) (at':=a2) HT2.out hbad)
     rw[zx]at hbad
     by_cases hxn:x=(n2:Int)
     ·subst hxn; have hle:decide (ps.length≤n2)=true:=decide_eq_true (by omega); clear hbad; go_wp2_with fail; go_ret
      exact⟨yt (by rw[HE2.out,HR.out]),hx.out.trans xi⟩
     ·have hxb:(x !=(n2:Int))=true:=by simpa using hxn
      clear hbad hxn; go_wp2_with fail; go_ret
      exact⟨yt (by rw[HE2.out,HR.out]),hx.out.trans xi⟩
    ·have hxn:x=(n2:Int):=Decidable.byContradiction fun h=>hbad (.inl h); have hnl:n2 < ps.length:=by rw[←zx];exact Nat.lt_of_not_le fun h=>hbad (.inr h)
     subst hxn; clear hbad
     obtain⟨q,hq⟩:∃q,ps[n2]?=some q:=⟨_,List.getElem?_eq_getElem hnl⟩
     obtain⟨b2,off2,hA2,_,hc2⟩:=(S.out.ext hx.out).parts (by omega)
     injection hA2 with hA2; injection hA2 with ea eb; subst ea eb
     obtain⟨_,_,g2,_,g4,_,_,_⟩:=hc2 n2 q hq
     have hle:decide (ps.length≤n2)=false:=decide_eq_false (by omega); by_cases hah:q.nd.lo < a2
     ·have HR:=zh (zcj (m:=m) (ok:=ok) (hi:=p.nd.hi) (ks:=p.nd.kids.drop (k+1)) (yJ hq) hah); have hd:decide (q.nd.lo < a2)=true:=decide_eq_true hah; clear hah hq hc2; go_wp2_with fail; go_ret
      exact⟨yt (by rw[HE2.out,HR.out]),hx.out.trans xi⟩
     ·have hd:decide (q.nd.lo < a2)=false:=decide_eq_false hah
      obtain⟨ok',m',ht'⟩:=YR (nds ps) ps.length q.nd.kids (n2+1) (by rw[zx];omega)
      have CALL:=zh (fun(V:World) (x:Ext wr V)=>IH.out n2 m' ok' q V ((S.out.ext hx.out).ext x) (by omega) hq ht'); have HBN:=zh (Jy (hi:=p.nd.hi) (at':=a2) (yJ hq) HT2.out ht'); have HOK:=zh (za6 (hi:=p.nd.hi) (at':=a2) (yJ hq) (Int.not_lt.1 hah) HT2.out ht'); have hm':=ht'.le.2 (by rw[zx];omega)
      rw[zx]at hm'
      obtain⟨r,hr⟩:∃r,ZK (nds ps) (n2+1) m' ok' q.nd.hi q.nd.lo q.nd.kids=r:=⟨_,rfl⟩
      rw[hr]at CALL HBN HOK
      clear hah hq hc2 ht' hr; go_wp2_with fail
      refine(CALL.out _ xi).mono ?_
      rintro e w3 ⟨rfl,hx3⟩; have HX3:Hid (Ext w w3):=zh (hx.out.trans (Ext.trans xi hx3)); clear hx3; by_cases hneg:r < 0
      ·have hrd:decide (r < 0)=true:=decide_eq_true hneg; have HR:=zh (HBN.out (by omega)); clear hneg; go_wp2_with fail; go_ret
       exact⟨yt (by rw[HE2.out,HR.out]),HX3.out⟩
      ·have hrd:decide (r < 0)=false:=decide_eq_false hneg
       obtain⟨h1,h2,h3,h4⟩:=HOK.out (by omega)
       clear hneg; subst h1; have HR:=zh (show yP (nds ps) (p.nd.kids.drop (k+1)) m' ok m∧ZK (nds ps) (i+1) m ok p.nd.hi p.nd.lo p.nd.kids=ZK (nds ps) m' m ok p.nd.hi q.nd.hi (p.nd.kids.drop (k+1))from⟨h3,HE2.out.trans h4⟩); clear h3 h4; go_wp2_with fail; go_roundw
       case rel=>exact⟨k+1,m',q.nd.hi,by omega,by go_num,rfl,rfl,by omega,hm',HR,HX3⟩
       case measure=>simp[intOf];omega
   ·obtain rfl:k=p.nd.kids.length:=by omega
    have hH':=hH.out
    rw[List.drop_eq_nil_of_le (Nat.le_refl _)]at hH'
    have HR:=zh (hH'.2.trans (zgP hH'.1)); clear hH' hH; by_cases ha:a2≤p.nd.hi
    ·have hd:decide (p.nd.hi < a2)=false:=decide_eq_false (by omega); have HR2:=zh (HR.out.trans (if_pos ha)); clear ha; go_wp2_with fail; go_ret
     exact⟨yt (by rw[HR2.out]),hx.out.trans xi⟩
    ·have hd:decide (p.nd.hi < a2)=true:=decide_eq_true (by omega); have HR2:=zh (HR.out.trans (if_neg ha)); clear ha; go_wp2_with fail; go_ret
     exact⟨yt (by rw[HR2.out]),hx.out.trans xi⟩
section
variable {A:Option Addr}{c:Nat}{ps:List Prt}{w:World}
set_option maxRecDepth 100000 in
set_option maxHeartbeats 1500000 in
theorem VJ (h:PS w A c ps):Calls Tryz.prog 31 #[.slice A ps.length c] w fun e w'=>e=.returned (.int .i64 (JH (nds ps)))∧Ext w w':=by
 have hl:=h.few.len; have S:=zh h; have HC:=zh (vy hl); have hd0:decide ((524288:Int) < (ps.length:Int))=false:=decide_eq_false (by omega); clear h; go_in
 go_wp2_with fail; go_loopw [3] (fun v wr=>∃j:Nat,j≤ps.length∧v=.int .i64 j∧Hid (∀i p,i < j→ps[i]?=some p→ZW p.nd∧(0 < i→p.nd.kind≠1))∧Hid (Ext w wr)) (fun v _=>ps.length - (intOf v).toNat)
 case atStart=>exact⟨0,Nat.zero_le _,rfl,zh (fun i p hi=>by omega),zh (Ext.refl _)⟩
 case round=>
  obtain⟨j,hj,rfl,hB,hx⟩:=hrel
  by_cases hlt:j < ps.length
  ·obtain⟨p,hp⟩:∃p,ps[j]?=some p:=⟨_,List.getElem?_eq_getElem hlt⟩
   obtain⟨b,off,rfl,hb,hcell⟩:=(S.out.ext hx.out).parts (by omega)
   obtain⟨d0,d1,d2,d3,d4,d5,d6,d7⟩:=hcell j p hp
   have hcap:=S.out.cap; have NT:Hid (¬(ZW p.nd∧(0 < j→p.nd.kind≠1))→¬xR (nds ps)):=zh fun hn T=>hn (T.bare j p.nd (yJ hp)); have NX:Hid (ZW p.nd∧(0 < j→p.nd.kind≠1)→∀i q,i < j+1→ps[i]?=some q→ZW q.nd∧(0 < i→q.nd.kind≠1)):=zh fun hok i q hi hq=>by
    rcases(show i < j∨i=j by omega)with h|rfl
    ·exact hB.out i q h hq
    ·rw[hp]at hq
     injection hq with hq; subst hq; exact hok
   have D1:=zh (fun(V:World) (x:Ext wr V)=>(⟨(x.below.cell (p:=⟨b,off+j*8+1,none⟩) hb).trans d1,Nat.lt_of_lt_of_le hb x.size⟩:V.cell? ⟨b,off+j*8+1,none⟩=some (.int .i64 p.nd.kind)∧b < V.heap.size)); clear hcell hp; go_wp2_with fail
   refine(zfd p wr).mono ?_
   rintro e w2 ⟨rfl,hx2⟩
   obtain⟨k1,k2⟩:=D1.out w2 hx2
   have HX2:=zh (hx.out.trans hx2); clear hx2 d0 d1 d2 d3 d4 d5 d6 d7; by_cases hBr:ZW p.nd
   ·have hbd:decide (ZW p.nd)=true:=decide_eq_true hBr; by_cases h0:j=0
    ·have h0d:decide (0 < j)=false:=decide_eq_false (by omega); have N2:=zh (NX.out ⟨hBr,fun h=>by omega⟩); clear hBr h0; go_wp2_with fail; go_roundw
     case rel=>exact⟨j+1,by omega,by go_num,N2,HX2⟩
     case measure=>simp[intOf];omega
    ·have h0d:decide (0 < j)=true:=decide_eq_true (by omega); by_cases hk:p.nd.kind=1
     ·have hk1:(p.nd.kind==1)=true:=by simp[hk]
      have N2:=zh (NT.out (fun h=>h.2 (by omega) hk)); clear hBr h0 hk; go_wp2_with fail; go_ret
      exact⟨yt (by rw[HC.out.2 N2.out]),HX2.out⟩
     ·have hk1:(p.nd.kind==1)=false:=by simp[hk]
      have N2:=zh (NX.out ⟨hBr,fun _=>hk⟩); clear hBr h0 hk; go_wp2_with fail; go_roundw
      case rel=>exact⟨j+1,by omega,by go_num,N2,HX2⟩
      case measure=>simp[intOf];omega
   ·have hbd:decide (ZW p.nd)=false:=decide_eq_false hBr; have N2:=zh (NT.out (fun h=>hBr h.1)); clear hBr; go_wp2_with fail; go_ret
    exact⟨yt (by rw[HC.out.2 N2.out]),HX2.out⟩
  ·obtain rfl:j=ps.length:=by omega
   by_cases h0:ps.length=0
   ·have hz:((ps.length:Int)==0)=true:=by simp[h0]
    have N2:Hid (¬xR (nds ps)):=zh fun T=>by have:=T.pos;rw[zx]at this;omega
    clear h0; go_wp2_with fail; go_ret
    exact⟨yt (by rw[HC.out.2 N2.out]),hx.out⟩
   ·have hz:((ps.length:Int)==0)=false:=by rw[beq_eq_false_iff_ne];omega
    obtain⟨p,hp⟩:∃p,ps[0]?=some p:=⟨_,List.getElem?_eq_getElem (by omega)⟩
    obtain⟨ok,m,ht⟩:=YR (nds ps) ps.length p.nd.kids 1 (by rw[zx];omega)
    have CE:=zh (zbO A c ps ps.length 0 m ok p wr (S.out.ext hx.out) (by omega) hp ht); have HTI:Hid (xR (nds ps)↔ZK (nds ps) 1 m ok p.nd.hi p.nd.lo p.nd.kids=(ps.length:Int)):=zh (by
     rw[zgt (yJ hp) ht,zx]
     refine⟨fun h=>h.2,fun h=>⟨fun i q hq=>?_,h⟩⟩
     obtain⟨q',hq',rfl⟩:=ZE hq
     exact hB.out i q' (yw hq') hq')
    obtain⟨r,hr⟩:∃r,ZK (nds ps) 1 m ok p.nd.hi p.nd.lo p.nd.kids=r:=⟨_,rfl⟩
    rw[Nat.zero_add,hr]at CE
    rw[hr]at HTI
    clear hp ht hr h0; go_wp2_with fail; refine CE.out.mono ?_; rintro e w3 ⟨rfl,hx3⟩; have HX3:=zh (hx.out.trans hx3); clear hx3; by_cases hrn:r=(ps.length:Int)
    ·have hb:(r !=(ps.length:Int))=false:=by simp[hrn]
     have T:=zh (HTI.out.2 hrn); clear hrn; go_wp2_with fail; go_ret
     exact⟨yt (by rw[HC.out.1 T.out]),HX3.out⟩
    ·have hb:(r !=(ps.length:Int))=true:=by simpa using hrn
     have T:=zh (fun h=>hrn (HTI.out.1 h)); clear hrn; go_wp2_with fail; go_ret
     exact⟨yt (by rw[HC.out.2 T.out]),HX3.out⟩
theorem J4 (h:PS w A c ps)(T:xR (nds ps)):Calls Tryz.prog 31 #[.slice A ps.length c] w fun e w'=>e=.returned (.int .i64 0)∧Ext w w':=
 (VJ h).mono fun _ _ ⟨he,hx⟩=>⟨by rw[he,(vy h.few.len).1 T],hx⟩
theorem zdz (h:PS w A c ps)(T:¬xR (nds ps)):Calls Tryz.prog 31 #[.slice A ps.length c] w fun e w'=>e=.returned (.int .i64 2)∧Ext w w':=
 (VJ h).mono fun _ _ ⟨he,hx⟩=>⟨by rw[he,(vy h.few.len).2 T],hx⟩
set_option maxRecDepth 100000 in
set_option maxHeartbeats 1000000 in
theorem zh9 (i:Int)(h:PS w A c ps)(T:xR (nds ps)):Calls Tryz.prog 39 #[.slice A ps.length c,.int .i64 i] w fun e w'=>e=.returned (.bool (decide (0≤i)&&decide (i < (ps.length:Int))))∧Ext w w':=by
 have CH:=zh (J4 h T); have hl:=h.few.len; clear h T; go_in
 go_wp2_with fail; refine CH.out.mono ?_; rintro e w2 ⟨rfl,hx2⟩; have HX:=zh hx2; clear hx2; go_wp2_with fail; all_goals go_ret
 all_goals exact⟨yx (by rw[Bool.eq_iff_iff];simp;try omega),HX.out⟩
end
end Go.Proofs.YtmbelmngniddjaaGreat
