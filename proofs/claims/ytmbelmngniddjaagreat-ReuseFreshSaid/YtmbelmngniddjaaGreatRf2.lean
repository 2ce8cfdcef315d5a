/- Rf: texts that the proof rests on, part 2. -/
import Derived.Test.YtmbelmngniddjaaGreatRf1
import Derived.Laws.MakeOwn
namespace Go.Proofs.YtmbelmngniddjaaGreat
open Go.RowKit
attribute [local go_sem] zF zB zI zJ zw zt zN zD zX zQ zK zP zO zL zT zR zS zG zM zC
structure Cl where
 a:Int
 b:Int
 c:Int
 d:Int
 deriving DecidableEq
def Cl.cells (x:Cl):List Value:=[.int .u64 x.a,.int .u64 x.b,.int .u64 x.c,.int .u64 x.d]
def Cl.V (x:Cl):Value:=.agg #[.int .u64 x.a,.int .u64 x.b,.int .u64 x.c,.int .u64 x.d]
def Cl.get (x:Cl)(q:Nat):Int:=if q=0 then x.a else if q=1 then x.b else if q=2 then x.c else x.d
def Cl.set (x:Cl)(q:Nat)(v:Int):Cl:=if q=0 then {x with a:=v} else if q=1 then {x with b:=v} else if q=2 then {x with c:=v} else {x with d:=v}
def Cl.ok (x:Cl):Prop:=U64 x.a∧U64 x.b∧U64 x.c∧U64 x.d
def Cl.zero:Cl:=⟨0,0,0,0⟩
theorem Cl.get_ok {x:Cl}(h:x.ok)(q:Nat):U64 (x.get q):=by
 obtain⟨h1,h2,h3,h4⟩:=h
 unfold Cl.get; repeat' split
 all_goals assumption
theorem Cl.cells_get (x:Cl){q:Nat}(h:q < 4):x.cells[q]?=some (.int .u64 (x.get q)):=by
 have hq:q=0∨q=1∨q=2∨q=3:=by omega
 rcases hq with h|h|h|h<;>rw[h]<;>rfl
theorem Cl.cells_set (x:Cl){q:Nat}(h:q < 4)(v:Int):#[Value.int .u64 x.a,.int .u64 x.b,.int .u64 x.c,.int .u64 x.d].setIfInBounds q (.int .u64 v)=#[Value.int .u64 (x.set q v).a,.int .u64 (x.set q v).b,.int .u64 (x.set q v).c,.int .u64 (x.set q v).d]:=by
 have hq:q=0∨q=1∨q=2∨q=3:=by omega
 rcases hq with h|h|h|h<;>rw[h]<;>rfl
def zjV (x:Cl)(b:Nat):Bool:=tb (x.get (b / 64)) (b % 64)
def zan (x:Cl)(b:Nat):Cl:=x.set (b / 64) (bits .or .u64 (x.get (b / 64)) (IntKind.u64.wrap (2 ^ (b % 64))))
def JS (x y:Cl):Cl:=⟨bits .or .u64 x.a y.a,bits .or .u64 x.b y.b,bits .or .u64 x.c y.c,bits .or .u64 x.d y.d⟩
theorem zgd {x:Cl}(h:x.ok)(b:Nat):(zan x b).ok:=by
 obtain⟨h1,h2,h3,h4⟩:=h
 unfold zan Cl.set; repeat' split
 all_goals(refine⟨?_,?_,?_,?_⟩<;>(try dsimp only)<;>first|assumption|exact vm ..)
theorem Cl.zero_ok:Cl.zero.ok:=by unfold Cl.ok Cl.zero U64;decide
set_option maxRecDepth 100000 in
set_option maxHeartbeats 2000000 in
theorem zhJ (x:Cl)(b:Nat)(w:World)(hb:b < 256)(hx:x.ok):Calls Tryz.prog 119 #[x.V,.int .u8 b] w fun e w'=>e=.returned (.bool (zjV x b))∧Ext w w':=by
 have B0:=heap_alloc_new w (.cells #[.int .u64 x.a,.int .u64 x.b,.int .u64 x.c,.int .u64 x.d] 145)
 obtain⟨W,hW⟩:∃W,w.alloc (.cells #[.int .u64 x.a,.int .u64 x.b,.int .u64 x.c,.int .u64 x.d] 145)=W:=⟨_,rfl⟩
 rw[hW]at B0
 have hv:=x.get_ok hx (b / 64); have c0:W.cell? ⟨w.heap.size,b / 64,none⟩=some (.int .u64 (x.get (b / 64))):=by
  rw[cr _ B0,←Cl.cells_get x (show b / 64 < 4 by omega)]
  exact List.getElem?_toArray ..
 have HR:Hid (zjV x b=(bits .and .u64 (x.get (b / 64) / 2 ^ (b % 64)) 1==1)):=zh (by
  rw[zf7 hv]
  unfold zjV; cases tb (x.get (b / 64)) (b % 64)<;>rfl)
 obtain⟨v,hv⟩:∃v,x.get (b / 64)=v:=⟨_,rfl⟩
 rw[hv]at c0 HR
 have X1:Hid (Ext w W):=zh (by rw[←hW];exact xi); clear hx B0 hv; unfold Cl.V; go_in
 go_wp2_with fail; go_ret
 exact⟨yx HR.out.symm,X1.out⟩
set_option maxRecDepth 100000 in
set_option maxHeartbeats 2000000 in
theorem zb1 (x:Cl)(b:Nat)(w:World)(hb:b < 256):Calls Tryz.prog 147 #[x.V,.int .u8 b] w fun e w'=>e=.returned (zan x b).V∧Ext w w':=by
 obtain⟨W,hW⟩:∃W,(w.alloc (.cells #[.int .u64 x.a,.int .u64 x.b,.int .u64 x.c,.int .u64 x.d] 145)).alloc (.cells #[.int .u64 0,.int .u64 0,.int .u64 0,.int .u64 0] 145)=W:=⟨_,rfl⟩
 have B1:W.heap[w.heap.size+1]?=some (.cells #[.int .u64 0,.int .u64 0,.int .u64 0,.int .u64 0] 145):=by rw[←hW];exact(by simp only[zm,World.size_alloc];(repeat(split;(first|rfl|(exfalso;omega))));(try(first|(exfalso;omega)|simp_all)))
 have B0:W.heap[w.heap.size]?=some (.cells #[.int .u64 x.a,.int .u64 x.b,.int .u64 x.c,.int .u64 x.d] 145):=by rw[←hW];exact(by simp only[zm,World.size_alloc];(repeat(split;(first|rfl|(exfalso;omega))));(try(first|(exfalso;omega)|simp_all)))
 have X1:Hid (Ext w W):=zh (by rw[←hW];exact xi); have hq:b / 64 < 4:=by omega
 have c0:W.cell? ⟨w.heap.size,b / 64,none⟩=some (.int .u64 (x.get (b / 64))):=by
  rw[cr _ B0,←Cl.cells_get x hq]
  exact List.getElem?_toArray ..
 have f0:W.frozen? ⟨w.heap.size,b / 64,none⟩=false:=by simp[World.frozen?,B0]
 obtain⟨u,hu⟩:∃u,bits .or .u64 (x.get (b / 64)) (IntKind.u64.wrap (2 ^ (b % 64)))=u:=⟨_,rfl⟩
 obtain⟨y,hy⟩:∃y,zan x b=y:=⟨_,rfl⟩
 have hy2:x.set (b / 64) u=y:=by rw[←hy,←hu];rfl
 obtain⟨g,hg⟩:∃g,w.heap.size=g:=⟨_,rfl⟩
 rw[hg]at B0 B1 c0 f0
 obtain⟨W1,hW1⟩:∃W1,W.setCell ⟨g,b / 64,none⟩ (.int .u64 u)=W1:=⟨_,rfl⟩
 have D0:W1.heap[g]?=some (.cells #[.int .u64 y.a,.int .u64 y.b,.int .u64 y.c,.int .u64 y.d] 145):=by
  rw[←hW1,←hy2,←Cl.cells_set x hq]
  simp[World.setCell,Array.getElem?_modify,B0]
 have D1:W1.heap[g+1]?=some (.cells #[.int .u64 0,.int .u64 0,.int .u64 0,.int .u64 0] 145):=by
  rw[←hW1,←B1]
  simp[World.setCell,Array.getElem?_modify]
 have X2:Hid (Ext w W1):=zh (by rw[←hW1];exact X1.out.setCell (by show _≤g;omega) _); have d0:=cr 0 D0; have d1:=cr 1 D0; have d2:=cr 2 D0; have d3:=cr 3 D0; have e0:=cr 0 D1; have e1:=cr 1 D1; have e2:=cr 2 D1; have e3:=cr 3 D1; have f1:=fun k=>zi D1 k
 obtain⟨W2,hW2⟩:∃W2,yX W1 (g+1) (.int .u64 y.a) (.int .u64 y.b) (.int .u64 y.c) (.int .u64 y.d)=W2:=⟨_,rfl⟩
 have G1:=yE D1 (.int .u64 y.a) (.int .u64 y.b) (.int .u64 y.c) (.int .u64 y.d); have X3:Hid (Ext w W2):=zh (by rw[←hW2];exact(yg (S:=fun k=>k=g+1) rfl _ _ _ _).ext X2.out (fun k hk=>by omega))
 rw[hW2]at G1
 unfold yX y8 put2 at hW2; have g0:=cr 0 G1; have g1:=cr 1 G1; have g2:=cr 2 G1; have g3:=cr 3 G1; simp at d0 d1 d2 d3 e0 e1 e2 e3 g0 g1 g2 g3
 rw[hy]
 obtain⟨v,hv⟩:∃v,x.get (b / 64)=v:=⟨_,rfl⟩
 rw[hv]at c0 hu
 clear B0 B1 D0 D1 G1 X2 hy hy2 hv hq X1; unfold Cl.V; go_in
 go_upto_region 1 with fail; clear hW; go_upto_region 2 with fail; clear hW1 hu; go_wp2_with fail; exact bodyPost_ret (v:=.agg #[.int .u64 y.a,.int .u64 y.b,.int .u64 y.c,.int .u64 y.d]) (by simp[results,Tryz.results147,go_sem, *]) rfl ⟨rfl,X3.out⟩
def yW (x:Cl):Array Value:=#[.int .u64 x.a,.int .u64 x.b,.int .u64 x.c,.int .u64 x.d]
theorem ze6 (x y:Cl):(JS x y).ok:=by
 unfold JS Cl.ok; dsimp only
 exact⟨vm ..,vm ..,vm ..,vm ..⟩
set_option maxRecDepth 100000 in
set_option maxHeartbeats 2000000 in
theorem zec (x y:Cl)(w:World):Calls Tryz.prog 145 #[x.V,y.V] w fun e w'=>e=.returned (JS x y).V∧Ext w w':=by
 obtain⟨W,hW⟩:∃W,((w.alloc (.cells #[.int .u64 x.a,.int .u64 x.b,.int .u64 x.c,.int .u64 x.d] 145)).alloc (.cells #[.int .u64 y.a,.int .u64 y.b,.int .u64 y.c,.int .u64 y.d] 145)).alloc (.cells #[.int .u64 0,.int .u64 0,.int .u64 0,.int .u64 0] 145)=W:=⟨_,rfl⟩
 have B0:W.heap[w.heap.size]?=some (.cells #[.int .u64 x.a,.int .u64 x.b,.int .u64 x.c,.int .u64 x.d] 145):=by rw[←hW];exact(by simp only[zm,World.size_alloc];(repeat(split;(first|rfl|(exfalso;omega))));(try(first|(exfalso;omega)|simp_all)))
 have B1:W.heap[w.heap.size+1]?=some (.cells #[.int .u64 y.a,.int .u64 y.b,.int .u64 y.c,.int .u64 y.d] 145):=by rw[←hW];exact(by simp only[zm,World.size_alloc];(repeat(split;(first|rfl|(exfalso;omega))));(try(first|(exfalso;omega)|simp_all)))
 have B2:W.heap[w.heap.size+1+1]?=some (.cells #[.int .u64 0,.int .u64 0,.int .u64 0,.int .u64 0] 145):=by rw[←hW];exact(by simp only[zm,World.size_alloc];(repeat(split;(first|rfl|(exfalso;omega))));(try(first|(exfalso;omega)|simp_all)))
 have X1:Hid (Ext w W):=zh (by rw[←hW];exact xi)
 obtain⟨g,hg⟩:∃g,w.heap.size=g:=⟨_,rfl⟩
 rw[hg]at B0 B1 B2
 obtain⟨z,hz⟩:∃z,JS x y=z:=⟨_,rfl⟩
 have h0:bits .or .u64 x.a y.a=z.a:=by rw[←hz];rfl
 have h1:bits .or .u64 x.b y.b=z.b:=by rw[←hz];rfl
 have h2:bits .or .u64 x.c y.c=z.c:=by rw[←hz];rfl
 have h3:bits .or .u64 x.d y.d=z.d:=by rw[←hz];rfl
 have f1:=fun k=>zi B2 k
 obtain⟨W2,hW2⟩:∃W2,yX W (g+1+1) (.int .u64 z.a) (.int .u64 z.b) (.int .u64 z.c) (.int .u64 z.d)=W2:=⟨_,rfl⟩
 have G1:=yE B2 (.int .u64 z.a) (.int .u64 z.b) (.int .u64 z.c) (.int .u64 z.d); have X3:Hid (Ext w W2):=zh (by rw[←hW2];exact(yg (S:=fun k=>k=g+1+1) rfl _ _ _ _).ext X1.out (fun k hk=>by omega))
 rw[hW2]at G1
 unfold yX y8 put2 at hW2; have a0:=cr 0 B0; have a1:=cr 1 B0; have a2:=cr 2 B0; have a3:=cr 3 B0; have b0:=cr 0 B1; have b1:=cr 1 B1; have b2:=cr 2 B1; have b3:=cr 3 B1; have c0:=cr 0 B2; have c1:=cr 1 B2; have c2:=cr 2 B2; have c3:=cr 3 B2; have g0:=cr 0 G1; have g1:=cr 1 G1; have g2:=cr 2 G1; have g3:=cr 3 G1; simp at a0 a1 a2 a3 b0 b1 b2 b3 c0 c1 c2 c3 g0 g1 g2 g3
 rw[hz]
 clear hz B0 B1 B2 X1 G1; unfold Cl.V; go_in
 go_upto_region 1 with fail; clear hW; go_wp2_with fail; exact bodyPost_ret (v:=.agg #[.int .u64 z.a,.int .u64 z.b,.int .u64 z.c,.int .u64 z.d]) (by simp[results,Tryz.results145,go_sem, *]) rfl ⟨rfl,X3.out⟩
def Za (lo k:Nat):Cl:=(List.range' lo k).foldl zan Cl.zero
theorem zaX (lo k:Nat):Za lo (k+1)=zan (Za lo k) (lo+k):=by
 unfold Za
 rw[List.range'_concat,List.foldl_append]
 simp
set_option maxRecDepth 100000 in
set_option maxHeartbeats 2000000 in
theorem zek (lo hi:Nat)(w:World)(hl:lo < 256)(hh:hi < 256):Calls Tryz.prog 146 #[.int .u8 lo,.int .u8 hi] w fun e w'=>e=.returned (Za lo (hi+1 - lo)).V∧Ext w w':=by
 obtain⟨W,hW⟩:∃W,((w.alloc (.cells #[.int .u64 0,.int .u64 0,.int .u64 0,.int .u64 0] 145)).alloc (.cells #[.int .u64 0,.int .u64 0,.int .u64 0,.int .u64 0] 145))=W:=⟨_,rfl⟩
 have B0:W.heap[w.heap.size]?=some (.cells (yW Cl.zero) 145):=by rw[←hW];exact(by simp only[zm,World.size_alloc];(repeat(split;(first|rfl|(exfalso;omega))));(try(first|(exfalso;omega)|simp_all)))
 have B1:W.heap[w.heap.size+1]?=some (.cells (yW Cl.zero) 145):=by rw[←hW];exact(by simp only[zm,World.size_alloc];(repeat(split;(first|rfl|(exfalso;omega))));(try(first|(exfalso;omega)|simp_all)))
 have X1:Hid (Ext w W):=zh (by rw[←hW];exact xi)
 obtain⟨g,hg⟩:∃g,w.heap.size=g:=⟨_,rfl⟩
 rw[hg]at B0 B1
 have HG:=zh hg; have HB0:=zh B0; have HB1:=zh B1; have HW:=zh hW
 obtain⟨y,hy9⟩:∃y,Za lo (hi+1 - lo)=y:=⟨_,rfl⟩
 rw[hy9]
 have HY9:=zh hy9; unfold Cl.V; clear B0 B1 hW hg hy9; go_in
 go_wp2_with fail; simp only[HW.out,HG.out]
 go_loopw [6] (fun i wr=>∃k:Nat,k≤hi+1 - lo∧i=.int .i64 ((lo+k:Nat):Int)∧Hid (wr.heap[g]?=some (.cells (yW Cl.zero) 145))∧Hid (wr.heap[g+1]?=some (.cells (yW (Za lo k)) 145))∧Hid (Ext w wr)) (fun i _=>256 - (intOf i).toNat)
 case atStart=>exact⟨0,by omega,rfl,HB0,HB1,X1⟩
 case round=>
  obtain⟨k,hk,rfl,h0,h1,hx⟩:=hrel
  clear HB0 HB1 X1; have B0:=h0.out; have B1:=h1.out
  obtain⟨j,hj⟩:∃j,lo+k=j:=⟨_,rfl⟩
  rw[hj]
  by_cases hlt:j≤hi
  ·have CW:=zb1 (Za lo k) j wr (by omega)
   rw[←hj,←zaX]at CW
   obtain⟨x,hxx⟩:∃x,Za lo k=x:=⟨_,rfl⟩
   obtain⟨z,hy⟩:∃z,Za lo (k+1)=z:=⟨_,rfl⟩
   rw[hxx,hy,hj]at CW
   unfold Cl.V at CW
   rw[hxx]at B1
   unfold yW at B1; have HCW:=zh CW; have HY:=zh hy; have HJ:=zh hj; have HB0:=zh B0; have HB1:=zh B1; have b0:=cr 0 B1; have b1:=cr 1 B1; have b2:=cr 2 B1; have b3:=cr 3 B1; simp at b0 b1 b2 b3
   clear CW hy hj hxx B0 B1; go_wp2_with fail; refine HCW.out.mono ?_; rintro e V ⟨rfl,hv⟩; have HX:=zh (hx.out.trans hv); have C1:=zb HB1.out hv; have C0:=zh (zb HB0.out hv); have HC1:=zh C1; have c0:=cr 0 C1; have c1:=cr 1 C1; have c2:=cr 2 C1; have c3:=cr 3 C1; have f1:=fun k=>zi C1 k; simp at c0 c1 c2 c3
   clear C1 hv b0 b1 b2 b3; go_wp2_with fail; go_roundw
   case rel=>exact⟨k+1,by have:=HJ.out;omega,by have:=HJ.out;go_num,zh ((zY (zY (zY (zY C0.out (by omega) _) (by omega) _) (by omega) _) (by omega) _)),zh (by rw[HY.out];exact yE HC1.out _ _ _ _),zh ((yg (S:=fun b=>b=g+1) rfl _ _ _ _).ext HX.out (fun b hb=>by have:=HG.out;omega))⟩
   case measure=>have:=HJ.out;simp[intOf];omega
  ·have hkk:k=hi+1 - lo:=by omega
   rw[hkk,HY9.out]at B1
   unfold yW at B1; unfold yW Cl.zero at B0; have b0:=cr 0 B1; have b1:=cr 1 B1; have b2:=cr 2 B1; have b3:=cr 3 B1; have c0:=cr 0 B0; have c1:=cr 1 B0; have c2:=cr 2 B0; have c3:=cr 3 B0; have f1:=fun k=>zi B0 k
   obtain⟨W2,hW2⟩:∃W2,yX wr g (.int .u64 y.a) (.int .u64 y.b) (.int .u64 y.c) (.int .u64 y.d)=W2:=⟨_,rfl⟩
   have G1:=yE B0 (.int .u64 y.a) (.int .u64 y.b) (.int .u64 y.c) (.int .u64 y.d); have X3:Hid (Ext w W2):=zh (by rw[←hW2];exact(yg (S:=fun k=>k=g) rfl _ _ _ _).ext hx.out (fun k hk=>by have:=HG.out;omega))
   rw[hW2]at G1
   unfold yX y8 put2 at hW2; have g0:=cr 0 G1; have g1:=cr 1 G1; have g2:=cr 2 G1; have g3:=cr 3 G1; simp at b0 b1 b2 b3 c0 c1 c2 c3 g0 g1 g2 g3
   clear hj hkk B0 B1 G1; go_wp2_with fail; exact bodyPost_ret (v:=.agg #[.int .u64 y.a,.int .u64 y.b,.int .u64 y.c,.int .u64 y.d]) (by simp[results,Tryz.results146,go_sem, *]) rfl ⟨rfl,X3.out⟩
end Go.Proofs.YtmbelmngniddjaaGreat
namespace Go.Proofs.YtmbelmngniddjaaGreat
open Go.RowKit
section
variable {P:Program}
def zci (Q:Act→World→Prop):Exit→Act→World→Prop
 | .normal,a,w=>Q a w
 |_,_,_=>False
theorem Jl {Q:Act→World→Prop}:¬LetsOut (zci Q):=fun⟨_,_,h⟩=>h
theorem jc {l0 n:Nat}{ops:Array Oper}{Q:Act→World→Prop}{Q':Exit→Act→World→Prop}(hQ:∀a w,Q a w→Q' .normal a w):∀(l:List Oper) (a:Act) (w:World),zat l=true→
 wpList P ops (zci Q) l a w→wpListIn (Fence.wide.inRound l0) n P ops Q' l a w
 |[],a,w,_,h=>hQ _ _ h
 |o ::l,a,w,hnd,h=>by
  unfold zat at hnd
  rw[List.all_cons,Bool.and_eq_true]at hnd
  have hno:∀c:Call,o.op≠Op.defer c:=fun c hc=>by
   have:=hnd.1
   rw[hc]at this
   cases this
  have ih:=fun a w=>jc (l0:=l0) (n:=n) (ops:=ops) hQ l a w hnd.2; unfold wpList at h; unfold wpListIn; split
  ·rename_i hw
   rw[if_pos hw]at h
   rcases h with h|⟨_,h⟩
   ·exact ZT hno (YW (Q':=QN) (fun a w hh=>ih a w hh) (fun _ _ _ h=>h) (fun h=>by first|exact absurd h (Jl (Q:=Q))|exact absurd h qL) h)
   ·exact absurd h Jl
  ·rename_i hw
   rw[if_neg hw]at h
   exact⟨fun _ _=>trivial,ih _ _ h⟩
theorem zbK {Q:Act→World→Prop}{a:Act}{w:World}(h:Q a w):zci Q .normal a w:=h
end
section
variable {P:Program}{ops:Array Oper}{md:Region.Mode}{C:World→Prop}
def zdx (md:Region.Mode)(ops:Array Oper):List Nat→Array Bool→Bool
 |[],listed=>(Region.ready md ops listed).isEmpty
 |i ::r,listed=>(Region.ready md ops listed==[i])&&zdx md ops r (listed.setIfInBounds i true)
def zbW (P:Program)(ops:Array Oper)(Q:Act→World→Prop):List Nat→Act→World→Prop
 |[],a,w=>Q a w
 |i ::r,a,w=>wpOp P ops QN i (zbW P ops Q r) a w
theorem js {listed:Array Bool}{i s:Nat}(h:listed.getD s false=true):(listed.setIfInBounds i true).getD s false=true:=by
 by_cases his:i=s
 ·subst his; have hlt:i < listed.size:=by
   rcases Nat.lt_or_ge i listed.size with h'|h'
   ·exact h'
   ·simp[Nat.not_lt.2 h']at h
  simp[hlt]
 ·rw[getD_set_ne false his]
  exact h
theorem QF {s:Nat}{Q:Act→World→Prop}:∀(l:List Nat) (listed:Array Bool) (a:Act) (w:World),zdx md ops l listed=true→listed.getD s false=true→zbW P ops Q l a w→xk P md ops C s Q l.length listed a w
 |[],listed,a,w,hB,hs,h=>⟨fun h0=>(by rw[hs]at h0;cases h0),by simpa[zdx]using hB,h⟩
 |i ::r,listed,a,w,hB,hs,h=>by
  simp only[zdx,Bool.and_eq_true,beq_iff_eq]at hB
  refine⟨fun h0=>(by rw[hs]at h0;cases h0),fun h0=>(by rw[hB.1]at h0;cases h0),fun j hj=>?_⟩
  rw[hB.1]at hj
  obtain rfl:=List.mem_singleton.1 hj; exact wpOp_mono (fun a' w' hh=>QF r _ a' w' hB.2 (js hs) hh) h
def zh6 (md:Region.Mode)(ops:Array Oper):Nat→Nat→Nat→Bool
 |0,_,_=>false
 |n+1,s,i=>match ops[s]? with
  |none=>false
  |some o=>o.after.any fun e=>Region.binds md e&&(e.on==i||zh6 md ops n e.on i)
def qg (md:Region.Mode)(ops:Array Oper)(listed:Array Bool):Prop:=∀(k:Nat) (o:Oper),ops[k]?=some o→listed.getD k false=true→∀e∈o.after,Region.binds md e=true→listed.getD e.on false=true
theorem Vl {listed:Array Bool}(hcl:qg md ops listed):∀(n s i:Nat),zh6 md ops n s i=true→(∀o,ops[s]?=some o→∀e∈o.after,Region.binds md e=true→listed.getD e.on false=true)→listed.getD i false=true:=by
 intro n; induction n with
 |zero=>intro s i h;cases h
 |succ n ih=>
  intro s i h hs; unfold zh6 at h; cases ho:ops[s]? with
  |none=>rw[ho]at h;cases h
  |some o=>
   rw[ho]at h
   obtain⟨e,he,hb⟩:=Array.any_eq_true'.1 h
   simp only[Bool.and_eq_true,Bool.or_eq_true,beq_iff_eq]at hb
   have h1:=hs o ho e he hb.1; rcases hb.2 with h2|h2
   ·rw[←h2];exact h1
   ·exact ih e.on i h2 fun o' ho'=>hcl e.on o' ho' h1
theorem xI {listed:Array Bool}(hcl:qg md ops listed){j:Nat}(hj:j∈Region.ready md ops listed):qg md ops (listed.setIfInBounds j true):=by
 intro k o hk hl e he hb; refine js ?_; by_cases hjk:j=k
 ·subst hjk
  obtain⟨_,oj,hoj,hall⟩:=mem_ready.1 hj
  rw[hoj]at hk
  cases hk; exact hall e he hb
 ·rw[getD_set_ne false hjk]at hl
  exact hcl k o hk hl e he hb
theorem ZF {s i:Nat}{oi:Oper}{v:Value}{Q:Act→World→Prop}(hi:ops[i]?=some oi)(hso:jf oi=true)(hsel:∀(j:Nat) (o:Oper) cs b,ops[j]?=some o→o.op≠.select cs b)(his:i≠s){n:Nat}(hA:zh6 md ops n s i=true):
 ∀(fuel:Nat) (listed:Array Bool) (a:Act) (w:World),qg md ops listed→
  (∀j oj,ops[j]?=some oj→j≠i→listed.getD j true=false→(∀e∈oj.after,Region.binds md e=true→e.on≠i)→oi.apart ops oj=true)→
  i∈Region.ready md ops listed→YieldsIn P ops C oi v a→listed.getD s false=false→C w→
  xk P md ops C s Q fuel (listed.setIfInBounds i true) (a.put oi.dst v) w→xk P md ops C s Q (fuel+1) listed a w:=by
 intro fuel; induction fuel with
 |zero=>
  intro listed a w _ _ hr hy hls hC H
  refine⟨fun _=>hC,fun h=>(by rw[h]at hr;cases hr),fun j hj=>?_⟩
  by_cases hji:j=i
  ·subst hji; exact xy hi hso hy hC H
  ·have:=ready_mono hj hji
   rw[H.2.1]at this
   cases this
 |succ fuel ih=>
  intro listed a w hcl hfree hr hy hls hC H
  refine⟨fun _=>hC,fun h=>(by rw[h]at hr;cases hr),fun j hj=>?_⟩
  by_cases hji:j=i
  ·subst hji; exact xy hi hso hy hC H
  ·have h1:=H.2.2 j (ready_mono hj hji)
   obtain⟨hjun,oj,hoj,hall⟩:=mem_ready.1 hj
   have hil:listed.getD i false=false:=by
    have h0:=(mem_ready.1 hr).1; rcases Nat.lt_or_ge i listed.size with h'|h'
    ·simp[h']at h0 ⊢;exact h0
    ·simp[Array.getElem?_eq_none h']at h0
   have hnot:∀e∈oj.after,Region.binds md e=true→e.on≠i:=fun e he hb heq=>by
    have h1:=hall e he hb
    rw[heq,hil]at h1
    cases h1
   have hjs:j≠s:=by
    rintro rfl
    have:=Vl hcl n j i hA fun o ho e he hb=>by
     rw[hoj]at ho
     cases ho; exact hall e he hb
    rw[hil]at this
    cases this
   have h2:=ZQ hoj (hfree j oj hoj hji hjun hnot) (fun cs b=>hsel i oi cs b hi) (fun cs b=>hsel j oj cs b hoj) hy h1
   have hfree':∀k ok,ops[k]?=some ok→k≠i→(listed.setIfInBounds j true).getD k true=false→
    (∀e∈ok.after,Region.binds md e=true→e.on≠i)→oi.apart ops ok=true:=fun k ok hk hki hun hno=>by
    refine hfree k ok hk hki ?_ hno; by_cases hjk:j=k
    ·subst hjk;exact hjun
    ·rw[getD_set_ne true hjk]at hun;exact hun
   refine wpOp_mono (fun a' w' h3=>?_) h2; have hs1:(listed.setIfInBounds j true).getD s false=false:=by rw[getD_set_ne false hjs];exact hls
   have hcomm:(listed.setIfInBounds j true).setIfInBounds i true=(listed.setIfInBounds i true).setIfInBounds j true:=Array.setIfInBounds_comm _ _ hji; refine ih (listed.setIfInBounds j true) a' w' (xI hcl hj) hfree' (ready_mono hr (Ne.symm hji)) h3.1 hs1 (h3.2.cls (by rw[←hcomm,getD_set_ne false his];exact hs1)) ?_
   rw[hcomm]
   exact h3.2
def jU (P:Program)(ops:Array Oper)(C:World→Prop)(s:Nat)(tl:List Nat)(Q:Act→World→Prop):List (Bool×Nat)→Act→World→Prop
 |[],a,w=>zbW P ops Q (s ::tl) a w
 |(true,i) ::r,a,w=>qOp P ops C i (fun a'=>jU P ops C s tl Q r a' w) a
 |(false,i) ::r,a,w=>wpOp P ops QN i (fun a' w'=>C w'∧jU P ops C s tl Q r a' w') a w
def Zn (md:Region.Mode)(ops:Array Oper)(s:Nat)(tl:List Nat):List (Bool×Nat)→Array Bool→Bool
 |[],listed=>(Region.ready md ops listed==[s])&&zdx md ops tl (listed.setIfInBounds s true)
 |(true,i) ::r,listed=>i !=s&&(Region.ready md ops listed).contains i&&Region.free md ops listed i&&((ops[i]?).map jf).getD false&&
  zh6 md ops ops.size s i&&Zn md ops s tl r (listed.setIfInBounds i true)
 |(false,i) ::r,listed=>(Region.ready md ops listed==[i])&&i !=s&&Zn md ops s tl r (listed.setIfInBounds i true)
theorem jo {s:Nat}{tl:List Nat}{Q:Act→World→Prop}(hs:Region.noSelect ops=true):∀(l:List (Bool×Nat)) (listed:Array Bool) (a:Act) (w:World),Zn md ops s tl l listed=true→qg md ops listed→listed.getD s false=false→C w→
 jU P ops C s tl Q l a w→xk P md ops C s Q (l.length+(tl.length+1)) listed a w
 |[],listed,a,w,hB,_,hls,hC,h=>by
  simp only[Zn,Bool.and_eq_true,beq_iff_eq]at hB
  obtain⟨h1,h2⟩:=hB
  rw[List.length_nil,Nat.zero_add]
  refine⟨fun _=>hC,fun h0=>(by rw[h1]at h0;cases h0),fun j hj=>?_⟩
  rw[h1]at hj
  obtain rfl:=List.mem_singleton.1 hj; have hji:j∈Region.ready md ops listed:=by rw[h1];exact List.mem_singleton.2 rfl
  obtain⟨hlt,_⟩:=jl hji
  exact wpOp_mono (fun a' w' hh=>QF tl _ a' w' h2 (by simp[hlt]) hh) h
 |(true,i) ::r,listed,a,w,hB,hcl,hls,hC,h=>by
  simp only[Zn,Bool.and_eq_true,bne_iff_ne,ne_eq]at hB
  obtain⟨⟨⟨⟨⟨h1,h2⟩,h3⟩,h4⟩,h5⟩,h6⟩:=hB
  obtain⟨oi,hoi⟩:∃o,ops[i]?=some o:=by
   cases ho:ops[i]? with
   |none=>rw[ho]at h4;cases h4
   |some o=>exact⟨o,rfl⟩
  rw[hoi]at h4
  obtain⟨v,hy,hK⟩:=yieldsIn_of_qOp hoi h
  have e:((true,i) ::r).length+(tl.length+1)=(r.length+(tl.length+1))+1:=by rw[List.length_cons];omega
  rw[e]
  have hir:i∈Region.ready md ops listed:=by simpa using h2
  exact ZF hoi (by simpa using h4) (Region.noSelect_spec hs) h1 h5 (r.length+(tl.length+1)) listed a w hcl (Region.free_spec hoi h3) hir hy hls hC
   (jo hs r _ _ w h6 (xI hcl hir) (by rw[getD_set_ne false h1];exact hls) hC hK)
 |(false,i) ::r,listed,a,w,hB,hcl,hls,hC,h=>by
  simp only[Zn,Bool.and_eq_true,beq_iff_eq,bne_iff_ne,ne_eq]at hB
  obtain⟨⟨h1,h2⟩,h3⟩:=hB
  have e:((false,i) ::r).length+(tl.length+1)=(r.length+(tl.length+1))+1:=by rw[List.length_cons];omega
  rw[e]
  refine⟨fun _=>hC,fun h0=>(by rw[h1]at h0;cases h0),fun j hj=>?_⟩
  rw[h1]at hj
  obtain rfl:=List.mem_singleton.1 hj; have hji:j∈Region.ready md ops listed:=by rw[h1];exact List.mem_singleton.2 rfl
  exact wpOp_mono (fun a' w' hh=>jo hs r _ a' w' h3 (xI hcl hji) (by rw[getD_set_ne false h2];exact hls) hh.1 hh.2) h
end
section
variable {P:Program}{C:World→Prop}
def Yc (P:Program)(l:List Oper)(C:World→Prop)(Q:Act→World→Prop)(tl:List Nat):List (List Nat×Nat)→List Nat→Act→World→Prop
 |[],fin,a,w=>wpQuiet P l.toArray C (fun a'=>wpList P l.toArray (zci Q) (pick l tl) a' w) (pick l fin) a
 |(is,h) ::r,fin,a,w=>wpQuiet P l.toArray C (fun a'=>wpList P l.toArray (zcT C h (h+1) (Yc P l C Q tl r fin)) (pick l [h]) a' w) (pick l is) a
theorem YA {l:List Oper}{Q:Act→World→Prop}:∀(tl:List Nat) (a:Act) (w:World),(∀i∈tl,i < l.length)→wpList P l.toArray (zci Q) (pick l tl) a w→zbW P l.toArray Q tl a w
 |[],_,_,_,h=>h
 |i ::tl,a,w,hl,h=>by
  have hlt:=hl i (List.mem_cons_self ..); have hi1:l[i]?=some l[i]:=List.getElem?_eq_getElem hlt; have e:pick l (i ::tl)=l[i] ::pick l tl:=xE _ hi1; have hi':l.toArray[i]?=some l[i]:=by rw[List.getElem?_toArray];exact hi1
  have ih:=fun a w=>YA (Q:=Q) tl a w fun k hk=>hl k (List.mem_cons_of_mem _ hk)
  rw[e]at h
  show wpOp P l.toArray QN i _ a w; unfold wpOp; simp only[hi']
  unfold wpList at h; split
  ·rename_i hw
   rw[if_pos hw]at h
   rcases h with h|⟨_,hl⟩
   ·exact .inl (YW (fun a w hh=>ih a w hh) (fun _ _ _ h=>h) (fun h=>by first|exact absurd h (Jl (Q:=Q))|exact absurd h qL) h)
   ·exact absurd hl Jl
  ·rename_i hw
   rw[if_neg hw]at h
   exact ih _ _ h
theorem zbf {l:List Oper}{s:Nat}{tl:List Nat}{Q:Act→World→Prop}{r:List (Bool×Nat)}{w:World}:∀(is:List Nat) (a:Act),(∀i∈is,i < l.length)→
 wpQuiet P l.toArray C (fun a'=>jU P l.toArray C s tl Q r a' w) (pick l is) a→jU P l.toArray C s tl Q ((is.map fun i=>(true,i))++r) a w
 |[],_,_,h=>h
 |i ::is,a,hl,h=>by
  have hlt:=hl i (List.mem_cons_self ..); have hi:l[i]?=some l[i]:=List.getElem?_eq_getElem hlt; have e:pick l (i ::is)=l[i] ::pick l is:=xE _ hi
  rw[e]at h
  show qOp P l.toArray C i _ a; have hi':l.toArray[i]?=some l[i]:=by rw[List.getElem?_toArray];exact hi
  unfold qOp; simp only[hi']
  unfold wpQuiet at h; split
  ·rename_i hw
   rw[if_pos hw]at h
   exact Oper.quiet_mono (fun a' h'=>zbf is a' (fun k hk=>hl k (List.mem_cons_of_mem _ hk)) h') h
  ·rename_i hw
   rw[if_neg hw]at h
   exact zbf is _ (fun k hk=>hl k (List.mem_cons_of_mem _ hk)) h
theorem Qz {l:List Oper}{s:Nat}{tl:List Nat}{Q:Act→World→Prop}{fin:List Nat}(hf:∀i∈fin,i < l.length)(ht:∀i∈s ::tl,i < l.length):∀(segs:List (List Nat×Nat)) (a:Act) (w:World),(∀x∈segs,(∀i∈x.1,i < l.length)∧x.2 < l.length)→
 Yc P l C Q (s ::tl) segs fin a w→jU P l.toArray C s tl Q (xZ segs fin) a w
 |[],a,w,_,h=>by
  have:=zbf (s:=s) (tl:=tl) (Q:=Q) (r:=[]) (w:=w) fin a hf (qD (fun a' h'=>YA (s ::tl) a' w ht h') (pick l fin) a h)
  simpa[xZ]using this
 |(is,hh) ::r,a,w,hl,h=>by
  obtain⟨h1,h2⟩:=hl _ (List.mem_cons_self ..)
  refine zbf is a h1 (qD (fun a' h'=>?_) (pick l is) a h); exact wpOp_mono (fun a2 w2 hx=>⟨hx.1 (by omega),Qz hf ht r a2 w2 (fun x hx'=>hl x (List.mem_cons_of_mem _ hx')) hx.2⟩) (qT h2 h')
def zhq (l:List Oper)(s:Nat)(tl:List Nat)(segs:List (List Nat×Nat))(fin:List Nat):Bool:=
 Region.noSelect l.toArray&&Zn .any l.toArray s tl (xZ segs fin) (Array.replicate l.length false)&&(segs.all fun x=>(x.1.all fun i=>decide (i < l.length))&&decide (x.2 < l.length))&&(fin.all fun i=>decide (i < l.length))&&((s ::tl).all fun i=>decide (i < l.length))&&
  ((xZ segs fin).length+(tl.length+1)==l.length)
theorem Qv {id:Nat}{Q:Exit→Act→World→Prop}{a:Act}{w:World}{l:List Oper}(s:Nat)(tl:List Nat)(segs:List (List Nat×Nat))(fin:List Nat)(hm:P.follows .mixedOrders=true)(hB:zhq l s tl segs fin=true)
 (h:Yc P l (fun w'=>∃x:Lay,w'=more w x.os x.k) (fun a' w'=>Q .normal a' w') (s ::tl) segs fin a w.drew):(Code.region id l.toArray true).wp P Q a w:=by
 unfold zhq at hB; simp only[Bool.and_eq_true,List.all_eq_true,decide_eq_true_eq,beq_iff_eq]at hB
 obtain⟨⟨⟨⟨⟨h1,h2⟩,h3⟩,h4⟩,h6⟩,h5⟩:=hB
 refine wp_region_any hm (vn (C:=fun w'=>∃x:Lay,w'=more w x.os x.k) (s:=s) _ _ _ _ ?_)
 have:=jo (Q:=fun a' w'=>Q .normal a' w') (C:=fun w'=>∃x:Lay,w'=more w x.os x.k) h1 (xZ segs fin) (Array.replicate l.length false) a w.drew h2 (fun k o _ hk=>by
  rw[Array.getD_eq_getD_getElem?,Array.getElem?_replicate]at hk
  split at hk<;>cases hk) (by
  rw[Array.getD_eq_getD_getElem?,Array.getElem?_replicate]
  split<;>rfl) ⟨⟨[],w.drawn+1⟩,by rw[←zF,j0]⟩ (Qz h4 h6 segs a w.drew h3 h)
 rw[h5]at this
 simpa using this
theorem zcW {l:List Oper}{h:Nat}{Q:Act→World→Prop}{is fin tl:List Nat}{r:List (List Nat×Nat)}{a:Act}{w:World}
 (hh:∀K:Act→Prop,(∀a',(∀next:Act→World→Prop,(∀a w,Yc P l C Q tl r fin a w→next a w)→wpList P l.toArray (zcT C h (h+1) next) (pick l [h]) a' w)→K a')→wpQuiet P l.toArray C K (pick l is) a):
 Yc P l C Q tl ((is,h) ::r) fin a w:=hh _ fun _ h'=>h' _ fun _ _ h=>h
theorem zfv {l:List Oper}{Q:Act→World→Prop}{fin tl:List Nat}{a:Act}{w:World}
 (hh:∀K:Act→Prop,(∀a',wpList P l.toArray (zci Q) (pick l tl) a' w→K a')→wpQuiet P l.toArray C K (pick l fin) a):Yc P l C Q tl [] fin a w:=hh _ fun _ h=>h
end
inductive Br where
 |fin:Br
 |step (i:Nat) (t:Br):Br
 |two (a b:Br):Br
def Br.heads:Br→List Nat
 | .fin=>[]
 | .step i _=>[i]
 | .two a b=>a.heads++b.heads
def Br.len:Br→Nat
 | .fin=>0
 | .step _ t=>t.len+1
 | .two a _=>a.len
def Br.even:Br→Bool
 | .fin=>true
 | .step _ t=>t.even
 | .two a b=>a.even&&b.even&&(a.len==b.len)&&(a.len !=0)
theorem Br.heads_ne:∀(t:Br),t.even=true→t.len≠0→t.heads≠[]
 | .fin,_,h=>absurd rfl h
 | .step _ _,_,_=>by simp[Br.heads]
 | .two a b,he,_=>by
  simp only[Br.even,Bool.and_eq_true,bne_iff_ne,ne_eq]at he
  have:=a.heads_ne he.1.1.1 he.2
  simp[Br.heads,this]
section
variable {P:Program}{C:World→Prop}
def brB (md:Region.Mode)(ops:Array Oper):Bool→Br→Array Bool→Bool
 |top,.fin,listed=> !top||(Region.ready md ops listed==[])
 |top,.step i t,listed=>(!top||(Region.ready md ops listed==[i]))&&decide (i < ops.size)&&decide (i < listed.size)&&brB md ops true t (listed.setIfInBounds i true)
 |top,.two a b,listed=>(!top||(Region.ready md ops listed==a.heads++b.heads))&&brB md ops false a listed&&brB md ops false b listed
def ze9 (P:Program)(l:List Oper)(C:World→Prop)(s:Nat)(Q:Act→World→Prop):Br→Act→World→Prop
 | .fin,a,w=>Q a w
 | .step i t,a,w=>wpList P l.toArray (zcT C i s (ze9 P l C s Q t)) (pick l [i]) a w
 | .two t u,a,w=>ze9 P l C s Q t a w∧ze9 P l C s Q u a w
theorem zca {l:List Oper}{md:Region.Mode}{s:Nat}{Q:Act→World→Prop}:∀(t:Br),
 (∀(listed:Array Bool) (a:Act) (w:World),t.even=true→brB md l.toArray true t listed=true→(listed.getD s false=false→C w)→ze9 P l C s Q t a w→xk P md l.toArray C s Q t.len listed a w)∧
 (∀(top:Bool) (listed:Array Bool) (a:Act) (w:World) (n:Nat),t.even=true→t.len=n+1→brB md l.toArray top t listed=true→ze9 P l C s Q t a w→∀j∈t.heads,wpOp P l.toArray QN j (xk P md l.toArray C s Q n (listed.setIfInBounds j true)) a w)
 | .fin=>⟨fun listed a w _ hB hC h=>by
  simp only[brB,Bool.not_true,Bool.false_or,beq_iff_eq]at hB
  exact⟨hC,hB,h⟩,fun top listed a w n _ hl=>by cases hl⟩
 | .step i t=>by
  have ih:=(zca (l:=l) (md:=md) (s:=s) (Q:=Q) t).1; have K2:∀(top:Bool) (listed:Array Bool) (a:Act) (w:World) (n:Nat),(Br.step i t).even=true→(Br.step i t).len=n+1→brB md l.toArray top (.step i t) listed=true→ze9 P l C s Q (.step i t) a w→∀j∈(Br.step i t).heads,wpOp P l.toArray QN j (xk P md l.toArray C s Q n (listed.setIfInBounds j true)) a w:=by
   intro top listed a w n he hl hB h j hj; obtain rfl:j=i:=List.mem_singleton.1 hj; simp only[brB,Bool.and_eq_true,decide_eq_true_eq]at hB
   obtain rfl:t.len=n:=by simpa[Br.len]using hl
   refine wpOp_mono (fun a' w' hh=>ih _ a' w' he hB.2 (fun h0=>?_) hh.2) (qT (by simpa using hB.1.1.2) h); refine hh.1 fun hjs=>?_; subst hjs
   have:=hB.1.2
   simp[this]at h0
  refine⟨fun listed a w he hB hC h=>⟨hC,fun h0=>?_,fun j hj=>?_⟩,K2⟩
  ·simp only[brB,Bool.not_true,Bool.false_or,Bool.and_eq_true,beq_iff_eq]at hB
   rw[hB.1.1.1]at h0
   cases h0
  ·have hB':=hB; simp only[brB,Bool.not_true,Bool.false_or,Bool.and_eq_true,beq_iff_eq]at hB'
   rw[hB'.1.1.1]at hj
   exact K2 true listed a w t.len he rfl hB h j hj
 | .two t u=>by
  have iht:=(zca (l:=l) (md:=md) (s:=s) (Q:=Q) t).2; have ihu:=(zca (l:=l) (md:=md) (s:=s) (Q:=Q) u).2; have K2:∀(top:Bool) (listed:Array Bool) (a:Act) (w:World) (n:Nat),(Br.two t u).even=true→(Br.two t u).len=n+1→brB md l.toArray top (.two t u) listed=true→ze9 P l C s Q (.two t u) a w→∀j∈(Br.two t u).heads,wpOp P l.toArray QN j (xk P md l.toArray C s Q n (listed.setIfInBounds j true)) a w:=by
   intro top listed a w n he hl hB h j hj; simp only[brB,Bool.and_eq_true]at hB
   simp only[Br.even,Bool.and_eq_true,beq_iff_eq]at he
   have hl':t.len=n+1:=hl; rcases List.mem_append.1 hj with hj|hj
   ·exact iht false listed a w n he.1.1.1 hl' hB.1.2 h.1 j hj
   ·exact ihu false listed a w n he.1.1.2 (he.1.2▸hl') hB.2 h.2 j hj
  refine⟨fun listed a w he hB hC h=>?_,K2⟩
  have he':=he; simp only[Br.even,Bool.and_eq_true,bne_iff_ne,ne_eq]at he'
  obtain⟨n,hn⟩:∃n,t.len=n+1:=⟨t.len - 1,by have:=he'.2;omega⟩
  have hB':=hB; simp only[brB,Bool.not_true,Bool.false_or,Bool.and_eq_true,beq_iff_eq]at hB'
  show xk P md l.toArray C s Q t.len listed a w
  rw[hn]
  refine⟨hC,fun h0=>?_,fun j hj=>?_⟩
  ·rw[hB'.1.1]at h0
   have:=t.heads_ne he'.1.1.1 he'.2
   simp at h0
   exact absurd h0.1 this
  ·rw[hB'.1.1]at hj
   exact K2 true listed a w n he hn hB h j hj
def VK (P:Program)(l:List Oper)(C:World→Prop)(s:Nat)(Q:Act→World→Prop)(t:Br):List Nat→Act→World→Prop
 |[],a,w=>ze9 P l C s Q t a w
 |i ::r,a,w=>qOp P l.toArray C i (fun a'=>VK P l C s Q t r a' w) a
def VL (md:Region.Mode)(ops:Array Oper)(s:Nat)(t:Br):List Nat→Array Bool→Bool
 |[],listed=>brB md ops true t listed
 |i ::r,listed=>i !=s&&(Region.ready md ops listed).contains i&&Region.free md ops listed i&&((ops[i]?).map jf).getD false&&zh6 md ops ops.size s i&&VL md ops s t r (listed.setIfInBounds i true)
theorem ZC {md:Region.Mode}{l:List Oper}{s:Nat}{t:Br}{Q:Act→World→Prop}(hs:Region.noSelect l.toArray=true)(ht:t.even=true):∀(r:List Nat) (listed:Array Bool) (a:Act) (w:World),VL md l.toArray s t r listed=true→qg md l.toArray listed→listed.getD s false=false→C w→
 VK P l C s Q t r a w→xk P md l.toArray C s Q (r.length+t.len) listed a w
 |[],listed,a,w,hB,_,_,hC,h=>by
  rw[List.length_nil,Nat.zero_add]
  exact(zca t).1 listed a w ht hB (fun _=>hC) h
 |i ::r,listed,a,w,hB,hcl,hls,hC,h=>by
  simp only[VL,Bool.and_eq_true,bne_iff_ne,ne_eq]at hB
  obtain⟨⟨⟨⟨⟨h1,h2⟩,h3⟩,h4⟩,h5⟩,h6⟩:=hB
  obtain⟨oi,hoi⟩:∃o,l.toArray[i]?=some o:=by
   cases ho:l.toArray[i]? with
   |none=>rw[ho]at h4;cases h4
   |some o=>exact⟨o,rfl⟩
  rw[hoi]at h4
  obtain⟨v,hy,hK⟩:=yieldsIn_of_qOp hoi h
  have e:(i ::r).length+t.len=(r.length+t.len)+1:=by rw[List.length_cons];omega
  rw[e]
  have hir:i∈Region.ready md l.toArray listed:=by simpa using h2
  exact ZF hoi (by simpa using h4) (Region.noSelect_spec hs) h1 h5 (r.length+t.len) listed a w hcl (Region.free_spec hoi h3) hir hy hls hC
   (ZC hs ht r _ _ w h6 (xI hcl hir) (by rw[getD_set_ne false h1];exact hls) hC hK)
theorem zd3 {l:List Oper}{s:Nat}{t:Br}{Q:Act→World→Prop}{w:World}:∀(is:List Nat) (a:Act),(∀i∈is,i < l.length)→
 wpQuiet P l.toArray C (fun a'=>ze9 P l C s Q t a' w) (pick l is) a→VK P l C s Q t is a w
 |[],_,_,h=>h
 |i ::is,a,hl,h=>by
  have hlt:=hl i (List.mem_cons_self ..); have hi:l[i]?=some l[i]:=List.getElem?_eq_getElem hlt; have e:pick l (i ::is)=l[i] ::pick l is:=xE _ hi
  rw[e]at h
  show qOp P l.toArray C i _ a; have hi':l.toArray[i]?=some l[i]:=by rw[List.getElem?_toArray];exact hi
  unfold qOp; simp only[hi']
  unfold wpQuiet at h; split
  ·rename_i hw
   rw[if_pos hw]at h
   exact Oper.quiet_mono (fun a' h'=>zd3 is a' (fun k hk=>hl k (List.mem_cons_of_mem _ hk)) h') h
  ·rename_i hw
   rw[if_neg hw]at h
   exact zd3 is _ (fun k hk=>hl k (List.mem_cons_of_mem _ hk)) h
def zhh (l:List Oper)(s:Nat)(t:Br)(is:List Nat):Bool:=
 Region.noSelect l.toArray&&t.even&&VL .any l.toArray s t is (Array.replicate l.length false)&&(is.all fun i=>decide (i < l.length))&&(is.length+t.len==l.length)
theorem Qd {id:Nat}{Q:Exit→Act→World→Prop}{a:Act}{w:World}{l:List Oper}(s:Nat)(t:Br)(is:List Nat)(hm:P.follows .mixedOrders=true)(hB:zhh l s t is=true)
 (h:∀K:Act→Prop,(∀a',ze9 P l (fun w'=>∃x:Lay,w'=more w x.os x.k) s (fun a' w'=>Q .normal a' w') t a' w.drew→K a')→wpQuiet P l.toArray (fun w'=>∃x:Lay,w'=more w x.os x.k) K (pick l is) a):(Code.region id l.toArray true).wp P Q a w:=by
 unfold zhh at hB; simp only[Bool.and_eq_true,List.all_eq_true,decide_eq_true_eq,beq_iff_eq]at hB
 obtain⟨⟨⟨⟨h1,h2⟩,h3⟩,h4⟩,h5⟩:=hB
 refine wp_region_any hm (vn (C:=fun w'=>∃x:Lay,w'=more w x.os x.k) (s:=s) _ _ _ _ ?_)
 have:=ZC (P:=P) (Q:=fun a' w'=>Q .normal a' w') (C:=fun w'=>∃x:Lay,w'=more w x.os x.k) h1 h2 is (Array.replicate l.length false) a w.drew h3 (fun k o _ hk=>by
  rw[Array.getD_eq_getD_getElem?,Array.getElem?_replicate]at hk
  split at hk<;>cases hk) (by
  rw[Array.getD_eq_getD_getElem?,Array.getElem?_replicate]
  split<;>rfl) ⟨⟨[],w.drawn+1⟩,by rw[←zF,j0]⟩ (zd3 is a h4 (h _ fun _ h'=>h'))
 rw[h5]at this
 simpa using this
end
inductive Bt where
 |fin:Bt
 |soft (i:Nat) (t:Bt):Bt
 |pure (i:Nat) (t:Bt):Bt
 |step (i:Nat) (t:Bt):Bt
 |late (i:Nat) (t:Bt):Bt
 |two (a b:Bt):Bt
def Bt.heads:Bt→List Nat
 | .fin=>[]
 | .soft _ _=>[]
 | .pure _ _=>[]
 | .step i _=>[i]
 | .late i _=>[i]
 | .two a b=>a.heads++b.heads
def Bt.len:Bt→Nat
 | .fin=>0
 | .soft _ t=>t.len+1
 | .pure _ t=>t.len+1
 | .step _ t=>t.len+1
 | .late _ t=>t.len+1
 | .two a _=>a.len
def Bt.even:Bt→Bool
 | .fin=>true
 | .soft _ t=>t.even
 | .pure _ t=>t.even
 | .step _ t=>t.even
 | .late _ t=>t.even
 | .two a b=>a.even&&b.even&&(a.len==b.len)&& !a.heads.isEmpty&& !b.heads.isEmpty
section
variable {P:Program}{ops:Array Oper}{md:Region.Mode}{C:World→Prop}
theorem VO {s i:Nat}{oi:Oper}{v:Value}{Q:Act→World→Prop}(hi:ops[i]?=some oi)(hso:jf oi=true)(hsel:∀(j:Nat) (o:Oper) cs b,ops[j]?=some o→o.op≠.select cs b)(his:i≠s)
 (hN:∀(listed:Array Bool) (j:Nat),qg md ops listed→listed.getD i false=false→j∈Region.ready md ops listed→j≠s):
 ∀(fuel:Nat) (listed:Array Bool) (a:Act) (w:World),qg md ops listed→
  (∀j oj,ops[j]?=some oj→j≠i→listed.getD j true=false→(∀e∈oj.after,Region.binds md e=true→e.on≠i)→oi.apart ops oj=true)→
  i∈Region.ready md ops listed→YieldsIn P ops C oi v a→listed.getD s false=false→C w→
  xk P md ops C s Q fuel (listed.setIfInBounds i true) (a.put oi.dst v) w→xk P md ops C s Q (fuel+1) listed a w:=by
 intro fuel; induction fuel with
 |zero=>
  intro listed a w _ _ hr hy hls hC H
  refine⟨fun _=>hC,fun h=>(by rw[h]at hr;cases hr),fun j hj=>?_⟩
  by_cases hji:j=i
  ·subst hji; exact xy hi hso hy hC H
  ·have:=ready_mono hj hji
   rw[H.2.1]at this
   cases this
 |succ fuel ih=>
  intro listed a w hcl hfree hr hy hls hC H
  refine⟨fun _=>hC,fun h=>(by rw[h]at hr;cases hr),fun j hj=>?_⟩
  by_cases hji:j=i
  ·subst hji; exact xy hi hso hy hC H
  ·have h1:=H.2.2 j (ready_mono hj hji)
   obtain⟨hjun,oj,hoj,hall⟩:=mem_ready.1 hj
   have hil:listed.getD i false=false:=by
    have h0:=(mem_ready.1 hr).1; rcases Nat.lt_or_ge i listed.size with h'|h'
    ·simp[h']at h0 ⊢;exact h0
    ·simp[Array.getElem?_eq_none h']at h0
   have hnot:∀e∈oj.after,Region.binds md e=true→e.on≠i:=fun e he hb heq=>by
    have h1:=hall e he hb
    rw[heq,hil]at h1
    cases h1
   have hjs:j≠s:=hN listed j hcl hil hj; have h2:=ZQ hoj (hfree j oj hoj hji hjun hnot) (fun cs b=>hsel i oi cs b hi) (fun cs b=>hsel j oj cs b hoj) hy h1
   have hfree':∀k ok,ops[k]?=some ok→k≠i→(listed.setIfInBounds j true).getD k true=false→
    (∀e∈ok.after,Region.binds md e=true→e.on≠i)→oi.apart ops ok=true:=fun k ok hk hki hun hno=>by
    refine hfree k ok hk hki ?_ hno; by_cases hjk:j=k
    ·subst hjk;exact hjun
    ·rw[getD_set_ne true hjk]at hun;exact hun
   refine wpOp_mono (fun a' w' h3=>?_) h2; have hs1:(listed.setIfInBounds j true).getD s false=false:=by rw[getD_set_ne false hjs];exact hls
   have hcomm:(listed.setIfInBounds j true).setIfInBounds i true=(listed.setIfInBounds i true).setIfInBounds j true:=Array.setIfInBounds_comm _ _ hji; refine ih (listed.setIfInBounds j true) a' w' (xI hcl hj) hfree' (ready_mono hr (Ne.symm hji)) h3.1 hs1 (h3.2.cls (by rw[←hcomm,getD_set_ne false his];exact hs1)) ?_
   rw[hcomm]
   exact h3.2
abbrev zce:World→Prop:=fun w'=>∃x:World,w'=x
theorem VM {s i:Nat}{oi:Oper}{v:Value}{Q:Act→World→Prop}(hi:ops[i]?=some oi)(hso:jf oi=true)(hsel:∀(j:Nat) (o:Oper) cs b,ops[j]?=some o→o.op≠.select cs b)(his:i≠s):
 ∀(fuel:Nat) (listed:Array Bool) (a:Act) (w:World),qg md ops listed→
  (∀j oj,ops[j]?=some oj→j≠i→listed.getD j true=false→(∀e∈oj.after,Region.binds md e=true→e.on≠i)→oi.apart ops oj=true)→
  i∈Region.ready md ops listed→YieldsIn P ops zce oi v a→(listed.getD s false=false→C w)→
  xk P md ops C s Q fuel (listed.setIfInBounds i true) (a.put oi.dst v) w→xk P md ops C s Q (fuel+1) listed a w:=by
 intro fuel; induction fuel with
 |zero=>
  intro listed a w _ _ hr hy hC H
  refine⟨hC,fun h=>(by rw[h]at hr;cases hr),fun j hj=>?_⟩
  by_cases hji:j=i
  ·subst hji; exact xy (C:=zce) hi hso hy ⟨w,rfl⟩ H
  ·have:=ready_mono hj hji
   rw[H.2.1]at this
   cases this
 |succ fuel ih=>
  intro listed a w hcl hfree hr hy hC H
  refine⟨hC,fun h=>(by rw[h]at hr;cases hr),fun j hj=>?_⟩
  by_cases hji:j=i
  ·subst hji; exact xy (C:=zce) hi hso hy ⟨w,rfl⟩ H
  ·have h1:=H.2.2 j (ready_mono hj hji)
   obtain⟨hjun,oj,hoj,hall⟩:=mem_ready.1 hj
   have hil:listed.getD i false=false:=by
    have h0:=(mem_ready.1 hr).1; rcases Nat.lt_or_ge i listed.size with h'|h'
    ·simp[h']at h0 ⊢;exact h0
    ·simp[Array.getElem?_eq_none h']at h0
   have hnot:∀e∈oj.after,Region.binds md e=true→e.on≠i:=fun e he hb heq=>by
    have h1:=hall e he hb
    rw[heq,hil]at h1
    cases h1
   have h2:=ZQ (C:=zce) hoj (hfree j oj hoj hji hjun hnot) (fun cs b=>hsel i oi cs b hi) (fun cs b=>hsel j oj cs b hoj) hy h1
   have hfree':∀k ok,ops[k]?=some ok→k≠i→(listed.setIfInBounds j true).getD k true=false→
    (∀e∈ok.after,Region.binds md e=true→e.on≠i)→oi.apart ops ok=true:=fun k ok hk hki hun hno=>by
    refine hfree k ok hk hki ?_ hno; by_cases hjk:j=k
    ·subst hjk;exact hjun
    ·rw[getD_set_ne true hjk]at hun;exact hun
   refine wpOp_mono (fun a' w' h3=>?_) h2; have hcomm:(listed.setIfInBounds j true).setIfInBounds i true=(listed.setIfInBounds i true).setIfInBounds j true:=Array.setIfInBounds_comm _ _ hji; refine ih (listed.setIfInBounds j true) a' w' (xI hcl hj) hfree' (ready_mono hr (Ne.symm hji)) h3.1 (fun hs1=>h3.2.cls (by rw[←hcomm,getD_set_ne false his];exact hs1)) ?_
   rw[hcomm]
   exact h3.2
def zi4 (md:Region.Mode)(ops:Array Oper)(s i:Nat):Bool:=decide (ops.size≤s)||zh6 md ops ops.size s i
theorem ziG {s i:Nat}(h:zi4 md ops s i=true)(listed:Array Bool)(j:Nat)(hcl:qg md ops listed)(hil:listed.getD i false=false)(hj:j∈Region.ready md ops listed):j≠s:=by
 rintro rfl
 obtain⟨_,oj,hoj,hall⟩:=mem_ready.1 hj
 rcases Bool.or_eq_true _ _▸h with h|h
 ·have h1:=of_decide_eq_true h
  rw[Array.getElem?_eq_none h1]at hoj
  cases hoj
 ·have:=Vl hcl ops.size j i h fun o ho e he hb=>by
   rw[hoj]at ho
   cases ho; exact hall e he hb
  rw[hil]at this
  cases this
def btB (md:Region.Mode)(ops:Array Oper)(s:Nat):Bool→Bt→Array Bool→Bool
 |top,.fin,listed=> !top||(Region.ready md ops listed==[])
 |top,.soft i t,listed=>top&&(listed.getD s false==false)&&i !=s&&(Region.ready md ops listed).contains i&&Region.free md ops listed i&&((ops[i]?).map jf).getD false&&zi4 md ops s i&&btB md ops s true t (listed.setIfInBounds i true)
 |top,.pure i t,listed=>top&&i !=s&&(Region.ready md ops listed).contains i&&Region.free md ops listed i&&((ops[i]?).map jf).getD false&&btB md ops s true t (listed.setIfInBounds i true)
 |top,.step i t,listed=>(!top||(Region.ready md ops listed==[i]))&&decide (i < ops.size)&&decide (i < listed.size)&&btB md ops s true t (listed.setIfInBounds i true)
 |top,.late i t,listed=>(!top||(Region.ready md ops listed==[i]))&&decide (i < ops.size)&&decide (i < listed.size)&&listed.getD s false&&btB md ops s true t (listed.setIfInBounds i true)
 |top,.two a b,listed=>(!top||(Region.ready md ops listed==a.heads++b.heads))&&btB md ops s false a listed&&btB md ops s false b listed
def jz (P:Program)(l:List Oper)(C:World→Prop)(s:Nat)(Q:Act→World→Prop):Bt→Act→World→Prop
 | .fin,a,w=>Q a w
 | .soft i t,a,w=>wpQuiet P l.toArray C (fun a'=>jz P l C s Q t a' w) (pick l [i]) a
 | .pure i t,a,w=>wpQuiet P l.toArray zce (fun a'=>jz P l C s Q t a' w) (pick l [i]) a
 | .step i t,a,w=>wpList P l.toArray (zcT C i s (jz P l C s Q t)) (pick l [i]) a w
 | .late i t,a,w=>wpList P l.toArray (zcT (fun _=>True) i s (jz P l C s Q t)) (pick l [i]) a w
 | .two t u,a,w=>jz P l C s Q t a w∧jz P l C s Q u a w
theorem Vh {l:List Nat}(h:(!l.isEmpty)=true):l≠[]:=by
 rintro rfl; cases h
theorem YC {l:List Oper}{s:Nat}{Q:Act→World→Prop}(hns:Region.noSelect l.toArray=true):∀(t:Bt),
 (∀(listed:Array Bool) (a:Act) (w:World),t.even=true→btB md l.toArray s true t listed=true→qg md l.toArray listed→(listed.getD s false=false→C w)→jz P l C s Q t a w→xk P md l.toArray C s Q t.len listed a w)∧
 (∀(top:Bool) (listed:Array Bool) (a:Act) (w:World) (n:Nat),t.even=true→t.len=n+1→btB md l.toArray s top t listed=true→qg md l.toArray listed→(∀j∈t.heads,j∈Region.ready md l.toArray listed)→jz P l C s Q t a w→∀j∈t.heads,wpOp P l.toArray QN j (xk P md l.toArray C s Q n (listed.setIfInBounds j true)) a w)
 | .fin=>⟨fun listed a w _ hB _ hC h=>by
  simp only[btB,Bool.not_true,Bool.false_or,beq_iff_eq]at hB
  exact⟨hC,hB,h⟩,fun top listed a w n _ hl=>by cases hl⟩
 | .soft i t=>by
  have ih:=(YC (Q:=Q) (s:=s) hns t).1
  refine⟨fun listed a w he hB hcl hC h=>?_,fun top listed a w n _ _ _ _ _ _ j hj=>by cases hj⟩
  simp only[btB,Bool.true_and,Bool.and_eq_true,beq_iff_eq,bne_iff_ne,ne_eq]at hB
  obtain⟨⟨⟨⟨⟨⟨hls,h1⟩,h2⟩,h3⟩,h4⟩,h5⟩,h6⟩:=hB
  obtain⟨oi,hoi⟩:∃o,l.toArray[i]?=some o:=by
   cases ho:l.toArray[i]? with
   |none=>rw[ho]at h4;cases h4
   |some o=>exact⟨o,rfl⟩
  rw[hoi]at h4
  have hq:qOp P l.toArray C i (fun a'=>jz P l C s Q t a' w) a:=by
   have h':wpQuiet P l.toArray C (fun a'=>jz P l C s Q t a' w) (pick l [i]) a:=h; have hi:l[i]?=some oi:=by rw[←hoi,List.getElem?_toArray]
   have e:pick l [i]=[oi]:=xE _ hi
   rw[e]at h'
   unfold qOp; simp only[hoi]
   unfold wpQuiet at h'; split
   ·rename_i hw
    rw[if_pos hw]at h'
    exact Oper.quiet_mono (fun a' h''=>h'') h'
   ·rename_i hw
    rw[if_neg hw]at h'
    exact h'
  obtain⟨v,hy,hK⟩:=yieldsIn_of_qOp hoi hq
  have hir:i∈Region.ready md l.toArray listed:=by simpa using h2
  exact VO hoi (by simpa using h4) (Region.noSelect_spec hns) h1 (ziG h5) t.len listed a w hcl (Region.free_spec hoi h3) hir hy hls (hC hls)
   (ih _ _ _ he h6 (xI hcl hir) (fun _=>hC hls) hK)
 | .pure i t=>by
  have ih:=(YC (Q:=Q) (s:=s) hns t).1
  refine⟨fun listed a w he hB hcl hC h=>?_,fun top listed a w n _ _ _ _ _ _ j hj=>by cases hj⟩
  simp only[btB,Bool.true_and,Bool.and_eq_true,bne_iff_ne,ne_eq]at hB
  obtain⟨⟨⟨⟨h1,h2⟩,h3⟩,h4⟩,h6⟩:=hB
  obtain⟨oi,hoi⟩:∃o,l.toArray[i]?=some o:=by
   cases ho:l.toArray[i]? with
   |none=>rw[ho]at h4;cases h4
   |some o=>exact⟨o,rfl⟩
  rw[hoi]at h4
  have hq:qOp P l.toArray zce i (fun a'=>jz P l C s Q t a' w) a:=by
   have h':wpQuiet P l.toArray zce (fun a'=>jz P l C s Q t a' w) (pick l [i]) a:=h; have hi:l[i]?=some oi:=by rw[←hoi,List.getElem?_toArray]
   have e:pick l [i]=[oi]:=xE _ hi
   rw[e]at h'
   unfold qOp; simp only[hoi]
   unfold wpQuiet at h'; split
   ·rename_i hw
    rw[if_pos hw]at h'
    exact Oper.quiet_mono (fun a' h''=>h'') h'
   ·rename_i hw
    rw[if_neg hw]at h'
    exact h'
  obtain⟨v,hy,hK⟩:=yieldsIn_of_qOp hoi hq
  have hir:i∈Region.ready md l.toArray listed:=by simpa using h2
  exact VM hoi (by simpa using h4) (Region.noSelect_spec hns) h1 t.len listed a w hcl (Region.free_spec hoi h3) hir hy hC
   (ih _ _ _ he h6 (xI hcl hir) (fun hs=>hC (by rw[getD_set_ne false h1]at hs;exact hs)) hK)
 | .step i t=>by
  have ih:=(YC (Q:=Q) (s:=s) hns t).1; have K2:∀(top:Bool) (listed:Array Bool) (a:Act) (w:World) (n:Nat),(Bt.step i t).even=true→(Bt.step i t).len=n+1→btB md l.toArray s top (.step i t) listed=true→qg md l.toArray listed→(∀j∈(Bt.step i t).heads,j∈Region.ready md l.toArray listed)→jz P l C s Q (.step i t) a w→∀j∈(Bt.step i t).heads,wpOp P l.toArray QN j (xk P md l.toArray C s Q n (listed.setIfInBounds j true)) a w:=by
   intro top listed a w n he hl hB hcl hrd h j hj; have hjr:=hrd j hj; obtain rfl:j=i:=List.mem_singleton.1 hj; simp only[btB,Bool.and_eq_true,decide_eq_true_eq]at hB
   obtain rfl:t.len=n:=by simpa[Bt.len]using hl
   refine wpOp_mono (fun a' w' hh=>ih _ a' w' he hB.2 (xI hcl hjr) (fun h0=>?_) hh.2) (qT (by simpa using hB.1.1.2) h); refine hh.1 fun hjs=>?_; subst hjs
   have:=hB.1.2
   simp[this]at h0
  refine⟨fun listed a w he hB hcl hC h=>⟨hC,fun h0=>?_,fun j hj=>?_⟩,K2⟩
  ·simp only[btB,Bool.not_true,Bool.false_or,Bool.and_eq_true,beq_iff_eq]at hB
   rw[hB.1.1.1]at h0
   cases h0
  ·have hB':=hB; simp only[btB,Bool.not_true,Bool.false_or,Bool.and_eq_true,beq_iff_eq]at hB'
   have hj':=hj
   rw[hB'.1.1.1]at hj
   exact K2 true listed a w t.len he rfl hB hcl (fun k hk=>by rw[hB'.1.1.1];exact hk) h j hj
 | .late i t=>by
  have ih:=(YC (Q:=Q) (s:=s) hns t).1; have K2:∀(top:Bool) (listed:Array Bool) (a:Act) (w:World) (n:Nat),(Bt.late i t).even=true→(Bt.late i t).len=n+1→btB md l.toArray s top (.late i t) listed=true→qg md l.toArray listed→(∀j∈(Bt.late i t).heads,j∈Region.ready md l.toArray listed)→jz P l C s Q (.late i t) a w→∀j∈(Bt.late i t).heads,wpOp P l.toArray QN j (xk P md l.toArray C s Q n (listed.setIfInBounds j true)) a w:=by
   intro top listed a w n he hl hB hcl hrd h j hj; have hjr:=hrd j hj; obtain rfl:j=i:=List.mem_singleton.1 hj; simp only[btB,Bool.and_eq_true,decide_eq_true_eq]at hB
   obtain rfl:t.len=n:=by simpa[Bt.len]using hl
   refine wpOp_mono (fun a' w' hh=>ih _ a' w' he hB.2 (xI hcl hjr) (fun h0=>?_) hh.2) (qT (C:=fun _=>True) (by simpa using hB.1.1.1.2) h)
   rw[js hB.1.2]at h0
   cases h0
  refine⟨fun listed a w he hB hcl hC h=>⟨hC,fun h0=>?_,fun j hj=>?_⟩,K2⟩
  ·simp only[btB,Bool.not_true,Bool.false_or,Bool.and_eq_true,beq_iff_eq]at hB
   rw[hB.1.1.1.1]at h0
   cases h0
  ·have hB':=hB; simp only[btB,Bool.not_true,Bool.false_or,Bool.and_eq_true,beq_iff_eq]at hB'
   have hj':=hj
   rw[hB'.1.1.1.1]at hj
   exact K2 true listed a w t.len he rfl hB hcl (fun k hk=>by rw[hB'.1.1.1.1];exact hk) h j hj
 | .two t u=>by
  have iht:=(YC (Q:=Q) (s:=s) hns t).2; have ihu:=(YC (Q:=Q) (s:=s) hns u).2; have K2:∀(top:Bool) (listed:Array Bool) (a:Act) (w:World) (n:Nat),(Bt.two t u).even=true→(Bt.two t u).len=n+1→btB md l.toArray s top (.two t u) listed=true→qg md l.toArray listed→(∀j∈(Bt.two t u).heads,j∈Region.ready md l.toArray listed)→jz P l C s Q (.two t u) a w→∀j∈(Bt.two t u).heads,wpOp P l.toArray QN j (xk P md l.toArray C s Q n (listed.setIfInBounds j true)) a w:=by
   intro top listed a w n he hl hB hcl hrd h j hj; simp only[btB,Bool.and_eq_true]at hB
   simp only[Bt.even,Bool.and_eq_true,beq_iff_eq]at he
   have hl':t.len=n+1:=hl; rcases List.mem_append.1 hj with hj|hj
   ·exact iht false listed a w n he.1.1.1.1 hl' hB.1.2 hcl (fun k hk=>hrd k (List.mem_append_left _ hk)) h.1 j hj
   ·exact ihu false listed a w n he.1.1.1.2 (he.1.1.2▸hl') hB.2 hcl (fun k hk=>hrd k (List.mem_append_right _ hk)) h.2 j hj
  refine⟨fun listed a w he hB hcl hC h=>?_,K2⟩
  have he':=he; simp only[Bt.even,Bool.and_eq_true,beq_iff_eq]at he'
  have hne:=Vh he'.1.2
  obtain⟨n,hn⟩:∃n,t.len=n+1:=by
   cases t with
   |fin=>exact absurd rfl hne
   |soft i t=>exact absurd rfl hne
   |pure i t=>exact absurd rfl hne
   |step i t=>exact⟨_,rfl⟩
   |late i t=>exact⟨_,rfl⟩
   |two a b=>
    refine⟨(Bt.two a b).len - 1,?_⟩
    have key:∀x:Bt,x.even=true→x.heads≠[]→x.len≠0:=by
     intro x; induction x with
     |fin=>intro _ h;exact absurd rfl h
     |soft i t _=>intro _ h;exact absurd rfl h
     |pure i t _=>intro _ h;exact absurd rfl h
     |step i t _=>intro _ _ h;cases h
     |late i t _=>intro _ _ h;cases h
     |two a b iha _=>
      intro hx _ h0; simp only[Bt.even,Bool.and_eq_true,beq_iff_eq]at hx
      exact iha hx.1.1.1.1 (Vh hx.1.2) h0
    have:=key _ he'.1.1.1.1 hne
    omega
  have hB':=hB; simp only[btB,Bool.not_true,Bool.false_or,Bool.and_eq_true,beq_iff_eq]at hB'
  show xk P md l.toArray C s Q t.len listed a w
  rw[hn]
  refine⟨hC,fun h0=>?_,fun j hj=>?_⟩
  ·rw[hB'.1.1]at h0
   exact absurd (List.append_eq_nil_iff.1 h0).1 hne
  ·have hj':=hj
   rw[hB'.1.1]at hj
   exact K2 true listed a w n he hn hB hcl (fun k hk=>by rw[hB'.1.1];exact hk) h j hj
def zcz (l:List Oper)(s:Nat)(t:Bt):Bool:=
 Region.noSelect l.toArray&&t.even&&btB .any l.toArray s true t (Array.replicate l.length false)&&(t.len==l.length)
theorem yj {id:Nat}{Q:Exit→Act→World→Prop}{a:Act}{w:World}{l:List Oper}(s:Nat)(t:Bt)(hm:P.follows .mixedOrders=true)(hB:zcz l s t=true)
 (h:jz P l (fun w'=>∃x:Lay,w'=more w x.os x.k) s (fun a' w'=>Q .normal a' w') t a w.drew):(Code.region id l.toArray true).wp P Q a w:=by
 unfold zcz at hB; simp only[Bool.and_eq_true,beq_iff_eq]at hB
 obtain⟨⟨⟨h1,h2⟩,h3⟩,h5⟩:=hB
 refine wp_region_any hm (vn (C:=fun w'=>∃x:Lay,w'=more w x.os x.k) (s:=s) _ _ _ _ ?_)
 have:=(YC (P:=P) (md:=.any) (Q:=fun a' w'=>Q .normal a' w') (C:=fun w'=>∃x:Lay,w'=more w x.os x.k) (s:=s) h1 t).1 (Array.replicate l.length false) a w.drew h2 h3 (fun k o _ hk=>by
  rw[Array.getD_eq_getD_getElem?,Array.getElem?_replicate]at hk
  split at hk<;>cases hk) (fun _=>⟨⟨[],w.drawn+1⟩,by rw[←zF,j0]⟩) h
 rw[h5]at this
 simpa using this
theorem xz {T:Type}(f:T→World){id:Nat}{Q:Exit→Act→World→Prop}{a:Act}{w:World}{l:List Oper}(s:Nat)(t:Bt)(hm:P.follows .mixedOrders=true)(hB:zcz l s t=true)(h0:∃x:T,w.drew=f x)
 (h:jz P l (fun w'=>∃x:T,w'=f x) s (fun a' w'=>Q .normal a' w') t a w.drew):(Code.region id l.toArray true).wp P Q a w:=by
 unfold zcz at hB; simp only[Bool.and_eq_true,beq_iff_eq]at hB
 obtain⟨⟨⟨h1,h2⟩,h3⟩,h5⟩:=hB
 refine wp_region_any hm (vn (C:=fun w'=>∃x:T,w'=f x) (s:=s) _ _ _ _ ?_)
 have:=(YC (P:=P) (md:=.any) (Q:=fun a' w'=>Q .normal a' w') (C:=fun w'=>∃x:T,w'=f x) (s:=s) h1 t).1 (Array.replicate l.length false) a w.drew h2 h3 (fun k o _ hk=>by
  rw[Array.getD_eq_getD_getElem?,Array.getElem?_replicate]at hk
  split at hk<;>cases hk) (fun _=>h0) h
 rw[h5]at this
 simpa using this
def zj:List Nat→Bt→Bt
 |[],t=>t
 |i ::r,t=>.soft i (zj r t)
theorem jK:∀{l:List Oper} {i:Nat} (acc:List Oper),l[i]?=none→yp l i acc=acc
 |[],_,_,_=>rfl
 |o ::_,0,_,h=>by simp at h
 |_ ::l,i+1,acc,h=>jK (l:=l) acc (by simpa using h)
theorem Zz {l:List Oper}{s:Nat}{Q:Act→World→Prop}{t:Bt}{w:World}:∀(is:List Nat) (a:Act),wpQuiet P l.toArray C (fun a'=>jz P l C s Q t a' w) (pick l is) a→jz P l C s Q (zj is t) a w
 |[],_,h=>h
 |i ::is,a,h=>by
  show wpQuiet P l.toArray C (fun a'=>jz P l C s Q (zj is t) a' w) (pick l [i]) a; have h':wpQuiet P l.toArray C (fun a'=>jz P l C s Q t a' w) (yp l i (pick l is)) a:=h; cases hi:l[i]? with
  |none=>
   rw[jK _ hi]at h'
   have e:pick l [i]=[]:=jK _ hi
   rw[e]
   exact Zz is a h'
  |some o=>
   rw[xE _ hi]at h'
   have e:pick l [i]=[o]:=xE _ hi
   rw[e]
   unfold wpQuiet at h' ⊢; split
   ·rename_i hw
    rw[if_pos hw]at h'
    exact Oper.quiet_mono (fun a' h''=>Zz is a' h'') h'
   ·rename_i hw
    rw[if_neg hw]at h'
    exact Zz is _ h'
theorem zbv {l:List Oper}{s:Nat}{Q:Act→World→Prop}{t:Bt}{a:Act}{w:World}(is:List Nat)(hh:∀K:Act→Prop,(∀a',jz P l C s Q t a' w→K a')→wpQuiet P l.toArray C K (pick l is) a):jz P l C s Q (zj is t) a w:=
 Zz is a (hh _ fun _ h=>h)
theorem yy {l:List Oper}{s i:Nat}{Q:Act→World→Prop}{t:Bt}{a:Act}{w:World}(hh:∀next:Act→World→Prop,(∀a w,jz P l C s Q t a w→next a w)→wpList P l.toArray (zcT C i s next) (pick l [i]) a w):jz P l C s Q (.step i t) a w:=hh _ fun _ _ h=>h
def zd:List Nat→Bt→Bt
 |[],t=>t
 |i ::r,t=>.pure i (zd r t)
theorem ZL {l:List Oper}{s:Nat}{Q:Act→World→Prop}{t:Bt}{w:World}:∀(is:List Nat) (a:Act),wpQuiet P l.toArray zce (fun a'=>jz P l C s Q t a' w) (pick l is) a→jz P l C s Q (zd is t) a w
 |[],_,h=>h
 |i ::is,a,h=>by
  show wpQuiet P l.toArray zce (fun a'=>jz P l C s Q (zd is t) a' w) (pick l [i]) a; have h':wpQuiet P l.toArray zce (fun a'=>jz P l C s Q t a' w) (yp l i (pick l is)) a:=h; cases hi:l[i]? with
  |none=>
   rw[jK _ hi]at h'
   have e:pick l [i]=[]:=jK _ hi
   rw[e]
   exact ZL is a h'
  |some o=>
   rw[xE _ hi]at h'
   have e:pick l [i]=[o]:=xE _ hi
   rw[e]
   unfold wpQuiet at h' ⊢; split
   ·rename_i hw
    rw[if_pos hw]at h'
    exact Oper.quiet_mono (fun a' h''=>ZL is a' h'') h'
   ·rename_i hw
    rw[if_neg hw]at h'
    exact ZL is _ h'
theorem zb8 {l:List Oper}{s:Nat}{Q:Act→World→Prop}{t:Bt}{a:Act}{w:World}(is:List Nat)(hh:∀K:Act→Prop,(∀a',jz P l C s Q t a' w→K a')→wpQuiet P l.toArray zce K (pick l is) a):jz P l C s Q (zd is t) a w:=
 ZL is a (hh _ fun _ h=>h)
theorem zaC {l:List Oper}{s i:Nat}{Q:Act→World→Prop}{t:Bt}{a:Act}{w:World}(hh:∀next:Act→World→Prop,(∀a w,jz P l C s Q t a w→next a w)→wpList P l.toArray (zcT (fun _=>True) i s next) (pick l [i]) a w):jz P l C s Q (.late i t) a w:=hh _ fun _ _ h=>h
theorem xw {l:List Oper}{s:Nat}{Q:Act→World→Prop}{a:Act}{w:World}(h:Q a w):jz P l C s Q .fin a w:=h
theorem btp {l:List Oper}{s:Nat}{Q:Act→World→Prop}{t:Bt}{a a':Act}{w:World}{is:List Nat}(h:jz P l C s Q t a' w)(q:∀K:Act→Prop,K a'→wpQuiet P l.toArray zce K (pick l is) a:=by intro K hK;simp only[pick,yp];(repeat go_big_quiet_step (fail));exact wpQuiet_nil hK):jz P l C s Q (zd is t) a w:=zb8 is fun K hK=>q K (hK _ h)
theorem bts {l:List Oper}{s:Nat}{Q:Act→World→Prop}{t:Bt}{a a':Act}{w:World}{is:List Nat}(h:jz P l C s Q t a' w)(q:∀K:Act→Prop,K a'→wpQuiet P l.toArray C K (pick l is) a:=by intro K hK;simp only[pick,yp];(repeat go_big_quiet_step (fail));exact wpQuiet_nil hK):jz P l C s Q (zj is t) a w:=zbv is fun K hK=>q K (hK _ h)
end
end Go.Proofs.YtmbelmngniddjaaGreat
namespace Go.Proofs.YtmbelmngniddjaaGreat
open Go.RowKit
attribute [local go_sem] zF zB zI zJ zw zt zN zD zX zQ zK zP zO zL zT zR zS zG zM zC
def RD (w:World)(b:Nat)(s:ByteArray)(at_:Nat)(v:Value):Prop:=w.heap[b]?=some (.cells #[.string s,.int .i64 at_,v,.int .i64 0] 140)
abbrev ptr (b:Nat):Value:=.pointer (some ⟨b,0,none⟩)
def zcr (k:Int)(c:Cl)(kv:Value):List Value:=[.int .i64 k,.int .u64 c.a,.int .u64 c.b,.int .u64 c.c,.int .u64 c.d,kv]
theorem zgQ:(Tryz.prog.info? 189).map (fun i=>(i.zero,i.size,i.bytes))=some (some (.agg #[.int .i64 0,.int .u64 0,.int .u64 0,.int .u64 0,.int .u64 0,.slice none 0 0]),6,64):=by kernel_rfl
end Go.Proofs.YtmbelmngniddjaaGreat
namespace Go.Proofs.YtmbelmngniddjaaGreat
open Go.RowKit
structure BtW (P:Program)(l:List Oper)(C:World→Prop)(s:Nat)(Q:Act→World→Prop)(t:Bt)(a:Act)(w:World):Prop where
 out:jz P l C s Q t a w
section
variable {P:Program}{C:World→Prop}
theorem zfb {l:List Oper}{s:Nat}{Q:Act→World→Prop}{t:Bt}{a:Act}{w:World}(is:List Nat)(hh:∀K:Act→Prop,(∀a',BtW P l C s Q t a' w→K a')→wpQuiet P l.toArray C K (pick l is) a):BtW P l C s Q (zj is t) a w:=
 ⟨zbv is fun K hK=>hh K fun a' h=>hK a' h.out⟩
theorem ze2 {l:List Oper}{s:Nat}{Q:Act→World→Prop}{t:Bt}{a:Act}{w:World}(is:List Nat)(hh:∀K:Act→Prop,(∀a',BtW P l C s Q t a' w→K a')→wpQuiet P l.toArray zce K (pick l is) a):BtW P l C s Q (zd is t) a w:=
 ⟨zb8 is fun K hK=>hh K fun a' h=>hK a' h.out⟩
theorem zp {l:List Oper}{s i:Nat}{Q:Act→World→Prop}{t:Bt}{a:Act}{w:World}(hh:∀next:Act→World→Prop,(∀a w,BtW P l C s Q t a w→next a w)→wpList P l.toArray (zcT C i s next) (pick l [i]) a w):BtW P l C s Q (.step i t) a w:=
 ⟨yy fun next hn=>hh next fun a w h=>hn a w h.out⟩
theorem vU {l:List Oper}{s i:Nat}{Q:Act→World→Prop}{t:Bt}{a:Act}{w:World}(hh:∀next:Act→World→Prop,(∀a w,BtW P l C s Q t a w→next a w)→wpList P l.toArray (zcT (fun _=>True) i s next) (pick l [i]) a w):BtW P l C s Q (.late i t) a w:=
 ⟨zaC fun next hn=>hh next fun a w h=>hn a w h.out⟩
theorem zv {l:List Oper}{s:Nat}{Q:Act→World→Prop}{a:Act}{w:World}(h:Q a w):BtW P l C s Q .fin a w:=⟨xw h⟩
theorem yq {l:List Oper}{s:Nat}{Q:Act→World→Prop}{t:Bt}{a a':Act}{w:World}{is:List Nat}(h:BtW P l C s Q t a' w)(q:∀K:Act→Prop,K a'→wpQuiet P l.toArray zce K (pick l is) a:=by intro K hK;simp only[pick,yp];(repeat go_big_quiet_step (fail));exact wpQuiet_nil hK):BtW P l C s Q (zd is t) a w:=ze2 is fun K hK=>q K (hK _ h)
theorem yr {l:List Oper}{s:Nat}{Q:Act→World→Prop}{t:Bt}{a a':Act}{w:World}{is:List Nat}(h:BtW P l C s Q t a' w)(q:∀K:Act→Prop,K a'→wpQuiet P l.toArray C K (pick l is) a:=by intro K hK;simp only[pick,yp];(repeat go_big_quiet_step (fail));exact wpQuiet_nil hK):BtW P l C s Q (zj is t) a w:=zfb is fun K hK=>q K (hK _ h)
theorem zg {id:Nat}{Q:Exit→Act→World→Prop}{a:Act}{w:World}{l:List Oper}(s:Nat)(t:Bt)(hm:P.follows .mixedOrders=true)(hB:zcz l s t=true)
 (h:BtW P l (fun w'=>∃x:Lay,w'=more w x.os x.k) s (fun a' w'=>Q .normal a' w') t a w.drew):(Code.region id l.toArray true).wp P Q a w:=yj s t hm hB h.out
theorem Zc {T:Type}(f:T→World){id:Nat}{Q:Exit→Act→World→Prop}{a:Act}{w:World}{l:List Oper}(s:Nat)(t:Bt)(hm:P.follows .mixedOrders=true)(hB:zcz l s t=true)(h0:∃x:T,w.drew=f x)
 (h:BtW P l (fun w'=>∃x:T,w'=f x) s (fun a' w'=>Q .normal a' w') t a w.drew):(Code.region id l.toArray true).wp P Q a w:=xz f s t hm hB h0 h.out
end
end Go.Proofs.YtmbelmngniddjaaGreat
namespace Go.Proofs.YtmbelmngniddjaaGreat
open Go.RowKit
attribute [local go_sem] zF zB zI zJ zw zt zN zD zX zQ zK zP zO zL zT zR zS zG zM zC
abbrev zH:Value:=.slice none 0 0
def r2C (z:Cl)(gk:Nat):List Value:=zcr 2 z zH++zcr 6 Cl.zero (.slice (some ⟨gk,0,none⟩) 1 1)
def R2 (w:World)(A:Option Addr)(z:Cl):Prop:=∃g gk,A=some ⟨g,0,none⟩∧g < w.heap.size∧gk < w.heap.size∧yI w A (r2C z gk)∧w.cell? ⟨gk,0,none⟩=some (.int .i64 0)
def F1 (w:World)(base:Nat)(A:Option Addr):Prop:=∃g og h oh c' cs,A=some ⟨g,og,none⟩∧g < w.heap.size∧w.cell? ⟨g,og,none⟩=some (.slice (some ⟨h,oh,none⟩) 1 c')∧w.heap[h]?=some (.cells cs 4)∧cs[oh]?=some (.bool false)∧base≤g∧base≤h
theorem ziB (w:World)(n:Nat)(m:Int)(hm:m=n)(hn:n≤1000000):
 (Instr.makeSlice 33 (.int .i64 m) (.int .i64 m)).run Tryz.prog w=.ok (.slice (some ⟨w.heap.size,0,none⟩) n n) (w.alloc (.cells (madeCells #[.int .i64 0] n) 3)):=by
 subst hm
 obtain⟨i3,hi,hz0,hz1,hz2⟩:=info_parts Yd
 have h:=run_makeSlice (P:=Tryz.prog) w 33 3 i3 (.int .i64 0) Tryz.underlying33 hi hz0 .i64 .i64 (n:Int) (n:Int) (by omega) (by omega) (by rw[hz1];omega) (by rw[hz2];omega) (by omega)
 rw[hz1,Int.toNat_natCast,Nat.mul_one]at h
 exact h
theorem ziE (w:World):(Op.equalIn 10000 145 (.agg #[.int .u64 0,.int .u64 0,.int .u64 0,.int .u64 0]) (.agg #[.int .u64 0,.int .u64 0,.int .u64 0,.int .u64 0])).run Tryz.prog w=.ok true w:=by kernel_rfl
theorem ym {w0 w w':World}{base:Nat}{e T:TypeId}{size:Nat}{v:Value}{n:Nat}{xs:List Value}{cs:Array Value}{g:Nat}(hown:w0.ownsRow base e size v n xs)(hg:w.grownBy w' v.ownBlock)(he:Ext w0 w)(h:w.heap[g]?=some (.cells cs T))(hT:T≠e):w'.heap[g]?=some (.cells cs T):=by
 refine(hg.block g (za h) fun hh=>hT ?_).trans h
 obtain⟨cur,hcur⟩:=zZ hown g hh.symm
 have:=zb hcur he
 rw[h]at this
 injection this with this; injection this
theorem xN {w0 w w':World}{base b':Nat}{e e':TypeId}{size s':Nat}{v v':Value}{n n':Nat}{xs ys:List Value}(hown:w0.ownsRow base e size v n xs)(hg:w.grownBy w' v.ownBlock)(he:Ext w0 w)(h:w.ownsRow b' e' s' v' n' ys)(hT:e'≠e):w'.ownsRow b' e' s' v' n' ys:=by
 refine ye h fun g hgv=>?_
 obtain⟨cur,hcur⟩:=zZ h g hgv
 exact(ym hown hg he hcur hT).trans hcur.symm
def yN (w:World)(x:Value)(v:Value)(xs:List Int):Prop:=∃A c,v=.slice A xs.length c∧xW w A xs∧xs.length≤c∧c≤9223372036854775807∧(A=none→c=0)∧∀g off s,A=some ⟨g,off,s⟩→(∃cs,w.heap[g]?=some (.cells cs 3))∧x.ownBlock≠some g
theorem yN.nil (w:World)(x:Value):yN w x zH []:=⟨none,0,rfl,xW.nil,by simp,by omega,fun _=>rfl,fun g off s h=>by cases h⟩
theorem yN.keep {w w':World}{x v:Value}{xs:List Int}{S:Nat→Prop}(h:yN w x v xs)(t:zA S w w')(hS:∀g cs,w.heap[g]?=some (.cells cs 3)→x.ownBlock≠some g→¬S g)(x':Value)(hx:∀g,x'.ownBlock=some g→x.ownBlock=some g∨w.heap.size≤g):yN w' x' v xs:=by
 obtain⟨A,c,hv,hi,h1,h2,h3,h4⟩:=h
 refine⟨A,c,hv,fun h0=>?_,h1,h2,h3,fun g off s hA=>?_⟩
 ·obtain⟨b,off,hA,hb,hc⟩:=hi h0
  obtain⟨⟨cs,hcs⟩,hne⟩:=h4 b off none hA
  have hk:=t.block b hb (hS b cs hcs hne)
  exact⟨b,off,hA,Nat.lt_of_lt_of_le hb t.size,fun k hk2=>(World.cell?_of_block (w:=w) (a:=⟨b,off+k,none⟩) hk).trans (hc k hk2)⟩
 ·obtain⟨⟨cs,hcs⟩,hne⟩:=h4 g off s hA
  refine⟨⟨cs,t.keep hcs (hS g cs hcs hne)⟩,fun hh=>?_⟩
  rcases hx g hh with h|h
  ·exact hne h
  ·have:=za hcs;omega
structure vA (w:World)(nb base m:Nat)(cc rc:List Value)(nx:List (List Int))(cv nv rv:Value):Prop where
 blk:w.heap[nb]?=some (.cells #[cv,nv,rv] 108)
 low:base≤nb
 cls:w.ownsRow base 145 4 cv m cc
 nxt:∃vs,w.ownsRow base 33 1 nv m vs∧vs.length=nx.length∧∀(k:Nat) (v:Value) (xs:List Int),vs[k]?=some v→nx[k]?=some xs→yN w rv v xs
 rul:w.ownsRow base 3 1 rv m rc
def Zf (nb:Nat)(cv nv rv:Value)(k:Nat):Prop:=k=nb∨cv.ownBlock=some k∨nv.ownBlock=some k∨rv.ownBlock=some k
theorem vA.ext {w w':World}{nb base m:Nat}{cc rc:List Value}{nx:List (List Int)}{cv nv rv:Value}(h:vA w nb base m cc rc nx cv nv rv)(e:Ext w w'):vA w' nb base m cc rc nx cv nv rv:=by
 obtain⟨vs,h1,h2,h3⟩:=h.nxt
 exact⟨zb h.blk e,h.low,yv h.cls e,⟨vs,yv h1 e,h2,fun k v xs hv hx=>(h3 k v xs hv hx).keep (zA.of_ext (S:=fun _=>False) e) (fun _ _ _ _ h=>h) rv (fun g hg=>.inl hg)⟩,yv h.rul e⟩
structure St (W:World)(base nb xb:Nat)(xcs:Array Value)(cv nv rv:Value)(ns0:List Value)(nx:List (List Int))(V:World)(c':Value)(mc:Nat)(cc':List Value)(n':Value)(mn:Nat)(ns':List Value)(r':Value)(mr:Nat)(rc':List Value):Prop where
 kb:V.heap[nb]?=some (.cells #[cv,nv,rv] 108)
 kx:V.heap[xb]?=some (.cells xcs 189)
 rc:V.ownsRow base 145 4 c' mc cc'
 rn:V.ownsRow base 33 1 n' mn ns'
 rr:V.ownsRow base 3 1 r' mr rc'
 kt:zA (fun k=>cv.ownBlock=some k∨nv.ownBlock=some k∨rv.ownBlock=some k) W V
 inn:∀(k:Nat) (v:Value) (xs:List Int),ns0[k]?=some v→nx[k]?=some xs→yN V r' v xs
section
variable {W V V':World}{base nb xb mc mn mr:Nat}{xcs:Array Value}{cv nv rv c' n' r' v':Value}{ns0 cc' ns' rc' zs:List Value}{nx:List (List Int)}
theorem St.ext (h:St W base nb xb xcs cv nv rv ns0 nx V c' mc cc' n' mn ns' r' mr rc')(e:Ext V V'):St W base nb xb xcs cv nv rv ns0 nx V' c' mc cc' n' mn ns' r' mr rc':=
 ⟨zb h.kb e,zb h.kx e,yv h.rc e,yv h.rn e,yv h.rr e,h.kt.trans (zA.of_ext e),fun k v xs hv hx=>(h.inn k v xs hv hx).keep (zA.of_ext (S:=fun _=>False) e) (fun _ _ _ _ h=>h) r' (fun _ hg=>.inl hg)⟩
theorem zdN {T:TypeId}{n size:Nat}{v:Value}{xs:List Value}(hr:V.ownsRow base T size v n xs)(hT:3≠T):∀g cs,V.heap[g]?=some (.cells cs 3)→r'.ownBlock≠some g→¬v.ownBlock=some g:=fun g cs hcs _ hk=>hT (by
 obtain⟨cur,hcur⟩:=zZ hr g hk
 rw[hcur]at hcs
 injection hcs with hcs; injection hcs with _ hcs; exact hcs.symm)
theorem St.appC (h:St W base nb xb xcs cv nv rv ns0 nx V cv mc cc' n' mn ns' r' mr rc')(ho:V'.ownsRow base 145 4 v' (mc+1) (cc'++zs))(hg:V.grownBy V' cv.ownBlock):St W base nb xb xcs cv nv rv ns0 nx V' v' (mc+1) (cc'++zs) n' mn ns' r' mr rc':=
 ⟨ym h.rc hg (Ext.refl _) h.kb (by decide),ym h.rc hg (Ext.refl _) h.kx (by decide),ho,xN h.rc hg (Ext.refl _) h.rn (by decide),xN h.rc hg (Ext.refl _) h.rr (by decide),
   h.kt.trans (zA.grown hg fun g hg _=>.inl hg),fun k v xs hv hx=>(h.inn k v xs hv hx).keep (zA.grown (S:=fun g=>cv.ownBlock=some g) hg fun g hg _=>hg) (zdN h.rc (by decide)) r' (fun g hg=>.inl hg)⟩
theorem St.appN (h:St W base nb xb xcs cv nv rv ns0 nx V c' mc cc' nv mn ns' r' mr rc')(ho:V'.ownsRow base 33 1 v' (mn+1) (ns'++zs))(hg:V.grownBy V' nv.ownBlock):St W base nb xb xcs cv nv rv ns0 nx V' c' mc cc' v' (mn+1) (ns'++zs) r' mr rc':=
 ⟨ym h.rn hg (Ext.refl _) h.kb (by decide),ym h.rn hg (Ext.refl _) h.kx (by decide),xN h.rn hg (Ext.refl _) h.rc (by decide),ho,xN h.rn hg (Ext.refl _) h.rr (by decide),
   h.kt.trans (zA.grown hg fun g hg _=>.inr (.inl hg)),fun k v xs hv hx=>(h.inn k v xs hv hx).keep (zA.grown (S:=fun g=>nv.ownBlock=some g) hg fun g hg _=>hg) (zdN h.rn (by decide)) r' (fun g hg=>.inl hg)⟩
theorem St.appR (h:St W base nb xb xcs cv nv rv ns0 nx V c' mc cc' n' mn ns' rv mr rc')(ho:V'.ownsRow base 3 1 v' (mr+1) (rc'++zs))(hg:V.grownBy V' rv.ownBlock)(hat:v'.ownBlock=rv.ownBlock∨v'.ownBlock=some V.heap.size):St W base nb xb xcs cv nv rv ns0 nx V' c' mc cc' n' mn ns' v' (mr+1) (rc'++zs):=
 ⟨ym h.rr hg (Ext.refl _) h.kb (by decide),ym h.rr hg (Ext.refl _) h.kx (by decide),xN h.rr hg (Ext.refl _) h.rc (by decide),xN h.rr hg (Ext.refl _) h.rn (by decide),ho,
   h.kt.trans (zA.grown hg fun g hg _=>.inr (.inr hg)),fun k v xs hv hx=>(h.inn k v xs hv hx).keep (zA.grown (S:=fun g=>rv.ownBlock=some g) hg fun g hg _=>hg) (fun g cs _ hne=>hne) v' (fun g hg=>by
    rcases hat with h|h
    ·exact .inl (h▸hg)
    ·rw[h]at hg;injection hg with hg;exact .inr (by omega))⟩
theorem St.eds (h:St W base nb xb xcs cv nv rv ns0 nx V c' mc cc' n' mn ns' r' mr rc')(hb:W.heap[nb]?=some (.cells #[cv,nv,rv] 108))(hx:W.heap[xb]?=some (.cells xcs 189)):∃x:EdS W nb xb,V=x.V:=⟨⟨V,h.kb.trans hb.symm,h.kx.trans hx.symm⟩,rfl⟩
theorem zhY {m:Nat}{cc rc:List Value}(h:St W base nb xb xcs cv nv rv ns0 nx V c' (m+1) cc n' (m+1) (ns0++[zH]) r' (m+1) rc)(hb:W.heap[nb]?=some (.cells #[cv,nv,rv] 108))(hne:∀k,(cv.ownBlock=some k∨nv.ownBlock=some k∨rv.ownBlock=some k)→k≠nb)(hlow:base≤nb)(hnl:ns0.length=nx.length)
 (gc:c'.ownBlock=cv.ownBlock∨∃g,c'.ownBlock=some g∧W.heap.size≤g∧g < V'.heap.size) {V2 V3:World} (gn:n'.ownBlock=nv.ownBlock∨∃g,n'.ownBlock=some g∧W.heap.size≤g∧g < V2.heap.size) (gr:r'.ownBlock=rv.ownBlock∨∃g,r'.ownBlock=some g∧W.heap.size≤g∧g < V3.heap.size):
 Hid (vA (y8 V nb c' n' r') nb base (m+1) cc rc (nx++[[]]) c' n' r')∧Hid (zA (Zf nb cv nv rv) W (y8 V nb c' n' r'))∧Hid (∀g,Zf nb c' n' r' g→Zf nb cv nv rv g∨W.heap.size≤g)∧Hid (∀g,r'.ownBlock=some g→g < (y8 V nb c' n' r').heap.size):=by
 have hlt:=za hb; have T3:zA (fun k=>k=nb) V (y8 V nb c' n' r'):=yM (S:=fun k=>k=nb) rfl _ _ _; have fc:∀g,c'.ownBlock=some g→g≠nb:=fun g hg=>by
  rcases gc with h|⟨k,h,h2,_⟩
  ·exact hne g (.inl (h▸hg))
  ·rw[h]at hg;injection hg with hg;omega
 have fn:∀g,n'.ownBlock=some g→g≠nb:=fun g hg=>by
  rcases gn with h|⟨k,h,h2,_⟩
  ·exact hne g (.inr (.inl (h▸hg)))
  ·rw[h]at hg;injection hg with hg;omega
 have fr:∀g,r'.ownBlock=some g→g≠nb:=fun g hg=>by
  rcases gr with h|⟨k,h,h2,_⟩
  ·exact hne g (.inr (.inr (h▸hg)))
  ·rw[h]at hg;injection hg with hg;omega
 refine⟨zh ⟨qK h.kb _ _ _,hlow,ye h.rc fun g hg=>T3.block g (z8 h.rc g hg) (fc g hg),⟨_,ye h.rn fun g hg=>T3.block g (z8 h.rn g hg) (fn g hg),by rw[List.length_append,List.length_append,hnl];rfl,fun k v xs hv hx=>?_⟩,ye h.rr fun g hg=>T3.block g (z8 h.rr g hg) (fr g hg)⟩,
  zh ((h.kt.mono fun k _ hk=>.inr hk).trans (T3.mono fun k _ hk=>.inl hk)),zh (fun g hg=>?_),zh (fun g hg=>?_)⟩
 ·have keep:∀{v:Value} {xs:List Int},yN V r' v xs→yN (y8 V nb c' n' r') r' v xs:=fun hi=>hi.keep T3 (fun g cs hcs _ he=>by
   subst he
   rw[h.kb]at hcs
   injection hcs with hcs; injection hcs with _ hcs; exact absurd hcs (by decide)) r' (fun g hg=>.inl hg)
  by_cases hk:k < ns0.length
  ·rw[List.getElem?_append_left hk]at hv
   rw[List.getElem?_append_left (by omega)]at hx
   exact keep (h.inn k v xs hv hx)
  ·obtain rfl:k=ns0.length:=by
    have:=(List.getElem?_eq_some_iff.1 hv).1
    simp at this
    omega
   simp at hv
   rw[hnl]at hx
   simp at hx
   subst hv hx; exact yN.nil _ _
 ·rcases hg with hg|hg|hg|hg
  ·exact .inl (.inl hg)
  ·rcases gc with h|⟨k,h,h2,_⟩
   ·exact .inl (.inr (.inl (h▸hg)))
   ·rw[h]at hg;injection hg with hg;exact .inr (by omega)
  ·rcases gn with h|⟨k,h,h2,_⟩
   ·exact .inl (.inr (.inr (.inl (h▸hg))))
   ·rw[h]at hg;injection hg with hg;exact .inr (by omega)
  ·rcases gr with h|⟨k,h,h2,_⟩
   ·exact .inl (.inr (.inr (.inr (h▸hg))))
   ·rw[h]at hg;injection hg with hg;exact .inr (by omega)
 ·have:=z8 h.rr g hg
  exact Nat.lt_of_lt_of_le this T3.size
end
theorem zfy:(Tryz.prog.info? 145).map (fun i=>(i.zero,i.size,i.bytes))=some (some (.agg #[.int .u64 0,.int .u64 0,.int .u64 0,.int .u64 0]),4,32):=by kernel_rfl
theorem zbw:(Tryz.prog.info? 33).map (fun i=>(i.zero,i.size,i.bytes))=some (some (.slice none 0 0),1,24):=by kernel_rfl
set_option maxRecDepth 100000 in
set_option maxHeartbeats 2000000 in
theorem zi6 (A:Option Addr)(c:Nat)(xs:List Int)(n:Int)(w:World)(h:xW w A xs)(hl:xs.length≤1000000):Calls Tryz.prog 118 #[.slice A xs.length c,.int .i64 n] w fun e w'=>e=.returned (.bool (decide (n∈xs)))∧Ext w w':=by
 have H:=zh h; clear h; go_in
 go_wp2_with fail; go_loopw [5] (fun i wr=>∃k:Nat,k≤xs.length∧i=.int .i64 k∧Hid (n∉xs.take k)∧Hid (Ext w wr)) (fun i _=>xs.length - (intOf i).toNat)
 case atStart=>exact⟨0,Nat.zero_le _,rfl,zh (by simp),zh (Ext.refl _)⟩
 case round=>
  obtain⟨k,hk,rfl,hn,hx⟩:=hrel
  by_cases hlt:k < xs.length
  ·obtain⟨b,off,rfl,hb,hc⟩:=(H.out.ext hx.out) (by omega)
   have x0:=hc k hlt
   obtain⟨x,hxx⟩:∃x,xs.getD k 0=x:=⟨_,rfl⟩
   rw[hxx]at x0
   have hxm:x∈xs:=by
    rw[←hxx,List.getD_eq_getElem?_getD,List.getElem?_eq_getElem hlt]
    exact List.getElem_mem hlt
   have HT:=zh (qu hlt)
   rw[hxx]at HT
   clear hc hxx; by_cases hxn:x=n
   ·have q:(x==n)=true:=by simp[hxn]
    have HM:Hid (n∈xs):=zh (hxn▸hxm); clear hxn hxm; go_wp2_with fail; go_ret
    exact⟨yx (decide_eq_true HM.out).symm,hx.out⟩
   ·have q:(x==n)=false:=by simp[hxn]
    have HM:Hid (n∉xs.take (k+1)):=zh (by rw[HT.out,List.mem_append];rintro(h|h);exact hn.out h;exact hxn (List.mem_singleton.1 h).symm); clear hxn hxm; go_wp2_with fail; go_roundw
    case rel=>exact⟨k+1,by omega,by go_num,HM,hx⟩
    case measure=>simp[intOf];omega
  ·obtain rfl:k=xs.length:=by omega
   have HM:Hid (n∉xs):=zh (by have:=hn.out;rwa[List.take_length]at this); go_wp2_with fail; go_ret
   exact⟨yx (decide_eq_false HM.out).symm,hx.out⟩
end Go.Proofs.YtmbelmngniddjaaGreat
