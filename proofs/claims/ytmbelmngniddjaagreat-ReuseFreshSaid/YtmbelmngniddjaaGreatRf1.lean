/- Rf: texts that the proof rests on, part 1. -/
import Derived.WalkKit
import Derived.Handy
import Derived.Deep.Draws
import Derived.BigQuiet
import Derived.Lib.Hide
import Derived.Maps.AppendAt
import Derived.Deep.AppendLies
import Derived.RegionTactic
import Derived.OwnWalk
import Derived.Laws.OwnMore
import Derived.RangeFuncNested
import Derived.RangeFuncBound
import Derived.RangeFuncCalls
import Derived.RangeFuncLeaves
import Derived.RangeFuncRecord
import Derived.RangeFuncIn
import Derived.Sort.QuietThIn
import Derived.Orders
import Derived.Deep.Quiet
import Derived.Test.YtmbelmngniddjaaGreatChecked
import Derived.WalkSpells
import Derived.WalkLawsBesides
import Derived.BigRegion
import Derived.Deep.RegionWith
import Derived.Deep.QuietTactic
import Derived.Deep.DeepCutAuto
import Derived.Deep.RegionHeld3
import Derived.Deep.RegionLaw
import Derived.Laws.Strings
import Derived.Laws.BitsAllLaws
import Derived.Laws.Closers25b
namespace Go.Proofs.YtmbelmngniddjaaGreat
open Go.RowKit
def more (w:World)(os:List Obj)(k:Nat):World:={w with heap:=w.heap++os.toArray,drawn:=k}
section
variable (w:World)(os:List Obj)(k:Nat)
theorem zI:(more w os k).heap.size=w.heap.size+os.length:=by simp[more]
theorem Qk (b:Nat)(h:b < w.heap.size):(more w os k).heap[b]?=w.heap[b]?:=by
 show(w.heap++os.toArray)[b]?=_
 rw[Array.getElem?_append_left h]
theorem zJ (b o:Nat)(h:b < w.heap.size):(more w os k).cell? ⟨b,o,none⟩=w.cell? ⟨b,o,none⟩:=
 World.cell?_of_block (Qk w os k b h)
theorem zw (b o:Nat)(h:b < w.heap.size):(more w os k).frozen? ⟨b,o,none⟩=w.frozen? ⟨b,o,none⟩:=
 World.frozen?_of_block (Qk w os k b h)
theorem zt (b o:Nat)(v:Value)(h:b < w.heap.size):(more w os k).setCell ⟨b,o,none⟩ v=more (w.setCell ⟨b,o,none⟩ v) os k:=by
 unfold more World.setCell; congr 1
 apply Array.ext_getElem?
 intro j; simp only[Array.getElem?_modify,Array.getElem?_append,Array.size_modify]
 by_cases hj:j < w.heap.size
 ·simp[hj]
 ·have hne:¬b=j:=by omega
  simp[hj,hne]
theorem j0:more w [] w.drawn=w:=by simp[more]
theorem zF:(more w os k).drew=more w os (k+1):=rfl
theorem zB (n:Nat):(more w os k).drewN n=more w os (k+n):=rfl
theorem zN:more w.drew os k=more w os k:=rfl
theorem zD (n:Nat):more (w.drewN n) os k=more w os k:=rfl
theorem zcB (o:Obj):(more w os k).alloc o=more w (os++[o]) k:=by
 show World.mk _ _ _ _ _=World.mk _ _ _ _ _; congr 1
 show(w.heap++os.toArray).push o=w.heap++(os++[o]).toArray
 simp
theorem zdT (os':List Obj)(k':Nat):more (more w os k) os' k'=more w (os++os') k':=by
 show World.mk _ _ _ _ _=World.mk _ _ _ _ _; congr 1
 show(w.heap++os.toArray)++os'.toArray=w.heap++(os++os').toArray
 simp
theorem zX {a b c:Nat}(h:a < b):a < b+c:=Nat.lt_of_lt_of_le h (Nat.le_add_right _ _)
theorem zQ {a b c d:Nat}(h:a < b):a < b+c+d:=by omega
theorem zK {a b c d e:Nat}(h:a < b):a < b+c+d+e:=by omega
theorem zP {a b c d e f:Nat}(h:a < b):a < b+c+d+e+f:=by omega
theorem zO {a b c d e f g:Nat}(h:a < b):a < b+c+d+e+f+g:=by omega
theorem zL {a b c d e f g i:Nat}(h:a < b):a < b+c+d+e+f+g+i:=by omega
theorem zT {a b c d e f g i j:Nat}(h:a < b):a < b+c+d+e+f+g+i+j:=by omega
theorem zR {a b c d e f g i j k:Nat}(h:a < b):a < b+c+d+e+f+g+i+j+k:=by omega
theorem zS {a b c d e f g i j k l:Nat}(h:a < b):a < b+c+d+e+f+g+i+j+k+l:=by omega
theorem zG {a b c d e f g i j k l m:Nat}(h:a < b):a < b+c+d+e+f+g+i+j+k+l+m:=by omega
theorem zM {a b:Nat}:a < a+b+1:=by omega
theorem zC {a b c:Nat}:a < a+b+c+1:=by omega
end
def Ext (w w':World):Prop:=∃os k,w'=more w os k
theorem Ext.refl (w:World):Ext w w:=⟨[],w.drawn,(j0 w).symm⟩
theorem Ext.alloc {w w':World}(h:Ext w w')(o:Obj):Ext w (w'.alloc o):=by
 obtain⟨os,k,rfl⟩:=h
 exact⟨_,_,zcB w os k o⟩
theorem Ext.drew {w w':World}(h:Ext w w'):Ext w w'.drew:=by
 obtain⟨os,k,rfl⟩:=h
 exact⟨_,_,zF w os k⟩
theorem Ext.drewN {w w':World}(h:Ext w w')(n:Nat):Ext w (w'.drewN n):=by
 obtain⟨os,k,rfl⟩:=h
 exact⟨_,_,zB w os k n⟩
theorem Ext.trans {a b c:World}(h:Ext a b)(h':Ext b c):Ext a c:=by
 obtain⟨os,k,rfl⟩:=h
 obtain⟨os',k',rfl⟩:=h'
 exact⟨_,_,zdT a os k os' k'⟩
theorem Ext.more {w w':World}(h:Ext w w')(os:List Obj)(k:Nat):Ext w (more w' os k):=h.trans ⟨os,k,rfl⟩
theorem Ext.below {w w':World}(h:Ext w w'):Below w.heap.size w w':=by
 obtain⟨os,k,rfl⟩:=h
 exact⟨rfl,rfl,rfl,by rw[zI];omega,fun b hb=>Qk w os k b hb⟩
theorem Ext.of_below {w w':World}(h:Below w.heap.size w w'):Ext w w':=by
 refine⟨(w'.heap.extract w.heap.size w'.heap.size).toList,w'.drawn,?_⟩
 obtain⟨heap,tape,drawn,os,output⟩:=w
 obtain⟨heap',tape',drawn',os',output'⟩:=w'
 obtain⟨h1,h2,h3,h4,h5⟩:=h
 simp only at h1 h2 h3 h4 h5
 subst h1 h2 h3; show World.mk _ _ _ _ _=World.mk _ _ _ _ _; congr 1
 apply Array.ext_getElem?
 intro j
 rw[Array.getElem?_append]
 split
 ·rename_i hj; exact h5 j hj
 ·rename_i hj; have hj':¬j < heap.size:=hj; show heap'[j]?=(heap'.extract heap.size heap'.size).toList.toArray[j - heap.size]?
  rw[List.getElem?_toArray,Array.getElem?_toList,Array.getElem?_extract]
  by_cases hl:j < heap'.size
  ·rw[if_pos (by simp only[Nat.min_self];omega)]
   congr 1
   omega
  ·rw[if_neg (by simp only[Nat.min_self];omega),Array.getElem?_eq_none (by omega)]
theorem Ext.size {w w':World}(h:Ext w w'):w.heap.size≤w'.heap.size:=h.below.size
theorem Ext.grown {w w1 w':World}(h:Ext w w1){row:Option Nat}(hg:w1.grownBy w' row)(hr:∀g,row=some g→w.heap.size≤g):Ext w w':=
 Ext.of_below (h.below.grown hg h.size hr)
theorem Ext.setCell {w w':World}(h:Ext w w'){p:Addr}(hp:w.heap.size≤p.block)(u:Value):Ext w (w'.setCell p u):=
 Ext.of_below (h.below.setCell hp u)
theorem zh {p:Prop}(h:p):Hid p:=Lib.hid h
theorem xr (w:World):Ext w w:=Ext.refl w
theorem xa {w w':World}(h:Ext w w')(o:Obj):Ext w (w'.alloc o):=Ext.alloc h o
theorem xm {w w':World}(h:Ext w w')(os:List Obj)(k:Nat):Ext w (more w' os k):=Ext.more h os k
theorem xd {w w':World}(h:Ext w w'):Ext w w'.drew:=Ext.drew h
theorem xn {w w':World}(h:Ext w w')(k:Nat):Ext w (w'.drewN k):=Ext.drewN h k
theorem xs {w w':World}(h:Ext w w'){p:Addr}(hp:w.heap.size≤p.block)(u:Value):Ext w (w'.setCell p u):=Ext.setCell h hp u
theorem xi {w w':World}(h:Ext w w':=by repeat first|exact Ext.refl _|refine Ext.alloc ?_ _|refine Ext.more ?_ _ _|refine Ext.drew ?_|refine Ext.drewN ?_ _|refine Ext.setCell ?_ (by simp<;>omega) _):Ext w w':=h
theorem cr {w:World}{g:Nat}(j:Nat){cs:Array Value}{t:TypeId}{fr:Nat×Nat}(hg:w.heap[g]?=some (.cells cs t fr)):w.cell? ⟨g,j,none⟩=cs[j]?:=cell_of_row w g j cs t fr hg
theorem yt {k:IntKind}{a b:Int}(h:a=b):Ending.returned (.int k a)=.returned (.int k b):=by rw[h]
theorem yx {a b:Bool}(h:a=b):Ending.returned (.bool a)=.returned (.bool b):=by rw[h]
structure Lay where
 os:List Obj
 k:Nat
instance layNonempty:Nonempty Lay:=⟨⟨[],0⟩⟩
theorem Je {P:Program}{id:Nat}{Q:Exit→Act→World→Prop}{a:Act}{w:World}{l:List Oper}(hm:P.follows .mixedOrders=true)(hB:Region.lexB .any l.toArray=true)
 (h:wpQuiet P l.toArray (fun w'=>∃x:Lay,w'=more w x.os x.k) (fun a'=>∀w',(∃x:Lay,w'=more w x.os x.k)→Q .normal a' w') l a):(Code.region id l.toArray true).wp P Q a w:=
 wp_region_quiet (C:=fun w'=>∃x:Lay,w'=more w x.os x.k) hm hB ⟨⟨[],w.drawn+1⟩,by simp[more]⟩ (by simpa using h)
def xW (w:World)(A:Option Addr)(xs:List Int):Prop:=
 0 < xs.length→∃b off,A=some ⟨b,off,none⟩∧b < w.heap.size∧∀k,k < xs.length→w.cell? ⟨b,off+k,none⟩=some (.int .i64 (xs.getD k 0))
theorem xW.nil {w:World}{A:Option Addr}:xW w A []:=fun h=>by simp at h
theorem xW.ext {w w':World}{A:Option Addr}{xs:List Int}(h:xW w A xs)(e:Ext w w'):xW w' A xs:=fun h0=>by
 obtain⟨b,off,hA,hb,hc⟩:=h h0
 obtain⟨os,k,rfl⟩:=e
 exact⟨b,off,hA,by rw[zI];omega,fun j hj=>by rw[zJ _ _ _ _ _ hb];exact hc j hj⟩
theorem xW.below {w w':World}{A:Option Addr}{xs:List Int}(h:xW w A xs)(e:Below w.heap.size w w'):xW w' A xs:=fun h0=>by
 obtain⟨b,off,hA,hb,hc⟩:=h h0
 exact⟨b,off,hA,by have:=e.size;omega,fun j hj=>by rw[e.cell (p:=⟨b,off+j,none⟩) hb];exact hc j hj⟩
theorem xW.empty_or {w:World}{A:Option Addr}{xs:List Int}(h:xW w A xs):xs=[]∨(0 < xs.length∧∃b off,A=some ⟨b,off,none⟩∧b < w.heap.size∧∀k,k < xs.length→w.cell? ⟨b,off+k,none⟩=some (.int .i64 (xs.getD k 0))):=by
 cases xs with
 |nil=>exact .inl rfl
 |cons x l=>exact .inr ⟨by simp,h (by simp)⟩
def yI (w:World)(A:Option Addr)(cs:List Value):Prop:=
 0 < cs.length→∃b off,A=some ⟨b,off,none⟩∧b < w.heap.size∧∀k u,cs[k]?=some u→w.cell? ⟨b,off+k,none⟩=some u
theorem yI.nil {w:World}{A:Option Addr}:yI w A []:=fun h=>by simp at h
theorem yI.ext {w w':World}{A:Option Addr}{cs:List Value}(h:yI w A cs)(e:Ext w w'):yI w' A cs:=fun h0=>by
 obtain⟨b,off,hA,hb,hc⟩:=h h0
 obtain⟨os,k,rfl⟩:=e
 exact⟨b,off,hA,by rw[zI];omega,fun j u hj=>by rw[zJ _ _ _ _ _ hb];exact hc j u hj⟩
theorem zW {w:World}{base:Nat}{e:TypeId}{size:Nat}{v:Value}{n:Nat}{xs:List Value}(h:w.ownsRow base e size v n xs):
 ∃A cap,v=.slice A n cap∧yI w A xs∧n≤cap∧cap≤maxLen∧(A=none→cap=0):=by
 rcases h.2 with⟨rfl,rfl⟩|⟨g,cap,cur,rfl,hb,hg,h1,h2,h3,rfl⟩
 ·refine⟨none,0,rfl,?_,by omega,by unfold maxLen;omega,fun _=>rfl⟩
  have:xs=[]:=List.eq_nil_of_length_eq_zero (by have:=h.1;omega)
  subst this; exact yI.nil
 ·refine⟨_,cap,rfl,fun h0=>⟨g,0,rfl,?_,fun k u hk=>?_⟩,h1,h2,fun h=>by cases h⟩
  ·rcases Nat.lt_or_ge g w.heap.size with hlt|hge
   ·exact hlt
   ·rw[Array.getElem?_eq_none hge]at hg;cases hg
  ·simp only[World.cell?,hg,Nat.zero_add]
   rw[List.getElem?_take]at hk
   split at hk
   ·rw[Array.getElem?_toList]at hk
    exact hk
   ·cases hk
theorem ze0 (w:World)(cs:Array Value)(t:TypeId):yI (w.alloc (.cells cs t)) (some ⟨w.heap.size,0,none⟩) cs.toList:=fun _=>
 ⟨_,0,rfl,by show _ < (w.heap.push _).size;simp,fun k u hk=>by rw[cell_of_row _ _ _ _ _ (0,0) (heap_alloc_new w _)];simpa using hk⟩
theorem xp (w:World)(e:TypeId)(g:Nat)(cur:Array Value)(cs:List Value)(hg:g=w.heap.size)(hc:cur.toList=cs):yI (w.alloc (.cells cur e)) (some ⟨g,0,none⟩) cs:=by
 subst hg; subst hc; exact ze0 w cur e
theorem zV {w:World}{base:Nat}{e:TypeId}{size:Nat}{v:Value}{n:Nat}{xs:List Value}(h:w.ownsRow base e size v n xs):∀g,v.ownBlock=some g→base≤g:=by
 intro g hg; rcases h.2 with⟨rfl,_⟩|⟨g',cap,cur,rfl,hb,_⟩
 ·cases hg
 ·have:g'=g:=by simpa[Value.ownBlock]using hg
  omega
theorem z8 {w:World}{base:Nat}{e:TypeId}{size:Nat}{v:Value}{n:Nat}{xs:List Value}(h:w.ownsRow base e size v n xs):∀g,v.ownBlock=some g→g < w.heap.size:=by
 intro g hg; rcases h.2 with⟨rfl,_⟩|⟨g',cap,cur,rfl,hb,hh,_⟩
 ·cases hg
 ·have:g'=g:=by simpa[Value.ownBlock]using hg
  subst this; rcases Nat.lt_or_ge g' w.heap.size with hlt|hge
  ·exact hlt
  ·rw[Array.getElem?_eq_none hge]at hh
   cases hh
theorem ye {w w':World}{base:Nat}{e:TypeId}{size:Nat}{v:Value}{n:Nat}{xs:List Value}(h:w.ownsRow base e size v n xs)(hk:∀g,v.ownBlock=some g→w'.heap[g]?=w.heap[g]?):w'.ownsRow base e size v n xs:=by
 refine⟨h.1,?_⟩
 rcases h.2 with h1|⟨g,cap,cur,h1,h2,h3,h4⟩
 ·exact .inl h1
 ·exact .inr ⟨g,cap,cur,h1,h2,(hk g (by rw[h1];rfl)).trans h3,h4⟩
theorem ze1 (w:World)(base:Nat)(e:TypeId)(size:Nat)(g n:Nat)(cur:Array Value)(hg:g=w.heap.size)(hb:base≤w.heap.size)(hs:cur.size=n*size)(hn:n≤maxLen):
 (w.alloc (.cells cur e)).ownsRow base e size (.slice (some ⟨g,0,none⟩) n n) n cur.toList:=by
 subst hg
 refine⟨by rw[Array.length_toList,hs],.inr ⟨w.heap.size,n,cur,rfl,hb,heap_alloc_new w _,Nat.le_refl _,hn,hs,?_⟩⟩
 rw[List.take_of_length_le (by rw[Array.length_toList,hs];exact Nat.le_refl _)]
section
variable {P:Program}
theorem YL (w:World)(base:Nat)(t ty e:TypeId)(i:TypeInfo)(z:Value)(size bytes:Nat)(ht:P.underlying t=some (.slice e))(hi:P.info? e=some i)(hz:i.zero=some z)
 (hsize:i.size=size) (hby:i.bytes=bytes) (hzs:z.cells.size=size) (hsz:0 < size)
 (v:Value) (n:Nat) (xs:List Value) (hown:w.ownsRow base e size v n xs)
 (A:Option Addr) (m c:Nat) (news:List Value) (hA:A=none→c=0) (hl:news.length=m*size) (hn:yI w A news) (h1:∀u∈news,u.oneCell'=true)
 (h63:n+m≤maxLen) (hbytes:(n+m)*bytes≤140737488355328) (hbase:base≤w.heap.size):
 ∃v' w',(Builtin.append_ #[t,t] ty #[v,.slice A m c]).run P w=.ok v' w'∧w'.ownsRow base e size v' (n+m) (xs++news)∧w.grownBy w' v.ownBlock∧(v'.ownBlock=v.ownBlock∨v'.ownBlock=some w.heap.size):=by
 cases A with
 |none=>
  obtain rfl:=hA rfl; have hm:news=[]:=by
   cases news with
   |nil=>rfl
   |cons u l=>
    obtain⟨b,off,h,_⟩:=hn (by simp)
    cases h
  subst hm; have hm0:m=0:=by
   rcases Nat.eq_zero_or_pos m with h|h
   ·exact h
   ·have:=Nat.mul_pos h hsz
    simp only[List.length_nil]at hl
    omega
  subst hm0
  exact⟨v,w,run_append_owned_none (P:=P) (w:=w) base t ty e i size ht hi v n xs hown,by simpa using hown,World.grownBy.refl w _,.inl rfl⟩
 |some ad=>
  have hcells:∀j u,news[j]?=some u→w.cell? (ad.add j)=some u:=by
   intro j u hu; have hlt:j < news.length:=(List.getElem?_eq_some_iff.1 hu).1
   obtain⟨b,off,h,_,hc⟩:=hn (by omega)
   injection h with h; subst h
   rw[Go.WideShapes.add_plain]
   exact hc j u hu
  obtain⟨v',w',hrun,h2,h3,_,h5⟩:=run_append_own_at (P:=P) (w:=w) base t ty e i z size bytes ht hi hz hsize hby hzs hsz v n xs hown ad m c news hl hcells h1 h63 hbytes hbase
  exact⟨v',w',hrun,h2,h3,h5⟩
theorem Y9 (w:World){o:Oper}{a:Act}{K:Act→World→Prop}{Q:Exit→Act→World→Prop}(s x:Operand)(t:TypeId)
 (ho:o.op=.call {callee:=.builtin .append,args:=#[s,x],argTypes:=#[t,t]})
 (base:Nat) (e:TypeId) (i:TypeInfo) (z:Value) (size bytes:Nat) (ht:P.underlying t=some (.slice e)) (hi:P.info? e=some i) (hz:i.zero=some z)
 (hsize:i.size=size) (hby:i.bytes=bytes) (hzs:z.cells.size=size) (hsz:0 < size)
 (v:Value) (n:Nat) (xs:List Value) (hs:a.eval s=v) (hown:w.ownsRow base e size v n xs)
 (A:Option Addr) (m c:Nat) (news:List Value) (hx:a.eval x=.slice A m c) (hA:A=none→c=0) (hl:news.length=m*size) (hn:yI w A news) (h1:∀u∈news,u.oneCell'=true)
 (h63:n+m≤maxLen) (hbytes:(n+m)*bytes≤140737488355328) (hbase:base≤w.heap.size)
 (h:∀v' w',w'.ownsRow base e size v' (n+m) (xs++news)→w.grownBy w' v.ownBlock→(v'.ownBlock=v.ownBlock∨v'.ownBlock=some w.heap.size)→K (a.put o.dst v') w'):o.wp P a w K Q:=by
 obtain⟨v',w',hrun,h2,h3,h4⟩:=YL (P:=P) w base t o.type e i z size bytes ht hi hz hsize hby hzs hsz v n xs hown A m c news hA hl hn h1 h63 hbytes hbase
 unfold Oper.wp execOp; simp only[ho,resolve,invoke,builtin,Sem.run_bind,Sem.run_pure,Result.andThen_ok,List.map_toArray,List.map_cons,List.map_nil,hs,hx,hrun]
 exact h v' w' h2 h3 h4
theorem zE (w:World){ops:Array Oper}{rest:List Oper}{o:Oper}{a:Act}{Q:Exit→Act→World→Prop}(hw:Region.wanted o (yielded ops a.tmps)=true)(s x:Operand)(t:TypeId)
 (ho:o.op=.call {callee:=.builtin .append,args:=#[s,x],argTypes:=#[t,t]})
 (base:Nat) (e:TypeId) (i:TypeInfo) (z:Value) (size bytes:Nat) (ht:P.underlying t=some (.slice e)) (hi:P.info? e=some i) (hz:i.zero=some z)
 (hsize:i.size=size) (hby:i.bytes=bytes) (hzs:z.cells.size=size) (hsz:0 < size)
 (v:Value) (n:Nat) (xs:List Value) (hs:a.eval s=v) (hown:w.ownsRow base e size v n xs)
 (A:Option Addr) (m c:Nat) (news:List Value) (hx:a.eval x=.slice A m c) (hA:A=none→c=0) (hl:news.length=m*size) (hn:yI w A news) (h1:∀u∈news,u.oneCell'=true)
 (h63:n+m≤maxLen) (hbytes:(n+m)*bytes≤140737488355328) (hbase:base≤w.heap.size)
 (h:∀v' w',w'.ownsRow base e size v' (n+m) (xs++news)→w.grownBy w' v.ownBlock→(v'.ownBlock=v.ownBlock∨v'.ownBlock=some w.heap.size)→wpList P ops Q rest (a.put o.dst v') w'):wpList P ops Q (o ::rest) a w:=
 wpList_step fun K hK=>by
  rw[if_pos hw]
  exact Y9 w s x t ho base e i z size bytes ht hi hz hsize hby hzs hsz v n xs hs hown A m c news hx hA hl hn h1 h63 hbytes hbase fun v' w' h2 h3 h4=>hK _ _ (h v' w' h2 h3 h4)
end
structure zA (S:Nat→Prop)(w w':World):Prop where
 os:w'.os=w.os
 tape:w'.tape=w.tape
 output:w'.output=w.output
 size:w.heap.size≤w'.heap.size
 block:∀b,b < w.heap.size→¬S b→w'.heap[b]?=w.heap[b]?
section
variable {S:Nat→Prop}
theorem zA.refl (w:World):zA S w w:=⟨rfl,rfl,rfl,Nat.le_refl _,fun _ _ _=>rfl⟩
theorem zA.of_ext {w w':World}(h:Ext w w'):zA S w w':=
 ⟨h.below.os,h.below.tape,h.below.output,h.below.size,fun b hb _=>h.below.block b hb⟩
theorem zA.trans {a b c:World}(h:zA S a b)(h':zA S b c):zA S a c:=
 ⟨h'.os.trans h.os,h'.tape.trans h.tape,h'.output.trans h.output,Nat.le_trans h.size h'.size,fun k hk hS=>(h'.block k (Nat.lt_of_lt_of_le hk h.size) hS).trans (h.block k hk hS)⟩
theorem zA.mono {S':Nat→Prop}{a b:World}(h:zA S a b)(hs:∀k,k < a.heap.size→S k→S' k):zA S' a b:=
 ⟨h.os,h.tape,h.output,h.size,fun k hk hS=>h.block k hk fun hk'=>hS (hs k hk hk')⟩
theorem zA.andThen {S' S'':Nat→Prop}{a b c:World}(h:zA S a b)(h':zA S' b c)(h1:∀k,k < a.heap.size→S k→S'' k)(h2:∀k,k < a.heap.size→S' k→S'' k):zA S'' a c:=
 ⟨h'.os.trans h.os,h'.tape.trans h.tape,h'.output.trans h.output,Nat.le_trans h.size h'.size,fun k hk hS=>
   (h'.block k (Nat.lt_of_lt_of_le hk h.size) fun hk'=>hS (h2 k hk hk')).trans (h.block k hk fun hk'=>hS (h1 k hk hk'))⟩
theorem zA.grown {a b:World}{row:Option Nat}(h:a.grownBy b row)(hs:∀g,row=some g→g < a.heap.size→S g):zA S a b:=
 ⟨h.os,h.tape,h.output,h.size,fun k hk hS=>h.block k hk fun he=>hS (hs k he.symm hk)⟩
theorem zA.setCell (w:World){p:Addr}(hp:S p.block)(u:Value):zA S w (w.setCell p u):=
 ⟨rfl,rfl,rfl,by simp[World.setCell],fun k _ hS=>heap_setCell_other w p k u fun he=>hS (he▸hp)⟩
theorem zA.putBlock (w:World){b:Nat}(hp:S b)(o:Obj):zA S w {w with heap:=w.heap.setIfInBounds b o}:=
 ⟨rfl,rfl,rfl,by simp,fun k _ hS=>by
   have hne:b≠k:=fun he=>hS (he▸hp)
   show(w.heap.setIfInBounds b o)[k]?=_
   rw[Array.getElem?_setIfInBounds_ne hne]⟩
theorem zA.below {a b:World}(h:zA S a b){n:Nat}(hn:n≤a.heap.size)(hs:∀k,S k→n≤k):Below n a b:=
 ⟨h.os,h.tape,h.output,h.size,fun k hk=>h.block k (Nat.lt_of_lt_of_le hk hn) fun hS=>Nat.lt_irrefl _ (Nat.lt_of_lt_of_le hk (hs k hS))⟩
end
theorem za {w:World}{b:Nat}{o:Obj}(h:w.heap[b]?=some o):b < w.heap.size:=by
 rcases Nat.lt_or_ge b w.heap.size with hlt|hge
 ·exact hlt
 ·rw[Array.getElem?_eq_none hge]at h
  cases h
theorem zcV (w:World)(b i:Nat)(cs:Array Value)(t:TypeId)(fr:Nat×Nat)(v:Value)(h:w.heap[b]?=some (.cells cs t fr))(hv:cs[i]?=some v):w.setCell ⟨b,i,none⟩ v=w:=by
 have hb:=za h
 obtain⟨heap,a2,a3,a4,a5⟩:=w
 simp only[World.setCell]
 congr 1
 apply Array.ext_getElem?
 intro j
 rw[Array.getElem?_modify]
 split
 ·rename_i he; subst he; simp only at h
  rw[h]
  have hs:cs.setIfInBounds i v=cs:=by
   apply Array.ext_getElem?
   intro k
   rw[Array.getElem?_setIfInBounds]
   split
   ·rename_i hk; subst hk
    rw[hv]
    simp[(Array.getElem?_eq_some_iff.1 hv).1]
   ·rfl
  simp[hs]
 ·rfl
theorem yv {w w':World}{base:Nat}{e:TypeId}{size:Nat}{v:Value}{n:Nat}{xs:List Value}(h:w.ownsRow base e size v n xs)(x:Ext w w'):w'.ownsRow base e size v n xs:=
 ye h fun g hg=>x.below.block g (z8 h g hg)
theorem zZ {w:World}{base:Nat}{e:TypeId}{size:Nat}{v:Value}{n:Nat}{xs:List Value}(h:w.ownsRow base e size v n xs):∀g,v.ownBlock=some g→∃cur,w.heap[g]?=some (.cells cur e):=by
 intro g hg; rcases h.2 with⟨rfl,_⟩|⟨g',cap,cur,rfl,hb,hh,_⟩
 ·cases hg
 ·have:g'=g:=by simpa[Value.ownBlock]using hg
  subst this
  exact⟨cur,hh⟩
def zib {α:Type}(P:Program)(gf:FuncId)(lb:Array Value)(encs:α→Array Value)(xs:List α)(S:Nat→Prop)(w1:World):Prop:=
 ∀(l:Nat) (J Jx:Nat→World→Prop),
  (∀j W W',Below w1.heap.size W W'→J j W→J j W')→(∀j W W',Below w1.heap.size W W'→Jx j W→Jx j W')→
  (∀j x W,xs[j]?=some x→w1.heap.size≤W.heap.size→J j W→YieldAt Fence.wide 0 P l (encs x) W fun e W'=>
    (e=.returned (.bool true)∧J (j+1) W'∧zA (fun b=>S b∧b < w1.heap.size) W W')∨(e=.returned (.bool false)∧Jx (j+1) W'∧zA (fun b=>S b∧b < w1.heap.size) W W'))→
  J 0 w1→
  Calls P gf (#[.func (.yield l) #[] #[]]++lb) w1 fun e W'=>(∃v,e=.returned v)∧w1.heap.size≤W'.heap.size∧(J xs.length W'∨∃j,j≤xs.length∧Jx j W')
def zka (S:Nat→Prop)(B N:Nat)(W:World)(I:World→Prop)(Ix:Code→World→Prop):Exit→Act→World→Prop
 | .normal,_,W'=>zA (fun b=>(S b∧b < B)∨N≤b) W W'∧I W'
 | .ret,_,W'=>zA (fun b=>(S b∧b < B)∨N≤b) W W'∧Ix .ret W'
 | .exit id,_,W'=>zA (fun b=>(S b∧b < B)∨N≤b) W W'∧Ix (.exit id) W'
 | .goto t,_,W'=>zA (fun b=>(S b∧b < B)∨N≤b) W W'∧Ix (.goto t) W'
 | .panic _,_,_=>False
 | .outgrown,_,_=>False
variable {P:Program}
theorem yC {S:Nat→Prop}(W:World){l:Nat}(o:Obj)(h:S l):zA S W (W.putObj l o):=zA.putBlock W h o
theorem zbp {α:Type}{g:Operand}{ps:Array Tmp}{assign body:Code}{Q:Exit→Act→World→Prop}{a:Act}{w:World}{gf:Nat}{lb:Array Value}
 (hg:a.eval g=.func (.func gf) #[] lb) (eg:∀args w,(callFunc gf args).run P w=.ok (.enter gf args) w)
 {encs:α→Array Value} (hps:∀x,(encs x).size=ps.size) {xs:List α} {S:Nat→Prop} (hlo:∀b,w.heap.size≤b→S b)
 (hseq:∀w1,Ext w w1→w1.heap.size=w.heap.size+2→zib P gf lb encs xs S w1)
 (I:Nat→World→Prop) (Ix:Code→Nat→World→Prop)
 (hI:∀j W W',Below w.heap.size W W'→w.heap.size≤W.heap.size→I j W→I j W') (hIx:∀c j W W',Below w.heap.size W W'→w.heap.size≤W.heap.size→Ix c j W→Ix c j W') (h0:I 0 w)
 (hround:∀(l j:Nat) (x:α) (W:World),xs[j]?=some x→I j W→w.heap.size≤W.heap.size→
   assign.wpIn (Fence.wide.inRound l) 0 P (Exit.then (fun a₁ W₁=>Ext W W₁∧∀W₂,zA (fun b=>w.heap.size≤b∧b < W.heap.size) W₁ W₂→I j W₂→W.heap.size≤W₂.heap.size→
    body.wpIn (Fence.wide.inRound l) 0 P (zka S w.heap.size W.heap.size W₂ (I (j+1)) (fun c=>Ix c (j+1))) a₁ W₂) (fun _ _ _=>False))
    {tmps:=(ps.zip (encs x)).foldl (fun t (p,v)=>t.setIfInBounds p v) a.tmps,defers:=[]} W)
 (hdone:∀(D:Nat) (W:World),I xs.length W→w.heap.size≤D→w.heap.size≤W.heap.size→W.heap[D]?=some (.deferred (some []))→Q .normal {a with defers:={target:=.collected D,args:=#[]} ::a.defers} W)
 (hstop:∀(D:Nat) (c:Code) (j:Nat) (W:World),j≤xs.length→Ix c j W→w.heap.size≤D→w.heap.size≤W.heap.size→W.heap[D]?=some (.deferred (some []))→c.wp P Q {a with defers:={target:=.collected D,args:=#[]} ::a.defers} W):
 (Code.rangeFunc g ps assign body).wp P Q a w:=by
 refine(wpIn_wide (n:=1)).1 (wpIn_rangeFunc ?_)
 intro fn hfn
 obtain⟨rec,hrec⟩:∃rec:LoopState→Option Code→Loop,rec=fun st pe=>{state:=st,pending:=pe,fn,tmps:=a.tmps,params:=ps,assign,body,defers:=w.heap.size}:=⟨_,rfl⟩
 obtain⟨W1,hW1⟩:∃W1,(w.alloc (.deferred (some []))).alloc (.loop (rec .ready none))=W1:=⟨_,rfl⟩
 have hL1:W1.heap[w.heap.size+1]?=some (.loop (rec .ready none)):=by
  rw[←hW1];have:=World.alloc_heap_new (w.alloc (.deferred (some []))) (.loop (rec .ready none));rwa[World.size_alloc]at this
 have hK1:W1.heap[w.heap.size]?=some (.deferred (some [])):=by
  rw[←hW1];exact(Below.heap_alloc _ _ _ (by simp)).trans (World.alloc_heap_new w _)
 have hE1:Ext w W1:=by rw[←hW1];exact((Ext.refl w).alloc _).alloc _
 have hs1:W1.heap.size=w.heap.size+2:=by rw[←hW1];simp
 have hI1:I 0 W1:=hI _ _ _ hE1.below (Nat.le_refl _) h0; have hB:∀{A B:World},Below W1.heap.size A B→Below w.heap.size A B:=fun h=>h.mono (by omega)
 refine⟨w.heap.size+1,[{target:=.collected w.heap.size,args:=#[]}],W1,{target:=.fn (.func gf) lb,args:=#[.func (.yield (w.heap.size+1)) #[] #[]]},W1,gf,
  #[.func (.yield (w.heap.size + 1)) #[] #[]] ++ lb, W1, ?_, ?_, ?_, ?_, (fun h => by cases h), ?_⟩
 ·rw[←hW1,hrec];exact run_enterLoop_outer _ _ _ _ _
 ·simp only[resolve,hg]
  simp[go_sem]
 ·intro f' hf';trivial
 ·simp[invoke,go_sem,eg]
 ·refine callsIn_wide.2 ((hseq W1 hE1 hs1 (w.heap.size+1)
   (fun j W=>I j W∧W.heap[w.heap.size+1]?=some (.loop (rec .ready none))∧W.heap[w.heap.size]?=some (.deferred (some [])))
   (fun j W=>∃c,Ix c j W∧W.heap[w.heap.size+1]?=some (.loop (rec .done (some c)))∧W.heap[w.heap.size]?=some (.deferred (some [])))
   ?_ ?_ ?_ ⟨hI1,hL1,hK1⟩).mono ?_)
  ·rintro j A B hb ⟨h1,h2,h3⟩
   exact⟨hI _ _ _ (hB hb) (by have:=za h3;omega) h1,(hb.block _ (by omega)).trans h2,(hb.block _ (by omega)).trans h3⟩
  ·rintro j A B hb ⟨c,h1,h2,h3⟩
   exact⟨c,hIx _ _ _ _ (hB hb) (by have:=za h3;omega) h1,(hb.block _ (by omega)).trans h2,(hb.block _ (by omega)).trans h3⟩
  ·rintro j x W hx hsz ⟨hi,hl,hk⟩; have hlt:w.heap.size+1 < W.heap.size:=za hl; have hy:=run_yield (P:=P) (args:=encs x) hl (by rw[hrec];exact hps x)
   rw[hrec]at hy
   refine⟨fn,_,assign,body,hy,roundIn_of_wpIn hfn (wpIn_mono (hround _ j x W hx hi (by omega)) ?_)⟩
   rintro e a₁ W₂ hp; cases e with
   |normal=>
    obtain⟨hE2,hbody⟩:=hp
    have hl2:W₂.heap[w.heap.size+1]?=some (.loop (rec .ready none)):=(hE2.below.block _ hlt).trans hl; have hk2:W₂.heap[w.heap.size]?=some (.deferred (some [])):=(hE2.below.block _ (by omega)).trans hk; have hlt2:=za hl2
    refine⟨_,run_beginRound hl2 (by rw[hrec]),?_⟩
    have hl3:(W₂.putObj (w.heap.size+1) (.loop {rec .ready none with state:=.busy})).heap[w.heap.size+1]?=some (.loop {rec .ready none with state:=.busy}):=World.putObj_heap_same hlt2; have hk3:(W₂.putObj (w.heap.size+1) (.loop {rec .ready none with state:=.busy})).heap[w.heap.size]?=some (.deferred (some [])):=(World.putObj_heap_other (by omega)).trans hk2; have hT3:zA (fun b=>w.heap.size≤b∧b < W.heap.size) W₂ (W₂.putObj (w.heap.size+1) (.loop {rec .ready none with state:=.busy})):=yC _ _ ⟨by omega,hlt⟩
    have hI3:I j (W₂.putObj (w.heap.size+1) (.loop {rec .ready none with state:=.busy})):=
     hI _ _ _ (hT3.below (by omega) fun k hk=>hk.1) (by omega) (hI _ _ _ (hE2.below.mono (by omega)) (by omega) hi)
    have hsz3:W.heap.size≤(W₂.putObj (w.heap.size+1) (.loop {rec .ready none with state:=.busy})).heap.size:=by
     have:=hE2.size
     simp
     exact this
    refine wpIn_mono (hbody _ hT3 hI3 hsz3) ?_
    have fin:∀(jump:Option Code) (W3:World),zA (fun b=>(S b∧b < w.heap.size)∨W.heap.size≤b) (W₂.putObj (w.heap.size+1) (.loop {rec .ready none with state:=.busy})) W3→
     (Instr.endRound (w.heap.size+1) jump).run P W3=.ok (.bool jump.isNone) (W3.putObj (w.heap.size+1) (.loop (rec (if jump.isNone then .ready else .done) jump)))∧
     (W3.putObj (w.heap.size+1) (.loop (rec (if jump.isNone then .ready else .done) jump))).heap[w.heap.size+1]?=some (.loop (rec (if jump.isNone then .ready else .done) jump))∧
     (W3.putObj (w.heap.size+1) (.loop (rec (if jump.isNone then .ready else .done) jump))).heap[w.heap.size]?=some (.deferred (some []))∧
     Below w.heap.size W3 (W3.putObj (w.heap.size+1) (.loop (rec (if jump.isNone then .ready else .done) jump)))∧w.heap.size≤W3.heap.size∧
     zA (fun b=>S b∧b < W1.heap.size) W (W3.putObj (w.heap.size+1) (.loop (rec (if jump.isNone then .ready else .done) jump))):=fun jump W3 hk4=>by
     have hl4:=(hk4.block _ (za hl3) (by omega)).trans hl3; have hr:=run_endRound (P:=P) jump hl4; have hlt4:=za hl4; have hr2:(Instr.endRound (w.heap.size+1) jump).run P W3=.ok (.bool jump.isNone) (W3.putObj (w.heap.size+1) (.loop (rec (if jump.isNone then .ready else .done) jump))):=by
      rw[hrec]at hr ⊢
      exact hr
     refine⟨hr2,World.putObj_heap_same hlt4,(World.putObj_heap_other (by omega)).trans ((hk4.block _ (za hk3) (by omega)).trans hk3),(yC (S:=fun b=>w.heap.size≤b) _ _ (by omega)).below (by omega) (fun k hk=>hk),by omega,?_⟩
     have t1:zA (fun b=>S b∧b < W1.heap.size) W W₂:=zA.of_ext hE2; have t2:zA (fun b=>S b∧b < W1.heap.size) W (W₂.putObj (w.heap.size+1) (.loop {rec .ready none with state:=.busy})):=t1.trans (yC _ _ ⟨hlo _ (by omega),by omega⟩)
     exact(t2.andThen (S'':=fun b=>S b∧b < W1.heap.size) hk4 (fun k _ hS=>hS) (fun k hk hS=>hS.elim (fun hS=>⟨hS.1,by omega⟩) (fun hS=>absurd hk (Nat.not_lt.2 hS)))).trans (yC _ _ ⟨hlo _ (by omega),by omega⟩)
    rintro e a3 W3 hp; cases e with
    |normal=>
     obtain⟨ht,hi3⟩:=hp
     obtain⟨hr,hl4,hk4,hb4,hs4,ht4⟩:=fin none W3 ht
     exact⟨_,_,hr,.inl ⟨rfl,⟨hI _ _ _ hb4 hs4 hi3,hl4,hk4⟩,ht4⟩⟩
    |ret=>
     obtain⟨ht,hi3⟩:=hp
     obtain⟨hr,hl4,hk4,hb4,hs4,ht4⟩:=fin (some (.ret)) W3 ht
     exact⟨_,_,hr,.inr ⟨rfl,⟨.ret,hIx _ _ _ _ hb4 hs4 hi3,hl4,hk4⟩,ht4⟩⟩
    |exit id=>
     obtain⟨ht,hi3⟩:=hp
     obtain⟨hr,hl4,hk4,hb4,hs4,ht4⟩:=fin (some (.exit id)) W3 ht
     exact⟨_,_,hr,.inr ⟨rfl,⟨.exit id,hIx _ _ _ _ hb4 hs4 hi3,hl4,hk4⟩,ht4⟩⟩
    |goto t=>
     obtain⟨ht,hi3⟩:=hp
     obtain⟨hr,hl4,hk4,hb4,hs4,ht4⟩:=fin (some (.goto t)) W3 ht
     exact⟨_,_,hr,.inr ⟨rfl,⟨.goto t,hIx _ _ _ _ hb4 hs4 hi3,hl4,hk4⟩,ht4⟩⟩
    |panic ch=>exact hp.elim
    |outgrown=>exact hp.elim
   |exit id=>exact hp.elim
   |goto l=>exact hp.elim
   |ret=>exact hp.elim
   |panic ch=>exact hp.elim
   |outgrown=>exact hp.elim
  ·rintro e W2 ⟨⟨v,rfl⟩,hsz,(⟨hi,hl,hk⟩|⟨j,hj,c,hi,hl,hk⟩)⟩
   ·have hlt:=za hl; have hend:=run_endLoop (P:=P) hl (by rw[hrec];simp); have hp:(rec .ready none).pending=none:=by rw[hrec]
    rw[hp]at hend
    exact⟨none,_,hend,hdone _ _ (hI _ _ _ ((yC (S:=fun b=>w.heap.size≤b) _ _ (by omega)).below (by omega) (fun k hk=>hk)) (by omega) hi) (Nat.le_refl _) (by simp;omega) ((World.putObj_heap_other (by omega)).trans hk)⟩
   ·have hlt:=za hl; have hend:=run_endLoop (P:=P) hl (by rw[hrec];simp); have hp:(rec .done (some c)).pending=some c:=by rw[hrec]
    rw[hp]at hend
    exact⟨some c,_,hend,wpIn_wide.2 (hstop _ c j _ hj (hIx _ _ _ _ ((yC (S:=fun b=>w.heap.size≤b) _ _ (by omega)).below (by omega) (fun k hk=>hk)) (by omega) hi) (Nat.le_refl _) (by simp;omega) ((World.putObj_heap_other (by omega)).trans hk))⟩
theorem qN {f:FuncId}{fn:Func}{c:Code}{args:Array Value}{w:World}{R:Ending→World→Prop}(hf:P.funcs[f]?=some fn)(hb:fn.body=some c)
 (h:c.wp P (bodyPostM Fence.wide 0 P fn R) {tmps:=args++Array.replicate (fn.ntmps - args.size) undef,defers:=[]} w):Calls P f args w R:=
 callsIn_wide.1 (callsIn_of_wp_marks hf hb trivial (wpIn_wide.2 h) rfl)
theorem zer {fn:Func}{R:Ending→World→Prop}{a:Act}{w:World}{v:Value}(hd:a.defers=[])(hr:(results fn a.tmps).run P w=.ok v w)(hR:R (.returned v) w):bodyPostM Fence.wide 0 P fn R .ret a w:=by
 show LeavesInM Fence.wide 0 P fn a.tmps R a.defers .returning w
 rw[hd]
 exact⟨v,hr,hR⟩
theorem qh {fn:Func}{R:Ending→World→Prop}{a:Act}{w:World}{D:Nat}{v:Value}(hd:a.defers=[{target:=.collected D,args:=#[]}])(hk:w.heap[D]?=some (.deferred (some [])))
 (hr:(results fn a.tmps).run P (w.putObj D (.deferred none))=.ok v (w.putObj D (.deferred none))) (hR:R (.returned v) (w.putObj D (.deferred none))):bodyPostM Fence.wide 0 P fn R .ret a w:=by
 show LeavesInM Fence.wide 0 P fn a.tmps R a.defers .returning w
 rw[hd]
 exact⟨by simp,.inl ⟨_,_,rfl,run_takeDeferred hk,v,hr,hR⟩⟩
def zat (l:List Oper):Bool:=l.all fun o=>match o.op with| .defer _=>false|_=>true
section
variable {P:Program}{ops:Array Oper}{md:Region.Mode}{C:World→Prop}
def QN:Exit→Act→World→Prop:=fun _ _ _=>False
theorem qL:¬LetsOut QN:=fun⟨_,_,h⟩=>h
theorem YW {o:Oper}{a:Act}{w:World}{K K':Act→World→Prop}{Q Q':Exit→Act→World→Prop}(h:∀a w,K a w→K' a w)(hp:∀c a w,Q (.panic c) a w→Q' (.panic c) a w)(hl:LetsOut Q→LetsOut Q')
 (hh:o.wp P a w K Q):o.wp P a w K' Q':=by
 unfold Oper.wp at*
 generalize(execOp a.eval o).run P w=r at*
 cases r with
 |ok n w'=>
  cases n<;>simp only[Oper.upon]at hh ⊢
  case value u=>exact h _ _ hh
  case skip=>exact h _ _ hh
  case defer d=>exact h _ _ hh
  case enter f args=>
   refine Calls.mono hh fun e w'' he=>?_; cases e with
   |returned u=>exact h _ _ he
   |panicked c=>exact hp _ _ _ he
   |outgrown=>exact hl he
  case row row args=>exact Rows.mono hh fun _ _ he=>h _ _ he
 |halt x w'=>
  cases x<;>simp only[Oper.upon]at hh ⊢
  case panic u=>exact hp _ _ _ hh
theorem zcH {Q:Exit→Act→World→Prop}{i:Nat}{a:Act}{w:World}{K K':Act→World→Prop}(h:∀a w,K a w→K' a w)(hh:wpOp P ops QN i K a w):wpOp P ops Q i K' a w:=by
 unfold wpOp at*; split
 ·exact h _ _ (by simpa[*]using hh)
 ·rename_i o ho; simp only[ho]at hh
  split
  ·rename_i hw; simp only[hw,if_true]at hh
   rcases hh with hh|⟨_,hl⟩
   ·exact .inl (YW h (fun _ _ _ h=>h.elim) (fun h=>absurd h qL) hh)
   ·exact absurd hl qL
  ·rename_i hw; simp only[hw]at hh
   exact h _ _ hh
def xk (P:Program)(md:Region.Mode)(ops:Array Oper)(C:World→Prop)(s:Nat)(Q:Act→World→Prop):Nat→Array Bool→Act→World→Prop
 |0,listed,a,w=>(listed.getD s false=false→C w)∧Region.ready md ops listed=[]∧Q a w
 |fuel+1,listed,a,w=>(listed.getD s false=false→C w)∧(Region.ready md ops listed=[]→Q a w)∧
  ∀i∈Region.ready md ops listed,wpOp P ops QN i (xk P md ops C s Q fuel (listed.setIfInBounds i true)) a w
theorem xk.cls {s:Nat}{Q:Act→World→Prop}{fuel:Nat}{listed:Array Bool}{a:Act}{w:World}(h:xk P md ops C s Q fuel listed a w)(hs:listed.getD s false=false):C w:=by
 cases fuel with
 |zero=>exact h.1 hs
 |succ n=>exact h.1 hs
theorem vn {s:Nat}{Q:Exit→Act→World→Prop}:∀(fuel:Nat) (listed:Array Bool) (a:Act) (w:World),xk P md ops C s (fun a w=>Q .normal a w) fuel listed a w→wpAny P md ops Q fuel listed a w
 |0,_,_,_,h=>h.2
 |fuel+1,_,_,_,h=>⟨h.2.1,fun i hi=>zcH (fun a' w' hh=>vn fuel _ a' w' hh) (h.2.2 i hi)⟩
theorem ZQ {j:Nat}{oi oj:Oper}{v:Value}(hj:ops[j]?=some oj)(hap:oi.apart ops oj=true)(hsi:∀cs b,oi.op≠.select cs b)(hsj:∀cs b,oj.op≠.select cs b){K:Act→World→Prop}{a:Act}{w:World}
 (hy:YieldsIn P ops C oi v a) (h:wpOp P ops QN j K (a.put oi.dst v) w):wpOp P ops QN j (fun a' w'=>YieldsIn P ops C oi v a'∧K (a'.put oi.dst v) w') a w:=by
 obtain⟨h1,h2,h3⟩:=Oper.apart_spec hap
 have keep:∀(a:Act),YieldsIn P ops C oi v a→∀u,YieldsIn P ops C oi v (a.put oj.dst u):=fun a hy u=>hy.of_same (execOp_put oi hsi a oj.dst u h3) (wanted_put oi a oj.dst u h3); have keepD:∀d,YieldsIn P ops C oi v {a with defers:=d ::a.defers}:=fun d=>hy.of_same rfl rfl; unfold wpOp at*; simp only[hj]at*
 rw[wanted_put oj a oi.dst v h1]at h
 split
 ·rename_i hw; simp only[hw,if_true]at h
  rcases h with h|⟨_,hl⟩
  case inr=>exact absurd hl qL
  refine .inl ?_; unfold Oper.wp at*
  rw[execOp_put oj hsj a oi.dst v h1]at h
  generalize(execOp a.eval oj).run P w=r at*
  cases r with
  |ok n w'=>
   cases n<;>simp only[Oper.upon]at h ⊢
   case value u=>exact⟨keep a hy u,by rw[←Act.put_comm a v u h2];exact h⟩
   case skip=>exact⟨keep a hy _,by rw[←Act.put_comm a v undef h2];exact h⟩
   case defer d=>
    refine⟨keep _ (keepD d) _,?_⟩
    rw[←Act.put_comm _ v undef h2,←Act.put_defers]
    exact h
   case enter f args=>
    refine Calls.mono h fun e w'' he=>?_; cases e with
    |returned u=>exact⟨keep a hy u,by rw[←Act.put_comm a v u h2];exact he⟩
    |panicked c=>exact he
    |outgrown=>exact he
   case row row args=>exact Rows.mono h fun u w'' he=>⟨keep a hy u,by rw[←Act.put_comm a v u h2];exact he⟩
  |halt x w'=>
   cases x<;>simp only[Oper.upon]at h ⊢
   case panic u=>exact h
 ·rename_i hw; simp only[hw]at h
  exact⟨keep a hy _,by rw[←Act.put_comm a v undef h2];exact h⟩
end
def jf (o:Oper):Bool:=match o.op with
 | .move _| .assign _| .nilCheck _| .pick _ _ _| .load _ _| .binOp _ _ _ _ _| .unOp _ _ _| .slice _ _ _ _ _| .fieldAddr _ _ _| .field _ _ _| .indexAddr _ _ _| .index _ _ _| .extract _ _| .build _ _| .convert _ _ _| .makeFunc _ _ _=>true
 | .call c=>match c.callee with
  | .builtin .len| .builtin .cap| .builtin .max| .builtin .min=>true
  |_=>false
 |_=>false
theorem Ye {P:Program}{α:Type}{w w':World}{n:Next}(s:Sem α)(k:α→Sem Next)(hk:∀(a:α) (w1:World) (n':Next) (w2:World),Sem.run P (k a) w1=.ok n' w2→∃v,n'=.value v)(h:Sem.run P (s >>=k) w=.ok n w'):∃v,n=.value v:=by
 rw[Sem.run_bind]at h
 cases hs:Sem.run P s w with
 |ok a w1=>
  rw[hs]at h
  exact hk a w1 n w' h
 |halt x w1=>
  rw[hs]at h
  cases h
theorem Vw {P:Program}{w w':World}(s:Sem Value){n:Next}(h:Sem.run P (do pure (Next.value (←s))) w=.ok n w'):∃v,n=.value v:=by
 rw[Sem.run_bind]at h
 cases hs:Sem.run P s w with
 |ok v w1=>
  rw[hs]at h
  simp only[Result.andThen_ok,Sem.run_pure]at h
  cases h
  exact⟨v,rfl⟩
 |halt x w1=>
  rw[hs]at h
  cases h
theorem zcO {P:Program}{o:Oper}(hs:jf o=true)(ρ:Operand→Value){w w':World}{n:Next}(h:(execOp ρ o).run P w=.ok n w'):∃v,n=.value v:=by
 obtain⟨dst,op,type,pos,after,guard⟩:=o
 unfold jf at hs; cases op<;>simp only[Bool.false_eq_true]at hs<;>simp only[execOp]at h
 case call c=>
  obtain⟨callee,args,argTypes⟩:=c
  cases callee<;>simp only[Bool.false_eq_true]at hs
  case builtin b=>
   cases b<;>simp only[Bool.false_eq_true]at hs<;>(simp only[resolve,invoke,builtin,Sem.run_bind,Sem.run_pure,Result.andThen_ok]at h;exact Vw _ (by rw[Sem.run_bind];exact h))
 case pick c a b=>
  rw[Sem.run_bind]at h
  cases hs:Sem.run P (asBool (ρ c)) w with
  |ok v w1=>
   rw[hs]at h
   simp only[Result.andThen_ok]at h
   cases v<;>simp at h<;>exact⟨_,h.1.symm⟩
  |halt x w1=>
   rw[hs]at h
   cases h
 case move x=>simp at h;exact⟨_,h.1.symm⟩
 case assign x=>simp at h;exact⟨_,h.1.symm⟩
 case nilCheck x=>
  split at h
  all_goals first
   |(simp at h;exact⟨_,h.1.symm⟩)
   |(simp[runtimePanic]at h;done)
   |(split at h<;>first
      |(simp at h;exact⟨_,h.1.symm⟩)
      |(simp[runtimePanic]at h;done)
      |(refine Ye _ _ (fun _ _ _ _ h1=>Ye _ _ (fun _ _ _ _ h2=>?_) h1) h
        split at h2
        ·exact Ye _ _ (fun _ _ _ _ h3=>by simp at h3;exact⟨_,h3.1.symm⟩) h2
        ·simp at h2;exact⟨_,h2.1.symm⟩))
 all_goals exact Vw _ h
section
variable {P:Program}{ops:Array Oper}{md:Region.Mode}{C:World→Prop}
theorem zh1 {o:Oper}{v:Value}{a:Act}{w:World}(hs:jf o=true)(h:o.quietAt P a C w v):(execOp a.eval o).run P w=.ok (.value v) w:=by
 unfold Oper.quietAt at h; cases hr:(execOp a.eval o).run P w with
 |ok n w'=>
  obtain⟨u,rfl⟩:=zcO hs _ hr
  rw[hr]at h
  simp only[Oper.quietUpon]at h
  obtain⟨rfl,rfl⟩:=h
  rfl
 |halt x w'=>
  rw[hr]at h
  simp only[Oper.quietUpon]at h
theorem xy {i:Nat}{o:Oper}{v:Value}{a:Act}{w:World}{K:Act→World→Prop}(hi:ops[i]?=some o)(hs:jf o=true)(hy:YieldsIn P ops C o v a)(hC:C w)(hK:K (a.put o.dst v) w):wpOp P ops QN i K a w:=by
 unfold wpOp; simp only[hi]
 rcases hy with⟨hw,hv⟩|⟨hw,rfl⟩
 ·rw[if_pos hw]
  refine .inl ?_; unfold Oper.wp
  rw[zh1 hs (hv w hC)]
  exact hK
 ·rw[if_neg (by rw[hw];exact Bool.false_ne_true)]
  exact hK
theorem jl {listed:Array Bool}{j:Nat}(hj:j∈Region.ready md ops listed):j < listed.size∧listed.getD j false=false:=by
 have h:=(mem_ready.1 hj).1; rcases Nat.lt_or_ge j listed.size with hlt|hge
 ·refine⟨hlt,?_⟩
  simp[hlt]at h ⊢
  exact h
 ·simp[Array.getElem?_eq_none hge]at h
theorem zai {s i:Nat}{oi:Oper}{v:Value}{Q:Act→World→Prop}(hi:ops[i]?=some oi)(hso:jf oi=true)(hsel:∀(j:Nat) (o:Oper) cs b,ops[j]?=some o→o.op≠.select cs b)(his:i≠s)
 (hsw:∀os,ops[s]?=some os→∃e∈os.after,Region.binds md e=true∧e.on=i):
 ∀(fuel:Nat) (listed:Array Bool) (a:Act) (w:World),
  (∀j oj,ops[j]?=some oj→j≠i→listed.getD j true=false→(∀e∈oj.after,Region.binds md e=true→e.on≠i)→oi.apart ops oj=true)→
  i∈Region.ready md ops listed→YieldsIn P ops C oi v a→listed.getD s false=false→C w→
  xk P md ops C s Q fuel (listed.setIfInBounds i true) (a.put oi.dst v) w→xk P md ops C s Q (fuel+1) listed a w:=by
 intro fuel; induction fuel with
 |zero=>
  intro listed a w _ hr hy hls hC H
  refine⟨fun _=>hC,fun h=>(by rw[h]at hr;cases hr),fun j hj=>?_⟩
  by_cases hji:j=i
  ·subst hji; exact xy hi hso hy hC H
  ·have:=ready_mono hj hji
   rw[H.2.1]at this
   cases this
 |succ fuel ih=>
  intro listed a w hfree hr hy hls hC H
  refine⟨fun _=>hC,fun h=>(by rw[h]at hr;cases hr),fun j hj=>?_⟩
  by_cases hji:j=i
  ·subst hji; exact xy hi hso hy hC H
  ·have h1:=H.2.2 j (ready_mono hj hji)
   obtain⟨hjun,oj,hoj,hall⟩:=mem_ready.1 hj
   have hil:listed.getD i false=false:=by
    have h0:=(mem_ready.1 hr).1; rcases Nat.lt_or_ge i listed.size with h'|h'
    ·simp[h']at h0 ⊢;exact h0
    ·simp[Array.getElem?_eq_none h']at h0
   have hnot:∀e∈oj.after,Region.binds md e=true→e.on≠i:=fun e he hb heq=>by
    have h1:=hall e he hb
    rw[heq,hil]at h1
    cases h1
   have hjs:j≠s:=by
    rintro rfl
    obtain⟨e,he,hb,heq⟩:=hsw oj hoj
    exact hnot e he hb heq
   have h2:=ZQ hoj (hfree j oj hoj hji hjun hnot) (fun cs b=>hsel i oi cs b hi) (fun cs b=>hsel j oj cs b hoj) hy h1
   have hfree':∀k ok,ops[k]?=some ok→k≠i→(listed.setIfInBounds j true).getD k true=false→
    (∀e∈ok.after,Region.binds md e=true→e.on≠i)→oi.apart ops ok=true:=fun k ok hk hki hun hno=>by
    refine hfree k ok hk hki ?_ hno; by_cases hjk:j=k
    ·subst hjk;exact hjun
    ·rw[getD_set_ne true hjk]at hun;exact hun
   refine wpOp_mono (fun a' w' h3=>?_) h2; have hs1:(listed.setIfInBounds j true).getD s false=false:=by rw[getD_set_ne false hjs];exact hls
   have hcomm:(listed.setIfInBounds j true).setIfInBounds i true=(listed.setIfInBounds i true).setIfInBounds j true:=Array.setIfInBounds_comm _ _ hji; refine ih (listed.setIfInBounds j true) a' w' hfree' (ready_mono hr (Ne.symm hji)) h3.1 hs1 (h3.2.cls (by rw[←hcomm,getD_set_ne false his];exact hs1)) ?_
   rw[hcomm]
   exact h3.2
def Yl (P:Program)(ops:Array Oper)(C:World→Prop)(s:Nat)(Q:Act→World→Prop):List (Bool×Nat)→Act→World→Prop
 |[],a,w=>Q a w
 |(true,i) ::r,a,w=>qOp P ops C i (fun a'=>Yl P ops C s Q r a' w) a
 |(false,i) ::r,a,w=>wpOp P ops QN i (fun a' w'=>(i≠s→C w')∧Yl P ops C s Q r a' w') a w
def YE (md:Region.Mode)(ops:Array Oper)(s:Nat):List (Bool×Nat)→Array Bool→Bool
 |[],listed=>(Region.ready md ops listed).isEmpty
 |(true,i) ::r,listed=>i !=s&&(Region.ready md ops listed).contains i&&Region.free md ops listed i&&((ops[i]?).map jf).getD false&&
  (match ops[s]? with|none=>true|some os=>os.after.any fun e=>Region.binds md e&&e.on==i)&&YE md ops s r (listed.setIfInBounds i true)
 |(false,i) ::r,listed=>(Region.ready md ops listed==[i])&&(i !=s||r.isEmpty)&&YE md ops s r (listed.setIfInBounds i true)
theorem vQ {s:Nat}{Q:Act→World→Prop}(hs:Region.noSelect ops=true):∀(l:List (Bool×Nat)) (listed:Array Bool) (a:Act) (w:World),YE md ops s l listed=true→listed.getD s false=false→C w→
 Yl P ops C s Q l a w→xk P md ops C s Q l.length listed a w
 |[],listed,a,w,hB,_,hC,h=>⟨fun _=>hC,by simpa[YE]using hB,h⟩
 |(true,i) ::r,listed,a,w,hB,hls,hC,h=>by
  simp only[YE,Bool.and_eq_true,bne_iff_ne,ne_eq]at hB
  obtain⟨⟨⟨⟨⟨h1,h2⟩,h3⟩,h4⟩,h5⟩,h6⟩:=hB
  obtain⟨oi,hoi⟩:∃o,ops[i]?=some o:=by
   cases ho:ops[i]? with
   |none=>rw[ho]at h4;cases h4
   |some o=>exact⟨o,rfl⟩
  rw[hoi]at h4
  obtain⟨v,hy,hK⟩:=yieldsIn_of_qOp hoi h
  refine zai hoi (by simpa using h4) (Region.noSelect_spec hs) h1 (fun os ho=>?_) r.length listed a w (Region.free_spec hoi h3) (by simpa using h2) hy hls hC
   (vQ hs r _ _ w h6 (by rw[getD_set_ne false h1];exact hls) hC hK)
  rw[ho]at h5
  obtain⟨e,he,hb⟩:=Array.any_eq_true'.1 h5
  simp only[Bool.and_eq_true,beq_iff_eq]at hb
  exact⟨e,he,hb.1,hb.2⟩
 |(false,i) ::r,listed,a,w,hB,hls,hC,h=>by
  simp only[YE,Bool.and_eq_true,beq_iff_eq,Bool.or_eq_true,bne_iff_ne,ne_eq]at hB
  obtain⟨⟨h1,h2⟩,h3⟩:=hB
  refine⟨fun _=>hC,fun h0=>(by rw[h1]at h0;cases h0),fun j hj=>?_⟩
  rw[h1]at hj
  obtain rfl:=List.mem_singleton.1 hj; have hji:j∈Region.ready md ops listed:=by rw[h1];exact List.mem_singleton.2 rfl
  refine wpOp_mono (fun a' w' hh=>?_) h; by_cases hjs:j=s
  ·subst hjs; have hr:r=[]:=by simpa using h2
   subst hr
   refine⟨fun h0=>?_,by simpa[YE]using h3,hh.2⟩
   obtain⟨hlt,_⟩:=jl hji
   simp[hlt]at h0
  ·exact vQ hs r _ a' w' h3 (by rw[getD_set_ne false hjs];exact hls) (hh.1 hjs) hh.2
end
section
variable {P:Program}{C:World→Prop}
theorem qD {ops:Array Oper}{Q Q':Act→Prop}(h:∀a,Q a→Q' a):∀(l:List Oper) (a:Act),wpQuiet P ops C Q l a→wpQuiet P ops C Q' l a
 |[],_,hh=>h _ hh
 |o ::l,a,hh=>by
  unfold wpQuiet at hh ⊢; split
  ·rename_i hw
   rw[if_pos hw]at hh
   exact Oper.quiet_mono (fun a' h'=>qD h l a' h') hh
  ·rename_i hw
   rw[if_neg hw]at hh
   exact qD h l _ hh
def yp:List Oper→Nat→List Oper→List Oper
 |[],_,acc=>acc
 |o ::_,0,acc=>o ::acc
 |_ ::l,i+1,acc=>yp l i acc
theorem xE:∀{l:List Oper} {i:Nat} {o:Oper} (acc:List Oper),l[i]?=some o→yp l i acc=o ::acc
 |[],_,_,_,h=>by simp at h
 |o ::_,0,_,_,h=>by simp at h;subst h;rfl
 |_ ::l,i+1,_,acc,h=>xE (l:=l) acc (by simpa using h)
def pick (l:List Oper):List Nat→List Oper
 |[]=>[]
 |i ::is=>yp l i (pick l is)
theorem xQ (l:List Oper):pick l []=[]:=rfl
def zcT (C:World→Prop)(i s:Nat)(next:Act→World→Prop):Exit→Act→World→Prop
 | .normal,a,w=>(i≠s→C w)∧next a w
 |_,_,_=>False
theorem zk {i s:Nat}{next:Act→World→Prop}{a:Act}{w:World}(h1:i≠s→C w)(h2:next a w):zcT C i s next .normal a w:=⟨h1,h2⟩
def QH (P:Program)(l:List Oper)(C:World→Prop)(s:Nat)(Q:Act→World→Prop):List (List Nat×Nat)→List Nat→Act→World→Prop
 |[],fin,a,w=>wpQuiet P l.toArray C (fun a'=>Q a' w) (pick l fin) a
 |(is,h) ::r,fin,a,w=>wpQuiet P l.toArray C (fun a'=>wpList P l.toArray (zcT C h s (QH P l C s Q r fin)) (pick l [h]) a' w) (pick l is) a
def xZ:List (List Nat×Nat)→List Nat→List (Bool×Nat)
 |[],fin=>fin.map fun i=>(true,i)
 |(is,h) ::r,fin=>(is.map fun i=>(true,i))++(false,h) ::xZ r fin
theorem jq {l:List Oper}{s:Nat}{Q:Act→World→Prop}{r:List (Bool×Nat)}{w:World}:∀(is:List Nat) (a:Act),(∀i∈is,i < l.length)→
 wpQuiet P l.toArray C (fun a'=>Yl P l.toArray C s Q r a' w) (pick l is) a→Yl P l.toArray C s Q ((is.map fun i=>(true,i))++r) a w
 |[],_,_,h=>h
 |i ::is,a,hl,h=>by
  have hlt:=hl i (List.mem_cons_self ..); have hi:l[i]?=some l[i]:=List.getElem?_eq_getElem hlt; have e:pick l (i ::is)=l[i] ::pick l is:=xE _ hi
  rw[e]at h
  show qOp P l.toArray C i _ a; have hi':l.toArray[i]?=some l[i]:=by rw[List.getElem?_toArray];exact hi
  unfold qOp; simp only[hi']
  unfold wpQuiet at h; split
  ·rename_i hw
   rw[if_pos hw]at h
   exact Oper.quiet_mono (fun a' h'=>jq is a' (fun k hk=>hl k (List.mem_cons_of_mem _ hk)) h') h
  ·rename_i hw
   rw[if_neg hw]at h
   exact jq is _ (fun k hk=>hl k (List.mem_cons_of_mem _ hk)) h
theorem qT {l:List Oper}{i s:Nat}{next:Act→World→Prop}{a:Act}{w:World}(hi:i < l.length)(h:wpList P l.toArray (zcT C i s next) (pick l [i]) a w):
 wpOp P l.toArray QN i (fun a' w'=>(i≠s→C w')∧next a' w') a w:=by
 have hi1:l[i]?=some l[i]:=List.getElem?_eq_getElem hi; have e:pick l [i]=[l[i]]:=xE _ hi1; have hi':l.toArray[i]?=some l[i]:=by rw[List.getElem?_toArray];exact hi1
 rw[e]at h
 unfold wpOp; simp only[hi']
 unfold wpList at h; split
 ·rename_i hw
  rw[if_pos hw]at h
  rcases h with h|⟨_,a',w',hl⟩
  ·refine .inl (YW (fun a w h=>h) (fun _ _ _ h=>h) ?_ h)
   rintro⟨_,_,hl⟩
   exact hl.elim
  ·exact hl.elim
 ·rename_i hw
  rw[if_neg hw]at h
  exact h
theorem Yj {l:List Oper}{s:Nat}{Q:Act→World→Prop}{fin:List Nat}(hf:∀i∈fin,i < l.length):∀(segs:List (List Nat×Nat)) (a:Act) (w:World),(∀x∈segs,(∀i∈x.1,i < l.length)∧x.2 < l.length)→
 QH P l C s Q segs fin a w→Yl P l.toArray C s Q (xZ segs fin) a w
 |[],a,w,_,h=>by
  have:=jq (s:=s) (Q:=Q) (r:=[]) (w:=w) fin a hf h
  simpa[xZ]using this
 |(is,hh) ::r,a,w,hl,h=>by
  obtain⟨h1,h2⟩:=hl _ (List.mem_cons_self ..)
  refine jq is a h1 (qD (fun a' h'=>?_) (pick l is) a h); exact wpOp_mono (fun a2 w2 hx=>⟨hx.1,Yj hf r a2 w2 (fun x hx'=>hl x (List.mem_cons_of_mem _ hx')) hx.2⟩) (qT h2 h')
def zfU (l:List Oper)(s:Nat)(segs:List (List Nat×Nat))(fin:List Nat):Bool:=
 Region.noSelect l.toArray&&YE .any l.toArray s (xZ segs fin) (Array.replicate l.length false)&&(segs.all fun x=>(x.1.all fun i=>decide (i < l.length))&&decide (x.2 < l.length))&&(fin.all fun i=>decide (i < l.length))&&((xZ segs fin).length==l.length)
theorem QQ {id:Nat}{Q:Exit→Act→World→Prop}{a:Act}{w:World}{l:List Oper}(s:Nat)(segs:List (List Nat×Nat))(fin:List Nat)(hm:P.follows .mixedOrders=true)(hB:zfU l s segs fin=true)
 (h:QH P l (fun w'=>∃x:Lay,w'=more w x.os x.k) s (fun a' w'=>Q .normal a' w') segs fin a w.drew):(Code.region id l.toArray true).wp P Q a w:=by
 unfold zfU at hB; simp only[Bool.and_eq_true,List.all_eq_true,decide_eq_true_eq,beq_iff_eq]at hB
 obtain⟨⟨⟨⟨h1,h2⟩,h3⟩,h4⟩,h5⟩:=hB
 refine wp_region_any hm (vn (C:=fun w'=>∃x:Lay,w'=more w x.os x.k) (s:=s) _ _ _ _ ?_)
 have:=vQ (Q:=fun a' w'=>Q .normal a' w') (C:=fun w'=>∃x:Lay,w'=more w x.os x.k) h1 (xZ segs fin) (Array.replicate l.length false) a w.drew h2 (by
  rw[Array.getD_eq_getD_getElem?,Array.getElem?_replicate]
  split<;>rfl) ⟨⟨[],w.drawn+1⟩,by rw[←zF,j0]⟩ (Yj h4 segs a w.drew h3 h)
 rw[h5]at this
 simpa using this
theorem yZ {w w':World}(h:Ext w w'):∃x:Lay,w'=more w x.os x.k:=by
 obtain⟨os,k,h⟩:=h
 exact⟨⟨os,k⟩,h⟩
theorem qP {l:List Oper}{s h:Nat}{Q:Act→World→Prop}{is fin:List Nat}{r:List (List Nat×Nat)}{a:Act}{w:World}
 (hh:∀K:Act→Prop,(∀a',(∀next:Act→World→Prop,(∀a w,QH P l C s Q r fin a w→next a w)→wpList P l.toArray (zcT C h s next) (pick l [h]) a' w)→K a')→wpQuiet P l.toArray C K (pick l is) a):
 QH P l C s Q ((is,h) ::r) fin a w:=hh _ fun _ h'=>h' _ fun _ _ h=>h
theorem Jo {l:List Oper}{s:Nat}{Q:Act→World→Prop}{fin:List Nat}{a:Act}{w:World}
 (hh:∀K:Act→Prop,(∀a',Q a' w→K a')→wpQuiet P l.toArray C K (pick l fin) a):QH P l C s Q [] fin a w:=hh _ fun _ h=>h
end
section
variable {P:Program}{ops:Array Oper}{md:Region.Mode}{C:World→Prop}
theorem ZT {l0 n:Nat}{o:Oper}{a:Act}{w:World}{K:Act→World→Prop}{Q':Exit→Act→World→Prop}(hnd:∀c:Call,o.op≠Op.defer c)(h:o.wp P a w K QN):o.wpIn (Fence.wide.inRound l0) n P a w K Q':=by
 unfold Oper.wp at h; unfold Oper.wpIn
 refine⟨fun _ _=>trivial,?_⟩
 rw[Oper.semAt_eq _ _ _ hnd]
 generalize(execOp a.eval o).run P w=r at*
 cases r with
 |ok x w'=>
  cases x<;>simp only[Oper.upon]at h<;>simp only[Oper.uponIn]
  case value u=>exact h
  case skip=>exact h
  case defer d=>exact h
  case enter f args=>
   refine⟨fun e=>(by cases e),CallsIn.inRound l0 (callsIn_wide.2 (Calls.mono h fun e w'' he=>?_))⟩
   cases e with
   |returned u=>exact he
   |panicked c=>exact he.elim
   |outgrown=>exact absurd he qL
  case row row args=>exact⟨fun e=>(by cases e),fun c cs _=>let⟨v,w',r,s⟩:=h c cs;⟨v,w',r,stepsIn_wide.2 s⟩⟩
 |halt x w'=>
  cases x<;>simp only[Oper.upon]at h
  case panic u=>exact h.elim
theorem vS {l0 n s:Nat}{Q:Exit→Act→World→Prop}(hnd:∀(i:Nat) (o:Oper),ops[i]?=some o→∀c:Call,o.op≠Op.defer c):∀(fuel:Nat) (listed:Array Bool) (a:Act) (w:World),
 xk P md ops C s (fun a w=>Q .normal a w) fuel listed a w→wpAnyIn (Fence.wide.inRound l0) n P md ops Q fuel listed a w
 |0,_,_,_,h=>h.2
 |fuel+1,listed,a,w,h=>⟨h.2.1,fun i hi=>by
  have h1:=h.2.2 i hi; unfold wpOp at h1; unfold wpOpIn; split
  ·rename_i ho; simp only[ho]at h1
   exact vS hnd fuel _ _ _ h1
  ·rename_i o ho; simp only[ho]at h1
   split
   ·rename_i hw; simp only[hw,if_true]at h1
    rcases h1 with h1|⟨_,hl⟩
    ·exact Oper.wpIn_mono (fun a' w' hh=>vS hnd fuel _ a' w' hh) (ZT (Q':=Q) (hnd i o ho) h1)
    ·exact absurd hl qL
   ·rename_i hw; simp only[hw]at h1
    exact⟨fun _ _=>trivial,vS hnd fuel _ _ _ h1⟩⟩
theorem jA {id l0 n:Nat}{Q:Exit→Act→World→Prop}{a:Act}{w:World}{l:List Oper}(s:Nat)(segs:List (List Nat×Nat))(fin:List Nat)(hnd:zat l=true)(hm:P.follows .mixedOrders=true)(hB:zfU l s segs fin=true)
 (h:QH P l (fun w'=>∃x:Lay,w'=more w x.os x.k) s (fun a' w'=>Q .normal a' w') segs fin a w.drew):(Code.region id l.toArray true).wpIn (Fence.wide.inRound l0) n P Q a w:=by
 have hnd':∀(i:Nat) (o:Oper),l.toArray[i]?=some o→∀c:Call,o.op≠Op.defer c:=by
  intro i o ho c hc; have hmem:o∈l:=by
   rw[List.getElem?_toArray]at ho
   exact List.mem_of_getElem? ho
  have:=List.all_eq_true.1 hnd o hmem
  rw[hc]at this
  cases this
 unfold zfU at hB; simp only[Bool.and_eq_true,List.all_eq_true,decide_eq_true_eq,beq_iff_eq]at hB
 obtain⟨⟨⟨⟨h1,h2⟩,h3⟩,h4⟩,h5⟩:=hB
 refine wpIn_region_any hm (vS (C:=fun w'=>∃x:Lay,w'=more w x.os x.k) (s:=s) hnd' _ _ _ _ ?_)
 have:=vQ (Q:=fun a' w'=>Q .normal a' w') (C:=fun w'=>∃x:Lay,w'=more w x.os x.k) h1 (xZ segs fin) (Array.replicate l.length false) a w.drew h2 (by
  rw[Array.getD_eq_getD_getElem?,Array.getElem?_replicate]
  split<;>rfl) ⟨⟨[],w.drawn+1⟩,by rw[←zF,j0]⟩ (Yj h4 segs a w.drew h3 h)
 rw[h5]at this
 simpa using this
end
def zgh {α:Type}(P:Program)(gf:FuncId)(lb:Array Value)(encs:α→Array Value)(xs:List α)(S:Nat→Prop)(R:Nat→World→Prop)(w1:World):Prop:=
 ∀(l:Nat) (J:Nat→(Nat→Prop)→World→Prop) (Jx:Nat→World→Prop) (K0:Nat→Prop),S l→l < w1.heap.size→(∀b,K0 b→S b∧b < w1.heap.size)→
  (∀j K W W',Ext W W'→J j K W→J j K W')→(∀j W W',Ext W W'→Jx j W→Jx j W')→(∀j K W,J j K W→R j W)→
  (∀j x K W,xs[j]?=some x→w1.heap.size≤W.heap.size→J j K W→YieldAt Fence.wide 0 P l (encs x) W fun e W'=>
    zA (fun b=>K b∨b=l) W W'∧((e=.returned (.bool true)∧∃K',(∀b,K' b→K b∨W.heap.size≤b)∧J (j+1) K' W')∨(e=.returned (.bool false)∧Jx (j+1) W')))→
  J 0 K0 w1→
  Calls P gf (#[.func (.yield l) #[] #[]]++lb) w1 fun e W'=>(∃v,e=.returned v)∧w1.heap.size≤W'.heap.size∧((∃K,J xs.length K W')∨∃j,j≤xs.length∧Jx j W')
def zj8 (K:Nat→Prop)(N:Nat)(W:World)(I:(Nat→Prop)→World→Prop)(Ix:Code→World→Prop):Exit→Act→World→Prop
 | .normal,_,W'=>zA (fun b=>K b∨N≤b) W W'∧∃K',(∀b,K' b→K b∨N≤b)∧I K' W'
 | .ret,_,W'=>zA (fun b=>K b∨N≤b) W W'∧Ix .ret W'
 | .exit id,_,W'=>zA (fun b=>K b∨N≤b) W W'∧Ix (.exit id) W'
 | .goto t,_,W'=>zA (fun b=>K b∨N≤b) W W'∧Ix (.goto t) W'
 | .panic _,_,_=>False
 | .outgrown,_,_=>False
theorem jI {w w':World}{b:Nat}{o:Obj}(h:w.heap[b]?=some o)(e:Ext w w'):w'.heap[b]?=some o:=(e.below.block _ (za h)).trans h
variable {P:Program}
theorem zem {α:Type}{g:Operand}{ps:Array Tmp}{assign body:Code}{Q:Exit→Act→World→Prop}{a:Act}{w:World}{gf:Nat}{lb:Array Value}
 (hg:a.eval g=.func (.func gf) #[] lb) (eg:∀args w,(callFunc gf args).run P w=.ok (.enter gf args) w)
 {encs:α→Array Value} (hps:∀x,(encs x).size=ps.size) {xs:List α} {S:Nat→Prop} {R:Nat→World→Prop} (hSl:S (w.heap.size+1))
 (hseq:∀w1,Ext w w1→w1.heap.size=w.heap.size+2→zgh P gf lb encs xs S R w1)
 (I:Nat→(Nat→Prop)→World→Prop) (Ix:Code→Nat→World→Prop) (K0:Nat→Prop) (hK0:∀b,K0 b→S b∧b < w.heap.size)
 (hI:∀j K W W',zA (fun b=>b=w.heap.size∨b=w.heap.size+1) W W'→w.heap.size+2≤W.heap.size→I j K W→I j K W')
 (hIx:∀c j W W',zA (fun b=>b=w.heap.size∨b=w.heap.size+1) W W'→w.heap.size+2≤W.heap.size→Ix c j W→Ix c j W')
 (hKn:∀j K W,I j K W→¬K w.heap.size∧¬K (w.heap.size+1)) (hR:∀j K W,I j K W→R j W) (h0:∀W,Ext w W→I 0 K0 W)
 (hround:∀(l j:Nat) (x:α) (K:Nat→Prop) (W:World),xs[j]?=some x→I j K W→w.heap.size+2≤W.heap.size→
   assign.wpIn (Fence.wide.inRound l) 0 P (Exit.then (fun a₁ W₁=>Ext W W₁∧∀W₂,zA (fun b=>b=w.heap.size∨b=w.heap.size+1) W₁ W₂→I j K W₂→W.heap.size≤W₂.heap.size→
    body.wpIn (Fence.wide.inRound l) 0 P (zj8 K W.heap.size W₂ (I (j+1)) (fun c=>Ix c (j+1))) a₁ W₂) (fun _ _ _=>False))
    {tmps:=(ps.zip (encs x)).foldl (fun t (p,v)=>t.setIfInBounds p v) a.tmps,defers:=[]} W)
 (hdone:∀(K:Nat→Prop) (W:World),I xs.length K W→w.heap.size+2≤W.heap.size→W.heap[w.heap.size]?=some (.deferred (some []))→Q .normal {a with defers:={target:=.collected w.heap.size,args:=#[]} ::a.defers} W)
 (hstop:∀(c:Code) (j:Nat) (W:World),j≤xs.length→Ix c j W→w.heap.size+2≤W.heap.size→W.heap[w.heap.size]?=some (.deferred (some []))→c.wp P Q {a with defers:={target:=.collected w.heap.size,args:=#[]} ::a.defers} W):
 (Code.rangeFunc g ps assign body).wp P Q a w:=by
 refine(wpIn_wide (n:=1)).1 (wpIn_rangeFunc ?_)
 intro fn hfn
 obtain⟨rec,hrec⟩:∃rec:LoopState→Option Code→Loop,rec=fun st pe=>{state:=st,pending:=pe,fn,tmps:=a.tmps,params:=ps,assign,body,defers:=w.heap.size}:=⟨_,rfl⟩
 obtain⟨W1,hW1⟩:∃W1,(w.alloc (.deferred (some []))).alloc (.loop (rec .ready none))=W1:=⟨_,rfl⟩
 have hL1:W1.heap[w.heap.size+1]?=some (.loop (rec .ready none)):=by
  rw[←hW1];have:=World.alloc_heap_new (w.alloc (.deferred (some []))) (.loop (rec .ready none));rwa[World.size_alloc]at this
 have hK1:W1.heap[w.heap.size]?=some (.deferred (some [])):=by
  rw[←hW1];exact(Below.heap_alloc _ _ _ (by simp)).trans (World.alloc_heap_new w _)
 have hE1:Ext w W1:=by rw[←hW1];exact((Ext.refl w).alloc _).alloc _
 have hs1:W1.heap.size=w.heap.size+2:=by rw[←hW1];simp
 obtain⟨n0,hn0⟩:∃n0,w.heap.size=n0:=⟨_,rfl⟩
 rw[hn0]at hSl hseq hI hIx hKn hround hdone hstop hL1 hK1 hs1 hK0
 have hI1:I 0 K0 W1:=h0 _ hE1
 refine⟨n0+1,[{target:=.collected n0,args:=#[]}],W1,{target:=.fn (.func gf) lb,args:=#[.func (.yield (n0+1)) #[] #[]]},W1,gf,
  #[.func (.yield (n0 + 1)) #[] #[]] ++ lb, W1, ?_, ?_, ?_, ?_, (fun h => by cases h), ?_⟩
 ·rw[←hW1,hrec,←hn0];exact run_enterLoop_outer _ _ _ _ _
 ·simp only[resolve,hg]
  simp[go_sem]
 ·intro f' hf';trivial
 ·simp[invoke,go_sem,eg]
 ·refine callsIn_wide.2 ((hseq W1 hE1 hs1 (n0+1)
   (fun j K W=>I j K W∧W.heap[n0+1]?=some (.loop (rec .ready none))∧W.heap[n0]?=some (.deferred (some [])))
   (fun j W=>∃c,Ix c j W∧W.heap[n0+1]?=some (.loop (rec .done (some c)))∧W.heap[n0]?=some (.deferred (some [])))
   K0 hSl (by omega) (fun b hb=>⟨(hK0 b hb).1,by have:=(hK0 b hb).2;omega⟩) ?_ ?_ (fun j K W h=>hR j K W h.1) ?_ ⟨hI1,hL1,hK1⟩).mono ?_)
  ·rintro j K A B hb ⟨h1,h2,h3⟩
   exact⟨hI _ _ _ _ (zA.of_ext hb) (by have:=za h2;omega) h1,jI h2 hb,jI h3 hb⟩
  ·rintro j A B hb ⟨c,h1,h2,h3⟩
   exact⟨c,hIx _ _ _ _ (zA.of_ext hb) (by have:=za h2;omega) h1,jI h2 hb,jI h3 hb⟩
  ·rintro j x K W hx hsz ⟨hi,hl,hk⟩; have hlt:n0+1 < W.heap.size:=za hl; have hy:=run_yield (P:=P) (args:=encs x) hl (by rw[hrec];exact hps x)
   rw[hrec]at hy
   have hKK:=hKn _ _ _ hi
   refine⟨fn,_,assign,body,hy,roundIn_of_wpIn hfn (wpIn_mono (hround _ j x K W hx hi (by omega)) ?_)⟩
   rintro e a₁ W₂ hp; cases e with
   |normal=>
    obtain⟨hE2,hbody⟩:=hp
    have hl2:W₂.heap[n0+1]?=some (.loop (rec .ready none)):=jI hl hE2; have hk2:W₂.heap[n0]?=some (.deferred (some [])):=jI hk hE2; have hlt2:=za hl2
    refine⟨_,run_beginRound hl2 (by rw[hrec]),?_⟩
    have hl3:(W₂.putObj (n0+1) (.loop {rec .ready none with state:=.busy})).heap[n0+1]?=some (.loop {rec .ready none with state:=.busy}):=World.putObj_heap_same hlt2; have hk3:(W₂.putObj (n0+1) (.loop {rec .ready none with state:=.busy})).heap[n0]?=some (.deferred (some [])):=(World.putObj_heap_other (by omega)).trans hk2; have hT3:zA (fun b=>b=n0∨b=n0+1) W₂ (W₂.putObj (n0+1) (.loop {rec .ready none with state:=.busy})):=yC _ _ (.inr rfl); have hI3:I j K (W₂.putObj (n0+1) (.loop {rec .ready none with state:=.busy})):=hI _ _ _ _ ((zA.of_ext hE2).trans hT3) (by omega) hi; have hsz3:W.heap.size≤(W₂.putObj (n0+1) (.loop {rec .ready none with state:=.busy})).heap.size:=by
     have:=hE2.size
     simp
     exact this
    refine wpIn_mono (hbody _ hT3 hI3 hsz3) ?_
    have fin:∀(jump:Option Code) (W3:World),zA (fun b=>K b∨W.heap.size≤b) (W₂.putObj (n0+1) (.loop {rec .ready none with state:=.busy})) W3→
     (Instr.endRound (n0+1) jump).run P W3=.ok (.bool jump.isNone) (W3.putObj (n0+1) (.loop (rec (if jump.isNone then .ready else .done) jump)))∧
     (W3.putObj (n0+1) (.loop (rec (if jump.isNone then .ready else .done) jump))).heap[n0+1]?=some (.loop (rec (if jump.isNone then .ready else .done) jump))∧
     (W3.putObj (n0+1) (.loop (rec (if jump.isNone then .ready else .done) jump))).heap[n0]?=some (.deferred (some []))∧
     zA (fun b=>b=n0∨b=n0+1) W3 (W3.putObj (n0+1) (.loop (rec (if jump.isNone then .ready else .done) jump)))∧n0+2≤W3.heap.size∧
     zA (fun b=>K b∨b=n0+1) W (W3.putObj (n0+1) (.loop (rec (if jump.isNone then .ready else .done) jump))):=fun jump W3 hk4=>by
     have hl4:=(hk4.block _ (za hl3) (fun h=>h.elim hKK.2 (fun h=>by omega))).trans hl3; have hr:=run_endRound (P:=P) jump hl4; have hlt4:=za hl4; have hr2:(Instr.endRound (n0+1) jump).run P W3=.ok (.bool jump.isNone) (W3.putObj (n0+1) (.loop (rec (if jump.isNone then .ready else .done) jump))):=by
      rw[hrec]at hr ⊢
      exact hr
     refine⟨hr2,World.putObj_heap_same hlt4,(World.putObj_heap_other (by omega)).trans ((hk4.block _ (za hk3) (fun h=>h.elim hKK.1 (fun h=>by omega))).trans hk3),yC _ _ (.inr rfl),by omega,?_⟩
     have t1:zA (fun b=>K b∨b=n0+1) W W₂:=zA.of_ext hE2; have t2:zA (fun b=>K b∨b=n0+1) W (W₂.putObj (n0+1) (.loop {rec .ready none with state:=.busy})):=t1.trans (yC _ _ (.inr rfl))
     exact(t2.andThen (S'':=fun b=>K b∨b=n0+1) hk4 (fun k _ hS=>hS) (fun k hk hS=>hS.elim (fun hS=>.inl hS) (fun hS=>absurd hk (Nat.not_lt.2 hS)))).trans (yC _ _ (.inr rfl))
    rintro e a3 W3 hp; cases e with
    |normal=>
     obtain⟨ht,K',hK',hi3⟩:=hp
     obtain⟨hr,hl4,hk4,hb4,hs4,ht4⟩:=fin none W3 ht
     exact⟨_,_,hr,ht4,.inl ⟨rfl,K',hK',hI _ _ _ _ hb4 hs4 hi3,hl4,hk4⟩⟩
    |ret=>
     obtain⟨ht,hi3⟩:=hp
     obtain⟨hr,hl4,hk4,hb4,hs4,ht4⟩:=fin (some (.ret)) W3 ht
     exact⟨_,_,hr,ht4,.inr ⟨rfl,.ret,hIx _ _ _ _ hb4 hs4 hi3,hl4,hk4⟩⟩
    |exit id=>
     obtain⟨ht,hi3⟩:=hp
     obtain⟨hr,hl4,hk4,hb4,hs4,ht4⟩:=fin (some (.exit id)) W3 ht
     exact⟨_,_,hr,ht4,.inr ⟨rfl,.exit id,hIx _ _ _ _ hb4 hs4 hi3,hl4,hk4⟩⟩
    |goto t=>
     obtain⟨ht,hi3⟩:=hp
     obtain⟨hr,hl4,hk4,hb4,hs4,ht4⟩:=fin (some (.goto t)) W3 ht
     exact⟨_,_,hr,ht4,.inr ⟨rfl,.goto t,hIx _ _ _ _ hb4 hs4 hi3,hl4,hk4⟩⟩
    |panic ch=>exact hp.elim
    |outgrown=>exact hp.elim
   |exit id=>exact hp.elim
   |goto l=>exact hp.elim
   |ret=>exact hp.elim
   |panic ch=>exact hp.elim
   |outgrown=>exact hp.elim
  ·rintro e W2 ⟨⟨v,rfl⟩,hsz,(⟨K,hi,hl,hk⟩|⟨j,hj,c,hi,hl,hk⟩)⟩
   ·have hlt:=za hl; have hend:=run_endLoop (P:=P) hl (by rw[hrec];simp); have hp:(rec .ready none).pending=none:=by rw[hrec]
    rw[hp]at hend
    exact⟨none,_,hend,hdone K _ (hI _ _ _ _ (yC _ _ (.inr rfl)) (by omega) hi) (by simp;omega) ((World.putObj_heap_other (by omega)).trans hk)⟩
   ·have hlt:=za hl; have hend:=run_endLoop (P:=P) hl (by rw[hrec];simp); have hp:(rec .done (some c)).pending=some c:=by rw[hrec]
    rw[hp]at hend
    exact⟨some c,_,hend,wpIn_wide.2 (hstop c j _ hj (hIx _ _ _ _ (yC _ _ (.inr rfl)) (by omega) hi) (by simp;omega) ((World.putObj_heap_other (by omega)).trans hk))⟩
end Go.Proofs.YtmbelmngniddjaaGreat
namespace Go.Proofs.YtmbelmngniddjaaGreat
open Go.RowKit
attribute [local go_sem] zF zB zI zJ zw zt zN zD zX zQ zK zP zO zL zT zR zS zG zM zC
abbrev pt (b:Nat):Value:=.pointer (some ⟨b,0,none⟩)
theorem zb {w w':World}{o:Nat}{ob:Obj}(h:w.heap[o]?=some ob)(e:Ext w w'):w'.heap[o]?=some ob:=(e.below.block o (za h)).trans h
theorem zm (w:World)(o:Obj)(j:Nat):(w.alloc o).heap[j]?=if j=w.heap.size then some o else w.heap[j]?:=by
 show(w.heap.push o)[j]?=_
 rw[Array.getElem?_push]
theorem QB {w:World}{base c n:Nat}{A:Option Addr}{e:TypeId}{size:Nat}{xs:List Value}(h:w.ownsRow base e size (.slice A n c) n xs)(h0:0 < n):∃g,A=some ⟨g,0,none⟩∧base≤g∧g < w.heap.size:=by
 rcases h.2 with⟨h2,rfl⟩|⟨g',cap,cur,h2,h3,h4,_⟩
 ·omega
 ·injection h2 with a1 a2 a3
  exact⟨g',a1,h3,za h4⟩
def iv (xs:List Int):List Value:=xs.map (Value.int .i64)
theorem qX (xs:List Int):(iv xs).length=xs.length:=List.length_map _
theorem J8 {xs:List Int}{k:Nat}(h:k < xs.length):(iv xs)[k]?=some (.int .i64 (xs.getD k 0)):=by
 unfold iv
 rw[List.getElem?_map,List.getD_eq_getElem?_getD,List.getElem?_eq_getElem h]
 rfl
theorem QK (xs ys:List Int):iv (xs++ys)=iv xs++iv ys:=List.map_append
theorem Yd:(Tryz.prog.info? 3).map (fun i=>(i.zero,i.size,i.bytes))=some (some (.int .i64 0),1,8):=by kernel_rfl
def vr (w:World)(base:Nat)(A:Option Addr)(c:Nat)(xs:List Int):Prop:=w.ownsRow base 3 1 (.slice A xs.length c) xs.length (iv xs)
theorem vr.ints {w:World}{base:Nat}{A:Option Addr}{c:Nat}{xs:List Int}(h:vr w base A c xs):xW w A xs∧xs.length≤c∧c≤maxLen∧(A=none→c=0):=by
 obtain⟨A',cap,hv,h1,h2,h3,h4⟩:=zW h
 injection hv with a1 a2 a3; subst a1 a3
 refine⟨fun h0=>?_,h2,h3,h4⟩
 obtain⟨b,off,hA,hb,hc⟩:=h1 (by rw[qX];exact h0)
 exact⟨b,off,hA,hb,fun k hk=>hc k _ (J8 hk)⟩
theorem vr.nil (w:World)(base:Nat):vr w base none 0 []:=World.ownsRow_nil _ _ _ _
theorem vr.base {w:World}{base base':Nat}{A:Option Addr}{c:Nat}{xs:List Int}(h:vr w base A c xs)(hb:base'≤base):vr w base' A c xs:=
 ⟨h.1,h.2.imp id fun⟨g,cap,cur,h1,h2,h3⟩=>⟨g,cap,cur,h1,Nat.le_trans hb h2,h3⟩⟩
theorem vr.ext {w w':World}{base:Nat}{A:Option Addr}{c:Nat}{xs:List Int}(h:vr w base A c xs)(e:Ext w w'):vr w' base A c xs:=yv h e
def Yb (w:World)(us:List Int)(e:Ending)(w':World):Prop:=∃A c,e=.returned (.slice A us.length c)∧vr w' w.heap.size A c us∧Ext w w'
def xj (w:World)(base:Nat)(v:Value)(xs:List Int):Prop:=∃A c,v=.slice A xs.length c∧vr w base A c xs
theorem xj.ext {w w':World}{base:Nat}{v:Value}{xs:List Int}(h:xj w base v xs)(e:Ext w w'):xj w' base v xs:=by
 obtain⟨A,c,hv,ho⟩:=h
 exact⟨A,c,hv,ho.ext e⟩
theorem zhO (w0:World){w:World}{ops:Array Oper}{rest:List Oper}{o:Oper}{a:Act}{Q:Exit→Act→World→Prop}(hw:Region.wanted o (yielded ops a.tmps)=true)(s x:Operand)
 (ho:o.op=.call {callee:=.builtin .append,args:=#[s,x],argTypes:=#[33,33]}) {xs:List Int} {v:Value} (hr:xj w w0.heap.size v xs) (y:Int) (g:Nat)
 (hs:a.eval s=v) (hx:a.eval x=.slice (some ⟨g,0,none⟩) 1 1) (hg:g < w.heap.size) (hc:w.cell? ⟨g,0,none⟩=some (.int .i64 y)) (hlen:xs.length≤1000000) (hext:Ext w0 w)
 (h:∀v' w',xj w' w0.heap.size v' (xs++[y])→w.grownBy w' v.ownBlock→Ext w0 w'→wpList Tryz.prog ops Q rest (a.put o.dst v') w'):wpList Tryz.prog ops Q (o ::rest) a w:=by
 obtain⟨A,c,rfl,hown⟩:=hr
 obtain⟨i3,hi,hz0,hz1,hz2⟩:=info_parts Yd
 refine zE w hw s x 33 ho w0.heap.size 3 i3 (.int .i64 0) 1 8 Tryz.underlying33 hi hz0 hz1 hz2 rfl (by omega) _ xs.length (iv xs) hs hown (some ⟨g,0,none⟩) 1 1 (iv [y]) hx (fun h=>by cases h) rfl
  (fun _=>⟨g,0,rfl,hg,fun k u hk=>?_⟩) (fun u hu=>?_) (by unfold maxLen;omega) (by omega) hext.size fun v' w' h2 h3 h4=>?_
 ·cases k with
  |zero=>simp[iv]at hk;rw[←hk];exact hc
  |succ k=>simp[iv]at hk
 ·simp only[iv,List.map_cons,List.map_nil,List.mem_singleton]at hu
  subst hu; rfl
 ·obtain⟨A',c',hv',_⟩:=zW h2
  subst hv'; refine h _ w' ⟨A',c',by rw[List.length_append];rfl,?_⟩ h3 (hext.grown h3 fun g hg=>zV hown g hg); unfold vr
  rw[QK,List.length_append]
  exact h2
theorem qu {xs:List Int}{k:Nat}(h:k < xs.length):xs.take (k+1)=xs.take k++[xs.getD k 0]:=by
 rw[List.take_succ_eq_append_getElem h,List.getD_eq_getElem?_getD,List.getElem?_eq_getElem h]
 rfl
theorem yV (w0:World){w:World}{ops:Array Oper}{rest:List Oper}{o:Oper}{a:Act}{Q:Exit→Act→World→Prop}(hw:Region.wanted o (yielded ops a.tmps)=true)(s x:Operand)
 (ho:o.op=.call {callee:=.builtin .append,args:=#[s,x],argTypes:=#[33,33]}) {xs:List Int} {v:Value} (hr:xj w w0.heap.size v xs) (y:Int) (g:Nat)
 (hs:a.eval s=v) (hx:a.eval x=.slice (some ⟨g,0,none⟩) 1 1) (hg:g < w.heap.size) (hc:w.cell? ⟨g,0,none⟩=some (.int .i64 y)) (hlen:xs.length≤1000000) (hbase:w0.heap.size≤w.heap.size)
 (h:∀v' w',xj w' w0.heap.size v' (xs++[y])→w.grownBy w' v.ownBlock→(v'.ownBlock=v.ownBlock∨v'.ownBlock=some w.heap.size)→wpList Tryz.prog ops Q rest (a.put o.dst v') w'):wpList Tryz.prog ops Q (o ::rest) a w:=by
 obtain⟨A,c,rfl,hown⟩:=hr
 obtain⟨i3,hi,hz0,hz1,hz2⟩:=info_parts Yd
 refine zE w hw s x 33 ho w0.heap.size 3 i3 (.int .i64 0) 1 8 Tryz.underlying33 hi hz0 hz1 hz2 rfl (by omega) _ xs.length (iv xs) hs hown (some ⟨g,0,none⟩) 1 1 (iv [y]) hx (fun h=>by cases h) rfl
  (fun _=>⟨g,0,rfl,hg,fun k u hk=>?_⟩) (fun u hu=>?_) (by unfold maxLen;omega) (by omega) hbase fun v' w' h2 h3 h4=>?_
 ·cases k with
  |zero=>simp[iv]at hk;rw[←hk];exact hc
  |succ k=>simp[iv]at hk
 ·simp only[iv,List.map_cons,List.map_nil,List.mem_singleton]at hu
  subst hu; rfl
 ·obtain⟨A',c',hv',_⟩:=zW h2
  subst hv'; refine h _ w' ⟨A',c',by rw[List.length_append];rfl,?_⟩ h3 h4; unfold vr
  rw[QK,List.length_append]
  exact h2
theorem Jk (w0:World){w:World}{ops:Array Oper}{rest:List Oper}{o:Oper}{a:Act}{Q:Exit→Act→World→Prop}(hw:Region.wanted o (yielded ops a.tmps)=true)(s x:Operand)
 (ho:o.op=.call {callee:=.builtin .append,args:=#[s,x],argTypes:=#[33,33]}) {xs:List Int} {v:Value} (hr:xj w w0.heap.size v xs) (ys:List Int) (A:Option Addr) (c:Nat)
 (hs:a.eval s=v) (hx:a.eval x=.slice A ys.length c) (hA:A=none→c=0) (hc:xW w A ys) (hlen:xs.length+ys.length≤10000000) (hext:Ext w0 w)
 (h:∀v' w',xj w' w0.heap.size v' (xs++ys)→w.grownBy w' v.ownBlock→Ext w0 w'→wpList Tryz.prog ops Q rest (a.put o.dst v') w'):wpList Tryz.prog ops Q (o ::rest) a w:=by
 obtain⟨A0,c0,rfl,hown⟩:=hr
 obtain⟨i3,hi,hz0,hz1,hz2⟩:=info_parts Yd
 refine zE w hw s x 33 ho w0.heap.size 3 i3 (.int .i64 0) 1 8 Tryz.underlying33 hi hz0 hz1 hz2 rfl (by omega) _ xs.length (iv xs) hs hown A ys.length c (iv ys) hx hA (by rw[qX,Nat.mul_one])
  (fun h0=>?_) (fun u hu=>?_) (by unfold maxLen;omega) (by omega) hext.size fun v' w' h2 h3 h4=>?_
 ·rw[qX]at h0
  obtain⟨b,off,hA',hb,hcc⟩:=hc h0
  refine⟨b,off,hA',hb,fun k u hk=>?_⟩
  have hkl:k < ys.length:=by rw[←qX];exact(List.getElem?_eq_some_iff.1 hk).1
  exact(hcc k hkl).trans ((J8 hkl).symm.trans hk)
 ·obtain⟨x,_,rfl⟩:=List.mem_map.1 hu
  rfl
 ·obtain⟨A',c',hv',_⟩:=zW h2
  subst hv'; refine h _ w' ⟨A',c',by rw[List.length_append],?_⟩ h3 (hext.grown h3 fun g hg=>zV hown g hg); unfold vr
  rw[QK,List.length_append]
  exact h2
theorem Yi (w:World)(base:Nat)(hb:base≤w.heap.size):xj (w.alloc (.cells #[] 3)) base (.slice (some ⟨w.heap.size,0,none⟩) 0 0) []:=
 ⟨some ⟨w.heap.size,0,none⟩,0,rfl,ze1 w base 3 1 w.heap.size 0 #[] rfl hb rfl (by unfold maxLen;omega)⟩
end Go.Proofs.YtmbelmngniddjaaGreat
namespace Go.Proofs.YtmbelmngniddjaaGreat
open Go.RowKit
theorem zn {w:World}{b k:Nat}{cs:Array Value}{T:TypeId}{fr:Nat×Nat}(h:w.heap[b]?=some (.cells cs T fr))(v:Value):(w.setCell ⟨b,k,none⟩ v).heap[b]?=some (.cells (cs.setIfInBounds k v) T fr):=by
 simp[World.setCell,Array.getElem?_modify,h]
theorem zY {w:World}{b k g:Nat}{ob:Obj}(h:w.heap[b]?=some ob)(hne:g≠b)(v:Value):(w.setCell ⟨g,k,none⟩ v).heap[b]?=some ob:=by
 simp[World.setCell,Array.getElem?_modify,h,hne]
theorem zi {w:World}{b:Nat}{cs:Array Value}{T:TypeId}(h:w.heap[b]?=some (.cells cs T))(k:Nat):w.frozen? ⟨b,k,none⟩=false:=by
 simp[World.frozen?,h]
def put2 (w:World)(b:Nat)(v0 v1:Value):World:=(w.setCell ⟨b,0,none⟩ v0).setCell ⟨b,1,none⟩ v1
def y8 (w:World)(b:Nat)(v0 v1 v2:Value):World:=(put2 w b v0 v1).setCell ⟨b,2,none⟩ v2
def yX (w:World)(b:Nat)(v0 v1 v2 v3:Value):World:=(y8 w b v0 v1 v2).setCell ⟨b,3,none⟩ v3
def ZX (w:World)(b:Nat)(v0 v1 v2 v3 v4:Value):World:=(yX w b v0 v1 v2 v3).setCell ⟨b,4,none⟩ v4
theorem Yp {w:World}{b:Nat}{T:TypeId}{fr:Nat×Nat}{a0 a1:Value}(h:w.heap[b]?=some (.cells #[a0,a1] T fr))(v0 v1:Value):(put2 w b v0 v1).heap[b]?=some (.cells #[v0,v1] T fr):=
 zn (zn h _) _
theorem qK {w:World}{b:Nat}{T:TypeId}{fr:Nat×Nat}{a0 a1 a2:Value}(h:w.heap[b]?=some (.cells #[a0,a1,a2] T fr))(v0 v1 v2:Value):(y8 w b v0 v1 v2).heap[b]?=some (.cells #[v0,v1,v2] T fr):=
 zn (zn (zn h _) _) _
theorem yE {w:World}{b:Nat}{T:TypeId}{fr:Nat×Nat}{a0 a1 a2 a3:Value}(h:w.heap[b]?=some (.cells #[a0,a1,a2,a3] T fr))(v0 v1 v2 v3:Value):(yX w b v0 v1 v2 v3).heap[b]?=some (.cells #[v0,v1,v2,v3] T fr):=
 zn (zn (zn (zn h _) _) _) _
theorem vZ {w:World}{b:Nat}{T:TypeId}{fr:Nat×Nat}{a0 a1 a2 a3 a4:Value}(h:w.heap[b]?=some (.cells #[a0,a1,a2,a3,a4] T fr))(v0 v1 v2 v3 v4:Value):(ZX w b v0 v1 v2 v3 v4).heap[b]?=some (.cells #[v0,v1,v2,v3,v4] T fr):=
 zn (zn (zn (zn (zn h _) _) _) _) _
section
variable {S:Nat→Prop}{w:World}{b:Nat}
theorem qU (hb:S b)(v0 v1:Value):zA S w (put2 w b v0 v1):=(zA.setCell w (p:=⟨b,0,none⟩) hb v0).trans (zA.setCell _ (p:=⟨b,1,none⟩) hb v1)
theorem yM (hb:S b)(v0 v1 v2:Value):zA S w (y8 w b v0 v1 v2):=(qU hb v0 v1).trans (zA.setCell _ (p:=⟨b,2,none⟩) hb v2)
theorem yg (hb:S b)(v0 v1 v2 v3:Value):zA S w (yX w b v0 v1 v2 v3):=(yM hb v0 v1 v2).trans (zA.setCell _ (p:=⟨b,3,none⟩) hb v3)
theorem xG (hb:S b)(v0 v1 v2 v3 v4:Value):zA S w (ZX w b v0 v1 v2 v3 v4):=(yg hb v0 v1 v2 v3).trans (zA.setCell _ (p:=⟨b,4,none⟩) hb v4)
end
theorem zA.ext {S:Nat→Prop}{w w0 w':World}(h:zA S w w')(e:Ext w0 w)(hS:∀k,S k→w0.heap.size≤k):Ext w0 w':=
 Ext.of_below (e.below.trans (h.below e.size hS))
theorem qS {s:ByteArray}{k:Nat}{x:UInt8}(h:s[k]?=some x)(i:Int)(hi:i=k)(w:World):(Instr.index 9 (.string s) (.int .i64 i)).run Tryz.prog w=.ok (.int .u8 x.toNat) w:=by
 subst hi; have hk:k < s.size:=by
  rcases Nat.lt_or_ge k s.size with h1|h1
  ·exact h1
  ·rw[ByteArray.getElem?_ge' s _ (by omega)]at h;cases h
 rw[run_index_string w 9 s .i64 k Tryz.underlying9,dif_pos ⟨by omega,by omega⟩]
 have h2:s[(k:Int).toNat]?=some x:=by simpa using h
 rw[ByteArray.getElem?_lt' s _ (by simpa using hk)]at h2
 injection h2 with h2
 rw[h2]
structure EdS (w0:World)(g bx:Nat) where
 V:World
 idx:V.heap[g]?=w0.heap[g]?
 box:V.heap[bx]?=w0.heap[bx]?
instance edNonempty (w0:World)(g bx:Nat):Nonempty (EdS w0 g bx):=⟨⟨w0,rfl,rfl⟩⟩
theorem ziw {w0 V:World}{g bx:Nat}(e:Ext w0 V)(h1:g < w0.heap.size)(h2:bx < w0.heap.size):∃x:EdS w0 g bx,V=x.V:=⟨⟨V,e.below.block _ h1,e.below.block _ h2⟩,rfl⟩
theorem zA.set1 {w:World}(b k:Nat)(v:Value):zA (fun i=>i=b) w (w.setCell ⟨b,k,none⟩ v):=zA.setCell (S:=fun i=>i=b) w (p:=⟨b,k,none⟩) rfl v
theorem zA.keep {S:Nat→Prop}{w w':World}{b:Nat}{ob:Obj}(t:zA S w w')(h:w.heap[b]?=some ob)(hb:¬S b):w'.heap[b]?=some ob:=(t.block b (za h) hb).trans h
theorem zy {w w':World}{b o:Nat}{v:Value}(h:w.cell? ⟨b,o,none⟩=some v)(hb:b < w.heap.size)(e:Ext w w'):w'.cell? ⟨b,o,none⟩=some v:=
 (e.below.cell (p:=⟨b,o,none⟩) hb).trans h
def U64 (x:Int):Prop:=0≤x∧x≤18446744073709551615
theorem vm (op:BinOp)(a b:Int):U64 (bits op .u64 a b):=⟨bits_lo_u64 op a b,bits_hi_u64 op a b⟩
def tb (m:Int)(k:Nat):Bool:=m.toNat.testBit k
theorem zf7 {b:Int}(hb:U64 b)(n:Nat):bits .and .u64 (b / 2 ^ n) 1=if tb b n then 1 else 0:=by
 obtain⟨h1,h2⟩:=hb
 obtain⟨B,rfl⟩:=Int.eq_ofNat_of_zero_le h1
 have e:((B:Int) / 2 ^ n)=((B / 2 ^ n:Nat):Int):=by simp
 have hl:B / 2 ^ n≤B:=Nat.div_le_self _ _
 rw[e]
 rw[u64_and _ _ (Int.natCast_nonneg _) (by have:((B / 2 ^ n:Nat):Int)≤(B:Int):=Int.ofNat_le.2 hl;omega) (by decide) (by decide)]
 have:((B / 2 ^ n:Nat):Int).toNat&&& (1:Int).toNat=B / 2 ^ n % 2:=by
  rw[Int.toNat_natCast]
  exact Nat.and_one_is_mod _
 rw[this]
 unfold tb
 rw[Int.toNat_natCast,Nat.testBit_eq_decide_div_mod_eq]
 rcases Nat.mod_two_eq_zero_or_one (B / 2 ^ n)with h|h<;>rw[h]<;>simp
end Go.Proofs.YtmbelmngniddjaaGreat
