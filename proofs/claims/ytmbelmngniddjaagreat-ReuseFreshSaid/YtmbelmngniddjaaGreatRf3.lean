/- Rf: texts that the proof rests on, part 3. -/
import Derived.Test.YtmbelmngniddjaaGreatRf2
import Derived.Laws.BytesArg
import Derived.Maps.OwnOps
import Derived.Maps.OwnSet
import Derived.Maps.Views
namespace Go.Proofs.YtmbelmngniddjaaGreat
open Go.RowKit
attribute [local go_sem] zF zB zI zJ zw zt zN zD zX zQ zK zP zO zL zT zR zS zG zM zC
theorem qw {w:World}{base:Nat}{e:TypeId}{size:Nat}{v:Value}{n:Nat}{xs:List Value}(h:w.ownsRow base e size v n xs)(h0:0 < n):∃g c,v=.slice (some ⟨g,0,none⟩) n c∧base≤g∧g < w.heap.size∧(∃cur,w.heap[g]?=some (.cells cur e))∧(∀k,w.frozen? ⟨g,k,none⟩=false)∧∀k u,xs[k]?=some u→w.cell? ⟨g,k,none⟩=some u:=by
 obtain⟨A,c0,hv,hc,_⟩:=zW h
 rcases h.2 with⟨_,h2⟩|⟨g,cap,cur,rfl,hb,hg,h3,h4,h5,h6⟩
 ·omega
 ·refine⟨g,cap,rfl,hb,za hg,⟨cur,hg⟩,fun k=>zi hg k,fun k u hk=>?_⟩
  rw[cr k hg]
  rw[←h6,List.getElem?_take]at hk
  split at hk
  ·rwa[Array.getElem?_toList]at hk
  ·cases hk
theorem Qw {w:World}{base:Nat}{e:TypeId}{size n g c:Nat}{xs:List Value}(h:w.ownsRow base e size (.slice (some ⟨g,0,none⟩) n c) n xs)(k:Nat)(u:Value):(w.setCell ⟨g,k,none⟩ u).ownsRow base e size (.slice (some ⟨g,0,none⟩) n c) n (xs.set k u):=by
 obtain⟨h1,h2⟩:=h
 refine⟨by rw[List.length_set];exact h1,?_⟩
 rcases h2 with⟨h2,_⟩|⟨g',cap,cur,h2,h3,h4,h5,h6,h7,h8⟩
 ·cases h2
 ·injection h2 with a1 a2 a3; injection a1 with a1; injection a1 with a1; subst a1 a3; refine .inr ⟨g,c,cur.setIfInBounds k u,rfl,h3,zn h4 u,h5,h6,by rw[Array.size_setIfInBounds];exact h7,?_⟩
  rw[Array.toList_setIfInBounds,List.take_set,h8]
section
variable {w:World}{nb base m kn kr:Nat}{cc rc:List Value}{nx:List (List Int)}{cv nv rv:Value}{g:Nat}
theorem vA.types (h:vA w nb base m cc rc nx cv nv rv):(∀k,cv.ownBlock=some k→∃cur,w.heap[k]?=some (.cells cur 145))∧(∀k,nv.ownBlock=some k→∃cur,w.heap[k]?=some (.cells cur 33))∧(∀k,rv.ownBlock=some k→∃cur,w.heap[k]?=some (.cells cur 3)):=by
 obtain⟨vs,h1,_⟩:=h.nxt
 exact⟨zZ h.cls,zZ h1,zZ h.rul⟩
theorem zU {a b:Nat}{cs ds:Array Value}{T U:TypeId}(h:w.heap[a]?=some (.cells cs T))(h':w.heap[b]?=some (.cells ds U))(hT:T≠U):a≠b:=fun he=>by
 subst he
 rw[h]at h'
 injection h' with h'; injection h' with _ h'; exact hT h'
theorem vA.keepB {w':World}{b:Nat}{cs:Array Value}{T:TypeId}(h:vA w nb base m cc rc nx cv nv rv)(hb:w.heap[b]?=some (.cells cs T))(hT:T≠108∧T≠145∧T≠33∧T≠3)(t:zA (fun k=>k=b) w w'):vA w' nb base m cc rc nx cv nv rv:=by
 obtain⟨t1,t2,t3⟩:=h.types
 obtain⟨vs,h1,h2,h3⟩:=h.nxt
 exact⟨t.keep h.blk (fun he=>zU h.blk hb (Ne.symm hT.1) he),h.low,ye h.cls fun k hk=>t.block k (z8 h.cls k hk) (fun he=>by obtain⟨cu,hcu⟩:=t1 k hk;exact zU hcu hb (Ne.symm hT.2.1) he),
  ⟨vs,ye h1 fun k hk=>t.block k (z8 h1 k hk) (fun he=>by obtain⟨cu,hcu⟩:=t2 k hk;exact zU hcu hb (Ne.symm hT.2.2.1) he),h2,fun k u ys hu hy=>(h3 k u ys hu hy).keep t (fun k cs hcs hne hk=>by subst hk;exact zU hcs hb (Ne.symm hT.2.2.2) rfl) _ (fun _ hg=>.inl hg)⟩,
  ye h.rul fun k hk=>t.block k (z8 h.rul k hk) (fun he=>by obtain⟨cu,hcu⟩:=t3 k hk;exact zU hcu hb (Ne.symm hT.2.2.2) he)⟩
theorem vA.setNext (h:vA w nb base m cc rc nx cv (.slice (some ⟨g,0,none⟩) m kn) rv)(a:Nat){v:Value}{xs:List Int}(hi:yN w rv v xs):vA (w.setCell ⟨g,a,none⟩ v) nb base m cc rc (nx.set a xs) cv (.slice (some ⟨g,0,none⟩) m kn) rv:=by
 obtain⟨t1,t2,t3⟩:=h.types
 obtain⟨cur,hcur⟩:=t2 g rfl
 have T:zA (fun k=>k=g) w (w.setCell ⟨g,a,none⟩ v):=zA.set1 g a v
 obtain⟨vs,h1,h2,h3⟩:=h.nxt
 have keep:∀{v:Value} {xs:List Int},yN w rv v xs→yN (w.setCell ⟨g,a,none⟩ _) rv v xs:=fun hi=>hi.keep T (fun k cs hcs _ hk=>by subst hk;exact zU hcs hcur (by decide) rfl) rv (fun _ hg=>.inl hg)
 refine⟨T.keep h.blk (fun he=>zU h.blk hcur (by decide) he),h.low,ye h.cls fun k hk=>T.block k (z8 h.cls k hk) (fun he=>by obtain⟨cu,hcu⟩:=t1 k hk;exact zU hcu hcur (by decide) he),⟨vs.set a v,Qw h1 a v,by rw[List.length_set,List.length_set,h2],fun k u ys hu hy=>?_⟩,
  ye h.rul fun k hk=>T.block k (z8 h.rul k hk) (fun he=>by obtain⟨cu,hcu⟩:=t3 k hk;exact zU hcu hcur (by decide) he)⟩
 by_cases hk:a=k
 ·subst hk; have l1:=(List.getElem?_eq_some_iff.1 hu).1; have l2:=(List.getElem?_eq_some_iff.1 hy).1
  rw[List.length_set]at l1 l2
  rw[List.getElem?_set_self l1]at hu
  rw[List.getElem?_set_self l2]at hy
  injection hu with hu; injection hy with hy; subst hu hy; exact keep hi
 ·rw[List.getElem?_set_ne hk]at hu hy
  exact keep (h3 k u ys hu hy)
theorem vA.setRule (h:vA w nb base m cc rc nx cv nv (.slice (some ⟨g,0,none⟩) m kr))(a:Nat)(v:Value):vA (w.setCell ⟨g,a,none⟩ v) nb base m cc (rc.set a v) nx cv nv (.slice (some ⟨g,0,none⟩) m kr):=by
 obtain⟨t1,t2,t3⟩:=h.types
 obtain⟨cur,hcur⟩:=t3 g rfl
 have T:zA (fun k=>k=g) w (w.setCell ⟨g,a,none⟩ v):=zA.set1 g a v
 obtain⟨vs,h1,h2,h3⟩:=h.nxt
 exact⟨T.keep h.blk (fun he=>zU h.blk hcur (by decide) he),h.low,ye h.cls fun k hk=>T.block k (z8 h.cls k hk) (fun he=>by obtain⟨cu,hcu⟩:=t1 k hk;exact zU hcu hcur (by decide) he),
  ⟨vs,ye h1 fun k hk=>T.block k (z8 h1 k hk) (fun he=>by obtain⟨cu,hcu⟩:=t2 k hk;exact zU hcu hcur (by decide) he),h2,fun k u ys hu hy=>(h3 k u ys hu hy).keep T (fun k cs hcs hne hk=>by subst hk;exact hne rfl) _ (fun _ hg=>.inl hg)⟩,Qw h.rul a v⟩
end
theorem zdH:(Tryz.prog.info? 4).map (fun i=>(i.zero,i.size,i.bytes))=some (some (.bool false),1,1):=by kernel_rfl
theorem jk (w:World)(n:Nat)(m:Int)(hm:m=n)(hn:n≤1000000):
 (Instr.makeSlice 121 (.int .i64 m) (.int .i64 m)).run Tryz.prog w=.ok (.slice (some ⟨w.heap.size,0,none⟩) n n) (w.alloc (.cells (madeCells #[.bool false] n) 4)):=by
 subst hm
 obtain⟨i3,hi,hz0,hz1,hz2⟩:=info_parts zdH
 have h:=run_makeSlice (P:=Tryz.prog) w 121 4 i3 (.bool false) Tryz.underlying121 hi hz0 .i64 .i64 (n:Int) (n:Int) (by omega) (by omega) (by rw[hz1];omega) (by rw[hz2];omega) (by omega)
 rw[hz1,Int.toNat_natCast,Nat.mul_one]at h
 exact h
theorem VW (w:World)(n:Nat)(m:Int)(hm:m=n)(hn:n≤1000000):
 (Instr.makeSlice 33 (.int .i64 m) (.int .i64 m)).run Tryz.prog w=.ok (.slice (some ⟨w.heap.size,0,none⟩) n n) (w.alloc (.cells (madeCells #[.int .i64 0] n) 3)):=by
 subst hm
 obtain⟨i3,hi,hz0,hz1,hz2⟩:=info_parts Yd
 have h:=run_makeSlice (P:=Tryz.prog) w 33 3 i3 (.int .i64 0) Tryz.underlying33 hi hz0 .i64 .i64 (n:Int) (n:Int) (by omega) (by omega) (by rw[hz1];omega) (by rw[hz2];omega) (by omega)
 rw[hz1,Int.toNat_natCast,Nat.mul_one]at h
 exact h
theorem Y4 (v:Value)(n:Nat):(madeCells #[v] n).toList=List.replicate n v:=by
 apply List.ext_getElem?
 intro i
 rw[Array.getElem?_toList]
 by_cases h:i < n
 ·rw[List.getElem?_replicate_of_lt h]
  simp[madeCells,h,Nat.mod_one]
 ·rw[List.getElem?_eq_none (by simp;omega),Array.getElem?_eq_none (by simp[madeCells];omega)]
theorem zbk {w:World}{T:TypeId}{v:Value}{n g base:Nat}(h:w.heap[g]?=some (.cells (madeCells #[v] n) T))(hb:base≤g)(hn:n≤1000000):w.ownsRow base T 1 (.slice (some ⟨g,0,none⟩) n n) n (List.replicate n v):=
 ⟨by simp,.inr ⟨g,n,_,rfl,hb,h,Nat.le_refl _,by unfold maxLen;omega,by simp[madeCells],by
   rw[Y4,Nat.mul_one,List.take_of_length_le (by simp)]⟩⟩
def jE (w:World)(base g n:Nat)(xs:List Int):Prop:=xs.length=n∧w.ownsRow base 3 1 (.slice (some ⟨g,0,none⟩) n n) n (iv xs)
theorem jE.ext {w w':World}{base g n:Nat}{xs:List Int}(h:jE w base g n xs)(e:Ext w w'):jE w' base g n xs:=⟨h.1,yv h.2 e⟩
theorem jE.made {w:World}{base g n:Nat}(h:w.heap[g]?=some (.cells (madeCells #[.int .i64 0] n) 3))(hb:base≤g)(hn:n≤1000000):jE w base g n (List.replicate n 0):=
 ⟨by simp,by
   have:=zbk h hb hn
   rwa[show iv (List.replicate n 0)=List.replicate n (Value.int .i64 0)by simp[iv]]⟩
theorem jE.obj {w:World}{base g n:Nat}{xs:List Int}(h:jE w base g n xs):∃cur,w.heap[g]?=some (.cells cur 3):=zZ h.2 g rfl
theorem jE.low {w:World}{base g n:Nat}{xs:List Int}(h:jE w base g n xs):base≤g:=zV h.2 g rfl
theorem jE.lt {w:World}{base g n:Nat}{xs:List Int}(h:jE w base g n xs):g < w.heap.size:=by
 obtain⟨cur,hc⟩:=h.obj
 exact za hc
theorem jE.get {w:World}{base g n k:Nat}{xs:List Int}{x:Int}(h:jE w base g n xs)(hk:xs[k]?=some x):w.cell? ⟨g,k,none⟩=some (.int .i64 x):=by
 have hlt:=(List.getElem?_eq_some_iff.1 hk).1
 obtain⟨g',c,hv,_,_,_,_,hc⟩:=qw h.2 (by have:=h.1;omega)
 injection hv with hv; injection hv with hv; injection hv with hv; subst hv; exact hc k _ (by rw[iv,List.getElem?_map,hk];rfl)
theorem jE.frozen {w:World}{base g n:Nat}{xs:List Int}(h:jE w base g n xs)(k:Nat):w.frozen? ⟨g,k,none⟩=false:=by
 obtain⟨cur,hc⟩:=h.obj
 exact zi hc k
theorem jE.put {w:World}{base g n:Nat}{xs:List Int}(h:jE w base g n xs)(k:Nat)(x:Int):jE (w.setCell ⟨g,k,none⟩ (.int .i64 x)) base g n (xs.set k x):=
 ⟨by rw[List.length_set];exact h.1,by
   have:=Qw h.2 k (.int .i64 x)
   rwa[show iv (xs.set k x)=(iv xs).set k (.int .i64 x)by simp[iv]]⟩
def yQ (w:World)(base g n:Nat)(bs:List Bool):Prop:=bs.length=n∧w.ownsRow base 4 1 (.slice (some ⟨g,0,none⟩) n n) n (bs.map Value.bool)
theorem yQ.ext {w w':World}{base g n:Nat}{xs:List Bool}(h:yQ w base g n xs)(e:Ext w w'):yQ w' base g n xs:=⟨h.1,yv h.2 e⟩
theorem yQ.made {w:World}{base g n:Nat}(h:w.heap[g]?=some (.cells (madeCells #[.bool false] n) 4))(hb:base≤g)(hn:n≤1000000):yQ w base g n (List.replicate n false):=
 ⟨by simp,by
   have:=zbk h hb hn
   rwa[show(List.replicate n false).map Value.bool=List.replicate n (Value.bool false)by simp]⟩
theorem yQ.obj {w:World}{base g n:Nat}{xs:List Bool}(h:yQ w base g n xs):∃cur,w.heap[g]?=some (.cells cur 4):=zZ h.2 g rfl
theorem yQ.low {w:World}{base g n:Nat}{xs:List Bool}(h:yQ w base g n xs):base≤g:=zV h.2 g rfl
theorem yQ.lt {w:World}{base g n:Nat}{xs:List Bool}(h:yQ w base g n xs):g < w.heap.size:=by
 obtain⟨cur,hc⟩:=h.obj
 exact za hc
theorem yQ.get {w:World}{base g n k:Nat}{xs:List Bool}{x:Bool}(h:yQ w base g n xs)(hk:xs[k]?=some x):w.cell? ⟨g,k,none⟩=some (.bool x):=by
 have hlt:=(List.getElem?_eq_some_iff.1 hk).1
 obtain⟨g',c,hv,_,_,_,_,hc⟩:=qw h.2 (by have:=h.1;omega)
 injection hv with hv; injection hv with hv; injection hv with hv; subst hv; exact hc k _ (by rw[List.getElem?_map,hk];rfl)
theorem yQ.frozen {w:World}{base g n:Nat}{xs:List Bool}(h:yQ w base g n xs)(k:Nat):w.frozen? ⟨g,k,none⟩=false:=by
 obtain⟨cur,hc⟩:=h.obj
 exact zi hc k
theorem yQ.put {w:World}{base g n:Nat}{xs:List Bool}(h:yQ w base g n xs)(k:Nat)(x:Bool):yQ (w.setCell ⟨g,k,none⟩ (.bool x)) base g n (xs.set k x):=
 ⟨by rw[List.length_set];exact h.1,by
   have:=Qw h.2 k (.bool x)
   rwa[show(xs.set k x).map Value.bool=(xs.map Value.bool).set k (.bool x)by simp]⟩
structure Qh (w:World)(cv nv rv:Value)(cs:List Cl)(nx:List (List Int))(rl:List Int):Prop where
 cls:∃A c,cv=.slice A cs.length c∧yI w A (cs.flatMap Cl.cells)∧cs.length≤c
 nxt:∃A c vs,nv=.slice A cs.length c∧yI w A vs∧vs.length=nx.length∧cs.length≤c∧∀(k:Nat) (v:Value) (xs:List Int),vs[k]?=some v→nx[k]?=some xs→∃D d,v=.slice D xs.length d∧xW w D xs∧xs.length≤d
 rul:∃A c,rv=.slice A cs.length c∧xW w A rl∧cs.length≤c
 len:nx.length=cs.length∧rl.length=cs.length
theorem vA.rd {w:World}{nb base m:Nat}{cc rc:List Value}{nx:List (List Int)}{cv nv rv:Value}{cls:List Cl}{rl:List Int}(h:vA w nb base m cc rc nx cv nv rv)(hc:cc=cls.flatMap Cl.cells)(hr:rc=iv rl)(hm:cls.length=m)(hn:nx.length=m):Qh w cv nv rv cls nx rl:=by
 subst hc hr
 obtain⟨A,c,h1,h2,h3,_⟩:=zW h.cls
 obtain⟨vs,hv,hvl,hvi⟩:=h.nxt
 obtain⟨B,d,k1,k2,k3,_⟩:=zW hv
 have hrl:rl.length=m:=by have:=h.rul.1;rw[qX]at this;omega
 obtain⟨C,e,j1,j2,j3,_⟩:=zW h.rul
 have hi:vr w base C e rl:=by
  have:=h.rul
  rw[j1,←hrl]at this
  exact this
 exact⟨⟨A,c,by rw[hm];exact h1,h2,by omega⟩,⟨B,d,vs,by rw[hm];exact k1,k2,hvl,by omega,fun k v xs hk hx=>by
  obtain⟨D,dd,a1,a2,a3,_⟩:=hvi k v xs hk hx
  exact⟨D,dd,a1,a2,a3⟩⟩,⟨C,e,by rw[hm];exact j1,hi.ints.1,by omega⟩,by omega,by omega⟩
theorem zju {w:World}{f:Nat}{x:Int}(h:w.heap[f]?=some (.cells #[.int .i64 x] 3)):xW w (some ⟨f,0,none⟩) [x]:=fun _=>⟨f,0,rfl,za h,fun k hk=>by
 obtain rfl:k=0:=by simpa using hk
 exact(cr 0 h).trans (by simp)⟩
theorem Qh.ext {w w':World}{cv nv rv:Value}{cs:List Cl}{nx:List (List Int)}{rl:List Int}(h:Qh w cv nv rv cs nx rl)(e:Ext w w'):Qh w' cv nv rv cs nx rl:=by
 obtain⟨⟨A,c,h1,h2,h3⟩,⟨B,d,vs,k1,k2,k3,k4,k5⟩,⟨C,u,j1,j2,j3⟩,hl⟩:=h
 exact⟨⟨A,c,h1,h2.ext e,h3⟩,⟨B,d,vs,k1,k2.ext e,k3,k4,fun k v xs hv hx=>by
  obtain⟨D,dd,a1,a2,a3⟩:=k5 k v xs hv hx
  exact⟨D,dd,a1,a2.ext e,a3⟩⟩,⟨C,u,j1,j2.ext e,j3⟩,hl⟩
theorem xW.get {w:World}{A:Option Addr}{xs:List Int}(h:xW w A xs)(h0:0 < xs.length):∃b off,A=some ⟨b,off,none⟩∧b < w.heap.size∧∀(k:Nat) (x:Int),xs[k]?=some x→w.cell? ⟨b,off+k,none⟩=some (.int .i64 x):=by
 obtain⟨b,off,h1,h2,h3⟩:=h h0
 refine⟨b,off,h1,h2,fun k x hx=>?_⟩
 have hk:=(List.getElem?_eq_some_iff.1 hx).1
 rw[h3 k hk,List.getD_eq_getElem?_getD,hx]
 rfl
theorem qW {cs:List Cl}{x:Nat}(h:x < cs.length){q:Nat}{v:Value}(hv:((cs.getD x Cl.zero).cells)[q]?=some v)(hq:q < 4):(cs.flatMap Cl.cells)[x*4+q]?=some v:=by
 induction cs generalizing x with
 |nil=>simp at h
 |cons c cs ih=>
  rw[List.flatMap_cons]
  rcases Nat.eq_zero_or_pos x with rfl|h0
  ·rw[List.getElem?_append_left (by show _ < c.cells.length;unfold Cl.cells;simp;omega)]
   simpa using hv
  ·rw[List.getElem?_append_right (by show c.cells.length≤_;unfold Cl.cells;simp;omega)]
   have:x*4+q - c.cells.length=(x - 1)*4+q:=by unfold Cl.cells;simp;omega
   rw[this]
   refine ih (by simp at h;omega) ?_
   rw[←hv]
   congr 2
   obtain⟨y,rfl⟩:∃y,x=y+1:=⟨x - 1,by omega⟩
   simp
theorem zbz (cs:List Cl):(cs.flatMap Cl.cells).length=cs.length*4:=by
 induction cs with
 |nil=>rfl
 |cons c cs ih=>
  rw[List.flatMap_cons,List.length_append,ih,List.length_cons]
  show 4+_=_; omega
theorem zbI:(Tryz.prog.info? 5).map (fun i=>(i.zero,i.size,i.bytes))=some (some (.int .u8 0),1,1):=by kernel_rfl
end Go.Proofs.YtmbelmngniddjaaGreat
namespace Go.Proofs.YtmbelmngniddjaaGreat
open Go.RowKit Go.Maps
attribute [local go_sem] zF zB zI zJ zw zt zN zD zX zQ zK zP zO zL zT zR zS zG zM zC
theorem jZ:Keyed Tryz.prog 9:=string_keyed Tryz.underlying9
theorem zbm (w:World):(zeroValue 3).run Tryz.prog w=.ok (.int .i64 0) w:=by kernel_rfl
theorem Vy {x:Int}(h1:-9223372036854775808≤x)(h2:x≤9223372036854775807):(Lit.int .i64 x).wf=true:=by
 simp[Lit.wf,IntKind.min,IntKind.max,IntKind.signed,IntKind.bits]
 omega
def QV (w:World)(b n:Nat)(f:List UInt8→Option Int):Prop:=
 ∃D:DataW Unit,w.ownsMap Tryz.prog 9 (plainElem Tryz.prog 3) b n D∧IsMap D∧∀x:List UInt8,has D (.string x)=(f x).isSome∧D.atKey (.string x) (.lit (.int .i64 0))=.lit (.int .i64 ((f x).getD 0))
theorem QV.made (w:World):QV (w.alloc (.map #[] 0)) w.heap.size 0 fun _=>none:=⟨.map [],World.ownsMap_made _ _ _ _,isMap_empty,fun _=>⟨rfl,rfl⟩⟩
theorem QV.keep {w w':World}{b n:Nat}{f:List UInt8→Option Int}{S:Nat→Prop}(h:QV w b n f)(t:zA S w w')(hS:¬S b):QV w' b n f:=by
 obtain⟨D,⟨es,cl,h1,h3⟩,h2⟩:=h
 exact⟨D,⟨es,cl,(t.block b (za h1) hS).trans h1,h3⟩,h2⟩
theorem QV.ext {w w':World}{b n:Nat}{f:List UInt8→Option Int}(h:QV w b n f)(e:Ext w w'):QV w' b n f:=by
 obtain⟨D,⟨es,cl,h1,h3⟩,h2⟩:=h
 exact⟨D,⟨es,cl,zb h1 e,h3⟩,h2⟩
theorem QV.obj {w:World}{b n:Nat}{f:List UInt8→Option Int}(h:QV w b n f):∃es cl,w.heap[b]?=some (.map es cl):=by
 obtain⟨D,⟨es,cl,h1,h3⟩,h2⟩:=h
 exact⟨es,cl,h1⟩
theorem QV.ne {w:World}{b n g:Nat}{f:List UInt8→Option Int}{cs:Array Value}{T:TypeId}(h:QV w b n f)(hg:w.heap[g]?=some (.cells cs T)):b≠g:=by
 obtain⟨es,cl,h1⟩:=h.obj
 rintro rfl
 rw[h1]at hg
 cases hg
set_option maxRecDepth 100000 in
theorem QV.look {w:World}{b n:Nat}{f:List UInt8→Option Int}(h:QV w b n f)(s:ByteArray)(hs:s.size≤maxLen):
 (Instr.lookup 154 (.map (some b)) (.string s) true).run Tryz.prog w=.ok (.tuple #[.int .i64 ((f s.data.toList).getD 0),.bool (f s.data.toList).isSome]) w:=by
 obtain⟨D,h3,_,h4⟩:=h
 obtain⟨v,ps,hrun,hv⟩:=h3.look_ok jZ Tryz.underlying154 (zbm w) (plainElem_int Tryz.underlying3 (Vy (by omega) (by omega))) (WideMaps.keyOf_string_mk (P:=Tryz.prog) Tryz.underlying9 hs)
 obtain⟨c,rfl,hc,hwc⟩:=plainElem_int_inv Tryz.underlying3 hv
 simp only[Prod.mk.injEq]at hc
 have h5:=hc.1
 rw[(h4 _).2]at h5
 injection h5 with h5; injection h5 with _ h5
 rw[hrun,h5,(h4 _).1]
set_option maxRecDepth 100000 in
theorem QV.put {w:World}{b n:Nat}{f:List UInt8→Option Int}(h:QV w b n f)(hn:n≤1000000000)(s:ByteArray)(hs:s.size≤maxLen)(u:Int)(h1:-9223372036854775808≤u)(h2:u≤9223372036854775807):
 ∃w',(Instr.mapUpdate 154 (.map (some b)) (.string s) (.int .i64 u)).run Tryz.prog w=.ok () w'∧QV w' b (n+1) (fun y=>if y=s.data.toList then some u else f y)∧zA (fun i=>i=b) w w':=by
 obtain⟨D,h5,h6,h7⟩:=h
 have hn2:n < maxLen:=Nat.lt_of_le_of_lt hn (by unfold maxLen;decide)
 obtain⟨w',hrun,ho,hgr⟩:=h5.update jZ Tryz.underlying154 hn2 (WideMaps.keyOf_string_mk (P:=Tryz.prog) Tryz.underlying9 hs) (plainElem_int Tryz.underlying3 (Vy h1 h2))
 refine⟨w',hrun,⟨_,ho,h6.put _ _,fun y=>?_⟩,zA.grown hgr fun i hi _=>by injection hi with hi;exact hi.symm⟩
 dsimp only; by_cases hy:y=s.data.toList
 ·subst hy
  rw[if_pos rfl]
  exact⟨(has_put_same h6 (by trivial) _).trans rfl,atKey_put_same h6 (by trivial) _ _⟩
 ·rw[if_neg hy]
  exact⟨(has_put_other (fun he=>hy (by injection he)) _).trans (h7 y).1,(atKey_put_other (fun he=>hy (by injection he)) _ _).trans (h7 y).2⟩
def Zi (w:World)(nv rv:Value)(nl rl:List Int):Prop:=(∃A c,nv=.slice A nl.length c∧xW w A nl∧nl.length≤c)∧∃B d,rv=.slice B rl.length d∧xW w B rl∧rl.length≤d
theorem Zi.ext {w w':World}{nv rv:Value}{nl rl:List Int}(h:Zi w nv rv nl rl)(e:Ext w w'):Zi w' nv rv nl rl:=by
 obtain⟨⟨A,c,h1,h2,h3⟩,B,d,k1,k2,k3⟩:=h
 exact⟨⟨A,c,h1,h2.ext e,h3⟩,B,d,k1,k2.ext e,k3⟩
def j6 (w:World)(X:Nat→Prop)(v:Value)(xs:List Int):Prop:=∃A c,v=.slice A xs.length c∧xW w A xs∧xs.length≤c∧∀g off s,A=some ⟨g,off,s⟩→(∃cs,w.heap[g]?=some (.cells cs 3))∧¬X g
theorem j6.keep {w w':World}{X X' S:Nat→Prop}{v:Value}{xs:List Int}(h:j6 w X v xs)(t:zA S w w')(hS:∀g cs,w.heap[g]?=some (.cells cs 3)→¬X g→¬S g)(hx:∀g,X' g→X g∨w.heap.size≤g):j6 w' X' v xs:=by
 obtain⟨A,c,hv,hi,h1,h4⟩:=h
 refine⟨A,c,hv,fun h0=>?_,h1,fun g off s hA=>?_⟩
 ·obtain⟨b,off,hA,hb,hc⟩:=hi h0
  obtain⟨⟨cs,hcs⟩,hne⟩:=h4 b off none hA
  have hk:=t.block b hb (hS b cs hcs hne)
  exact⟨b,off,hA,Nat.lt_of_lt_of_le hb t.size,fun k hk2=>(World.cell?_of_block (w:=w) (a:=⟨b,off+k,none⟩) hk).trans (hc k hk2)⟩
 ·obtain⟨⟨cs,hcs⟩,hne⟩:=h4 g off s hA
  refine⟨⟨cs,t.keep hcs (hS g cs hcs hne)⟩,fun hh=>?_⟩
  rcases hx g hh with h|h
  ·exact hne h
  ·have:=za hcs;omega
theorem j6.ext {w w':World}{X:Nat→Prop}{v:Value}{xs:List Int}(h:j6 w X v xs)(e:Ext w w'):j6 w' X v xs:=h.keep (zA.of_ext (S:=fun _=>False) e) (fun _ _ _ _ h=>h) (fun _ h=>.inl h)
def two (nv rv:Value)(g:Nat):Prop:=nv.ownBlock=some g∨rv.ownBlock=some g
structure Bd (w:World)(base db p:Nat)(ss:List Nat)(nv rv sv:Value)(nl rl:List Int):Prop where
 blk:w.heap[db]?=some (.cells #[nv,rv] 35)
 low:base≤db
 nxt:xj w base nv nl
 rul:xj w base rv rl
 apart:∀g,nv.ownBlock=some g→rv.ownBlock≠some g
 sets:∃vs,w.ownsRow base 33 1 sv p vs∧∀(j:Nat) (v:Value) (t:Nat),vs[j]?=some v→ss[j]?=some t→j6 w (two nv rv) v [(t:Int)]
section
variable {w w':World}{base db p:Nat}{ss:List Nat}{nv rv sv:Value}{nl rl:List Int}
theorem Bd.ne_int {g:Nat}{cs:Array Value}(h:w.heap[db]?=some (.cells #[nv,rv] 35))(hg:w.heap[g]?=some (.cells cs 3)):g≠db:=zU hg h (by decide)
theorem xF {w w':World}{b:Nat}{cs0:Array Value}{T:TypeId}(hb:w.heap[b]?=some (.cells cs0 T))(t:zA (fun k=>k=b) w w'){base:Nat}{e:TypeId}{size n:Nat}{v:Value}{xs:List Value}(hr:w.ownsRow base e size v n xs)(he:T≠e):w'.ownsRow base e size v n xs:=
 ye hr fun k hk=>t.block k (z8 hr k hk) (fun hkb=>by
  subst hkb
  obtain⟨cur,hcur⟩:=zZ hr _ hk
  exact zU hb hcur he rfl)
end
def tv (k:Option Nat):Int:=match k with|none=>-1|some k=>k
structure EdL (w0:World)(gs:List Nat) where
 V:World
 same:∀k∈gs,V.heap[k]?=w0.heap[k]?
instance edLNonempty (w0:World)(gs:List Nat):Nonempty (EdL w0 gs):=⟨⟨w0,fun _ _=>rfl⟩⟩
theorem EdL.cell {w0:World}{gs:List Nat}(x:EdL w0 gs){g k:Nat}{v:Value}(hg:g∈gs)(h:w0.cell? ⟨g,k,none⟩=some v):x.V.cell? ⟨g,k,none⟩=some v:=
 (World.cell?_of_block (w:=w0) (a:=⟨g,k,none⟩) (x.same g hg)).trans h
theorem EdL.lt {w0:World}{gs:List Nat}(x:EdL w0 gs){g:Nat}(hg:g∈gs)(h:g < w0.heap.size):g < x.V.heap.size:=by
 have:=x.same g hg
 rw[Array.getElem?_eq_getElem h]at this
 exact za this
theorem Jd {w0 w1 V:World}{gs:List Nat}(h:∀k∈gs,w1.heap[k]?=w0.heap[k]?)(e:Ext w1 V)(hl:∀k∈gs,k < w1.heap.size):∃x:EdL w0 gs,V=x.V:=⟨⟨V,fun k hk=>(e.below.block _ (hl k hk)).trans (h k hk)⟩,rfl⟩
end Go.Proofs.YtmbelmngniddjaaGreat
namespace Go.Proofs.YtmbelmngniddjaaGreat
open Go.RowKit
attribute [local go_sem] zF zB zI zJ zw zt zN zD zX zQ zK zP zO zL zT zR zS zG zM zC
structure YK (nl rl:List Int):Prop where
 one:0 < rl.length
 most:rl.length≤512
 len:nl.length=256*rl.length
 rule:∀r∈rl,-1≤r∧r < 16
 next:∀x∈nl,-1≤x∧x < rl.length
set_option maxRecDepth 100000 in
set_option maxHeartbeats 4000000 in
theorem ZA (nv rv:Value)(nl rl:List Int)(w:World)(hN:Zi w nv rv nl rl)(hO:YK nl rl):
 Calls Tryz.prog 86 #[.agg #[nv,rv]] w fun e w'=>e=.returned (.int .i64 0)∧Ext w w':=by
 obtain⟨W,hW⟩:∃W,w.alloc (.cells #[nv,rv] 35)=W:=⟨_,rfl⟩
 obtain⟨g0,hg0⟩:∃b,w.heap.size=b:=⟨_,rfl⟩
 have X1:Ext w W:=by rw[←hW];exact xi
 have B1:W.heap[g0]?=some (.cells #[nv,rv] 35):=by rw[←hW,←hg0];exact heap_alloc_new _ _
 obtain⟨⟨A,c,hnv,hA,_⟩,B,d,hrv,hB,_⟩:=hN
 have h1:=hO.one; have h2:=hO.most
 obtain⟨ga,oa,rfl,lga,hac⟩:=(hA.ext X1).get (by rw[hO.len];omega)
 obtain⟨gr,orr,rfl,lgr,hrc⟩:=(hB.ext X1).get h1
 obtain⟨m,hmm⟩:∃m,rl.length=m:=⟨_,rfl⟩
 have b0:=cr 0 B1; have b1:=cr 1 B1; have lb:=za B1
 rw[hnv,hO.len,hmm]at b0
 rw[hrv,hmm]at b1
 rw[hmm]at h1 h2
 simp at b0 b1
 have d0:decide ((m:Int) < 1)=false:=by simp;omega
 have d2:decide (512 < (m:Int))=false:=by simp;omega
 have d5:((256*m:Nat):Int)=256*(m:Int):=by omega
 have HX:=zh X1; have HO:=zh hO; have HM:=zh hmm; have HE:Hid (∀wr,Ext W wr→wr.cell? ⟨g0,0,none⟩=some (.slice (some ⟨ga,oa,none⟩) (256*m) c)∧wr.cell? ⟨g0,1,none⟩=some (.slice (some ⟨gr,orr,none⟩) m d)∧g0 < wr.heap.size∧ga < wr.heap.size∧gr < wr.heap.size):=zh (fun wr e=>⟨zy b0 lb e,zy b1 lb e,Nat.lt_of_lt_of_le lb e.size,Nat.lt_of_lt_of_le lga e.size,Nat.lt_of_lt_of_le lgr e.size⟩); have HR:Hid (∀wr,Ext W wr→∀i,i < m→∃r:Int,-1≤r∧r < 16∧wr.cell? ⟨gr,orr+i,none⟩=some (.int .i64 r)):=zh (fun wr e i hi=>by
  have hlt:i < rl.length:=by omega
  obtain⟨h3,h4⟩:=hO.rule rl[i] (List.getElem_mem hlt)
  exact⟨rl[i],h3,h4,zy (hrc i _ (List.getElem?_eq_getElem hlt)) lgr e⟩)
 have HT:Hid (∀wr,Ext W wr→∀i,i < 256*m→∃r:Int,-1≤r∧r < m∧wr.cell? ⟨ga,oa+i,none⟩=some (.int .i64 r)):=zh (fun wr e i hi=>by
  have hlt:i < nl.length:=by rw[hO.len];omega
  obtain⟨h3,h4⟩:=hO.next nl[i] (List.getElem_mem hlt)
  exact⟨nl[i],h3,by omega,zy (hac i _ (List.getElem?_eq_getElem hlt)) lga e⟩)
 clear hO hnv hrv hA hB hrc hac hmm B1 X1; go_in
 go_wp2_with fail; clear b0 b1 lb lga lgr hW hg0; go_loopw [4] (fun i wr=>∃k:Nat,k≤m∧i=.int .i64 k∧Hid (Ext W wr)) (fun i _=>m - (intOf i).toNat)
 case atStart=>exact⟨0,Nat.zero_le _,rfl,zh xi⟩
 case round=>
  obtain⟨k,hk,rfl,hx1⟩:=hrel
  obtain⟨e1,e2,l0,lb,lr⟩:=HE.out _ hx1.out
  by_cases hlt:k < m
  ·obtain⟨r,hr1,hr2,x0⟩:=HR.out _ hx1.out k hlt
   have q1:decide (r < -1)=false:=by simp;omega
   have q2:decide (16≤r)=false:=by simp;omega
   go_wp2_with fail; go_roundw
   case rel=>exact⟨k+1,by omega,by go_num,zh (hx1.out.trans xi)⟩
   case measure=>simp[intOf];omega
  ·go_wp2_with fail; clear e1 e2 l0 lb lr; go_loopw [5] (fun i w2=>∃j:Nat,j≤256*m∧i=.int .i64 j∧Hid (Ext W w2)) (fun i _=>256*m - (intOf i).toNat)
   case atStart=>exact⟨0,Nat.zero_le _,rfl,zh (hx1.out.trans xi)⟩
   case round=>
    obtain⟨j,hj,rfl,hx3⟩:=hrel
    obtain⟨e1,e2,l0,lb,lr⟩:=HE.out _ hx3.out
    by_cases hlj:j < 256*m
    ·obtain⟨r,hr1,hr2,x0⟩:=HT.out _ hx3.out j hlj
     have q1:decide (r < -1)=false:=by simp;omega
     have q2:decide ((m:Int)≤r)=false:=by simp;omega
     go_wp2_with fail; go_roundw
     case rel=>exact⟨j+1,by omega,by go_num,zh (hx3.out.trans xi)⟩
     case measure=>simp[intOf];omega
    ·go_wp2_with fail; go_ret
     exact⟨rfl,HX.out.trans hx3.out⟩
def vj (s:ByteArray)(i:Nat):Nat:=(s[i]?.getD 0).toNat
def mun (nl rl:List Int)(s:ByteArray):Nat→Nat→Nat→Int→Int→Int×Int×Int
 |0,i,_,r,t=>(r,t,(i:Int)+1)
 |f+1,i,st,r,t=>
  if i=s.size then(r,t,(i:Int)+1)
  else if nl.getD (256*st+vj s i) 0 < 0 then(r,t,(i:Int)+1)
  else if 0≤rl.getD (nl.getD (256*st+vj s i) 0).toNat 0 then mun nl rl s f (i+1) (nl.getD (256*st+vj s i) 0).toNat (rl.getD (nl.getD (256*st+vj s i) 0).toNat 0) ((i:Int)+1)
  else mun nl rl s f (i+1) (nl.getD (256*st+vj s i) 0).toNat r t
def xT (nl rl:List Int)(s:ByteArray)(p:Nat):Int×Int×Int:=mun nl rl s (s.size+1 - p) p 0 (-1) ((p:Int)+1)
set_option maxRecDepth 100000 in
set_option maxHeartbeats 4000000 in
theorem zfI (nv rv:Value)(nl rl:List Int)(s:ByteArray)(w:World)(hN:Zi w nv rv nl rl)(hO:YK nl rl):
 Calls Tryz.prog 99 #[.agg #[nv,rv],.string s,.int .i64 s.size] w fun e w'=>e=.returned (.tuple #[.agg #[.int .i64 0,.int .i64 0,.int .i64 0,.int .i64 0],.bool false])∧Ext w w':=by
 obtain⟨g0,hg0⟩:∃b,w.heap.size=b:=⟨_,rfl⟩
 obtain⟨W,hW⟩:∃W,(w.alloc (.cells #[nv,rv] 35)).alloc (.cells #[.int .i64 0,.int .i64 0,.int .i64 0,.int .i64 0] 170)=W:=⟨_,rfl⟩
 have X1:Ext w W:=by rw[←hW];exact xi
 have B1:W.heap[g0]?=some (.cells #[nv,rv] 35):=by rw[←hW,←hg0];exact(by simp only[zm,World.size_alloc];(repeat(split;(first|rfl|(exfalso;omega))));(try(first|(exfalso;omega)|simp_all)))
 have R1:W.heap[g0+1]?=some (.cells #[.int .i64 0,.int .i64 0,.int .i64 0,.int .i64 0] 170):=by rw[←hW,←hg0];exact(by simp only[zm,World.size_alloc];(repeat(split;(first|rfl|(exfalso;omega))));(try(first|(exfalso;omega)|simp_all)))
 have b0:=cr 0 B1; have b1:=cr 1 B1; have lb:=za B1; simp at b0 b1
 have HCK:=zh (ZA nv rv nl rl W (hN.ext X1) hO); have HX:=zh X1; have HR1:=zh R1; have HG0:=zh hg0; clear hN hO X1 B1 R1; go_in
 go_wp2_with fail; try simp only[hg0]
 refine HCK.out.mono ?_; rintro e W2 ⟨rfl,hx2⟩; have R2:=zb HR1.out hx2; have r0:=cr 0 R2; have r1:=cr 1 R2; have r2:=cr 2 R2; have r3:=cr 3 R2; have ff:=fun k=>zi R2 k; have P:=yE R2 (.int .i64 0) (.int .i64 0) (.int .i64 0) (.int .i64 0)
 obtain⟨W3,hW3⟩:∃W3,yX W2 (g0+1) (.int .i64 0) (.int .i64 0) (.int .i64 0) (.int .i64 0)=W3:=⟨_,rfl⟩
 have HX3:Hid (Ext w W3):=zh (by rw[←hW3];exact(yg (S:=fun k=>k=g0+1) rfl _ _ _ _).ext (HX.out.trans hx2) (fun k hk=>by have:=HG0.out;omega))
 rw[hW3]at P
 have e0:=cr 0 P; have e1:=cr 1 P; have e2:=cr 2 P; have e3:=cr 3 P; simp at r0 r1 r2 r3 e0 e1 e2 e3
 unfold yX y8 put2 at hW3; clear b0 b1 lb R2 P hx2 hW hg0 HCK; go_wp2_with fail; exact bodyPost_ret (v:=.tuple #[.agg #[.int .i64 0,.int .i64 0,.int .i64 0,.int .i64 0],.bool false]) (by simp[results,Tryz.results99,go_sem, *]) rfl ⟨rfl,HX3.out⟩
def ziW (w:World)(p:Nat)(q:Int×Int×Int)(e:Ending)(w':World):Prop:=e=.returned (.tuple #[.agg #[.int .i64 q.1,.int .i64 p,.int .i64 q.2.1,.int .i64 q.2.2],.bool true])∧Ext w w'
theorem zii {w:World}{b:Nat}{T:TypeId}{a0 a1 a2 a3:Value}(h:w.heap[b]?=some (.cells #[a0,a1,a2,a3] T))(v0 v2:Value):((w.setCell ⟨b,0,none⟩ v0).setCell ⟨b,2,none⟩ v2).heap[b]?=some (.cells #[v0,a1,v2,a3] T):=zn (zn h _) _
theorem zgr (nl rl:List Int)(s:ByteArray)(i st:Nat)(r t:Int)(hi:i < s.size){x:Int}(hx:nl.getD (256*st+vj s i) 0=x):mun nl rl s (s.size+1 - i) i st r t=if x < 0 then(r,t,(i:Int)+1)else if 0≤rl.getD x.toNat 0 then mun nl rl s (s.size+1 - (i+1)) (i+1) x.toNat (rl.getD x.toNat 0) ((i:Int)+1)else mun nl rl s (s.size+1 - (i+1)) (i+1) x.toNat r t:=by
 obtain⟨f,hf⟩:∃f,s.size+1 - i=f+1:=⟨s.size - i,by omega⟩
 have hf2:s.size+1 - (i+1)=f:=by omega
 rw[hf,hf2]
 show(if i=s.size then _ else _)=_
 rw[if_neg (by omega),hx]
theorem zh0 (nl rl:List Int)(s:ByteArray)(st:Nat)(r t:Int):mun nl rl s (s.size+1 - s.size) s.size st r t=(r,t,(s.size:Int)+1):=by
 have:s.size+1 - s.size=0+1:=by omega
 rw[this]
 show(if s.size=s.size then _ else _)=_
 rw[if_pos rfl]
set_option maxRecDepth 100000 in
set_option maxHeartbeats 4000000 in
theorem ziz (nv rv:Value)(nl rl:List Int)(s:ByteArray)(p:Nat)(w:World)(hN:Zi w nv rv nl rl)(hO:YK nl rl)(hp:p < s.size)(hs:s.size≤1000000):
 Calls Tryz.prog 99 #[.agg #[nv,rv],.string s,.int .i64 p] w (ziW w p (xT nl rl s p)):=by
 obtain⟨g0,hg0⟩:∃b,w.heap.size=b:=⟨_,rfl⟩
 obtain⟨W,hW⟩:∃W,(w.alloc (.cells #[nv,rv] 35)).alloc (.cells #[.int .i64 0,.int .i64 0,.int .i64 0,.int .i64 0] 170)=W:=⟨_,rfl⟩
 have X1:Ext w W:=by rw[←hW];exact xi
 have B1:W.heap[g0]?=some (.cells #[nv,rv] 35):=by rw[←hW,←hg0];exact(by simp only[zm,World.size_alloc];(repeat(split;(first|rfl|(exfalso;omega))));(try(first|(exfalso;omega)|simp_all)))
 have R1:W.heap[g0+1]?=some (.cells #[.int .i64 0,.int .i64 0,.int .i64 0,.int .i64 0] 170):=by rw[←hW,←hg0];exact(by simp only[zm,World.size_alloc];(repeat(split;(first|rfl|(exfalso;omega))));(try(first|(exfalso;omega)|simp_all)))
 obtain⟨⟨A,c,hnv,hA,_⟩,B,d,hrv,hB,_⟩:=id hN
 have b0:=cr 0 B1; have b1:=cr 1 B1; have lb:=za B1; simp at b0 b1
 obtain⟨m,hmm⟩:∃m,rl.length=m:=⟨_,rfl⟩
 have hmost:=hO.most; have hone:=hO.one
 obtain⟨ga,oa,rfl,lga,hac⟩:=(hA.ext X1) (by rw[hO.len];omega)
 obtain⟨gr,orr,rfl,lgr,hrc⟩:=(hB.ext X1) hone
 have HE:Hid (∀wr,Ext W wr→wr.cell? ⟨g0,0,none⟩=some (.slice (some ⟨ga,oa,none⟩) (256*m) c)∧wr.cell? ⟨g0,1,none⟩=some (.slice (some ⟨gr,orr,none⟩) m d)∧g0 < wr.heap.size∧ga < wr.heap.size∧gr < wr.heap.size):=zh (fun wr e=>⟨by rw[←hmm,←hO.len,←hnv];exact zy b0 lb e,by rw[←hmm,←hrv];exact zy b1 lb e,Nat.lt_of_lt_of_le lb e.size,Nat.lt_of_lt_of_le lga e.size,Nat.lt_of_lt_of_le lgr e.size⟩); have HT:Hid (∀wr,Ext W wr→∀i,i < 256*m→-1≤nl.getD i 0∧nl.getD i 0 < m∧wr.cell? ⟨ga,oa+i,none⟩=some (.int .i64 (nl.getD i 0))):=zh (fun wr e i hi=>by
  have hlt:i < nl.length:=by rw[hO.len];omega
  have h3:=hO.next (nl.getD i 0) (by rw[List.getD_eq_getElem?_getD,List.getElem?_eq_getElem hlt];exact List.getElem_mem hlt)
  exact⟨h3.1,by omega,zy (hac i hlt) lga e⟩)
 have HR:Hid (∀wr,Ext W wr→∀i,i < m→wr.cell? ⟨gr,orr+i,none⟩=some (.int .i64 (rl.getD i 0))):=zh (fun wr e i hi=>zy (hrc i (by omega)) lgr e); have HCK:=zh (ZA nv rv nl rl W (hN.ext X1) hO); have HX:=zh X1; have HR1:=zh R1; have HG0:=zh hg0; have q0:decide ((p:Int) < 0)=false:=by simp
 have q1:decide ((s.size:Int)≤p)=false:=by simp;omega
 have q2:decide (s.size≤p)=false:=by simp;omega
 rw[hmm]at hmost hone
 clear hN hO X1 B1 R1 hnv hrv hA hB hac hrc hmm; go_in
 go_wp2_with fail; try simp only[hg0]
 refine HCK.out.mono ?_; rintro e W2 ⟨rfl,hx2⟩; have HX2:=zh hx2
 obtain⟨xb,hxb⟩:∃xb,W2.heap.size=xb:=⟨_,rfl⟩
 obtain⟨W3,hW3⟩:∃W3,W2.alloc (.cells #[.int .i64 0,.int .i64 0,.int .i64 0,.int .i64 0] 170)=W3:=⟨_,rfl⟩
 have D3:W3.heap[xb]?=some (.cells #[.int .i64 0,.int .i64 0,.int .i64 0,.int .i64 0] 170):=by rw[←hW3,←hxb];exact heap_alloc_new _ _
 have X3:Ext W W3:=by rw[←hW3];exact hx2.trans xi
 have HXB:Hid (W.heap.size≤xb):=zh (by rw[←hxb];exact hx2.size)
 obtain⟨W4,hW4⟩:∃W4,yX W3 xb (.int .i64 (-1)) (.int .i64 p) (.int .i64 ((p:Int)+1)) (.int .i64 0)=W4:=⟨_,rfl⟩
 have HD4:Hid (W4.heap[xb]?=some (.cells #[.int .i64 (-1),.int .i64 p,.int .i64 ((p:Int)+1),.int .i64 0] 170)):=zh (by rw[←hW4];exact yE D3 _ _ _ _); have HX4:Hid (Ext W W4):=zh (by rw[←hW4];exact(yg (S:=fun k=>k=xb) rfl _ _ _ _).ext X3 (fun k hk=>by have:=HXB.out;omega)); have r0:=cr 0 D3; have r1:=cr 1 D3; have r2:=cr 2 D3; have r3:=cr 3 D3; have ff:=fun k=>zi D3 k; simp at r0 r1 r2 r3
 unfold yX y8 put2 at hW4; clear b0 b1 lb lga lgr hx2 hW hg0 HCK D3 X3; go_wp2_with fail; clear r0 r1 r2 r3 ff hW4 hW3 hxb; go_loopw [9,10] (fun sv iv wr=>∃(i st:Nat) (r t x:Int),sv=.int .i64 st∧iv=.int .i64 i∧i≤s.size∧st < m∧Hid (mun nl rl s (s.size+1 - i) i st r t=xT nl rl s p)∧Hid (wr.heap[xb]?=some (.cells #[.int .i64 r,.int .i64 p,.int .i64 t,.int .i64 x] 170))∧Hid (Ext W wr)) (fun _ i _=>s.size - (intOf i).toNat)
 case atStart=>exact⟨p,0,-1,(p:Int)+1,0,rfl,rfl,by omega,by omega,zh rfl,HD4,HX4⟩
 case round=>
  obtain⟨i,st,r,t,x,rfl,rfl,hi,hst,hm,hd,hx1⟩:=hrel
  clear HD4 HX4; have c0:=cr 0 hd.out; have c1:=cr 1 hd.out; have c2:=cr 2 hd.out; have c3:=cr 3 hd.out; have fc:=fun k=>zi hd.out k; have lc:=za hd.out; simp at c0 c1 c2 c3
  have D5:=zn (k:=3) hd.out (.int .i64 ((i:Int)+1)); have X5:=hx1.out.setCell (p:=⟨xb,3,none⟩) HXB.out (.int .i64 ((i:Int)+1))
  obtain⟨W5,hW5⟩:∃W5,wr.setCell ⟨xb,3,none⟩ (.int .i64 ((i:Int)+1))=W5:=⟨_,rfl⟩
  rw[hW5]at D5 X5
  have HD5:Hid (W5.heap[xb]?=some (.cells #[.int .i64 r,.int .i64 p,.int .i64 t,.int .i64 ((i:Int)+1)] 170)):=zh D5; have HX5:=zh X5; clear D5 X5 hd hx1; rcases Nat.lt_or_ge i s.size with hlt|hge
  ·have k1:((i:Int)==s.size)=false:=by simp;omega
   have k2:decide (i=s.size)=false:=by simp;omega
   obtain⟨x8,hx8⟩:∃x8,s[i]?=some x8:=⟨_,by rw[ByteArray.getElem?_lt' s i hlt]⟩
   have hidx:=fun w=>qS hx8 (i:Int) rfl w; have hb8:=x8.toNat_lt; have hba:vj s i=x8.toNat:=by unfold vj;rw[hx8];rfl
   obtain⟨b,hb⟩:∃b,x8.toNat=b:=⟨_,rfl⟩
   rw[hb]at hb8 hba
   simp only[hb]at hidx
   have HW5:=zh hW5; go_upto_region 10 with fail; clear hW5 c0 c1 c2 c3 fc lc
   obtain⟨e0,e1,l0,l1,l2⟩:=HE.out _ HX5.out
   obtain⟨t1,t2,tc⟩:=HT.out _ HX5.out (256*st+b) (by omega)
   obtain⟨y,hy⟩:∃y,nl.getD (256*st+b) 0=y:=⟨_,rfl⟩
   rw[hy]at t1 t2 tc
   have HS:=zh (zgr nl rl s i st r t hlt (x:=y) (by rw[hba];exact hy)); clear hy hba hx8 hb; refine yj (12) (zd [0,2,3,4,5,6] (zj [1,7,8,9,10,11] .fin)) (by kernel_rfl) (by kernel_rfl) ?_; refine btp ?_; refine bts ?_; (refine xw ?_)
   obtain⟨V5,hV5⟩:∃V,W5.drew=V:=⟨_,rfl⟩
   have XV:Ext W5 V5:=by rw[←hV5];exact xi
   have HD6:=zh (zb HD5.out XV); have HX7:=zh (HX5.out.trans XV); simp only[hV5]
   clear hV5 XV e0 e1 l0 l1 l2 tc HD5 HX5 HW5; by_cases h0:y < 0
   ·have h1:decide (y < 0)=true:=by simp[h0]
    have R6:=zb HR1.out HX7.out; have P6:=yE R6 (.int .i64 r) (.int .i64 p) (.int .i64 t) (.int .i64 ((i:Int)+1)); have HX6:Hid (∀a b c d,Ext w (yX V5 (g0+1) a b c d)):=zh (fun a b c d=>(yg (S:=fun k=>k=g0+1) rfl _ _ _ _).ext (HX.out.trans HX7.out) (fun k hk=>by have:=HG0.out;omega)); have hx6:=HX6.out (.int .i64 r) (.int .i64 p) (.int .i64 t) (.int .i64 ((i:Int)+1))
    obtain⟨W6,hW6⟩:∃W6,yX V5 (g0+1) (.int .i64 r) (.int .i64 p) (.int .i64 t) (.int .i64 ((i:Int)+1))=W6:=⟨_,rfl⟩
    rw[hW6]at P6 hx6
    have HXX:=zh hx6; have a0:=cr 0 HD6.out; have a1:=cr 1 HD6.out; have a2:=cr 2 HD6.out; have a3:=cr 3 HD6.out; have la:=za HD6.out; have r0:=cr 0 R6; have r1:=cr 1 R6; have r2:=cr 2 R6; have r3:=cr 3 R6; have ff:=fun k=>zi R6 k; have lr:=za R6; have e0:=cr 0 P6; have e1:=cr 1 P6; have e2:=cr 2 P6; have e3:=cr 3 P6; simp at a0 a1 a2 a3 r0 r1 r2 r3 e0 e1 e2 e3
    unfold yX y8 put2 at hW6; clear R6 P6 hx6; go_wp2_with fail; exact bodyPost_ret (v:=.tuple #[.agg #[.int .i64 r,.int .i64 p,.int .i64 t,.int .i64 ((i:Int)+1)],.bool true]) (by simp[results,Tryz.results99,go_sem, *]) rfl ⟨by rw[←hm.out,HS.out,if_pos h0],HXX.out⟩
   ·obtain⟨y',rfl⟩:∃y':Nat,y=(y':Int):=⟨y.toNat,by omega⟩
    have HS':=HS.out
    rw[if_neg h0,Int.toNat_natCast]at HS'
    have hym:y' < m:=by omega
    obtain⟨e0,e1,l0,l1,l2⟩:=HE.out _ HX7.out
    have rc:=HR.out _ HX7.out y' hym
    obtain⟨rr,hrr⟩:∃rr,rl.getD y' 0=rr:=⟨_,rfl⟩
    rw[hrr]at rc HS'
    have HSS:=zh HS'; clear HS HS' hrr h0; by_cases h2:0≤rr
    ·have D7:=zii HD6.out (.int .i64 rr) (.int .i64 ((i:Int)+1)); have X7:Ext W ((V5.setCell ⟨xb,0,none⟩ (.int .i64 rr)).setCell ⟨xb,2,none⟩ (.int .i64 ((i:Int)+1))):=(HX7.out.setCell (p:=⟨xb,0,none⟩) HXB.out _).setCell (p:=⟨xb,2,none⟩) HXB.out _; have c0:=cr 0 HD6.out; have c2:=cr 2 HD6.out; have fc:=fun k=>zi HD6.out k; have lc:=za HD6.out; simp at c0 c2
     obtain⟨W7,hW7⟩:∃W7,(V5.setCell ⟨xb,0,none⟩ (.int .i64 rr)).setCell ⟨xb,2,none⟩ (.int .i64 ((i:Int)+1))=W7:=⟨_,rfl⟩
     rw[hW7]at D7 X7
     have HD7:=zh D7; have HX8:=zh X7; clear D7 X7; go_wp2_with fail; clear hW7 c0 c2 fc lc; go_roundw
     case rel=>exact⟨i+1,y',rr,(i:Int)+1,(i:Int)+1,by go_num,by go_num,by omega,hym,zh (by rw[←hm.out,HSS.out,if_pos h2]),HD7,HX8⟩
     case measure=>simp[intOf];omega
    ·go_wp2_with fail; go_roundw
     case rel=>exact⟨i+1,y',r,t,(i:Int)+1,by go_num,by go_num,by omega,hym,zh (by rw[←hm.out,HSS.out,if_neg h2]),HD6,HX7⟩
     case measure=>simp[intOf];omega
  ·obtain rfl:i=s.size:=by omega
   have R6:=zb HR1.out HX5.out; have P6:=yE R6 (.int .i64 r) (.int .i64 p) (.int .i64 t) (.int .i64 ((s.size:Int)+1)); have HX6:Hid (∀a b c d,Ext w (yX W5 (g0+1) a b c d)):=zh (fun a b c d=>(yg (S:=fun k=>k=g0+1) rfl _ _ _ _).ext (HX.out.trans HX5.out) (fun k hk=>by have:=HG0.out;omega)); have hx6:=HX6.out (.int .i64 r) (.int .i64 p) (.int .i64 t) (.int .i64 ((s.size:Int)+1))
   obtain⟨W6,hW6⟩:∃W6,yX W5 (g0+1) (.int .i64 r) (.int .i64 p) (.int .i64 t) (.int .i64 ((s.size:Int)+1))=W6:=⟨_,rfl⟩
   rw[hW6]at P6 hx6
   have HXX:=zh hx6; have a0:=cr 0 HD5.out; have a1:=cr 1 HD5.out; have a2:=cr 2 HD5.out; have a3:=cr 3 HD5.out; have la:=za HD5.out; have r0:=cr 0 R6; have r1:=cr 1 R6; have r2:=cr 2 R6; have r3:=cr 3 R6; have ff:=fun k=>zi R6 k; have lr:=za R6; have e0:=cr 0 P6; have e1:=cr 1 P6; have e2:=cr 2 P6; have e3:=cr 3 P6; simp at a0 a1 a2 a3 r0 r1 r2 r3 e0 e1 e2 e3
   unfold yX y8 put2 at hW6; clear R6 P6 hx6; go_wp2_with fail; exact bodyPost_ret (v:=.tuple #[.agg #[.int .i64 r,.int .i64 p,.int .i64 t,.int .i64 ((s.size:Int)+1)],.bool true]) (by simp[results,Tryz.results99,go_sem, *]) rfl ⟨by rw[←hm.out,zh0],HXX.out⟩
def zaP (nv rv kv:Value)(kinds:Int):Value:=.agg #[nv,rv,kv,.int .i64 kinds]
def Qp (w:World)(nv rv kv:Value)(nl rl kl:List Int):Prop:=Zi w nv rv nl rl∧∃K c,kv=.slice K kl.length c∧xW w K kl
theorem Qp.ext {w w':World}{nv rv kv:Value}{nl rl kl:List Int}(h:Qp w nv rv kv nl rl kl)(e:Ext w w'):Qp w' nv rv kv nl rl kl:=by
 obtain⟨h1,K,c,h2,h3⟩:=h
 exact⟨h1.ext e,K,c,h2,h3.ext e⟩
structure v9 (nl rl kl:List Int)(kinds:Int):Prop where
 dfa:YK nl rl
 few:0≤kinds∧kinds≤16
 kind:∀k∈kl,-1≤k∧k < kinds
 rule:∀r∈rl,r < kl.length
 short:kl.length≤100000
set_option maxRecDepth 100000 in
set_option maxHeartbeats 4000000 in
theorem zeD (nv rv kv:Value)(nl rl kl:List Int)(kinds:Int)(w:World)(hN:Qp w nv rv kv nl rl kl)(hO:v9 nl rl kl kinds):
 Calls Tryz.prog 62 #[zaP nv rv kv kinds] w fun e w'=>e=.returned (.int .i64 0)∧Ext w w':=by
 obtain⟨W,hW⟩:∃W,w.alloc (.cells #[nv,rv,kv,.int .i64 kinds] 37)=W:=⟨_,rfl⟩
 obtain⟨g0,hg0⟩:∃b,w.heap.size=b:=⟨_,rfl⟩
 have X1:Ext w W:=by rw[←hW];exact xi
 have B1:W.heap[g0]?=some (.cells #[nv,rv,kv,.int .i64 kinds] 37):=by rw[←hW,←hg0];exact heap_alloc_new _ _
 obtain⟨hD,K,kc,hkv,hK⟩:=hN
 obtain⟨⟨A,c,hnv,hA,_⟩,B,d,hrv,hB,_⟩:=id hD
 have b0:=cr 0 B1; have b1:=cr 1 B1; have b2:=cr 2 B1; have b3:=cr 3 B1; have lb:=za B1; simp at b0 b1 b2 b3
 obtain⟨m,hmm⟩:∃m,rl.length=m:=⟨_,rfl⟩
 obtain⟨kn,hkn⟩:∃kn,kl.length=kn:=⟨_,rfl⟩
 have h2:=hO.dfa.most; have hks:=hO.short
 obtain⟨hk1,hk2⟩:=hO.few
 have d0:decide (kinds < 0)=false:=by simp;omega
 have d1:decide (16 < kinds)=false:=by simp;omega
 have HE:Hid (∀wr,Ext W wr→wr.cell? ⟨g0,1,none⟩=some (.slice B m d)∧wr.cell? ⟨g0,2,none⟩=some (.slice K kn kc)∧wr.cell? ⟨g0,3,none⟩=some (.int .i64 kinds)∧g0 < wr.heap.size):=zh (fun wr e=>⟨by rw[←hmm,←hrv];exact zy b1 lb e,by rw[←hkn,←hkv];exact zy b2 lb e,zy b3 lb e,Nat.lt_of_lt_of_le lb e.size⟩); have HCK:=zh (ZA nv rv nl rl W (hD.ext X1) hO.dfa); have HX:=zh X1; have HO:=zh hO; have HM:=zh hmm; have HKN:=zh hkn; have HB:=zh (hB.ext X1); have HK:=zh (hK.ext X1)
 rw[hkn]at hks
 rw[hmm]at h2
 clear hD hO hnv hrv hkv hA hB hK hmm hkn B1 X1 b2; unfold zaP; go_in
 go_wp2_with fail; try simp only[hW]
 refine HCK.out.mono ?_; rintro e W2 ⟨rfl,hx2⟩
 obtain⟨e1,e2,e3,l0⟩:=HE.out _ hx2
 have HX2:=zh hx2; clear hx2 b0 b1 b3 lb hW hg0; go_wp2_with fail; clear e1 e2 e3 l0; go_loopw [3] (fun i wr=>∃k:Nat,k≤kn∧i=.int .i64 k∧Hid (Ext W wr)) (fun i _=>kn - (intOf i).toNat)
 case atStart=>exact⟨0,Nat.zero_le _,rfl,zh (HX2.out.trans xi)⟩
 case round=>
  obtain⟨k,hk,rfl,hx1⟩:=hrel
  obtain⟨e1,e2,e3,l0⟩:=HE.out _ hx1.out
  by_cases hlt:k < kn
  ·obtain⟨gk,ok,rfl,lk,hkc⟩:=(HK.out.ext hx1.out) (by have:=HKN.out;omega)
   have hkl:k < kl.length:=by have:=HKN.out;omega
   have x0:=hkc k hkl
   obtain⟨x,hx⟩:∃x,kl.getD k 0=x:=⟨_,rfl⟩
   rw[hx]at x0
   have hxm:=HO.out.kind x (by rw[←hx,List.getD_eq_getElem?_getD,List.getElem?_eq_getElem hkl];exact List.getElem_mem hkl); have q1:decide (x < -1)=false:=by simp;omega
   have q2:decide (kinds≤x)=false:=by simp;omega
   clear hkc hx; go_upto_region 6 with fail; refine yj (16) (zd [0,2] (zj [1,3,4,5,6,7,8,9,10,11,12,13,14,15] .fin)) (by kernel_rfl) (by kernel_rfl) ?_; refine btp ?_; refine bts ?_; (refine xw ?_)
   go_wp2_with fail; go_roundw
   case rel=>exact⟨k+1,by omega,by go_num,zh (hx1.out.trans xi)⟩
   case measure=>simp[intOf];omega
  ·obtain rfl:k=kn:=by omega
   go_wp2_with fail; clear e1 e2 e3 l0; go_loopw [4] (fun i w2=>∃j:Nat,j≤m∧i=.int .i64 j∧Hid (Ext W w2)) (fun i _=>m - (intOf i).toNat)
   case atStart=>exact⟨0,Nat.zero_le _,rfl,zh (hx1.out.trans xi)⟩
   case round=>
    obtain⟨j,hj,rfl,hx3⟩:=hrel
    obtain⟨e1,e2,e3,l0⟩:=HE.out _ hx3.out
    by_cases hlj:j < m
    ·obtain⟨gr,orr,rfl,lr,hrc⟩:=(HB.out.ext hx3.out) (by have:=HM.out;omega)
     have hjl:j < rl.length:=by have:=HM.out;omega
     have x0:=hrc j hjl
     obtain⟨x,hx⟩:∃x,rl.getD j 0=x:=⟨_,rfl⟩
     rw[hx]at x0
     have hxm:=HO.out.rule x (by rw[←hx,List.getD_eq_getElem?_getD,List.getElem?_eq_getElem hjl];exact List.getElem_mem hjl); have hxk:x < (k:Int):=by have:=HKN.out;omega
     have q1:decide ((k:Int)≤x)=false:=by simp;omega
     clear hrc hx hxm; go_upto_region 11 with fail; refine yj (10) (zd [0,1,3,6] (zj [2,4,5,7,8,9] .fin)) (by kernel_rfl) (by kernel_rfl) ?_; refine btp ?_; refine bts ?_; (refine xw ?_)
     go_wp2_with fail; go_roundw
     case rel=>exact⟨j+1,by omega,by go_num,zh (hx3.out.trans xi)⟩
     case measure=>simp[intOf];omega
    ·go_wp2_with fail; go_ret
     exact⟨rfl,HX.out.trans hx3.out⟩
end Go.Proofs.YtmbelmngniddjaaGreat
namespace Go.Proofs.YtmbelmngniddjaaGreat
open Go.RowKit
def zjK (n kn:Nat)(p:Nat)(q:Int×Int×Int):Prop:=-1≤q.1∧q.1 < kn∧(p:Int)+1≤q.2.1∧q.2.1≤n∧(p:Int)+1≤q.2.2∧q.2.2≤n+1
theorem zck {nl rl kl:List Int}{kinds:Int}{s:ByteArray}{p:Nat}(hO:v9 nl rl kl kinds):∀(f i st:Nat) (r t:Int),st < rl.length→p≤i→i≤s.size→f=s.size+1 - i→-1≤r→r < kl.length→(p:Int)+1≤t→t≤s.size→zjK s.size kl.length p (mun nl rl s f i st r t):=by
 intro f; induction f with
 |zero=>intro i st r t h1 h2 h3 h4;omega
 |succ f ih=>
  intro i st r t h1 h2 h3 h4 h5 h6 h7 h8; unfold mun; by_cases hi:i=s.size
  ·rw[if_pos hi]
   exact⟨h5,h6,h7,h8,by show(p:Int)+1≤(i:Int)+1;omega,by show(i:Int)+1≤_;omega⟩
  ·rw[if_neg hi]
   have hb:vj s i < 256:=by unfold vj;exact UInt8.toNat_lt _
   have hlt:256*st+vj s i < nl.length:=by rw[hO.dfa.len];omega
   have hx:=hO.dfa.next (nl.getD (256*st+vj s i) 0) (by rw[List.getD_eq_getElem?_getD,List.getElem?_eq_getElem hlt];exact List.getElem_mem hlt)
   obtain⟨x,hxx⟩:∃x,nl.getD (256*st+vj s i) 0=x:=⟨_,rfl⟩
   rw[hxx]at hx ⊢
   by_cases h0:x < 0
   ·rw[if_pos h0]
    exact⟨h5,h6,h7,h8,by show(p:Int)+1≤(i:Int)+1;omega,by show(i:Int)+1≤_;omega⟩
   ·rw[if_neg h0]
    have hxl:x.toNat < rl.length:=by omega
    obtain⟨y,hy⟩:∃y,rl.getD x.toNat 0=y:=⟨_,rfl⟩
    have hym:y∈rl:=by rw[←hy,List.getD_eq_getElem?_getD,List.getElem?_eq_getElem hxl];exact List.getElem_mem hxl
    have hy1:=hO.rule y hym
    rw[hy]
    by_cases h9:0≤y
    ·rw[if_pos h9]
     exact ih (i+1) x.toNat y ((i:Int)+1) hxl (by omega) (by omega) (by omega) (by omega) hy1 (by omega) (by omega)
    ·rw[if_neg h9]
     exact ih (i+1) x.toNat r t hxl (by omega) (by omega) (by omega) h5 h6 h7 h8
theorem jn {nl rl kl:List Int}{kinds:Int}{s:ByteArray}{p:Nat}(hO:v9 nl rl kl kinds)(hp:p < s.size):zjK s.size kl.length p (xT nl rl s p):=
 zck hO _ p 0 (-1) ((p:Int)+1) hO.dfa.one (Nat.le_refl _) (by omega) rfl (by omega) (by omega) (by omega) (by omega)
def nxt (nl rl kl:List Int)(s:ByteArray):Nat→Nat→Int→Int×Int×Int×Int
 |0,_,_=>(0,0,0,0)
 |f+1,p,ext=>
  if p=s.size then(-2,s.size,s.size,(s.size:Int)+1)
  else if(xT nl rl s p).1 < 0 then(-1,p,(xT nl rl s p).2.1,max (max ext (xT nl rl s p).2.2) ((xT nl rl s p).2.1+1))
  else if 0≤kl.getD (xT nl rl s p).1.toNat 0 then(kl.getD (xT nl rl s p).1.toNat 0,p,(xT nl rl s p).2.1,max (max ext (xT nl rl s p).2.2) ((xT nl rl s p).2.1+1))
  else nxt nl rl kl s f (xT nl rl s p).2.1.toNat (max ext (xT nl rl s p).2.2)
def vI (nl rl kl:List Int)(s:ByteArray)(p:Nat):Int×Int×Int×Int:=nxt nl rl kl s (s.size+1 - p) p 0
theorem zhP (nl rl kl:List Int)(s:ByteArray)(ext:Int):nxt nl rl kl s (s.size+1 - s.size) s.size ext=((-2:Int),(s.size:Int),(s.size:Int),(s.size:Int)+1):=by
 have:s.size+1 - s.size=0+1:=by omega
 rw[this]
 unfold nxt
 rw[if_pos rfl]
theorem zg5 {nl rl kl:List Int}{kinds:Int}{s:ByteArray}(hO:v9 nl rl kl kinds):∀(f g p:Nat) (ext:Int),p≤s.size→s.size+1 - p≤f→s.size+1 - p≤g→nxt nl rl kl s f p ext=nxt nl rl kl s g p ext:=by
 intro f; induction f with
 |zero=>intro g p ext h1 h2;omega
 |succ f ih=>
  intro g p ext h1 h2 h3
  obtain⟨g',rfl⟩:∃g',g=g'+1:=⟨g - 1,by omega⟩
  unfold nxt; by_cases hp:p=s.size
  ·rw[if_pos hp,if_pos hp]
  ·rw[if_neg hp,if_neg hp]
   obtain⟨_,_,h4,h5,_,_⟩:=jn (s:=s) (p:=p) hO (by omega)
   rw[ih g' (xT nl rl s p).2.1.toNat (max ext (xT nl rl s p).2.2) (by omega) (by omega) (by omega)]
theorem zgF {nl rl kl:List Int}{kinds:Int}{s:ByteArray}(hO:v9 nl rl kl kinds){p:Nat}(hp:p < s.size)(ext:Int){q:Int×Int×Int}(hq:xT nl rl s p=q):
 nxt nl rl kl s (s.size+1 - p) p ext=if q.1 < 0 then(-1,(p:Int),q.2.1,max (max ext q.2.2) (q.2.1+1))else if 0≤kl.getD q.1.toNat 0 then(kl.getD q.1.toNat 0,(p:Int),q.2.1,max (max ext q.2.2) (q.2.1+1))else nxt nl rl kl s (s.size+1 - q.2.1.toNat) q.2.1.toNat (max ext q.2.2):=by
 obtain⟨f,hf⟩:∃f,s.size+1 - p=f+1:=⟨s.size - p,by omega⟩
 have hm:=jn (s:=s) (p:=p) hO hp
 rw[hq]at hm
 obtain⟨_,_,h4,h5,_,_⟩:=hm
 rw[hf,zg5 hO (s.size+1 - q.2.1.toNat) f q.2.1.toNat (max ext q.2.2) (by omega) (by omega) (by omega),←hq]
 show nxt nl rl kl s (f+1) p ext=_
 conv=>lhs;unfold nxt
 rw[if_neg (by omega)]
end Go.Proofs.YtmbelmngniddjaaGreat
