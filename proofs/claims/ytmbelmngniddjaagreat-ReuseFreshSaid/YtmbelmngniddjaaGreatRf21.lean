/- Rf: texts that the proof rests on, part 21. -/
import Derived.Test.YtmbelmngniddjaaGreatRf20
import Derived.OwnWalkIn
import Derived.TacticsInMore
import Derived.LoopNIn
import Derived.LoopIn
import Derived.Laws.EntriesVeiled
import Derived.Shelf.Abstract
import Derived.Deep.OwnRows
import Derived.Lib.AppendZeros
namespace Go.Proofs.YtmbelmngniddjaaGreat
open Go.RowKit
attribute [local go_sem] zF zB zI zJ zw zt zN zD zX zQ zK zP zO zL zT zR zS zG zM zC
attribute [local go_sem] Oper.semAt_some
structure Dn where
 w0:World
 A:Option Addr
 c:Nat
 ps:List Prt
 B:Nat
 bl:Nat
 bY:Nat
 bd:Nat
 nx:Nat
 lY:Nat
 S:Nat→Prop
 J:Nat→World→Prop
 Jx:Nat→World→Prop
def Dn.Fix (D:Dn)(W:World):Prop:=
 Below D.w0.heap.size D.w0 W∧W.heap[D.bl]?=some (.cells #[.slice D.A D.ps.length D.c] 45)∧W.heap[D.bY]?=some (.cells #[.func (.yield D.lY) #[] #[]] 134)∧
 W.heap[D.bd]?=some (.cells #[.func (.func 129) #[] #[pt D.nx,pt D.bl,pt D.bY,pt D.bd]] 134)∧D.B≤W.heap.size
structure Dn.Ok (D:Dn):Prop where
 parts:j4 D.w0 D.A D.ps
 oks:qy D.w0 D.ps
 len:D.ps.length≤1000000
 w0:D.w0.heap.size≤D.B
 bl:D.w0.heap.size≤D.bl∧D.bl < D.B∧¬D.S D.bl
 bY:D.B≤D.bY
 bd:D.B≤D.bd
 nx:D.B≤D.nx∧D.nx≠D.bY∧D.nx≠D.bd
 free:∀b,b < D.w0.heap.size→¬D.S b
 hJ:∀j W W',Below D.B W W'→D.J j W→D.J j W'
 hJx:∀j W W',Below D.B W W'→D.Jx j W→D.Jx j W'
theorem Dn.Fix.turn {D:Dn}(O:D.Ok){W W':World}(h:D.Fix W)(t:zA (fun b=>(D.S b∧b < D.B)∨b=D.nx) W W'):D.Fix W':=by
 obtain⟨h1,h2,h3,h4,h5⟩:=h
 have ob:=O.bl; have oy:=O.bY; have od:=O.bd; have on:=O.nx; have o0:=O.w0
 refine⟨h1.trans (t.below h1.size fun k hk=>?_),(t.block _ (za h2) ?_).trans h2,(t.block _ (za h3) ?_).trans h3,(t.block _ (za h4) ?_).trans h4,Nat.le_trans h5 t.size⟩
 ·rcases hk with hk|hk
  ·exact Nat.le_of_not_lt fun hlt=>O.free k hlt hk.1
  ·omega
 ·rintro(hk|hk)
  ·exact ob.2.2 hk.1
  ·omega
 ·rintro(hk|hk)<;>omega
 ·rintro(hk|hk)<;>omega
def Dn.Nx (D:Dn)(n:Nat)(W:World):Prop:=W.heap[D.nx]?=some (.cells #[.int .i64 (n:Int)] 3)
def Dn.Post (D:Dn)(ok:Bool)(m:Nat)(e:Ending)(W':World):Prop:=
 D.Fix W'∧((e=.returned (.bool ok)∧D.Nx m W'∧D.J m W')∨(e=.returned (.bool false)∧∃j,j≤m∧D.Jx j W'))
def ziM (x:Int):Array Value:=#[.int .i64 x]
theorem yP.uncons {l:List Nd}{k:Int}{ks:List Int}{n m:Nat}{ok:Bool}(h:yP l (k ::ks) n ok m):(ok=false∧yP l [k] n false m)∨∃m1,yP l [k] n true m1∧yP l ks m1 ok m:=by
 cases h with
 |bad _ _ _ hb=>exact .inl ⟨rfl,.bad k [] n hb⟩
 |sub p _ _ _ hp h1=>exact .inl ⟨rfl,.sub p [] n m hp h1⟩
 |cons p _ _ m1 _ _ hp h1 h2=>exact .inr ⟨m1,.cons p [] n m1 true m1 hp h1 (.nil m1),h2⟩
set_option maxRecDepth 100000 in
set_option maxHeartbeats 3000000 in
theorem zad (D:Dn)(n:Nat)(at_:Int)(ok:Bool)(m:Nat)(W:World)(_:n≤1000000)(_:D.ps.length≤1000000)(hs:at_≠(n:Int)∨D.ps.length≤n)(ht:yP (nds D.ps) [at_] n ok m)(hF:D.Fix W)(hN:D.Nx n W)(hJ:D.J n W):
 Calls Tryz.prog 129 #[.int .i64 at_,pt D.nx,pt D.bl,pt D.bY,pt D.bd] W (D.Post ok m):=by
 obtain⟨rfl,hmn⟩:=ht.stop (by rw[zx];exact hs)
 obtain rfl:n=m:=hmn.symm
 obtain⟨f1,f2,f3,f4,f5⟩:=hF
 have c1:=cr 0 f2; have c4:=cr 0 hN; simp at c1 c4
 have l1:=za f2; have l4:=za hN; have HF:Hid (D.Fix W):=⟨f1,f2,f3,f4,f5⟩; have HN:=zh hN; have HJ:=zh hJ; clear hN hJ ht f1 f2 f3 f4; by_cases ha:at_=(n:Int)
 ·subst ha; have hle:D.ps.length≤n:=by omega
  clear hs; go_in
  go_wp2_with fail; go_ret
  exact⟨HF.out,.inl ⟨rfl,HN.out,HJ.out⟩⟩
 ·have ha1:(at_ !=(n:Int))=true:=by simpa using ha
  clear hs; go_in
  go_wp2_with fail; go_ret
  exact⟨HF.out,.inl ⟨rfl,HN.out,HJ.out⟩⟩
set_option maxRecDepth 100000 in
set_option maxHeartbeats 3000000 in
theorem zgD (D:Dn)(O:D.Ok)(M:Nat)
 (hY:∀(j:Nat) (W:World),j < M→D.B≤W.heap.size→D.J j W→YieldAt Fence.wide 0 Tryz.prog D.lY (ziM (j:Int)) W fun e W'=>
   (e=.returned (.bool true)∧D.J (j+1) W'∧zA (fun b=>D.S b∧b < D.B) W W')∨(e=.returned (.bool false)∧D.Jx (j+1) W'∧zA (fun b=>D.S b∧b < D.B) W W')):
 ∀(fuel n:Nat) (at_:Int) (ok:Bool) (m:Nat) (W:World),D.ps.length - n≤fuel→n≤1000000→m≤M→yP (nds D.ps) [at_] n ok m→D.Fix W→D.Nx n W→D.J n W→
  Calls Tryz.prog 129 #[.int .i64 at_,pt D.nx,pt D.bl,pt D.bY,pt D.bd] W (D.Post ok m):=by
 intro fuel; induction fuel with
 |zero=>
  intro n at_ ok m W hf hn hm ht hF hN hJ; exact zad D n at_ ok m W hn O.len (.inr (by omega)) ht hF hN hJ
 |succ fuel ih=>
  intro n at_ ok m W hf hn hm ht hF hN hJ; by_cases hs:at_≠(n:Int)∨D.ps.length≤n
  ·exact zad D n at_ ok m W hn O.len hs ht hF hN hJ
  obtain rfl:at_=(n:Int):=Decidable.byContradiction fun hc=>hs (.inl hc); have hlt:n < D.ps.length:=Nat.lt_of_not_le fun hc=>hs (.inr hc)
  obtain⟨⟨qn,kA,kcap⟩,hq⟩:∃q,D.ps[n]?=some q:=⟨_,List.getElem?_eq_getElem hlt⟩
  have hdec:decide (D.ps.length≤n)=false:=decide_eq_false (by omega); have ht2:=yP.ofOne (yJ hq) ht; have hnm:=ht2.le.1; have hF0:=hF
  obtain⟨f1,f2,f3,f4,f5⟩:=hF
  have c1:=cr 0 f2; have c2:=cr 0 f3; have c4:=cr 0 hN; simp at c1 c2 c4
  have l1:=za f2; have l2:=za f3; have l4:=za hN
  obtain⟨fn,tmps,assign,body,hy,hRound⟩:=hY n W (by omega) f5 hJ
  unfold ziM at hy; have HF:=zh hF0; have HN:=zh hN; have HT:=zh ht2; have HO:=zh O; have IH:=zh ih; have HR:=zh hRound; have HQ:=zh hq; have hlen:=O.len; clear hN hJ ht ht2 O hY ih f1 f2 f3 f4 hs hRound hF0 hq; go_in
  go_upto_region 1 with fail
  refine(wpIn_wide (n:=1)).1 ?_
  gi_wp2
  refine HR.out.mono ?_; rintro e w8 (⟨rfl,hJ8,t8⟩|⟨rfl,hJ8,t8⟩)
  ·have t8':zA (fun b=>(D.S b∧b < D.B)∨b=D.nx) W w8:=t8.mono fun k _ hk=>.inl hk; have h8:=HF.out.turn HO.out t8'; have n8:D.Nx n w8:=(t8.block _ l4 (fun hk=>by have:=HO.out.nx;omega)).trans HN.out; have a4:=cr 0 n8; have a1:=cr 0 h8.2.1; simp at a1 a4
   have a5:w8.frozen? ⟨D.nx,0,none⟩=false:=by simp[World.frozen?,show w8.heap[D.nx]?=_ from n8]
   have a6:=za n8; have a7:=za h8.2.1; have hbn:D.bl≠D.nx:=by have:=HO.out.nx;have:=HO.out.bl;omega
   obtain⟨b,off,hA,hb,hcell⟩:=(HO.out.parts.below h8.1) (by omega)
   have hbw:b < D.w0.heap.size:=by
    obtain⟨b',off',hA',hb',_⟩:=HO.out.parts (by omega)
    rw[hA]at hA'
    injection hA' with hA'; injection hA' with hA'; omega
   have hbx:b≠D.nx:=by have:=HO.out.nx;have:=HO.out.w0;omega
   obtain⟨_,_,_,_,_,_,d6,_⟩:=hcell n _ HQ.out
   have hA1:=hA
   rw[hA]at a1
   obtain⟨w9,hw9⟩:∃w9,w8.setCell ⟨D.nx,0,none⟩ (.int .i64 ((n:Int)+1))=w9:=⟨_,rfl⟩
   have T9:zA (fun b=>(D.S b∧b < D.B)∨b=D.nx) w8 w9:=hw9▸zA.setCell (S:=fun b=>(D.S b∧b < D.B)∨b=D.nx) w8 (p:=⟨D.nx,0,none⟩) (.inr rfl) _; have F9:=zh (h8.turn HO.out T9); have N9:Hid (D.Nx (n+1) w9):=by
    rw[←hw9]
    show(World.heap _)[D.nx]?=_
    simp[World.setCell,Array.getElem?_modify,show w8.heap[D.nx]?=_ from n8]
   have J9:Hid (D.J (n+1) w9):=HO.out.hJ _ _ _ (by
    rw[←hw9]
    exact(zA.setCell (S:=fun b=>b=D.nx) w8 (p:=⟨D.nx,0,none⟩) rfl _).below h8.2.2.2.2 (fun k hk=>by have:=HO.out.nx;omega)) hJ8
   clear t8 t8' hy HR hcell h8 n8 hJ8 T9; have KO:=zh (HO.out.oks.get HQ.out); have kc1:qn.kids.length≤kcap:=KO.out.cap; have kc2:kcap≤9223372036854775807:=KO.out.top; have HW9:=zh hw9; clear hw9
   gi_wp2
   go_wp2_with fail
   rw[HW9.out]
   clear HW9 a4 a5 a6 a7 c1 c2 c4 l1 l2 l4 f5 hA hA1 d6; go_loopg [32] qn.kids.length (fun g s32 wr=>∃j n2:Nat,j≤qn.kids.length∧Hid (g=qn.kids.length - j)∧s32=.int .i64 j∧n < n2∧n2≤D.ps.length∧Hid (D.Fix wr∧D.Nx n2 wr∧D.J n2 wr∧yP (nds D.ps) (qn.kids.drop j) n2 ok m))
   case atStart=>exact⟨0,n+1,Nat.zero_le _,zh rfl,rfl,by omega,by omega,zh ⟨F9.out,N9.out,J9.out,HT.out⟩⟩
   case round=>
    obtain⟨j,n2,hj,hg,rfl,hn2,hn3,hH⟩:=hrel
    by_cases hjl:j < qn.kids.length
    ·obtain⟨k1,k2,k3,k4⟩:=hH.out
     obtain⟨b,off,hA,hb,hcell⟩:=((KO.out.below k1.1)).kids (by show 0 < qn.kids.length;omega)
     change kA=_ at hA; subst hA; have d1:=hcell j hjl; generalize hkd:qn.kids.getD j 0=kid at*
     have hk4:yP (nds D.ps) (kid ::qn.kids.drop (j+1)) n2 ok m:=by
      rw[List.drop_eq_getElem_cons hjl]at k4
      have e:qn.kids[j]=kid:=by rw[←hkd,List.getD_eq_getElem?_getD,List.getElem?_eq_getElem hjl];rfl
      rw[e]at k4
      exact k4
     have g3:=cr 0 k1.2.2.2.1; simp at g3
     have g4:=za k1.2.2.2.1
     obtain⟨ok2,m2,hm2,hT2⟩:∃ok2 m2,m2≤M∧yP (nds D.ps) [kid] n2 ok2 m2∧m2≤m∧((ok2=false∧ok=false∧m2=m)∨(ok2=true∧yP (nds D.ps) (qn.kids.drop (j+1)) m2 ok m)):=by
      rcases hk4.uncons with⟨rfl,h⟩|⟨m1,h1,h2⟩
      ·exact⟨false,m,hm,h,Nat.le_refl _,.inl ⟨rfl,rfl,rfl⟩⟩
      ·have:=h2.le.1
       exact⟨true,m1,by omega,h1,this,.inr ⟨rfl,h2⟩⟩
     have CALL:=zh (IH.out n2 kid ok2 m2 wr (by omega) (by omega) hm2 hT2.1 k1 k2 k3); have HT2:=zh hT2; have hn4:n2≤m2:=hT2.1.le.1; have hn5:m2≤D.ps.length:=by have:=hT2.1.le.2 (by rw[zx];omega);rwa[zx]at this
     clear hcell hkd k1 k2 k3 k4 hk4 hT2 hH; go_wp2_with fail; refine CALL.out.mono ?_; rintro e w3 ⟨f3,(⟨rfl,n3,j3⟩|⟨rfl,jx,x1,x2⟩)⟩
     ·obtain⟨h1,h2,(⟨rfl,rfl,rfl⟩|⟨rfl,h3⟩)⟩:=HT2.out
      ·go_wp2_with fail; go_ret
       exact⟨f3,.inl ⟨rfl,n3,j3⟩⟩
      ·have HH:Hid (D.Fix w3∧D.Nx m2 w3∧D.J m2 w3∧yP (nds D.ps) (qn.kids.drop (j+1)) m2 ok m):=⟨f3,n3,j3,h3⟩; clear f3 n3 j3 h3 h1 HT2 CALL g3; go_wp2_with fail; go_roundg (qn.kids.length - (j+1))
       case measure=>have:=hg.out;omega
       case rel=>exact⟨j+1,m2,by omega,zh rfl,by go_num,by omega,by omega,HH⟩
     ·go_wp2_with fail; go_ret
      exact⟨f3,.inr ⟨rfl,jx,by have:=HT2.out.2.1;omega,x2⟩⟩
    ·obtain rfl:j=qn.kids.length:=by omega
     obtain⟨k1,k2,k3,k4⟩:=hH.out
     rw[List.drop_eq_nil_of_le (Nat.le_refl _)]at k4
     cases k4; go_wp2_with fail; go_ret
     exact⟨k1,.inl ⟨rfl,k2,k3⟩⟩
  ·have t8':zA (fun b=>(D.S b∧b < D.B)∨b=D.nx) W w8:=t8.mono fun k _ hk=>.inl hk; have h8:=HF.out.turn HO.out t8'; clear t8 t8' hy HR
   gi_wp2
   go_wp2_with fail; go_ret
   exact⟨h8,.inr ⟨rfl,n+1,by omega,hJ8⟩⟩
end Go.Proofs.YtmbelmngniddjaaGreat
namespace Go.Proofs.YtmbelmngniddjaaGreat
open Go.RowKit
attribute [local go_sem] zF zB zI zJ zw zt zN zD zX zQ zK zP zO zL zT zR zS zG zM zC
attribute [local go_sem] Oper.semAt_some
def Yw (M:Nat):List Int:=(List.range M).map fun(n:Nat)=>(n:Int)
theorem zcS {M j:Nat}{x:Int}(h:(Yw M)[j]?=some x):x=(j:Int)∧j < M:=by
 unfold Yw at h
 rw[List.getElem?_map]at h
 cases hj:(List.range M)[j]? with
 |none=>rw[hj]at h;cases h
 |some k=>
  rw[hj]at h
  injection h with h
  obtain⟨h1,h2⟩:=List.getElem?_eq_some_iff.1 hj
  rw[List.getElem_range]at h2
  rw[List.length_range]at h1
  subst h2
  exact⟨h.symm,h1⟩
theorem zeT {M j:Nat}(h:j < M):(Yw M)[j]?=some (j:Int):=by
 unfold Yw
 rw[List.getElem?_map,List.getElem?_range h]
 rfl
theorem jy (M:Nat):(Yw M).length=M:=by
 unfold Yw
 rw[List.length_map,List.length_range]
theorem zfn (A:Option Addr)(n c:Nat)(w:World):
 Calls Tryz.prog 106 #[.slice A n c,.int .i64 0] w fun e w'=>e=.returned (.func (.func 128) #[] #[pt (w.heap.size+1),pt w.heap.size])∧
  w'=(w.alloc (.cells #[.slice A n c] 45)).alloc (.cells #[.int .i64 0] 3):=by
 go_in
 go_wp2_with fail; go_ret
 exact⟨rfl,rfl⟩
set_option maxRecDepth 100000 in
set_option maxHeartbeats 3000000 in
theorem zeu (A:Option Addr)(c:Nat)(ps:List Prt)(w0 w1:World)(lb ib:Nat)(S:Nat→Prop)(ok:Bool)(M:Nat)(hP:j4 w0 A ps)(hO:qy w0 ps)(hlen:ps.length≤1000000)
 (h0:Below w0.heap.size w0 w1) (hlb:w1.heap[lb]?=some (.cells #[.slice A ps.length c] 45)) (hl0:w0.heap.size≤lb) (hlS:¬S lb) (hib:w1.heap[ib]?=some (.cells #[.int .i64 0] 3))
 (hfree:∀b,b < w0.heap.size→¬S b) (ht:yP (nds ps) [0] 0 ok M):zib Tryz.prog 128 #[pt ib,pt lb] ziM (Yw M) S w1:=by
 intro l J Jx hJ hJx hY hJ0
 obtain⟨D,hD⟩:∃D:Dn,D={w0,A,c,ps,B:=w1.heap.size,bl:=lb,bY:=w1.heap.size,bd:=w1.heap.size+1+1,nx:=w1.heap.size+1,lY:=l,S,J,Jx}:=⟨_,rfl⟩
 have hlbl:=za hlb; have hibl:=za hib; have c1:=cr 0 hib; simp at c1
 have O:Hid D.Ok:=by
  subst hD
  exact⟨hP,hO,hlen,h0.size,⟨hl0,hlbl,hlS⟩,Nat.le_refl _,by show w1.heap.size≤w1.heap.size+1+1;omega,by show w1.heap.size≤w1.heap.size+1∧w1.heap.size+1≠w1.heap.size∧w1.heap.size+1≠w1.heap.size+1+1;omega,hfree,hJ,hJx⟩
 have HY:Hid (∀(j:Nat) (W:World),j < M→D.B≤W.heap.size→D.J j W→YieldAt Fence.wide 0 Tryz.prog D.lY (ziM (j:Int)) W fun e W'=>
  (e=.returned (.bool true)∧D.J (j+1) W'∧zA (fun b=>D.S b∧b < D.B) W W')∨(e=.returned (.bool false)∧D.Jx (j+1) W'∧zA (fun b=>D.S b∧b < D.B) W W')):=by
  subst hD; exact fun j W hj hB hJj=>hY j _ W (zeT hj) hB hJj
 have HD:=zh hD; have HJ0:=zh hJ0; have H0:=zh h0; have HT:=zh ht; have HLB:=zh hlb; have HJ:=zh hJ; clear hD hY hJ0 h0 hJ hJx ht hlb hfree hP hO; simp only[List.append_toArray,List.cons_append,List.nil_append]
 go_in
 go_wp2_with fail; obtain rfl:=HD.out
 obtain⟨W4,hW4⟩:∃W4,((w1.alloc (.cells #[.func (.yield l) #[] #[]] 134)).alloc (.cells #[.int .i64 0] 3)).alloc (.cells #[.func (.func 129) #[] #[pt (w1.heap.size+1),pt lb,pt w1.heap.size,pt (w1.heap.size+1+1)]] 134)=W4:=⟨_,rfl⟩
 have x4:Ext w1 W4:=hW4▸xi; have s4:W4.heap.size=w1.heap.size+3:=by rw[←hW4];simp
 have g1:W4.heap[w1.heap.size]?=some (.cells #[.func (.yield l) #[] #[]] 134):=by
  rw[←hW4]
  exact zb (heap_alloc_new w1 _) xi
 have g2:W4.heap[w1.heap.size+1]?=some (.cells #[.int .i64 0] 3):=by
  rw[←hW4]
  have:=heap_alloc_new (w1.alloc (.cells #[.func (.yield l) #[] #[]] 134)) (.cells #[.int .i64 0] 3)
  rw[World.size_alloc]at this
  exact zb this xi
 have g3:W4.heap[w1.heap.size+1+1]?=some (.cells #[.func (.func 129) #[] #[pt (w1.heap.size+1),pt lb,pt w1.heap.size,pt (w1.heap.size+1+1)]] 134):=by
  rw[←hW4]
  have:=heap_alloc_new ((w1.alloc (.cells #[.func (.yield l) #[] #[]] 134)).alloc (.cells #[.int .i64 0] 3)) (.cells #[.func (.func 129) #[] #[pt (w1.heap.size+1),pt lb,pt w1.heap.size,pt (w1.heap.size+1+1)]] 134)
  rw[World.size_alloc,World.size_alloc]at this
  exact this
 rw[hW4]
 refine(zgD _ O.out M HY.out ps.length 0 0 ok M W4 (by show ps.length - 0≤_;omega) (by omega) (Nat.le_refl _) HT.out ⟨H0.out.trans (x4.below.mono H0.out.size),zb HLB.out x4,g1,g3,by show w1.heap.size≤_;omega⟩ g2 (HJ.out 0 _ _ x4.below HJ0.out)).mono ?_
 rintro e w5 ⟨f5,hp⟩; have hsz:w1.heap.size≤w5.heap.size:=f5.2.2.2.2; rcases hp with⟨rfl,_,j5⟩|⟨rfl,j,hj,j5⟩
 ·go_wp2_with fail; go_end0
  exact⟨⟨_,rfl⟩,hsz,.inl (by rw[jy];exact j5)⟩
 ·go_wp2_with fail; go_end0
  exact⟨⟨_,rfl⟩,hsz,.inr ⟨j,by rw[jy];exact hj,j5⟩⟩
end Go.Proofs.YtmbelmngniddjaaGreat
namespace Go.Proofs.YtmbelmngniddjaaGreat
open Go.RowKit
attribute [local go_sem] zF zB zI zJ zw zt zN zD zX zQ zK zP zO zL zT zR zS zG zM zC
def qV {α:Type}(f:α→Bool):Nat→List α→Int
 |_,[]=>-1
 |k,p ::l=>if f p then(k:Int)else qV f (k+1) l
theorem Ya {α:Type}(f:α→Bool):∀(l:List α) (k:Nat),decide (0≤qV f k l)=l.any f
 |[],k=>rfl
 |p ::l,k=>by
  unfold qV
  rw[List.any_cons]
  split
  ·rename_i h;rw[h];simp
  ·rename_i h;rw[Ya f l (k+1)];simp[h]
theorem Qu {α:Type}(f:α→Bool):∀(l:List α) (k:Nat),-1≤qV f k l∧qV f k l < (k:Int)+l.length+1
 |[],k=>by unfold qV;simp only[List.length_nil];omega
 |p ::l,k=>by
  unfold qV
  have:=Qu f l (k+1)
  rw[List.length_cons]
  split<;>omega
set_option maxRecDepth 100000 in
set_option maxHeartbeats 1000000 in
theorem zf3 (F:Nat)(lb:Array Value)(f:Prt→Bool)(A:Option Addr)(c:Nat)(ps:List Prt)(w:World)(hP:j4 w A ps)(hl:ps.length≤9223372036854775807)(eg:Enters Tryz.prog F)
 (hf:∀(wr:World) (p:Prt),Ext w wr→p∈ps→Calls Tryz.prog F (#[zf5 p]++lb) wr fun e w'=>e=.returned (.bool (f p))∧Ext wr w'):
 Calls Tryz.prog 132 #[.slice A ps.length c,.func (.func F) #[] lb] w fun e w'=>e=.returned (.int .i64 (qV f 0 ps))∧Ext w w':=by
 have HP:=zh hP; have HF:=zh hf; unfold Enters at eg; clear hP hf; go_in
 go_wp2
 go_loopw [8] (fun i wr=>∃j:Nat,j≤ps.length∧i=.int .i64 j∧Hid (qV f 0 ps=qV f j (ps.drop j))∧Ext w wr) (fun i _=>ps.length - (intOf i).toNat)
 case atStart=>exact⟨0,Nat.zero_le _,rfl,zh rfl,xi⟩
 case round=>
  obtain⟨j,hj,rfl,he,hx⟩:=hrel
  by_cases hlt:j < ps.length
  ·obtain⟨p,hp⟩:∃p,ps[j]?=some p:=⟨_,List.getElem?_eq_getElem hlt⟩
   obtain⟨b,off,rfl,hb,hcell⟩:=(HP.out.ext hx) (by omega)
   obtain⟨d0,d1,d2,d3,d4,d5,d6,d7⟩:=hcell j p hp
   have CF:=zh (HF.out wr p hx (List.mem_of_getElem? hp)); have HS:Hid (qV f j (ps.drop j)=if f p then(j:Int)else qV f (j+1) (ps.drop (j+1))):=by
    rw[List.drop_eq_getElem_cons hlt]
    rw[List.getElem?_eq_getElem hlt]at hp
    injection hp with hp
    rw[hp]
    exact zh rfl
   have HX:=zh hx; clear hcell hp hx; go_wp2_with fail; refine CF.out.mono ?_; rintro e w2 ⟨rfl,hx2⟩; have HX2:=zh (HX.out.trans hx2); clear hx2; cases hfp:f p with
   |true=>
    rw[hfp]at HS
    have HS':=zh HS.out; clear hfp HS; go_wp2_with fail; go_ret
    exact⟨yt (by rw[he.out,HS'.out];rfl),HX2.out⟩
   |false=>
    rw[hfp]at HS
    have HS':=zh HS.out; clear hfp HS; go_wp2_with fail; go_roundw
    case rel=>exact⟨j+1,by omega,by go_num,zh (by rw[he.out,HS'.out];rfl),HX2.out⟩
    case measure=>simp[intOf];omega
  ·obtain rfl:j=ps.length:=by omega
   have HX:=zh hx; clear hx; go_wp2_with fail; go_ret
   exact⟨yt (by rw[he.out,List.drop_eq_nil_of_le (Nat.le_refl _)];rfl),HX.out⟩
theorem zg8 (F:Nat)(lb:Array Value)(f:Prt→Bool)(A:Option Addr)(c:Nat)(ps:List Prt)(w:World)(hP:j4 w A ps)(hl:ps.length≤9223372036854775000)(eg:Enters Tryz.prog F)
 (hf:∀(wr:World) (p:Prt),Ext w wr→p∈ps→Calls Tryz.prog F (#[zf5 p]++lb) wr fun e w'=>e=.returned (.bool (f p))∧Ext wr w'):
 Calls Tryz.prog 108 #[.slice A ps.length c,.func (.func F) #[] lb] w fun e w'=>e=.returned (.bool (ps.any f))∧Ext w w':=by
 have CF:=zh (zf3 F lb f A c ps w hP (by omega) eg hf); have HB:=Qu f ps 0; have HA:=zh (Ya f ps 0); clear hP hf eg; go_in
 go_wp2_with fail; refine CF.out.mono ?_; rintro e w2 ⟨rfl,hx2⟩; have HX2:=zh hx2; clear hx2; go_wp2_with fail; go_ret
 exact⟨yx HA.out,HX2.out⟩
set_option maxRecDepth 100000 in
set_option maxHeartbeats 1000000 in
theorem zhS (F:Nat)(lb:Array Value)(f:Int→Bool)(A:Option Addr)(c:Nat)(xs:List Int)(w:World)(hP:xW w A xs)(hl:xs.length≤9223372036854775807)(eg:Enters Tryz.prog F)
 (hf:∀(wr:World) (x:Int),Ext w wr→x∈xs→Calls Tryz.prog F (#[.int .i64 x]++lb) wr fun e w'=>e=.returned (.bool (f x))∧Ext wr w'):
 Calls Tryz.prog 127 #[.slice A xs.length c,.func (.func F) #[] lb] w fun e w'=>e=.returned (.int .i64 (qV f 0 xs))∧Ext w w':=by
 have HP:=zh hP; have HF:=zh hf; unfold Enters at eg; clear hP hf; go_in
 go_wp2
 go_loopw [8] (fun i wr=>∃j:Nat,j≤xs.length∧i=.int .i64 j∧Hid (qV f 0 xs=qV f j (xs.drop j))∧Ext w wr) (fun i _=>xs.length - (intOf i).toNat)
 case atStart=>exact⟨0,Nat.zero_le _,rfl,zh rfl,xi⟩
 case round=>
  obtain⟨j,hj,rfl,he,hx⟩:=hrel
  by_cases hlt:j < xs.length
  ·obtain⟨b,off,rfl,hb,hcell⟩:=(HP.out.ext hx) (by omega)
   have d0:=hcell j hlt
   obtain⟨x,hxe⟩:∃x,xs.getD j 0=x:=⟨_,rfl⟩
   have hxm:xs[j]=x:=by rw[←hxe,List.getD_eq_getElem?_getD,List.getElem?_eq_getElem hlt];rfl
   rw[hxe]at d0
   have CF:=zh (HF.out wr x hx (hxm▸List.getElem_mem hlt)); have HS:Hid (qV f j (xs.drop j)=if f x then(j:Int)else qV f (j+1) (xs.drop (j+1))):=by
    rw[List.drop_eq_getElem_cons hlt,hxm]
    exact zh rfl
   have HX:=zh hx; clear hcell hx hxe hxm; go_wp2_with fail; refine CF.out.mono ?_; rintro e w2 ⟨rfl,hx2⟩; have HX2:=zh (HX.out.trans hx2); clear hx2; cases hfp:f x with
   |true=>
    rw[hfp]at HS
    have HS':=zh HS.out; clear hfp HS; go_wp2_with fail; go_ret
    exact⟨yt (by rw[he.out,HS'.out];rfl),HX2.out⟩
   |false=>
    rw[hfp]at HS
    have HS':=zh HS.out; clear hfp HS; go_wp2_with fail; go_roundw
    case rel=>exact⟨j+1,by omega,by go_num,zh (by rw[he.out,HS'.out];rfl),HX2.out⟩
    case measure=>simp[intOf];omega
  ·obtain rfl:j=xs.length:=by omega
   have HX:=zh hx; clear hx; go_wp2_with fail; go_ret
   exact⟨yt (by rw[he.out,List.drop_eq_nil_of_le (Nat.le_refl _)];rfl),HX.out⟩
theorem zh3 (F:Nat)(lb:Array Value)(f:Int→Bool)(A:Option Addr)(c:Nat)(xs:List Int)(w:World)(hP:xW w A xs)(hl:xs.length≤9223372036854775000)(eg:Enters Tryz.prog F)
 (hf:∀(wr:World) (x:Int),Ext w wr→x∈xs→Calls Tryz.prog F (#[.int .i64 x]++lb) wr fun e w'=>e=.returned (.bool (f x))∧Ext wr w'):
 Calls Tryz.prog 102 #[.slice A xs.length c,.func (.func F) #[] lb] w fun e w'=>e=.returned (.bool (xs.any f))∧Ext w w':=by
 have CF:=zh (zhS F lb f A c xs w hP (by omega) eg hf); have HB:=Qu f xs 0; have HA:=zh (Ya f xs 0); clear hP hf eg; go_in
 go_wp2_with fail; refine CF.out.mono ?_; rintro e w2 ⟨rfl,hx2⟩; have HX2:=zh hx2; clear hx2; go_wp2_with fail; go_ret
 exact⟨yx HA.out,HX2.out⟩
attribute [local go_sem] Oper.semAt_some
structure Few (ps:List Prt):Prop where
 len:ps.length≤524288
 kids:∀j,kc (nds ps) 0 j≤1000000
theorem vy {ps:List Prt}(h:ps.length≤524288):(xR (nds ps)→JH (nds ps)=0)∧(¬xR (nds ps)→JH (nds ps)=2):=by
 have hl:=zx ps; unfold JH
 rw[if_neg (by omega)]
 exact⟨fun h=>if_pos h,fun h=>if_neg h⟩
theorem xR.ends {l:List Nd}(T:xR l){ok:Bool}{M:Nat}(ht:yP l [0] 0 ok M):ok=true∧M=l.length:=T.trek.det ht
theorem zax {l:List Nd}{ok:Bool}(ht:yP l [0] 0 ok l.length):kc l 0 l.length+1=l.length↔ok=true:=by
 have:=ht.count
 simp only[List.length_singleton]at this
 cases ok with
 |true=>have:=this.1 rfl;simp;omega
 |false=>have:=this.2 rfl;simp;omega
theorem Yt (W:World){D k:Nat}(o:Obj)(h:D≠k):(W.putObj D o).heap[k]?=W.heap[k]?:=World.putObj_heap_other (by omega)
def ziA (ps:List Prt):Prop:=∀p∈ps,zeE ps.length p.nd.kids
theorem zfm {ps:List Prt}(ht:yP (nds ps) [0] 0 true ps.length):ziA ps:=by
 intro p hp k hk
 obtain⟨j,hj,rfl⟩:=List.getElem_of_mem hp
 obtain⟨q,m,h1,h2,h3⟩:=ht.inside rfl j (Nat.zero_le _) (by omega)
 rw[yJ (List.getElem?_eq_getElem hj)]at h1
 injection h1 with h1; subst h1
 obtain⟨i,e,_,h5⟩:=h2.kid rfl k hk
 exact⟨i,e,by omega⟩
set_option maxRecDepth 100000 in
set_option maxHeartbeats 1000000 in
theorem zct (lb:Nat)(A:Option Addr)(c:Nat)(ps:List Prt)(p:Prt)(w:World)(hlb:w.heap[lb]?=some (.cells #[.slice A ps.length c] 45))(hP:j4 w A ps)(hl:ps.length≤9223372036854775807)(hp:jF w p)(hk:zeE ps.length p.nd.kids):
 Calls Tryz.prog 109 #[zf5 p,pt lb] w fun e w'=>e=.returned (.bool (!qo (nds ps) p.nd.hi p.nd.lo p.nd.kids))∧Ext w w':=by
 have CL:=zh (fun w1 h1 h2=>zfL A c ps p w1 h1 hl h2 hk); have HP:=zh hP; have HPO:=zh hp; have c1:=cr 0 hlb; simp at c1
 have l1:=za hlb; clear hP hp hk hlb; go_in
 go_wp2_with fail
 refine(CL.out _ (HP.out.ext xi) (HPO.out.ext xi)).mono ?_
 rintro e w2 ⟨rfl,hx2⟩; have HX2:=zh hx2; clear hx2; go_wp2_with fail; go_ret
 exact⟨rfl,((Ext.refl _).alloc _).trans HX2.out⟩
set_option maxRecDepth 100000 in
set_option maxHeartbeats 3000000 in
theorem zab (A:Option Addr)(c:Nat)(ps:List Prt)(w:World)(hP:j4 w A ps)(hO:qy w ps)(hf:Few ps):
 Calls Tryz.prog 73 #[.slice A ps.length c] w fun e w'=>e=.returned (.int .i64 (JH (nds ps)))∧Ext w w':=by
 obtain⟨ok,M,ht⟩:=YR (nds ps) (nds ps).length [0] 0 (by omega)
 have hM:M≤ps.length:=by have:=ht.le.2 (Nat.zero_le _);rwa[zx]at this
 have hlen:=hf.len; have HFK:=zh hf.kids; have HP:=zh hP; have HO:=zh hO; have HT:=zh ht; have HC:=zh (vy hlen); clear hP hO ht hf; have hd0:decide ((524288:Int) < (ps.length:Int))=false:=decide_eq_false (by omega); refine qN Tryz.func73 rfl ?_; simp only[Tryz.ntmps73,List.size_toArray,List.length_cons,List.length_nil,Nat.reduceAdd,Nat.reduceSub,Array.replicate_succ,Array.replicate_zero,List.push_toArray,List.append_toArray,List.nil_append,List.cons_append]
 go_wp2_with (go_at_call 106;refine(zfn _ _ _ _).mono ?_;rintro e w2 ⟨rfl,rfl⟩)
 obtain⟨b,hb⟩:∃b,w.heap.size=b:=⟨_,rfl⟩
 obtain⟨W5,hW5⟩:∃W5,((((w.alloc (Obj.cells #[Value.slice A ps.length c] 45)).alloc (Obj.cells #[Value.int IntKind.i64 0] 30)).alloc (Obj.cells #[Value.int IntKind.i64 0] 3)).alloc (Obj.cells #[Value.slice A ps.length c] 45)).alloc (Obj.cells #[Value.int IntKind.i64 0] 3)=W5:=⟨_,rfl⟩
 have X5:Ext w W5:=by rw[←hW5];exact xi
 have S5:W5.heap.size=b+5:=by rw[←hW5,←hb];simp
 have G0:W5.heap[b]?=some (.cells #[.slice A ps.length c] 45):=by rw[←hW5,←hb];exact(by simp only[zm,World.size_alloc];(repeat(split;(first|rfl|(exfalso;omega))));(try(first|(exfalso;omega)|simp_all)))
 have G1:W5.heap[b+1]?=some (.cells #[.int .i64 0] 30):=by rw[←hW5,←hb];exact(by simp only[zm,World.size_alloc];(repeat(split;(first|rfl|(exfalso;omega))));(try(first|(exfalso;omega)|simp_all)))
 have G2:W5.heap[b+1+1]?=some (.cells #[.int .i64 0] 3):=by rw[←hW5,←hb];exact(by simp only[zm,World.size_alloc];(repeat(split;(first|rfl|(exfalso;omega))));(try(first|(exfalso;omega)|simp_all)))
 have G3:W5.heap[b+1+1+1]?=some (.cells #[.slice A ps.length c] 45):=by rw[←hW5,←hb];exact(by simp only[zm,World.size_alloc];(repeat(split;(first|rfl|(exfalso;omega))));(try(first|(exfalso;omega)|simp_all)))
 have G4:W5.heap[b+1+1+1+1]?=some (.cells #[.int .i64 0] 3):=by rw[←hW5,←hb];exact(by simp only[zm,World.size_alloc];(repeat(split;(first|rfl|(exfalso;omega))));(try(first|(exfalso;omega)|simp_all)))
 rw[hW5,hb]
 clear hW5
 refine zbp (gf:=128) (lb:=#[pt (b+1+1+1+1),pt (b+1+1+1)]) (encs:=ziM) (xs:=Yw M) (S:=fun k=>k=b+1∨k=b+1+1∨b+5≤k) rfl (enters_of Tryz.func128 (by kernel_rfl) rfl) (fun _=>rfl) (fun k hk=>by omega)
  (fun w1 hx _=>zeu A c ps w w1 _ _ _ ok M HP.out HO.out (by omega) (X5.trans hx).below (zb G3 hx) (by omega) (by omega) (zb G4 hx) (by omega) HT.out)
  (fun j W'=>W'.heap[b]?=some (.cells #[.slice A ps.length c] 45)∧W'.heap[b+1]?=some (.cells #[.int .i64 0] 30)∧W'.heap[b+1+1]?=some (.cells #[.int .i64 (j:Int)] 3)∧Below w.heap.size w W'∧
    ∀i p,i < j→ps[i]?=some p→ZW p.nd∧(0 < i→p.nd.kind≠1))
  (fun cd j W'=>cd=.ret∧¬xR (nds ps)∧W'.heap[b+1]?=some (.cells #[.int .i64 2] 30)∧Below w.heap.size w W') ?_ ?_ ⟨G0,G1,G2,X5.below,fun i p hi=>by omega⟩ ?_ ?_ ?_
 ·rintro j U U' hbe hsz ⟨i1,i2,i3,i4,i5⟩
  rw[S5]at hbe hsz
  exact⟨(hbe.block _ (by omega)).trans i1,(hbe.block _ (by omega)).trans i2,(hbe.block _ (by omega)).trans i3,i4.trans (hbe.mono (by omega)),i5⟩
 ·rintro cd j U U' hbe hsz ⟨i1,i2,i3,i4⟩
  rw[S5]at hbe hsz
  exact⟨i1,i2,(hbe.block _ (by omega)).trans i3,i4.trans (hbe.mono (by omega))⟩
 ·rintro l j x W' hx _ hsz
  obtain⟨rfl,hjM⟩:=zcS hx
  simp only[ziM]
  gi_wp2
  refine⟨Ext.refl _,?_⟩
  rintro W2 t2 ⟨i1,i2,i3,i4,i5⟩ hsz2; clear hx t2 hsz
  obtain⟨p,hp⟩:∃p,ps[j]?=some p:=⟨_,List.getElem?_eq_getElem (by omega)⟩
  have c1:=cr 0 i1; have c2:=cr 0 i2; have c3:=cr 0 i3; simp at c1 c2 c3
  have l1:=za i1; have l2:=za i2; have l3:=za i3; have r2:W2.frozen? ⟨b+1,0,none⟩=false:=by simp[World.frozen?,i2]
  have r3:W2.frozen? ⟨b+1+1,0,none⟩=false:=by simp[World.frozen?,i3]
  obtain⟨bA,off,rfl,hbA,hcell⟩:=(HP.out.below i4) (by omega)
  obtain⟨d0,d1,d2,d3,d4,d5,d6,d7⟩:=hcell j p hp
  have I1:=zh i1; have I2:=zh i2; have I3:=zh i3; have I4:=zh i4; have I5:=zh i5; have HPJ:=zh hp; clear i1 i2 i3 i4 i5 hp hcell
  have fin2:∀(os:List Obj) (k:Nat),¬xR (nds ps)→zA (fun b1=>((b1=b+1∨b1=b+1+1∨b+5≤b1)∧b1 < W5.heap.size)∨W'.heap.size≤b1) W2 (more (W2.setCell ⟨b+1,0,none⟩ (.int .i64 2)) os k)∧
   ¬xR (nds ps)∧(more (W2.setCell ⟨b+1,0,none⟩ (.int .i64 2)) os k).heap[b+1]?=some (.cells #[.int .i64 2] 30)∧Below w.heap.size w (more (W2.setCell ⟨b+1,0,none⟩ (.int .i64 2)) os k):=fun os k hT=>by
   have T:=zA.setCell (S:=fun k=>k=b+1) W2 (p:=⟨b+1,0,none⟩) rfl (.int .i64 2); have E:Ext (W2.setCell ⟨b+1,0,none⟩ (.int .i64 2)) (more (W2.setCell ⟨b+1,0,none⟩ (.int .i64 2)) os k):=⟨os,k,rfl⟩; have T2:=T.trans (zA.of_ext E)
   refine⟨T2.mono fun k _ hk=>.inl ⟨.inl hk,by omega⟩,hT,zb ?_ E,I4.out.trans (T2.below I4.out.size fun k hk=>by omega)⟩
   simp[World.setCell,Array.getElem?_modify,I2.out]
  have fin1:∀(os:List Obj) (k:Nat),ZW p.nd∧(0 < j→p.nd.kind≠1)→zA (fun b1=>((b1=b+1∨b1=b+1+1∨b+5≤b1)∧b1 < W5.heap.size)∨W'.heap.size≤b1) W2 (more (W2.setCell ⟨b+1+1,0,none⟩ (.int .i64 ((j:Int)+1))) os k)∧
   (more (W2.setCell ⟨b+1+1,0,none⟩ (.int .i64 ((j:Int)+1))) os k).heap[b]?=some (.cells #[.slice (some ⟨bA,off,none⟩) ps.length c] 45)∧(more (W2.setCell ⟨b+1+1,0,none⟩ (.int .i64 ((j:Int)+1))) os k).heap[b+1]?=some (.cells #[.int .i64 0] 30)∧
   (more (W2.setCell ⟨b+1+1,0,none⟩ (.int .i64 ((j:Int)+1))) os k).heap[b+1+1]?=some (.cells #[.int .i64 ((j+1:Nat):Int)] 3)∧Below w.heap.size w (more (W2.setCell ⟨b+1+1,0,none⟩ (.int .i64 ((j:Int)+1))) os k)∧
   ∀i p,i < j+1→ps[i]?=some p→ZW p.nd∧(0 < i→p.nd.kind≠1):=fun os k hT=>by
   have T:=zA.setCell (S:=fun k=>k=b+1+1) W2 (p:=⟨b+1+1,0,none⟩) rfl (.int .i64 ((j:Int)+1)); have E:Ext (W2.setCell ⟨b+1+1,0,none⟩ (.int .i64 ((j:Int)+1))) (more (W2.setCell ⟨b+1+1,0,none⟩ (.int .i64 ((j:Int)+1))) os k):=⟨os,k,rfl⟩; have T2:=T.trans (zA.of_ext E)
   refine⟨T2.mono fun k _ hk=>.inl ⟨.inr (.inl hk),by omega⟩,(T2.block _ l1 (by omega)).trans I1.out,(T2.block _ l2 (by omega)).trans I2.out,zb ?_ E,I4.out.trans (T2.below I4.out.size fun k hk=>by omega),fun i q hi hq=>?_⟩
   ·simp[World.setCell,Array.getElem?_modify,I3.out]
   ·rcases(show i < j∨i=j by omega)with h|rfl
    ·exact I5.out i q h hq
    ·rw[HPJ.out]at hq
     injection hq with hq; subst hq; exact hT
  have notT:¬(ZW p.nd∧(0 < j→p.nd.kind≠1))→¬xR (nds ps):=fun hn T=>hn (T.bare j _ (yJ HPJ.out)); have F1:=zh fin1; have F2:=zh fin2; have NT:=zh notT; clear fin1 fin2 notT; by_cases hB:ZW p.nd
  ·have hBd:decide (ZW p.nd)=true:=decide_eq_true hB; have HB:=zh hB; clear hB; by_cases hj:0 < j
   ·have hj1:decide (0 < j)=true:=decide_eq_true hj; have HJ:=zh hj; clear hj; by_cases hk:p.nd.kind=1
    ·have hk1:(p.nd.kind==1)=true:=by simpa using hk
     have HK:=zh hk; clear hk
     gi_wp2_with (first|(refine⟨trivial,rfl,?_⟩;refine(CallsIn.inRound l (callsIn_wide.2 (YZ p _))).mono ?_;rintro e w3 ⟨rfl,os3,k3,rfl⟩))
     have h:=F2.out os3 k3 (NT.out fun hh=>hh.2 HJ.out HK.out)
     exact⟨h.1,rfl,h.2⟩
    ·have hk1:(p.nd.kind==1)=false:=by simpa using hk
     have HK:=zh hk; clear hk
     gi_wp2_with (first|(refine⟨trivial,rfl,?_⟩;refine(CallsIn.inRound l (callsIn_wide.2 (YZ p _))).mono ?_;rintro e w3 ⟨rfl,os3,k3,rfl⟩))
     exact F1.out _ _ ⟨HB.out,fun _=>HK.out⟩
   ·have hj1:decide (0 < j)=false:=decide_eq_false hj; have HJ:=zh hj; clear hj
    gi_wp2_with (first|(refine⟨trivial,rfl,?_⟩;refine(CallsIn.inRound l (callsIn_wide.2 (YZ p _))).mono ?_;rintro e w3 ⟨rfl,os3,k3,rfl⟩))
    exact F1.out _ _ ⟨HB.out,fun h=>absurd h HJ.out⟩
  ·have hBd:decide (ZW p.nd)=false:=decide_eq_false hB; have HB:=zh hB; clear hB
   gi_wp2_with (first|(refine⟨trivial,rfl,?_⟩;refine(CallsIn.inRound l (callsIn_wide.2 (YZ p _))).mono ?_;rintro e w3 ⟨rfl,os3,k3,rfl⟩))
   have h:=F2.out os3 k3 (NT.out fun hh=>HB.out hh.1)
   exact⟨h.1,rfl,h.2⟩
 ·rintro D W' ⟨i1,i2,i3,i4,i5⟩ hD hsz hk
  rw[jy]at i3 i5
  have c1:=cr 0 i1; have c2:=cr 0 i2; have c3:=cr 0 i3; simp at c1 c2 c3
  have l1:=za i1; have l2:=za i2; have l3:=za i3; have lD:=za hk; have r2:W'.frozen? ⟨b+1,0,none⟩=false:=by simp[World.frozen?,i2]
  have fin:∀(X:World) (v:Int),Ext W' X→Ext w ((X.setCell ⟨b+1,0,none⟩ (.int .i64 v)).putObj D (.deferred none))∧((X.setCell ⟨b+1,0,none⟩ (.int .i64 v)).putObj D (.deferred none)).cell? ⟨b+1,0,none⟩=some (.int .i64 v)∧
   (X.setCell ⟨b+1,0,none⟩ (.int .i64 v)).heap[D]?=some (.deferred (some [])):=fun X v hX=>by
   have T:=zA.setCell (S:=fun k=>k=b+1) X (p:=⟨b+1,0,none⟩) rfl (.int .i64 v); have hX2:=zb i2 hX; have hXD:=zb hk hX; have h1:(X.setCell ⟨b+1,0,none⟩ (.int .i64 v)).heap[b+1]?=some (.cells #[.int .i64 v] 30):=by simp[World.setCell,Array.getElem?_modify,hX2]
   have i4X:=i4.trans (hX.below.mono i4.size); have i4X2:=i4X.trans (T.below i4X.size fun k hk=>by omega)
   refine⟨Ext.of_below (i4X2.trans ((yC (S:=fun b=>b=D) _ _ rfl).below i4X2.size fun k hk=>by omega)),?_,(T.block _ (za hXD) (by omega)).trans hXD⟩
   have:=cr 0 ((Yt (X.setCell ⟨b+1,0,none⟩ (.int .i64 v)) (.deferred none) (show D≠b+1 by omega)).trans h1)
   simpa using this
  have FX:=zh (fun(X:World) (hX:Ext W' X)=>(⟨(hX.below.cell (p:=⟨b,0,none⟩) l1).trans c1,(hX.below.cell (p:=⟨b+1,0,none⟩) l2).trans c2,(hX.below.frozen (p:=⟨b+1,0,none⟩) l2).trans r2,Nat.lt_of_lt_of_le l1 hX.size,Nat.lt_of_lt_of_le l2 hX.size⟩:
   X.cell? ⟨b,0,none⟩=some (.slice A ps.length c)∧X.cell? ⟨b+1,0,none⟩=some (.int .i64 0)∧X.frozen? ⟨b+1,0,none⟩=false∧b < X.heap.size∧b+1 < X.heap.size))
  have I1:=zh i1; have I4:=zh i4; have I5:=zh i5; have FIN:=zh fin; have HK:=zh hk; clear i1 i2 i3 i4 i5 fin hk; by_cases hML:M=ps.length
  ·have hm1:((M:Int) !=(ps.length:Int))=false:=by simp[hML]
   by_cases h0:M=0
   ·have hm2:((M:Int)==0)=true:=by simp[h0]
    have HML:=zh hML; have H0:=zh h0; clear hML h0; go_wp2_with fail
    obtain⟨f1,f2,f3⟩:=FIN.out W' 2 (Ext.refl _)
    refine qh (D:=D) (v:=.int .i64 2) rfl f3 (by simp[results,Tryz.results73,go_sem,f2]) ⟨by rw[HC.out.2 (fun T=>by have:=T.pos;rw[zx]at this;have:=HML.out;have:=H0.out;omega)],f1⟩
   ·have hm2:((M:Int)==0)=false:=by simp[h0]
    have HT2:Hid (yP (nds ps) [0] 0 ok (nds ps).length):=by rw[zx,←hML];exact HT.out
    clear hML h0; go_wp2_with fail; go_loopw [5,44] (fun s i wr=>∃j n:Nat,j≤ps.length∧i=.int .i64 j∧s=.int .i64 n∧Hid (n=kc (nds ps) 0 j)∧n≤1000000∧Ext W' wr) (fun _ i _=>ps.length - (intOf i).toNat)
    case atStart=>exact⟨0,0,Nat.zero_le _,rfl,rfl,zh (zea _ _).symm,by omega,Ext.refl _⟩
    case round=>
     obtain⟨j,n,hj,rfl,rfl,hn,hn2,hx⟩:=hrel
     by_cases hlt:j < ps.length
     ·obtain⟨p,hp⟩:∃p,ps[j]?=some p:=⟨_,List.getElem?_eq_getElem hlt⟩
      obtain⟨bA,off,rfl,hbA,hcell⟩:=(HP.out.below (I4.out.trans (hx.below.mono I4.out.size))) (by omega)
      obtain⟨d0,d1,d2,d3,d4,d5,d6,d7⟩:=hcell j p hp
      have HN:Hid (n+p.nd.kids.length=kc (nds ps) 0 (j+1)):=by rw[Yr _ (Nat.zero_le j) (show j≤j+1 by omega),zbD (yJ hp),←hn.out];exact zh rfl
      have hb1:n+p.nd.kids.length≤1000000:=by rw[HN.out];exact HFK.out _
      have HX:=zh hx; clear hx hcell hp; go_wp2_with fail; go_roundw
      case rel=>exact⟨j+1,n+p.nd.kids.length,by omega,by go_num,by go_num,HN,hb1,HX.out.alloc _⟩
      case measure=>simp[intOf];omega
     ·obtain rfl:j=ps.length:=by omega
      obtain⟨g1,g2,g3,g4,g5⟩:=FX.out wr hx
      have HX:=zh hx; clear hx; by_cases hke:n+1=ps.length
      ·have hok:ok=true:=(zax HT2.out).1 (by rw[zx,←hn.out];exact hke); have ht3:yP (nds ps) [0] 0 true ps.length:=by have:=HT2.out;rw[hok,zx]at this;exact this
       have hke2:((n:Int) !=(ps.length:Int) - 1)=false:=by simp;omega
       have KO:=zh (zfm ht3); have HT3:=zh ht3; have HML2:Hid (M=ps.length):=zh (by have:=(HT2.out.det HT.out).2;rwa[zx]at this)
       have CA:=zh (zg8 109 #[pt b] (fun p=> !qo (nds ps) p.nd.hi p.nd.lo p.nd.kids) A c ps wr (HP.out.below (I4.out.trans (HX.out.below.mono I4.out.size))) (by omega)
        (enters_of Tryz.func109 (by kernel_rfl) rfl) (fun w1 p h1 h2=>zct b A c ps p w1 (zb (zb I1.out HX.out) h1) (HP.out.below (I4.out.trans ((HX.out.trans h1).below.mono I4.out.size))) (by omega)
         ((HO.out p h2).below (I4.out.trans ((HX.out.trans h1).below.mono I4.out.size))) (KO.out p h2)))
       clear hke hok ht3; go_wp2_with fail; refine CA.out.mono ?_; rintro e w2 ⟨rfl,hx2⟩
       obtain⟨k1,k2,k3,k4,k5⟩:=FX.out w2 (HX.out.trans hx2)
       have HX2:=zh (HX.out.trans hx2); clear hx2; cases hany:ps.any (fun p=> !qo (nds ps) p.nd.hi p.nd.lo p.nd.kids)with
       |true=>
        have hnT:¬xR (nds ps):=fun T=>by
         obtain⟨p,hp,hq⟩:=List.any_eq_true.1 hany
         rw[T.lies p.nd (List.mem_map.2 ⟨p,hp,rfl⟩)]at hq
         cases hq
        have HNT:=zh hnT; clear hany hnT; go_wp2_with fail
        obtain⟨f1,f2,f3⟩:=FIN.out w2 2 HX2.out
        refine qh (D:=D) (v:=.int .i64 2) rfl f3 (by simp[results,Tryz.results73,go_sem,f2]) ⟨by rw[HC.out.2 HNT.out],f1⟩
       |false=>
        have hT:xR (nds ps):=by
         refine⟨fun i q hq=>?_,by rw[zx];exact HT3.out,fun q hq=>?_⟩
         ·obtain⟨p,hp,rfl⟩:=ZE hq
          exact I5.out i p (by have:=yw hp;have:=HML2.out;omega) hp
         ·obtain⟨p,hp,rfl⟩:=List.mem_map.1 hq
          have:=List.any_eq_false.1 hany p hp
          simpa using this
        have HNT:=zh hT; clear hany hT; go_wp2_with fail
        obtain⟨f1,f2,f3⟩:=FIN.out w2 0 HX2.out
        refine qh (D:=D) (v:=.int .i64 0) rfl f3 (by simp[results,Tryz.results73,go_sem,f2]) ⟨by rw[HC.out.1 HNT.out],f1⟩
      ·have hnT:¬xR (nds ps):=fun T=>hke (by
        have h1:=(T.ends HT.out).1
        have:=(zax HT2.out).2 h1
        rw[zx,←hn.out]at this
        exact this)
       have HNT:=zh hnT; have hke2:((n:Int) !=(ps.length:Int) - 1)=true:=by simp;omega
       clear hke hnT; go_wp2_with fail
       obtain⟨f1,f2,f3⟩:=FIN.out wr 2 HX.out
       refine qh (D:=D) (v:=.int .i64 2) rfl f3 (by simp[results,Tryz.results73,go_sem,f2]) ⟨by rw[HC.out.2 HNT.out],f1⟩
  ·have hm1:((M:Int) !=(ps.length:Int))=true:=by simp;omega
   have HML:=zh hML; clear hML; go_wp2_with fail
   obtain⟨f1,f2,f3⟩:=FIN.out W' 2 (Ext.refl _)
   refine qh (D:=D) (v:=.int .i64 2) rfl f3 (by simp[results,Tryz.results73,go_sem,f2]) ⟨by rw[HC.out.2 (fun T=>HML.out (by have:=(T.ends HT.out).2;rwa[zx]at this))],f1⟩
 ·rintro D cd j W' hj ⟨rfl,hT,i3,i4⟩ hD hsz hk; have hq:=(Yt W' (.deferred none) (show D≠b+1 by omega)).trans i3; have c1:=cr 0 hq; simp at c1
  go_wp2_with fail; refine qh (D:=D) (v:=.int .i64 2) rfl hk (by simp[results,Tryz.results73,go_sem,c1]) ⟨by rw[HC.out.2 hT],?_⟩; exact Ext.of_below (i4.trans ((yC (S:=fun b=>b=D) _ _ rfl).below i4.size fun k hk=>by omega))
end Go.Proofs.YtmbelmngniddjaaGreat
namespace Go.Proofs.YtmbelmngniddjaaGreat
open Go.RowKit
attribute [local go_sem] zF zB zI zJ zw zt zN zD zX zQ zK zP zO zL zT zR zS zG zM zC
structure PS (w:World)(A:Option Addr)(c:Nat)(ps:List Prt):Prop where
 parts:j4 w A ps
 oks:qy w ps
 few:Few ps
 cap:ps.length≤c
 top:c≤9223372036854775807
 none:A=.none→c=0
theorem PS.ext {w w':World}{A:Option Addr}{c:Nat}{ps:List Prt}(h:PS w A c ps)(e:Ext w w'):PS w' A c ps:=⟨h.parts.ext e,h.oks.ext e,h.few,h.cap,h.top,h.none⟩
theorem PS.below {w w':World}{A:Option Addr}{c:Nat}{ps:List Prt}(h:PS w A c ps)(e:Below w.heap.size w w'):PS w' A c ps:=⟨h.parts.below e,h.oks.below e,h.few,h.cap,h.top,h.none⟩
section
variable {A:Option Addr}{c:Nat}{ps:List Prt}{w:World}
theorem zbb (h:PS w A c ps)(T:xR (nds ps)):Calls Tryz.prog 73 #[.slice A ps.length c] w fun e w'=>e=.returned (.int .i64 0)∧Ext w w':=
 (zab A c ps w h.parts h.oks h.few).mono fun _ _ ⟨he,hx⟩=>⟨by rw[he,(vy h.few.len).1 T],hx⟩
theorem zfS (h:PS w A c ps)(T:¬xR (nds ps)):Calls Tryz.prog 73 #[.slice A ps.length c] w fun e w'=>e=.returned (.int .i64 2)∧Ext w w':=
 (zab A c ps w h.parts h.oks h.few).mono fun _ _ ⟨he,hx⟩=>⟨by rw[he,(vy h.few.len).2 T],hx⟩
set_option maxRecDepth 100000 in
set_option maxHeartbeats 1000000 in
theorem zja (i:Int)(h:PS w A c ps)(T:xR (nds ps)):Calls Tryz.prog 104 #[.slice A ps.length c,.int .i64 i] w fun e w'=>e=.returned (.bool (decide (0≤i)&&decide (i < (ps.length:Int))))∧Ext w w':=by
 have CH:=zh (zbb h T); have hl:=h.few.len; clear h T; go_in
 go_wp2_with fail; refine CH.out.mono ?_; rintro e w2 ⟨rfl,hx2⟩; have HX:=zh hx2; clear hx2; go_wp2_with fail; all_goals go_ret
 all_goals exact⟨yx (by rw[Bool.eq_iff_iff];simp;try omega),HX.out⟩
set_option maxRecDepth 100000 in
set_option maxHeartbeats 1000000 in
theorem zgb (i m:Nat)(h:PS w A c ps)(hp:YG (nds ps) i m):Calls Tryz.prog 105 #[.slice A ps.length c,.int .i64 i] w fun e w'=>e=.returned (.int .i64 m)∧Ext w w':=by
 have HS:=zh h; have HP:=zh hp; have hl:=h.few.len; have hm:m≤ps.length:=by have:=hp.le;rwa[zx]at this
 clear h hp; go_in
 go_wp2_with fail; go_loopw [1] (fun i wr=>∃c1:Nat,i=.int .i64 c1∧Hid (YG (nds ps) c1 m)∧Ext w wr) (fun i _=>m - (intOf i).toNat)
 case atStart=>exact⟨i,rfl,HP,Ext.refl _⟩
 case round=>
  obtain⟨c1,rfl,hc1,hx⟩:=hrel
  have hlt:=hc1.out.lt; have hlm:=hc1.out.lt_end
  rw[zx]at hlt
  obtain⟨⟨q,kA,kcap⟩,hq⟩:∃q,ps[c1]?=some q:=⟨_,List.getElem?_eq_getElem hlt⟩
  obtain⟨b,off,rfl,hb,hcell⟩:=(HS.out.ext hx).parts (by omega)
  obtain⟨_,_,_,_,_,_,d6,_⟩:=hcell c1 _ hq
  have ho:=(HS.out.ext hx).oks.get hq; have o1:=ho.cap; have o2:=ho.top; have HX:=zh hx; dsimp only at d6 o1 o2; rcases Nat.eq_zero_or_pos q.kids.length with h0|h0
  ·have e1:=hc1.out.leaf (yJ hq) (List.eq_nil_of_length_eq_zero h0); have g0:decide (0 < q.kids.length)=false:=by simp[h0]
   have E1:=zh e1; clear hcell hq ho hx h0 e1; go_wp2_with fail; go_ret
   exact⟨yt (by rw[E1.out];simp),HX.out⟩
  ·obtain⟨b2,off2,hkA,hb2,hc2⟩:=ho.kids h0
   change kA=_ at hkA; subst hkA; have e2:=hc2 (q.kids.length - 1) (by show _ < q.kids.length;omega); dsimp only at e2
   obtain⟨k,hk⟩:∃k,q.kids.getLast?=some k:=⟨_,List.getLast?_eq_some_getLast (by intro h;rw[h]at h0;simp at h0)⟩
   obtain⟨c2,rfl,hcc,hp2⟩:=hc1.out.last (yJ hq) hk
   have e3:q.kids.getD (q.kids.length - 1) 0=(c2:Int):=by
    rw[List.getLast?_eq_getElem?]at hk
    rw[List.getD_eq_getElem?_getD,hk]
    rfl
   rw[e3]at e2
   have g0:decide (0 < q.kids.length)=true:=by simp[h0]
   have HP2:=zh hp2; have s1:IntKind.i64.wrap ((q.kids.length:Int) - 1)=((q.kids.length - 1:Nat):Int):=by
    rw[show((q.kids.length:Int) - 1)=((q.kids.length - 1:Nat):Int)by omega]
    exact IntWalk.i64_in _ (by omega)
   have s2:q.kids.length - 1 < q.kids.length:=by omega
   clear hcell hq ho hx hc2 hk e3 hp2; go_upto_region 2 with fail; go_quiet (fail)
   go_wp2_with fail; go_roundw
   case rel=>exact⟨c2,rfl,HP2,HX.out.trans xi⟩
   case measure=>simp[intOf];omega
end
section
variable {A:Option Addr}{c:Nat}{ps:List Prt}{w:World}
def IsP (l:List Nd)(i:Int):Prop:=xR l∧0≤i∧i < (l.length:Int)
theorem zhM (i:Int)(h:PS w A c ps)(T:IsP (nds ps) i):Calls Tryz.prog 104 #[.slice A ps.length c,.int .i64 i] w fun e w'=>e=.returned (.bool true)∧Ext w w':=by
 obtain⟨T,h0,h1⟩:=T
 rw[zx]at h1
 refine(zja i h T).mono ?_
 rintro e w' ⟨rfl,hx⟩
 exact⟨yx (by rw[decide_eq_true h0,decide_eq_true h1];rfl),hx⟩
set_option maxRecDepth 100000 in
set_option maxHeartbeats 1000000 in
theorem zig (i m:Nat)(h:PS w A c ps)(T:xR (nds ps))(hp:YG (nds ps) i m):Calls Tryz.prog 71 #[.slice A ps.length c,.int .i64 i] w fun e w'=>e=.returned (.int .i64 m)∧Ext w w':=by
 have CH:=zh (zhM i h ⟨T,by omega,by have:=hp.lt;omega⟩); have HS:=zh h; have HP:=zh hp; clear h T hp; go_in
 go_wp2_with fail; refine CH.out.mono ?_; rintro e w2 ⟨rfl,hx2⟩; have HX:=zh hx2; clear hx2; go_wp2_with fail
 refine(zgb i m (HS.out.ext HX.out) HP.out).mono ?_
 rintro e w3 ⟨rfl,hx3⟩; have HX3:=zh hx3; clear hx3; go_wp2_with fail; go_ret
 exact⟨rfl,HX.out.trans HX3.out⟩
end

theorem zco (v:Value)(n:Nat):madeCells #[v] n=(List.replicate n v).toArray:=by
 apply Array.ext
 ·simp[madeCells]
 ·intro i h1 h2; simp[madeCells,Nat.mod_one]

set_option maxHeartbeats 1000000 in
theorem zgn (A B:Option Addr)(xs ys:List Int)(c d:Nat)(w:World)(hx:xW w A xs)(hy:xW w B ys)(bx:xs.length≤9223372036854775807)(by_:ys.length≤9223372036854775807):
 Calls Tryz.prog 19 #[.slice A xs.length c,.slice B ys.length d] w fun e w'=>e=.returned (.bool (decide (xs=ys)))∧Ext w w':=by
 by_cases hl:xs.length=ys.length
 ·rcases hx.empty_or with rfl|⟨h0,b,off,rfl,hb,hc⟩
  ·obtain rfl:ys=[]:=List.eq_nil_of_length_eq_zero hl.symm; go_in
   go_wp2
   refine wp_loop_rounds 1 ?_
   rw[rounds_succ]
   go_wp2
   go_ret
   exact⟨rfl,xi⟩
  ·rcases hy.empty_or with rfl|⟨h1,b',off',rfl,hb',hc'⟩
   ·simp only[List.length_nil]at hl;omega
   ·have hl2:((xs.length:Int) !=(ys.length:Int))=false:=by simp;omega
    have HC:=zh hc; have HC':=zh hc'; have HL:=zh hl; clear hc hc' hl hx hy; go_in
    go_wp2
    go_loopw [5] (fun i wr=>∃k:Nat,k≤xs.length∧i=.int .i64 k∧xs.take k=ys.take k∧Ext w wr) (fun i _=>xs.length - (intOf i).toNat)
    case atStart=>exact⟨0,by omega,rfl,by simp,xi⟩
    case round=>
     obtain⟨k,hk,rfl,ht,os,kk,rfl⟩:=hrel
     have HT:=zh ht; clear ht; by_cases hlt:k < xs.length
     ·have c1:=HC.out k hlt; have c2:=HC'.out k (by rw[←HL.out];exact hlt); have hlt':k < ys.length:=by have:=HL.out;omega
      generalize hu:xs.getD k 0=u at*
      generalize hv:ys.getD k 0=v at*
      have HU:=zh hu; have HV:=zh hv; clear hu hv; by_cases e:u=v
      ·have e1:(u !=v)=false:=by simp[e]
       have E:=zh e; clear e; go_upto_region 5 with fail; go_quiet (fail)
       go_wp2
       go_roundw
       case rel=>exact⟨k+1,by omega,by go_num,by rw[qu hlt,qu hlt',HT.out,HU.out,HV.out,E.out],xi⟩
       case measure=>simp[intOf];omega
      ·have e1:(u !=v)=true:=by simp[e]
       have E:=zh e; clear e; go_upto_region 5 with fail; go_quiet (fail)
       go_wp2
       go_ret
       refine⟨yx ?_,xi⟩
       symm
       rw[decide_eq_false_iff_not]
       intro h; apply E.out
       rw[←HU.out,←HV.out,h]
     ·go_wp2
      go_ret
      refine⟨yx ?_,xi⟩
      symm
      rw[decide_eq_true_eq]
      have:=HT.out
      have h2:=HL.out; rwa[List.take_of_length_le (by omega),List.take_of_length_le (by omega)]at this
 ·have hl2:((xs.length:Int) !=(ys.length:Int))=true:=by simp;omega
  have hl3:decide (xs=ys)=false:=by
   rw[decide_eq_false_iff_not]
   intro h; exact hl (by rw[h])
  have HL:=zh hl3; clear hl hl3; go_in
  go_wp2
  go_ret
  exact⟨yx HL.out.symm,xi⟩
theorem zhB (l:List Nd)(j:Nat):kc l 0 j≤kc l 0 l.length:=by
 rcases Nat.le_total j l.length with h|h
 ·rw[Yr l (Nat.zero_le j) h]
  omega
 ·unfold kc
  rw[List.take_of_length_le h,List.take_of_length_le (Nat.le_refl _)]
  exact Nat.le_refl _
def pv (ps:List Prt):List Value:=ps.flatMap yh
theorem JL (ps:List Prt):(pv ps).length=ps.length*8:=by
 induction ps with
 |nil=>rfl
 |cons p ps ih=>simp only[pv,List.flatMap_cons,List.length_append,List.length_cons]at*;rw[ih];simp[yh];omega
theorem zdR (ps qs:List Prt):pv (ps++qs)=pv ps++pv qs:=List.flatMap_append
theorem zhD:∀{ps:List Prt} {k:Nat} {p:Prt} (r:Nat),ps[k]?=some p→r < 8→(pv ps)[k*8+r]?=(yh p)[r]?
 |[],k,p,r,h,_=>by simp at h
 |q ::ps,0,p,r,h,hr=>by
  simp at h
  subst h; simp only[pv,List.flatMap_cons,Nat.zero_mul,Nat.zero_add]
  rw[List.getElem?_append_left (by simp[yh];omega)]
 |q ::ps,k+1,p,r,h,hr=>by
  simp only[pv,List.flatMap_cons]
  rw[List.getElem?_append_right (by simp[yh];omega)]
  have:=zhD (ps:=ps) (k:=k) r (by simpa using h) hr
  rw[←this]
  congr 1
  simp[yh]
  omega
theorem j4.of_cells {w:World}{A:Option Addr}{ps:List Prt}(h:yI w A (pv ps)):j4 w A ps:=fun h0=>by
 obtain⟨b,off,hA,hb,hc⟩:=h (by rw[JL];omega)
 refine⟨b,off,hA,hb,fun k p hk=>?_⟩
 have key:∀r v,r < 8→(yh p)[r]?=some v→w.cell? ⟨b,off+k*8+r,none⟩=some v:=fun r v hr hv=>by
  rw[Nat.add_assoc]
  exact hc _ _ ((zhD r hk hr).trans hv)
 exact⟨by have:=key 0 _ (by omega) rfl;simpa using this,key 1 _ (by omega) rfl,key 2 _ (by omega) rfl,key 3 _ (by omega) rfl,key 4 _ (by omega) rfl,key 5 _ (by omega) rfl,key 6 _ (by omega) rfl,key 7 _ (by omega) rfl⟩
theorem zjj (ps:List Prt):∀u∈pv ps,u.oneCell'=true:=by
 intro u hu
 obtain⟨x,_,hx⟩:=List.mem_flatMap.1 hu
 simp only[yh,List.mem_cons,List.not_mem_nil,or_false]at hx
 rcases hx with rfl|rfl|rfl|rfl|rfl|rfl|rfl|rfl<;>rfl
theorem j4.of_block {w:World}{g:Nat}{cs:Array Value}{t:TypeId}{ps:List Prt}(h:w.heap[g]?=some (.cells cs t))(hc:cs.toList=pv ps):j4 w (some ⟨g,0,none⟩) ps:=by
 refine j4.of_cells fun _=>⟨g,0,rfl,za h,fun k u hu=>?_⟩
 rw[←hc,Array.getElem?_toList]at hu
 rw[Nat.zero_add,cell_of_row _ _ _ _ _ (0,0) h]
 exact hu
theorem xW.of_block {w:World}{g:Nat}{cs:Array Value}{t:TypeId}{xs:List Int}(h:w.heap[g]?=some (.cells cs t))(hc:cs.toList=iv xs):xW w (some ⟨g,0,none⟩) xs:=fun h0=>by
 refine⟨g,0,rfl,za h,fun k hk=>?_⟩
 have:=J8 hk
 rw[←hc,Array.getElem?_toList]at this
 rw[Nat.zero_add,cell_of_row _ _ _ _ _ (0,0) h]
 exact this
def smI (x:Int):Bool:=decide (-1000000≤x)&&decide (x≤1000000)
theorem Qb {x:Int}(h:smI x=true):I64 x:=by
 unfold smI at h; simp only[Bool.and_eq_true,decide_eq_true_eq]at h
 unfold I64; omega
def zhe (p:Nd):Bool:=smI p.sym&&smI p.kind&&smI p.lo&&smI p.inn&&smI p.hi&&smI p.look&&(decide (0≤p.met)&&decide (p.met≤1000000))&&p.kids.all smI
theorem jF.lit {w:World}{p:Prt}(hk:xW w p.kA p.nd.kids)(hc:p.nd.kids.length≤p.kc)(ht:p.kc≤1000)(hn:p.kA=.none→p.kc=0)(hs:zhe p.nd=true):jF w p:=by
 unfold zhe at hs; simp only[Bool.and_eq_true,decide_eq_true_eq]at hs
 obtain⟨⟨⟨⟨⟨⟨⟨s1,s2⟩,s3⟩,s4⟩,s5⟩,s6⟩,s7⟩,s8⟩:=hs
 exact⟨hk,hc,by omega,hn,Qb s1,Qb s2,Qb s3,Qb s4,Qb s5,Qb s6,by omega,fun k hk=>Qb (List.all_eq_true.1 s8 k hk)⟩
theorem zkh {α:Type}{a b c d x:α}{i:Nat}(h:[a,b,c,d][i]?=some x):(i=0∧x=a)∨(i=1∧x=b)∨(i=2∧x=c)∨(i=3∧x=d):=by
 match i,h with
 |0,h=>simp at h;exact .inl ⟨rfl,h.symm⟩
 |1,h=>simp at h;exact .inr (.inl ⟨rfl,h.symm⟩)
 |2,h=>simp at h;exact .inr (.inr (.inl ⟨rfl,h.symm⟩))
 |3,h=>simp at h;exact .inr (.inr (.inr ⟨rfl,h.symm⟩))
 |i+4,h=>simp at h

structure VQ (p:Prt):Prop where
 sym:I64 p.nd.sym
 kind:I64 p.nd.kind
 lo:I64 p.nd.lo
 inn:I64 p.nd.inn
 hi:I64 p.nd.hi
 look:I64 p.nd.look
 met:0≤p.nd.met∧p.nd.met≤18446744073709551615
 ks:∀k∈p.nd.kids,I64 k
theorem jF.fine {w:World}{p:Prt}(h:jF w p):VQ p:=⟨h.sym,h.kind,h.lo,h.inn,h.hi,h.look,h.met,h.ks⟩
structure Zp (w:World)(base:Nat)(A:Option Addr)(c:Nat)(qs:List Prt):Prop where
 row:w.ownsRow base 54 8 (.slice A qs.length c) qs.length (pv qs)
 kids:∀q∈qs,vr w base q.kA q.kc q.nd.kids
 fine:∀q∈qs,VQ q
theorem Zp.nil (w:World)(base:Nat):Zp w base none 0 []:=⟨World.ownsRow_nil _ _ _ _,fun _ h=>(by cases h),fun _ h=>(by cases h)⟩
theorem Zp.ext {w w':World}{base:Nat}{A:Option Addr}{c:Nat}{qs:List Prt}(h:Zp w base A c qs)(e:Ext w w'):Zp w' base A c qs:=⟨yv h.row e,fun q hq=>(h.kids q hq).ext e,h.fine⟩
theorem zfq {w:World}{base base':Nat}{e:TypeId}{size:Nat}{v:Value}{n:Nat}{xs:List Value}(h:w.ownsRow base e size v n xs)(hb:base'≤base):w.ownsRow base' e size v n xs:=
 ⟨h.1,h.2.imp id fun⟨g,cap,cur,h1,h2,h3⟩=>⟨g,cap,cur,h1,Nat.le_trans hb h2,h3⟩⟩
theorem Zp.base {w:World}{base base':Nat}{A:Option Addr}{c:Nat}{qs:List Prt}(h:Zp w base A c qs)(hb:base'≤base):Zp w base' A c qs:=⟨zfq h.row hb,fun q hq=>(h.kids q hq).base hb,h.fine⟩
theorem Zp.cells {w:World}{base:Nat}{A:Option Addr}{c:Nat}{qs:List Prt}(h:Zp w base A c qs):j4 w A qs∧qs.length≤c∧c≤maxLen∧(A=none→c=0):=by
 obtain⟨A',cap,hv,h1,h2,h3,h4⟩:=zW h.row
 injection hv with a1 a2 a3; subst a1 a3
 exact⟨j4.of_cells h1,h2,h3,h4⟩
theorem Zp.oks {w:World}{base:Nat}{A:Option Addr}{c:Nat}{qs:List Prt}(h:Zp w base A c qs):qy w qs:=fun q hq=>by
 obtain⟨k1,k2,k3,k4⟩:=(h.kids q hq).ints
 have f:=h.fine q hq; unfold maxLen at k3
 exact⟨k1,k2,k3,k4,f.sym,f.kind,f.lo,f.inn,f.hi,f.look,f.met,f.ks⟩
theorem Zp.ps {w:World}{base:Nat}{A:Option Addr}{c:Nat}{qs:List Prt}(h:Zp w base A c qs)(f:Few qs):PS w A c qs:=by
 obtain⟨h1,h2,h3,h4⟩:=h.cells
 unfold maxLen at h3
 exact⟨h1,h.oks,f,h2,h3,h4⟩
theorem QD {w w':World}{base base':Nat}{A:Option Addr}{c:Nat}{xs:List Int}(h:vr w base A c xs){v:Value}{n:Nat}{us:List Value}(hp:w.ownsRow base' 54 8 v n us)
 (hg:∀b,b < w.heap.size→some b≠v.ownBlock→w'.heap[b]?=w.heap[b]?):vr w' base A c xs:=by
 refine ye h fun g hgo=>hg g (z8 h g hgo) fun he=>?_
 obtain⟨c1,e1⟩:=zZ h g hgo
 obtain⟨c2,e2⟩:=zZ hp g he.symm
 rw[e1]at e2
 injection e2 with e2; injection e2 with _ e2; cases e2
theorem zeW:(Tryz.prog.info? 54).map (fun i=>(i.zero,i.size,i.bytes))=some (some (.agg #[.int .i64 0,.int .i64 0,.int .i64 0,.int .i64 0,.int .i64 0,.int .i64 0,.slice none 0 0,.int .u64 0]),8,80):=by kernel_rfl
def zdd (w:World)(base:Nat)(v:Value)(qs:List Prt):Prop:=∃A c,v=.slice A qs.length c∧Zp w base A c qs
theorem zdd.ext {w w':World}{base:Nat}{v:Value}{qs:List Prt}(h:zdd w base v qs)(e:Ext w w'):zdd w' base v qs:=by
 obtain⟨A,c,hv,ho⟩:=h
 exact⟨A,c,hv,ho.ext e⟩
theorem zeH (q:Prt):pv [q]=yh q:=by simp[pv]
theorem zgR (w0:World){w:World}{ops:Array Oper}{rest:List Oper}{o:Oper}{a:Act}{Q:Exit→Act→World→Prop}(hw:Region.wanted o (yielded ops a.tmps)=true)(s x:Operand)
 (ho:o.op=.call {callee:=.builtin .append,args:=#[s,x],argTypes:=#[45,45]}) {qs:List Prt} {v:Value} (hr:zdd w w0.heap.size v qs) (q:Prt) (g:Nat)
 (hs:a.eval s=v) (hx:a.eval x=.slice (some ⟨g,0,none⟩) 1 1) (hc:yI w (some ⟨g,0,none⟩) (yh q)) (hk:vr w w0.heap.size q.kA q.kc q.nd.kids) (hf:VQ q) (hlen:qs.length≤1000000) (hext:Ext w0 w)
 (h:∀v' w',zdd w' w0.heap.size v' (qs++[q])→Ext w0 w'→wpList Tryz.prog ops Q rest (a.put o.dst v') w'):wpList Tryz.prog ops Q (o ::rest) a w:=by
 obtain⟨A,c,rfl,hown⟩:=hr
 obtain⟨i3,hi,hz0,hz1,hz2⟩:=info_parts zeW
 refine zE w hw s x 45 ho w0.heap.size 54 i3 _ 8 80 Tryz.underlying45 hi hz0 hz1 hz2 rfl (by omega) _ qs.length (pv qs) hs hown.row (some ⟨g,0,none⟩) 1 1 (pv [q]) hx (fun h=>by cases h) (JL _)
  (by rw[zeH];exact hc) (zjj _) (by unfold maxLen;omega) (by omega) hext.size fun v' w' h2 h3 h4=>?_
 obtain⟨A',c',hv',_⟩:=zW h2
 subst hv'; have hkeep:∀b,b < w.heap.size→some b≠(Value.slice A qs.length c).ownBlock→w'.heap[b]?=w.heap[b]?:=fun b hb hne=>h3.block b hb hne; refine h _ w' ⟨A',c',by rw[List.length_append];rfl,?_,fun p hp=>?_,fun p hp=>?_⟩ (hext.grown h3 fun g hg=>zV hown.row g hg)
 ·rw[zdR,List.length_append]
  exact h2
 ·rcases List.mem_append.1 hp with hp|hp
  ·exact QD (hown.kids p hp) hown.row hkeep
  ·rw[List.mem_singleton.1 hp]
   exact QD hk hown.row hkeep
 ·rcases List.mem_append.1 hp with hp|hp
  ·exact hown.fine p hp
  ·rw[List.mem_singleton.1 hp]
   exact hf
def YU (w:World)(l:List Nd)(e:Ending)(w':World):Prop:=∃A c qs,e=.returned (.slice A (qs:List Prt).length c)∧nds qs=l∧Zp w' w.heap.size A c qs∧Ext w w'

theorem Few.kids_le {ps:List Prt}(h:Few ps){p:Prt}(hp:p∈ps):p.nd.kids.length≤1000000:=by
 obtain⟨j,hj,rfl⟩:=List.getElem_of_mem hp
 have:=h.kids (j+1)
 rw[Yr _ (Nat.zero_le j) (show j≤j+1 by omega),zbD (yJ (List.getElem?_eq_getElem hj))]at this
 omega
theorem zbH (ps:List Prt)(i:Nat):nds (ps.drop i)=(nds ps).drop i:=by unfold nds;rw[List.map_drop]
theorem zbB (ps:List Prt)(i:Nat):nds (ps.take i)=(nds ps).take i:=by unfold nds;rw[List.map_take]
theorem j4.slice {w:World}{b off:Nat}{ps:List Prt}(h:j4 w (some ⟨b,off,none⟩) ps)(i n:Nat):j4 w (some ⟨b,off+i*8,none⟩) ((ps.drop i).take n):=fun h0=>by
 rw[List.length_take,List.length_drop]at h0
 obtain⟨b',off',hA,hb,hcell⟩:=h (by omega)
 injection hA with hA; injection hA with hA hB; subst hA hB
 refine⟨b,off+i*8,rfl,hb,fun k p hk=>?_⟩
 rw[List.getElem?_take]at hk
 split at hk
 ·rw[List.getElem?_drop]at hk
  have:=hcell (i+k) p hk
  rw[Nat.add_mul,←Nat.add_assoc]at this
  exact this
 ·cases hk
theorem qy.slice {w:World}{ps:List Prt}(h:qy w ps)(i n:Nat):qy w ((ps.drop i).take n):=fun p hp=>h p (List.mem_of_mem_drop (List.mem_of_mem_take hp))
theorem zgO (l:List Nd)(i n j:Nat):kc ((l.drop i).take n) 0 j≤kc l 0 (i+min j n):=by
 have e:kc ((l.drop i).take n) 0 j=kc l i (i+min j n):=by
  unfold kc
  rw[List.drop_zero,List.take_take,List.drop_take,Nat.add_sub_cancel_left]
 rw[e,Yr l (Nat.zero_le i) (show i≤i+min j n by omega)]
 omega
theorem Few.slice {ps:List Prt}(h:Few ps)(i n:Nat):Few ((ps.drop i).take n):=by
 refine⟨by rw[List.length_take,List.length_drop];have:=h.len;omega,fun j=>?_⟩
 rw[zbB,zbH]
 exact Nat.le_trans (zgO _ _ _ _) (h.kids _)
def zjG (p q:Nd):Bool:=(p.sym==q.sym)&&(p.kind==q.kind)&&(p.lo==q.lo)&&(p.inn==q.inn)&&(p.hi==q.hi)&&(p.look==q.look)&&(p.met==q.met)&&decide (p.kids=q.kids)
theorem zd7 (p q:Nd):zjG p q=true↔p=q:=by
 obtain⟨a,b,c,d,e,f,g,h⟩:=p
 obtain⟨a',b',c',d',e',f',g',h'⟩:=q
 simp only[zjG,Bool.and_eq_true,beq_iff_eq,decide_eq_true_eq,Nd.mk.injEq]
 constructor
 ·rintro⟨⟨⟨⟨⟨⟨⟨rfl,rfl⟩,rfl⟩,rfl⟩,rfl⟩,rfl⟩,rfl⟩,rfl⟩
  simp
 ·rintro⟨rfl,rfl,rfl,rfl,rfl,rfl,rfl,rfl⟩
  simp
instance ndDecEq:DecidableEq Nd:=fun p q=>decidable_of_iff _ (zd7 p q)

theorem zhF:∀{qs:List Prt} {i:Nat} {q q':Prt} {r:Nat} {u:Value},qs[i]?=some q→r < 8→yh q'=(yh q).set r u→pv (qs.set i q')=(pv qs).set (i*8+r) u
 |[],i,q,q',r,u,h,_,_=>by simp at h
 |p ::qs,0,q,q',r,u,h,hr,hc=>by
  simp at h
  subst h; simp only[List.set_cons_zero,pv,List.flatMap_cons,Nat.zero_mul,Nat.zero_add]
  rw[hc,List.set_append_left _ _ (by simp[yh];omega)]
 |p ::qs,i+1,q,q',r,u,h,hr,hc=>by
  have ih:=zhF (qs:=qs) (i:=i) (q:=q) (q':=q') (r:=r) (u:=u) (by simpa using h) hr hc; simp only[List.set_cons_succ]
  have e:pv (p ::qs.set i q')=yh p++pv (qs.set i q'):=by simp[pv]
  have e2:pv (p ::qs)=yh p++pv qs:=by simp[pv]
  rw[e,e2,ih,List.set_append_right _ _ (by simp[yh];omega)]
  congr 2
  simp[yh]
  omega
theorem zdC {w:World}{base g c n:Nat}{qs:List Prt}(h:w.ownsRow base 54 8 (.slice (some ⟨g,0,none⟩) n c) n (pv qs)){i:Nat}{q q':Prt}{r:Nat}{u:Value}(hi:qs[i]?=some q)(hr:r < 8)(hc:yh q'=(yh q).set r u):
 (w.setCell ⟨g,i*8+r,none⟩ u).ownsRow base 54 8 (.slice (some ⟨g,0,none⟩) n c) n (pv (qs.set i q')):=by
 obtain⟨h1,h2⟩:=h
 rw[zhF hi hr hc]
 rcases h2 with⟨h2,_⟩|⟨g',cap,cur,h2,h3,h4,h5,h6,h7,h8⟩
 ·cases h2
 ·injection h2 with a1 a2 a3; injection a1 with a1; injection a1 with a1; subst a1 a3
  refine⟨by rw[List.length_set];exact h1,.inr ⟨g,c,cur.setIfInBounds (i*8+r) u,rfl,h3,by simp[World.setCell,Array.getElem?_modify,h4],h5,h6,by rw[Array.size_setIfInBounds];exact h7,?_⟩⟩
  rw[Array.toList_setIfInBounds,List.take_set,h8]
end Go.Proofs.YtmbelmngniddjaaGreat
namespace Go.Proofs.YtmbelmngniddjaaGreat
open Go.RowKit
theorem Few.of_tree {ps:List Prt}(T:xR (nds ps))(h:ps.length≤524288):Few ps:=⟨h,fun j=>by
 have h1:=zhB (nds ps) j; have h2:=(zax T.trek).2 rfl; have h3:=zx ps; omega⟩
end Go.Proofs.YtmbelmngniddjaaGreat
namespace Go.Proofs.YtmbelmngniddjaaGreat
open Go.RowKit
attribute [local go_sem] zF zB zI zJ zw zt zN zD zX zQ zK zP zO zL zT zR zS zG zM zC
def zdk (p:Pt):Prt:=⟨nd1 p.nd,p.kA,p.kc⟩
theorem zgS (ps:List Pt):pv (ps.map zdk)=pw ps:=by
 unfold pv pw
 rw[List.flatMap_map]
 rfl
theorem zfo (ps:List Pt):nds (ps.map zdk)=(shs ps).map nd1:=by simp[nds,shs,zdk]
theorem zkc (l:List Nd)(j:Nat):kc l 0 j≤kc l 0 l.length:=by
 by_cases h:j≤l.length
 ·have:=Yr l (Nat.zero_le j) h
  omega
 ·unfold kc
  rw[List.take_of_length_le (by omega),List.take_of_length_le (Nat.le_refl _)]
  exact Nat.le_refl _
theorem zi2 (t:yi)(j:Nat):kc (ndR t) 0 j≤yu t:=by
 have h:=(zfQ t).count.1 rfl; have h2:=zkc (ndR t) j
 rw[Zl]at h h2
 simp only[List.length_singleton]at h
 omega
theorem yU.ps {w:World}{base:Nat}{v:Value}{t:yi}(h:yU w base v t)(hb:∀q∈yH t,I64 q.sym∧I64 q.kind∧I64 q.lo∧I64 q.inn∧I64 q.hi∧I64 q.look)(hl:yu t≤524288):∃A c ps,v=.slice A ps.length c∧PS w A c ps∧nds ps=ndR t:=by
 obtain⟨rs,h,hs⟩:=h
 obtain⟨A,c,hv,hc,hlc,hcm,hn⟩:=zW h.own
 have hlen:rs.length=yu t:=by rw[←yT,←hs];simp[shs]
 have hnd:nds (rs.map zdk)=ndR t:=by rw[zfo,hs];rfl
 refine⟨A,c,rs.map zdk,by rw[List.length_map];exact hv,?_,hnd⟩
 refine⟨j4.of_cells (by rw[zgS];exact hc),fun p hp=>?_,⟨by rw[List.length_map];omega,fun j=>?_⟩,by rw[List.length_map];exact hlc,by unfold maxLen at hcm;exact hcm,hn⟩
 ·obtain⟨q,hq,rfl⟩:=List.mem_map.1 hp
  have hkk:=h.kids q hq; have hm:q.nd∈yH t:=by rw[←hs];exact List.mem_map_of_mem hq
  obtain⟨b1,b2,b3,b4,b5,b6⟩:=hb _ hm
  have htop:=hkk.top; unfold maxLen at htop
  refine⟨hkk.ints,hkk.cap,htop,hkk.nil,b1,b2,b3,b4,b5,b6,by show 0≤(0:Int)∧(0:Int)≤18446744073709551615;omega,fun k hk=>?_⟩
  have:=zaI t _ hm k hk
  rw[yT]at this
  unfold I64; omega
 ·rw[hnd]
  have:=zi2 t j
  omega
theorem jL {N:Nat}(d:DtP):Jp N (.node d []):=fun u hu=>by
 rw[hu.leaf]
 simp[yi.kids]
theorem Qe {N:Nat}{d:DtP}{ks:List yi}(h:∀k∈ks,Jp N k)(hl:ks.length≤N):Jp N (.node d ks):=fun u hu=>by
 rcases hu.cases' with rfl|⟨k,hk,hu⟩
 ·exact hl
 ·exact h k hk u hu
theorem YS {N:Nat}{ks:List yi}{k:yi}(h:∀k∈ks,Jp N k)(hk:Jp N k):∀x∈ks++[k],Jp N x:=fun x hx=>by
 rcases List.mem_append.1 hx with hx|hx
 ·exact h x hx
 ·rw[List.mem_singleton]at hx
  rw[hx]
  exact hk
section
variable {L:LxP}(H:QL L)
include H
theorem JJ:∀f,
 (∀left (til:Nat) look kids (lo:Nat) t,til≤L.n→kids.length≤til→(∀k∈kids,Jp (L.n+9) k)→yG L f left til look kids lo=some t→Jp (L.n+9) t)∧
 (∀r (til:Nat) kids z,(∀s∈r,s < L.g.terms+L.g.nons)→til≤L.n→(∀k∈kids,Jp (L.n+9) k)→yz L f r til kids=some z→(∀k∈z.1,Jp (L.n+9) k)∧z.1.length=kids.length+r.length)∧
 ∀s (p:Nat) t,s < L.g.terms+L.g.nons→p≤L.n→vG L f s p=some t→Jp (L.n+9) t:=by
 intro f; induction f with
 |zero=>refine⟨?_,?_,?_⟩<;>intros<;>simp_all [yG,yz,vG]
 |succ f ih=>
  obtain⟨i1,i2,i3⟩:=ih
  refine⟨fun left til look kids lo t hto hl hk h=>?_,fun r til kids z hr hto hk h=>?_,fun s p t hs hp h=>?_⟩
  ·unfold yG at h; split at h
   ·rename_i hpr
    obtain⟨q,hq,_,_⟩:=H.yes left _ hpr
    have hright:L.right (L.pred left (L.win til).1)=q.right:=by unfold LxP.right;rw[hq];rfl
    rw[hright]at h
    have h5:=H.short q (List.mem_of_getElem? hq); cases hs:yz L f q.right til kids with
    |none=>rw[hs]at h;cases h
    |some z=>
     rw[hs]at h
     obtain⟨a,b⟩:=i2 _ _ _ _ (fun s hs=>(H.gm.sym q (List.mem_of_getElem? hq) s hs).2) hto hk hs
     injection h with h; subst h; exact Qe a (by omega)
   ·split at h
    ·injection h with h; subst h; exact Qe hk (by omega)
    ·rename_i hno; have ht:=H.tok til hto; have hlt:=ht.2.2.2.2.2.2.2 (fun hh=>hno (.inl hh)); exact i1 _ _ _ _ _ _ (by omega) (by rw[List.length_append];simp;omega) (YS hk (jL _)) h
  ·cases r with
   |nil=>
    unfold yz at h; injection h with h; subst h
    exact⟨hk,by simp⟩
   |cons s r=>
    unfold yz at h; cases hs:vG L f s til with
    |none=>rw[hs]at h;cases h
    |some t=>
     rw[hs]at h
     obtain⟨hi,e1,_,e2⟩:=((xH H f).2.2 s til t (hr s (List.mem_cons_self ..)) hto hs).1
     obtain⟨a,b⟩:=i2 _ _ _ _ (fun x hx=>hr x (List.mem_cons_of_mem _ hx)) (by rw[e1];simpa using e2) (YS hk (i3 _ _ _ (hr s (List.mem_cons_self ..)) hto hs)) h
     exact⟨a,by rw[b,List.length_append];simp;omega⟩
  ·unfold vG at h; split at h
   ·exact i1 _ _ _ _ _ _ hp (Nat.zero_le _) (fun _ h=>by cases h) h
   ·split at h
    ·injection h with h; subst h; exact jL _
    ·injection h with h; subst h; exact jL _
end
section
variable {L:LxP}(H:QL L)
include H
theorem zaU:∀(f p:Nat) (ks:List yi),p≤L.n→(∀k∈ks,Jp (L.n+9) k)→(∀k∈xJ L f p ks,Jp (L.n+9) k)∧(xJ L f p ks).length≤ks.length+(L.n - p)+1∧yL (xJ L f p ks)≤yL ks+(L.n - p)+1:=by
 intro f; induction f with
 |zero=>intro p ks hp hk;simp only[xJ];exact⟨hk,by omega,by omega⟩
 |succ f ih=>
  intro p ks hp hk; unfold xJ; split
  ·refine⟨YS hk (jL _),by rw[List.length_append];simp,?_⟩
   rw[qi]
   simp[yL,yu]
  ·rename_i hno; have ht:=H.tok p hp; have hlt:=ht.2.2.2.2.2.2.2 hno
   obtain⟨a,b,c⟩:=ih (L.tk p).2.2.1.toNat (ks++[.node (xt 5 p (L.tk p)) []]) (by omega) (YS hk (jL _))
   refine⟨a,?_,?_⟩
   ·rw[List.length_append]at b
    simp only[List.length_singleton]at b
    omega
   ·rw[qi]at c
    simp only[yL,yu]at c
    omega
theorem zaY (hn:L.n≤100):∃f t0,yG L f 0 0 0 [] 0=some t0∧xO (qF L t0):=by
 have hnn:0 < L.g.nons:=by have:=H.gm.nons;omega
 obtain⟨f,t0,hi,h1,_,hg⟩:=zgk H L.n 0 (Nat.zero_le _) (by omega) 0 0 [] 0 (by omega) hnn (Nat.le_refl _) (by simp[yL])
 refine⟨f,t0,h1,?_⟩
 have hw:=(JJ H f).1 0 0 0 [] 0 t0 (Nat.zero_le _) (Nat.le_refl _) (fun _ h=>by cases h) h1
 obtain⟨hi2,e1,_,e2⟩:=((xH H f).1 0 0 0 [] 0 t0 (by omega) hnn (Nat.zero_le _) (Nat.le_refl _) (fun _ h=>by cases h) h1).1
 obtain⟨a,b,c⟩:=zaU H (L.n+1) t0.d.hi.toNat [t0] (by rw[e1];simpa using e2) (fun k hk=>by rw[List.mem_singleton]at hk;rw[hk];exact hw)
 have hsz:yu t0≤19000000:=by
  unfold zj3 at hg
  obtain⟨g1,g2,g3,g4,g5⟩:=hg
  have hr:=QL.rank H (A:=0) (by omega) hnn; by_cases hh:hi=0
  ·have h6:=g4 hh; have h7:=mK6 (k:=vF L.g 0+1) hr; omega
  ·have h6:=g5 (by omega); omega
 unfold qF
 refine⟨?_,fun u hu=>?_⟩
 ·rw[yF]
  rw[show yL [t0]=yu t0 from by simp[yL]]at c
  omega
 ·have:=(Qe (d:=⟨-3,1,0,0,L.n,1⟩) a (by simp at b;omega)) u hu
  omega
end
end Go.Proofs.YtmbelmngniddjaaGreat
namespace Go.Proofs.YtmbelmngniddjaaGreat
open Go.RowKit
inductive Gs (l:List Nd) (st:List Bool):Nat→List Nat→Prop
 |done (i:Nat):l.length≤i→Gs l st i []
 |skip (i:Nat) (p:Nd) (xs:List Nat):l[i]?=some p→(p.kind≠2∨st[i]?=some true)→Gs l st (i+1) xs→Gs l st i xs
 |take (i:Nat) (p:Nd) (m:Nat) (xs:List Nat):l[i]?=some p→p.kind=2→st[i]?=some false→YG l i m→Gs l st m xs→Gs l st i (i ::xs)
theorem ziX {l:List Nd}{st:List Bool}(T:xR l)(hs:st.length=l.length):∀(n i:Nat),l.length - i≤n→∃xs,Gs l st i xs:=by
 intro n; induction n with
 |zero=>intro i hi;exact⟨[],.done i (by omega)⟩
 |succ n ih=>
  intro i hi; rcases Nat.lt_or_ge i l.length with h|h
  ·obtain⟨p,hp⟩:∃p,l[i]?=some p:=⟨_,List.getElem?_eq_getElem h⟩
   obtain⟨v,hv⟩:∃v,st[i]?=some v:=⟨_,List.getElem?_eq_getElem (by omega)⟩
   by_cases hk:p.kind=2
   ·cases v with
    |true=>
     obtain⟨xs,hx⟩:=ih (i+1) (by omega)
     exact⟨xs,.skip i p xs hp (.inr hv) hx⟩
    |false=>
     obtain⟨m,hm⟩:=T.part h
     obtain⟨xs,hx⟩:=ih m (by have:=hm.lt_end;omega)
     exact⟨i ::xs,.take i p m xs hp hk hv hm hx⟩
   ·obtain⟨xs,hx⟩:=ih (i+1) (by omega)
    exact⟨xs,.skip i p xs hp (.inl hk) hx⟩
  ·exact⟨[],.done i h⟩
end Go.Proofs.YtmbelmngniddjaaGreat
namespace Go.Proofs.YtmbelmngniddjaaGreat
open Go.RowKit
attribute [local go_sem] zF zB zI zJ zw zt zN zD zX zQ zK zP zO zL zM zC
def yR (a:Int):Int:=min (max a (-1099511627776)) 1099511627776
theorem xS (a:Int):-1099511627776≤yR a∧yR a≤1099511627776:=by unfold yR;omega
def Yn (at_ a d i inn:Int):Int:=if a+d≤at_ then at_ - d+i else inn
def zbU (f t a d i:Int):Bool:=
 (decide (0 < yR d)&&decide (yR a < yR t)&&decide (yR f < yR a+yR d))||(decide (0 < yR i)&&decide (yR f < yR a)&&decide (yR a < yR t))
def zb6 (x a d i:Int):Int:=if yR x < yR a then yR x else Yn (yR x) (yR a) (yR d) (yR i) (yR a+yR i)
def zjX (x a d i:Int):Int:=if yR x≤yR a then yR x else Yn (yR x) (yR a) (yR d) (yR i) (yR a)
theorem xP {a:Int}(h:-1099511627776≤a)(h2:a≤1099511627776):yR a=a:=by unfold yR;omega
def j7 (x:Int):Prop:=-1073741824≤x∧x≤1073741824
theorem zbC {x a d i:Int}{om:Int→Int}(hx:j7 x)(ha:j7 a)(hd:j7 d)(hi:j7 i):zb6 x a d i=stF x ⟨a,d,i,om⟩:=by
 unfold j7 at hx ha hd hi; unfold zb6 Yn stF
 rw[xP (by omega) (by omega),xP (by omega) (by omega),xP (by omega) (by omega),xP (by omega) (by omega)]
theorem zhz {x a d i:Int}{om:Int→Int}(hx:j7 x)(ha:j7 a)(hd:j7 d)(hi:j7 i):zjX x a d i=enF x ⟨a,d,i,om⟩:=by
 unfold j7 at hx ha hd hi; unfold zjX Yn enF
 rw[xP (by omega) (by omega),xP (by omega) (by omega),xP (by omega) (by omega),xP (by omega) (by omega)]
theorem zfM {f t a d i:Int}{om:Int→Int}(hf:j7 f)(ht:j7 t)(ha:j7 a)(hd:j7 d)(hi:j7 i):zbU f t a d i=decide (Jr f t ⟨a,d,i,om⟩):=by
 unfold j7 at hf ht ha hd hi; unfold zbU
 rw[xP (a:=f) (by omega) (by omega),xP (a:=t) (by omega) (by omega),xP (a:=a) (by omega) (by omega),xP (a:=d) (by omega) (by omega),xP (a:=i) (by omega) (by omega)]
 rw[Bool.eq_iff_iff,decide_eq_true_iff]
 unfold Jr; simp only[Bool.or_eq_true,Bool.and_eq_true,decide_eq_true_eq]
 constructor<;>intro h<;>omega
end Go.Proofs.YtmbelmngniddjaaGreat
