/- Rf: texts that the proof rests on, part 24. -/
import Derived.Test.YtmbelmngniddjaaGreatRf23
import Derived.ProofKit
import Derived.OpenShut
import Derived.SizedLaws
import Derived.Lib.SmallJoins
import Derived.Deep.Slices
import Derived.Deep.Fields
import Derived.ChangeSame
import Derived.ChangeArms
import Derived.ChangeMaps5
namespace Go.Proofs.YtmbelmngniddjaaGreat
open Go.RowKit
attribute [local go_sem] zF zB zI zJ zw zt zN zD zX zQ zK zP zO zL zT zR zS zG zM zC
theorem zde:qJ 1 0≠0:=by decide
section
variable {A:Option Addr}{c n:Nat}{w:World}
set_option maxRecDepth 100000 in
set_option maxHeartbeats 1500000 in
theorem za5 (hn:524288 < n)(hc:n≤9223372036854775807):Calls Tryz.prog 31 #[.slice A n c] w fun e w'=>e=.returned (.int .i64 3)∧Ext w w':=by
 have hd0:decide ((524288:Int) < (n:Int))=true:=decide_eq_true (by omega); go_in
 go_wp2_with fail; go_ret
 exact⟨rfl,Ext.refl _⟩
set_option maxRecDepth 100000 in
set_option maxHeartbeats 1500000 in
theorem zcc (a d i bit k:Int)(hk:(k !=0)=true)(hC:∀V,Ext w V→Calls Tryz.prog 31 #[.slice A n c] V fun e w'=>e=.returned (.int .i64 k)∧Ext V w'):
 Calls Tryz.prog 11 #[.slice A n c,.agg #[.int .i64 a,.int .i64 d,.int .i64 i],.int .u64 bit] w fun e w'=>e=.returned (.slice none 0 0)∧Ext w w':=by
 have HC:=zh hC; clear hC
 obtain⟨be,hbe⟩:∃be,w.heap.size=be:=⟨_,rfl⟩
 obtain⟨W1,hW1⟩:∃W1,w.alloc (.cells #[.int .i64 a,.int .i64 d,.int .i64 i] 50)=W1:=⟨_,rfl⟩
 have X1:Hid (Ext w W1):=zh (by rw[←hW1];exact xi); have hk2:decide (k=0)=false:=by simpa using hk
 go_in
 go_upto_region 1 with fail; clear hW1 hbe; go_wp2_with fail
 refine(HC.out _ X1.out).mono ?_
 rintro e w1 ⟨rfl,hx1⟩; have HX1:=zh (X1.out.trans hx1); clear hx1; go_wp2_with fail; go_ret
 exact⟨rfl,HX1.out⟩
end
def zjQ (w:World)(E:Ed)(t:yi)(e:Ending)(w':World):Prop:=∃A c qs,e=.returned (.slice A (qs:List Prt).length c)∧PS w' A c qs∧Ext w w'∧(qs=[]∨(xR (ndR t)∧qH E (ndR t) (nds qs)∧xR (nds qs)))
theorem zgJ (base:Nat)(v:Value)(t:yi)(a d i:Int)(w:World)(h:yU w base v t)(hb:∀q∈yH t,I64 q.sym∧I64 q.kind∧I64 q.lo∧I64 q.inn∧I64 q.hi∧I64 q.look)(hn:∀q∈ndR t,zjY q)(ha:j7 a)(hd:j7 d)(hi:j7 i)(ha0:0≤a)(hd0:0≤d)(hi0:0≤i):
 Calls Tryz.prog 11 #[v,.agg #[.int .i64 a,.int .i64 d,.int .i64 i],.int .u64 1] w (zjQ w ⟨a,d,i,qJ 1⟩ t):=by
 have nil:∀{e:Ending} {w':World},(e=.returned (.slice none 0 0)∧Ext w w')→zjQ w ⟨a,d,i,qJ 1⟩ t e w':=fun⟨he,hx⟩=>⟨none,0,[],he,⟨j4.nil,fun p hp=>(by cases hp),⟨by decide,fun j=>by unfold kc;simp[nds]⟩,Nat.le_refl _,by omega,fun _=>rfl⟩,hx,.inl rfl⟩; by_cases hl:yu t≤524288
 ·obtain⟨A,c,ps,rfl,P,hnd⟩:=h.ps hb hl
  by_cases T:xR (ndR t)
  ·refine(zdA A c ps a d i 1 w P (by rw[hnd];exact T) ha hd hi ha0 hd0 hi0 (by omega) (fun p hp=>hn _ (by rw[←hnd];exact List.mem_map_of_mem hp))).mono ?_
   rintro e w' ⟨out,ho,A',c',qs,rfl,rfl,hO,hx⟩
   rw[hnd]at ho
   have T2:=zaw T ha0 hd0 hi0 ho
   refine⟨A',c',qs,rfl,hO.ps (Few.of_tree T2 ?_),hx,.inr ⟨T,ho,T2⟩⟩
   have:=ho.1
   rw[zx,Zl]at this
   omega
  ·exact(zcc a d i 1 2 rfl (fun V x=>zdz (P.ext x) (by rw[hnd];exact T))).mono fun e w' r=>nil r
 ·obtain⟨rs,h,hs⟩:=h
  obtain⟨A,c,hv,hc,hlc,hcm,_⟩:=zW h.own
  have hlen:rs.length=yu t:=by rw[←yT,←hs];simp[shs]
  subst hv; unfold maxLen at hcm
  exact(zcc a d i 1 3 rfl (fun V x=>za5 (by omega) (by omega))).mono fun e w' r=>nil r
theorem Gs.part {l:List Nd}{st:List Bool}{e:Nat}{zs:List Nat}(h:Gs l st e zs):∀x∈zs,∃m p,l[x]?=some p∧p.kind=2∧st[x]?=some false∧YG l x m:=by
 induction h with
 |done i hi=>intro x hx;cases hx
 |skip i p xs hp hc _ ih=>exact ih
 |take i p m xs hp hk hs hm _ ih=>
  intro x hx; rcases List.mem_cons.1 hx with rfl|hx
  ·exact⟨m,p,hp,hk,hs,hm⟩
  ·exact ih x hx
theorem Gs.few {l:List Nd}{st:List Bool}{e:Nat}{zs:List Nat}(h:Gs l st e zs):zs.length≤l.length - e:=by
 induction h with
 |done i hi=>simp
 |skip i p zs hp hc _ ih=>omega
 |take i p m zs hp hk hs hm _ ih=>
  have h1:=hm.lt_end; have h2:=hm.lt
  rw[List.length_cons]
  omega
def zjH (D:vJ)(g:Gm)(s':ByteArray)(qs:List Prt)(x:Nat):Prop:=
 ∃(m:Nat) (v:yi) (f p A:Nat) (q:Prt),qs[x]?=some q∧q.nd.sym=g.terms+A∧q.nd.lo=p∧(A:Int) < g.nons∧p≤s'.size∧yG (qZ D g s') f (A:Int) p 0 [] p=some v∧xR (nds qs)∧YG (nds qs) x m∧zi7 (nds qs) x m=ndR v∧xO v∧yu v≤524288∧∀q∈yH v,I64 q.sym∧I64 q.kind∧I64 q.lo∧I64 q.inn∧I64 q.hi∧I64 q.look
theorem zdB {D:vJ}{g:Gm}{s s':ByteArray}(H:QL (qZ D g s))(H':QL (qZ D g s'))(hO:v9 D.nl D.rl D.kl D.kn){f:Nat}{t0:yi}(ht:yG (qZ D g s) f 0 0 0 [] 0=some t0){a b:Nat}{d:Int}(hab:a≤b)(hA:TxA s s' a)(hB:TxB s s' b d){E:Ed}(ea:E.a=a)(eb:E.a+E.d=b)(ed:E.i - E.d=d)(hd0:0≤E.d)(hi0:0≤E.i)(hom:E.om 0≠0)(hnop:E.d=0→E.i=0→s'=s)
 (hs':s'.size≤900) {qs:List Prt} (hl:qs.length≤524288) (hq:qs=[]∨(xR (ndR (qF (qZ D g s) t0))∧qH E (ndR (qF (qZ D g s) t0)) (nds qs)∧xR (nds qs))) {xs:List Nat} (hG:ziR (nds qs) xs):xs.length≤524288∧∀x∈xs,zjH D g s' qs x:=by
 rcases hq with rfl|⟨T,hE,T2⟩
 ·obtain rfl:xs=[]:=hG.2 (fun T=>absurd T.pos (by simp[nds]))
  exact⟨by simp,fun x hx=>(by cases hx)⟩
 ·obtain⟨st,hst,hg⟩:=hG.1 T2
  have hfew:=hg.few
  rw[zx]at hfew
  refine⟨by omega,fun x hx=>?_⟩
  obtain⟨m,p,hp,hk,hsx,hP⟩:=hg.part x hx
  obtain⟨v,f',p',hL,hm,hlo,hpl,n0,n1,hsym,hqlo,hloop⟩:=zcq H hO ht hab hA hB ea eb ed hd0 hi0 hom hnop T hE hP hp hk (zfs hst hP (by rw[hsx];rfl))
  obtain⟨q,hqx,hqp⟩:=ZE hp
  obtain⟨A,hAe⟩:∃A:Nat,v.d.sym - g.terms=A:=⟨(v.d.sym - g.terms).toNat,by omega⟩
  rw[hAe]at hloop n1
  have hml:=hP.lt_end; have hmm:m≤qs.length:=by have:=hP.le;rw[zx]at this;exact this
  have hsz:yu v≤524288:=by omega
  have hn:(qZ D g s').n=s'.size:=rfl; have hsym2:q.nd.sym=g.terms+A:=by rw[hqp];omega
  refine⟨m,v,f',p',A,q,hqx,hsym2,by rw[hqp,hqlo,hlo],n1,hpl,hloop,T2,hP,?_,⟨by omega,?_⟩,hsz,?_⟩
  ·rw[hm]
   exact zfV hL (by rw[zx];omega)
  ·intro u hu
   have:=(JJ H' f').1 _ _ _ _ _ _ hpl (Nat.zero_le _) (fun _ h=>by cases h) hloop u hu
   omega
  ·exact Jw (by omega) H'.gm ((zeB H' f').1 _ _ _ _ _ _ (by omega) n1 hpl (Nat.le_refl _) (Int.le_refl _) (by omega) (fun _ h=>by cases h) hloop)
attribute [local go_sem] Oper.semAt_some
end Go.Proofs.YtmbelmngniddjaaGreat
namespace Go.Proofs.YtmbelmngniddjaaGreat
open Go.RowKit
attribute [local go_sem] zF zB zI zJ zw zt zN zD zX zQ zK zP zO zL zT zR zS zG zM zC
def exM:List Nd:=[⟨-3,1,0,0,2,1,[1,3],0⟩,⟨1,2,0,0,2,3,[2],0⟩,⟨0,3,0,0,2,4,[],0⟩,⟨-2,6,2,2,2,3,[],0⟩]
def exQ (b:Nat):List Prt:=[⟨⟨-3,1,0,0,2,1,[1,3],0⟩,some ⟨b,0,none⟩,2⟩,⟨⟨1,2,0,0,2,3,[2],0⟩,some ⟨b+1,0,none⟩,1⟩,⟨⟨0,3,0,0,2,4,[],0⟩,none,0⟩,⟨⟨-2,6,2,2,2,3,[],0⟩,none,0⟩]
theorem ziJ (b:Nat):nds (exQ b)=exM:=rfl
theorem zjc (j:Nat):kc exM 0 j≤1000000:=Nat.le_trans (zhB exM j) (by decide)
theorem zg6:YG exM 1 3:=⟨by decide,yP.one (l:=exM) (n:=1) (p:=⟨1,2,0,0,2,3,[2],0⟩) rfl (yP.one (l:=exM) (n:=2) (p:=⟨0,3,0,0,2,4,[],0⟩) rfl (.nil 3)),by decide⟩
theorem zgs:xR exM:=by
 refine⟨fun i p h=>?_,?_,fun p hp=>?_⟩
 ·rcases zkh h with⟨rfl,rfl⟩|⟨rfl,rfl⟩|⟨rfl,rfl⟩|⟨rfl,rfl⟩<;>exact⟨by decide,by decide⟩
 ·refine yP.one (p:=⟨-3,1,0,0,2,1,[1,3],0⟩) rfl ?_; refine yP.cons (l:=exM) ⟨1,2,0,0,2,3,[2],0⟩ [3] 1 3 true 4 rfl ?_ ?_
  ·exact yP.one (l:=exM) (n:=2) (p:=⟨0,3,0,0,2,4,[],0⟩) rfl (.nil 3)
  ·exact yP.one (l:=exM) (n:=3) (p:=⟨-2,6,2,2,2,3,[],0⟩) rfl (.nil 4)
 ·have:∀p∈exM,qo exM p.hi p.lo p.kids=true:=by decide
  exact this p hp
theorem ze4:ve exM [false,false,false,false]:=by
 refine⟨rfl,fun j p h=>?_⟩
 rcases zkh h with⟨rfl,rfl⟩|⟨rfl,rfl⟩|⟨rfl,rfl⟩|⟨rfl,rfl⟩<;>rfl
theorem zjq:ziR exM [1]:=⟨fun _=>⟨_,ze4,.skip 0 ⟨-3,1,0,0,2,1,[1,3],0⟩ _ rfl (.inl (by decide)) (.take 1 ⟨1,2,0,0,2,3,[2],0⟩ 3 [] rfl rfl rfl zg6 (.skip 3 ⟨-2,6,2,2,2,3,[],0⟩ _ rfl (.inl (by decide)) (.done 4 (Nat.le_refl _))))⟩,fun h=>absurd zgs h⟩
def zis (w:World)(e:Ending)(w':World):Prop:=
 e=.returned (.slice (some ⟨w.heap.size+1+1,0,none⟩) 4 4)∧w'.heap[w.heap.size+1+1]?=some (.cells (pv (exQ w.heap.size)).toArray 54)∧PS w' (some ⟨w.heap.size+1+1,0,none⟩) 4 (exQ w.heap.size)∧Ext w w'
set_option maxRecDepth 100000 in
set_option maxHeartbeats 2000000 in
theorem Jn (w:World):Calls Tryz.prog 20 #[] w (zis w):=by
 go_in
 go_wp2_with fail; go_ret; have G0:(((w.alloc (.cells #[.int .i64 1,.int .i64 3] 3)).alloc (.cells #[.int .i64 2] 3)).alloc (.cells (pv (exQ w.heap.size)).toArray 54)).heap[w.heap.size]?=some (.cells #[.int .i64 1,.int .i64 3] 3):=(by simp only[zm,World.size_alloc];(repeat(split;(first|rfl|(exfalso;omega))));(try(first|(exfalso;omega)|simp_all))); have G1:(((w.alloc (.cells #[.int .i64 1,.int .i64 3] 3)).alloc (.cells #[.int .i64 2] 3)).alloc (.cells (pv (exQ w.heap.size)).toArray 54)).heap[w.heap.size+1]?=some (.cells #[.int .i64 2] 3):=(by simp only[zm,World.size_alloc];(repeat(split;(first|rfl|(exfalso;omega))));(try(first|(exfalso;omega)|simp_all))); have G2:(((w.alloc (.cells #[.int .i64 1,.int .i64 3] 3)).alloc (.cells #[.int .i64 2] 3)).alloc (.cells (pv (exQ w.heap.size)).toArray 54)).heap[w.heap.size+1+1]?=some (.cells (pv (exQ w.heap.size)).toArray 54):=(by simp only[zm,World.size_alloc];(repeat(split;(first|rfl|(exfalso;omega))));(try(first|(exfalso;omega)|simp_all)))
 refine⟨rfl,G2,⟨j4.of_block G2 (by simp),?_,⟨Nat.le_of_ble_eq_true rfl,zjc⟩,Nat.le_refl _,by omega,nofun⟩,xi⟩
 ·intro p hp; simp only[exQ,List.mem_cons,List.not_mem_nil,or_false]at hp
  rcases hp with rfl|rfl|rfl|rfl
  ·exact jF.lit (xW.of_block G0 rfl) (Nat.le_of_ble_eq_true rfl) (Nat.le_of_ble_eq_true rfl) nofun rfl
  ·exact jF.lit (xW.of_block G1 rfl) (Nat.le_of_ble_eq_true rfl) (Nat.le_of_ble_eq_true rfl) nofun rfl
  ·exact jF.lit xW.nil (Nat.le_of_ble_eq_true rfl) (Nat.le_of_ble_eq_true rfl) (fun _=>rfl) rfl
  ·exact jF.lit xW.nil (Nat.le_of_ble_eq_true rfl) (Nat.le_of_ble_eq_true rfl) (fun _=>rfl) rfl
set_option maxRecDepth 100000 in
set_option maxHeartbeats 2000000 in
theorem zaN (w:World):Calls Tryz.prog 5 #[] w fun e w'=>e=.returned (.bool true)∧Ext w w':=by
 go_in
 go_wp2_with fail
 refine(Jn _).mono ?_
 rintro e w2 ⟨rfl,_,hp2,hx2⟩; have HX2:=zh hx2; have HP2:=zh hp2; clear hx2 hp2; go_wp2_with fail
 refine(zeX _ 4 (exQ w.heap.size) [1] w2 HP2.out (by rw[ziJ];exact zjq) (by decide)).mono ?_
 rintro e w5 ⟨A,c,rfl,ho,hx5⟩; have HX5:=zh (HX2.out.trans hx5); have HO:=zh ho; clear hx5 HP2 ho; go_wp2_with fail
 refine(zgn A _ [1] [1] c 1 _ (HO.out.ints.1.ext xi) (xW.of_block (heap_alloc_new w5 _) rfl) (by decide) (by decide)).mono ?_
 rintro e w6 ⟨rfl,hx6⟩; have HX6:=zh ((HX5.out.alloc _).trans hx6); clear hx6; go_wp2_with fail; go_ret
 exact⟨rfl,HX6.out⟩
def zj1 (w:World)(v:yi)(e:Ending)(w':World):Prop:=∃B d rs,e=.returned (.tuple #[.slice B (rs:List Prt).length d,.int .i64 0])∧nds rs=ndR v∧PS w' B d rs∧Ext w w'
theorem zjM (lb:Nat)(D:vJ)(g:Gm)(s:ByteArray)(A p f:Nat)(t:yi)(w:World)(h:jM w lb D g)(hs:s.size≤1000)(H:QL (qZ D g s))(hM:(s.size:Int)≤D.M)(hA:A < D.n)(hp:p≤s.size)(ht:yG (qZ D g s) f (A:Int) p 0 [] p=some t)(hsm:xO t)(hl:yu t≤524288)(hb:∀q∈yH t,I64 q.sym∧I64 q.kind∧I64 q.lo∧I64 q.inn∧I64 q.hi∧I64 q.look):Calls Tryz.prog 13 #[.pointer (some ⟨lb,0,none⟩),.string s,.int .i64 A,.int .i64 p] w (zj1 w t):=by
 refine(ziZ lb D g s A p f t w h hs H hM hA hp ht hsm).mono ?_
 rintro e w' ⟨v,rfl,hr,hx⟩
 obtain⟨B,d,rs,rfl,P,hn⟩:=hr.ps hb hl
 exact⟨B,d,rs,rfl,hn,P,hx⟩
def EdP (w:World)(D:vJ)(g:Gm)(s':ByteArray)(e:Ending)(w':World):Prop:=∃A c qs xs,e=.returned (.slice A (qs:List Prt).length c)∧PS w' A c qs∧ziR (nds qs) xs∧xs.length≤524288∧(∀x∈xs,zjH D g s' qs x)∧Ext w w'
theorem zj4 (D:vJ)(g:Gm)(s ins:ByteArray)(a d:Nat)(lb:Nat)(w:World)(h:jM w lb D g)(h6:g.nons≤6)(h5:∀p∈g.prods,p.right.length≤5)(hs:s.size≤40)(hi:ins.size≤12)(ha:a≤s.size)(hd:d≤s.size - a)(hM:52≤D.M):
 Calls Tryz.prog 10 #[.pointer (some ⟨lb,0,none⟩),.string s] w fun e w'=>∃A n c,e=.returned (.tuple #[.slice A n c,.int .i64 0])∧Ext w w'∧
  ∀V,Ext w' V→Calls Tryz.prog 11 #[.slice A n c,.agg #[.int .i64 a,.int .i64 d,.int .i64 ins.size],.int .u64 1] V (EdP V D g (zfB s ins a (a+d))):=by
 have H:=za3 h h6 h5 s; have H':=za3 h h6 h5 (zfB s ins a (a+d)); have hsz:=ZP (s:=s) (ins:=ins) (a:=a) (b:=a+d) (by omega) (by omega)
 obtain⟨f,t0,ht,hsm⟩:=zaY H (show s.size≤100 by omega)
 have hdb:=zgL H ht
 refine(zhR lb D g s f t0 w h (by omega) H (by omega) ht hsm).mono ?_
 rintro e w' ⟨v,rfl,hr,hx⟩
 obtain⟨rs,hr1,hr2⟩:=hr
 obtain⟨A,c,hv,_,_,_,_⟩:=zW hr1.own
 refine⟨A,_,c,by rw[hv],hx,fun V xV=>?_⟩
 rw[←hv]
 refine(zgJ _ v _ a d ins.size V (yU.ext ⟨rs,hr1,hr2⟩ xV) (Jw (show s.size≤1000 by omega) H.gm hdb) (zcZ (show s.size≤1000 by omega) hdb) (by unfold j7;omega) (by unfold j7;omega) (by unfold j7;omega) (by omega) (by omega) (by omega)).mono ?_
 rintro e w2 ⟨A2,c2,qs,rfl,P,hx2,hq⟩
 obtain⟨xs,hxs⟩:=zgy (nds qs)
 obtain⟨r1,r2⟩:=zdB H H' h.lok ht (a:=a) (b:=a+d) (d:=(ins.size:Int) - d) (by omega) (zjD (by omega) (by omega)) (by
  have:=zjv (s:=s) (ins:=ins) (a:=a) (b:=a+d) (by omega) (by omega)
  rwa[show(ins.size:Int) - (((a+d:Nat):Int) - a)=(ins.size:Int) - d from by omega]at this) (E:=⟨a,d,ins.size,qJ 1⟩) rfl (by dsimp only;omega) rfl (by dsimp only;omega) (by dsimp only;omega) zde (fun h1 h2=>by
   dsimp only at h1 h2; obtain rfl:d=0:=by omega
   exact zdU s ins a (by omega) (by omega)) (by omega) P.few.len hq hxs
 exact⟨A2,c2,qs,xs,rfl,P,hxs,r1,r2,hx2⟩
set_option maxRecDepth 100000 in
set_option maxHeartbeats 2000000 in
theorem QW (v:Value)(rs:List Rul)(g:Gr)(s ins:ByteArray)(a d:Int)(w:World)(hr:zfD w v rs)(hrl:rs.length≤9223372036854775807)(h:jC w g)(hz:∀p∈g.prods,p.rA=none→p.rc=0)(hsl:s.size≤9223372036854775807)(hil:ins.size≤9223372036854775807)(ha:I64 a)(hd:I64 d):
 Calls Tryz.prog 3 #[v,grV g,.string s,.int .i64 a,.int .i64 d,.string ins] w fun e w'=>e=.returned (.bool true)∧Ext w w':=by
 obtain⟨g0,W,hg0,hW,X1,GA,GO⟩:=xM g w h
 have HX:=zh X1; have HG:=zh GA; have HO:=zh GO; have HR:=zh (hr.ext X1); have HLI:=zh (fun w1 (h1:zfD w1 v rs)=>QY v rs w1 h1 hrl); have HLG:=zh (fun w1 h1=>zaQ g w1 h1); have HBU:=zh (fun w1 (h1:zfD w1 v rs) h2 h3 h4=>za7 v rs g w1 h1 h2 h3 h4 hz); have HCO:=zh (fun w1 h1 (ha:jH g)=>zbe g w1 h1 ha)
 obtain⟨RA,rc,rfl,_⟩:=hr
 obtain⟨rn,hrn⟩:∃k,rs.length=k:=⟨_,rfl⟩
 obtain⟨m,hm⟩:∃m,g.prods.length=m:=⟨_,rfl⟩
 have HM:=zh hm; have HRN:=zh hrn; unfold grV at HLG HBU HCO ⊢; unfold I64 at ha hd
 rw[hrn]at HLI HBU HR ⊢
 rw[hm]at hW HLG HBU HCO ⊢
 clear h X1 GA GO hz hrl hrn hm; go_in
 go_upto_region 1 with fail; try simp only[hg0]
 try simp only[hW]
 clear hg0 hW; go_wp2_with fail
 refine(zaN W).mono ?_
 rintro e w1 ⟨rfl,hx1⟩; have HX1:=zh hx1; clear hx1; go_wp2_with fail
 refine(HLI.out w1 (HR.out.ext HX1.out)).mono ?_
 rintro e w2 ⟨b1,rfl,hb1,hx2⟩; have HX2:=zh (HX1.out.trans hx2); clear hx2 HX1 HLI
 obtain⟨e0,e1,e2,e3,el⟩:=HG.out.ext HX2.out
 rw[HM.out]at e3
 cases b1 with
 |false=>
  clear hb1; go_wp2_with fail; go_ret
  exact⟨rfl,HX.out.trans HX2.out⟩
 |true=>
 have HB1:=zh (hb1 rfl); clear hb1; go_wp2_with fail
 refine(HLG.out w2 (HO.out.ext HX2.out)).mono ?_
 rintro e w3 ⟨b2,rfl,hb2,hx3⟩; have HX3:=zh (HX2.out.trans hx3); clear hx3 HX2 HLG e0 e1 e2 e3 el; cases b2 with
 |false=>
  clear hb2; go_wp2_with fail; go_ret
  exact⟨rfl,HX.out.trans HX3.out⟩
 |true=>
 have HB2:=zh (hb2 rfl); clear hb2; by_cases q1:40 < s.size
 ·have z1:decide ((40:Int) < (s.size:Int))=true:=decide_eq_true (by omega); clear q1; go_wp2_with fail; go_ret
  exact⟨rfl,HX.out.trans HX3.out⟩
 have z1:decide ((40:Int) < (s.size:Int))=false:=decide_eq_false (by omega); by_cases q2:12 < ins.size
 ·have z2:decide ((12:Int) < (ins.size:Int))=true:=decide_eq_true (by omega); clear q1 q2; go_wp2_with fail; go_ret
  exact⟨rfl,HX.out.trans HX3.out⟩
 have z2:decide ((12:Int) < (ins.size:Int))=false:=decide_eq_false (by omega); by_cases q3:a < 0
 ·have z3:decide (a < 0)=true:=decide_eq_true q3; clear q1 q2 q3; go_wp2_with fail; go_ret
  exact⟨rfl,HX.out.trans HX3.out⟩
 have z3:decide (a < 0)=false:=decide_eq_false q3; by_cases q4:d < 0
 ·have z4:decide (d < 0)=true:=decide_eq_true q4; clear q1 q2 q3 q4; go_wp2_with fail; go_ret
  exact⟨rfl,HX.out.trans HX3.out⟩
 have z4:decide (d < 0)=false:=decide_eq_false q4; by_cases q5:(s.size:Int) < a
 ·have z5:decide ((s.size:Int) < a)=true:=decide_eq_true q5; clear q1 q2 q3 q4 q5; go_wp2_with fail; go_ret
  exact⟨rfl,HX.out.trans HX3.out⟩
 have z5:decide ((s.size:Int) < a)=false:=decide_eq_false q5; have hwa:wrap64 ((s.size:Int) - a)=(s.size:Int) - a:=IntWalk.wrap64_in _ (by omega); by_cases q6:(s.size:Int) - a < d
 ·have z6:decide ((s.size:Int) - a < d)=true:=decide_eq_true q6; clear q1 q2 q3 q4 q5 q6; go_wp2_with fail; go_ret
  exact⟨rfl,HX.out.trans HX3.out⟩
 have z6:decide ((s.size:Int) - a < d)=false:=decide_eq_false q6
 obtain⟨e0,e1,e2,e3,el⟩:=HG.out.ext HX3.out
 rw[HM.out]at e3
 have HQ:=zh (And.intro q1 (And.intro q2 (And.intro q3 (And.intro q4 (And.intro q5 q6))))); clear q1 q2 q3 q4 q5 q6 ha hd hsl hil; go_upto_region 5 with fail; clear z1 z2 z3 z4 z5 z6 hwa
 obtain⟨q1,q2,q3,q4,q5,q6⟩:=HQ.out
 clear HQ
 obtain⟨an,rfl⟩:∃n:Nat,a=n:=⟨a.toNat,by omega⟩
 obtain⟨dn,rfl⟩:∃n:Nat,d=n:=⟨d.toNat,by omega⟩
 have HBD:Hid (s.size≤40∧ins.size≤12∧an≤s.size∧dn≤s.size - an):=zh (by omega); clear q1 q2 q3 q4 q5 q6; go_wp2_with fail
 refine(HBU.out w3 (HR.out.ext HX3.out) (fun r hr=>by have:=HB1.out.1 r hr;omega) (by have:=HB1.out.2;have:=HRN.out;omega) (HO.out.ext HX3.out)).mono ?_
 rintro e w4 ⟨er,pv,rfl,hlg,hx4⟩; have HX4:=zh (HX3.out.trans hx4); clear hx4 HX3 HBU e0 e1 e2 e3 el
 obtain⟨e0,e1,e2,e3,el⟩:=HG.out.ext HX4.out
 rw[HM.out]at e3
 by_cases q0:er=0
 case neg=>
  have p1:(er==0)=false:=by simpa using q0
  have p2:(er !=0)=true:=by simpa using q0
  have p3:decide (er=0)=false:=by simpa using q0
  clear q0 hlg; go_wp2_with fail; go_ret
  exact⟨rfl,HX.out.trans HX4.out⟩
 subst q0
 obtain⟨lb,D,rfl,hac,hL⟩:=hlg rfl
 have HA:=zh hac; have HL:=zh hL; clear hlg hac hL
 obtain⟨N0,m0,c0,N1,m1,c1,N2,m2,c2,_,_,_,HCL⟩:=vx HL.out
 obtain⟨_,k1,_,_,_,_,_,_,_,_,_,kl⟩:=HCL w4 (Ext.refl _)
 clear HCL; by_cases q1:40 < m1
 ·have z1:decide ((40:Int) < (m1:Int))=true:=decide_eq_true (by omega); clear q1; go_wp2_with fail; go_ret
  exact⟨rfl,HX.out.trans HX4.out⟩
 have z1:decide ((40:Int) < (m1:Int))=false:=decide_eq_false (by omega); clear q1; go_wp2_with fail
 refine(HCO.out w4 (HO.out.ext HX4.out) HA.out).mono ?_
 rintro e w5 ⟨rfl,hc3,hx5⟩; have HX5:=zh (HX4.out.trans hx5); have HL5:=zh (HL.out.ext hx5); clear hx5 HX4 HL HCO k1 kl e0 e1 e2 e3 el z1; by_cases q1:300 < Ja g.gm
 ·have z1:decide ((300:Int) < Ja g.gm)=true:=decide_eq_true q1; clear q1 hc3; go_wp2_with fail; go_ret
  exact⟨rfl,HX.out.trans HX5.out⟩
 have z1:decide ((300:Int) < Ja g.gm)=false:=decide_eq_false q1; have HMM:Hid (52≤D.M):=zh (by rw[HL5.out.cap];exact zj0 hc3 (by omega)); clear q1 hc3; have HGF:Hid (g.nons≤6∧∀p∈g.prods,p.right.length≤5):=zh (HB2.out (HA.out.1)); have HOP:=zh (zj4 D g.gm s ins an dn lb w5 HL5.out HGF.out.1 (fun p hp=>by obtain⟨q,hq,rfl⟩:=List.mem_map.1 hp;exact HGF.out.2 q hq) HBD.out.1 HBD.out.2.1 HBD.out.2.2.1 HBD.out.2.2.2 HMM.out); go_wp2_with fail; refine HOP.out.mono ?_; rintro e w6 ⟨A6,n6,c6,rfl,hx6,hed⟩; have HX6:=zh (HX5.out.trans hx6); have HL6:=zh (HL5.out.ext hx6); have HED:=zh hed; clear hx6 HX5 HL5 hed HOP z1
 obtain⟨s',hs'⟩:∃s',zfB s ins an (an+dn)=s':=⟨_,rfl⟩
 have HSS:Hid (s'.size≤52):=zh (by
  have h0:=HBD.out; have h1:=ZP (s:=s) (ins:=ins) (a:=an) (b:=an+dn) (by omega) (by omega)
  rw[hs']at h1
  omega)
 rw[hs']at HED
 unfold zfB at hs'
 obtain⟨p1,hp1⟩:∃p,s.extract 0 an=p:=⟨_,rfl⟩
 obtain⟨p2,hp2⟩:∃p,p1++ins=p:=⟨_,rfl⟩
 obtain⟨p3,hp3⟩:∃p,s.extract (an+dn) s.size=p:=⟨_,rfl⟩
 have hz1:p1.size≤40:=by rw[←hp1,ByteArray.size_extract];have:=HBD.out;omega
 have hz2:p2.size≤52:=by rw[←hp2,ByteArray.size_append];have:=HBD.out;omega
 have hz3:p3.size≤40:=by rw[←hp3,ByteArray.size_extract];have:=HBD.out;omega
 rw[hp1,hp2,hp3]at hs'
 have r1:∀w,(Op.stringOp .add p1 ins).run Tryz.prog w=.ok (.string p2) w:=fun w=>by
  rw[←hp2]
  exact run_string_add_sum w p1 ins (by have:=HBD.out;omega)
 have r2:∀w,(Op.stringOp .add p2 p3).run Tryz.prog w=.ok (.string s') w:=fun w=>by
  rw[←hs']
  exact run_string_add_sum w p2 p3 (by omega)
 clear hz1 hz2 hz3 hs' hp2; have i1:(0:Int)≤(an:Int):=by omega
 have i2:(an:Int)≤(s.size:Int):=by have:=HBD.out;omega
 have i3:IntKind.i64.wrap ((an:Int)+(dn:Int))=((an+dn:Nat):Int):=by
  have:=HBD.out
  rw[IntWalk.i64_in _ (by omega)]
  omega
 have i4:(0:Int)≤((an+dn:Nat):Int):=by omega
 have i5:((an+dn:Nat):Int)≤(s.size:Int):=by have:=HBD.out;omega
 have i6:((an:Int)).toNat=an:=by omega
 have i7:(((an+dn:Nat):Int)).toNat=an+dn:=by omega
 go_upto_region 9 with fail; refine zg (12) (zd [0,1,2,3,4,5,6,7,8,9,10,11] .fin) (by kernel_rfl) (by kernel_rfl) ?_; refine yq ?_; refine zv ?_; clear r1 r2 i1 i2 i3 i4 i5 i6 i7 hp1 hp3; go_wp2_with fail; have XD:Ext w6 w6.drew:=xi
 refine(HED.out w6.drew XD).mono ?_
 rintro e w7 ⟨A7,c7,qs,xs,rfl,hP7,hgs,hxl,htk,hx7⟩; have HX7:=zh (HX6.out.trans (XD.trans hx7)); have HL7:=zh (HL6.out.ext (XD.trans hx7)); have HP7:=zh hP7; have HGS:=zh hgs; have HXL:=zh hxl; have HTK:=zh htk; clear hP7 hgs hxl htk hx7 XD HED HX6 HL6; go_wp2_with fail
 refine(zeX A7 c7 qs xs w7 HP7.out HGS.out (by have:=HXL.out;omega)).mono ?_
 rintro e w8 ⟨A8,c8,rfl,ho,hx8⟩
 rw[qB]
 have HX8:=zh (HX7.out.trans hx8); have HL8:=zh (HL7.out.ext hx8); have HP8:=zh (HP7.out.ext hx8)
 obtain⟨o1,o2,o3,_⟩:=ho.ints
 rw[qB]at o2
 unfold maxLen at o3; have HOI:=zh o1; have hcap:=HP8.out.cap; have hmax:=HP8.out.top; clear o1 ho hx8 HX7 HL7 HP7; go_wp2_with fail; go_loopw [19] (fun iv wr=>∃n:Nat,n≤xs.length∧iv=.int .i64 n∧Hid (Ext w8 wr)) (fun iv _=>xs.length - (intOf iv).toNat)
 case atStart=>exact⟨0,Nat.zero_le _,rfl,zh (Ext.refl _)⟩
 case round=>
  obtain⟨n,hn,rfl,hx⟩:=hrel
  have HXW:=zh (HX8.out.trans hx.out); by_cases hlt:n < xs.length
  ·obtain⟨x,hxn⟩:∃x,xs[n]?=some x:=⟨_,List.getElem?_eq_getElem hlt⟩
   obtain⟨m2,vt,f,p,A,q,hq,hsym,hlo,hA,hp,hloop,T,hpt,hsub,hsm,hsz,hb⟩:=HTK.out x (List.mem_of_getElem? hxn)
   have hxlt:=(List.getElem?_eq_some_iff.1 hq).1
   obtain⟨b,off,rfl,hbl,hcell⟩:=(HP8.out.ext hx.out).parts (by omega)
   obtain⟨d0,d1,d2,d3,d4,d5,d6,d7⟩:=hcell x q hq
   obtain⟨b1,off1,rfl,hb1,hc1⟩:=(HOI.out.ext hx.out) (by rw[qB];omega)
   have e1:=hc1 n (by rw[qB];exact hlt); have e2:(vM xs).getD n 0=(x:Int):=by
    unfold vM
    rw[List.getD_eq_getElem?_getD,List.getElem?_map,hxn]
    rfl
   rw[e2]at e1
   have g1:decide ((x:Int) < 0)=false:=decide_eq_false (by omega); have g2:decide ((qs.length:Int)≤(x:Int))=false:=decide_eq_false (by omega); have g3:decide (qs.length≤x)=false:=decide_eq_false (by omega); have HXN:=zh hxn; have HSU:=zh hsub; have HTR:=zh T; have HPT:=zh hpt; have HTP:=zh (fun V (h:jM V lb D g.gm)=>zjM lb D g.gm s' A p f vt V h (by have:=HSS.out;omega) (za3 h HGF.out.1 (fun p hp=>by obtain⟨q,hq,rfl⟩:=List.mem_map.1 hp;exact HGF.out.2 q hq) s') (by have:=HSS.out;have:=HMM.out;omega) (by have h1:=h.hn;have h2:=h.gm;have h3:D.gc.nons=g.nons:=congrArg Gm.nons h2;have h4:(A:Int) < g.nons:=hA;omega) hp hloop hsm hsz hb); have HSZ:=zh hsz; have hts:wrap64 (q.nd.sym - g.terms)=(A:Int):=by
    have h1:q.nd.sym=g.terms+A:=hsym; have h2:1≤g.terms∧g.terms≤8:=(YJ HA.out.1).terms; have h3:1≤g.nons∧g.nons≤16:=(YJ HA.out.1).nons; have h4:(A:Int) < g.nons:=hA
    rw[h1,IntWalk.wrap64_in _ (by omega)]
    omega
   have HLO:Hid (q.nd.lo=(p:Int)):=zh hlo; clear hlo
   have CELLS:=zh (fun(V:World) (y:Ext wr V)=>(⟨(y.below.cell (p:=⟨b1,off1+n,none⟩) hb1).trans e1,Nat.lt_of_lt_of_le hbl y.size,Nat.lt_of_lt_of_le hb1 y.size⟩:
    V.cell? ⟨b1,off1+n,none⟩=some (.int .i64 x)∧b < V.heap.size∧b1 < V.heap.size))
   clear hcell hq hsym hA hp hloop T hpt hsub hsm hsz hb hc1 e2 hxn; go_upto_region 18 with fail
   obtain⟨kb,hkb⟩:∃kb,wr.heap.size=kb:=⟨_,rfl⟩
   obtain⟨W4,hW4⟩:∃W4,wr.alloc (.cells #[.int .i64 q.nd.sym,.int .i64 q.nd.kind,.int .i64 q.nd.lo,.int .i64 q.nd.inn,.int .i64 q.nd.hi,.int .i64 q.nd.look,.slice q.kA q.nd.kids.length q.kc,.int .u64 q.nd.met] 54)=W4:=⟨_,rfl⟩
   have X4:Ext wr W4:=by rw[←hW4];exact xi
   have P4:W4.heap[kb]?=some (.cells (yh q).toArray 54):=by
    rw[←hW4,←hkb]
    exact heap_alloc_new _ _
   rw[hkb,hW4]
   obtain⟨ly,y0,y1,y2,y3,y4,y5,y6,y7⟩:=qk P4
   obtain⟨z0,z1,z2,z3,zl⟩:=HG.out.ext (HXW.out.trans X4)
   rw[HLO.out]at y2
   have HX4:=zh (hx.out.trans X4); have HXR:=zh X4; clear hW4 hkb X4 P4 d0 d1 d2 d3 d4 d5 d6 d7 e1 y1 y3 y4 y5 y6 y7 z1 z2 z3; go_wp2_with fail
   refine(HTP.out W4 (HL8.out.ext HX4.out)).mono ?_
   rintro e w9 ⟨B9,c9,rs9,rfl,hn9,hP9,hx9⟩; have HX9:=zh (HX4.out.trans hx9)
   obtain⟨k1,k2,k3⟩:=CELLS.out w9 (HXR.out.trans hx9)
   have HP9:=zh hP9; have HN9:=zh hn9; clear hn9 hP9 hx9 y0 y2 ly z0 zl hts HTP hbl hb1; go_wp2_with fail
   refine(zg2 x m2 (HP8.out.ext HX9.out) HTR.out HPT.out).mono ?_
   rintro e w10 ⟨A10,c10,qs10,rfl,hn10,hO10,hx10⟩; have HX10:=zh (HX9.out.trans hx10); have HP10:=zh (HP9.out.ext hx10); have HN10:=zh hn10; have HO10:=zh hO10; clear hn10 hO10 hx10; go_wp2_with fail
   refine(zew A10 B9 qs10 rs9 c10 c9 w10 HO10.out.cells.1 HO10.out.oks HP10.out.parts HP10.out.oks ?_ ?_).mono ?_
   ·have h1:=zx qs10
    rw[HN10.out,HSU.out,Zl]at h1
    have:=HSZ.out
    omega
   ·have:=HP10.out.few.len
    omega
   rintro e w11 ⟨rfl,hx11⟩; have hdd:decide (nds qs10=nds rs9)=true:=decide_eq_true (by rw[HN10.out,HSU.out,HN9.out])
   rw[hdd]
   have HX11:=zh (HX10.out.trans hx11); clear hx11 hdd k1 k2 k3; go_wp2_with fail; go_roundw
   case rel=>exact⟨n+1,by omega,by go_num,HX11⟩
   case measure=>simp[intOf];omega
  ·have g1:decide (n < xs.length)=false:=decide_eq_false hlt; have g2:decide ((n:Int) < (xs.length:Int))=false:=decide_eq_false (by omega); go_wp2_with fail; go_ret
   exact⟨rfl,HX.out.trans HXW.out⟩
end Go.Proofs.YtmbelmngniddjaaGreat
namespace Go.Proofs.YtmbelmngniddjaaGreat
open Go.ChangeShapes Go.WideShapes Go.ChangeAt Go.RowKit
theorem own:ownKnob Tryz.prog.godebug=none:=by kernel_rfl
theorem ziF:laidOutB Tryz.prog=true:=by kernel_rfl
theorem ZR {H:Type}{enc:TypeId×Value→H}{P:Program}(hl:laidOutB P=true){W W':World}(hb:Below W.heap.size W W'):
 ∀{ts:List TypeId} {vs:List Value} {ds:List (DataW H)} {ps:List MemPlace},(∀t∈ts,P.readableRec t=true∧t < P.types.size)→
  DataW.TrodAll enc P W 0 (fun _=>true) true ts vs ds ps→(∀x∈ps,x.block < W.heap.size)→DataW.TrodAll enc P W' 0 (fun b=>decide (b < W.heap.size)) true ts vs ds ps
 |[],[],[],_,_,h,_=>h
 |t ::ts,v ::vs,d ::ds,ps,hr,h,hlt=>by
  obtain⟨p,q,h1,h2,rfl⟩:=h
  exact⟨p,q,Below.trod hl (hr t (by simp)).1 (hr t (by simp)).2 h1 hb (fun x hx=>hlt x (by simp[hx])),
   ZR hl hb (fun u hu=>hr u (by simp[hu])) h2 (fun x hx=>hlt x (by simp[hx])),rfl⟩
 |[],[],_ ::_,_,_,h,_=>h.elim
 |[],_ ::_,[],_,_,h,_=>h.elim
 |[],_ ::_,_ ::_,_,_,h,_=>h.elim
 |_ ::_,[],[],_,_,h,_=>h.elim
 |_ ::_,[],_ ::_,_,_,h,_=>h.elim
 |_ ::_,_ ::_,[],_,_,h,_=>h.elim
theorem Zg {H:Type}{enc:TypeId×Value→H}{P:Program}{W:World}{b:Nat}{sp:Nat→Bool}{hd:Bool}:
 ∀{ts:List TypeId} {vs:List Value} {ds:List (DataW H)} {ps:List MemPlace},DataW.TrodAll enc P W b sp hd ts vs ds ps→ds.length=ts.length∧vs.length=ts.length
 |[],[],[],_,_=>⟨rfl,rfl⟩
 |t ::ts,v ::vs,d ::ds,ps,h=>by
  obtain⟨p,q,h1,h2,rfl⟩:=h
  have:=Zg h2
  simp[this.1,this.2]
 |[],[],_ ::_,_,h=>h.elim
 |[],_ ::_,[],_,h=>h.elim
 |[],_ ::_,_ ::_,_,h=>h.elim
 |_ ::_,[],[],_,h=>h.elim
 |_ ::_,[],_ ::_,_,h=>h.elim
 |_ ::_,_ ::_,[],_,h=>h.elim
set_option maxRecDepth 100000 in
theorem zc0 {os:Os}(started:os.Started){H:Type}{enc:TypeId×Value→H}{f:FuncId}{fn:Func}{s:ChangeSpec}{conds:List PathCond}
 (noInit:Tryz.checked.prog.inits.idxOf? f=none) (hfn:Tryz.checked.prog.funcs[f]?=some fn)
 (witness:∃(w:World) (tape:Tape) (i:Input),w.os=os∧(w.forCall tape i).Shaped Tryz.checked.prog∧i.vars=[]∧Input.okWide Tryz.checked.prog (w.forCall tape i) .any w.heap.size f i∧
   s.pre6 enc Tryz.checked.prog fn conds false (w.forCall tape i).memory i.args∧Assume.holds {} Tryz.checked.prog (lone (Frame.enter Tryz.checked.prog f i.args .normal) [] (w.forCall tape i)))
 (hvars:s.vars=[])
 (hres:fn.resultTypes=#[4]) (hu:Tryz.prog.underlying 4=some .bool)
 (hread:∀t∈fn.params.toList,Tryz.prog.readableRec t=true∧t < Tryz.prog.types.size)
 (hspec:∀ds:List (DataW H),ds.length=fn.params.toList.length→s.fn H ds={results:=[.lit (.bool true)],args:=ds})
 (walk:∀(W:World) (base:Nat) (args:Array Value) (ds:List (DataW H)) (ps:List MemPlace),
   (∀(j:Nat) t v,fn.params.toList[j]?=some t→args.toList[j]?=some v→Value.okWide Tryz.prog W .any base t v)→
   DataW.TrodAll enc Tryz.prog W 0 (fun _=>true) true fn.params.toList args.toList ds ps→
   (DataW.weightsEach Tryz.prog fn.params.toList ds).all (· ≤reachBytes)=true→
   Calls Tryz.prog f args W fun e w'=>e=.returned (.bool true)∧Below W.heap.size W w'):
 ReturnsInHanded {} Tryz.checked os f .any (s.pre6 enc Tryz.checked.prog fn conds false) (s.post enc Tryz.checked.prog fn false true false false):=by
 refine returnsInHanded_of_change_sized own started noInit hfn witness ?_; intro W base args ds gs before hval hW _ hsz _; have hW':=hW
 obtain⟨p,q,hA,hV,hps,_,_⟩:=hW
 rw[hvars]at hV
 obtain⟨rfl,rfl⟩:=trodVars_none hV
 rw[List.append_nil]at hps
 subst hps; have hsz':(DataW.weightsEach Tryz.prog fn.params.toList ds).all (· ≤reachBytes)=true:=by
  have hv:s.plain.varTypes Tryz.checked.prog=[]:=by
   show(s.vars.filterMap _)=[]
   rw[hvars]
   rfl
  rw[hv,List.append_nil,List.append_nil]at hsz
  exact hsz
 have hlen:=Zg hA
 refine(walk W base args ds before (fun j t v ht hv=>hval j t v (by rw[←Array.getElem?_toList];exact ht) (by rw[←Array.getElem?_toList];exact hv)) hA hsz').mono fun e W' ⟨he,hb⟩=>⟨_,he,?_⟩
 have hsp:=hspec ds hlen.1
 refine⟨ds,[],before,[],before,[],hW',?_,?_,?_,hb.frame _,fun h=>by cases h⟩
 ·rw[List.append_nil,hsp,hres]
  exact trodAll_cons_mk (shut_bool hu _) trodAll_mk0
 ·rw[List.append_nil,hsp]
  exact ZR ziF hb hread hA (fun x hx=>by simpa using hW'.lt x hx)
 ·rw[List.append_nil,hsp,hvars]
  rfl
end Go.Proofs.YtmbelmngniddjaaGreat
namespace Go.Proofs.YtmbelmngniddjaaGreat
open Go.ChangeShapes Go.WideShapes Go.ChangeAt Go.RowKit Go.Joins Go.Deep
section
variable {H:Type}{enc:TypeId×Value→H}{P:Program}{w:World}{base:Nat}{spare:Nat→Bool}{held:Bool}
theorem Yx {e:TypeId}{fs:Array Field}{n:Nat}{a:Addr}{cs:List Value}{x:DataW H×List MemPlace}(he:P.underlying e=some (.struct fs))(hone:oneCellFields P fs=true)
 (hsz:P.cellsOf e=fs.size) (hc:w.cells? base a (P.cellsOf e)=some cs) (ht:DataW.trod enc P w base spare held n e cs=some x) (j:Nat) (f:Field) (hj:fs[j]?=some f):
 ∃(m:Nat) (v:Value) (y:DataW H×List MemPlace),w.cell? (a.add j)=some v∧DataW.trod enc P w base spare held m f.type [v]=some y:=by
 obtain⟨ys,m,_,_,_,hyl,hf⟩:=DataW.trod_struct he ht
 obtain⟨_,hcl,hat⟩:=World.cells?_some hc
 obtain⟨ho,hk⟩:=hone_of hone j f hj
 have hjl:j < fs.size:=(Array.getElem?_eq_some_iff.1 hj).1; have hjc:j < cs.length:=by omega
 have h1:=hf j f hj
 rw[ho,hk,List.drop_eq_getElem_cons hjc]at h1
 refine⟨m,cs[j],ys[j]'(by omega),?_,?_⟩
 ·exact(hat j (by omega)).trans (List.getElem?_eq_getElem hjc)
 ·exact h1.trans (List.getElem?_eq_getElem (by omega))
end
theorem zfT:Tryz.prog.cellsOf 3=1:=by kernel_rfl
theorem Ve {a:Int}(h:(Lit.int .i64 a).wf=true):-9223372036854775808≤a∧a≤9223372036854775807:=by
 simpa[Lit.wf,IntKind.min,IntKind.max,IntKind.signed,IntKind.bits]using h
section
variable {H:Type}{enc:TypeId×Value→H}{W:World}{b0:Nat}{v:Value}{d:DataW H}{p:List MemPlace}
set_option maxRecDepth 100000 in
theorem zbS (hv:Value.okWide Tryz.prog W .any b0 3 v)(h:DataW.Trod enc Tryz.prog W 0 (fun _=>true) true 3 v d p):
 ∃a:Int,v=.int .i64 a∧-9223372036854775808≤a∧a≤9223372036854775807:=by
 obtain⟨x,rfl,_,_,wx⟩:=open_int Tryz.underlying3 hv h
 exact⟨x,rfl,Ve wx⟩
set_option maxRecDepth 100000 in
theorem zeK {n:Nat}{y:DataW H×List MemPlace}(h:DataW.trod enc Tryz.prog W 0 (fun _=>true) true n 33 [v]=some y):
 ∃A c xs,v=.slice A xs.length c∧xW W A xs∧xs.length≤c∧c≤9223372036854775807∧(∀x∈xs,-9223372036854775808≤x∧x≤9223372036854775807)∧(A=none→c=0):=by
 rcases open_ints Tryz.underlying33 Tryz.underlying3 zfT h with⟨hcs,_⟩|⟨a,len,cap,zs,hcs,_,hl,hm,hz,_,hcell,hwz⟩
 ·injection hcs with hcs
  exact⟨none,0,[],hcs,xW.nil,by simp,by omega,by simp,fun _=>rfl⟩
 ·injection hcs with hcs; have hz:zs.length=cap:=hz; have hlen:(zs.take len).length=len:=by rw[List.length_take];omega
  refine⟨some a,cap,zs.take len,by rw[hcs,hlen],?_,by omega,by unfold maxLen at hm;omega,fun x hx=>Ve (hwz x (List.mem_of_mem_take hx)),fun h=>by cases h⟩
  intro h0
  rw[hlen]at h0
  obtain⟨b,off,rfl,hc⟩:=ints_at hcell (by omega)
  refine⟨b,off,rfl,?_,?_⟩
  ·have:=hc 0 (by omega)
   exact World.block_lt_of_cell? _ _ this
  ·intro k hk
   rw[hlen]at hk
   rw[hc k (by omega)]
   simp[List.getD_eq_getElem?_getD,hk]
theorem zfz {α:Type}(n:Nat)(R:Nat→α→Prop)(h:∀i,i < n→∃x,R i x):∃l:List α,l.length=n∧∀i x,l[i]?=some x→R i x:=by
 induction n with
 |zero=>exact⟨[],rfl,by simp⟩
 |succ n ih=>
  obtain⟨l,hl,hr⟩:=ih (fun i hi=>h i (by omega))
  obtain⟨x,hx⟩:=h n (by omega)
  refine⟨l++[x],by simp[hl],fun i y hy=>?_⟩
  rw[List.getElem?_append]at hy
  split at hy
  ·exact hr i y hy
  ·have:i - l.length=0:=by
    rcases Nat.eq_zero_or_pos (i - l.length)with h0|h0
    ·exact h0
    ·rw[List.getElem?_eq_none (by simp;omega)]at hy
     cases hy
   rw[this]at hy
   obtain rfl:x=y:=by simpa using hy
   obtain rfl:i=n:=by omega
   exact hx
theorem jV (b off i:Nat):(⟨b,off,none⟩:Addr).add i=⟨b,off+i,none⟩:=Go.WideShapes.add_plain b off i
end
theorem zae:Tryz.prog.cellsOf 70=2:=by kernel_rfl
theorem zah:Tryz.prog.cellsOf 25=4:=by kernel_rfl
section
variable {H:Type}{enc:TypeId×Value→H}{W:World}{b0:Nat}{v:Value}{d:DataW H}{p:List MemPlace}
set_option maxRecDepth 100000 in
theorem zcQ {n:Nat}{y:DataW H×List MemPlace}(h:DataW.trod enc Tryz.prog W 0 (fun _=>true) true n 23 [v]=some y):
 ∃A c ps,v=.slice A (ps:List Prd).length c∧zji W A ps∧(∀p∈ps,Jg W p)∧ps.length≤c∧c≤9223372036854775807∧(∀p∈ps,I64 p.left∧(p.rA=none→p.rc=0)):=by
 rcases open_slice Tryz.underlying23 h with⟨hcs,_⟩|⟨a,len,cap,m,n,D,Pl,hcs,_,hl,hm,hmm,_,hcell⟩
 ·injection hcs with hcs
  exact⟨none,0,[],hcs,(fun h=>by simp at h),(fun s hs=>by simp at hs),by simp,by omega,fun s hs=>by simp at hs⟩
 ·injection hcs with hcs; have hmm:m=cap:=hmm
  obtain⟨ss,hlen,hss⟩:=zfz len (fun i (s:Prd)=>W.cell? ((a.add (i*2)).add 0)=some (.int .i64 s.left)∧W.cell? ((a.add (i*2)).add 1)=some (.slice s.rA s.right.length s.rc)∧Jg W s∧I64 s.left∧(s.rA=none→s.rc=0)) (by
   intro i hi
   obtain⟨cs',hc',ht'⟩:=hcell i (by omega)
   have hf:=Yx Tryz.underlying70 (by kernel_rfl) zae hc' ht'
   obtain⟨n0,v0,y0,c0,t0⟩:=hf 0 _ rfl
   obtain⟨n1,v1,y1,c1,t1⟩:=hf 1 _ rfl
   rw[zae]at c0 c1
   obtain⟨k,e0,_,b0⟩:=DataW.trod_int Tryz.underlying3 t0
   obtain⟨A,c,xs,rfl,hI,hx1,hx2,hx3,hx4⟩:=zeK t1
   simp at e0
   subst e0
   exact⟨⟨k,A,c,xs⟩,c0,c1,⟨hI,hx1,hx2⟩,Ve b0,hx4⟩)
  refine⟨some a,cap,ss,by rw[hcs,hlen],?_,?_,by omega,by unfold maxLen at hm;omega,?_⟩
  ·intro h0
   obtain⟨s,hs⟩:∃s,ss[0]?=some s:=⟨_,List.getElem?_eq_getElem h0⟩
   have h1:=(hss 0 s hs).1
   obtain⟨b,off,spot⟩:=a
   have hspot:spot=none:=by simpa[Addr.add]using World.cell?_spot h1
   subst hspot
   refine⟨b,off,rfl,?_,?_⟩
   ·simp only[jV]at h1
    exact World.block_lt_of_cell? _ _ h1
   ·intro k s hk
    obtain⟨g0,g1,_⟩:=hss k s hk
    simp only[jV]at g0 g1
    exact⟨g0,g1⟩
  ·intro s hs
   obtain⟨i,hi,rfl⟩:=List.getElem_of_mem hs
   exact(hss i _ (List.getElem?_eq_getElem hi)).2.2.1
  ·intro s hs
   obtain⟨i,hi,rfl⟩:=List.getElem_of_mem hs
   exact(hss i _ (List.getElem?_eq_getElem hi)).2.2.2
set_option maxRecDepth 100000 in
theorem zaj (hv:Value.okWide Tryz.prog W .any b0 25 v)(h:DataW.Trod enc Tryz.prog W 0 (fun _=>true) true 25 v d p):
 ∃g:Gr,v=grV g∧jC W g∧I64 g.terms∧I64 g.nons∧I64 g.k∧∀p∈g.prods,I64 p.left∧(p.rA=none→p.rc=0):=by
 obtain⟨c0,c1,c2,c3,y0,y1,y2,y3,m,rfl,_,_,hy0,hy1,hy2,hy3⟩:=open_agg4 Tryz.underlying25 (by kernel_rfl) zah hv h
 obtain⟨a,e0,_,w0⟩:=DataW.trod_int Tryz.underlying3 hy0
 obtain⟨b,e1,_,w1⟩:=DataW.trod_int Tryz.underlying3 hy1
 obtain⟨c,e2,_,w2⟩:=DataW.trod_int Tryz.underlying3 hy2
 obtain⟨A,cc,ps,e3,h1,h2,h3,h4,h5⟩:=zcQ hy3
 simp at e0 e1 e2
 subst e0 e1 e2 e3
 exact⟨⟨a,b,c,A,cc,ps⟩,rfl,⟨h1,h2,h3,h4⟩,Ve w0,Ve w1,Ve w2,h5⟩
end
theorem JD:Tryz.prog.cellsOf 68=3:=by kernel_rfl
section
variable {H:Type}{enc:TypeId×Value→H}{W:World}{b0:Nat}{v:Value}{d:DataW H}{p:List MemPlace}
set_option maxRecDepth 100000 in
theorem zcf (hv:Value.okWide Tryz.prog W .any b0 22 v)(h:DataW.Trod enc Tryz.prog W 0 (fun _=>true) true 22 v d p):
 ∃rs:List Rul,zfD W v rs∧rs.length≤9223372036854775807:=by
 obtain⟨A0,len0,cap0,rfl⟩:=okWide_slice Tryz.underlying22 hv
 obtain⟨fuel,hf⟩:=h
 rcases open_slice Tryz.underlying22 (show DataW.trod enc Tryz.prog W 0 (fun _=>true) true fuel 22 [.slice A0 len0 cap0]=_ by simpa[Value.cells]using hf)with⟨hcs,_⟩|⟨a,len,cap,m,n,D,Pl,hcs,_,hl,hm,hmm,_,hcell⟩
 ·injection hcs with hcs
  exact⟨[],⟨none,0,hcs,(fun h=>by simp at h)⟩,by simp⟩
 ·injection hcs with hcs; have hmm:m=cap:=hmm
  obtain⟨ss,hlen,hss⟩:=zfz len (fun i (s:Rul)=>W.cell? ((a.add (i*3)).add 0)=some (.string s.name)∧W.cell? ((a.add (i*3)).add 1)=some (.string s.text)∧W.cell? ((a.add (i*3)).add 2)=some (.bool s.skip)) (by
   intro i hi
   obtain⟨cs',hc',ht'⟩:=hcell i (by omega)
   have hf:=Yx Tryz.underlying68 (by kernel_rfl) JD hc' ht'
   obtain⟨n0,v0,y0,c0,t0⟩:=hf 0 _ rfl
   obtain⟨n1,v1,y1,c1,t1⟩:=hf 1 _ rfl
   obtain⟨n2,v2,y2,c2,t2⟩:=hf 2 _ rfl
   rw[JD]at c0 c1 c2
   obtain⟨x0,e0,_,w0⟩:=DataW.trod_string Tryz.underlying9 t0
   obtain⟨x1,e1,_,w1⟩:=DataW.trod_string Tryz.underlying9 t1
   obtain⟨x2,e2,_⟩:=DataW.trod_bool Tryz.underlying4 t2
   simp at e0 e1 e2
   subst e0 e1 e2
   exact⟨⟨x0,x1,x2⟩,c0,c1,c2⟩)
  refine⟨ss,⟨some a,cap,by rw[hcs,hlen],?_⟩,by unfold maxLen at hm;omega⟩
  intro h0
  obtain⟨s,hs⟩:∃s,ss[0]?=some s:=⟨_,List.getElem?_eq_getElem h0⟩
  have h1:=(hss 0 s hs).1
  obtain⟨b,off,spot⟩:=a
  have hspot:spot=none:=by simpa[Addr.add]using World.cell?_spot h1
  subst hspot
  refine⟨b,off,rfl,?_,?_⟩
  ·simp only[jV]at h1
   exact World.block_lt_of_cell? _ _ h1
  ·intro k s hk
   obtain⟨g0,g1,g2⟩:=hss k s hk
   simp only[jV]at g0 g1 g2
   exact⟨g0,g1,g2⟩
set_option maxRecDepth 100000 in
theorem JF (hv:Value.okWide Tryz.prog W .any b0 9 v)(h:DataW.Trod enc Tryz.prog W 0 (fun _=>true) true 9 v d p):∃s:ByteArray,v=.string s∧s.size≤9223372036854775807:=by
 obtain⟨s,h1,_,_,h2⟩:=Go.ChangeMaps.open_string Tryz.underlying9 hv h
 unfold maxLen at h2
 exact⟨s,h1,h2⟩
end
end Go.Proofs.YtmbelmngniddjaaGreat
