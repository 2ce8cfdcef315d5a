/- Rf: texts that the proof rests on, part 9. -/
import Derived.Test.YtmbelmngniddjaaGreatRf8
namespace Go.Proofs.YtmbelmngniddjaaGreat
open Go.RowKit
attribute [local go_sem] zF zB zI zJ zw zt zN zD zX zQ zK zP zO zL zT zR zS zG zM zC
def Yz (g:Gm)(left:Int)(row:Row)(q:Int):Prop:=(q=-1∧∀p∈g.prods,p.left=left→¬jh g p row)∨∃(i:Nat) (p:Pd),q=i∧g.prods[i]?=some p∧p.left=left∧jh g p row
theorem Yz.one {g:Gm}(h:vd g){left:Int}{row:Row}{q q':Int}(h1:Yz g left row q)(h2:Yz g left row q'):q=q':=by
 rcases h1 with⟨rfl,h1⟩|⟨i,p,rfl,hp,hl,hr⟩
 ·rcases h2 with⟨rfl,_⟩|⟨i',p',rfl,hp',hl',hr'⟩
  ·rfl
  ·exact absurd hr' (h1 p' (List.mem_of_getElem? hp') hl')
 ·rcases h2 with⟨rfl,h2⟩|⟨i',p',rfl,hp',hl',hr'⟩
  ·exact absurd hr (h2 p (List.mem_of_getElem? hp) hl)
  ·rw[h i i' p p' row hp hp' (by rw[hl,hl']) hr hr']
open Classical in
noncomputable def QM (g:Gm)(left:Int)(row:Row):Int:=if h:∃q,Yz g left row q then Classical.choose h else -1
theorem zbn {g:Gm}(h:vd g){left:Int}{row:Row}{q:Int}(hq:Yz g left row q):q=QM g left row:=by
 unfold QM
 rw[dif_pos ⟨q,hq⟩]
 exact hq.one h (Classical.choose_spec (⟨q,hq⟩:∃q,Yz g left row q))
theorem zbj (g:Gm)(left:Int)(row:Row):Yz g left row (QM g left row):=by
 have:∃q,Yz g left row q:=by
  by_cases h:∃(i:Nat) (p:Pd),g.prods[i]?=some p∧p.left=left∧jh g p row
  ·obtain⟨i,p,h⟩:=h
   exact⟨i,.inr ⟨i,p,rfl,h⟩⟩
  ·exact⟨-1,.inl ⟨rfl,fun p hp hl hr=>by
    obtain⟨i,hi⟩:=List.mem_iff_getElem?.1 hp
    exact h ⟨i,p,hi,hl,hr⟩⟩⟩
 unfold QM
 rw[dif_pos this]
 exact Classical.choose_spec this
set_option maxRecDepth 100000 in
set_option maxHeartbeats 2000000 in
theorem zaF (g:Gr)(n tg tt tc:Nat)(left:Int)(x:ByteArray)(w:World)(h:jC w g)(h0:yY g=0)(hn:g.nons=n)(ht:zcw w tg tt g.gm)(hst:vd g.gm):Calls Tryz.prog 98 #[grV g,.agg #[.slice (some ⟨tg,tt,none⟩) g.prods.length tc],.int .i64 left,.string x] w fun e w'=>e=.returned (.int .i64 (QM g.gm left (rb x)))∧Ext w w':=by
 have HCK:=zh (fun w1 h1=>xL g w1 h1)
 rw[h0]at HCK
 obtain⟨hT,hN,hK,hP1,hP2⟩:=yk h0
 obtain⟨b1,W1,hb1,hW1,X1,GA,GO⟩:=xM g w h
 obtain⟨m,hm⟩:∃m,g.prods.length=m:=⟨_,rfl⟩
 have HM:=zh hm
 rw[hm]at hP1 hP2 hW1
 obtain⟨W2,hW2⟩:∃V,W1.alloc (.cells #[.slice (some ⟨tg,tt,none⟩) m tc] 40)=V:=⟨_,rfl⟩
 have x12:Ext W1 W2:=by rw[←hW2];exact xi
 have hgs:W1.heap.size=b1+1:=by rw[←hW1,←hb1];simp
 have HTB:Hid (W2.heap[b1+1]?=some (.cells #[.slice (some ⟨tg,tt,none⟩) m tc] 40)):=zh (by rw[←hW2,←hgs];exact heap_alloc_new _ _); have HG2:=zh (GA.ext x12); have HO2:=zh (GO.ext x12); have HX2:=zh (X1.trans x12); have HTG:=zh (ht.ext (X1.trans x12)); have H0:=zh h0; have HST:=zh hst; unfold grV at HCK ⊢
 rw[hm]at HCK ⊢
 clear h X1 GA GO h0 hn hm x12 ht hst; go_in
 go_upto_region 1 with fail; try simp only[hb1]
 try simp only[hW1]
 try simp only[hgs]
 try simp only[hW2]
 clear hb1 hW1 hgs hW2
 obtain⟨e0,e1,e2,e3,el⟩:=HG2.out
 rw[HM.out]at e3
 go_wp2_with fail
 refine(HCK.out _ HO2.out).mono ?_
 rintro e' W3 ⟨rfl,x3⟩; have HX3:Hid (Ext W2 W3):=zh x3; clear x3 HCK e0 e1 e2 e3 el
 obtain⟨e0,e1,e2,e3,el⟩:=HG2.out.ext HX3.out
 rw[HM.out]at e3
 have hTB:=zb HTB.out HX3.out; have t0:=cr 0 hTB; have tl:=za hTB; simp at t0
 clear hTB; go_wp2_with fail; clear e0 e1 e2 e3 el t0 tl; go_loopw [9] (fun iv wr=>∃i:Nat,iv=.int .i64 i∧i≤m∧Hid (∀(j:Nat) (p:Pd),j < i→g.gm.prods[j]?=some p→p.left=left→¬jh g.gm p (rb x))∧Hid (Ext W2 wr)) (fun iv _=>m - (intOf iv).toNat)
 case atStart=>exact⟨0,rfl,Nat.zero_le _,zh (fun j p h=>by omega),HX3⟩
 case round=>
  clear HX3
  obtain⟨i,rfl,hi,HNO,HX⟩:=hrel
  obtain⟨e0,e1,e2,e3,el⟩:=HG2.out.ext HX.out
  rw[HM.out]at e3
  by_cases hlt:i < m
  ·obtain⟨p,hp⟩:∃p,g.prods[i]?=some p:=⟨_,List.getElem?_eq_getElem (by have:=HM.out;omega)⟩
   obtain⟨pg,po,hA,pl,d0,d1,_⟩:=(HO2.out.ext HX.out).prd hp
   rw[hA]at e3
   have HPG:=zh (vO hp)
   obtain⟨pleft,rA,rc,pr⟩:=p
   dsimp only at d0; clear hp hA d1; by_cases hc:pleft=left
   ·subst hc
    obtain⟨u,us,u0,hus,oku⟩:=(HTG.out.ext HX.out).at_ i _ HPG.out
    have ul:=(HTG.out.ext HX.out).lt
    obtain⟨Au,cu,rfl⟩:=hus.size
    have hTB:=zb HTB.out HX.out; have t0:=cr 0 hTB; have tl:=za hTB; simp at t0
    obtain⟨r,hr⟩:∃r:Bool,r=true↔x∈us:=by
     by_cases hm:x∈us
     ·exact⟨true,⟨fun _=>hm,fun _=>rfl⟩⟩
     ·exact⟨false,⟨fun h=>(by cases h),fun h=>absurd h hm⟩⟩
    have HHS:=zh (VB Au cu us x wr (hus.cells.2.1) (by have:=oku.len;omega) r hr); have HRL:Hid (r=true↔jh g.gm ⟨pleft,pr⟩ (rb x)):=zh (hr.trans ⟨fun h=>(oku.mem _).1 (List.mem_map.2 ⟨x,h,rfl⟩),fun h=>by
     obtain⟨z,hz,he⟩:=List.mem_map.1 ((oku.mem _).2 h)
     rw[←zhv he]
     exact hz⟩)
    have f1:(pleft==pleft)=true:=by simp
    clear hus oku hr hTB; go_wp2_with fail; refine HHS.out.mono ?_; rintro e' W5 ⟨rfl,x5⟩; have HX5:=zh (HX.out.trans x5); clear x5 HHS e0 e1 e2 e3 el d0 pl u0 ul t0 tl f1; cases r with
    |true=>
     have HRE:=zh (zbn HST.out (.inr ⟨i,_,rfl,HPG.out,rfl,HRL.out.1 rfl⟩)); go_wp2_with fail; go_ret
     exact⟨yt HRE.out,HX2.out.trans HX5.out⟩
    |false=>
     have HNO2:Hid (∀(j:Nat) (p:Pd),j < i+1→g.gm.prods[j]?=some p→p.left=pleft→¬jh g.gm p (rb x)):=zh (fun j p hj hp hl hlk=>by
      by_cases hji:j=i
      ·subst hji
       rw[HPG.out]at hp
       injection hp with hp; subst hp
       have:=HRL.out.2 hlk
       cases this
      ·exact HNO.out j p (by omega) hp hl hlk)
     go_wp2_with fail; go_roundw
     case rel=>exact⟨i+1,by go_num,by omega,HNO2,HX5⟩
     case measure=>simp[intOf];omega
   ·have f1:(pleft==left)=false:=by simpa using hc
    have HNO2:Hid (∀(j:Nat) (p:Pd),j < i+1→g.gm.prods[j]?=some p→p.left=left→¬jh g.gm p (rb x)):=zh (fun j p hj hp hl hlk=>by
     by_cases hji:j=i
     ·subst hji
      rw[HPG.out]at hp
      injection hp with hp; subst hp; exact hc hl
     ·exact HNO.out j p (by omega) hp hl hlk)
    clear hc; go_wp2_with fail; go_roundw
    case rel=>exact⟨i+1,by go_num,by omega,HNO2,HX⟩
    case measure=>simp[intOf];omega
  ·obtain rfl:i=m:=by omega
   have HRE:=zh (zbn HST.out (left:=left) (row:=rb x) (.inl ⟨rfl,fun p hp hl=>by
    obtain⟨j,hj⟩:=List.mem_iff_getElem?.1 hp
    exact HNO.out j p (by have h1:=(List.getElem?_eq_some_iff.1 hj).1;have h2:=HM.out;simp only[Gr.gm,List.length_map]at h1;omega) hj hl⟩))
   go_wp2_with fail; go_ret
   exact⟨yt HRE.out,HX2.out.trans HX.out⟩
structure zc2 (w:World)(xg xo n t:Nat)(β:Nat→Nat→Bool):Prop where
 lt:xg < w.heap.size
 at_:∀A,A < n→∃lb lo cl,w.cell? ⟨xg,xo+A,none⟩=some (.slice (some ⟨lb,lo,none⟩) t cl)∧t≤cl∧lb < w.heap.size∧∀k,k < t→w.cell? ⟨lb,lo+k,none⟩=some (.bool (β A k))
theorem zc2.ext {w w':World}{xg xo n t:Nat}{β:Nat→Nat→Bool}(h:zc2 w xg xo n t β)(e:Ext w w'):zc2 w' xg xo n t β:=
 ⟨Nat.lt_of_lt_of_le h.lt e.size,fun A hA=>by
   obtain⟨lb,lo,cl,h1,h2,h3,h4⟩:=h.at_ A hA
   exact⟨lb,lo,cl,zy h1 h.lt e,h2,Nat.lt_of_lt_of_le h3 e.size,fun k hk=>zy (h4 k hk) h3 e⟩⟩
def zjf (w:World)(n t:Nat)(e:Ending)(w':World):Prop:=∃xg xo xc β,e=.returned (.slice (some ⟨xg,xo,none⟩) n xc)∧zc2 w' xg xo n t β∧Ext w w'
structure NxI (w0 w:World)(base t:Nat)(row:Value)(vs:List Value):Prop where
 own:w.ownsRow base 121 1 row vs.length vs
 ext:Ext w0 w
 low:w0.heap.size≤base
 rows:∀(i:Nat) (v:Value),vs[i]?=some v→∃h bs,v=.slice (some ⟨h,0,none⟩) t t∧yQ w base h t bs
theorem NxI.to {w0 w w':World}{base t:Nat}{row:Value}{vs:List Value}(h:NxI w0 w base t row vs)(e:Ext w w'):NxI w0 w' base t row vs:=
 ⟨yv h.own e,h.ext.trans e,h.low,fun i v hv=>by
   obtain⟨b,bs,h1,h2⟩:=h.rows i v hv
   exact⟨b,bs,h1,h2.ext e⟩⟩
theorem NxI.other {w0 w:World}{base t g k:Nat}{u:Value}{row:Value}{vs:List Value}(h:NxI w0 w base t row vs)(hg:base≤g)(hne:∀(i b:Nat),vs[i]?=some (.slice (some ⟨b,0,none⟩) t t)→b≠g)(hty:∃cs,w.heap[g]?=some (.cells cs 4)):NxI w0 (w.setCell ⟨g,k,none⟩ u) base t row vs:=by
 have T:zA (fun x=>x=g) w (w.setCell ⟨g,k,none⟩ u):=zA.set1 _ _ _
 refine⟨ye h.own fun b hb=>T.block b (z8 h.own b hb) (fun he=>?_),h.ext.setCell (by have:=h.low;show _≤g;omega) _,h.low,fun i v hv=>?_⟩
 ·obtain⟨cur,hc⟩:=zZ h.own b hb
  obtain⟨cs,hcs⟩:=hty
  exact zU hc hcs (by decide) he
 ·obtain⟨b,bs,h1,h2⟩:=h.rows i v hv
  refine⟨b,bs,h1,h2.1,ye h2.2 fun c hc=>T.block c (z8 h2.2 c hc) (fun he=>?_)⟩
  subst h1; injection hc with hc; exact hne i b hv (hc.trans he)
theorem NxI.app {w0 w w2:World}{base t:Nat}{row row':Value}{vs:List Value}{h:Nat}{bs:List Bool}(hh:NxI w0 w base t row vs)(hb:yQ w base h t bs)(ho:w2.ownsRow base 121 1 row' (vs.length+1) (vs++[.slice (some ⟨h,0,none⟩) t t]))(hg:w.grownBy w2 row.ownBlock):NxI w0 w2 base t row' (vs++[.slice (some ⟨h,0,none⟩) t t]):=by
 have T:zA (fun g=>row.ownBlock=some g) w w2:=zA.grown hg (fun g hg _=>hg); have keepB:∀{b:Nat} {bs:List Bool},yQ w base b t bs→yQ w2 base b t bs:=fun {b bs} h2=>⟨h2.1,ye h2.2 fun c hc=>T.block c (z8 h2.2 c hc) (fun he=>by
  obtain⟨cur,hcur⟩:=zZ hh.own c he
  obtain⟨cur2,hcur2⟩:=zZ h2.2 c hc
  exact zU hcur hcur2 (by decide) rfl)⟩
 refine⟨by rw[List.length_append];exact ho,hh.ext.grown hg (fun g hg=>Nat.le_trans hh.low (zV hh.own g hg)),hh.low,fun i v hv=>?_⟩
 by_cases hi:i < vs.length
 ·rw[List.getElem?_append_left hi]at hv
  obtain⟨b,bs,h1,h2⟩:=hh.rows i v hv
  exact⟨b,bs,h1,keepB h2⟩
 ·rw[List.getElem?_append_right (by omega)]at hv
  obtain⟨d,hd⟩:∃d,i - vs.length=d:=⟨_,rfl⟩
  rw[hd]at hv
  cases d with
  |zero=>
   simp at hv
   exact⟨h,bs,hv.symm,keepB hb⟩
  |succ d=>simp at hv
set_option maxRecDepth 100000 in
set_option maxHeartbeats 4000000 in
theorem zfZ (g:Gr)(n k t:Nat)(w:World)(h:jC w g)(h0:yY g=0)(hn:g.nons=n)(hk:g.k=k)(ht:g.terms+1=t):Calls Tryz.prog 26 #[grV g] w (zjf w n t):=by
 have HFO:=zh (fun w1 h1=>VG g n k w1 h1 h0 hn hk); have HTT:=zh ht; have ht9:2≤t∧t≤9:=by have:=yk h0;omega
 have hmk:=fun w=>jk w t (g.terms+1) ht (by omega); have hwt:wrap64 (g.terms+1)=g.terms+1:=IntWalk.wrap64_in _ (by have:=yk h0;omega); unfold grV at HFO; clear hk ht
 obtain⟨hT,hN,hK,hP1,hP2⟩:=yk h0
 obtain⟨b1,W2,hb1,hW1,X1,GA,GO⟩:=xM g w h
 have HG2:=zh GA; have HO2:=zh GO; have HX2:=zh X1; have H0:=zh h0; have HNN:=zh hn; have hn16:1≤n∧n≤16:=by omega
 unfold grV
 obtain⟨m,hm⟩:∃m,g.prods.length=m:=⟨_,rfl⟩
 have HM:=zh hm
 rw[hm]at hP1 hP2 HFO ⊢
 rw[hm]at hW1
 clear h X1 GA GO h0 hn hm; go_in
 go_upto_region 1 with fail; try simp only[hb1]
 try simp only[hW1]
 clear hb1 hW1
 obtain⟨e0,e1,e2,e3,el⟩:=HG2.out
 rw[HM.out]at e3
 go_wp2_with fail
 refine(HFO.out _ HO2.out).mono ?_
 rintro e' W3 ⟨wb,ws,rfl,hwb,hws,x3⟩; have HX3:=zh (HX2.out.trans x3); have HWB:=zh hwb.rd; have HWK:=zh hws; have HG3:=zh (HG2.out.ext x3); clear hwb hws x3 HFO e0 e1 e2 e3 el HG2
 obtain⟨i6,hi6,hz0,hz1,hz2⟩:=info_parts Vg
 have HI:=zh hi6; have HZ0:=zh hz0; have HZ1:=zh hz1; have HZ2:=zh hz2; clear hi6 hz0 hz1 hz2; go_wp2_with fail; go_loopw [3,5] (fun ov iv wr=>∃(i:Nat) (vs:List Value),iv=.int .i64 i∧i≤n∧Hid (vs.length=i)∧Hid (NxI W3 wr W3.heap.size t ov vs)) (fun _ iv _=>n - (intOf iv).toNat)
 case atStart=>exact⟨0,[],rfl,Nat.zero_le _,zh rfl,zh ⟨World.ownsRow_nil _ _ _ _,Ext.refl _,Nat.le_refl _,fun i v h=>by simp at h⟩⟩
 case round=>
  obtain⟨i,vs,rfl,hi,HL,HNX⟩:=hrel
  have HX:=zh HNX.out.ext; by_cases hlt:i < n
  ·obtain⟨e0,e1,e2,e3,el⟩:=HG3.out.ext HX.out
   obtain⟨lb,hlb⟩:∃b,wr.heap.size=b:=⟨_,rfl⟩
   obtain⟨V0,hV0⟩:∃V,wr.alloc (.cells (madeCells #[.bool false] t) 4)=V:=⟨_,rfl⟩
   have hlow:W3.heap.size≤lb:=by rw[←hlb];exact HX.out.size
   have xv:Ext wr V0:=by rw[←hV0];exact xi
   have HB0:Hid (yQ V0 W3.heap.size lb t (List.replicate t false)):=zh (by rw[←hV0];exact yQ.made (by rw[←hlb];exact heap_alloc_new _ _) hlow (by omega)); have HN0:=zh (HNX.out.to xv); have HNE:Hid (∀(j b:Nat),vs[j]?=some (.slice (some ⟨b,0,none⟩) t t)→b≠lb):=zh (fun j b hj he=>by
    obtain⟨b',bs,h1,h2⟩:=HNX.out.rows j _ hj
    injection h1 with h1; injection h1 with h1; injection h1 with h1
    have:=h2.lt
    omega)
   have HLOW:=zh hlow
   obtain⟨vw,u0,hvw⟩:=HWB.out.at_ i hlt
   have ul:=HWB.out.lt
   obtain⟨Aw,cw,rfl⟩:=hvw.size
   obtain⟨nw,hnw⟩:∃k,(ws i).length=k:=⟨_,rfl⟩
   have HNW:=zh hnw; have hnw1:nw≤1000:=by rw[←hnw];exact(HWK.out i hlt).len
   rw[hnw]at u0
   rw[Nat.zero_add]at u0
   have HVW:=zh hvw; have HU:Hid (∀w1,Ext W3 w1→w1.cell? ⟨wb,i,none⟩=some (.slice Aw nw cw)∧wb < w1.heap.size):=zh (fun w1 e=>⟨zy u0 ul e,Nat.lt_of_lt_of_le ul e.size⟩); clear hlow xv hvw hnw u0 ul; go_upto_region 7 with fail; try simp only[hlb]
   try simp only[hV0]
   clear hlb hV0 e0 e1 e2 e3 el; go_wp2_with fail; go_loopw [7] (fun jv wq=>∃(j:Nat) (bs:List Bool),jv=.int .i64 j∧j≤nw∧Hid (yQ wq W3.heap.size lb t bs)∧Hid (NxI W3 wq W3.heap.size t u3 vs)) (fun jv _=>nw - (intOf jv).toNat)
   case atStart=>exact⟨0,_,rfl,Nat.zero_le _,HB0,HN0⟩
   case round=>
    clear HB0 HN0 HX HNX
    obtain⟨j,bs,rfl,hj,HB,HNX⟩:=hrel
    have HX:=zh HNX.out.ext
    obtain⟨u0,ul⟩:=HU.out _ HX.out
    by_cases hlj:j < nw
    ·obtain⟨x,hx⟩:∃x,(ws i)[j]?=some x:=⟨_,List.getElem?_eq_getElem (by have:=HNW.out;omega)⟩
     obtain⟨gx,ox,hAx,lx,z0⟩:=(HVW.out.ext HX.out).get hx
     subst hAx; clear hx
     obtain⟨e0,e1,e2,e3,el⟩:=HG3.out.ext HX.out
     by_cases hemp:x.size=0
     ·have q0:x.toList.isEmpty=true:=by rw[Yk,hemp];rfl
      clear hemp; go_wp2_with fail; go_roundw
      case rel=>exact⟨j+1,bs,by go_num,by omega,HB,HNX⟩
      case measure=>simp[intOf];omega
     ·have q0:x.toList.isEmpty=false:=by rw[Yk];simp[hemp]
      have hx8:x[0]?=some (x[0]'(by omega)):=ByteArray.getElem?_lt' x _ (by omega)
      obtain⟨b8,hb8⟩:∃b,x[0]'(by omega)=b:=⟨_,rfl⟩
      rw[hb8]at hx8
      have hidx:=fun w=>qS hx8 0 rfl w; have hbe:=zeC b8; have hb9:=b8.toNat_lt; clear hx8 hb8 hemp
      obtain⟨iE,hiE⟩:∃b,(b8==255)=b:=⟨_,rfl⟩
      rw[hiE]at hbe
      cases iE with
      |true=>
       have htm:g.terms=((t - 1:Nat):Int):=by have:=HTT.out;omega
       have h1t:t - 1 < t:=by omega
       obtain⟨y,hy⟩:∃y,bs[t - 1]?=some y:=⟨_,List.getElem?_eq_getElem (by rw[HB.out.1];exact h1t)⟩
       have c0:=HB.out.get hy; have cl:=HB.out.lt; have cf:=HB.out.frozen (t - 1)
       obtain⟨W6,hW6⟩:∃W,wr.setCell ⟨lb,t - 1,none⟩ (.bool true)=W:=⟨_,rfl⟩
       have HB6:Hid (yQ W6 W3.heap.size lb t (bs.set (t - 1) true)):=zh (by rw[←hW6];exact HB.out.put _ true); have HN6:Hid (NxI W3 W6 W3.heap.size t u3 vs):=zh (by rw[←hW6];exact HNX.out.other HLOW.out HNE.out HB.out.obj)
       rw[htm]at e0
       clear hy htm hiE; go_wp2_with fail; try simp only[hW6]
       go_roundw
       case rel=>exact⟨j+1,_,by go_num,by omega,HB6,HN6⟩
       case measure=>simp[intOf];omega
      |false=>
       obtain⟨c8,hc8⟩:∃c,b8.toNat=c:=⟨_,rfl⟩
       rw[hc8]at hbe hb9
       simp only[hc8]at hidx
       have hcv:IntKind.i64.wrap (c8:Int)=(c8:Int):=IntWalk.i64_in _ (by omega)
       obtain⟨W5,hW5⟩:∃W,wr.drew=W:=⟨_,rfl⟩
       have x5:Ext wr W5:=by rw[←hW5];exact xi
       have HB5:=zh (HB.out.ext x5); have HN5:=zh (HNX.out.to x5); clear x5 hiE hc8; by_cases hct:(c8:Int) < g.terms
       ·have q1:decide ((c8:Int) < g.terms)=true:=decide_eq_true hct; have h1t:c8 < t:=by have:=HTT.out;omega
        obtain⟨y,hy⟩:∃y,bs[c8]?=some y:=⟨_,List.getElem?_eq_getElem (by rw[HB.out.1];exact h1t)⟩
        have c0:=HB5.out.get hy; have cl:=HB5.out.lt; have cf:=HB5.out.frozen c8
        obtain⟨W6,hW6⟩:∃W,W5.setCell ⟨lb,c8,none⟩ (.bool true)=W:=⟨_,rfl⟩
        have HB6:Hid (yQ W6 W3.heap.size lb t (bs.set c8 true)):=zh (by rw[←hW6];exact HB5.out.put _ true); have HN6:Hid (NxI W3 W6 W3.heap.size t u3 vs):=zh (by rw[←hW6];exact HN5.out.other HLOW.out HNE.out HB5.out.obj); clear hy hct; go_upto_region 14 with fail; refine zg (6) (zd [0,1,3] (zj [2,4,5] .fin)) (by kernel_rfl) (by kernel_rfl) ?_; (repeat first|refine yq ?_|refine yr ?_)
        refine zv ?_; try simp only[hW5]
        go_wp2_with fail; try simp only[hW6]
        go_roundw
        case rel=>exact⟨j+1,_,by go_num,by omega,HB6,HN6⟩
        case measure=>simp[intOf];omega
       ·have q1:decide ((c8:Int) < g.terms)=false:=decide_eq_false hct; clear hct; go_upto_region 14 with fail; refine zg (6) (zd [0,1,3] (zj [2,4,5] .fin)) (by kernel_rfl) (by kernel_rfl) ?_; (repeat first|refine yq ?_|refine yr ?_)
        refine zv ?_; try simp only[hW5]
        go_wp2_with fail; go_roundw
        case rel=>exact⟨j+1,_,by go_num,by omega,HB5,HN5⟩
        case measure=>simp[intOf];omega
    ·obtain rfl:j=nw:=by omega
     obtain⟨A0,k0,hov,_⟩:=zW HNX.out.own
     subst hov; have XA:Ext wr (wr.alloc (.cells #[.slice (some ⟨lb,0,none⟩) t t] 121)):=xi; have HNA:=zh (HNX.out.to XA); have HBA:=zh (HB.out.ext XA); have HC:=zh (xp wr 121 wr.heap.size #[.slice (some ⟨lb,0,none⟩) t t] [.slice (some ⟨lb,0,none⟩) t t] rfl rfl); have HSZ:Hid (W3.heap.size≤(wr.alloc (.cells #[.slice (some ⟨lb,0,none⟩) t t] 121)).heap.size):=zh (HX.out.trans XA).size
     obtain⟨vl,hvl⟩:∃l,vs.length=l:=⟨_,rfl⟩
     obtain rfl:vl=i:=by rw[←hvl];exact HL.out
     rw[hvl]at HNA ⊢
     have HOWN:Hid ((wr.alloc (.cells #[.slice (some ⟨lb,0,none⟩) t t] 121)).ownsRow W3.heap.size 121 1 (.slice A0 vl k0) vl vs):=zh (by have:=HNA.out.own;rw[hvl]at this;exact this); clear XA hvl; go_wp2_with (at_builtin;refine zE _ (by rfl) (.tmp 56) (.tmp 58) 41 rfl W3.heap.size 121 i6 _ 1 24 Tryz.underlying41 HI.out HZ0.out HZ1.out HZ2.out rfl (by omega) (.slice A0 vl k0) vl vs rfl HOWN.out (some ⟨wr.heap.size,0,none⟩) 1 1 [.slice (some ⟨lb,0,none⟩) t t] rfl (by intro h;cases h) rfl HC.out (by intro u hu;obtain rfl:=List.mem_singleton.1 hu;rfl) (by unfold maxLen;omega) (by omega) HSZ.out ?_;intro v5 w5 ho5 hg5 hat5)
     have HN6:=zh (HNA.out.app HBA.out (by rw[HL.out];exact ho5) hg5); have HL6:Hid ((vs++[Value.slice (some ⟨lb,0,none⟩) t t]).length=vl+1):=zh (by rw[List.length_append,HL.out];rfl); clear ho5 hg5 hat5; go_roundw
     case rel=>exact⟨vl+1,_,by go_num,by omega,HL6,HN6⟩
     case measure=>simp[intOf];omega
  ·obtain rfl:i=n:=by omega
   obtain⟨A0,k0,hov,hcc,_⟩:=zW HNX.out.own
   subst hov
   obtain⟨xg,xo,rfl,hxl,hxc⟩:=hcc (by rw[HL.out];omega)
   have hrow:∀A,∃f:Nat→Bool,A < i→∃lb,wr.cell? ⟨xg,xo+A,none⟩=some (.slice (some ⟨lb,0,none⟩) t t)∧lb < wr.heap.size∧∀k,k < t→wr.cell? ⟨lb,0+k,none⟩=some (.bool (f k)):=fun A=>by
    by_cases hA:A < i
    ·obtain⟨v,hv⟩:∃v,vs[A]?=some v:=⟨_,List.getElem?_eq_getElem (by have:=HL.out;omega)⟩
     obtain⟨lb,bs,rfl,hb⟩:=HNX.out.rows A v hv
     refine⟨fun k=>bs.getD k false,fun _=>⟨lb,hxc A _ hv,hb.lt,fun k hk=>?_⟩⟩
     rw[Nat.zero_add]
     exact hb.get (by show bs[k]?=some (bs.getD k false);rw[List.getD_eq_getElem?_getD,List.getElem?_eq_getElem (by rw[hb.1];exact hk)];rfl)
    ·exact⟨fun _=>false,fun h=>absurd h hA⟩
   have HR:Hid (∃β,zc2 wr xg xo i t β):=zh (by
    refine⟨fun A=>Classical.choose (hrow A),hxl,fun A hA=>?_⟩
    obtain⟨lb,h1,h2,h3⟩:=Classical.choose_spec (hrow A) hA
    exact⟨lb,0,t,h1,Nat.le_refl _,h2,h3⟩)
   obtain⟨vl,hvl⟩:∃l,vs.length=l:=⟨_,rfl⟩
   obtain rfl:vl=i:=by rw[←hvl];exact HL.out
   rw[hvl]
   clear hrow hcc hxl hxc hvl; go_wp2_with fail; go_ret
   obtain⟨β,hβ⟩:=HR.out
   exact⟨xg,xo,k0,β,rfl,hβ,HX3.out.trans HX.out⟩
def zfE (g:Gm)(X:Int→Nat→Prop):List Int→Nat→Prop
 |[],m=>m=0
 |s ::r,m=>∃a b,g.terms≤s∧X (s - g.terms) a∧zfE g X r b∧m=a+b
def za0 (g:Gm):Nat→Int→Nat→Prop
 |0,_=>fun _=>False
 |k+1,A=>fun m=>∃p∈g.prods,p.left=A∧∃b,zfE g (za0 g k) p.right b∧m=b+1
def Der (g:Gm)(A:Int)(m:Nat):Prop:=∃k,za0 g k A m
theorem zfE.mono {g:Gm}{X Y:Int→Nat→Prop}(h:∀A m,X A m→Y A m):∀{r:List Int} {m:Nat},zfE g X r m→zfE g Y r m
 |[],_,h1=>h1
 |_ ::_,_,⟨a,b,h1,h2,h3,h4⟩=>⟨a,b,h1,h _ _ h2,h3.mono h,h4⟩
theorem za0.up {g:Gm}:∀(k:Nat) (A:Int) (m:Nat),za0 g k A m→za0 g (k+1) A m
 |0,_,_,h=>h.elim
 |k+1,_,_,⟨p,hp,hl,b,hb,hm⟩=>⟨p,hp,hl,b,hb.mono (za0.up k),hm⟩
theorem za0.le {g:Gm}{k l:Nat}(h:k≤l):∀A m,za0 g k A m→za0 g l A m:=by
 induction h with
 |refl=>intro A m h;exact h
 |step _ ih=>intro A m h;exact za0.up _ A m (ih A m h)
theorem zhf {g:Gm}:∀{r:List Int} {m:Nat},zfE g (Der g) r m→∃k,zfE g (za0 g k) r m
 |[],_,h=>⟨0,h⟩
 |_ ::_,_,⟨a,b,h1,⟨k,h2⟩,h3,h4⟩=>by
  obtain⟨l,hl⟩:=zhf h3
  exact⟨max k l,a,b,h1,za0.le (Nat.le_max_left _ _) _ _ h2,hl.mono (za0.le (Nat.le_max_right _ _)),h4⟩
theorem Der.mk {g:Gm}{p:Pd}(hp:p∈g.prods){b:Nat}(h:zfE g (Der g) p.right b):Der g p.left (b+1):=by
 obtain⟨k,hk⟩:=zhf h
 exact⟨k+1,p,hp,rfl,b,hk,rfl⟩
open Classical in
noncomputable def ZZ (g:Gm)(A:Int):Int:=if h:∃m,Der g A m then(Classical.choose (exists_least h):Nat)else -1
theorem zgz {g:Gm}{A:Int}{m:Nat}(h:Der g A m)(hl:∀m',Der g A m'→m≤m'):ZZ g A=m:=by
 unfold ZZ
 rw[dif_pos ⟨m,h⟩]
 obtain⟨h1,h2⟩:=Classical.choose_spec (exists_least (⟨m,h⟩:∃m,Der g A m))
 have:=hl _ h1
 have:=h2 m h
 omega
theorem zgf {g:Gm}{A:Int}(h:∀m,¬Der g A m):ZZ g A=-1:=by
 unfold ZZ
 rw[dif_neg (fun⟨m,hm⟩=>h m hm)]
def bK:Nat→Int
 |0=>0
 |k+1=>8*bK k+1
theorem zhX (k:Nat):0≤bK k∧bK k≤bK (k+1):=by
 have h0:∀k,0≤bK k:=fun k=>by
  induction k with
  |zero=>exact Int.le_refl _
  |succ k ih=>simp only[bK];omega
 have:=h0 k
 exact⟨this,by simp only[bK];omega⟩
theorem zke {a b:Nat}(h:a≤b):bK a≤bK b:=by
 induction h with
 |refl=>exact Int.le_refl _
 |step _ ih=>exact Int.le_trans ih (zhX _).2
def Jh:Int:=40210710958665
theorem zbq {a:Nat}(h:a≤16):bK a≤Jh:=by
 have:=zke h
 have e:bK 16=Jh:=by decide
 omega
def Jq (xs:List Int):Nat:=xs.countP (fun x=>decide (0≤x))
theorem Jf (xs:List Int):Jq xs≤xs.length:=List.countP_le_length
theorem zb3:∀{xs:List Int} {a:Nat} {x y:Int},xs[a]?=some x→0≤y→Jq (xs.set a y)=if 0≤x then Jq xs else Jq xs+1
 |[],_,_,_,h,_=>by simp at h
 |z ::xs,0,x,y,h,hy=>by
  simp at h
  subst h; unfold Jq
  rw[List.set_cons_zero,List.countP_cons,List.countP_cons]
  by_cases hz:0≤z
  ·simp[hz,hy]
  ·simp[hz,hy]
 |z ::xs,a+1,x,y,h,hy=>by
  have ih:=zb3 (xs:=xs) (a:=a) (x:=x) (y:=y) (by simpa using h) hy; unfold Jq at*
  rw[List.set_cons_succ,List.countP_cons,List.countP_cons,ih]
  split<;>omega
def wN (x:Int):Nat:=if x < 0 then Jh.toNat+1 else x.toNat
def mN (xs:List Int):Nat:=(xs.map wN).sum
theorem zhk:∀{xs:List Int} {a:Nat} {x y:Int},xs[a]?=some x→mN (xs.set a y)+wN x=mN xs+wN y
 |[],_,_,_,h=>by simp at h
 |z ::xs,0,x,y,h=>by
  simp at h
  subst h; simp[mN]
  omega
 |z ::xs,a+1,x,y,h=>by
  have ih:=zhk (xs:=xs) (a:=a) (x:=x) (y:=y) (by simpa using h); simp only[mN,List.set_cons_succ,List.map_cons,List.sum_cons]at*
  omega
def Vj (g:Gm)(xs:List Int):List Int→Int→Prop
 |[],m=>m=0
 |s ::r,m=>∃x b,g.terms≤s∧xs[(s - g.terms).toNat]?=some x∧0≤x∧Vj g xs r b∧m=x+b
theorem Vj.snoc {g:Gm}{xs:List Int}{s x:Int}(h1:g.terms≤s)(h2:xs[(s - g.terms).toNat]?=some x)(h3:0≤x):∀{r:List Int} {m:Int},Vj g xs r m→Vj g xs (r++[s]) (m+x)
 |[],_,rfl=>⟨x,0,h1,h2,h3,rfl,by omega⟩
 |_ ::_,_,⟨y,b,k1,k2,k3,k4,rfl⟩=>⟨y,b+x,k1,k2,k3,k4.snoc h1 h2 h3,by omega⟩
theorem Vj.one {g:Gm}{xs:List Int}:∀{r:List Int} {m m':Int},Vj g xs r m→Vj g xs r m'→m=m'
 |[],_,_,h,h'=>by rw[show _=(0:Int)from h,show _=(0:Int)from h']
 |_ ::_,_,_,⟨y,b,_,k2,_,k4,rfl⟩,⟨y',b',_,l2,_,l4,rfl⟩=>by
  rw[k2]at l2
  injection l2 with l2
  rw[l2,k4.one l4]
structure JW (g:Gm)(n:Nat)(xs:List Int):Prop where
 len:xs.length=n
 der:∀(A:Nat) (x:Int),xs[A]?=some x→x=-1∨1≤x∧Der g (A:Int) x.toNat
 bd:∀x∈xs,x≤bK (Jq xs)
theorem Vj.der {g:Gm}{n:Nat}{xs:List Int}(h:JW g n xs):∀{r:List Int} {m:Int},Vj g xs r m→0≤m∧zfE g (Der g) r m.toNat∧m≤r.length*bK (Jq xs)
 |[],_,rfl=>⟨Int.le_refl _,rfl,by simp⟩
 |s ::r,_,⟨x,b,h1,h2,h3,h4,rfl⟩=>by
  obtain⟨i1,i2,i3⟩:=h4.der h
  rcases h.der _ _ h2 with h5|⟨h5,h6⟩
  ·omega
  ·rw[Int.toNat_of_nonneg (by omega)]at h6
   have h7:=h.bd x (List.mem_of_getElem? h2)
   refine⟨by omega,⟨x.toNat,b.toNat,h1,h6,i2,by omega⟩,?_⟩
   rw[List.length_cons]
   have:((r.length+1:Nat):Int)*bK (Jq xs)=r.length*bK (Jq xs)+bK (Jq xs):=by rw[Int.natCast_add,Int.add_mul];simp
   omega
def za9 (g:Gm)(xs:List Int)(i:Nat):Prop:=∀(j:Nat) (p:Pd),j < i→g.prods[j]?=some p→∀m,Vj g xs p.right m→∃x,xs[p.left.toNat]?=some x∧0≤x∧x≤m+1
theorem za9.next {g:Gm}{xs:List Int}{i:Nat}{p:Pd}(h:za9 g xs i)(hp:g.prods[i]?=some p)(hh:∀m,Vj g xs p.right m→∃x,xs[p.left.toNat]?=some x∧0≤x∧x≤m+1):za9 g xs (i+1):=by
 intro j q hj hq; by_cases hji:j=i
 ·subst hji
  rw[hp]at hq
  injection hq with hq; subst hq; exact hh
 ·exact h j q (by omega) hq
theorem zej {g:Gm}(hg:VE g){n m:Nat}(hn:g.nons=n){xs:List Int}(h:JW g n xs)(hc:za9 g xs m)(hm:m=g.prods.length):∀(A:Nat),A < n→xs[A]?=some (ZZ g (A:Int)):=by
 have key:∀(k:Nat) (A:Int) (m':Nat),za0 g k A m'→∃x,xs[A.toNat]?=some x∧0≤x∧x≤m':=by
  intro k; induction k with
  |zero=>intro A m' h;exact h.elim
  |succ k ih=>
   rintro A m' ⟨p,hp,rfl,b,hb,rfl⟩
   obtain⟨j,hj⟩:=List.mem_iff_getElem?.1 hp
   have hs:∀{r:List Int} {b:Nat},zfE g (za0 g k) r b→∃c,Vj g xs r c∧c≤b:=by
    intro r; induction r with
    |nil=>intro b hb;exact⟨0,rfl,by rw[show b=0 from hb];exact Int.le_refl _⟩
    |cons s r ihr=>
     rintro b ⟨x,y,h1,h2,h3,rfl⟩
     obtain⟨u,u1,u2,u3⟩:=ih _ _ h2
     obtain⟨c,c1,c2⟩:=ihr h3
     exact⟨u+c,⟨u,c,h1,u1,u2,c1,rfl⟩,by omega⟩
   obtain⟨c,c1,c2⟩:=hs hb
   obtain⟨x,x1,x2,x3⟩:=hc j p (by rw[hm];exact(List.getElem?_eq_some_iff.1 hj).1) hj c c1
   exact⟨x,x1,x2,by omega⟩
 intro A hA
 obtain⟨x,hx⟩:∃x,xs[A]?=some x:=⟨_,List.getElem?_eq_getElem (by rw[h.len];exact hA)⟩
 rw[hx]
 congr 1
 rcases h.der A x hx with rfl|⟨h1,h2⟩
 ·rw[zgf (fun m' ⟨k,hk⟩=>by
   obtain⟨y,y1,y2,_⟩:=key k _ m' hk
   rw[Int.toNat_natCast,hx]at y1
   injection y1 with y1; omega)]
 ·rw[zgz h2 (fun m' ⟨k,hk⟩=>by
   obtain⟨y,y1,y2,y3⟩:=key k _ m' hk
   rw[Int.toNat_natCast,hx]at y1
   injection y1 with y1; omega)]
  omega
theorem Vv {xs:List Int}{a:Nat}{y b:Int}(h:∀x∈xs,x≤b)(hy:y≤b):∀x∈xs.set a y,x≤b:=by
 intro x hx; rcases List.mem_or_eq_of_mem_set hx with hx|rfl
 ·exact h x hx
 ·exact hy
theorem JW.put {g:Gm}{n a:Nat}(hn:n≤16){xs:List Int}{x v:Int}{right:List Int}(h:JW g n xs)(hp:(⟨(a:Int),right⟩:Pd)∈g.prods)(hr:right.length≤8)(hx:xs[a]?=some x)(hv:Vj g xs right (v - 1))(hlt:x < 0∨v < x):JW g n (xs.set a v)∧mN (xs.set a v)+1≤mN xs∧1≤v:=by
 obtain⟨h1,h2,h3⟩:=hv.der h
 have hal:=(List.getElem?_eq_some_iff.1 hx).1; have hset:=zb3 (y:=v) hx (by omega); have hbk:=zhX (Jq xs); have hsc:=Jf xs
 rw[h.len]at hsc hal
 have hv8:v≤8*bK (Jq xs)+1:=by
  have:(right.length:Int)*bK (Jq xs)≤8*bK (Jq xs):=Int.mul_le_mul_of_nonneg_right (by omega) hbk.1
  omega
 have hm:=zhk (y:=v) hx; have hvt:v≤Jh:=by
  by_cases hx0:0≤x
  ·have:=h.bd x (List.mem_of_getElem? hx)
   have:=zbq (a:=Jq xs) (by omega)
   omega
  ·rw[if_neg hx0]at hset
   have h5:=Jf (xs.set a v)
   rw[List.length_set,h.len,hset]at h5
   have:=zbq (a:=Jq xs+1) (by omega)
   simp only[bK]at this
   omega
 refine⟨⟨by rw[List.length_set];exact h.len,fun A y hy=>?_,?_⟩,?_,by omega⟩
 ·by_cases hA:A=a
  ·subst hA
   rw[List.getElem?_set_self (by rw[h.len];exact hal)]at hy
   injection hy with hy; subst hy; refine .inr ⟨by omega,?_⟩
   have:=Der.mk hp h2
   rw[show v.toNat=(v - 1).toNat+1 by omega]
   exact this
  ·rw[List.getElem?_set_ne (fun he=>hA he.symm)]at hy
   exact h.der A y hy
 ·rw[hset]
  split
  ·refine Vv h.bd ?_
   have:=h.bd x (List.mem_of_getElem? hx)
   omega
  ·refine Vv (fun y hy=>Int.le_trans (h.bd y hy) hbk.2) ?_; simp only[bK]
   exact hv8
 ·unfold wN at hm
  rw[if_neg (show ¬v < 0 by omega)]at hm
  split at hm<;>omega
theorem zcu (g:Gm)(n:Nat):JW g n (List.replicate n (-1)):=by
 refine⟨by simp,fun A x h=>?_,fun x hx=>?_⟩
 ·rw[List.getElem?_replicate]at h
  split at h
  ·injection h with h; exact .inl h.symm
  ·cases h
 ·rw[List.eq_of_mem_replicate hx]
  have:=(zhX (Jq (List.replicate n (-1)))).1
  omega
def zd9 (n k:Nat):List Int:=List.replicate k (-1)++List.replicate (n - k) 0
theorem zf4 {n k:Nat}(h:k < n):(zd9 n k).set k (-1)=zd9 n (k+1):=by
 unfold zd9
 rw[List.set_append_right _ _ (by simp),List.length_replicate,Nat.sub_self]
 obtain⟨d,hd⟩:∃d,n - k=d+1:=⟨n - k - 1,by omega⟩
 rw[hd,show n - (k+1)=d by omega,List.replicate_succ,List.set_cons_zero,List.replicate_succ',List.append_assoc]
 rfl
theorem zg9 (n:Nat):zd9 n n=List.replicate n (-1):=by simp[zd9]
theorem zfi (n:Nat):zd9 n 0=List.replicate n 0:=by simp[zd9]
def zhd (w:World)(n:Nat)(f:Int→Int)(e:Ending)(w':World):Prop:=∃ob xs,e=.returned (.slice (some ⟨ob,0,none⟩) n n)∧jE w' w.heap.size ob n xs∧(∀A:Nat,A < n→xs[A]?=some (f (A:Int))∧-1≤f (A:Int)∧f (A:Int)≤Jh)∧Ext w w'
theorem zbP {w:World}{base base' g n:Nat}{xs:List Int}(h:jE w base g n xs)(hb:base'≤base):jE w base' g n xs:=⟨h.1,Y5 h.2 hb⟩
set_option maxRecDepth 100000 in
set_option maxHeartbeats 4000000 in
theorem zgN (g:Gr)(n:Nat)(w:World)(h:jC w g)(hac:jH g)(hn:g.nons=n):Calls Tryz.prog 53 #[grV g] w (zhd w n (ZZ g.gm)):=by
 have h0:=hac.1; have HAC:=zh hac; have hmk:=fun w=>VW w n g.nons hn (by have:=yk h0;omega); have HGO:=zh (YJ h0)
 obtain⟨hT,hN,hK,hP1,hP2⟩:=yk h0
 obtain⟨b1,W1,hb1,hW1,X1,GA,GO⟩:=xM g w h
 have HC:=zh (Ym g W1 GO); have HG:=zh GA; have HO:=zh GO; have HX1:=zh X1; have H0:=zh h0; have HNN:=zh hn; have hn16:1≤n∧n≤16:=by omega
 unfold grV at HC ⊢
 obtain⟨m,hm⟩:∃m,g.prods.length=m:=⟨_,rfl⟩
 have HM:=zh hm
 obtain⟨e0,e1,e2,e3,el⟩:=GA
 rw[hm]at e3 hP1 hP2 HC ⊢
 rw[hm]at hW1
 clear h X1 GO h0 hn hm hac; go_in
 go_upto_region 1 with fail; try simp only[hb1]
 try simp only[hW1]
 clear hb1 hW1; go_wp2_with fail; refine HC.out.mono ?_; rintro e W2 ⟨er,rfl,her,x2⟩; obtain rfl:er=0:=her.2 HAC.out; have HX2:=zh (HX1.out.trans x2); have HG2:=zh (HG.out.ext x2); have HO2:=zh (HO.out.ext x2); clear x2 HC e0 e1 e2 e3 el HG HO her
 obtain⟨e0,e1,e2,e3,el⟩:=HG2.out
 rw[HM.out]at e3
 obtain⟨ob,hob⟩:∃b,W2.heap.size=b:=⟨_,rfl⟩
 obtain⟨V0,hV0⟩:∃V,W2.alloc (.cells (madeCells #[.int .i64 0] n) 3)=V:=⟨_,rfl⟩
 have HB0:Hid (jE V0 W2.heap.size ob n (zd9 n 0)):=zh (by rw[←hV0,zfi];exact jE.made (by rw[←hob];exact heap_alloc_new _ _) (by omega) (by omega)); have HV0:Hid (Ext W2 V0):=zh (by rw[←hV0];exact xi); have HOB:Hid (W2.heap.size≤ob):=zh (by omega); go_upto_region 4 with fail; try simp only[hob]
 try simp only[hV0]
 clear hob hV0 hmk e0 e1 e2 e3 el; go_wp2_with fail; go_loopw [4] (fun iv wr=>∃i:Nat,iv=.int .i64 i∧i≤n∧Hid (jE wr W2.heap.size ob n (zd9 n i))∧Hid (Ext W2 wr)) (fun iv _=>n - (intOf iv).toNat)
 case atStart=>exact⟨0,rfl,Nat.zero_le _,HB0,HV0⟩
 case round=>
  clear HB0 HV0
  obtain⟨i,rfl,hi,HB,HX⟩:=hrel
  obtain⟨e0,e1,e2,e3,el⟩:=HG2.out.ext HX.out
  rw[HNN.out]at e1
  by_cases hlt:i < n
  ·obtain⟨y,hy⟩:∃y,(zd9 n i)[i]?=some y:=⟨_,List.getElem?_eq_getElem (by rw[HB.out.1];exact hlt)⟩
   have q0:=HB.out.get hy; have ql:=HB.out.lt; have qf:=HB.out.frozen i
   obtain⟨W6,hW6⟩:∃W,wr.setCell ⟨ob,i,none⟩ (.int .i64 (-1))=W:=⟨_,rfl⟩
   have HB6:Hid (jE W6 W2.heap.size ob n (zd9 n (i+1))):=zh (by rw[←hW6,←zf4 hlt];exact HB.out.put i (-1)); have HX6:Hid (Ext W2 W6):=zh (by rw[←hW6];exact HX.out.setCell HOB.out _); clear hy; go_wp2_with fail; try simp only[hW6]
   go_roundw
   case rel=>exact⟨i+1,by go_num,by omega,HB6,HX6⟩
   case measure=>simp[intOf];omega
  ·obtain rfl:i=n:=by omega
   have HB1:Hid (jE wr W2.heap.size ob i (List.replicate i (-1))):=zh (by have:=HB.out;rwa[zg9]at this); have HXW:=zh HX.out; have HW1:=zh (zcu g.gm i)
   obtain⟨xs0,hxs0⟩:∃xs,List.replicate i (-1:Int)=xs:=⟨_,rfl⟩
   rw[hxs0]at HB1 HW1
   clear HB HX hxs0; go_wp2_with fail; clear e0 e1 e2 e3 el; go_loopg [5] (2*mN xs0+1) (fun gh mv wr=>Hid (ExB fun mb=>∃(xs:List Int),mv=.bool mb∧Hid (mN xs*2+(if mb then 1 else 0)≤gh)∧Hid (jE wr W2.heap.size ob i xs)∧Hid (JW g.gm i xs)∧Hid (mb=false→za9 g.gm xs m)∧Hid (Ext W2 wr)))
   case atStart=>exact zh ⟨true,_,rfl,zh (by simp;omega),HB1,HW1,zh (fun h=>by cases h),HXW⟩
   case round=>
    clear HB1 HXW HW1
    obtain⟨mb,xs,rfl,HMS,HB,HS,HCL,HX⟩:=hrel.out
    cases mb with
    |false=>
     have HF:Hid (∀A:Nat,A < i→xs[A]?=some (ZZ g.gm (A:Int))∧-1≤ZZ g.gm (A:Int)∧ZZ g.gm (A:Int)≤Jh):=zh (fun A hA=>by
      have h1:=zej HGO.out HNN.out HS.out (HCL.out rfl) (by rw[←HM.out];simp[Gr.gm]) A hA
      refine⟨h1,?_,Int.le_trans (HS.out.bd _ (List.mem_of_getElem? h1)) (zbq (by have:=Jf xs;rw[HS.out.len]at this;omega))⟩
      rcases HS.out.der A _ h1 with h|h
      ·omega
      ·omega)
     go_wp2_with fail; go_ret
     exact⟨ob,xs,rfl,zbP HB.out HX2.out.size,HF.out,HX2.out.trans HX.out⟩
    |true=>
     go_wp2_with fail; go_loopw [5,6] (fun mv jv wr=>Hid (ExB fun mb=>∃(j:Nat) (xs':List Int),mv=.bool mb∧jv=.int .i64 j∧j≤m∧Hid (mN xs'+(if mb then 1 else 0)≤mN xs)∧Hid (jE wr W2.heap.size ob i xs')∧Hid (JW g.gm i xs')∧Hid (mb=false→za9 g.gm xs' j)∧Hid (Ext W2 wr))) (fun _ jv _=>m - (intOf jv).toNat)
     case atStart=>exact zh ⟨false,0,xs,rfl,rfl,Nat.zero_le _,zh (by simp),HB,HS,zh (fun _ j p hj=>by omega),HX⟩
     case round=>
      clear HB HS HCL HX
      obtain⟨mb,j,xs',rfl,rfl,hj,HCF,HB,HS,HCL,HX⟩:=hrel.out
      obtain⟨e0,e1,e2,e3,el⟩:=HG2.out.ext HX.out
      rw[HM.out]at e3
      by_cases hlt:j < m
      ·obtain⟨p,hp⟩:∃p,g.prods[j]?=some p:=⟨_,List.getElem?_eq_getElem (by have:=HM.out;omega)⟩
       obtain⟨pg,po,hA,pl,d0,d1,_⟩:=(HO2.out.ext HX.out).prd hp
       have HPI:=zh (je H0.out hp); have HPG:=zh (vO hp); have HPO:=zh (by
        obtain⟨_,_,_,_,_,_,PO2⟩:=HO2.out.prd hp
        exact PO2)
       obtain⟨bp,W5,hbp,hW5,x5,pc⟩:=Zk p wr
       obtain⟨left,rA,rc,right⟩:=p
       obtain⟨a,rfl⟩:∃a:Nat,left=a:=⟨left.toNat,by have:=HPI.out.left.1;dsimp only at this;omega⟩
       rw[hA]at e3
       dsimp only at d0 d1 hW5 pc; have HPC:=zh pc; have HXA:=zh (HX.out.trans x5); have han:a < i:=by have:=HPI.out.left.2;dsimp only at this;have:=HNN.out;omega
       have HB5:=zh (HB.out.ext x5); clear pc hp hA; go_upto_region 15 with fail; try simp only[hbp]
       try simp only[hW5]
       clear hbp hW5 e0 e1 e2 e3 el d0 d1 pl x5; go_wp2_with fail; go_loopw [8,9] (fun nv kv wk=>∃(v:Int) (k:Nat),nv=.int .i64 v∧kv=.int .i64 k∧k≤right.length∧(v=-1∨1≤v)∧Hid (1≤v→Vj g.gm xs' (right.take k) (v - 1)∧v - 1≤k*Jh)∧Hid (v=-1→∀mm,¬Vj g.gm xs' right mm)∧Hid (Ext W5 wk)) (fun _ kv _=>right.length - (intOf kv).toNat)
       case atStart=>exact⟨1,0,rfl,rfl,Nat.zero_le _,.inr (by omega),zh (fun _=>⟨rfl,by simp⟩),zh (fun h=>by omega),zh (Ext.refl _)⟩
       case round=>
        obtain⟨v,k,rfl,rfl,hk,hv,HSM,HNO,HXK⟩:=hrel
        obtain⟨c0,c1,cl⟩:=HPC.out _ HXK.out
        have HXR:=zh (HXA.out.trans HXK.out); have HBK:=zh (HB5.out.ext HXK.out); by_cases hgo:k < right.length∧1≤v
        ·obtain⟨hlk,hv1⟩:=hgo
         have v0:decide (0 < v)=true:=decide_eq_true (by omega)
         obtain⟨s,hs⟩:∃s,right[k]?=some s:=⟨_,List.getElem?_eq_getElem hlk⟩
         obtain⟨sg,so,hrA,sl,y0⟩:=(HPO.out.ext (HXR.out)).sym hs
         dsimp only at hrA
         obtain⟨hs0,hs1⟩:=HPI.out.sym s (List.mem_of_getElem? hs)
         obtain⟨e0,e1,e2,e3,el⟩:=HG2.out.ext HXR.out
         have HSS:=zh hs; have hr8:right.length≤8:=HPI.out.len; have hcap:=HPO.out.cap; have htop:=HPO.out.top; dsimp only at hcap htop
         rw[hrA]at c1
         obtain⟨W6,hW6⟩:∃W,wr.drew=W:=⟨_,rfl⟩
         have x6:Ext wr W6:=by rw[←hW6];exact xi
         have HX6:=zh (HXK.out.trans x6); have HB6:=zh (HBK.out.ext x6); have HSPL:Hid (∀mm,Vj g.gm xs' right mm→∃u,g.terms≤s∧xs'[(s - g.terms).toNat]?=some u∧0≤u):=zh (fun mm hm=>by
          have key:∀{r:List Int} {mm:Int} {q:Nat} {t:Int},Vj g.gm xs' r mm→r[q]?=some t→∃u,g.terms≤t∧xs'[(t - g.terms).toNat]?=some u∧0≤u:=by
           intro r; induction r with
           |nil=>intro mm q t _ h;simp at h
           |cons z r ih=>
            rintro mm q t ⟨x,b,h1,h2,h3,h4,_⟩ hq; cases q with
            |zero=>simp at hq;subst hq;exact⟨x,h1,h2,h3⟩
            |succ q=>exact ih h4 (by simpa using hq)
          exact key hm HSS.out)
         by_cases hst:s < g.terms
         ·have e5:IntKind.i64.wrap (s - g.terms)=s - g.terms:=IntWalk.i64_in _ (by omega); have q1:decide (s - g.terms < 0)=true:=decide_eq_true (by omega); have HNX:Hid (∀mm,¬Vj g.gm xs' right mm):=zh (fun mm hm=>by
           obtain⟨u,h1,_⟩:=HSPL.out mm hm
           omega)
          clear hs hrA hst hs0 hs1 x6 hv; go_upto_region 19 with fail; refine zg (9) (zd [0,2,5] (zj [1,3,4,6,7,8] .fin)) (by kernel_rfl) (by kernel_rfl) ?_; (repeat first|refine yq ?_|refine yr ?_)
          refine zv ?_; try simp only[hW6]
          clear hW6; go_wp2_with fail; go_roundw
          case rel=>exact⟨-1,k+1,rfl,by go_num,by omega,.inl rfl,zh (fun h=>by omega),zh (fun _=>HNX.out),HX6⟩
          case measure=>simp[intOf];omega
         ·obtain⟨c,hc⟩:∃c:Nat,s - g.terms=c:=⟨(s - g.terms).toNat,by omega⟩
          have hcn:c < i:=by have:=HNN.out;omega
          have e5:IntKind.i64.wrap (s - g.terms)=(c:Int):=by rw[IntWalk.i64_in _ (by omega)];omega
          obtain⟨u,hu⟩:∃u,xs'[c]?=some u:=⟨_,List.getElem?_eq_getElem (by rw[HB.out.1];exact hcn)⟩
          have q0:=HB6.out.get hu; have ql:=HB6.out.lt; have HU1:Hid (xs'[(s - g.terms).toNat]?=some u∧g.terms≤s):=zh ⟨by rw[hc];exact hu,by omega⟩; rcases HS.out.der c u hu with hu1|⟨hu1,_⟩
          ·subst hu1; have HNX:Hid (∀mm,¬Vj g.gm xs' right mm):=zh (fun mm hm=>by
            obtain⟨u',_,h2,h3⟩:=HSPL.out mm hm
            rw[HU1.out.1]at h2
            injection h2 with h2; omega)
           clear hs hrA hst hs0 hs1 x6 hc hu hv; go_upto_region 19 with fail; refine zg (9) (zd [0,2,5] (zj [1,3,4,6,7,8] .fin)) (by kernel_rfl) (by kernel_rfl) ?_; (repeat first|refine yq ?_|refine yr ?_)
           refine zv ?_; try simp only[hW6]
           clear hW6; go_wp2_with fail; go_roundw
           case rel=>exact⟨-1,k+1,rfl,by go_num,by omega,.inl rfl,zh (fun h=>by omega),zh (fun _=>HNX.out),HX6⟩
           case measure=>simp[intOf];omega
          ·have hub:u≤Jh:=Int.le_trans (HS.out.bd u (List.mem_of_getElem? hu)) (zbq (by have:=Jf xs';rw[HS.out.len]at this;omega)); have hvb:=(HSM.out hv1).2; have hkb:(k:Int)*Jh≤8*Jh:=Int.mul_le_mul_of_nonneg_right (by omega) (by decide); have hbt:Jh=40210710958665:=rfl; have q1:decide (u < 0)=false:=decide_eq_false (by omega); have e6:wrap64 (v+u)=v+u:=IntWalk.wrap64_in _ (by omega); have HE6:=zh e6; have HS2:Hid (Vj g.gm xs' (right.take (k+1)) (v+u - 1)∧v+u - 1≤((k+1:Nat):Int)*Jh):=zh ⟨by
            rw[vR HSS.out,show v+u - 1=(v - 1)+u by omega]
            exact(HSM.out hv1).1.snoc HU1.out.2 HU1.out.1 (by omega),by
            rw[Int.natCast_add,Int.add_mul]
            simp
            omega⟩
           have hvu:1≤v+u:=by omega
           clear hs hrA hst hs0 hs1 x6 hc hu hv hub hvb hkb hbt; go_upto_region 19 with fail; refine zg (9) (zd [0,2,5] (zj [1,3,4,6,7,8] .fin)) (by kernel_rfl) (by kernel_rfl) ?_; (repeat first|refine yq ?_|refine yr ?_)
           refine zv ?_; try simp only[hW6]
           clear hW6; go_wp2_with fail; go_roundw
           case rel=>exact⟨v+u,k+1,(by first|rfl|rw[HE6.out]),by go_num,by omega,.inr hvu,zh (fun _=>HS2.out),zh (fun h=>by omega),HX6⟩
           case measure=>simp[intOf];omega
        ·obtain⟨y,hy⟩:∃y,xs'[a]?=some y:=⟨_,List.getElem?_eq_getElem (by rw[HB.out.1];exact han)⟩
         have q0:=HBK.out.get hy; have ql:=HBK.out.lt; have qf:=HBK.out.frozen a; have HY:=zh hy; have HYB:Hid (y=-1∨1≤y):=zh (by rcases HS.out.der a y hy with h|h;exact .inl h;exact .inr h.1); by_cases hup:1≤v∧(y < 0∨v < y)
         ·have hkl:k=right.length:=by omega
          subst hkl; have HNP:=zh (HS.out.put (by omega) (List.mem_of_getElem? HPG.out) HPI.out.len hy (by have:=(HSM.out hup.1).1;rwa[List.take_length]at this) hup.2)
          obtain⟨W6,hW6⟩:∃W,wr.setCell ⟨ob,a,none⟩ (.int .i64 v)=W:=⟨_,rfl⟩
          have HB6:Hid (jE W6 W2.heap.size ob i (xs'.set a v)):=zh (by rw[←hW6];exact HBK.out.put a v); have HX6:Hid (Ext W2 W6):=zh (by rw[←hW6];exact HXR.out.setCell HOB.out _); have HCF6:Hid (mN (xs'.set a v)+1≤mN xs):=zh (by have:=HNP.out.2.1;have:=HCF.out;omega); have v0:decide (0 < v)=true:=decide_eq_true (by omega); by_cases hy0:y < 0
          ·have q1:decide (y < 0)=true:=decide_eq_true hy0; clear hy hup hv hgo hy0; go_wp2_with fail; try simp only[hW6]
           go_roundw
           case rel=>exact zh ⟨true,j+1,_,rfl,by go_num,by omega,HCF6,HB6,zh HNP.out.1,zh (fun h=>by cases h),HX6⟩
           case measure=>simp[intOf];omega
          ·have q1:decide (y < 0)=false:=decide_eq_false hy0; have q2:decide (v < y)=true:=decide_eq_true (by omega); clear hy hup hv hgo hy0; go_wp2_with fail; try simp only[hW6]
           go_roundw
           case rel=>exact zh ⟨true,j+1,_,rfl,by go_num,by omega,HCF6,HB6,zh HNP.out.1,zh (fun h=>by cases h),HX6⟩
           case measure=>simp[intOf];omega
         ·have HCN:Hid (mb=false→za9 g.gm xs' (j+1)):=zh (fun hm=>(HCL.out hm).next HPG.out (fun mm hmm=>by
           rcases hv with hv|hv
           ·exact absurd hmm (HNO.out hv mm)
           ·have hkl:k=right.length:=by omega
            have h1:=(HSM.out hv).1
            rw[hkl,List.take_length]at h1
            have h2:=h1.one hmm
            refine⟨y,?_,by omega,by omega⟩
            show xs'[((a:Nat):Int).toNat]?=some y
            rw[Int.toNat_natCast]
            exact HY.out))
          rcases hv with hv|hv
          ·subst hv; have v0:decide ((0:Int) < -1)=false:=rfl; have v1:decide ((-1:Int) > 0)=false:=rfl
           obtain⟨dk,hdk⟩:∃b,decide ((k:Int) < (right.length:Int))=b:=⟨_,rfl⟩
           obtain⟨dk2,hdk2⟩:∃b,decide (k < right.length)=b:=⟨_,rfl⟩
           obtain rfl:dk=dk2:=by rw[←hdk,←hdk2,decide_eq_decide];omega
           clear hy hup hgo; cases dk
           all_goals
            go_wp2_with fail; go_roundw
            case rel=>exact zh ⟨mb,j+1,xs',rfl,by go_num,by omega,HCF,HBK,HS,HCN,HXR⟩
            case measure=>simp[intOf];omega
          ·have hkl:k=right.length:=by omega
           subst hkl; have v0:decide (0 < v)=true:=decide_eq_true (by omega); have q1:decide (y < 0)=false:=decide_eq_false (by omega); have q2:decide (v < y)=false:=decide_eq_false (by omega); clear hy hup hv hgo; go_wp2_with fail; go_roundw
           case rel=>exact zh ⟨mb,j+1,xs',rfl,by go_num,by omega,HCF,HBK,HS,HCN,HXR⟩
           case measure=>simp[intOf];omega
      ·obtain rfl:j=m:=by omega
       go_wp2_with fail; go_roundg (mN xs'*2+(if mb then 1 else 0))
       case measure=>
        have h1:=HMS.out; have h2:=HCF.out; cases mb<;>simp at h1 h2 ⊢<;>omega
       case rel=>exact zh ⟨mb,xs',rfl,zh (Nat.le_refl _),HB,HS,HCL,HX⟩
def JK (g:Gm)(x:List Int):Prop:=∀s∈x,g.terms≤s∧Zs g false (s - g.terms)
structure DpK (g:Gm)(xs right:List Int)(k:Nat)(m:Int):Prop where
 le:∀(x:List Int) (B:Nat) (y:List Int),right=x++(g.terms+(B:Int)) ::y→JK g x→x.length < k→∃u,xs[B]?=some u∧u≤m
 is:m=0∨∃(x:List Int) (B:Nat) (y:List Int),right=x++(g.terms+(B:Int)) ::y∧JK g x∧xs[B]?=some m
 pos:0≤m
theorem DpK.zero (g:Gm)(xs right:List Int):DpK g xs right 0 0:=⟨fun x B y _ _ h=>by omega,.inl rfl,Int.le_refl _⟩
theorem DpK.step {g:Gm}{xs right:List Int}{k c:Nat}{m u s:Int}(h:DpK g xs right k m)(hs:right[k]?=some s)(hc:s - g.terms=(c:Int))(hu:xs[c]?=some u)(hn:JK g (right.take k)):DpK g xs right (k+1) (if m < u then u else m):=by
 have hmm:m≤(if m < u then u else m)∧u≤(if m < u then u else m):=by split<;>omega
 refine⟨fun x B y h1 h2 h3=>?_,?_,by have:=h.pos;omega⟩
 ·by_cases hk:x.length < k
  ·obtain⟨v,h4,h5⟩:=h.le x B y h1 h2 hk
   exact⟨v,h4,by omega⟩
  ·have:right[k]?=some (g.terms+(B:Int)):=by rw[h1,List.getElem?_append_right (by omega),show k - x.length=0 by omega];simp
   rw[hs]at this
   injection this with this; obtain rfl:B=c:=by omega
   exact⟨u,hu,hmm.2⟩
 ·split
  ·right
   refine⟨right.take k,c,right.drop (k+1),?_,hn,hu⟩
   obtain⟨h1,h2⟩:=List.getElem?_eq_some_iff.1 hs
   conv=>lhs;rw[←List.take_append_drop k right,List.drop_eq_getElem_cons h1,h2]
   congr 2
   omega
  ·exact h.is
theorem DpK.stop {g:Gm}{xs right:List Int}{k:Nat}{m:Int}(h:DpK g xs right k m)(hk:∀s,right[k]?=some s→s < g.terms):DpK g xs right (right.length+1) m:=by
 refine⟨fun x B y h1 h2 _=>?_,h.is,h.pos⟩
 by_cases hx:x.length < k
 ·exact h.le x B y h1 h2 hx
 ·exfalso; by_cases hx2:x.length=k
  ·have:=hk (g.terms+(B:Int)) (by rw[h1,List.getElem?_append_right (by omega),hx2];simp)
   omega
  ·obtain⟨s,hs⟩:∃s,x[k]?=some s:=⟨_,List.getElem?_eq_getElem (by omega)⟩
   have h3:=hk s (by rw[h1,List.getElem?_append_left (by omega)];exact hs); have h4:=(h2 s (List.mem_of_getElem? hs)).1; omega
theorem DpK.break_ {g:Gm}{xs right:List Int}{k:Nat}{m s:Int}(h:DpK g xs right (k+1) m)(hk:right[k]?=some s)(hs:¬Zs g false (s - g.terms)):DpK g xs right (right.length+1) m:=by
 refine⟨fun x B y h1 h2 _=>?_,h.is,h.pos⟩
 by_cases hx:x.length < k+1
 ·exact h.le x B y h1 h2 hx
 ·exfalso
  have:x[k]?=some s:=by rw[h1,List.getElem?_append_left (by omega)]at hk;exact hk
  exact hs (h2 s (List.mem_of_getElem? this)).2
inductive Dp (g:Gm):Int→Nat→Prop
 |one {p:Pd} (hp:p∈g.prods):Dp g p.left 1
 |step {A B:Int} {m:Nat} (h:Qt g A B) (h':Dp g B m):Dp g A (m+1)
theorem Dp.pos {g:Gm}{A:Int}{m:Nat}(h:Dp g A m):1≤m:=by induction h<;>omega
theorem Dp.bd {g:Gm}(hg:VE g)(hf:qx g){A:Int}{m:Nat}(h:Dp g A m):1≤m∧m≤vF g A+1:=by
 induction h with
 |one hp=>omega
 |step h _ ih=>
  have:=zeA hg hf h
  omega
theorem Dp.in_ {g:Gm}(hg:VE g){A:Int}{m:Nat}(h:Dp g A m):0≤A∧A < g.nons:=by
 cases h with
 |one hp=>exact hg.left _ hp
 |step h _=>have:=h.inside hg;omega
theorem Dp.top {g:Gm}(hg:VE g)(hf:qx g){A:Int}{m:Nat}(h:Dp g A m):m≤16:=by
 have h1:=h.in_ hg; have h2:=(h.bd hg hf).2; have h3:=zbo hf h1.1 h1.2
 have:=hg.nons
 omega
open Classical in
noncomputable def ZM (g:Gm)(A:Int):Int:=if h:∃m,Dp g A m∧∀m',Dp g A m'→m'≤m then((Classical.choose h:Nat):Int)else 0
theorem zgZ {g:Gm}{A:Int}{m:Nat}(h:Dp g A m)(hl:∀m',Dp g A m'→m'≤m):ZM g A=m:=by
 unfold ZM; have he:∃m,Dp g A m∧∀m',Dp g A m'→m'≤m:=⟨m,h,hl⟩
 rw[dif_pos he]
 obtain⟨h1,h2⟩:=Classical.choose_spec he
 have:=hl _ h1
 have:=h2 m h
 omega
theorem zgl {g:Gm}{A:Int}(h:∀m,¬Dp g A m):ZM g A=0:=by
 unfold ZM
 rw[dif_neg (fun⟨m,hm,_⟩=>h m hm)]
structure VT (g:Gm)(n:Nat)(xs:List Int):Prop where
 len:xs.length=n
 chain:∀(A:Nat) (x:Int),xs[A]?=some x→x=0∨1≤x∧Dp g (A:Int) x.toNat
theorem VT.bd {g:Gm}(hg:VE g)(hf:qx g){n:Nat}{xs:List Int}(h:VT g n xs){A:Nat}{x:Int}(hx:xs[A]?=some x):0≤x∧x≤16:=by
 rcases h.chain A x hx with h|⟨h1,h2⟩
 ·omega
 ·have:=h2.top hg hf
  omega
def zaG (g:Gm)(xs:List Int)(i:Nat):Prop:=∀(j:Nat) (p:Pd),j < i→g.prods[j]?=some p→∃m x,DpK g xs p.right (p.right.length+1) m∧xs[p.left.toNat]?=some x∧m+1≤x
theorem zaG.next {g:Gm}{xs:List Int}{i:Nat}{p:Pd}(h:zaG g xs i)(hp:g.prods[i]?=some p)(hh:∃m x,DpK g xs p.right (p.right.length+1) m∧xs[p.left.toNat]?=some x∧m+1≤x):zaG g xs (i+1):=by
 intro j q hj hq; by_cases hji:j=i
 ·subst hji
  rw[hp]at hq
  injection hq with hq; subst hq; exact hh
 ·exact h j q (by omega) hq
theorem zdl {g:Gm}(hg:VE g){n m:Nat}{xs:List Int}(h:VT g n xs)(hc:zaG g xs m)(hm:m=g.prods.length):∀(A:Nat),A < n→xs[A]?=some (ZM g (A:Int)):=by
 have key:∀(A:Int) (k:Nat),Dp g A k→∃x,xs[A.toNat]?=some x∧(k:Int)≤x:=by
  intro A k hk; induction hk with
  |one hp=>
   obtain⟨j,hj⟩:=List.mem_iff_getElem?.1 hp
   obtain⟨v,x,h1,h2,h3⟩:=hc j _ (by rw[hm];exact(List.getElem?_eq_some_iff.1 hj).1) hj
   exact⟨x,h2,by have:=h1.pos;omega⟩
  |@step A B k hb _ ih=>
   obtain⟨u,hu,hku⟩:=ih
   obtain⟨h0,p,hp,rfl,x,y,hr,hx⟩:=hb
   obtain⟨j,hj⟩:=List.mem_iff_getElem?.1 hp
   obtain⟨v,z,h1,h2,h3⟩:=hc j _ (by rw[hm];exact(List.getElem?_eq_some_iff.1 hj).1) hj
   obtain⟨u',h4,h5⟩:=h1.le x B.toNat y (by rw[hr];congr 2;omega) hx (by rw[hr];simp;omega)
   rw[hu]at h4
   injection h4 with h4
   exact⟨z,h2,by omega⟩
 intro A hA
 obtain⟨x,hx⟩:∃x,xs[A]?=some x:=⟨_,List.getElem?_eq_getElem (by rw[h.len];exact hA)⟩
 rw[hx]
 congr 1
 rcases h.chain A x hx with rfl|⟨h1,h2⟩
 ·rw[zgl (fun k hk=>by
   obtain⟨y,y1,y2⟩:=key _ k hk
   rw[Int.toNat_natCast,hx]at y1
   injection y1 with y1
   have:=hk.pos
   omega)]
 ·rw[zgZ h2 (fun k hk=>by
   obtain⟨y,y1,y2⟩:=key _ k hk
   rw[Int.toNat_natCast,hx]at y1
   injection y1 with y1; omega)]
  omega
def mD (xs:List Int):Nat:=(xs.map fun x=>17 - x.toNat).sum
theorem zhg:∀{xs:List Int} {a:Nat} {x y:Int},xs[a]?=some x→mD (xs.set a y)+(17 - x.toNat)=mD xs+(17 - y.toNat)
 |[],_,_,_,h=>by simp at h
 |z ::xs,0,x,y,h=>by
  simp at h
  subst h; simp[mD]
  omega
 |z ::xs,a+1,x,y,h=>by
  have ih:=zhg (xs:=xs) (a:=a) (x:=x) (y:=y) (by simpa using h); simp only[mD,List.set_cons_succ,List.map_cons,List.sum_cons]at*
  omega
theorem VT.put {g:Gm}(hg:VE g)(hf:qx g){n a:Nat}{xs:List Int}{x v:Int}{right:List Int}(h:VT g n xs)(hp:(⟨(a:Int),right⟩:Pd)∈g.prods)(hx:xs[a]?=some x)(hv:DpK g xs right (right.length+1) v)(hlt:x < 1+v):VT g n (xs.set a (1+v))∧mD (xs.set a (1+v))+1≤mD xs:=by
 have hd:Dp g (a:Int) (1+v).toNat:=by
  have hpos:=hv.pos; rcases hv.is with rfl|⟨y,B,z,hr,hy,hu⟩
  ·exact .one hp
  ·rcases h.chain B v hu with rfl|⟨h1,h2⟩
   ·exact .one hp
   ·have:=Dp.step (A:=(a:Int)) ⟨by omega,_,hp,rfl,y,z,hr,hy⟩ h2
    rw[show(1+v).toNat=v.toNat+1 by omega]
    exact this
 have hal:=(List.getElem?_eq_some_iff.1 hx).1; have hm:=zhg (y:=1+v) hx; have ht:=hd.top hg hf; have hb:=h.bd hg hf hx; have hpos:=hv.pos
 refine⟨⟨by rw[List.length_set];exact h.len,fun A y hy=>?_⟩,by omega⟩
 by_cases hA:A=a
 ·subst hA
  rw[List.getElem?_set_self hal]at hy
  injection hy with hy; subst hy; exact .inr ⟨by omega,hd⟩
 ·rw[List.getElem?_set_ne (fun he=>hA he.symm)]at hy
  exact h.chain A y hy
def zj2 (w:World)(P:Int→Prop)(e:Ending)(w':World):Prop:=∃v:Int,e=.returned (.int .i64 v)∧P v∧Ext w w'
set_option maxRecDepth 100000 in
set_option maxHeartbeats 2000000 in
theorem zcy (g:Gr)(n nb ob b0:Nat)(ns:List Bool)(xs:List Int)(R:Option Addr)(rc:Nat)(right:List Int)(w:World)(h:jC w g)(h0:yY g=0)(hn:g.nons=n)(hnb:yQ w b0 nb n ns)(hni:zff g.gm false ns)(hob:jE w b0 ob n xs)(hxb:∀(A:Nat) x,xs[A]?=some x→0≤x∧x≤16)(hr:xW w R right)(hl:right.length≤8)(hcp:right.length≤rc)(htp:rc≤9223372036854775807)(hrs:∀s∈right,0≤s∧s < g.terms+g.nons):
 Calls Tryz.prog 92 #[grV g,.slice (some ⟨nb,0,none⟩) n n,.slice (some ⟨ob,0,none⟩) n n,.slice R right.length rc] w (zj2 w (DpK g.gm xs right (right.length+1))):=by
 have HNB:=zh hnb; have HNI:=zh hni; have HOB:=zh hob; have HXB:=zh hxb; have HR:=zh hr; have HRS:=zh hrs
 obtain⟨rn,hrn⟩:∃n,right.length=n:=⟨_,rfl⟩
 have HRN:=zh hrn
 rw[hrn]at hl hcp
 simp only[hrn]
 have HPR:Hid (∀v,DpK g.gm xs right (right.length+1) v→DpK g.gm xs right (rn+1) v):=zh (fun v hv=>by rw[←hrn];exact hv); clear hnb hni hob hxb hr hrs hrn
 obtain⟨hT,hN,hK,hP1,hP2⟩:=yk h0
 obtain⟨b1,W2,hb1,hW1,X1,GA,GO⟩:=xM g w h
 have HG2:=zh GA; have HO2:=zh GO; have HX2:=zh X1; have H0:=zh h0; have HNN:=zh hn; have hn16:1≤n∧n≤16:=by omega
 unfold grV
 obtain⟨m,hm⟩:∃m,g.prods.length=m:=⟨_,rfl⟩
 have HM:=zh hm
 rw[hm]at hP1 hP2 ⊢
 rw[hm]at hW1
 clear h X1 GA GO h0 hn hm; go_in
 go_upto_region 1 with fail; try simp only[hb1]
 try simp only[hW1]
 clear hb1 hW1; go_wp2_with fail; go_loopw [9,10] (fun mv kv wr=>∃(v:Int) (k:Nat),mv=.int .i64 v∧kv=.int .i64 k∧k≤rn∧Hid (DpK g.gm xs right k v)∧Hid (JK g.gm (right.take k))∧Hid (Ext W2 wr)) (fun _ kv _=>rn - (intOf kv).toNat)
 case atStart=>exact⟨0,0,rfl,rfl,Nat.zero_le _,zh (DpK.zero _ _ _),zh (fun s h=>by simp at h),zh (Ext.refl _)⟩
 case round=>
  obtain⟨v,k,rfl,rfl,hk,HD,HAN,HX⟩:=hrel
  obtain⟨e0,e1,e2,e3,el⟩:=HG2.out.ext HX.out
  obtain⟨W6,hW6⟩:∃W,wr.drew=W:=⟨_,rfl⟩
  have x6:Ext wr W6:=by rw[←hW6];exact xi
  have HX6:=zh (HX.out.trans x6); by_cases hlk:k < rn
  ·obtain⟨s,hs⟩:∃s,right[k]?=some s:=⟨_,List.getElem?_eq_getElem (by have:=HRN.out;omega)⟩
   obtain⟨hs0,hs1⟩:=HRS.out s (List.mem_of_getElem? hs)
   obtain⟨rg,ro,hRA,rl,y0⟩:∃b off,R=some ⟨b,off,none⟩∧b < wr.heap.size∧wr.cell? ⟨b,off+k,none⟩=some (.int .i64 s):=by
    obtain⟨b,off,h1,h2,h3⟩:=(HR.out.ext (HX2.out.trans HX.out)) (by have:=HRN.out;omega)
    have h4:=h3 k (by have:=HRN.out;omega)
    rw[List.getD_eq_getElem?_getD,hs]at h4
    exact⟨b,off,h1,h2,h4⟩
   subst hRA; have HSS:=zh hs; by_cases hst:s < g.terms
   ·have q1:decide (g.terms≤s)=false:=decide_eq_false (by omega); have HF:=zh (HPR.out v (HD.out.stop (fun u hu=>by
     rw[HSS.out]at hu
     injection hu with hu; subst hu; exact hst)))
    clear hs hs0 hs1 hst x6; go_upto_region 3 with fail; refine zg (13) (zd [0,1,2,3,4,5,6,7,9] (zj [8,10,11,12] .fin)) (by kernel_rfl) (by kernel_rfl) ?_; (repeat first|refine yq ?_|refine yr ?_)
    refine zv ?_; try simp only[hW6]
    clear hW6; go_wp2_with fail; go_ret
    exact⟨v,rfl,HF.out,HX2.out.trans HX6.out⟩
   ·have q1:decide (g.terms≤s)=true:=decide_eq_true (by omega)
    obtain⟨c,hc⟩:∃c:Nat,s - g.terms=c:=⟨(s - g.terms).toNat,by omega⟩
    have hcn:c < n:=by have:=HNN.out;omega
    have e5:IntKind.i64.wrap (s - g.terms)=(c:Int):=by rw[IntWalk.i64_in _ (by omega)];omega
    have HCC:Hid (s - g.terms=c):=zh hc
    obtain⟨W7,hW7⟩:∃W,W6.drew=W:=⟨_,rfl⟩
    have x7:Ext W6 W7:=by rw[←hW7];exact xi
    obtain⟨u,hu⟩:∃u,xs[c]?=some u:=⟨_,List.getElem?_eq_getElem (by rw[HOB.out.1];exact hcn)⟩
    obtain⟨b,hb⟩:∃b,ns[c]?=some b:=⟨_,List.getElem?_eq_getElem (by rw[HNB.out.1];exact hcn)⟩
    have HX7:=zh (HX6.out.trans x7); have q0:=(HOB.out.ext (HX2.out.trans HX7.out)).get hu; have ql:=(HOB.out.ext (HX2.out.trans HX7.out)).lt; have r0:=(HNB.out.ext (HX2.out.trans HX7.out)).get hb; have rl0:=(HNB.out.ext (HX2.out.trans HX7.out)).lt; have z0:=zy y0 rl x6; have zl:=Nat.lt_of_lt_of_le rl x6.size; have k0:=zy e0 el x6; have kl:=Nat.lt_of_lt_of_le el x6.size; have HBN:Hid (b=true↔Zs g.gm false (c:Int)):=zh (by have:=HNI.out c;rw[List.getD_eq_getElem?_getD,hb]at this;exact this)
    obtain⟨mx,hmx⟩:∃mx,(if v < u then u else v)=mx:=⟨_,rfl⟩
    have HDN:Hid (DpK g.gm xs right (k+1) mx):=zh (by rw[←hmx];exact HD.out.step HSS.out hc hu HAN.out); clear hs hs0 hs1 hst x6 x7 hc hu hb; go_upto_region 3 with fail; refine zg (13) (zd [0,1,2,3,4,5,6,7,9] (zj [8,10,11,12] .fin)) (by kernel_rfl) (by kernel_rfl) ?_; (repeat first|refine yq ?_|refine yr ?_)
    refine zv ?_; try simp only[hW6]
    clear hW6 e0 e1 e2 e3 el y0 rl; go_upto_region 5 with fail; refine zg (8) (zd [0,1,2,4] (zj [3,5,6,7] .fin)) (by kernel_rfl) (by kernel_rfl) ?_; (repeat first|refine yq ?_|refine yr ?_)
    refine zv ?_; try simp only[hW7]
    clear hW7 z0 zl k0 kl e5; cases b with
    |false=>
     have HF:=zh (HPR.out mx (HDN.out.break_ HSS.out (fun hh=>by
      have h1:s - g.gm.terms=(c:Int):=HCC.out
      rw[h1]at hh
      have:=HBN.out.2 hh
      cases this)))
     go_wp2_with fail; go_ret
     exact⟨mx,rfl,HF.out,HX2.out.trans HX7.out⟩
    |true=>
     have HAN2:Hid (JK g.gm (right.take (k+1))):=zh (fun z hz=>by
      rw[vR HSS.out]at hz
      rcases List.mem_append.1 hz with hz|hz
      ·exact HAN.out z hz
      ·rw[List.mem_singleton]at hz
       subst hz; have h1:z - g.gm.terms=(c:Int):=HCC.out
       rw[h1]
       exact⟨by omega,HBN.out.1 rfl⟩)
     go_wp2_with fail; go_roundw
     case rel=>exact⟨mx,k+1,rfl,by go_num,by omega,HDN,HAN2,HX7⟩
     case measure=>simp[intOf];omega
  ·obtain rfl:k=rn:=by omega
   have HF:=zh (HPR.out v (HD.out.stop (fun u hu=>by
    rw[List.getElem?_eq_none (by have:=HRN.out;omega)]at hu
    cases hu)))
   clear x6; go_upto_region 3 with fail; refine zg (13) (zd [0,1,2,3,4,5,6,7,9] (zj [8,10,11,12] .fin)) (by kernel_rfl) (by kernel_rfl) ?_; (repeat first|refine yq ?_|refine yr ?_)
   refine zv ?_; try simp only[hW6]
   clear hW6; go_wp2_with fail; go_ret
   exact⟨v,rfl,HF.out,HX2.out.trans HX6.out⟩
set_option maxRecDepth 100000 in
set_option maxHeartbeats 4000000 in
theorem zg3 (g:Gr)(n:Nat)(w:World)(h:jC w g)(hac:jH g)(hn:g.nons=n):Calls Tryz.prog 54 #[grV g] w (zhd w n (ZM g.gm)):=by
 have h0:=hac.1; have HAC:=zh hac; have hmk:=fun w=>VW w n g.nons hn (by have:=yk h0;omega); have HGO:=zh (YJ h0); have HNU:=zh (fun w1 h1=>Yu g n w1 h1 h0 hn); have HDE:=zh (fun nb ob b0 ns xs R rc right w1 h1 hnb hni hob hxb hr hl hcp htp hrs=>zcy g n nb ob b0 ns xs R rc right w1 h1 h0 hn hnb hni hob hxb hr hl hcp htp hrs)
 obtain⟨hT,hN,hK,hP1,hP2⟩:=yk h0
 obtain⟨b1,W1,hb1,hW1,X1,GA,GO⟩:=xM g w h
 have HC:=zh (Ym g W1 GO); have HG:=zh GA; have HO:=zh GO; have HX1:=zh X1; have H0:=zh h0; have HNN:=zh hn; have hn16:1≤n∧n≤16:=by omega
 unfold grV at HC HNU HDE ⊢
 obtain⟨m,hm⟩:∃m,g.prods.length=m:=⟨_,rfl⟩
 have HM:=zh hm
 obtain⟨e0,e1,e2,e3,el⟩:=GA
 rw[hm]at e3 hP1 hP2 HC HNU HDE ⊢
 rw[hm]at hW1
 clear h X1 GO h0 hn hm hac; go_in
 go_upto_region 1 with fail; try simp only[hb1]
 try simp only[hW1]
 clear hb1 hW1; go_wp2_with fail; refine HC.out.mono ?_; rintro e W2 ⟨er,rfl,her,x2⟩; obtain rfl:er=0:=her.2 HAC.out; have HX2:=zh (HX1.out.trans x2); have HG2:=zh (HG.out.ext x2); have HO2:=zh (HO.out.ext x2); clear x2 HC e0 e1 e2 e3 el HG HO her
 obtain⟨e0,e1,e2,e3,el⟩:=HG2.out
 rw[HM.out]at e3
 go_wp2_with fail
 refine(HNU.out _ HO2.out).mono ?_
 rintro e W3 ⟨nb,ns,rfl,hb,hni,hx3⟩; have HX3:=zh (HX2.out.trans hx3); have HNB:=zh hb; have HNI:=zh hni; have HG3:=zh (HG2.out.ext hx3); have HO3:=zh (HO2.out.ext hx3); have HSZ:Hid (W2.heap.size≤W3.heap.size):=zh hx3.size; clear hb hni hx3 HNU e0 e1 e2 e3 el HG2 HO2
 obtain⟨e0,e1,e2,e3,el⟩:=HG3.out
 rw[HM.out]at e3
 obtain⟨ob,hob⟩:∃b,W3.heap.size=b:=⟨_,rfl⟩
 obtain⟨V0,hV0⟩:∃V,W3.alloc (.cells (madeCells #[.int .i64 0] n) 3)=V:=⟨_,rfl⟩
 have HB0:Hid (jE V0 W2.heap.size ob n (List.replicate n 0)):=zh (by rw[←hV0];exact jE.made (by rw[←hob];exact heap_alloc_new _ _) (by have:=HSZ.out;omega) (by omega)); have HV0:Hid (Ext W3 V0):=zh (by rw[←hV0];exact xi); have HOB:Hid (W3.heap.size≤ob):=zh (by omega); have HW0:Hid (VT g.gm n (List.replicate n 0)):=zh ⟨by simp,fun A x hx=>by
  rw[List.getElem?_replicate]at hx
  split at hx
  ·injection hx with hx; exact .inl hx.symm
  ·cases hx⟩
 obtain⟨xs0,hxs0⟩:∃xs,List.replicate n (0:Int)=xs:=⟨_,rfl⟩
 rw[hxs0]at HB0 HW0
 go_upto_region 5 with fail; try simp only[hob]
 try simp only[hV0]
 clear hob hV0 hmk e0 e1 e2 e3 el hxs0; go_wp2_with fail; go_loopg [5] (2*mD xs0+1) (fun gh mv wr=>Hid (ExB fun mb=>∃(xs:List Int),mv=.bool mb∧Hid (mD xs*2+(if mb then 1 else 0)≤gh)∧Hid (jE wr W2.heap.size ob n xs)∧Hid (VT g.gm n xs)∧Hid (mb=false→zaG g.gm xs m)∧Hid (Ext W3 wr)))
 case atStart=>exact zh ⟨true,_,rfl,zh (by simp;omega),HB0,HW0,zh (fun h=>by cases h),HV0⟩
 case round=>
  clear HB0 HV0 HW0
  obtain⟨mb,xs,rfl,HMS,HB,HS,HCL,HX⟩:=hrel.out
  cases mb with
  |false=>
   have HF:Hid (∀A:Nat,A < n→xs[A]?=some (ZM g.gm (A:Int))∧-1≤ZM g.gm (A:Int)∧ZM g.gm (A:Int)≤Jh):=zh (fun A hA=>by
    have h1:=zdl HGO.out HS.out (HCL.out rfl) (by rw[←HM.out];simp[Gr.gm]) A hA; have h2:=HS.out.bd HGO.out HAC.out.2.2.1 h1; have hbt:Jh=40210710958665:=rfl
    exact⟨h1,by omega,by omega⟩)
   go_wp2_with fail; go_ret
   exact⟨ob,xs,rfl,zbP HB.out HX2.out.size,HF.out,HX3.out.trans HX.out⟩
  |true=>
   go_wp2_with fail; go_loopw [5,6] (fun mv jv wr=>Hid (ExB fun mb=>∃(j:Nat) (xs':List Int),mv=.bool mb∧jv=.int .i64 j∧j≤m∧Hid (mD xs'+(if mb then 1 else 0)≤mD xs)∧Hid (jE wr W2.heap.size ob n xs')∧Hid (VT g.gm n xs')∧Hid (mb=false→zaG g.gm xs' j)∧Hid (Ext W3 wr))) (fun _ jv _=>m - (intOf jv).toNat)
   case atStart=>exact zh ⟨false,0,xs,rfl,rfl,Nat.zero_le _,zh (by simp),HB,HS,zh (fun _ j p hj=>by omega),HX⟩
   case round=>
    clear HB HS HCL HX
    obtain⟨mb,j,xs',rfl,rfl,hj,HCF,HB,HS,HCL,HX⟩:=hrel.out
    obtain⟨e0,e1,e2,e3,el⟩:=HG3.out.ext HX.out
    rw[HM.out]at e3
    by_cases hlt:j < m
    ·obtain⟨p,hp⟩:∃p,g.prods[j]?=some p:=⟨_,List.getElem?_eq_getElem (by have:=HM.out;omega)⟩
     obtain⟨pg,po,hA,pl,d0,d1,PO⟩:=(HO3.out.ext HX.out).prd hp
     have HPI:=zh (je H0.out hp); have HPG:=zh (vO hp)
     obtain⟨left,rA,rc,right⟩:=p
     obtain⟨a,rfl⟩:∃a:Nat,left=a:=⟨left.toNat,by have:=HPI.out.left.1;dsimp only at this;omega⟩
     rw[hA]at e3
     dsimp only at d0 d1; have han:a < n:=by have:=HPI.out.left.2;dsimp only at this;have:=HNN.out;omega
     have HDC:=zh (fun w1 (e:Ext wr w1)=>HDE.out nb ob W2.heap.size ns xs' rA rc right w1 (HO3.out.ext (HX.out.trans e)) (HNB.out.ext (HX.out.trans e)) HNI.out (HB.out.ext e) (fun A x hx=>HS.out.bd HGO.out HAC.out.2.2.1 hx) (PO.right.ext e) HPI.out.len PO.cap PO.top HPI.out.sym); have HPL:Hid (∀w1,Ext wr w1→w1.cell? ⟨pg,po+j*2,none⟩=some (.int .i64 a)∧pg < w1.heap.size):=zh (fun w1 e=>⟨zy d0 pl e,Nat.lt_of_lt_of_le pl e.size⟩); have HAA:=zh hA; simp only[hA]at HDC
     clear PO hp hA; go_upto_region 11 with fail; refine zg (12) (zd [1,2,3,5] (zj [0,4,6,7,8] (.step 9 (zd [10,11] .fin)))) (by kernel_rfl) (by kernel_rfl) ?_; (repeat first|refine yq ?_|refine yr ?_)
     refine zp fun next hn=>?_;simp only[pick,yp]; go_wp2_with fail
     refine(HDC.out _ xi).mono ?_
     rintro e' W6 ⟨v,rfl,hv,x6⟩; have HY6:Hid (Ext wr W6):=zh (Ext.trans xi x6); have HV:=zh hv; have hvb:0≤v∧v≤16:=by
      refine⟨hv.pos,?_⟩
      rcases hv.is with h|⟨y,B,z,_,_,hu⟩
      ·omega
      ·exact(HS.out.bd HGO.out HAC.out.2.2.1 hu).2
     clear hv x6 HDC; go_wp2_with fail; refine zk (fun _=>yZ HY6.out) (hn _ _ ?_); clear hn next e0 e1 e2 e3 el d0 d1 pl; have e5:IntKind.i64.wrap (1+v)=1+v:=IntWalk.i64_in _ (by omega); (repeat first|refine yq ?_|refine yr ?_)
     refine zv ?_; have HX6:=zh (HX.out.trans HY6.out); have HB6:=zh (HB.out.ext HY6.out)
     obtain⟨e0,e1,e2,e3,el⟩:=HG3.out.ext HX6.out
     rw[HM.out]at e3
     rw[HAA.out]at e3
     obtain⟨d0,pl⟩:=HPL.out _ HY6.out
     obtain⟨y,hy⟩:∃y,xs'[a]?=some y:=⟨_,List.getElem?_eq_getElem (by rw[HB.out.1];exact han)⟩
     have HYY:=zh hy; have q0:=HB6.out.get hy; have ql:=HB6.out.lt; have qf:=HB6.out.frozen a; clear hy e5; by_cases hup:y < 1+v
     ·have q1:decide (y < 1+v)=true:=decide_eq_true hup; have HNP:=zh (HS.out.put HGO.out HAC.out.2.2.1 (List.mem_of_getElem? HPG.out) HYY.out HV.out hup)
      obtain⟨W7,hW7⟩:∃W,W6.setCell ⟨ob,a,none⟩ (.int .i64 (1+v))=W:=⟨_,rfl⟩
      have HB7:Hid (jE W7 W2.heap.size ob n (xs'.set a (1+v))):=zh (by rw[←hW7];exact HB6.out.put a (1+v)); have HX7:Hid (Ext W3 W7):=zh (by rw[←hW7];exact HX6.out.setCell HOB.out _); have HCF7:Hid (mD (xs'.set a (1+v))+1≤mD xs):=zh (by have:=HNP.out.2;have:=HCF.out;omega); clear hup; go_wp2_with fail; try simp only[hW7]
      go_roundw
      case rel=>exact zh ⟨true,j+1,_,rfl,by go_num,by omega,HCF7,HB7,zh HNP.out.1,zh (fun h=>by cases h),HX7⟩
      case measure=>simp[intOf];omega
     ·have q1:decide (y < 1+v)=false:=decide_eq_false hup; have HCN:Hid (mb=false→zaG g.gm xs' (j+1)):=zh (fun hm=>(HCL.out hm).next HPG.out ⟨v,y,HV.out,by
       show xs'[((a:Nat):Int).toNat]?=some y
       rw[Int.toNat_natCast]
       exact HYY.out,by omega⟩)
      clear hup; go_wp2_with fail; go_roundw
      case rel=>exact zh ⟨mb,j+1,xs',rfl,by go_num,by omega,HCF,HB6,HS,HCN,HX6⟩
      case measure=>simp[intOf];omega
    ·obtain rfl:j=m:=by omega
     go_wp2_with fail; go_roundg (mD xs'*2+(if mb then 1 else 0))
     case measure=>
      have h1:=HMS.out; have h2:=HCF.out; cases mb<;>simp at h1 h2 ⊢<;>omega
     case rel=>exact zh ⟨mb,xs',rfl,zh (Nat.le_refl _),HB,HS,HCL,HX⟩
end Go.Proofs.YtmbelmngniddjaaGreat
