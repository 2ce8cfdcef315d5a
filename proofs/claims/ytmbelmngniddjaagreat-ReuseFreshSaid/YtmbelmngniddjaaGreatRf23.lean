/- Rf: texts that the proof rests on, part 23. -/
import Derived.Test.YtmbelmngniddjaaGreatRf22
namespace Go.Proofs.YtmbelmngniddjaaGreat
open Go.RowKit
attribute [local go_sem] zF zB zI zJ zw zt zN zD zX zQ zK zP zO zL zT zR zS zG zM zC
attribute [local go_sem] Oper.semAt_some
def vM (xs:List Nat):List Int:=xs.map fun(x:Nat)=>(x:Int)
theorem qB (xs:List Nat):(vM xs).length=xs.length:=List.length_map ..
theorem zap {xs:List Nat}{j x:Nat}(h:xs[j]?=some x):vM (xs.take (j+1))=vM (xs.take j)++[(x:Int)]:=by
 obtain⟨hl,hx⟩:=List.getElem?_eq_some_iff.1 h
 unfold vM
 rw[List.take_succ_eq_append_getElem hl,List.map_append,hx]
 rfl
def ApI (w:World)(b n0:Nat)(xs:List Nat)(j:Nat)(K:Nat→Prop)(W:World):Prop:=
 ∃v,W.heap[b]?=some (.cells #[v] 33)∧xj W w.heap.size v (vM (xs.take j))∧Below w.heap.size w W∧(∀k,K k↔k=b∨v.ownBlock=some k)∧(∀g,v.ownBlock=some g→g≠b∧g≠n0∧g≠n0+1)
theorem ApI.turn {w:World}{b n0:Nat}{xs:List Nat}{j:Nat}{K:Nat→Prop}{W W':World}(h:ApI w b n0 xs j K W)(hb:b < n0)(hw:w.heap.size≤n0)(hn:n0≤W.heap.size)(t:zA (fun k=>k=n0∨k=n0+1) W W'):ApI w b n0 xs j K W':=by
 obtain⟨v,h1,⟨A,c,hv,ho⟩,h3,h4,h5⟩:=h
 refine⟨v,(t.block _ (za h1) (by omega)).trans h1,⟨A,c,hv,ye ho fun g hg=>?_⟩,h3.trans (t.below (by omega) fun k hk=>by omega),h4,h5⟩
 rw[←hv]at hg
 have:=h5 g hg
 exact t.block g (z8 ho g (hv▸hg)) (by omega)
set_option maxRecDepth 100000 in
set_option maxHeartbeats 2000000 in
theorem zcA (F:Nat)(lb:Array Value)(xs:List Nat)(w:World)(hl:xs.length≤1000000)(eg:∀args w,(callFunc F args).run Tryz.prog w=.ok (.enter F args) w)
 (hIter:∀w1,Ext w w1→zgh Tryz.prog F lb ziL xs (fun k=>w.heap.size≤k) (fun _ _=>True) w1):
 Calls Tryz.prog 68 #[.slice none 0 0,.func (.func F) #[] lb] w (Yb w (vM xs)):=by
 have HI:=zh hIter; clear hIter; refine qN Tryz.func68 rfl ?_; simp only[Tryz.ntmps68,List.size_toArray,List.length_cons,List.length_nil,Nat.reduceAdd,Nat.reduceSub,Array.replicate_succ,Array.replicate_zero,List.push_toArray,List.append_toArray,List.nil_append,List.cons_append]
 go_wp2_with fail
 obtain⟨b,hb⟩:∃b,w.heap.size=b:=⟨_,rfl⟩
 obtain⟨W0,hW0⟩:∃W0,w.alloc (.cells #[.slice none 0 0] 33)=W0:=⟨_,rfl⟩
 have X0:Ext w W0:=by rw[←hW0];exact xi
 have G0:W0.heap[b]?=some (.cells #[.slice none 0 0] 33):=by rw[←hW0,←hb];exact heap_alloc_new _ _
 have S0:W0.heap.size=b+1:=by rw[←hW0,←hb];simp
 rw[hW0,hb]
 clear hW0
 refine zem (gf:=F) (lb:=lb) (encs:=ziL) (xs:=xs) (S:=fun k=>w.heap.size≤k) (R:=fun _ _=>True) rfl eg (fun _=>rfl) (by omega) (fun w1 hx _=>HI.out w1 (X0.trans hx))
  (fun j K W=>ApI w b (b+1) xs j K W) (fun _ _ _=>False) (fun k=>k=b) (fun k hk=>by omega) ?_ (fun _ _ _ _ _ _ h=>h) ?_ (fun _ _ _ _=>trivial) ?_ ?_ ?_ (fun _ _ _ _ h=>h.elim)
 ·rintro j K U U' ht hsz hA
  rw[S0]at ht hsz
  exact hA.turn (by omega) (by omega) (by omega) ht
 ·rintro j K U ⟨v,h1,h2,h3,h4,h5⟩
  rw[S0]
  refine⟨fun h=>?_,fun h=>?_⟩
  ·rcases(h4 _).1 h with h|h
   ·omega
   ·exact(h5 _ h).2.1 rfl
  ·rcases(h4 _).1 h with h|h
   ·omega
   ·exact(h5 _ h).2.2 rfl
 ·intro U hU
  exact⟨.slice none 0 0,zb G0 hU,⟨none,0,by rw[List.take_zero];rfl,by rw[List.take_zero];exact World.ownsRow_nil _ _ _ _⟩,(X0.trans hU).below,fun k=>⟨fun h=>.inl h,fun h=>h.elim id (fun h=>by cases h)⟩,fun g hg=>by cases hg⟩
 ·rintro l j x K W hx hI hsz; clear hI; simp only[ziL]
  gi_wp2
  refine⟨Ext.refl _,?_⟩
  rintro W2 t2 ⟨v,h1,h2,h3,h4,h5⟩ hsz2
  rw[S0]at hsz
  have k0:=cr 0 h1; simp at k0
  have l0:=za h1; have f0:W2.frozen? ⟨b,0,none⟩=false:=by simp[World.frozen?,h1]
  have H1:=zh h1; have H2:=zh h2; have H3:=zh h3; have H4:=zh h4; have H5:=zh h5; have HX:=zh hx; clear t2 h1 h2 h3 h4 h5 hx; have HLX:Hid ((vM (xs.take j)).length≤1000000):=zh (by rw[qB,List.length_take];omega); have H2x:Hid (xj (W2.alloc (.cells #[.int .i64 (x:Int)] 3)) w.heap.size v (vM (xs.take j))):=zh (H2.out.ext xi)
  gi_wp2_with (gi_at_builtin;refine jc (fun _ _ h=>h) _ _ _ (by kernel_rfl) ?_;refine yV w (by rfl) (.tmp 8) (.tmp 10) rfl H2x.out (x:Int) W2.heap.size rfl rfl (by simp) (by rw[cr 0 (heap_alloc_new W2 (.cells #[.int .i64 (x:Int)] 3))];rfl) HLX.out (by simp;omega) ?_;intro v' w' hr' hg' hb')
  have hbn:some b≠v.ownBlock:=fun he=>(H5.out b he.symm).1 rfl; have hb1:w'.heap[b]?=some (.cells #[v] 33):=(hg'.block b (by simp;omega) hbn).trans (zb H1.out xi); have kb:=cr 0 hb1; simp at kb
  have lb':=za hb1; have fb:w'.frozen? ⟨b,0,none⟩=false:=by simp[World.frozen?,hb1]
  have HB1:=zh hb1
  obtain⟨A',c',hv',ho'⟩:=hr'
  obtain⟨ln,hln⟩:∃ln,(vM (xs.take j)++[(x:Int)]).length=ln:=⟨_,rfl⟩
  rw[hln]at hv'
  subst hv'; have HO':=zh ho'; have HLN:=zh hln; have HG:=zh hg'; have HBB:=zh hb'; clear hb1 ho' hg' hb' hbn hln H2x k0 l0 f0; go_wp2_with fail; refine zbK ?_; have T0:zA (fun k=>K k∨W.heap.size≤k) W2 (W2.alloc (.cells #[.int .i64 (x:Int)] 3)):=zA.of_ext xi; have T1:zA (fun k=>K k∨W.heap.size≤k) (W2.alloc (.cells #[.int .i64 (x:Int)] 3)) w':=zA.grown HG.out fun k hk _=>.inl ((H4.out k).2 (.inr hk)); have T2:zA (fun k=>K k∨W.heap.size≤k) w' (w'.setCell ⟨b,0,none⟩ (.slice A' ln c')):=zA.setCell w' (p:=⟨b,0,none⟩) (.inl ((H4.out b).2 (.inl rfl))) _; have TT:=(T0.trans T1).trans T2; have hown:∀g,(Value.slice A' ln c').ownBlock=some g→g≠b∧g≠b+1∧g≠b+1+1:=fun g hg=>by
   rcases HBB.out with h|h
   ·exact H5.out g (h▸hg)
   ·rw[h]at hg
    injection hg with hg; simp at hg
    omega
  refine⟨TT,fun k=>k=b∨(Value.slice A' ln c').ownBlock=some k,fun k hk=>?_,_,?_,?_,?_,fun k=>Iff.rfl,hown⟩
  ·rcases hk with rfl|hk
   ·exact .inl ((H4.out _).2 (.inl rfl))
   ·rcases HBB.out with h|h
    ·exact .inl ((H4.out _).2 (.inr (h▸hk)))
    ·rw[h]at hk
     injection hk with hk; simp at hk
     exact .inr (by omega)
  ·simp[World.setCell,Array.getElem?_modify,HB1.out]
  ·rw[zap HX.out]
   refine⟨A',c',by rw[HLN.out],ye HO'.out fun g hg=>?_⟩
   have:=(hown g (HLN.out▸hg)).1
   simp[World.setCell,Array.getElem?_modify,Ne.symm this]
  ·exact H3.out.trans (TT.below (by have:=H3.out.size;omega) fun k hk=>by
    rcases hk with hk|hk
    ·rcases(H4.out k).1 hk with h|h
     ·omega
     ·obtain⟨A',c',hv,ho⟩:=H2.out
      exact zV ho k (hv▸h)
    ·omega)
 ·rintro K V ⟨v,h1,h2,h3,h4,h5⟩ hsz hk
  rw[S0]at hk ⊢
  rw[List.take_length]at h2
  have k0:=cr 0 h1; simp at k0
  have l0:=za h1; have tD:zA (fun k=>k=b+1) V (V.putObj (b+1) (.deferred none)):=yC _ _ rfl
  obtain⟨A',c',hv,ho⟩:=h2
  have OUT:Hid (Yb w (vM xs) (.returned v) (V.putObj (b+1) (.deferred none))):=zh (by
   refine⟨A',c',by rw[hv],ye ho fun g hg=>?_,Ext.of_below (h3.trans (tD.below (by omega) fun k hk=>by omega))⟩
   have:=h5 g (hv▸hg)
   exact tD.block g (z8 ho g hg) (by omega))
  clear h1 h3 h4 h5 tD ho hv; go_wp2_with fail; exact qh (D:=b+1) (v:=v) rfl hk (by simp[results,Tryz.results68,go_sem]) OUT.out
theorem zay (F:Nat)(lb:Array Value)(xs:List Nat)(w:World)(hl:xs.length≤1000000)(eg:∀args w,(callFunc F args).run Tryz.prog w=.ok (.enter F args) w)
 (hIter:∀w1,Ext w w1→zgh Tryz.prog F lb ziL xs (fun k=>w.heap.size≤k) (fun _ _=>True) w1):
 Calls Tryz.prog 37 #[.func (.func F) #[] lb] w (Yb w (vM xs)):=by
 have CA:=zh (zcA F lb xs w hl eg hIter); clear hIter eg; go_in
 go_wp2_with fail; refine CA.out.mono ?_; rintro e w2 ⟨A,c,rfl,ho,hx⟩; have HO:=zh ho; have HX:=zh hx; clear ho hx; go_wp2_with fail; go_ret
 exact⟨A,c,rfl,HO.out,HX.out⟩
theorem zeX (A:Option Addr)(c:Nat)(ps:List Prt)(xs:List Nat)(w:World)(h:PS w A c ps)(hG:ziR (nds ps) xs)(hl:xs.length≤1000000):Calls Tryz.prog 12 #[.slice A ps.length c] w (Yb w (vM xs)):=by
 have hps:=h.few.len; have S:=zh h; have HG:=zh hG; clear h hG; go_in
 go_wp2_with fail
 refine(Jc A ps.length c w).mono ?_
 rintro e w1 ⟨rfl,hw1⟩; have X1:Ext w w1:=by rw[hw1];exact xi
 have G1:w1.heap[w.heap.size]?=some (.cells #[.slice A ps.length c] 45):=by rw[hw1];exact heap_alloc_new _ _
 have S1:w1.heap.size=w.heap.size+1:=by rw[hw1];simp
 have CC:=zh (zay 69 #[pt w.heap.size] xs w1 hl (enters_of Tryz.func69 (by kernel_rfl) rfl)
  (fun w2 hx=>VV A c ps xs w w2 w.heap.size _ S.out HG.out (X1.trans hx).below (zb G1 hx) (by omega) (fun b hb=>by omega)))
 have HX1:=zh X1; clear hw1 G1 S1 X1; go_wp2_with fail; refine CC.out.mono ?_; rintro e w2 ⟨A2,c2,rfl,ho,hx⟩; have HO:=zh ho; have HX:=zh hx; clear ho hx; go_wp2_with fail; go_ret
 exact⟨A2,c2,rfl,HO.out.base HX1.out.size,HX1.out.trans HX.out⟩
end Go.Proofs.YtmbelmngniddjaaGreat
namespace Go.Proofs.YtmbelmngniddjaaGreat
open Go.RowKit
attribute [local go_sem] zF zB zI zJ zw zt zN zD zX zQ zK zP zO zL zT zR zS zG zM zC
attribute [local go_sem] Oper.semAt_some
end Go.Proofs.YtmbelmngniddjaaGreat
namespace Go.Proofs.YtmbelmngniddjaaGreat
open Go.RowKit
attribute [local go_sem] zF zB zI zJ zw zt zN zD zX zQ zK zP zO zL zT zR zS zG zM zC
structure MvV (w:World)(m:Nat)(v:Value)(qs:List Prt)(p:Prt)(d:Int)(k:Nat)(A:Option Addr)(c:Nat)(W:World):Prop where
 low:Low m W (fun U=>zdd U w.heap.size v qs∧Below w.heap.size w U)
 part:W.heap[m]?=some (.cells (yh ⟨{p.nd with kids:=(p.nd.kids.take k).map (· +d)},A,c⟩).toArray 54)
 own:vr W m A c ((p.nd.kids.take k).map (· +d))
theorem zdd.below {w w':World}{base:Nat}{v:Value}{qs:List Prt}(h:zdd w base v qs)(e:Below w.heap.size w w'):zdd w' base v qs:=by
 obtain⟨A,c,hv,ho⟩:=h
 exact⟨A,c,hv,ye ho.row fun g hg=>e.block g (z8 ho.row g hg),fun q hq=>(ho.kids q hq).below e,ho.fine⟩
theorem MvV.rowP {w:World}{m:Nat}{v:Value}{qs:List Prt}{p:Prt}{d:Int}{k:Nat}{A:Option Addr}{c:Nat}{W:World}(h:MvV w m v qs p d k A c W):zdd W w.heap.size v qs:=
 Low.up (Φ:=fun U=>zdd U w.heap.size v qs) (h.low.imp fun _ h=>h.1) fun _ h e=>h.below e
theorem MvV.below {w:World}{m:Nat}{v:Value}{qs:List Prt}{p:Prt}{d:Int}{k:Nat}{A:Option Addr}{c:Nat}{W:World}(h:MvV w m v qs p d k A c W):Below w.heap.size w W:=
 Low.up (Φ:=Below w.heap.size w) (h.low.imp fun _ h=>h.2) fun _ h e=>h.trans (e.mono h.size)
set_option maxRecDepth 100000 in
set_option maxHeartbeats 2000000 in
theorem Vx (d:Int)(A:Option Addr)(c:Nat)(ps:List Prt)(w:World)(hP:j4 w A ps)(hO:qy w ps)(hf:Few ps)(_:ps.length≤c)(hfi:∀p∈ps,∀x∈p.nd.kids,I64 (x+d)):
 Calls Tryz.prog 40 #[.slice A ps.length c,.int .i64 d] w (YU w ((nds ps).map (Nd.by (· +d)))):=by
 have hl:=hf.len; have HP:=zh hP; have HO:=zh hO; have HFI:=zh hfi; have HFW:=zh hf; clear hP hO hfi hf; go_in
 go_wp2_with fail; go_loopw [5,6] (fun v i wr=>∃(j:Nat) (qs:List Prt),j≤ps.length∧i=.int .i64 j∧Hid (qs.length=j∧nds qs=((nds ps).take j).map (Nd.by (· +d)))∧Hid (zdd wr w.heap.size v qs)∧Hid (Ext w wr)) (fun _ i _=>ps.length - (intOf i).toNat)
 case atStart=>exact⟨0,[],Nat.zero_le _,rfl,zh ⟨rfl,rfl⟩,zh ⟨none,0,rfl,Zp.nil _ _⟩,zh (Ext.refl _)⟩
 case round=>
  obtain⟨j,qs,hj,rfl,hq,hr,hx⟩:=hrel
  by_cases hlt:j < ps.length
  ·obtain⟨p,hp⟩:∃p,ps[j]?=some p:=⟨_,List.getElem?_eq_getElem hlt⟩
   obtain⟨b,off,rfl,hb,hcell⟩:=(HP.out.ext hx.out) (by omega)
   obtain⟨d0,d1,d2,d3,d4,d5,d6,d7⟩:=hcell j _ hp
   have hpo:=HO.out.get hp; have hkn:=HFW.out.kids_le (List.mem_of_getElem? hp); have HS:Hid (((nds ps).take (j+1)).map (Nd.by (· +d))=((nds ps).take j).map (Nd.by (· +d))++[p.nd.by (· +d)]):=zh (by
    have h1:=yJ hp
    rw[List.getElem?_eq_getElem (by rw[zx];exact hlt)]at h1
    injection h1 with h1
    rw[List.take_succ_eq_append_getElem (by rw[zx];exact hlt),h1,List.map_append]
    rfl)
   have HPO:=zh hpo; have HPP:=zh hp; have HFK:=zh (HFI.out p (List.mem_of_getElem? hp)); clear hcell hp hpo; go_upto_region 7 with fail
   obtain⟨m,hm⟩:∃m,wr.heap.size=m:=⟨_,rfl⟩
   obtain⟨W4,hW4⟩:∃W4,wr.alloc (.cells #[.int .i64 p.nd.sym,.int .i64 p.nd.kind,.int .i64 p.nd.lo,.int .i64 p.nd.inn,.int .i64 p.nd.hi,.int .i64 p.nd.look,.slice none 0 0,.int .u64 p.nd.met] 54)=W4:=⟨_,rfl⟩
   have X4:Ext wr W4:=by rw[←hW4];exact xi
   have P4:W4.heap[m]?=some (.cells (yh ⟨{p.nd with kids:=(p.nd.kids.take 0).map (· +d)},none,0⟩).toArray 54):=by
    rw[←hW4,←hm]
    exact heap_alloc_new _ _
   have MV0:Hid (MvV w m u5 qs p d 0 none 0 W4):=zh ⟨⟨wr,hm,(X4.below).mono (by omega),hr.out,hx.out.below⟩,P4,World.ownsRow_nil _ _ _ _⟩; have HWM:Hid (w.heap.size≤m):=zh (by have:=hx.out.size;omega)
   obtain⟨wr0,hwr0⟩:∃wr0:World,wr0.heap.size=m:=⟨wr,hm⟩
   have HWR:=zh hwr0
   rw[hm,hW4]
   clear hW4 X4 P4 d0 d1 d2 d3 d4 d5 d6 d7 hwr0 hm; go_wp2_with fail; go_loopw [8] (fun v wr2=>∃(k:Nat) (A2:Option Addr) (c2:Nat),k≤p.nd.kids.length∧v=.int .i64 k∧Hid (MvV w m u5 qs p d k A2 c2 wr2)) (fun v _=>p.nd.kids.length - (intOf v).toNat)
   case atStart=>exact⟨0,none,0,Nat.zero_le _,rfl,MV0⟩
   case round=>
    obtain⟨k,A2,c2,hk,rfl,hmv⟩:=hrel
    obtain⟨b',off',hA',hb',hcell⟩:=(HP.out.below hmv.out.below) (by omega)
    injection hA' with hA'; injection hA' with ea eb; subst ea eb; have d6:=(hcell j p HPP.out).2.2.2.2.2.2.1
    obtain⟨ly,y0,y1,y2,y3,y4,y5,y6,y7⟩:=qk hmv.out.part
    have f6:wr.frozen? ⟨m,6,none⟩=false:=by simp[World.frozen?,hmv.out.part]
    have ko1:=HPO.out.cap; have ko2:=HPO.out.top; clear hcell; by_cases hkl:k < p.nd.kids.length
    ·obtain⟨x,hxk⟩:∃x,p.nd.kids[k]?=some x:=⟨_,List.getElem?_eq_getElem hkl⟩
     obtain⟨bk,offk,hkA,hbk,hck⟩:=(HPO.out.below hmv.out.below).kids (by omega)
     have e1:=hck k hkl
     rw[List.getD_eq_getElem?_getD,hxk]at e1
     dsimp only[Option.getD_some]at e1; have hxd:=HFK.out x (List.mem_of_getElem? hxk); unfold I64 at hxd; have b1:IntKind.i64.wrap (x+d)=x+d:=IntWalk.i64_in _ hxd; have HTK:Hid ((p.nd.kids.take (k+1)).map (· +d)=(p.nd.kids.take k).map (· +d)++[x+d]):=zh (by
      obtain⟨hl',hx'⟩:=List.getElem?_eq_some_iff.1 hxk
      rw[List.take_succ_eq_append_getElem hl',List.map_append,hx']
      rfl)
     obtain⟨xs,hxs⟩:∃xs,(p.nd.kids.take k).map (· +d)=xs:=⟨_,rfl⟩
     have hxl:xs.length=k:=by rw[←hxs,List.length_map,List.length_take];omega
     have HOI:Hid (vr wr m A2 c2 xs):=zh (by rw[←hxs];exact hmv.out.own); have HPM:Hid (wr.heap[m]?=some (.cells (yh ⟨{p.nd with kids:=xs},A2,c2⟩).toArray 54)):=zh (by rw[←hxs];exact hmv.out.part); have HLW:=zh hmv.out.low; have hmv0:=hmv.out.low; change wr.cell? ⟨m,6,none⟩=some (.slice A2 ((p.nd.kids.take k).map (· +d)).length c2)at y6
     rw[hxs]at y6 HTK
     have HXL:Hid (xs.length≤1000000):=zh (by omega)
     rw[hkA]at d6
     clear hck hxk hkA hxs hxl hmv hxd y0 y1 y2 y3 y4 y5 y7; go_upto_region 10 with fail; refine Qv (13) [14,15] [([0,1,2,3,4,5,6,7,8,9,10,11],12)] [] (by kernel_rfl) (by kernel_rfl) ?_; (refine zcW fun K hK=>?_);(first|(simp only[xQ])|(simp only[pick,yp]));(repeat go_big_quiet_step (fail));(refine wpQuiet_nil (hK _ fun next hn=>?_));(clear hK K);(simp only[pick,yp])
     go_wp2_with fail; refine zk (fun _=>yZ xi) (hn _ _ ?_); clear hn next; (refine zfv fun K hK=>?_);(first|(simp only[xQ])|(simp only[pick,yp]));(repeat go_big_quiet_step (fail));(refine wpQuiet_nil (hK _ ?_));(clear hK K);(simp only[pick,yp])
     have hm2:=hmv0.size; have HR2:=zh (show xj (wr.alloc (.cells #[.int .i64 (x+d)] 3)).drew wr0.heap.size (.slice A2 xs.length c2) xs from⟨A2,c2,rfl,by rw[HWR.out];exact HOI.out.ext xi⟩)
     at_builtin
     refine yV wr0 (by rfl) (.tmp 31) (.tmp 42) rfl HR2.out (x+d) wr.heap.size rfl rfl (by simp) (by show(wr.alloc (.cells #[.int .i64 (x+d)] 3)).cell? ⟨wr.heap.size,0,none⟩=_;rw[cr 0 (heap_alloc_new wr (.cells #[.int .i64 (x+d)] 3))];rfl) HXL.out (by rw[HWR.out];simp;omega) ?_; intro v' w' hr' hg' hb'
     obtain⟨A',c',hv',ho'⟩:=hr'
     obtain⟨ln,hln⟩:∃ln,(xs++[x+d]).length=ln:=⟨_,rfl⟩
     rw[hln]at hv'
     subst hv'
     rw[HWR.out]at ho'
     have hbn:some m≠(Value.slice A2 xs.length c2).ownBlock:=fun he=>by
      obtain⟨cur,h2⟩:=zZ HOI.out m he.symm
      rw[HPM.out]at h2
      injection h2 with h2; injection h2 with _ h2; exact absurd h2 (by decide)
     have hm1:w'.heap[m]?=some (.cells (yh ⟨{p.nd with kids:=xs},A2,c2⟩).toArray 54):=(hg'.block m (by simp;omega) hbn).trans (zb HPM.out xi); have hown:∀g,(Value.slice A' ln c').ownBlock=some g→g≠m:=fun g hg he=>by
      obtain⟨cur,h2⟩:=zZ ho' g (hln.symm▸hg)
      rw[he,hm1]at h2
      injection h2 with h2; injection h2 with _ h2; exact absurd h2 (by decide)
     have fm:w'.frozen? ⟨m,6,none⟩=false:=by simp[World.frozen?,hm1]
     have km:=cr 6 hm1; have lm:=za hm1; have HM1:=zh hm1; have HOW:=zh hown; have HO':=zh ho'; have HLN:=zh hln; have HG:=zh hg'; clear hm1 hown ho' hln hg' hb' hbn HR2; go_wp2_with fail; refine zbK ?_; have T0:zA (fun k=>m≤k) wr ((wr.alloc (.cells #[.int .i64 (x+d)] 3)).drew):=zA.of_ext xi; have T1:zA (fun k=>m≤k) ((wr.alloc (.cells #[.int .i64 (x+d)] 3)).drew) w':=zA.grown HG.out fun k hk _=>zV HOI.out k hk; have T2:zA (fun k=>m≤k) w' (w'.setCell ⟨m,6,none⟩ (.slice A' ln c')):=zA.setCell w' (p:=⟨m,6,none⟩) (Nat.le_refl m) _; have TT:=(T0.trans T1).trans T2; have MVN:Hid (MvV w m u5 qs p d (k+1) A' c' (w'.setCell ⟨m,6,none⟩ (.slice A' ln c'))):=zh ⟨HLW.out.below (TT.below (by omega) fun k hk=>hk),by
      rw[HTK.out,←HLN.out]
      simp[World.setCell,Array.getElem?_modify,HM1.out,yh],by
      rw[HTK.out]
      refine ye HO'.out fun g hg=>?_
      have:=HOW.out g (HLN.out▸hg)
      simp[World.setCell,Array.getElem?_modify,Ne.symm this]⟩
     clear T0 T1 T2 TT; go_wp2_with fail; go_roundw
     case rel=>exact⟨k+1,A',c',by omega,by go_num,MVN⟩
     case measure=>simp[intOf];omega
    ·obtain rfl:k=p.nd.kids.length:=by omega
     have HR2:=zh hmv.out.rowP; have HX2:Hid (Ext w wr):=zh (Ext.of_below hmv.out.below); have hkk:(p.nd.kids.take p.nd.kids.length).map (· +d)=(p.nd.by (· +d)).kids:=by rw[List.take_of_length_le (Nat.le_refl _)];rfl
     have HO2:Hid (vr wr w.heap.size A2 c2 (p.nd.by (· +d)).kids):=zh (hkk▸hmv.out.own.base HWM.out); have HPM:Hid (wr.heap[m]?=some (.cells (yh ⟨p.nd.by (· +d),A2,c2⟩).toArray 54)):=zh (by have:=hmv.out.part;rw[hkk]at this;exact this); have HL:Hid (qs.length≤1000000):=zh (by have:=hq.out.1;omega); have HFN:Hid (VQ ⟨p.nd.by (· +d),A2,c2⟩):=by
      have hf:=HPO.out.fine
      exact⟨hf.sym,hf.kind,hf.lo,hf.inn,hf.hi,hf.look,hf.met,fun k hk=>by
       obtain⟨x,hx,rfl⟩:=List.mem_map.1 hk
       exact HFK.out x hx⟩
     clear hkk hmv y0 y1 y2 y3 y4 y5 y6 y7 f6
     obtain⟨_,y0,y1,y2,y3,y4,y5,y6,y7⟩:=qk HPM.out
     go_wp2_with (at_builtin;refine zgR w (by rfl) (.tmp 45) (.tmp 47) rfl (HR2.out.ext xi) ⟨p.nd.by (· +d),A2,c2⟩ wr.heap.size rfl rfl (xp _ _ _ _ _ rfl (by simp[yh,Nd.by])) (HO2.out.ext xi) HFN.out HL.out (HX2.out.trans xi) ?_;intro v7 w7 hr7 hx7)
     have HR7:=zh hr7; have HX7:=zh hx7; clear hr7 hx7; go_roundw
     case rel=>exact⟨j+1,_,by omega,by go_num,zh ⟨by rw[List.length_append,hq.out.1];rfl,by rw[HS.out,←hq.out.2];simp[nds]⟩,HR7,HX7⟩
     case measure=>simp[intOf];omega
  ·obtain rfl:j=ps.length:=by omega
   obtain⟨A1,c1,rfl,ho⟩:=hr.out
   have HO1:=zh ho; clear ho; go_wp2_with fail; go_ret
   refine⟨A1,c1,qs,rfl,?_,HO1.out,hx.out⟩
   rw[hq.out.2,List.take_of_length_le (by rw[zx];omega)]
section
variable {A:Option Addr}{c:Nat}{ps:List Prt}{w:World}
theorem zg0 (i:Int)(h:PS w A c ps)(T:IsP (nds ps) i):Calls Tryz.prog 39 #[.slice A ps.length c,.int .i64 i] w fun e w'=>e=.returned (.bool true)∧Ext w w':=by
 obtain⟨T,h0,h1⟩:=T
 rw[zx]at h1
 refine(zh9 i h T).mono ?_
 rintro e w' ⟨rfl,hx⟩
 exact⟨yx (by rw[decide_eq_true h0,decide_eq_true h1];rfl),hx⟩
set_option maxRecDepth 100000 in
set_option maxHeartbeats 1000000 in
theorem zdm (h:PS w A c ps):Calls Tryz.prog 32 #[.slice A ps.length c] w (YU w (nds ps)):=by
 have CM:=zh (Vx 0 A c ps w h.parts h.oks h.few h.cap (fun p hp x hx=>by rw[Int.add_zero];exact(h.oks p hp).ks x hx)); have HID:Hid ((nds ps).map (Nd.by fun x=>x+0)=nds ps):=zh (by
  exact(List.map_congr_left (g:=id) fun p _=>Nd.by_id fun k _=>Int.add_zero k).trans (List.map_id _))
 clear h; go_in
 go_wp2_with fail; refine CM.out.mono ?_; rintro e w2 ⟨A2,c2,qs,rfl,hn,ho,hx⟩
 rw[HID.out]at hn
 have HN:=zh hn; have HO:=zh ho; have HX:=zh hx; clear hn ho hx; go_wp2_with fail; go_ret
 exact⟨A2,c2,qs,rfl,HN.out,HO.out,HX.out⟩
set_option maxRecDepth 100000 in
set_option maxHeartbeats 2000000 in
theorem zg2 (i m:Nat)(h:PS w A c ps)(T:xR (nds ps))(hp:YG (nds ps) i m):Calls Tryz.prog 15 #[.slice A ps.length c,.int .i64 i] w (YU w (zi7 (nds ps) i m)):=by
 have CH:=zh (zg0 i h ⟨T,by omega,by have:=hp.lt;omega⟩); have hil:=hp.lt
 rw[zx]at hil
 obtain⟨p,hpp⟩:∃p,ps[i]?=some p:=⟨_,List.getElem?_eq_getElem hil⟩
 obtain⟨ok,m',ht⟩:=YR (nds ps) ps.length p.nd.kids (i+1) (by rw[zx];omega)
 have CE:=zh (fun(V:World) (x:Ext w V)=>zbO A c ps ps.length i m' ok p V (h.ext x) (by omega) hpp ht)
 rw[zeJ T (yJ hpp) hp ht]at CE
 clear hpp ht hil; have HS:=zh h; have hl:=h.few.len; have hc1:=h.cap; have hc2:=h.top; have hlt:=hp.lt; have hme:=hp.lt_end; have hml:=hp.le
 rw[zx]at hlt hml
 obtain⟨b,off,rfl,hb,_⟩:=h.parts (by omega)
 have KF:Hid (∀p∈(ps.drop i).take (m - i),∀x∈p.nd.kids,∃k:Nat,x=(k:Int)∧i < k∧k < m):=zh (by
  intro p hpm x hx
  obtain⟨j,hj,rfl⟩:=List.getElem_of_mem hpm
  rw[List.length_take,List.length_drop]at hj
  have e:ps[i+j]?=some (((ps.drop i).take (m - i))[j]):=by
   rw[←List.getElem?_drop,←List.getElem?_take_of_lt (show j < m - i by omega),List.getElem?_eq_getElem]
  obtain⟨k,h1,h2,h3⟩:=hp.kid_in (show i≤i+j by omega) (by omega) (yJ e) x hx
  exact⟨k,h1,by omega,h3⟩)
 clear h T hp; have s1:IntKind.i64.wrap (-(i:Int))=-(i:Int):=IntWalk.i64_in _ (by omega); go_in
 go_wp2_with fail; refine CH.out.mono ?_; rintro e w2 ⟨rfl,hx2⟩; have HX:=zh hx2; clear hx2; go_wp2_with fail
 refine(CE.out _ HX.out).mono ?_
 rintro e w3 ⟨rfl,hx3⟩; have X3:Hid (Ext w w3):=zh (HX.out.trans hx3); clear hx3; have hln:((ps.drop i).take (m - i)).length=m - i:=by rw[List.length_take,List.length_drop];omega
 have CM:=Vx (-(i:Int)) (some ⟨b,off+i*8,none⟩) (c - i) ((ps.drop i).take (m - i)) w3
  ((HS.out.parts.slice i (m - i)).ext X3.out) ((HS.out.oks.slice i (m - i)).ext X3.out) (HS.out.few.slice i (m - i)) (by rw[hln];omega) (fun p hp x hx=>by obtain⟨k,rfl,h1,h2⟩:=KF.out p hp x hx;unfold I64;omega)
 rw[hln]at CM
 have HCM:=zh CM; clear CM hln; go_wp2_with fail; refine HCM.out.mono ?_; rintro e w5 ⟨A5,c5,qs,rfl,hn5,ho5,hx5⟩; have X5:Hid (Ext w w5):=zh (X3.out.trans hx5); have HO5:Hid (Zp w5 w.heap.size A5 c5 qs):=zh (ho5.base X3.out.size); have HN5:Hid (nds qs=zi7 (nds ps) i m):=zh (by rw[hn5,zbB,zbH];rfl); clear hn5 ho5 hx5 HCM; go_wp2_with fail; go_ret
 exact⟨A5,c5,qs,rfl,HN5.out,HO5.out,X5.out⟩
end
def za2 (p q:Nd):Bool:=(p.sym==q.sym)&&(p.kind==q.kind)&&(p.lo==q.lo)&&(p.inn==q.inn)&&(p.hi==q.hi)&&(p.look==q.look)&&(p.met==q.met)&&((p.kids.length:Int)==(q.kids.length:Int))
theorem zgA {p q:Nd}(h:za2 p q=false):p≠q:=by
 rintro rfl; simp[za2]at h
theorem JM {p q:Nd}(h:za2 p q=true):p.kids.length=q.kids.length∧(p.kids=q.kids→p=q):=by
 obtain⟨a,b,c,d,e,f,g,h⟩:=p
 obtain⟨a',b',c',d',e',f',g',h'⟩:=q
 simp only[za2,Bool.and_eq_true,beq_iff_eq]at h
 obtain⟨⟨⟨⟨⟨⟨⟨rfl,rfl⟩,rfl⟩,rfl⟩,rfl⟩,rfl⟩,rfl⟩,hl⟩:=h
 exact⟨Int.ofNat.inj hl,fun h=>by dsimp only at h;rw[h]⟩
theorem zhi {l:List Nd}{k:Nat}{p:Nd}(h:l[k]?=some p):l.take (k+1)=l.take k++[p]:=by
 rw[List.take_add_one,h]
 rfl
set_option maxRecDepth 100000 in
set_option maxHeartbeats 2000000 in
theorem zew (A B:Option Addr)(ps qs:List Prt)(c d:Nat)(w:World)(hP:j4 w A ps)(hO:qy w ps)(hQ:j4 w B qs)(hOq:qy w qs)(bx:ps.length≤1000000)(_:qs.length≤1000000):
 Calls Tryz.prog 14 #[.slice A ps.length c,.slice B qs.length d] w fun e w'=>e=.returned (.bool (decide (nds ps=nds qs)))∧Ext w w':=by
 have HP:=zh hP; have HO:=zh hO; have HQ:=zh hQ; have HOQ:=zh hOq; clear hP hO hQ hOq; by_cases hlen:ps.length=qs.length
 ·have HLEN:=zh hlen; have hl2:((ps.length:Int) !=(qs.length:Int))=false:=by simp;omega
  clear hlen; go_in
  go_wp2_with fail; go_loopw [5] (fun i wr=>∃j:Nat,j≤ps.length∧i=.int .i64 j∧Hid ((nds ps).take j=(nds qs).take j)∧Hid (Ext w wr)) (fun i _=>ps.length - (intOf i).toNat)
  case atStart=>exact⟨0,Nat.zero_le _,rfl,zh rfl,zh (Ext.refl _)⟩
  case round=>
   obtain⟨j,hj,rfl,he,hx⟩:=hrel
   by_cases hlt:j < ps.length
   ·obtain⟨p,hp⟩:∃p,ps[j]?=some p:=⟨_,List.getElem?_eq_getElem hlt⟩
    obtain⟨q,hq⟩:∃q,qs[j]?=some q:=⟨_,List.getElem?_eq_getElem (by have:=HLEN.out;omega)⟩
    obtain⟨b,off,rfl,hb,hcell⟩:=(HP.out.ext hx.out) (by omega)
    obtain⟨d0,d1,d2,d3,d4,d5,d6,d7⟩:=hcell j _ hp
    obtain⟨b',off',rfl,hb',hcell'⟩:=(HQ.out.ext hx.out) (by have:=HLEN.out;omega)
    obtain⟨e0,e1,e2,e3,e4,e5,e6,e7⟩:=hcell' j _ hq
    have hlt':j < qs.length:=by have:=HLEN.out;omega
    have HPP:=zh hp; have HQQ:=zh hq; have HPO:=zh (HO.out.get hp); have HQO:=zh (HOQ.out.get hq); clear hcell hcell' hp hq; go_upto_region 6 with fail; go_cut [6,7] (fun x y wx=>∃g h,x=pt g∧y=pt h∧Hid (wx.heap[g]?=some (.cells (yh p).toArray 54))∧Hid (wx.heap[h]?=some (.cells (yh q).toArray 54))∧Hid (Ext w wx))
    case first=>
     refine Qd 11 (.two (.step 8 (.step 9 (.step 10 (.step 11 .fin)))) (.step 9 (.step 8 (.step 10 (.step 11 .fin))))) [0,1,2,3,4,5,6,7] (by kernel_rfl) (by kernel_rfl) ?_; intro K hK; simp only[pick,yp]
     repeat(go_big_quiet_step (fail))
     refine wpQuiet_nil (hK _ ?_); clear hK K; simp only[ze9,pick,yp]
     refine⟨?_,?_⟩
     ·go_wp2_with fail; refine zk (fun _=>yZ xi) ?_; go_wp2_with fail; refine zk (fun _=>yZ xi) ?_; go_wp2_with fail; refine zk (fun _=>yZ xi) ?_; go_wp2_with fail; refine zk (fun h=>absurd rfl h) ?_; go_wp2_with fail; go_meet
      exact⟨_,_,rfl,rfl,zh (by show((wr.alloc _).alloc _).heap[_]?=_;exact(by simp only[zm,World.size_alloc];(repeat(split;(first|rfl|(exfalso;omega))));(try(first|(exfalso;omega)|simp_all)))),zh (by show((wr.alloc _).alloc _).heap[_]?=_;exact(by simp only[zm,World.size_alloc];(repeat(split;(first|rfl|(exfalso;omega))));(try(first|(exfalso;omega)|simp_all)))),zh (hx.out.trans xi)⟩
     ·go_wp2_with fail; refine zk (fun _=>yZ xi) ?_; go_wp2_with fail; refine zk (fun _=>yZ xi) ?_; go_wp2_with fail; refine zk (fun _=>yZ xi) ?_; go_wp2_with fail; refine zk (fun h=>absurd rfl h) ?_; go_wp2_with fail; go_meet
      exact⟨_,_,rfl,rfl,zh (by show((wr.alloc _).alloc _).heap[_]?=_;exact(by simp only[zm,World.size_alloc];(repeat(split;(first|rfl|(exfalso;omega))));(try(first|(exfalso;omega)|simp_all)))),zh (by show((wr.alloc _).alloc _).heap[_]?=_;exact(by simp only[zm,World.size_alloc];(repeat(split;(first|rfl|(exfalso;omega))));(try(first|(exfalso;omega)|simp_all)))),zh (hx.out.trans xi)⟩
    case rest=>
     obtain⟨g,h,rfl,rfl,G,H,X⟩:=hcut
     obtain⟨lg,x0,x1,x2,x3,x4,x5,x6,x7⟩:=qk G.out
     obtain⟨lh,y0,y1,y2,y3,y4,y5,y6,y7⟩:=qk H.out
     clear d0 d1 d2 d3 d4 d5 d6 d7 e0 e1 e2 e3 e4 e5 e6 e7 hb hb'; go_upto_region 7 with fail; go_cut [83] (fun t wx=>t=.bool (!(za2 p.nd q.nd))∧wc=wx)
     case first=>
      obtain⟨⟨s1,k1,l1,i1,h1',o1,ks1,m1⟩,kA1,kc1⟩:=p
      obtain⟨⟨s2,k2,l2,i2,h2',o2,ks2,m2⟩,kA2,kc2⟩:=q
      dsimp only at*; go_wp2_with go_in
      all_goals go_meet
      all_goals exact⟨by unfold za2;simp_all [bne],rfl⟩
     case rest=>
      obtain⟨rfl,rfl⟩:=hcut
      obtain⟨hb,hhb⟩:∃hb,za2 p.nd q.nd=hb:=⟨_,rfl⟩
      have HHB:=zh hhb
      rw[hhb]
      clear hhb x0 x1 x2 x3 x4 x5 x7 y0 y1 y2 y3 y4 y5 y7; cases hb with
      |false=>
       go_wp2_with fail; go_ret
       refine⟨yx ?_,X.out⟩
       symm; refine decide_eq_false fun heq=>zgA HHB.out ?_; have h1:=yJ HPP.out
       rw[heq,yJ HQQ.out]at h1
       injection h1 with h1; exact h1.symm
      |true=>
       have hkl:=(JM HHB.out).1; have HKL:=zh hkl; have ko1:=Nat.le_trans HPO.out.cap HPO.out.top; have ko2:=HPO.out.cap; have ko3:=HQO.out.cap; have ko4:=HQO.out.top; clear hkl; go_wp2_with fail; go_loopw [8] (fun i wr2=>∃k:Nat,k≤p.nd.kids.length∧i=.int .i64 k∧Hid (p.nd.kids.take k=q.nd.kids.take k)∧Hid (Ext wc wr2)) (fun i _=>p.nd.kids.length - (intOf i).toNat)
       case atStart=>exact⟨0,Nat.zero_le _,rfl,zh rfl,zh (Ext.refl _)⟩
       case round=>
        obtain⟨k,hk,rfl,hkt,hx2⟩:=hrel
        have XX:=zh (X.out.trans hx2.out)
        obtain⟨mg,_,_,_,_,_,_,x6,_⟩:=qk (zb G.out hx2.out)
        obtain⟨mh,_,_,_,_,_,_,y6,_⟩:=qk (zb H.out hx2.out)
        by_cases hkl:k < p.nd.kids.length
        ·have hkl':k < q.nd.kids.length:=by have:=HKL.out;omega
         obtain⟨b1,o1,hA1,hb1,hc1⟩:=(HPO.out.ext XX.out).kids (by omega)
         obtain⟨b2,o2,hA2,hb2,hc2⟩:=(HQO.out.ext XX.out).kids (by omega)
         have c1:=hc1 k hkl; have c2:=hc2 k hkl'
         rw[hA1]at x6
         rw[hA2]at y6
         have hti:=qu hkl; have htj:=qu hkl'; generalize p.nd.kids.getD k 0=u at*
         generalize q.nd.kids.getD k 0=v at*
         have HTI:=zh hti; have HTJ:=zh htj; clear hc1 hc2 hA1 hA2 hti htj; by_cases e:u=v
         ·have e1:(u !=v)=false:=by simp[e]
          have E:=zh e; clear e; go_upto_region 12 with fail; go_quiet (fail)
          go_wp2_with fail; go_roundw
          case rel=>exact⟨k+1,by omega,by go_num,zh (by rw[HTI.out,HTJ.out,hkt.out,E.out]),zh (hx2.out.trans xi)⟩
          case measure=>simp[intOf];omega
         ·have e1:(u !=v)=true:=by simp[e]
          have E:=zh e; clear e; go_upto_region 12 with fail; go_quiet (fail)
          go_wp2_with fail; go_ret
          refine⟨yx ?_,XX.out.trans xi⟩
          symm; refine decide_eq_false fun heq=>E.out ?_; have h1:=yJ HPP.out
          rw[heq,yJ HQQ.out]at h1
          injection h1 with h1; have h2:=HTI.out
          rw[←h1,HTJ.out,←hkt.out]at h2
          exact(List.singleton_inj.1 (List.append_cancel_left h2)).symm
        ·obtain rfl:k=p.nd.kids.length:=by omega
         have HEQ:Hid (p.nd=q.nd):=zh ((JM HHB.out).2 (by
          have h1:=hkt.out; have h2:=HKL.out; rwa[List.take_of_length_le (Nat.le_refl _),List.take_of_length_le (by omega)]at h1))
         go_wp2_with fail; go_roundw
         case rel=>exact⟨j+1,by omega,by go_num,zh (by rw[zhi (yJ HPP.out),zhi (yJ HQQ.out),he.out,HEQ.out]),XX⟩
         case measure=>simp[intOf];omega
   ·obtain rfl:j=ps.length:=by omega
    go_wp2_with fail; go_ret
    refine⟨yx ?_,hx.out⟩
    symm
    rw[decide_eq_true_eq]
    have:=he.out
    have h2:=HLEN.out; rwa[List.take_of_length_le (by rw[zx];omega),List.take_of_length_le (by rw[zx];omega)]at this
 ·go_in
  go_wp2_with fail; go_ret
  exact⟨yx (by symm;exact decide_eq_false fun h=>hlen (by have:=congrArg List.length h;rwa[zx,zx]at this)),xi⟩
structure EdC (w0:World)(g o bp be:Nat) where
 V:World
 cel:V.cell? ⟨g,o,none⟩=w0.cell? ⟨g,o,none⟩
 par:V.heap[bp]?=w0.heap[bp]?
 box:V.heap[be]?=w0.heap[be]?
 sz:w0.heap.size≤V.heap.size
instance edcNonempty (w0:World)(g o bp be:Nat):Nonempty (EdC w0 g o bp be):=⟨⟨w0,rfl,rfl,rfl,Nat.le_refl _⟩⟩
theorem ze8 {w0 V:World}{g o bp be:Nat}(hg:g < w0.heap.size)(hp:bp < w0.heap.size)(he:be < w0.heap.size)(e:Ext w0 V):∃x:EdC w0 g o bp be,V=x.V:=
 ⟨⟨V,World.cell?_of_block (e.below.block g hg),e.below.block bp hp,e.below.block be he,e.size⟩,rfl⟩
theorem zhT {w0 V:World}{g o o' bp be:Nat}{u:Value}(hg:g < w0.heap.size)(hp:bp < w0.heap.size)(he:be < w0.heap.size)(e:Ext w0 V)(ho:o'≠o)(h1:bp≠g)(h2:be≠g):∃x:EdC w0 g o bp be,V.setCell ⟨g,o',none⟩ u=x.V:=by
 refine⟨⟨V.setCell ⟨g,o',none⟩ u,?_,(by simp[World.setCell,Array.getElem?_modify,Ne.symm h1];exact e.below.block bp hp),(by simp[World.setCell,Array.getElem?_modify,Ne.symm h2];exact e.below.block be he),(by simp[World.setCell];exact e.size)⟩,rfl⟩
 have h3:(V.setCell ⟨g,o',none⟩ u).cell? ⟨g,o,none⟩=V.cell? ⟨g,o,none⟩:=by
  simp[go_sem]
 rw[h3]
 exact World.cell?_of_block (e.below.block g hg)
theorem zgT {qs:List Prt}{i:Nat}{q:Prt}(h:qs[i]?=some q):qs.set i q=qs:=by
 apply List.ext_getElem?
 intro j
 rw[List.getElem?_set]
 split
 ·rename_i hij; subst hij; split
  ·exact h.symm
  ·rename_i hl; exact absurd (List.getElem?_eq_some_iff.1 h).1 hl
 ·rfl
section
variable {w:World}{base c g i:Nat}{qs:List Prt}{q1 q2:Prt}
theorem Zp.putAt (h:Zp w base (some ⟨g,0,none⟩) c (qs.set i q1))(hi:i < qs.length){r:Nat}{u:Value}(hr:r < 8)(hc:yh q2=(yh q1).set r u)(hk:q2.kA=q1.kA∧q2.kc=q1.kc∧q2.nd.kids=q1.nd.kids)(hf:VQ q2):
 Zp (w.setCell ⟨g,i*8+r,none⟩ u) base (some ⟨g,0,none⟩) c (qs.set i q2):=by
 have:=h.put (q:=q1) (q':=q2) (List.getElem?_set_self hi) hr hc hk hf
 rw[List.set_set]at this
 exact this
theorem Zp.atSet (h:Zp w base (some ⟨g,0,none⟩) c (qs.set i q1))(hi:i < qs.length):zdW w g (i*8) q1:=h.at (List.getElem?_set_self hi)
end
theorem zdI {V:World}{g k b:Nat}{u:Value}(h:b≠g):(V.setCell ⟨g,k,none⟩ u).heap[b]?=V.heap[b]?:=by
 simp[World.setCell,Array.getElem?_modify,Ne.symm h]
theorem xl {V:World}{b:Nat}{a d i:Int}(h:V.heap[b]?=some (.cells #[.int .i64 a,.int .i64 d,.int .i64 i] 50)):
 V.cell? ⟨b,0,none⟩=some (.int .i64 a)∧V.cell? ⟨b,1,none⟩=some (.int .i64 d)∧V.cell? ⟨b,2,none⟩=some (.int .i64 i)∧b < V.heap.size:=by
 have c0:=cr 0 h; have c1:=cr 1 h; have c2:=cr 2 h; simp at c0 c1 c2
 exact⟨c0,c1,c2,za h⟩
theorem xe {V:World}{b:Nat}{sym kind lo inn hi look met:Int}{kids:List Int}{pA:Option Addr}{pc:Nat}(h:V.heap[b]?=some (.cells #[.int .i64 sym,.int .i64 kind,.int .i64 lo,.int .i64 inn,.int .i64 hi,.int .i64 look,.slice pA kids.length pc,.int .u64 met] 54)):
 V.cell? ⟨b,0,none⟩=some (.int .i64 sym)∧V.cell? ⟨b,1,none⟩=some (.int .i64 kind)∧V.cell? ⟨b,2,none⟩=some (.int .i64 lo)∧V.cell? ⟨b,3,none⟩=some (.int .i64 inn)∧
 V.cell? ⟨b,4,none⟩=some (.int .i64 hi)∧V.cell? ⟨b,5,none⟩=some (.int .i64 look)∧V.cell? ⟨b,6,none⟩=some (.slice pA kids.length pc)∧V.cell? ⟨b,7,none⟩=some (.int .u64 met)∧b < V.heap.size:=by
 have c0:=cr 0 h; have c1:=cr 1 h; have c2:=cr 2 h; have c3:=cr 3 h; have c4:=cr 4 h; have c5:=cr 5 h; have c6:=cr 6 h; have c7:=cr 7 h; simp at c0 c1 c2 c3 c4 c5 c6 c7
 exact⟨c0,c1,c2,c3,c4,c5,c6,c7,za h⟩
theorem jW (x y:Int):(if x < y then y else x)=max x y:=by
 rw[Int.max_def]
 split<;>split<;>omega
theorem zf1 (x y:Int):(if y < x then y else x)=min x y:=by
 rw[Int.min_def]
 split<;>split<;>omega
theorem zeP {a d i bit sym kind lo inn hi look met T sl sn eh ek:Int}{kids:List Int}(hT:0≤T)(hsl:stF lo ⟨a,d,i,qJ bit⟩=sl)(hsn:stF inn ⟨a,d,i,qJ bit⟩=sn)(heh:enF hi ⟨a,d,i,qJ bit⟩=eh)(hek:enF look ⟨a,d,i,qJ bit⟩=ek):
 ja ⟨a,d,i,qJ bit⟩ T ⟨sym,kind,lo,inn,hi,look,kids,met⟩=
  ⟨sym,kind,if kind=1 then 0 else sl,if inn=lo then(if kind=1 then 0 else sl)else min (max (if kind=1 then 0 else sl) sn) (if kind=1 then max (max 0 T) (hi - d+i)else max (max sl T) eh),if kind=1 then max (max 0 T) (hi - d+i)else max (max sl T) eh,
    if kind=1 then 1 else if Jr (jb ⟨sym,kind,lo,inn,hi,look,kids,met⟩) look ⟨a,d,i,qJ bit⟩ then max (max (sl+1) ek) (a+1)else max (sl+1) ek,kids,if Jr (jb ⟨sym,kind,lo,inn,hi,look,kids,met⟩) look ⟨a,d,i,qJ bit⟩ then bits .or .u64 met bit else met⟩:=by
 by_cases hk:kind=1
 ·subst hk; simp only[ja,loE,hiE,ZB,JO,zdQ,qJ,if_true]at*
  rw[hsn]
  congr 1
  ·split
   ·rfl
   ·congr 1
    omega
  ·omega
 ·simp only[ja,loE,hiE,ZB,JO,zdQ,qJ,if_neg hk]at*
  rw[hsl,hsn,heh,hek]
  congr 1
  ·split
   ·rfl
   ·congr 1
    omega
  ·omega
theorem ziP {x:Int}(h:ZY x):j7 x:=h
structure EdQ (w:World)(g c2 bp be j:Nat)(os:List Prt)(qA:Option Addr)(qc:Nat)(pA:Option Addr)(pc:Nat)(p:Nd)(a d i:Int)(n:Nd)(V:World):Prop where
 own:Zp V w.heap.size (some ⟨g,0,none⟩) c2 (os.set j ⟨n,qA,qc⟩)
 par:V.heap[bp]?=some (.cells #[.int .i64 p.sym,.int .i64 p.kind,.int .i64 p.lo,.int .i64 p.inn,.int .i64 p.hi,.int .i64 p.look,.slice pA p.kids.length pc,.int .u64 p.met] 54)
 box:V.heap[be]?=some (.cells #[.int .i64 a,.int .i64 d,.int .i64 i] 50)
 ext:Ext w V
 num:bp≠g∧be≠g∧j < os.length∧w.heap.size≤g
section
variable {w:World}{g c2 bp be j:Nat}{os:List Prt}{qA:Option Addr}{qc:Nat}{pA:Option Addr}{pc:Nat}{p:Nd}{a d i:Int}{n:Nd}{V:World}
theorem EdQ.to (h:EdQ w g c2 bp be j os qA qc pA pc p a d i n V){V':World}(e:Ext V V'):EdQ w g c2 bp be j os qA qc pA pc p a d i n V':=
 ⟨h.own.ext e,zb h.par e,zb h.box e,h.ext.trans e,h.num⟩
theorem EdQ.put (h:EdQ w g c2 bp be j os qA qc pA pc p a d i n V){n':Nd}{r:Nat}{u:Value}{V':World}(hV:V.setCell ⟨g,j*8+r,none⟩ u=V')(hr:r < 8)(hc:yh ⟨n',qA,qc⟩=(yh ⟨n,qA,qc⟩).set r u)(hk:n'.kids=n.kids)(hf:VQ ⟨n',qA,qc⟩):EdQ w g c2 bp be j os qA qc pA pc p a d i n' V':=by
 subst hV
 exact⟨h.own.putAt h.num.2.2.1 hr hc ⟨rfl,rfl,hk⟩ hf,by rw[zdI h.num.1];exact h.par,by rw[zdI h.num.2.1];exact h.box,h.ext.setCell h.num.2.2.2 _,h.num⟩
theorem EdQ.at (h:EdQ w g c2 bp be j os qA qc pA pc p a d i n V):zdW V g (j*8) ⟨n,qA,qc⟩:=h.own.atSet h.num.2.2.1
end
theorem jt {sym kind lo inn hi look met lo' inn' hi' look' met':Int}{kids:List Int}{qA:Option Addr}{qc:Nat}(f:VQ ⟨⟨sym,kind,lo,inn,hi,look,kids,met⟩,qA,qc⟩)(h1:I64 lo')(h2:I64 inn')(h3:I64 hi')(h4:I64 look')(h5:0≤met'∧met'≤18446744073709551615):VQ ⟨⟨sym,kind,lo',inn',hi',look',kids,met'⟩,qA,qc⟩:=
 ⟨f.sym,f.kind,h1,h2,h3,h4,h5,f.ks⟩
theorem vh {x:Int}(h:-8589934593≤x∧x≤8589934592):I64 x:=by
 unfold I64; omega
theorem zha {sym kind lo inn hi a d i T sl sn eh ek L0 LE H1 K1 K2 H2 K3 M1 I1 M0 met mb:Int}{kids:List Int}{P:Prop}[Decidable P]{mt:Bool}(hmt:decide P=mt)(hL0:(if kind=1 then 0 else sl)=L0)(hLE:max L0 T=LE)(hH1:max LE eh=H1)(hK1:max (L0+1) ek=K1)
 (hK2:(if mt=true then max K1 (a+1)else K1)=K2) (hH2:(if kind=1 then max LE (hi - d+i)else H1)=H2) (hK3:(if kind=1 then 1 else K2)=K3) (hM1:max L0 sn=M1) (hI1:min M1 H2=I1) (hM0:(if mt=true then mb else met)=M0):
 (⟨sym,kind,if kind=1 then 0 else sl,if inn=lo then(if kind=1 then 0 else sl)else min (max (if kind=1 then 0 else sl) sn) (if kind=1 then max (max 0 T) (hi - d+i)else max (max sl T) eh),if kind=1 then max (max 0 T) (hi - d+i)else max (max sl T) eh,
   if kind=1 then 1 else if P then max (max (sl+1) ek) (a+1)else max (sl+1) ek,kids,if P then mb else met⟩:Nd)=⟨sym,kind,L0,if inn=lo then L0 else I1,H2,K3,kids,M0⟩:=by
 subst hL0 hLE hH1 hK1 hK2 hH2 hK3 hM1 hI1 hM0 hmt; by_cases hk:kind=1<;>by_cases hP:P<;>simp[hk,hP]
set_option maxRecDepth 100000 in
set_option maxHeartbeats 16000000 in
theorem zdA (A:Option Addr)(c:Nat)(ps:List Prt)(a d i bit:Int)(w:World)(h:PS w A c ps)(T:xR (nds ps))(ha:j7 a)(hd:j7 d)(hi:j7 i)(ha0:0≤a)(hd0:0≤d)(hi0:0≤i)(hb:0≤bit∧bit≤18446744073709551615)(hn:∀p∈ps,zjY p.nd):
 Calls Tryz.prog 11 #[.slice A ps.length c,.agg #[.int .i64 a,.int .i64 d,.int .i64 i],.int .u64 bit] w fun e w'=>∃out,qH ⟨a,d,i,qJ bit⟩ (nds ps) out∧YU w out e w':=by
 have hl:=h.few.len; have hp:=T.pos
 rw[zx]at hp
 have S:=zh h; have HT:=zh T; have HN:=zh hn; have HHA:=zh ha; have HHD:=zh hd; have HHI:=zh hi; have HBT:=zh hb; have z1:decide (a < 0)=false:=decide_eq_false (by omega); have z2:decide (d < 0)=false:=decide_eq_false (by omega); have z3:decide (i < 0)=false:=decide_eq_false (by omega); have HA0:=zh ha0; have HD0:=zh hd0; have HI0:=zh hi0; clear h T hn ha hd hi hb ha0 hd0 hi0
 obtain⟨be,hbe⟩:∃be,w.heap.size=be:=⟨_,rfl⟩
 obtain⟨W1,hW1⟩:∃W1,w.alloc (.cells #[.int .i64 a,.int .i64 d,.int .i64 i] 50)=W1:=⟨_,rfl⟩
 have X1:Hid (Ext w W1):=zh (by rw[←hW1];exact xi); have BE:Hid (W1.heap[be]?=some (.cells #[.int .i64 a,.int .i64 d,.int .i64 i] 50)):=zh (by rw[←hW1,←hbe];exact heap_alloc_new _ _); have HBEW:Hid (be < W1.heap.size):=zh (za BE.out); go_in
 go_upto_region 1 with fail; clear hW1 hbe; go_wp2_with fail
 refine(J4 (S.out.ext X1.out) HT.out).mono ?_
 rintro e w1 ⟨rfl,hx1⟩; have HX1:=zh hx1
 obtain⟨e0,e1,e2,el⟩:=xl (zb BE.out hx1)
 clear hx1; go_wp2_with fail
 refine(zdm (S.out.ext (X1.out.trans HX1.out))).mono ?_
 rintro e w2 ⟨A2,c2,qs,rfl,hnq,ho,hx⟩; have hql:qs.length=ps.length:=by rw[←zx,hnq,zx]
 obtain⟨g,rfl,hg1,hg2⟩:=QB ho.row (by omega)
 have HBG:Hid (w.heap.size≤g):=zh (Nat.le_trans (X1.out.trans HX1.out).size hg1); have HEG:Hid (be≠g):=zh (by have:=HBEW.out;have:=HX1.out.size;omega); have HO2:=zh (ho.base (X1.out.trans HX1.out).size); have HX2:=zh (HX1.out.trans hx); have HQL:=zh hql; have HNQ:=zh hnq; have hcp:=ho.cells.2.1; have BE2:=zh (zb (zb BE.out HX1.out) hx)
 rw[hql]at hcp ⊢
 clear hql hnq ho hx hg1 hg2 e0 e1 e2 el; have hmn:wrap64 ((ps.length:Int) - 1)=(ps.length:Int) - 1:=IntWalk.wrap64_in _ (by omega); go_wp2_with fail; clear hmn
 go_loopw [8] (fun v wi=>∃(k:Nat) (os:List Prt),k≤ps.length∧os.length=ps.length∧v=.int .i64 ((k:Int) - 1)∧Hid (Zp wi w.heap.size (some ⟨g,0,none⟩) c2 os)∧Hid (Zb ⟨a,d,i,qJ bit⟩ (nds ps) k (nds os))∧Hid (∀q∈os,-8589934592≤q.nd.hi∧q.nd.hi≤8589934592)∧
  Hid (wi.heap[be]?=some (.cells #[.int .i64 a,.int .i64 d,.int .i64 i] 50))∧Hid (Ext w wi)) (fun v _=>(intOf v+1).toNat)
 case atStart=>
  refine⟨ps.length,qs,Nat.le_refl _,HQL.out,rfl,HO2,zh (by rw[HNQ.out,←zx ps];exact Zb.first _ _),zh (fun q hq=>?_),BE2,zh (X1.out.trans HX2.out)⟩
  have hm:q.nd∈nds ps:=by rw[←HNQ.out];exact List.mem_map_of_mem hq
  obtain⟨p,hp,he⟩:=List.mem_map.1 hm
  have:=(HN.out p hp).hi
  rw[he]at this
  unfold ZY at this; omega
 case round=>
  obtain⟨k,os,hk,hol,rfl,ho,hE,hHi,hBE,hx⟩:=hrel
  clear HO2 HX2 BE2 HX1 HNQ HQL
  rcases(show k=0∨0 < k by omega)with rfl|k0
  ·have q0:decide ((0:Int)≤((0:Nat):Int) - 1)=false:=by decide
   have q1:decide ((0:Int)≤-1)=false:=by decide
   have OLN:=zh hol; go_wp2_with fail; go_ret
   exact⟨_,hE.out.last,some ⟨g,0,none⟩,c2,os,by rw[OLN.out];rfl,rfl,ho.out,hx.out⟩
  ·obtain⟨j,rfl⟩:∃j,k=j+1:=⟨k - 1,by omega⟩
   rw[show((j+1:Nat):Int) - 1=(j:Int)by omega]
   have hjp:j < ps.length:=by omega
   obtain⟨p,hp⟩:∃p,ps[j]?=some p:=⟨_,List.getElem?_eq_getElem hjp⟩
   obtain⟨q,hq,hqn⟩:=ZE (hE.out.ahead j p.nd (yJ hp) (by omega))
   have hnr:=HN.out p (List.mem_of_getElem? hp); have hsy:=S.out.oks p (List.mem_of_getElem? hp); have hT0:0≤xY (nds os) p.nd.kids∧xY (nds os) p.nd.kids≤8589934592:=⟨YF _ _,VX _ (by omega) fun x hx=>by
    unfold Js; cases hc:(nds os)[x.toNat]? with
    |none=>show(0:Int)≤_;omega
    |some u=>
     obtain⟨u',hu,rfl⟩:=ZE hc
     exact(hHi.out u' (List.mem_of_getElem? hu)).2⟩
   have hbd:=zdK (om:=qJ bit) HHA.out HHD.out HHI.out hnr hT0; have hsx:=zbC (om:=qJ bit) (ziP hnr.lo) HHA.out HHD.out HHI.out; have hsn:=zbC (om:=qJ bit) (ziP hnr.inn) HHA.out HHD.out HHI.out; have heh:=zhz (om:=qJ bit) (ziP hnr.hi) HHA.out HHD.out HHI.out; have hel:=zhz (om:=qJ bit) (ziP hnr.look) HHA.out HHD.out HHI.out; have hOL:j7 (jb p.nd):=by
    unfold jb; split
    ·unfold j7;omega
    ·exact ziP hnr.lo
   have hmt:=zfM (om:=qJ bit) (f:=jb p.nd) hOL (ziP hnr.look) HHA.out HHD.out HHI.out; have CO:=zh (fun V=>zgB p V); have CM:=zh (fun V=>zda (jb p.nd) p.nd.look a d i V); have CS:=zh (fun V=>zb7 p.nd.lo a d i V); have CN:=zh (fun V=>zb7 p.nd.inn a d i V); have CH:=zh (fun V=>zhE p.nd.hi a d i V); have CK:=zh (fun V=>zhE p.nd.look a d i V)
   rw[hmt]at CM
   rw[hsx]at CS
   rw[hsn]at CN
   rw[heh]at CH
   rw[hel]at CK
   have HKB:=zh (HT.out.kid_behind (yJ hp))
   obtain⟨TM,hTM⟩:∃TM,xY (nds os) p.nd.kids=TM:=⟨_,rfl⟩
   obtain⟨sl,hsl⟩:∃sl,stF p.nd.lo ⟨a,d,i,qJ bit⟩=sl:=⟨_,rfl⟩
   obtain⟨sn,hsn'⟩:∃sn,stF p.nd.inn ⟨a,d,i,qJ bit⟩=sn:=⟨_,rfl⟩
   obtain⟨eh,heh'⟩:∃eh,enF p.nd.hi ⟨a,d,i,qJ bit⟩=eh:=⟨_,rfl⟩
   obtain⟨ek,hek'⟩:∃ek,enF p.nd.look ⟨a,d,i,qJ bit⟩=ek:=⟨_,rfl⟩
   have hSB:(-4294967296≤sl∧sl≤4294967296)∧(-4294967296≤sn∧sn≤4294967296)∧(-4294967296≤eh∧eh≤4294967296)∧(-4294967296≤ek∧ek≤4294967296):=by
    have h1:=hnr.lo; have h2:=hnr.inn; have h3:=hnr.hi; have h4:=hnr.look; have g1:=HHA.out; have g2:=HHD.out; have g3:=HHI.out; unfold ZY at h1 h2 h3 h4; unfold j7 at g1 g2 g3
    rw[←hsl,←hsn',←heh',←hek']
    unfold stF enF; dsimp only
    refine⟨?_,?_,?_,?_⟩<;>(split<;>(try split)<;>omega)
   have hN4:=hnr; have hsl0:0≤sl:=by
    have h0:=(HT.out.bare j p.nd (yJ hp)).1.2.2.1; have g1:=HA0.out; have g2:=HD0.out; have g3:=HI0.out
    rw[←hsl]
    unfold stF; dsimp only; split
    ·omega
    ·split<;>omega
   have hed:=zeP (a:=a) (d:=d) (i:=i) (bit:=bit) (sym:=p.nd.sym) (kind:=p.nd.kind) (lo:=p.nd.lo) (inn:=p.nd.inn) (hi:=p.nd.hi) (look:=p.nd.look) (met:=p.nd.met) (kids:=p.nd.kids) hT0.1 hsl hsn' heh' hek'
   rw[hsl]at CS
   rw[hsn']at CN
   rw[heh']at CH
   rw[hek']at CK
   rw[hTM]at hT0 hbd hed
   have HED0:=zh (hE.out.step HT.out (yJ hp))
   rw[hTM]at HED0
   obtain⟨⟨sym,kind,lo,inn,hi,look,kids,met⟩,pA,pc⟩:=p
   obtain⟨qn,qA,qc⟩:=q
   dsimp only at hqn; subst hqn; dsimp only at hed CO CM CS CN CH CK HED0 HKB hTM hT0 hN4
   rw[hed]at HED0
   have HTM:=zh hTM; have HQ:=zh hq; have O0:Hid (Zp wr w.heap.size (some ⟨g,0,none⟩) c2 (os.set j ⟨⟨sym,kind,lo,inn,hi,look,kids,met⟩,qA,qc⟩)):=zh (by rw[zgT hq];exact ho.out); have FQ:=zh (ho.out.fine _ (List.mem_of_getElem? hq)); have HHI2:=zh hHi.out; have HJO:Hid (j < os.length):=zh (by omega); have BW:=zh hBE.out; have HX:=zh hx.out
   obtain⟨b,off,rfl,hb,hcell⟩:=(S.out.ext hx.out).parts (by omega)
   obtain⟨d0,d1,d2,d3,d4,d5,d6,d7⟩:=hcell j _ hp
   dsimp only at d0 d1 d2 d3 d4 d5 d6 d7; have HKI:=zh hsy.kids; have PKC:=zh (Nat.le_trans hsy.cap hsy.top); have HSL0:=zh hsl0; clear hsl0 hcell hp hq hnr hsy hbd hed hOL hsx hsn heh hel hmt hsl hsn' heh' hek' ho hE hHi hBE hx hTM
   obtain⟨n1,n2,n3,n4⟩:=hN4
   unfold ZY at n1 n2 n3 n4; have g1:=HHA.out; have g2:=HHD.out; have g3:=HHI.out; unfold j7 at g1 g2 g3; have HNB:=zh (show((-1073741824≤lo∧lo≤1073741824)∧(-1073741824≤inn∧inn≤1073741824)∧(-1073741824≤hi∧hi≤1073741824)∧(-1073741824≤look∧look≤1073741824))∧((-1073741824≤a∧a≤1073741824)∧(-1073741824≤d∧d≤1073741824)∧(-1073741824≤i∧i≤1073741824))from⟨⟨n1,n2,n3,n4⟩,g1,g2,g3⟩); have HSB:=zh hSB; have HT0':=zh hT0; clear n1 n2 n3 n4 g1 g2 g3 hSB hT0
   obtain⟨mt,hmt⟩:∃mt,decide (Jr (jb ⟨sym,kind,lo,inn,hi,look,kids,met⟩) look ⟨a,d,i,qJ bit⟩)=mt:=⟨_,rfl⟩
   rw[hmt]at CM
   have HMT:=zh hmt; clear hmt; have q0:decide ((0:Int)≤(j:Int))=true:=decide_eq_true (by omega); have hgj:(j:Int) < (ps.length:Int):=by omega
   have HGW:Hid (g < wr.heap.size):=zh (O0.out.atSet HJO.out).lt
   obtain⟨bp,hbp⟩:∃bp,wr.heap.size=bp:=⟨_,rfl⟩
   obtain⟨W5,hW5⟩:∃W5,wr.alloc (.cells #[.int .i64 sym,.int .i64 kind,.int .i64 lo,.int .i64 inn,.int .i64 hi,.int .i64 look,.slice pA kids.length pc,.int .u64 met] 54)=W5:=⟨_,rfl⟩
   have X5:Ext wr W5:=by rw[←hW5];exact xi
   have B5:Hid (W5.heap[bp]?=some (.cells #[.int .i64 sym,.int .i64 kind,.int .i64 lo,.int .i64 inn,.int .i64 hi,.int .i64 look,.slice pA kids.length pc,.int .u64 met] 54)):=zh (by rw[←hW5,←hbp];exact heap_alloc_new _ _); have HPG:Hid (bp≠g):=zh (by have:=HGW.out;omega); have O5:=zh (O0.out.ext X5); have E5:=zh (zb BW.out X5); have Z5:=zh (HX.out.trans X5); go_upto_region 8 with fail; clear hW5 hbp X5 d0 d1 d2 d3 d4 d5 d6 d7 hb O0 BW HX
   obtain⟨p0,p1,p2,p3,p4,p5,p6,p7,pl⟩:=xe B5.out
   obtain⟨e0,e1,e2,el⟩:=xl E5.out
   refine yj (4) (zj [0,2] (.step 1 (.step 3 .fin))) (by kernel_rfl) (by kernel_rfl) ?_; refine bts ?_; refine yy fun next hn=>?_;simp only[pick,yp]; go_wp2_with fail
   refine(CO.out _).mono ?_
   rintro e V1 ⟨rfl,hv1⟩; have Y1:Hid (Ext W5 V1):=zh (((Ext.refl W5).drew).trans hv1); clear hv1; go_wp2_with fail; refine zk (fun _=>yZ Y1.out) (hn _ _ ?_); clear hn next; refine yy fun next hn=>?_;simp only[pick,yp]; go_wp2_with fail
   refine(CM.out _).mono ?_
   rintro e W8 ⟨rfl,hv2⟩; have YX:Ext W5 W8:=Y1.out.trans hv2; clear hv2; go_wp2_with fail; refine zk (fun _=>yZ YX) (hn _ _ ?_); clear hn next Y1; (refine xw ?_)
   clear p0 p1 p2 p3 p4 p5 p6 p7 pl e0 e1 e2 el; have B8:=zh (zb B5.out YX); have E8:=zh (zb E5.out YX); have O8:=zh (O5.out.ext YX); have Z8:=zh (Z5.out.trans YX); clear B5 E5 O5 Z5 YX; have S8:Hid (EdQ w g c2 bp be j os qA qc pA pc ⟨sym,kind,lo,inn,hi,look,kids,met⟩ a d i ⟨sym,kind,lo,inn,hi,look,kids,met⟩ W8):=zh ⟨O8.out,B8.out,E8.out,Z8.out,HPG.out,HEG.out,HJO.out,HBG.out⟩; clear O8 B8 E8 Z8
   obtain⟨M0,hM0⟩:∃M0,(if mt=true then bits .or .u64 met bit else met)=M0:=⟨_,rfl⟩
   have HMB:Hid (0≤M0∧M0≤18446744073709551615):=zh (by rw[←hM0];split;exact zfW _ _;exact FQ.out.met); have HM0:=zh hM0; clear hM0; go_upto_if 46 with fail
   go_cut [] (fun wx=>Hid (EdQ w g c2 bp be j os qA qc pA pc ⟨sym,kind,lo,inn,hi,look,kids,met⟩ a d i ⟨sym,kind,lo,inn,hi,look,kids,M0⟩ wx))
   case first=>
    cases mt with
    |false=>
     have e:met=M0:=by simpa using HM0.out
     go_wp2_with fail; go_meet
     rw[←e]
     exact S8
    |true=>
     have e:bits .or .u64 met bit=M0:=by simpa using HM0.out
     have hat:=S8.out.at; have cc7:=hat.met; have ff:=fun k=>hat.frozen k; have lg:=hat.lt; dsimp only at cc7
     obtain⟨p0,p1,p2,p3,p4,p5,p6,p7,pl⟩:=xe S8.out.par
     obtain⟨e0,e1,e2,el⟩:=xl S8.out.box
     clear hat
     obtain⟨W9,hW9⟩:∃V,W8.setCell ⟨g,j*8+7,none⟩ (.int .u64 M0)=V:=⟨_,rfl⟩
     have S9:=zh (S8.out.put (n':=⟨sym,kind,lo,inn,hi,look,kids,M0⟩) hW9 (by decide) rfl rfl (jt FQ.out FQ.out.lo FQ.out.inn FQ.out.hi FQ.out.look HMB.out)); go_wp2_with fail; go_meet
     exact S9
   case rest=>
   have S9:=hcut; clear hcut S8; have hat:=S9.out.at; have ff:=fun k=>hat.frozen k; have lg:=hat.lt
   obtain⟨p0,p1,p2,p3,p4,p5,p6,p7,pl⟩:=xe S9.out.par
   obtain⟨e0,e1,e2,el⟩:=xl S9.out.box
   clear hat; go_wp2_with fail
   refine(CS.out _).mono ?_
   rintro e W10 ⟨rfl,YX⟩; clear ff lg p0 p1 p2 p3 p4 p5 p6 p7 pl e0 e1 e2 el; have S10:=zh (S9.out.to YX); clear S9 YX
   obtain⟨L0,hL0⟩:∃L0,(if kind=1 then 0 else sl)=L0:=⟨_,rfl⟩
   have HLN:Hid (0≤L0∧L0≤4294967296):=zh (by have:=HSL0.out;have:=HSB.out;rw[←hL0];split<;>omega); have HL0:=zh hL0
   obtain⟨kb,hkb⟩:∃kb,(kind==1)=kb:=⟨_,rfl⟩
   have HKK:Hid (kb=true↔kind=1):=zh (by rw[←hkb];simp); have hat:=S10.out.at; have ff:=fun k=>hat.frozen k; have lg:=hat.lt
   obtain⟨p0,p1,p2,p3,p4,p5,p6,p7,pl⟩:=xe S10.out.par
   obtain⟨e0,e1,e2,el⟩:=xl S10.out.box
   clear hat; go_upto_if 64 with fail
   go_cut [10] (fun lv wx=>lv=.int .i64 L0∧Hid (EdQ w g c2 bp be j os qA qc pA pc ⟨sym,kind,lo,inn,hi,look,kids,met⟩ a d i ⟨sym,kind,lo,inn,hi,look,kids,M0⟩ wx))
   case first=>
    cases kb with
    |false=>
     have hne:¬kind=1:=fun h=>by simpa using HKK.out.2 h
     rw[if_neg hne]at hL0
     subst hL0; go_wp2_with fail; go_meet
     exact⟨rfl,S10⟩
    |true=>
     rw[if_pos (HKK.out.1 rfl)]at hL0
     subst hL0; go_wp2_with fail; go_meet
     exact⟨rfl,S10⟩
   case rest=>
   obtain⟨rfl,S11⟩:=hcut
   clear S10 hL0 ff lg p0 p1 p2 p3 p4 p5 p6 p7 pl e0 e1 e2 el; have hat:=S11.out.at; have cc2:=hat.lo; have ff:=fun k=>hat.frozen k; have lg:=hat.lt; dsimp only at cc2
   obtain⟨p0,p1,p2,p3,p4,p5,p6,p7,pl⟩:=xe S11.out.par
   obtain⟨e0,e1,e2,el⟩:=xl S11.out.box
   clear hat
   obtain⟨W13,hW13⟩:∃V,wc.setCell ⟨g,j*8+2,none⟩ (.int .i64 L0)=V:=⟨_,rfl⟩
   have S13:=zh (S11.out.put (n':=⟨sym,kind,L0,inn,hi,look,kids,M0⟩) hW13 (by decide) rfl rfl (jt FQ.out (vh (by have:=HLN.out;omega)) FQ.out.inn FQ.out.hi FQ.out.look HMB.out)); go_upto_region 14 with fail; clear hW13 S11; clear cc2 ff lg p0 p1 p2 p3 p4 p5 p6 p7 pl e0 e1 e2 el
   obtain⟨p0,p1,p2,p3,p4,p5,p6,p7,pl⟩:=xe S13.out.par
   go_wp2_with fail; clear p0 p1 p2 p3 p4 p5 p6 p7 pl; go_loopw [10,11] (fun v u wi=>∃m:Nat,m≤kids.length∧u=.int .i64 m∧v=.int .i64 (max L0 (xY (nds os) (kids.take m)))∧Hid (Ext W13 wi)) (fun _ u _=>kids.length - (intOf u).toNat)
   case atStart=>
    refine⟨0,by omega,rfl,?_,zh xi⟩
    congr 1
    show(L0:Int)=max L0 0
    have:=HLN.out
    omega
   case round=>
    obtain⟨m,hm,rfl,rfl,hx⟩:=hrel
    have YX:=hx.out; have S14:=S13.out.to YX
    obtain⟨p0,p1,p2,p3,p4,p5,p6,p7,pl⟩:=xe S14.par
    by_cases hlt:m < kids.length
    ·obtain⟨x,hxm⟩:∃x,kids[m]?=some x:=⟨_,List.getElem?_eq_getElem hlt⟩
     obtain⟨ci,rfl,hc1,hc2⟩:=HKB.out x (List.mem_of_getElem? hxm)
     rw[zx]at hc2
     obtain⟨r,hr⟩:∃r,os[ci]?=some r:=⟨_,List.getElem?_eq_getElem (by omega)⟩
     have hat:=S14.own.at (i:=ci) (q:=r) (by rw[List.getElem?_set_ne (by omega)];exact hr); have ch:=hat.hi; have lg:=hat.lt
     obtain⟨bk,ok,hpA,hbk,hck⟩:=(HKI.out.ext S14.ext) (by show 0 < kids.length;omega)
     have dk:=hck m hlt
     rw[List.getD_eq_getElem?_getD,hxm]at dk
     change wr.cell? ⟨bk,ok+m,none⟩=some (.int .i64 (ci:Int))at dk; change pA=_ at hpA
     rw[hpA]at p6
     have hms:=zcU (l:=nds os) hxm; have hha:Js (nds os) (ci:Int)=r.nd.hi:=by unfold Js;rw[Int.toNat_natCast,yJ hr];rfl
     obtain⟨L,hL⟩:∃L,max L0 (xY (nds os) (kids.take m))=L:=⟨_,rfl⟩
     obtain⟨L2,hL2⟩:∃L2,max L0 (xY (nds os) (kids.take (m+1)))=L2:=⟨_,rfl⟩
     have hmx:(if L < r.nd.hi then r.nd.hi else L)=L2:=by rw[jW,←hL2,hms,hha,←hL];omega
     rw[hL]
     have HL2:=zh hL2; have HX:=zh hx.out; have pkc:=PKC.out; have i0:(ci:Int) < (ps.length:Int):=by omega
     have i1:(0:Int)≤(ci:Int):=by omega
     clear hat S14 hck hxm hr hms hha hL hL2 hx YX hc1 p0 p1 p2 p3 p4 p5 p7; go_wp2_with fail; go_roundw
     case rel=>exact⟨m+1,by omega,by go_num,by rw[HL2.out],zh (HX.out.trans xi)⟩
     case measure=>simp[intOf];omega
    ·obtain rfl:m=kids.length:=by omega
     rw[List.take_length,HTM.out]
     clear S14 hlt hm; have YX:=hx.out; clear hx; have S17:=zh (S13.out.to YX); clear S13 YX
     obtain⟨LE,hLE⟩:∃LE,max L0 TM=LE:=⟨_,rfl⟩
     obtain⟨H1,hH1⟩:∃H1,max LE eh=H1:=⟨_,rfl⟩
     obtain⟨K1,hK1⟩:∃K1,max (L0+1) ek=K1:=⟨_,rfl⟩
     obtain⟨K2,hK2⟩:∃K2,(if mt=true then max K1 (a+1)else K1)=K2:=⟨_,rfl⟩
     obtain⟨H2,hH2⟩:∃H2,(if kind=1 then max LE (hi - d+i)else H1)=H2:=⟨_,rfl⟩
     obtain⟨K3,hK3⟩:∃K3,(if kind=1 then 1 else K2)=K3:=⟨_,rfl⟩
     obtain⟨M1,hM1⟩:∃M1,max L0 sn=M1:=⟨_,rfl⟩
     obtain⟨I1,hI1⟩:∃I1,min M1 H2=I1:=⟨_,rfl⟩
     have HFIT:=zh (zha (sym:=sym) (kids:=kids) (inn:=inn) (lo:=lo) HMT.out HL0.out hLE hH1 hK1 hK2 hH2 hK3 hM1 hI1 HM0.out)
     rw[hLE]
     have m1:(if LE < eh then eh else LE)=H1:=by rw[jW];exact hH1
     have m2:(if L0+1 < ek then ek else L0+1)=K1:=by rw[jW];exact hK1
     have M3:Hid ((if K1 < a+1 then a+1 else K1)=max K1 (a+1)):=zh (jW _ _)
     have M4:Hid ((if LE < hi - d+i then hi - d+i else LE)=max LE (hi - d+i)):=zh (jW _ _)
     have M5:Hid ((if L0 < sn then sn else L0)=M1):=zh (by rw[jW];exact hM1)
     have M6:Hid ((if H2 < M1 then H2 else M1)=I1):=zh (by rw[zf1];exact hI1)
     have HNM:Hid (((-8589934593≤H1∧H1≤8589934592)∧(-8589934593≤K1∧K1≤8589934592))∧((-8589934592≤H2∧H2≤8589934592)∧(-8589934593≤K2∧K2≤8589934592)∧(-8589934593≤K3∧K3≤8589934592)∧(-8589934593≤I1∧I1≤8589934592))):=zh (by
      have h1:=HNB.out; have h2:=HSB.out; have h3:=HT0'.out; have h4:=HLN.out; have h5:=HHA.out; have h6:=HHD.out; have h7:=HHI.out; unfold j7 at h5 h6 h7
      rw[←hI1,←hM1,←hK3,←hH2,←hK2]
      clear HFIT m1 m2 M3 M4 M5 M6
      refine⟨by omega,?_,?_,?_,?_⟩<;>(repeat' split)<;>omega)
     have HLO:Hid (I64 L0):=zh (vh (by have:=HLN.out;omega)); have w1:IntKind.i64.wrap (L0+1)=L0+1:=IntWalk.i64_in _ (by have:=HLN.out;omega); have W2:Hid (IntKind.i64.wrap (a+1)=a+1):=zh (IntWalk.i64_in _ (by have:=HHA.out;unfold j7 at this;omega)); have W3:Hid (wrap64 (hi - d)=hi - d∧wrap64 (hi - d+i)=hi - d+i):=zh (by
      have h1:=HNB.out; have h6:=HHD.out; have h7:=HHI.out; unfold j7 at h6 h7
      exact⟨IntWalk.wrap64_in _ (by omega),IntWalk.wrap64_in _ (by omega)⟩)
     have HK2:=zh hK2; have HH2:=zh hH2; have HK3:=zh hK3; clear hLE hH1 hK1 hK2 hH2 hK3 hM1 hI1; have hat:=S17.out.at; have HCL:=zh hat.lo; have HGS:=zh hat.lt; clear hat; have KX:Hid (∀x:EdC wr g (j*8+2) bp be,x.V.cell? ⟨g,j*8+2,none⟩=some (.int .i64 L0)∧x.V.cell? ⟨bp,4,none⟩=some (.int .i64 hi)∧x.V.cell? ⟨bp,5,none⟩=some (.int .i64 look)∧x.V.cell? ⟨be,0,none⟩=some (.int .i64 a)∧x.V.cell? ⟨be,1,none⟩=some (.int .i64 d)∧x.V.cell? ⟨be,2,none⟩=some (.int .i64 i)∧bp < x.V.heap.size∧be < x.V.heap.size∧g < x.V.heap.size):=zh (fun x=>by
      obtain⟨_,_,_,_,p4,p5,_,_,pl⟩:=xe (x.par.trans S17.out.par)
      obtain⟨e0,e1,e2,el⟩:=xl (x.box.trans S17.out.box)
      exact⟨x.cel.trans HCL.out,p4,p5,e0,e1,e2,pl,el,Nat.lt_of_lt_of_le HGS.out x.sz⟩)
     have kx0:=fun x=>(KX.out x).1; have kx1:=fun x=>(KX.out x).2.1; have kx2:=fun x=>(KX.out x).2.2.1; have kx3:=fun x=>(KX.out x).2.2.2.1; have kx4:=fun x=>(KX.out x).2.2.2.2.1; have kx5:=fun x=>(KX.out x).2.2.2.2.2.1; have kx6:=fun x=>(KX.out x).2.2.2.2.2.2.1; have kx7:=fun x=>(KX.out x).2.2.2.2.2.2.2.1; have kx8:=fun x=>(KX.out x).2.2.2.2.2.2.2.2; have hbl:=za S17.out.par; have hel:=za S17.out.box; go_upto_region 18 with fail; clear p0 p1 p2 p3 p4 p5 p6 p7 pl; refine xz (T:=EdC wr g (j*8+2) bp be) EdC.V (26) (zj [0,1,2,3,4,5,6,7,10,11,12,13,14,15,16,17,18] (.step 8 (zj [9] (.step 19 (zj [20,21,22] (.step 23 (zj [24,25] (.step 26 .fin)))))))) (by kernel_rfl) (by kernel_rfl) ⟨⟨wr.drew,rfl,rfl,rfl,Nat.le_refl _⟩,rfl⟩ ?_; refine bts ?_; clear kx0 kx1 kx2 kx3 kx4 kx5 kx6 kx7 kx8; refine yy fun next hn=>?_;simp only[pick,yp]; go_wp2_with fail
     refine(CH.out _).mono ?_
     rintro e V1 ⟨rfl,hv1⟩; have Y1:Hid (Ext wr V1):=zh (((Ext.refl wr).drew).trans hv1); clear hv1; go_wp2_with fail; refine zk (fun _=>ze8 HGS.out hbl hel Y1.out) (hn _ _ ?_); clear hn next; refine bts ?_; refine yy fun next hn=>?_;simp only[pick,yp]; go_wp2_with fail
     refine(CK.out _).mono ?_
     rintro e V2 ⟨rfl,hv2⟩; have Y2:Hid (Ext wr V2):=zh (Y1.out.trans hv2); clear hv2 Y1; go_wp2_with fail; refine zk (fun _=>ze8 HGS.out hbl hel Y2.out) (hn _ _ ?_); clear hn next; refine bts ?_; have YX:=Y2.out; have SV:=zh (S17.out.to YX); have HPG2:=SV.out.num.1; have HEG2:=SV.out.num.2.1; have hat:=SV.out.at; have cc4:=hat.hi; have ff:=fun k=>hat.frozen k; have lg:=hat.lt; dsimp only at cc4
     obtain⟨p0,p1,p2,p3,p4,p5,p6,p7,pl⟩:=xe SV.out.par
     obtain⟨e0,e1,e2,el⟩:=xl SV.out.box
     clear hat
     obtain⟨W18,hW18⟩:∃V,V2.setCell ⟨g,j*8+4,none⟩ (.int .i64 H1)=V:=⟨_,rfl⟩
     have S18:=zh (SV.out.put (n':=⟨sym,kind,L0,inn,H1,look,kids,M0⟩) hW18 (by decide) rfl rfl (jt FQ.out HLO.out FQ.out.inn (vh HNM.out.1.1) FQ.out.look HMB.out)); refine yy fun next hn=>?_;simp only[pick,yp]; go_wp2_with fail; refine zk (fun _=>by rw[←hW18];exact zhT HGS.out hbl hel YX (by omega) HPG2 HEG2) (hn _ _ ?_); clear hn next hW18 SV YX Y2 m1 HPG2 HEG2; clear cc4 ff lg p0 p1 p2 p3 p4 p5 p6 p7 pl e0 e1 e2 el; refine bts ?_; have hat:=S18.out.at; have cc5:=hat.look; have ff:=fun k=>hat.frozen k; have lg:=hat.lt; dsimp only at cc5
     obtain⟨p0,p1,p2,p3,p4,p5,p6,p7,pl⟩:=xe S18.out.par
     obtain⟨e0,e1,e2,el⟩:=xl S18.out.box
     clear hat
     obtain⟨W19,hW19⟩:∃V,W18.setCell ⟨g,j*8+5,none⟩ (.int .i64 K1)=V:=⟨_,rfl⟩
     have S19:=zh (S18.out.put (n':=⟨sym,kind,L0,inn,H1,K1,kids,M0⟩) hW19 (by decide) rfl rfl (jt FQ.out HLO.out FQ.out.inn (vh HNM.out.1.1) (vh HNM.out.1.2) HMB.out)); refine yy fun next hn=>?_;simp only[pick,yp]; go_wp2_with fail; refine zk (fun h=>absurd rfl h) (hn _ _ ?_); clear hn next hW19 S18 m2 w1 hbl hel HGS HCL S17; clear cc5 ff lg p0 p1 p2 p3 p4 p5 p6 p7 pl e0 e1 e2 el; (refine xw ?_)
     have hat:=S19.out.at; have ff:=fun k=>hat.frozen k; have lg:=hat.lt
     obtain⟨p0,p1,p2,p3,p4,p5,p6,p7,pl⟩:=xe S19.out.par
     obtain⟨e0,e1,e2,el⟩:=xl S19.out.box
     clear hat; go_upto_region 19 with fail; refine yj (4) (zj [0,2] (.step 1 (.step 3 .fin))) (by kernel_rfl) (by kernel_rfl) ?_; refine bts ?_; refine yy fun next hn=>?_;simp only[pick,yp]; go_wp2_with fail
     refine(CO.out _).mono ?_
     rintro e V3 ⟨rfl,hv1⟩; have Y1:Hid (Ext W19 V3):=zh (((Ext.refl W19).drew).trans hv1); clear hv1; go_wp2_with fail; refine zk (fun _=>yZ Y1.out) (hn _ _ ?_); clear hn next; refine yy fun next hn=>?_;simp only[pick,yp]; go_wp2_with fail
     refine(CM.out _).mono ?_
     rintro e W20 ⟨rfl,hv2⟩; have YX:Ext W19 W20:=Y1.out.trans hv2; clear hv2; go_wp2_with fail; refine zk (fun _=>yZ YX) (hn _ _ ?_); clear hn next Y1 ff lg p0 p1 p2 p3 p4 p5 p6 p7 pl e0 e1 e2 el; (refine xw ?_)
     have S20:=zh (S19.out.to YX); clear S19 YX; go_upto_if 116 with fail
     go_cut [] (fun wx=>Hid (EdQ w g c2 bp be j os qA qc pA pc ⟨sym,kind,lo,inn,hi,look,kids,met⟩ a d i ⟨sym,kind,L0,inn,H1,K2,kids,M0⟩ wx))
     case first=>
      cases mt with
      |false=>
       have e:K1=K2:=by simpa using HK2.out
       go_wp2_with fail; go_meet
       rw[←e]
       exact S20
      |true=>
       have m3:(if K1 < a+1 then a+1 else K1)=K2:=by rw[M3.out];simpa using HK2.out
       have w2:=W2.out; have hat:=S20.out.at; have cc5:=hat.look; have ff:=fun k=>hat.frozen k; have lg:=hat.lt; dsimp only at cc5
       obtain⟨p0,p1,p2,p3,p4,p5,p6,p7,pl⟩:=xe S20.out.par
       obtain⟨e0,e1,e2,el⟩:=xl S20.out.box
       clear hat
       obtain⟨W22,hW22⟩:∃V,W20.setCell ⟨g,j*8+5,none⟩ (.int .i64 K2)=V:=⟨_,rfl⟩
       have S22:=zh (S20.out.put (n':=⟨sym,kind,L0,inn,H1,K2,kids,M0⟩) hW22 (by decide) rfl rfl (jt FQ.out HLO.out FQ.out.inn (vh HNM.out.1.1) (vh HNM.out.2.2.1) HMB.out)); go_upto_region 20 with fail; refine yj (13) (zj [0,1,2,3,4,5,6,7,8,9,10,11,12] (.step 13 .fin)) (by kernel_rfl) (by kernel_rfl) ?_; refine bts ?_; refine yy fun next hn=>?_;simp only[pick,yp]; go_wp2_with fail; refine zk (fun h=>absurd rfl h) (hn _ _ ?_); clear hn next; (refine xw ?_)
       go_wp2_with fail; go_meet
       exact zh (S22.out.to xi)
     case rest=>
     have S21:=hcut; clear hcut S20; have hat:=S21.out.at; have cc4:=hat.hi; have cc5:=hat.look; have ff:=fun k=>hat.frozen k; have lg:=hat.lt; dsimp only at cc4 cc5
     obtain⟨p0,p1,p2,p3,p4,p5,p6,p7,pl⟩:=xe S21.out.par
     obtain⟨e0,e1,e2,el⟩:=xl S21.out.box
     clear hat; go_upto_if 132 with fail
     go_cut [] (fun wx=>Hid (EdQ w g c2 bp be j os qA qc pA pc ⟨sym,kind,lo,inn,hi,look,kids,met⟩ a d i ⟨sym,kind,L0,inn,H2,K3,kids,M0⟩ wx))
     case first=>
      cases kb with
      |false=>
       have hne:¬kind=1:=fun h=>by simpa using HKK.out.2 h
       have g1:H1=H2:=by have:=HH2.out;rwa[if_neg hne]at this
       have g2:K2=K3:=by have:=HK3.out;rwa[if_neg hne]at this
       go_wp2_with fail; go_meet
       rw[←g1,←g2]
       exact S21
      |true=>
       have hk:=HKK.out.1 rfl; have m4:(if LE < hi - d+i then hi - d+i else LE)=H2:=by rw[M4.out];have:=HH2.out;rwa[if_pos hk]at this
       have g2:(1:Int)=K3:=by have:=HK3.out;rwa[if_pos hk]at this
       obtain⟨w3,w4⟩:=W3.out
       have HG2:=zh g2; clear g2 hk
       obtain⟨W23,hW23⟩:∃V,wc.setCell ⟨g,j*8+4,none⟩ (.int .i64 H2)=V:=⟨_,rfl⟩
       have S23:=zh (S21.out.put (n':=⟨sym,kind,L0,inn,H2,K2,kids,M0⟩) hW23 (by decide) rfl rfl (jt FQ.out HLO.out FQ.out.inn (vh (by have:=HNM.out.2.1;omega)) (vh HNM.out.2.2.1) HMB.out)); have cd5:=S23.out.at.look; have fd:=fun k=>S23.out.at.frozen k; have ld:=S23.out.at.lt; dsimp only at cd5
       obtain⟨W24,hW24⟩:∃V,W23.setCell ⟨g,j*8+5,none⟩ (.int .i64 1)=V:=⟨_,rfl⟩
       have S24:=zh (S23.out.put (n':=⟨sym,kind,L0,inn,H2,1,kids,M0⟩) hW24 (by decide) rfl rfl (jt FQ.out HLO.out FQ.out.inn (vh (by have:=HNM.out.2.1;omega)) (vh (by omega)) HMB.out)); go_wp2_with fail; go_meet
       rw[←HG2.out]
       exact S24
     case rest=>
     have S24:=hcut; clear hcut S21; clear cc4 cc5 ff lg p0 p1 p2 p3 p4 p5 p6 p7 pl e0 e1 e2 el; have m5:=M5.out; have m6:=M6.out; have hat:=S24.out.at; have cc2:=hat.lo; have cc4:=hat.hi; have ff:=fun k=>hat.frozen k; have lg:=hat.lt; dsimp only at cc2 cc4
     obtain⟨p0,p1,p2,p3,p4,p5,p6,p7,pl⟩:=xe S24.out.par
     obtain⟨e0,e1,e2,el⟩:=xl S24.out.box
     clear hat; go_upto_region 23 with fail; refine yj (20) (zj [0,1,2,3,4,5,6,7,8,9,12,13,14,15,16] (.step 10 (zj [11,17,18,19] (.step 20 .fin)))) (by kernel_rfl) (by kernel_rfl) ?_; refine bts ?_; refine yy fun next hn=>?_;simp only[pick,yp]; go_wp2_with fail
     refine(CN.out _).mono ?_
     rintro e V4 ⟨rfl,hv4⟩; have YX:Ext wc V4:=((Ext.refl wc).drew).trans hv4; clear hv4; go_wp2_with fail; refine zk (fun _=>yZ YX) (hn _ _ ?_); clear hn next; clear cc2 cc4 ff lg p0 p1 p2 p3 p4 p5 p6 p7 pl e0 e1 e2 el; refine bts ?_; have SU:=zh (S24.out.to YX); clear S24 YX; have hat:=SU.out.at; have cc3:=hat.inn; have ff:=fun k=>hat.frozen k; have lg:=hat.lt; dsimp only at cc3
     obtain⟨p0,p1,p2,p3,p4,p5,p6,p7,pl⟩:=xe SU.out.par
     obtain⟨e0,e1,e2,el⟩:=xl SU.out.box
     clear hat
     obtain⟨W25,hW25⟩:∃V,V4.setCell ⟨g,j*8+3,none⟩ (.int .i64 I1)=V:=⟨_,rfl⟩
     have S25:=zh (SU.out.put (n':=⟨sym,kind,L0,I1,H2,K3,kids,M0⟩) hW25 (by decide) rfl rfl (jt FQ.out HLO.out (vh HNM.out.2.2.2.2) (vh (by have:=HNM.out.2.1;omega)) (vh HNM.out.2.2.2.1) HMB.out)); refine yy fun next hn=>?_;simp only[pick,yp]; go_wp2_with fail; refine zk (fun h=>absurd rfl h) (hn _ _ ?_); clear hn next hW25 SU m5 m6; clear cc3 ff lg p0 p1 p2 p3 p4 p5 p6 p7 pl e0 e1 e2 el; (refine xw ?_)
     have HBF:Hid (∀(u:Int) (q:Prt),q∈os.set j ⟨⟨sym,kind,L0,u,H2,K3,kids,M0⟩,qA,qc⟩→-8589934592≤q.nd.hi∧q.nd.hi≤8589934592):=zh (fun u q hq=>by
      rcases List.mem_or_eq_of_mem_set hq with hq|rfl
      ·exact HHI2.out q hq
      ·exact HNM.out.2.1)
     have HED:Hid (Zb ⟨a,d,i,qJ bit⟩ (nds ps) j (nds (os.set j ⟨⟨sym,kind,L0,if inn=lo then L0 else I1,H2,K3,kids,M0⟩,qA,qc⟩))):=zh (by
      have hed:=HED0
      rw[HFIT.out]at hed
      unfold nds
      rw[List.map_set]
      exact hed)
     clear HED0; by_cases hz:inn=lo
     ·have qz:(inn==lo)=true:=by simp[hz]
      have HEF:=zh HED.out
      rw[if_pos hz]at HEF
      clear hz; have hat:=S25.out.at; have cc2:=hat.lo; have cc3:=hat.inn; have ff:=fun k=>hat.frozen k; have lg:=hat.lt; dsimp only at cc2 cc3
      obtain⟨p0,p1,p2,p3,p4,p5,p6,p7,pl⟩:=xe S25.out.par
      obtain⟨e0,e1,e2,el⟩:=xl S25.out.box
      clear hat
      obtain⟨W26,hW26⟩:∃V,W25.setCell ⟨g,j*8+3,none⟩ (.int .i64 L0)=V:=⟨_,rfl⟩
      have S26:=zh (S25.out.put (n':=⟨sym,kind,L0,L0,H2,K3,kids,M0⟩) hW26 (by decide) rfl rfl (jt FQ.out HLO.out HLO.out (vh (by have:=HNM.out.2.1;omega)) (vh HNM.out.2.2.2.1) HMB.out)); go_wp2_with fail; go_roundw
      case rel=>exact⟨j,os.set j ⟨⟨sym,kind,L0,L0,H2,K3,kids,M0⟩,qA,qc⟩,by omega,by rw[List.length_set];omega,by go_num,zh (S26.out.own.ext xi),HEF,zh (HBF.out _),zh (zb S26.out.box xi),zh (S26.out.ext.trans xi)⟩
      case measure=>simp[intOf]<;>omega
     ·have qz:(inn==lo)=false:=by simp[hz]
      have HEF:=zh HED.out
      rw[if_neg hz]at HEF
      clear hz; have hat:=S25.out.at; have cc2:=hat.lo; have cc3:=hat.inn; have ff:=fun k=>hat.frozen k; have lg:=hat.lt; dsimp only at cc2 cc3
      obtain⟨p0,p1,p2,p3,p4,p5,p6,p7,pl⟩:=xe S25.out.par
      obtain⟨e0,e1,e2,el⟩:=xl S25.out.box
      clear hat; go_wp2_with fail; go_roundw
      case rel=>exact⟨j,os.set j ⟨⟨sym,kind,L0,I1,H2,K3,kids,M0⟩,qA,qc⟩,by omega,by rw[List.length_set];omega,by go_num,zh (S25.out.own.ext xi),HEF,zh (HBF.out _),zh (zb S25.out.box xi),zh (S25.out.ext.trans xi)⟩
      case measure=>simp[intOf]<;>omega
end Go.Proofs.YtmbelmngniddjaaGreat
