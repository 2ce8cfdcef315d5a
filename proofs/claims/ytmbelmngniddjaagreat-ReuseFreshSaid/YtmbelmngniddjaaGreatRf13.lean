/- Rf: texts that the proof rests on, part 13. -/
import Derived.Test.YtmbelmngniddjaaGreatRf12
namespace Go.Proofs.YtmbelmngniddjaaGreat
open Go.RowKit
attribute [local go_sem] zF zB zI zJ zw zt zN zD zX zQ zK zP zO zL zT zR zS zG zM zC
theorem zcD:(Tryz.prog.info? 121).map (fun i=>(i.zero,i.size,i.bytes))=some (some (.slice none 0 0),1,24):=by kernel_rfl
theorem jw:(Tryz.prog.info? 41).map (fun i=>(i.zero,i.size,i.bytes))=some (some (.slice none 0 0),1,24):=by kernel_rfl
def zfG:Array Value:=madeCells #[.bool false] 1
theorem ze7:zfG[0]?=some (.bool false):=by simp[zfG,madeCells]
theorem zfA (w:World):(Instr.makeSlice 121 (.int .i64 1) (.int .i64 1)).run Tryz.prog w=.ok (.slice (some ⟨w.heap.size,0,none⟩) 1 1) (w.alloc (.cells zfG 4)):=jk w 1 1 rfl (by omega)
def M1 (w:World)(base:Nat)(A:Option Addr)(d:Bool):Prop:=∃g og h oh c' gs cs,A=some ⟨g,og,none⟩∧w.heap[g]?=some (.cells gs 121)∧gs[og]?=some (.slice (some ⟨h,oh,none⟩) 1 c')∧w.heap[h]?=some (.cells cs 4)∧cs[oh]?=some (.bool d)∧base≤g∧base≤h
theorem M1.ext {w w':World}{base:Nat}{A:Option Addr}{d:Bool}(h:M1 w base A d)(e:Ext w w'):M1 w' base A d:=by
 obtain⟨g,og,h,oh,c',gs,cs,h1,h2,h3,h4,h5,h6⟩:=h
 exact⟨g,og,h,oh,c',gs,cs,h1,zb h2 e,h3,zb h4 e,h5,h6⟩
theorem M1.low {w:World}{base b':Nat}{A:Option Addr}{d:Bool}(h:M1 w base A d)(hb:b'≤base):M1 w b' A d:=by
 obtain⟨g,og,h,oh,c',gs,cs,h1,h2,h3,h4,h5,h6⟩:=h
 exact⟨g,og,h,oh,c',gs,cs,h1,h2,h3,h4,h5,by omega,by omega⟩
theorem M1.keep {w w':World}{base:Nat}{A:Option Addr}{d:Bool}{S:Nat→Prop}(h:M1 w base A d)(t:zA S w w')(hS:∀k cs T,w.heap[k]?=some (.cells cs T)→(T=121∨T=4)→¬S k):M1 w' base A d:=by
 obtain⟨g,og,h,oh,c',gs,cs,h1,h2,h3,h4,h5,h6⟩:=h
 exact⟨g,og,h,oh,c',gs,cs,h1,t.keep h2 (hS _ _ _ h2 (.inl rfl)),h3,t.keep h4 (hS _ _ _ h4 (.inr rfl)),h5,h6⟩
theorem M1.open_ {w:World}{base:Nat}{A:Option Addr}{d:Bool}(h:M1 w base A d):∃g og h oh c',A=some ⟨g,og,none⟩∧g < w.heap.size∧h < w.heap.size∧w.cell? ⟨g,og,none⟩=some (.slice (some ⟨h,oh,none⟩) 1 c')∧w.cell? ⟨h,oh,none⟩=some (.bool d)∧w.frozen? ⟨h,oh,none⟩=false∧base≤h∧∀d',M1 (w.setCell ⟨h,oh,none⟩ (.bool d')) base A d':=by
 obtain⟨g,og,h,oh,c',gs,cs,h1,h2,h3,h4,h5,h6,h7⟩:=h
 have hlt:=(Array.getElem?_eq_some_iff.1 h5).1
 refine⟨g,og,h,oh,c',h1,za h2,za h4,(cr og h2).trans h3,(cr oh h4).trans h5,zi h4 oh,h7,fun d'=>?_⟩
 have hne:g≠h:=zU h2 h4 (by decide)
 exact⟨g,og,h,oh,c',gs,_,h1,(zA.set1 h oh (.bool d')).keep h2 hne,h3,zn h4 _,by rw[Array.getElem?_setIfInBounds_self_of_lt hlt],h6,h7⟩
def zgU (w:World)(d:Bool)(e:Ending)(w':World):Prop:=∃A c,e=.returned (.slice A 1 c)∧M1 w' w.heap.size A d∧1≤c∧Ext w w'
set_option maxRecDepth 100000 in
set_option maxHeartbeats 2000000 in
theorem jT (d:Bool)(w:World):Calls Tryz.prog 135 #[.int .i64 1,.bool d] w (zgU w d):=by
 have hmk:=zfA
 obtain⟨i6,hi,hz0,hz1,hz2⟩:=info_parts zcD
 go_in
 go_wp2_with fail; refine wp_loop_rounds 2 ?_
 rw[rounds_succ]
 go_upto_region 5 with fail; have C1:=xp (w.alloc (.cells zfG 4)) 121 (w.heap.size+1) #[.slice (some ⟨w.heap.size,0,none⟩) 1 1] [.slice (some ⟨w.heap.size,0,none⟩) 1 1] (by simp) rfl; have HC1:=zh C1; clear C1; go_upto_region 6 with(at_builtin;refine zE _ (by rfl) (.tmp 12) (.tmp 15) 41 rfl w.heap.size 121 i6 _ 1 24 Tryz.underlying41 hi hz0 hz1 hz2 rfl (by omega) zH 0 [] rfl (World.ownsRow_nil _ _ _ _) (some ⟨w.heap.size+1,0,none⟩) 1 1 [.slice (some ⟨w.heap.size,0,none⟩) 1 1] rfl (by intro h;cases h) rfl HC1.out (by intro u hu;obtain rfl:=List.mem_singleton.1 hu;rfl) (by unfold maxLen;omega) (by omega) (by simp<;>omega) ?_;intro v3 w3 hown3 hg3 hat3); have K0:(w.alloc (.cells zfG 4)).heap[w.heap.size]?=some (.cells zfG 4):=heap_alloc_new w _; have K1:=zb K0 (xi:Ext _ ((w.alloc (.cells zfG 4)).alloc (.cells #[.slice (some ⟨w.heap.size,0,none⟩) 1 1] 121)))
 obtain⟨h,hh⟩:∃h,w.heap.size=h:=⟨_,rfl⟩
 have K3:w3.heap[h]?=some (.cells zfG 4):=by rw[←hh];exact(hg3.block _ (by simp<;>omega) (by simp[Value.ownBlock])).trans K1
 have X3:Hid (Ext w w3):=zh ((xi:Ext w ((w.alloc (.cells zfG 4)).alloc (.cells #[.slice (some ⟨w.heap.size,0,none⟩) 1 1] 121))).grown hg3 (by intro g hg;cases hg))
 obtain⟨g,c3,rfl,hgb,hgl,⟨cur,hcur⟩,_,hcc⟩:=qw hown3 (by omega)
 have x0:w3.cell? ⟨g,0,none⟩=some (.slice (some ⟨h,0,none⟩) 1 1):=by rw[←hh];exact hcc 0 _ rfl
 have x0':cur[0]?=some (.slice (some ⟨h,0,none⟩) 1 1):=(cr 0 hcur).symm.trans x0; have HM:Hid (M1 w3 w.heap.size (some ⟨g,0,none⟩) false):=zh ⟨g,0,h,0,1,cur,zfG,rfl,hcur,x0',K3,ze7,hgb,by omega⟩; have f0:=zi K3 0; have y0:=(cr 0 K3).trans ze7; have lh:=za K3
 obtain⟨_,_,h',oh',_,hA',_,_,xx,_,_,_,hput⟩:=HM.out.open_
 have HP:Hid (M1 (w3.setCell ⟨h,0,none⟩ (.bool d)) w.heap.size (some ⟨g,0,none⟩) d):=zh (by
  injection hA' with hA'; injection hA' with e1 e2; subst e1 e2
  rw[x0]at xx
  injection xx with xx; injection xx with xx; injection xx with xx; injection xx with e1 e2; subst e1 e2; exact hput d)
 have XP:Hid (Ext w (w3.setCell ⟨h,0,none⟩ (.bool d))):=zh (X3.out.setCell (by show _≤h;omega) _); have HL:Hid (1≤c3):=zh (by obtain⟨_,_,hv,_,hl,_⟩:=zW hown3;injection hv with _ _ hv;omega); clear K0 K1 K3 hown3 hg3 hat3 hcc HC1 hi hz0 hz1 hz2 hput xx hA' hcur x0' hgb hgl; simp only[hh]
 go_wp2_with fail
 rw[rounds_succ]
 go_wp2_with fail; go_ret
 exact⟨_,c3,rfl,HP.out,HL.out,XP.out⟩
set_option maxRecDepth 100000 in
set_option maxHeartbeats 2000000 in
theorem YY (A B:Option Addr)(c d:Nat)(a b:Bool)(w:World)(hA:M1 w 0 A a)(hB:M1 w 0 B b):Calls Tryz.prog 137 #[.slice A 1 c,.slice B 1 d] w (zgU w (a||b)):=by
 have HA:=zh hA; have HB:=zh hB; clear hA hB; cases a
 all_goals
  go_in
  go_wp2_with fail
  refine(jT false w).mono ?_
  rintro e w1 ⟨C,c1,rfl,hF,hc1,hx1⟩; have HF:=zh hF; have HX:=zh hx1; have HC1:=zh hc1; have HA1:=zh (HA.out.ext hx1); have HB1:=zh (HB.out.ext hx1); clear hF hx1 hc1 HA HB; go_wp2_with fail; refine wp_loop_rounds 2 ?_
  rw[rounds_succ]
  go_wp2_with fail; refine wp_loop_rounds 2 ?_
  rw[rounds_succ]
  have HXD:Hid (Ext w w1.drew):=zh (HX.out.trans xi)
  obtain⟨g0,o0,h0,p0,d0,rfl,lg0,lh0,x0,y0,_,_,_⟩:=HA1.out.open_
  obtain⟨g1,o1,h1,p1,d1,rfl,lg1,lh1,x1,y1,_,_,_⟩:=HB1.out.open_
  obtain⟨g2,o2,h2,p2,d2,rfl,lg2,lh2,x2,y2,f2,b2,m2⟩:=HF.out.open_
  have HM2:Hid (∀d',M1 (w1.drew.setCell ⟨h2,p2,none⟩ (.bool d')) w.heap.size (some ⟨g2,o2,none⟩) d'):=zh (fun d'=>(m2 d').ext (xi:Ext (w1.setCell ⟨h2,p2,none⟩ (.bool d')) (w1.setCell ⟨h2,p2,none⟩ (.bool d')).drew)); have f2':w1.drew.frozen? ⟨h2,p2,none⟩=false:=f2; have HB2:=zh b2; clear m2 b2; go_upto_region 8 with fail; refine zg (22) (zd [0,1,2,4,5,6,7,9] (zj [3,8,10,11,12,13,14,15,16,17,18,19,20,21] (.step 22 .fin))) (by kernel_rfl) (by kernel_rfl) ?_; (repeat first|refine yq ?_|refine yr ?_)
  refine zp fun next hn=>?_;simp only[pick,yp]; go_wp2_with fail; refine zk (fun h=>absurd rfl h) (hn _ _ ?_); clear hn next; refine zv ?_; clear x0 y0 x1 y1 x2 y2 f2 f2' HF HX; go_wp2_with fail
  rw[rounds_succ]
  go_wp2_with fail
  rw[rounds_succ]
  go_wp2_with fail; go_ret
  exact⟨_,c1,rfl,HM2.out _,HC1.out,HXD.out.setCell HB2.out _⟩
set_option maxRecDepth 100000 in
set_option maxHeartbeats 4000000 in
theorem zjl (A B:Option Addr)(c d:Nat)(a b:Bool)(w:World)(hA:M1 w 0 A a)(hB:M1 w 0 B b):Calls Tryz.prog 136 #[.slice A 1 c,.slice B 1 d] w (zgU w (a&&b)):=by
 have HA:=zh hA; have HB:=zh hB; clear hA hB; cases a
 ·go_in
  go_wp2_with fail
  refine(jT false w).mono ?_
  rintro e w1 ⟨C,c1,rfl,hF,hc1,hx1⟩; have HF:=zh hF; have HX:=zh hx1; have HC1:=zh hc1
  obtain⟨g0,o0,h0,p0,d0,rfl,lg0,lh0,x0,y0,_,_,_⟩:=(HA.out.ext hx1).open_
  clear hF hx1 hc1 HA HB; go_wp2_with fail; refine wp_loop_rounds 2 ?_
  rw[rounds_succ]
  go_wp2_with fail; refine wp_loop_rounds 2 ?_
  rw[rounds_succ]
  go_wp2_with fail; refine wp_loop_rounds 1 ?_
  rw[rounds_succ]
  go_wp2_with fail
  rw[rounds_succ]
  go_wp2_with fail
  rw[rounds_succ]
  go_wp2_with fail; go_ret
  exact⟨_,c1,rfl,HF.out,HC1.out,HX.out⟩
 ·go_in
  go_wp2_with fail
  refine(jT false w).mono ?_
  rintro e w1 ⟨C,c1,rfl,hF,hc1,hx1⟩; have HF:=zh hF; have HX:=zh hx1; have HC1:=zh hc1; have HA1:=zh (HA.out.ext hx1); have HB1:=zh (HB.out.ext hx1); clear hF hx1 hc1 HA HB; go_wp2_with fail; refine wp_loop_rounds 2 ?_
  rw[rounds_succ]
  go_wp2_with fail; refine wp_loop_rounds 2 ?_
  rw[rounds_succ]
  go_wp2_with fail; refine wp_loop_rounds 2 ?_
  rw[rounds_succ]
  have HXD:Hid (Ext w w1.drew):=zh (HX.out.trans xi)
  obtain⟨g0,o0,h0,p0,d0,rfl,lg0,lh0,x0,y0,_,_,_⟩:=HA1.out.open_
  obtain⟨g1,o1,h1,p1,d1,rfl,lg1,lh1,x1,y1,_,_,_⟩:=HB1.out.open_
  obtain⟨g2,o2,h2,p2,d2,rfl,lg2,lh2,x2,y2,f2,b2,m2⟩:=HF.out.open_
  have HM2:Hid (∀d',M1 (w1.drew.setCell ⟨h2,p2,none⟩ (.bool d')) w.heap.size (some ⟨g2,o2,none⟩) d'):=zh (fun d'=>(m2 d').ext (xi:Ext (w1.setCell ⟨h2,p2,none⟩ (.bool d')) (w1.setCell ⟨h2,p2,none⟩ (.bool d')).drew)); have f2':w1.drew.frozen? ⟨h2,p2,none⟩=false:=f2; have HB2:=zh b2; clear m2 b2; go_upto_region 11 with fail; refine zg (22) (zd [0,1,2,4,5,6,7,9] (zj [3,8,10,11,12,13,14,15,16,17,18,19,20,21] (.step 22 .fin))) (by kernel_rfl) (by kernel_rfl) ?_; (repeat first|refine yq ?_|refine yr ?_)
  refine zp fun next hn=>?_;simp only[pick,yp]; go_wp2_with fail; refine zk (fun h=>absurd rfl h) (hn _ _ ?_); clear hn next; refine zv ?_; clear x0 y0 x1 y1 x2 y2 f2 f2' HF HX; go_wp2_with fail
  rw[rounds_succ]
  go_wp2_with fail
  rw[rounds_succ]
  go_wp2_with fail
  rw[rounds_succ]
  go_wp2_with fail; go_ret
  exact⟨_,c1,rfl,HM2.out _,HC1.out,HXD.out.setCell HB2.out _⟩
set_option maxRecDepth 100000 in
set_option maxHeartbeats 4000000 in
theorem zeQ (A:Option Addr)(c:Nat)(a:Bool)(w:World)(hA:M1 w 0 A a):Calls Tryz.prog 138 #[.slice A 1 c] w (zgU w a):=by
 have CE:=zh (YY A A c c a a w hA hA); clear hA; cases a
 ·go_in
  go_wp2_with fail; refine CE.out.mono ?_; rintro e w1 ⟨C,c1,rfl,hF,hc1,hx1⟩; have HF:=zh hF; have HX:=zh hx1; have HC1:=zh hc1
  obtain⟨g2,o2,h2,p2,d2,rfl,lg2,lh2,x2,y2,f2,_,_⟩:=hF.open_
  clear hF hx1 hc1 CE; simp only[Bool.or_self]at y2
  go_wp2_with fail; refine wp_loop_rounds 2 ?_
  rw[rounds_succ]
  go_wp2_with fail; refine wp_loop_rounds 2 ?_
  rw[rounds_succ]
  go_wp2_with fail; refine wp_loop_rounds 1 ?_
  rw[rounds_succ]
  go_wp2_with fail
  rw[rounds_succ]
  go_wp2_with fail
  rw[rounds_succ]
  go_wp2_with fail; go_ret
  exact⟨_,c1,rfl,HF.out,HC1.out,HX.out⟩
 ·go_in
  go_wp2_with fail; refine CE.out.mono ?_; rintro e w1 ⟨C,c1,rfl,hF,hc1,hx1⟩; have HF:=zh hF; have HXD:Hid (Ext w w1.drew):=zh (hx1.trans xi); have HC1:=zh hc1
  obtain⟨g2,o2,h2,p2,d2,rfl,lg2,lh2,x2,y2,f2,b2,m2⟩:=HF.out.open_
  have HM2:Hid (∀d',M1 (w1.drew.setCell ⟨h2,p2,none⟩ (.bool d')) w.heap.size (some ⟨g2,o2,none⟩) d'):=zh (fun d'=>(m2 d').ext (xi:Ext (w1.setCell ⟨h2,p2,none⟩ (.bool d')) (w1.setCell ⟨h2,p2,none⟩ (.bool d')).drew)); have f2':w1.drew.frozen? ⟨h2,p2,none⟩=false:=f2; have HB2:=zh b2; clear hF hx1 hc1 CE m2 b2; simp only[Bool.or_self]at y2
  obtain⟨g3,o3,h3,p3,d3,hA3,_,_,x3,y3,_,_,_⟩:=(HM2.out true).open_
  injection hA3 with hA3; injection hA3 with e1 e2; subst e1 e2; have HX3:=zh x3; have HY3:=zh y3; clear x3 y3; go_wp2_with fail; refine wp_loop_rounds 2 ?_
  rw[rounds_succ]
  go_wp2_with fail; refine wp_loop_rounds 2 ?_
  rw[rounds_succ]
  go_wp2_with fail; refine wp_loop_rounds 2 ?_
  rw[rounds_succ]
  go_upto_region 11 with fail; refine zg (22) (zd [0,1,2,4,5,6,7,9] (zj [3,8,10,11,12,13,14,15,16,17,18,19,20,21] (.step 22 .fin))) (by kernel_rfl) (by kernel_rfl) ?_; (repeat first|refine yq ?_|refine yr ?_)
  refine zp fun next hn=>?_;simp only[pick,yp]; go_wp2_with fail; refine zk (fun h=>absurd rfl h) (hn _ _ ?_); clear hn next; refine zv ?_; clear x2 y2 f2 f2' HF; go_wp2_with fail
  rw[rounds_succ]
  go_wp2_with fail
  rw[rounds_succ]
  go_wp2_with fail
  rw[rounds_succ]
  go_wp2_with fail; go_ret
  exact⟨_,c1,rfl,HM2.out _,HC1.out,HXD.out.setCell HB2.out _⟩
def zal (w:World)(base:Nat)(v:Value)(n:Nat):Prop:=∃vs,w.ownsRow base 41 1 v n vs∧∀(j:Nat) (u:Value),vs[j]?=some u→∃A c d,u=.slice A 1 c∧M1 w 0 A d
theorem zal.ext {w w':World}{base n:Nat}{v:Value}(h:zal w base v n)(e:Ext w w'):zal w' base v n:=by
 obtain⟨vs,h1,h2⟩:=h
 refine⟨vs,yv h1 e,fun j u hu=>?_⟩
 obtain⟨A,c,d,rfl,hm⟩:=h2 j u hu
 exact⟨A,c,d,rfl,hm.ext e⟩
theorem zal.get {w:World}{base n q:Nat}{v:Value}(h:zal w base v n)(hq:q < n):∃g c A k d,v=.slice (some ⟨g,0,none⟩) n c∧g < w.heap.size∧w.cell? ⟨g,q,none⟩=some (.slice A 1 k)∧M1 w 0 A d:=by
 obtain⟨vs,h1,h2⟩:=h
 obtain⟨g,c,rfl,_,hg,_,_,hc⟩:=qw h1 (by omega)
 have hl:vs.length=n:=by have:=h1.1;omega
 obtain⟨u,hu⟩:∃u,vs[q]?=some u:=⟨_,List.getElem?_eq_getElem (by omega)⟩
 obtain⟨A,k,d,rfl,hm⟩:=h2 q u hu
 exact⟨g,c,A,k,d,rfl,hg,hc q _ hu,hm⟩
theorem ZG {α:Type}{l:List α}{x y:α}{j:Nat}(h:(l++[x])[j]?=some y):(j < l.length∧l[j]?=some y)∨(j=l.length∧y=x):=by
 by_cases hj:j < l.length
 ·exact .inl ⟨hj,by rwa[List.getElem?_append_left hj]at h⟩
 ·rw[List.getElem?_append_right (by omega)]at h
  have:=(List.getElem?_eq_some_iff.1 h).1
  simp at this
  refine .inr ⟨by omega,?_⟩
  rw[show j - l.length=0 by omega]at h
  simpa using h.symm
theorem zal.grown {w w':World}{base n:Nat}{v v' u:Value}{A:Option Addr}{c:Nat}{d:Bool}{vs:List Value}(h1:w.ownsRow base 41 1 v n vs)(h2:∀(j:Nat) (u:Value),vs[j]?=some u→∃A c d,u=.slice A 1 c∧M1 w 0 A d)(hu:u=.slice A 1 c)(hm:M1 w 0 A d)(hr:w'.ownsRow base 41 1 v' (n+1) (vs++[u]))(hg:w.grownBy w' v.ownBlock):zal w' base v' (n+1):=by
 have T:zA (fun g=>v.ownBlock=some g) w w':=zA.grown hg (fun g hg _=>hg); have key:∀{A:Option Addr} {d:Bool},M1 w 0 A d→M1 w' 0 A d:=fun hm=>hm.keep T (fun k cs T' hk hT hh=>by
  obtain⟨cur,hcur⟩:=zZ h1 k hh
  rw[hk]at hcur
  injection hcur with hcur; injection hcur with _ hcur; rcases hT with rfl|rfl<;>exact absurd hcur (by decide))
 refine⟨_,hr,fun j x hx=>?_⟩
 rcases ZG hx with⟨_,hx⟩|⟨_,rfl⟩
 ·obtain⟨A',c',d',rfl,hm'⟩:=h2 j x hx
  exact⟨A',c',d',rfl,key hm'⟩
 ·exact⟨A,c,d,hu,key hm⟩
def zin (w:World)(n:Nat)(e:Ending)(w':World):Prop:=∃v,e=.returned v∧zal w' w.heap.size v n∧Ext w w'
set_option maxRecDepth 100000 in
set_option maxHeartbeats 8000000 in
theorem zje (v:Value)(ns:List Nod)(w:World)(h:YI w v ns)(hO:zga ns):Calls Tryz.prog 115 #[v,.string ⟨#[]⟩] w (zin w ns.length):=by
 have h0:=hO.pos; have hmost:=hO.most
 obtain⟨g,off,c,rfl,hat⟩:=h.at_ h0
 obtain⟨m,hm⟩:∃m,ns.length=m:=⟨_,rfl⟩
 rw[hm]at h0 hmost ⊢
 have HAT:=zh (fun w1 (e:Ext w w1) i n (hn:ns[i]?=some n)=>(show JX w1 g (off+i*6) n from by
  obtain⟨a1,a2,a3,a4,a5,a6,a7⟩:=hat i n hn
  exact⟨zy a1 a7 e,zy a2 a7 e,zy a3 a7 e,zy a4 a7 e,zy a5 a7 e,zy a6 a7 e,Nat.lt_of_lt_of_le a7 e.size⟩))
 have HKI:=zh (fun w1 (e:Ext w w1) n (hn:n∈ns)=>(h.kids n hn).ext e); have HM:=zh hm; have HO:=zh hO; have hsz:(⟨#[]⟩:ByteArray).size=0:=rfl; clear h hat hm hO; go_in
 go_wp2_with fail; go_loopw [5,6] (fun av iv wr=>∃i:Nat,iv=.int .i64 i∧i≤m∧Hid (zal wr w.heap.size av i)∧Hid (Ext w wr)) (fun _ iv _=>m - (intOf iv).toNat)
 case atStart=>exact⟨0,rfl,Nat.zero_le _,zh ⟨[],World.ownsRow_nil _ _ _ _,fun j u h=>by simp at h⟩,zh (Ext.refl _)⟩
 case round=>
  obtain⟨i,rfl,hi,ML,HX⟩:=hrel
  by_cases hlt:i < m
  ·obtain⟨n,hn'⟩:∃n,ns[i]?=some n:=⟨_,List.getElem?_eq_getElem (by have:=HM.out;omega)⟩
   have HN:=zh hn'
   obtain⟨a1,a2,a3,a4,a5,a6,a7⟩:=HAT.out wr HX.out i n hn'
   have HLW:=zh (HO.out.low i n hn')
   obtain⟨nb,hnb⟩:∃b,wr.heap.size=b:=⟨_,rfl⟩
   obtain⟨W,hW⟩:∃W,wr.alloc (.cells #[.int .i64 n.k,.int .u64 n.c.a,.int .u64 n.c.b,.int .u64 n.c.c,.int .u64 n.c.d,.slice n.kA n.kids.length n.kc] 189)=W:=⟨_,rfl⟩
   have K1:W.heap[nb]?=some (.cells #[.int .i64 n.k,.int .u64 n.c.a,.int .u64 n.c.b,.int .u64 n.c.c,.int .u64 n.c.d,.slice n.kA n.kids.length n.kc] 189):=by rw[←hW,←hnb];exact heap_alloc_new _ _
   have X1:Ext wr W:=by rw[←hW];exact xi
   have HK:Hid (∀w1,Ext W w1→w1.cell? ⟨nb,0,none⟩=some (.int .i64 n.k)∧w1.cell? ⟨nb,5,none⟩=some (.slice n.kA n.kids.length n.kc)∧nb < w1.heap.size):=zh (fun w1 e=>by
    have K2:=zb K1 e; have k0:=cr 0 K2; have k5:=cr 5 K2; simp at k0 k5
    exact⟨k0,k5,za K2⟩)
   obtain⟨k0,k5,kl⟩:=HK.out W (Ext.refl _)
   obtain⟨b3,hb3⟩:∃b,(n.k==3)=b:=⟨_,rfl⟩
   have HX1:=zh (HX.out.trans X1); have ML1:=zh (ML.out.ext X1); have PB:=zh (fun d=>jT d W); have HB3:=zh hb3; clear hn' K1 X1 ML HX; go_upto_region 6 with fail; try simp only[hnb,hW]
   clear hnb hW a1 a2 a3 a4 a5 a6 a7; go_cut [8] (fun tv wc=>∃T tc d,tv=.slice T 1 tc∧Hid (M1 wc 0 T d)∧Hid (Ext W wc))
   case first=>
    cases hb1:(n.k==1)
    all_goals
     go_wp2_with fail
     refine(PB.out _).mono ?_
     rintro e w2 ⟨T,tc,rfl,hm1,_,x2⟩; have HM1:=zh (hm1.low (Nat.zero_le _)); have HX2:=zh x2; clear hm1 x2; go_wp2_with fail; go_meet
     exact⟨_,_,_,rfl,HM1,HX2⟩
   case rest=>
    obtain⟨T,tc,d,rfl,HM1,HX2⟩:=hcut
    clear k0 k5 kl PB
    obtain⟨k0,k5,kl⟩:=HK.out wc HX2.out
    go_wp2_with fail; refine wp_loop_rounds 1 ?_
    rw[rounds_succ]
    go_wp2_with fail; clear k0 k5 kl; go_loopw [8,10] (fun tv kv wq=>∃(T:Option Addr) (tc:Nat) (d:Bool) (j:Nat),tv=.slice T 1 tc∧kv=.int .i64 j∧j≤n.kids.length∧Hid (M1 wq 0 T d)∧Hid (Ext W wq)) (fun _ kv _=>n.kids.length - (intOf kv).toNat)
    case atStart=>exact⟨T,tc,d,0,rfl,rfl,Nat.zero_le _,HM1,HX2⟩
    case round=>
     clear HM1 HX2 T tc d
     obtain⟨T,tc,d,j,rfl,rfl,hj,HM1,HX2⟩:=hrel
     obtain⟨k0,k5,kl⟩:=HK.out wr HX2.out
     have ML2:=zh (ML1.out.ext HX2.out); have HX3:=zh (HX1.out.trans HX2.out); by_cases hjl:j < n.kids.length
     ·have KI:=HKI.out wr HX3.out n (List.mem_of_getElem? HN.out)
      obtain⟨kg,ko,hkA,klt,kcc⟩:=KI.ints (by omega)
      obtain⟨x,hx⟩:∃x,n.kids.getD j 0=x:=⟨_,rfl⟩
      have y0:=kcc j hjl
      rw[hx]at y0
      have hxm:x∈n.kids:=by
       rw[←hx,List.getD_eq_getElem?_getD,List.getElem?_eq_getElem hjl]
       exact List.getElem_mem hjl
      have hkt:=KI.top; have hkl:=KI.le
      rw[hkA]at k5
      obtain⟨hx0,hx1⟩:=HLW.out x hxm
      obtain⟨q,rfl⟩:∃q:Nat,x=q:=⟨x.toNat,by omega⟩
      have hqi:q < i:=by omega
      obtain⟨ag,ac,A,k,dq,hav,agl,ac0,hmq⟩:=ML2.out.get hqi
      have HMQ:=zh hmq; have TH:=zh (zjl T A tc k d dq wr HM1.out hmq); have EH:=zh (YY T A tc k d dq wr HM1.out hmq); subst hav; clear hx kcc KI hkA hxm hx0 hx1 hmq; cases b3
      all_goals
       have hb3:=HB3.out; go_wp2_with fail
       first|refine TH.out.mono ?_|refine EH.out.mono ?_
       rintro e w2 ⟨T2,tc2,rfl,hm2,_,x2⟩; have HM2:=zh (hm2.low (Nat.zero_le _)); have HX4:=zh (HX2.out.trans x2); clear hm2 x2 TH EH; go_wp2_with fail; go_roundw
       case rel=>exact⟨T2,tc2,_,j+1,rfl,by go_num,by omega,HM2,HX4⟩
       case measure=>simp[intOf];omega
     ·obtain rfl:j=n.kids.length:=by omega
      clear HB3 HK; by_cases e5:n.k=5
      ·have q5:(n.k==5)=true:=by simp[e5]
       have AG:=zh (zeQ T tc d wr HM1.out); go_wp2_with fail; refine AG.out.mono ?_; rintro e w2 ⟨T2,tc2,rfl,hm2,_,x2⟩; have HM2:=zh (hm2.low (Nat.zero_le _)); have HX4:Hid (Ext wr w2):=zh x2; clear hm2 x2 AG; have k0:=zy k0 kl HX4.out; have kl:=Nat.lt_of_lt_of_le kl HX4.out.size; have PB:=zh (jT true w2); go_wp2_with fail; refine PB.out.mono ?_; rintro e w5 ⟨T5,tc5,rfl,hm,_,x⟩; have EB:=zh (YY T2 T5 tc2 tc5 _ true w5 (HM2.out.ext x) (hm.low (Nat.zero_le _))); have HX5:Hid (Ext wr w5):=zh (HX4.out.trans x); clear hm x PB; go_wp2_with fail; refine EB.out.mono ?_; rintro e w6 ⟨T6,tc6,rfl,hm,_,x⟩; have HM6:=zh (hm.low (Nat.zero_le _)); have HX6:Hid (Ext wr w6):=zh (HX5.out.trans x); clear hm x EB; go_upto_region 21 with fail; have HXF:Hid (Ext w w6):=zh (HX3.out.trans HX6.out); have MLF:Hid (zal w6 w.heap.size u5 i):=zh (ML2.out.ext HX6.out)
       obtain⟨vs,h1,h2⟩:=MLF.out
       have H1:=zh h1; have H2:=zh h2
       obtain⟨i6,hi6,hz0,hz1,hz2⟩:=info_parts jw
       have HI6:Hid (True):=zh trivial; have C3:=xp w6 41 w6.heap.size #[.slice T6 1 tc6] [.slice T6 1 tc6] rfl rfl; have HC3:=zh C3; have XA:Ext w6 (w6.alloc (.cells #[.slice T6 1 tc6] 41)):=xi; have HXA:=zh XA; clear h1 h2 C3 XA; go_wp2_with (at_builtin;refine zE _ (by rfl) (.tmp 111) (.tmp 113) 184 rfl w.heap.size 41 i6 _ 1 24 Tryz.underlying184 hi6 hz0 hz1 hz2 rfl (by omega) u5 i vs rfl (yv H1.out HXA.out) (some ⟨w6.heap.size,0,none⟩) 1 1 [.slice T6 1 tc6] rfl (by intro h;cases h) rfl HC3.out (by intro u hu;obtain rfl:=List.mem_singleton.1 hu;rfl) (by unfold maxLen;omega) (by omega) (by have:=HXF.out.size;simp<;>omega) ?_;intro v3 w3 hown3 hg3 hat3)
       have MLN:=zh (zal.grown (yv H1.out HXA.out) (fun j u hu=>by obtain⟨A,c,d,hu,hm⟩:=H2.out j u hu;exact⟨A,c,d,hu,hm.ext HXA.out⟩) rfl (HM6.out.ext HXA.out) hown3 hg3); have HXN:=zh ((HXF.out.trans HXA.out).grown hg3 (fun g hg=>zV H1.out g hg)); clear hown3 hg3 hat3 hi6 hz0 hz1 hz2; go_roundw
       case rel=>exact⟨i+1,by go_num,by omega,MLN,HXN⟩
       case measure=>simp[intOf];omega
      ·have q5:(n.k==5)=false:=by simpa using e5
       by_cases e6:n.k=6
       ·have q6:(n.k==6)=true:=by simp[e6]
        have q7:(n.k==7)=false:=by rw[e6];rfl
        clear e5 e6; have AG:=zh (zeQ T tc d wr HM1.out); go_wp2_with fail; refine AG.out.mono ?_; rintro e w2 ⟨T2,tc2,rfl,hm2,_,x2⟩; have HM2:=zh (hm2.low (Nat.zero_le _)); have HX4:Hid (Ext wr w2):=zh x2; clear hm2 x2 AG; have k0:=zy k0 kl HX4.out; have kl:=Nat.lt_of_lt_of_le kl HX4.out.size; go_upto_region 21 with fail; have HXF:Hid (Ext w w2):=zh (HX3.out.trans HX4.out); have MLF:Hid (zal w2 w.heap.size u5 i):=zh (ML2.out.ext HX4.out)
        obtain⟨vs,h1,h2⟩:=MLF.out
        have H1:=zh h1; have H2:=zh h2
        obtain⟨i6,hi6,hz0,hz1,hz2⟩:=info_parts jw
        have HI6:Hid (True):=zh trivial; have C3:=xp w2 41 w2.heap.size #[.slice T2 1 tc2] [.slice T2 1 tc2] rfl rfl; have HC3:=zh C3; have XA:Ext w2 (w2.alloc (.cells #[.slice T2 1 tc2] 41)):=xi; have HXA:=zh XA; clear h1 h2 C3 XA; go_wp2_with (at_builtin;refine zE _ (by rfl) (.tmp 111) (.tmp 113) 184 rfl w.heap.size 41 i6 _ 1 24 Tryz.underlying184 hi6 hz0 hz1 hz2 rfl (by omega) u5 i vs rfl (yv H1.out HXA.out) (some ⟨w2.heap.size,0,none⟩) 1 1 [.slice T2 1 tc2] rfl (by intro h;cases h) rfl HC3.out (by intro u hu;obtain rfl:=List.mem_singleton.1 hu;rfl) (by unfold maxLen;omega) (by omega) (by have:=HXF.out.size;simp<;>omega) ?_;intro v3 w3 hown3 hg3 hat3)
        have MLN:=zh (zal.grown (yv H1.out HXA.out) (fun j u hu=>by obtain⟨A,c,d,hu,hm⟩:=H2.out j u hu;exact⟨A,c,d,hu,hm.ext HXA.out⟩) rfl (HM2.out.ext HXA.out) hown3 hg3); have HXN:=zh ((HXF.out.trans HXA.out).grown hg3 (fun g hg=>zV H1.out g hg)); clear hown3 hg3 hat3 hi6 hz0 hz1 hz2; go_roundw
        case rel=>exact⟨i+1,by go_num,by omega,MLN,HXN⟩
        case measure=>simp[intOf];omega
       ·have q6:(n.k==6)=false:=by simpa using e6
        by_cases e7:n.k=7
        ·have q7:(n.k==7)=true:=by simp[e7]
         clear e5 e6 e7; have PB:=zh (jT true wr); go_wp2_with fail; refine PB.out.mono ?_; rintro e w5 ⟨T5,tc5,rfl,hm,_,x⟩; have EB:=zh (YY T T5 tc tc5 d true w5 (HM1.out.ext x) (hm.low (Nat.zero_le _))); have HX5:Hid (Ext wr w5):=zh ((Ext.refl wr).trans x); clear hm x PB; go_wp2_with fail; refine EB.out.mono ?_; rintro e w6 ⟨T6,tc6,rfl,hm,_,x⟩; have HM6:=zh (hm.low (Nat.zero_le _)); have HX6:Hid (Ext wr w6):=zh (HX5.out.trans x); clear hm x EB; go_upto_region 21 with fail; have HXF:Hid (Ext w w6):=zh (HX3.out.trans HX6.out); have MLF:Hid (zal w6 w.heap.size u5 i):=zh (ML2.out.ext HX6.out)
         obtain⟨vs,h1,h2⟩:=MLF.out
         have H1:=zh h1; have H2:=zh h2
         obtain⟨i6,hi6,hz0,hz1,hz2⟩:=info_parts jw
         have HI6:Hid (True):=zh trivial; have C3:=xp w6 41 w6.heap.size #[.slice T6 1 tc6] [.slice T6 1 tc6] rfl rfl; have HC3:=zh C3; have XA:Ext w6 (w6.alloc (.cells #[.slice T6 1 tc6] 41)):=xi; have HXA:=zh XA; clear h1 h2 C3 XA; go_wp2_with (at_builtin;refine zE _ (by rfl) (.tmp 111) (.tmp 113) 184 rfl w.heap.size 41 i6 _ 1 24 Tryz.underlying184 hi6 hz0 hz1 hz2 rfl (by omega) u5 i vs rfl (yv H1.out HXA.out) (some ⟨w6.heap.size,0,none⟩) 1 1 [.slice T6 1 tc6] rfl (by intro h;cases h) rfl HC3.out (by intro u hu;obtain rfl:=List.mem_singleton.1 hu;rfl) (by unfold maxLen;omega) (by omega) (by have:=HXF.out.size;simp<;>omega) ?_;intro v3 w3 hown3 hg3 hat3)
         have MLN:=zh (zal.grown (yv H1.out HXA.out) (fun j u hu=>by obtain⟨A,c,d,hu,hm⟩:=H2.out j u hu;exact⟨A,c,d,hu,hm.ext HXA.out⟩) rfl (HM6.out.ext HXA.out) hown3 hg3); have HXN:=zh ((HXF.out.trans HXA.out).grown hg3 (fun g hg=>zV H1.out g hg)); clear hown3 hg3 hat3 hi6 hz0 hz1 hz2; go_roundw
         case rel=>exact⟨i+1,by go_num,by omega,MLN,HXN⟩
         case measure=>simp[intOf];omega
        ·have q7:(n.k==7)=false:=by simpa using e7
         clear e5 e6 e7; go_upto_region 21 with fail; have HXF:Hid (Ext w wr):=zh (HX3.out.trans (Ext.refl wr)); have MLF:Hid (zal wr w.heap.size u5 i):=zh (ML2.out.ext (Ext.refl wr))
         obtain⟨vs,h1,h2⟩:=MLF.out
         have H1:=zh h1; have H2:=zh h2
         obtain⟨i6,hi6,hz0,hz1,hz2⟩:=info_parts jw
         have HI6:Hid (True):=zh trivial; have C3:=xp wr 41 wr.heap.size #[.slice T 1 tc] [.slice T 1 tc] rfl rfl; have HC3:=zh C3; have XA:Ext wr (wr.alloc (.cells #[.slice T 1 tc] 41)):=xi; have HXA:=zh XA; clear h1 h2 C3 XA; go_wp2_with (at_builtin;refine zE _ (by rfl) (.tmp 111) (.tmp 113) 184 rfl w.heap.size 41 i6 _ 1 24 Tryz.underlying184 hi6 hz0 hz1 hz2 rfl (by omega) u5 i vs rfl (yv H1.out HXA.out) (some ⟨wr.heap.size,0,none⟩) 1 1 [.slice T 1 tc] rfl (by intro h;cases h) rfl HC3.out (by intro u hu;obtain rfl:=List.mem_singleton.1 hu;rfl) (by unfold maxLen;omega) (by omega) (by have:=HXF.out.size;simp<;>omega) ?_;intro v3 w3 hown3 hg3 hat3)
         have MLN:=zh (zal.grown (yv H1.out HXA.out) (fun j u hu=>by obtain⟨A,c,d,hu,hm⟩:=H2.out j u hu;exact⟨A,c,d,hu,hm.ext HXA.out⟩) rfl (HM1.out.ext HXA.out) hown3 hg3); have HXN:=zh ((HXF.out.trans HXA.out).grown hg3 (fun g hg=>zV H1.out g hg)); clear hown3 hg3 hat3 hi6 hz0 hz1 hz2; go_roundw
         case rel=>exact⟨i+1,by go_num,by omega,MLN,HXN⟩
         case measure=>simp[intOf];omega
  ·obtain rfl:i=m:=by omega
   go_wp2_with fail; go_ret
   exact⟨_,rfl,ML.out,HX.out⟩
set_option maxRecDepth 100000 in
set_option maxHeartbeats 2000000 in
theorem zdy (v:Value)(ns:List Nod)(w:World)(h:YI w v ns)(hl:ns.length≤100000):Calls Tryz.prog 78 #[v,.string ⟨#[]⟩] w (za4 w):=by
 have CK:=zh (J3 v ns w h hl)
 obtain⟨m,hm⟩:∃m,ns.length=m:=⟨_,rfl⟩
 have HM:=zh hm
 obtain⟨A,c,hv,_⟩:=h.row
 have H:=zh h
 rw[hm]at hv
 subst hv; have hsz:(⟨#[]⟩:ByteArray).size=0:=rfl; clear h hm; go_in
 go_wp2_with fail; refine CK.out.mono ?_; rintro e w1 ⟨er,rfl,hok,x1⟩; have OK:=zh hok; have H1:=zh (H.out.ext x1); have HX:=zh x1; clear hok x1 CK; by_cases e0:er=0
 ·have q:(er !=0)=false:=by simp[e0]
  have HO:=zh (OK.out e0); have WY:=zh (zje _ ns w1 H1.out HO.out)
  rw[HM.out]at WY
  have hmp:0 < m∧m≤512:=by
   have h1:=HO.out.pos; have h2:=HO.out.most
   have:=HM.out
   omega
  clear e0; go_wp2_with fail; refine WY.out.mono ?_; rintro e w2 ⟨av,rfl,ml,x2⟩
  obtain⟨g,ac,T,k,d,rfl,gl,c0,hm1⟩:=ml.get (q:=m - 1) (by omega)
  obtain⟨g2,o2,h2,p2,d2,rfl,lg2,lh2,y2,z2,_⟩:=hm1.open_
  have HX2:=zh (HX.out.trans x2); have e1:wrap64 ((m:Int) - 1)=((m - 1:Nat):Int):=by rw[IntWalk.wrap64_in _ (by omega)];omega
  have hm1':m - 1 < m:=by omega
  clear ml hm1 x2
  obtain⟨m1,hm1⟩:∃k,m - 1=k:=⟨_,rfl⟩
  rw[hm1]at e1 hm1' c0
  go_wp2_with fail; go_ret
  exact⟨_,rfl,HX2.out⟩
 ·have q:(er !=0)=true:=by simpa using e0
  clear e0; go_wp2_with fail; go_ret
  exact⟨false,rfl,HX.out⟩
set_option maxRecDepth 100000 in
set_option maxHeartbeats 1000000 in
theorem zcR (v:Value)(ns:List Nod)(w:World)(h:YI w v ns)(hl:ns.length≤100000):Calls Tryz.prog 46 #[v] w (za4 w):=by
 have MA:=zh (zdy v ns w h hl); clear h; go_in
 go_wp2_with fail; refine MA.out.mono ?_; rintro e w1 ⟨d,rfl,x⟩; have HX:=zh x; clear x MA; go_wp2_with fail; go_ret
 exact⟨d,rfl,HX.out⟩
theorem xj.at_ {w:World}{base:Nat}{v:Value}{zs:List Int}(h:xj w base v zs)(h0:0 < zs.length):∃g c,v=.slice (some ⟨g,0,none⟩) zs.length c∧g < w.heap.size∧base≤g∧(∀j,w.frozen? ⟨g,j,none⟩=false)∧(∀(j:Nat) (x:Int),zs[j]?=some x→w.cell? ⟨g,j,none⟩=some (.int .i64 x))∧∀(j:Nat) (x:Int),xj (w.setCell ⟨g,j,none⟩ (.int .i64 x)) base v (zs.set j x):=by
 have ho:=h.ownU
 obtain⟨g,c,hv,hb,hg,_,hf,hc⟩:=qw ho h0
 refine⟨g,c,hv,hg,hb,hf,fun j x hx=>hc j _ (by rw[iv,List.getElem?_map,hx];rfl),fun j x=>?_⟩
 subst hv
 refine⟨some ⟨g,0,none⟩,c,by rw[List.length_set],?_⟩
 have:=Qw ho j (.int .i64 x)
 unfold vr
 rw[List.length_set]
 rwa[show iv (zs.set j x)=(iv zs).set j (.int .i64 x)by simp[iv]]
theorem zd2 {xs:List Int}{k:Nat}{p q:Int}(h1:xs[k]?=some p)(h2:xs[k+1]?=some q):((xs.set k q).set (k+1) p).Perm xs:=by
 obtain⟨l1,e1⟩:=List.getElem?_eq_some_iff.1 h1
 obtain⟨l2,e2⟩:=List.getElem?_eq_some_iff.1 h2
 have hd:xs=xs.take k++p ::q ::xs.drop (k+2):=by
  conv=>lhs;rw[←List.take_append_drop k xs,List.drop_eq_getElem_cons l1,List.drop_eq_getElem_cons l2,e1,e2]
 have hs:(xs.set k q).set (k+1) p=xs.take k++q ::p ::xs.drop (k+2):=by
  apply List.ext_getElem?
  intro j; have hlen:(xs.take k).length=k:=by rw[List.length_take];omega
  by_cases hj:j < k
  ·rw[List.getElem?_set_ne (by omega),List.getElem?_set_ne (by omega),List.getElem?_append_left (by omega),List.getElem?_take_of_lt hj]
  ·rw[List.getElem?_append_right (by omega),hlen]
   by_cases hj0:j=k
   ·subst hj0
    rw[List.getElem?_set_ne (by omega),List.getElem?_set_self l1,Nat.sub_self]
    rfl
   ·by_cases hj1:j=k+1
    ·subst hj1
     rw[List.getElem?_set_self (by rw[List.length_set];exact l2),show k+1 - k=1 by omega]
     rfl
    ·rw[List.getElem?_set_ne (by omega),List.getElem?_set_ne (by omega)]
     obtain⟨d,rfl⟩:∃d,j=k+2+d:=⟨j - (k+2),by omega⟩
     rw[show k+2+d - k=d+2 by omega]
     show _=(xs.drop (k+2))[d]?
     rw[List.getElem?_drop]
 rw[hs]
 conv=>rhs;rw[hd]
 exact List.Perm.append_left _ (List.Perm.swap _ _ _)
def xU (xs ys zs:List Int):Prop:=(∀x,x∈zs↔x∈xs∨x∈ys)∧(xs.Nodup→zs.Nodup)∧zs.length≤xs.length+ys.length
theorem xU.perm {xs ys zs us:List Int}(h:xU xs ys zs)(p:us.Perm zs):xU xs ys us:=
 ⟨fun x=>by rw[p.mem_iff];exact h.1 x,fun hn=>p.nodup_iff.2 (h.2.1 hn),by rw[p.length_eq];exact h.2.2⟩
theorem xU.nil (xs:List Int):xU xs [] xs:=⟨fun x=>by simp,fun h=>h,by simp⟩
theorem xU.skip {xs ys zs:List Int}{k:Nat}{y:Int}(h:xU xs (ys.take k) zs)(ht:ys.take (k+1)=ys.take k++[y])(hy:y∈zs):xU xs (ys.take (k+1)) zs:=by
 refine⟨fun x=>?_,h.2.1,by rw[ht,List.length_append];have:=h.2.2;omega⟩
 rw[ht,List.mem_append,List.mem_singleton,h.1]
 constructor
 ·rintro(h|h)
  ·exact .inl h
  ·exact .inr (.inl h)
 ·rintro(h1|h1|rfl)
  ·exact .inl h1
  ·exact .inr h1
  ·exact(h.1 x).1 hy
theorem xU.add {xs ys zs:List Int}{k:Nat}{y:Int}(h:xU xs (ys.take k) zs)(ht:ys.take (k+1)=ys.take k++[y])(hy:y∉zs):xU xs (ys.take (k+1)) (zs++[y]):=by
 refine⟨fun x=>?_,fun hn=>?_,by rw[ht,List.length_append,List.length_append];have:=h.2.2;simp only[List.length_cons,List.length_nil];omega⟩
 ·rw[ht,List.mem_append,List.mem_append,List.mem_singleton,h.1]
  constructor
  ·rintro((h|h)|h)
   ·exact .inl h
   ·exact .inr (.inl h)
   ·exact .inr (.inr h)
  ·rintro(h|h|h)
   ·exact .inl (.inl h)
   ·exact .inl (.inr h)
   ·exact .inr h
 ·rw[List.nodup_append]
  exact⟨h.2.1 hn,by simp,fun a ha b hb he=>by
   rw[List.mem_singleton]at hb
   subst hb he; exact hy ha⟩
def zgw (w:World)(xs ys:List Int)(e:Ending)(w':World):Prop:=∃zs,xU xs ys zs∧Yb w zs e w'
set_option maxRecDepth 100000 in
set_option maxHeartbeats 4000000 in
theorem zfg (A B:Option Addr)(c d:Nat)(xs ys:List Int)(w:World)(hA:xW w A xs)(hB:xW w B ys)(hA0:A=none→c=0)(hl:xs.length+ys.length≤100000):
 Calls Tryz.prog 81 #[.slice A xs.length c,.slice B ys.length d] w (zgw w xs ys):=by
 have HA:=zh hA; have HB:=zh hB; have HA0:=zh hA0; clear hA hB hA0; go_in
 go_wp2_with (at_builtin;refine Jk w (by rfl) (.tmp 9) (.tmp 10) rfl (Yi w _ (Nat.le_refl _)) xs A c rfl rfl HA0.out (HA.out.ext xi) (by simp only[List.length_nil];omega) xi ?_;intro v3 w3 hr3 _ hx3)
 rw[List.nil_append]at hr3
 have HR3:=zh hr3; have HX3:=zh hx3; clear hr3 hx3 HA HA0; go_loopw [5,6] (fun v i wr=>∃(k:Nat) (zs:List Int),k≤ys.length∧i=.int .i64 k∧Hid (xj wr w.heap.size v zs)∧Hid (xU xs (ys.take k) zs)∧Hid (Ext w wr)) (fun _ i _=>ys.length - (intOf i).toNat)
 case atStart=>exact⟨0,xs,Nat.zero_le _,rfl,HR3,zh (by rw[List.take_zero];exact xU.nil xs),HX3⟩
 case round=>
  obtain⟨k,zs,hk,rfl,hv,hu,hx⟩:=hrel
  clear HR3 HX3; have HZL:Hid (zs.length≤100000):=zh (by have:=hu.out.2.2;rw[List.length_take]at this;omega); by_cases hlt:k < ys.length
  ·obtain⟨b,off,rfl,hb,hc⟩:=(HB.out.ext hx.out) (by omega)
   have x0:=hc k hlt; have HT:=zh (qu hlt)
   obtain⟨y,hyy⟩:∃y,ys.getD k 0=y:=⟨_,rfl⟩
   rw[hyy]at x0 HT
   obtain⟨A5,c5,rfl,ho5⟩:=hv.out
   have CI:=zi6 A5 c5 zs y wr ho5.ints.1 (by have:=HZL.out;omega)
   obtain⟨dm,hdm⟩:∃dm,decide (y∈zs)=dm:=⟨_,rfl⟩
   rw[hdm]at CI
   have HDM:=zh hdm; have HCI:=zh CI; clear hc hyy ho5 CI hdm; cases dm with
   |true=>
    have HY:Hid (y∈zs):=zh (of_decide_eq_true HDM.out); go_wp2_with fail; refine HCI.out.mono ?_; rintro e w6 ⟨rfl,hx6⟩; have HV6:=zh (hv.out.ext hx6); have HX6:=zh (hx.out.trans hx6); clear hx6 x0 hb hv HCI; go_wp2_with fail; go_roundw
    case rel=>exact⟨k+1,zs,by omega,by go_num,HV6,zh (hu.out.skip HT.out HY.out),HX6⟩
    case measure=>simp[intOf];omega
   |false=>
    have HY:Hid (y∉zs):=zh (of_decide_eq_false HDM.out); go_wp2_with fail; refine HCI.out.mono ?_; rintro e w6 ⟨rfl,hx6⟩; have x6:=zy x0 hb hx6; have lb6:=Nat.lt_of_lt_of_le hb hx6.size; have HV6:=zh (hv.out.ext hx6); have HX6:=zh (hx.out.trans hx6); clear hx6 x0 hb hv HCI; go_wp2_with (at_builtin;refine zhO w (by rfl) (.tmp 25) (.tmp 30) rfl (HV6.out.ext xi) y w6.heap.size rfl rfl (by simp) (by rw[cr 0 (heap_alloc_new w6 (.cells #[.int .i64 y] 3))];rfl) (by have:=HZL.out;omega) (HX6.out.trans xi) ?_;intro v7 w7 hr7 _ hx7)
    have HR7:=zh hr7; have HX7:=zh hx7; clear hr7 hx7; go_roundw
    case rel=>exact⟨k+1,zs++[y],by omega,by go_num,HR7,zh (hu.out.add HT.out HY.out),HX7⟩
    case measure=>simp[intOf];omega
  ·obtain rfl:k=ys.length:=by omega
   have HU:Hid (xU xs ys zs):=zh (by have:=hu.out;rwa[List.take_length]at this)
   obtain⟨A5,c5,rfl,ho5⟩:=id hv.out
   obtain⟨n,hn⟩:∃n,zs.length=n:=⟨_,rfl⟩
   have HN:=zh hn; have hnb:n≤100000:=by have:=HZL.out;omega
   rw[hn]at hv ⊢
   clear ho5 hu hn HZL; go_wp2_with fail; go_loopw [7] (fun i w2=>∃(k:Nat) (us:List Int),1≤k∧i=.int .i64 k∧Hid (us.Perm zs)∧Hid (xj w2 w.heap.size (.slice A5 n c5) us)∧Hid (Ext w w2)) (fun i _=>n - (intOf i).toNat)
   case atStart=>exact⟨1,zs,by omega,rfl,zh (List.Perm.refl _),hv,hx⟩
   case round=>
    clear hv hx
    obtain⟨k,us,hk1,rfl,HP,hv,hx⟩:=hrel
    by_cases hlk:k < n
    ·go_wp2_with fail; go_loopw [8] (fun i w2=>∃(j:Nat) (us:List Int),j≤k∧i=.int .i64 j∧Hid (us.Perm zs)∧Hid (xj w2 w.heap.size (.slice A5 n c5) us)∧Hid (Ext w w2)) (fun i _=>(intOf i).toNat)
     case atStart=>exact⟨k,us,Nat.le_refl _,rfl,HP,hv,hx⟩
     case round=>
      clear HP hv hx us
      obtain⟨j,us,hjk,rfl,HP,hv,hx⟩:=hrel
      have hul:us.length=n:=by rw[HP.out.length_eq];exact HN.out
      by_cases hj0:j=0
      ·subst hj0; have d2:decide (((0:Nat):Int) > 0)=false:=rfl; go_upto_region 11 with fail; refine zg (14) (zd [0,1,2,3,4,5,6,8,9,10] (zj [7,11,12,13] .fin)) (by kernel_rfl) (by kernel_rfl) ?_; (repeat first|refine yq ?_|refine yr ?_)
       refine zv ?_; go_wp2_with fail; go_roundw
       case rel=>exact⟨k+1,us,by omega,by go_num,HP,zh (hv.out.ext xi),zh (hx.out.trans xi)⟩
       case measure=>simp[intOf];omega
      ·obtain⟨i,rfl⟩:∃i,j=i+1:=⟨j - 1,by omega⟩
       obtain⟨g,cc,hs,hgl,hgb,hgf,hgc,hgs⟩:=hv.out.at_ (by omega)
       obtain⟨p,hp⟩:∃p,us[i]?=some p:=⟨_,List.getElem?_eq_getElem (by omega)⟩
       obtain⟨q,hq⟩:∃q,us[i+1]?=some q:=⟨_,List.getElem?_eq_getElem (by omega)⟩
       have y0:=hgc i p hp; have y1:=hgc (i+1) q hq; injection hs with hs _ hc5; subst hs; have e1:wrap64 (((i+1:Nat):Int) - 1)=(i:Int):=by rw[IntWalk.wrap64_in _ (by omega)];omega
       have d2:decide (0 < i+1)=true:=by simp
       have hin:i < n:=by omega
       have hin1:i+1 < n:=by omega
       have HP1:=zh hp; have HQ1:=zh hq; have HGB:=zh hgb; have HGS:=zh hgs; have HUL:=zh hul; clear hgc hp hq hgs hgb hul; by_cases hpq:q < p
       ·have d1:decide (q < p)=true:=decide_eq_true hpq; go_upto_region 11 with fail; refine zg (14) (zd [0,1,2,3,4,5,6,8,9,10] (zj [7,11,12,13] .fin)) (by kernel_rfl) (by kernel_rfl) ?_; (repeat first|refine yq ?_|refine yr ?_)
        refine zv ?_
        obtain⟨W2,hW2⟩:∃W2,wr.drew=W2:=⟨_,rfl⟩
        have y0:W2.cell? ⟨g,i,none⟩=some (.int .i64 p):=by rw[←hW2];exact y0
        have y1:W2.cell? ⟨g,i+1,none⟩=some (.int .i64 q):=by rw[←hW2];exact y1
        have lg2:g < W2.heap.size:=by rw[←hW2];exact hgl
        have f2:∀j,W2.frozen? ⟨g,j,none⟩=false:=by rw[←hW2];exact hgf
        have hv2:=zh (hv.out.ext (show Ext wr W2 from by rw[←hW2];exact xi)); have hx2:=zh (hx.out.trans (show Ext wr W2 from by rw[←hW2];exact xi))
        rw[hW2]
        clear hW2 d1 d2 hgf hgl hv hx; have fd:∀j,W2.drew.frozen? ⟨g,j,none⟩=false:=f2; have z1:(W2.drew.setCell ⟨g,i,none⟩ (.int .i64 q)).cell? ⟨g,i+1,none⟩=some (.int .i64 q):=by
         have:=(hv2.out.at_ (by have:=HUL.out;omega))
         obtain⟨g',c',hs',_,_,_,_,hst⟩:=this
         injection hs' with hs' _ _; injection hs' with hs'; injection hs' with hs'; subst hs'
         obtain⟨g3,c3,hs3,_,_,_,hc3,_⟩:=(hst i q).at_ (by rw[List.length_set];have:=HUL.out;omega)
         injection hs3 with hs3 _ _; injection hs3 with hs3; injection hs3 with hs3; subst hs3; exact hc3 (i+1) q (by rw[List.getElem?_set_ne (by omega)];exact HQ1.out)
        go_upto_region 13 with fail; refine zg (15) (zd [0,1,2,3,4,5,6,7,9,10,11,12] (zj [8,13,14] (.step 15 (zd [16] (.late 17 .fin))))) (by kernel_rfl) (by kernel_rfl) ?_; (repeat first|refine yq ?_|refine yr ?_)
        refine zp fun next hn=>?_;simp only[pick,yp]; go_wp2_with fail; refine zk (fun h=>absurd rfl h) (hn _ _ ?_); clear hn next; (repeat first|refine yq ?_|refine yr ?_)
        have f3:(W2.drew.setCell ⟨g,i,none⟩ (.int .i64 q)).frozen? ⟨g,i+1,none⟩=false:=by
         obtain⟨g',c',hs',_,_,_,_,hst⟩:=hv2.out.at_ (by have:=HUL.out;omega)
         injection hs' with hs' _ _; injection hs' with hs'; injection hs' with hs'; subst hs'
         obtain⟨g3,c3,hs3,_,_,hf3,_,_⟩:=(hst i q).at_ (by rw[List.length_set];have:=HUL.out;omega)
         injection hs3 with hs3 _ _; injection hs3 with hs3; injection hs3 with hs3; subst hs3; exact hf3 (i+1)
        refine vU fun next hn=>?_;simp only[pick,yp]; go_wp2_with fail; refine zk (fun _=>trivial) (hn _ _ ?_); clear hn next; refine zv ?_; have HV9:Hid (xj ((W2.drew.setCell ⟨g,i,none⟩ (.int .i64 q)).setCell ⟨g,i+1,none⟩ (.int .i64 p)) w.heap.size (.slice (some ⟨g,0,none⟩) n c5) ((us.set i q).set (i+1) p)):=zh (by
         have hd:=hv2.out.ext (xi:Ext W2 W2.drew)
         obtain⟨g',c',hs',_,_,_,_,hst⟩:=hd.at_ (by have:=HUL.out;omega)
         injection hs' with hs' _ _; injection hs' with hs'; injection hs' with hs'; subst hs'
         obtain⟨g3,c3,hs3,_,_,_,_,hst3⟩:=(hst i q).at_ (by rw[List.length_set];have:=HUL.out;omega)
         injection hs3 with hs3 _ _; injection hs3 with hs3; injection hs3 with hs3; subst hs3; exact hst3 (i+1) p)
        have HX9:Hid (Ext w ((W2.drew.setCell ⟨g,i,none⟩ (.int .i64 q)).setCell ⟨g,i+1,none⟩ (.int .i64 p))):=zh (((hx2.out.trans (xi:Ext W2 W2.drew)).setCell HGB.out _).setCell HGB.out _); clear y0 y1 lg2 f2 fd z1 f3 hv2 hx2; go_wp2_with fail; go_roundw
        case rel=>exact⟨i,_,by omega,by go_num,zh ((zd2 HP1.out HQ1.out).trans HP.out),HV9,HX9⟩
        case measure=>simp[intOf]<;>omega
       ·have d1:decide (q < p)=false:=decide_eq_false hpq; go_upto_region 11 with fail; refine zg (14) (zd [0,1,2,3,4,5,6,8,9,10] (zj [7,11,12,13] .fin)) (by kernel_rfl) (by kernel_rfl) ?_; (repeat first|refine yq ?_|refine yr ?_)
        refine zv ?_; clear y0 y1 hgf hgl d1 d2; go_wp2_with fail; go_roundw
        case rel=>exact⟨k+1,us,by omega,by go_num,HP,zh (hv.out.ext xi),zh (hx.out.trans xi)⟩
        case measure=>simp[intOf];omega
    ·go_wp2_with fail; go_ret
     obtain⟨A6,c6,h6,ho6⟩:=hv.out
     exact⟨us,HU.out.perm HP.out,A6,c6,congrArg Ending.returned h6,ho6,hx.out⟩
def qY (m:Nat)(xs:List Int):Prop:=xs.Nodup∧∀x∈xs,0≤x∧x < m
theorem y9 {m:Nat}:∀{xs:List Int},qY m xs→xs.length≤m:=by
 induction m with
 |zero=>
  intro xs h; cases xs with
  |nil=>exact Nat.le_refl _
  |cons x xs=>have:=h.2 x (by simp);omega
 |succ m ih=>
  intro xs h; by_cases hm:(m:Int)∈xs
  ·have p:=List.perm_cons_erase hm; have hl:xs.length=(xs.erase (m:Int)).length+1:=by
    have:=p.length_eq
    simpa using this
   have hn:=p.nodup_iff.1 h.1
   rw[List.nodup_cons]at hn
   have:=ih (xs:=xs.erase (m:Int)) ⟨hn.2,fun x hx=>by
    have h1:=h.2 x (List.mem_of_mem_erase hx)
    have:x≠(m:Int):=fun he=>hn.1 (he▸hx)
    omega⟩
   omega
  ·have:=ih (xs:=xs) ⟨h.1,fun x hx=>by
    have h1:=h.2 x hx
    have:x≠(m:Int):=fun he=>hm (he▸hx)
    omega⟩
   omega
theorem qY.union {m:Nat}{xs ys zs:List Int}(h:qY m xs)(h':qY m ys)(hu:xU xs ys zs):qY m zs:=
 ⟨hu.2.1 h.1,fun x hx=>by
   rcases(hu.1 x).1 hx with h1|h1
   ·exact h.2 x h1
   ·exact h'.2 x h1⟩
theorem qY.wide {m m':Nat}{xs:List Int}(h:qY m xs)(hm:m≤m'):qY m' xs:=⟨h.1,fun x hx=>by have:=h.2 x hx;omega⟩
theorem qY.nil (m:Nat):qY m []:=⟨List.nodup_nil,fun _ h=>by cases h⟩
structure ZV (w:World)(nb base:Nat)(cs:List Cl)(nx:List (List Int))(rl:List Int)(cv nv rv:Value):Prop where
 at_:vA w nb base cs.length (cs.flatMap Cl.cells) (iv rl) nx cv nv rv
 nxl:nx.length=cs.length
 rll:rl.length=cs.length
 ok:∀xs∈nx,qY cs.length xs
 cls:∀c∈cs,c.ok
theorem ZV.ext {w w':World}{nb base:Nat}{cs:List Cl}{nx:List (List Int)}{rl:List Int}{cv nv rv:Value}(h:ZV w nb base cs nx rl cv nv rv)(e:Ext w w'):ZV w' nb base cs nx rl cv nv rv:=⟨h.at_.ext e,h.nxl,h.rll,h.ok,h.cls⟩
theorem yN.ints {w:World}{x v:Value}{xs:List Int}(h:yN w x v xs):∃A c,v=.slice A xs.length c∧xW w A xs∧(A=none→c=0):=by
 obtain⟨A,c,h1,h2,_,_,h3,_⟩:=h
 exact⟨A,c,h1,h2,h3⟩
theorem yN.extU {w w':World}{x v:Value}{xs:List Int}(h:yN w x v xs)(e:Ext w w'):yN w' x v xs:=h.keep (zA.of_ext (S:=fun _=>False) e) (fun _ _ _ _ h=>h) x (fun _ h=>.inl h)
theorem vr.sl {w':World}{base:Nat}{A:Option Addr}{c:Nat}{zs:List Int}{x:Value}(h:vr w' base A c zs)(hx:∀g,x.ownBlock=some g→g < base):yN w' x (.slice A zs.length c) zs:=by
 obtain⟨h1,h2,h3,h4⟩:=h.ints
 refine⟨A,c,rfl,h1,h2,by unfold maxLen at h3;omega,h4,fun g off s hA=>?_⟩
 subst hA; have hk:(Value.slice (some ⟨g,off,s⟩) zs.length c).ownBlock=some g:=rfl
 refine⟨zZ h g hk,fun hh=>?_⟩
 have:=hx g hh
 have:=zV h g hk
 omega
set_option maxRecDepth 100000 in
set_option maxHeartbeats 4000000 in
theorem zi0 (nb base:Nat)(cs:List Cl)(nx:List (List Int))(rl:List Int)(cv nv rv lv fv:Value)(ls fs:List Int)(w:World)(hN:ZV w nb base cs nx rl cv nv rv)(hL:yN w rv lv ls)(hF:yN w rv fv fs)(hlo:qY cs.length ls)(hfo:qY cs.length fs)(hm:cs.length≤10000):
 Calls Tryz.prog 117 #[ptr nb,lv,fv] w fun e w'=>e=.returned (.tuple #[])∧(∃nx',ZV w' nb base cs nx' rl cv nv rv)∧zA (fun k=>nv.ownBlock=some k) w w':=by
 obtain⟨L,lc,rfl,hLi,_⟩:=hL.ints
 obtain⟨F,fc,rfl,hFi,_⟩:=hF.ints
 have HL:=zh hL; have HF:=zh hF; have HN:=zh hN; have HLO:=zh hlo; have HFO:=zh hfo; have hll:ls.length≤10000:=Nat.le_trans (y9 hlo) hm; have HFL:Hid (fs.length≤10000):=zh (Nat.le_trans (y9 hfo) hm)
 obtain⟨ln,hln⟩:∃n,ls.length=n:=⟨_,rfl⟩
 obtain⟨fn,hfn⟩:∃n,fs.length=n:=⟨_,rfl⟩
 have HLN:=zh hln; have HFN:=zh hfn
 rw[hln]at hll HL ⊢
 rw[hfn]at HF ⊢
 clear hN hL hF hlo hfo hLi hFi hln hfn; go_in
 go_wp2_with fail; go_loopw [6] (fun iv wr=>∃(i:Nat) (nx':List (List Int)),i≤ln∧iv=.int .i64 i∧Hid (ZV wr nb base cs nx' rl cv nv rv)∧Hid (zA (fun k=>nv.ownBlock=some k) w wr)) (fun iv _=>ln - (intOf iv).toNat)
 case atStart=>exact⟨0,nx,Nat.zero_le _,rfl,HN,zh (zA.refl w)⟩
 case round=>
  obtain⟨i,nx',hi,rfl,HN2,HT⟩:=hrel
  by_cases hlt:i < ln
  ·have keepSl:∀{v:Value} {xs:List Int},yN w rv v xs→yN wr rv v xs:=fun h=>h.keep HT.out (fun g cs' hcs _ hk=>by
    obtain⟨vs,h1,_⟩:=HN.out.at_.nxt
    obtain⟨cur,hcur⟩:=zZ h1 g hk
    exact zU hcs hcur (by decide) rfl) rv (fun _ h=>.inl h)
   obtain⟨L',lc',hle,hLi,_⟩:=(keepSl HL.out).ints
   injection hle with hle1 hle2 hle3; subst hle1 hle3; clear hle2
   obtain⟨gl,ol,rfl,hgl,hcl⟩:=hLi (by have:=HLN.out;omega)
   obtain⟨x,hx⟩:∃x,ls.getD i 0=x:=⟨_,rfl⟩
   have l0:=hcl i (by have:=HLN.out;omega)
   rw[hx]at l0
   have hxr:=HLO.out.2 x (by
    rw[←hx,List.getD_eq_getElem?_getD,List.getElem?_eq_getElem (by have:=HLN.out;omega)]
    exact List.getElem_mem _)
   obtain⟨a,rfl⟩:∃a:Nat,x=a:=⟨x.toNat,by omega⟩
   have ham:a < cs.length:=by omega
   obtain⟨vs,hv1,hv2,hv3⟩:=HN2.out.at_.nxt
   obtain⟨m,hmm⟩:∃m,cs.length=m:=⟨_,rfl⟩
   rw[hmm]at ham hv1
   obtain⟨g,kn,hnv,hg1,hg2,⟨cur,hcur⟩,hg3,hg4⟩:=qw hv1 (by omega)
   have hvl:vs.length=m:=by have:=hv1.1;omega
   obtain⟨v,hv⟩:∃v,vs[a]?=some v:=⟨_,List.getElem?_eq_getElem (by omega)⟩
   obtain⟨xs,hxs⟩:∃xs,nx'[a]?=some xs:=⟨_,List.getElem?_eq_getElem (by omega)⟩
   have hsl:=hv3 a v xs hv hxs
   obtain⟨A,c,rfl,hA,hA0⟩:=hsl.ints
   have hxo:=HN2.out.ok xs (List.mem_of_getElem? hxs)
   obtain⟨F',fc',hfe,hFi,_⟩:=(keepSl HF.out).ints
   injection hfe with hfe1 hfe2 hfe3; subst hfe1 hfe3; clear hfe2; have HU:=zh (fun W (e:Ext wr W)=>by
    have:=zfg A F c fc xs fs W (hA.ext e) (hFi.ext e) hA0 (by have:=y9 hxo;have:=HFL.out;omega)
    rwa[HFN.out]at this)
   have b1:=cr 1 HN2.out.at_.blk; simp at b1
   have lb:=za HN2.out.at_.blk; have n0:=hg4 a _ hv; have HCUR:=zh hcur; have HXS:=zh hxs; have HXO:=zh hxo; have HMM:=zh hmm; have HNV:=zh hnv
   rw[hnv]at b1
   have ha5:a < 100000:=by omega
   clear hLi hcl hx hxr hv1 hv2 hv3 hvl hv hxs hsl hA hA0 hxo hFi hmm hnv hg1 hg3 hg4 hcur keepSl; go_upto_region 3 with fail; refine zg (21) (zd [0,1,2,4,5,6,8,9,10,12,13,14,18] (zj [3,7,11,15,16,17] (.step 19 (zd [20] (.step 21 .fin))))) (by kernel_rfl) (by kernel_rfl) ?_; (repeat first|refine yq ?_|refine yr ?_)
   refine zp fun next hn=>?_;simp only[pick,yp]; go_wp2_with fail
   refine(HU.out _ xi).mono ?_
   rintro e w2 ⟨zs,hzu,A2,c2,rfl,ho2,hx2⟩; have Y2:Hid (Ext wr w2):=zh (Ext.trans xi hx2); have HO2:=zh ho2; have HZU:=zh hzu; clear ho2 hx2 hzu HU; go_wp2_with fail; refine zk (fun _=>yZ Y2.out) (hn _ _ ?_); clear hn next; (repeat first|refine yq ?_|refine yr ?_)
   have HI2:Hid (yN w2 rv (.slice A2 zs.length c2) zs):=zh (HO2.out.sl (fun k hk=>by
    have:=z8 HN2.out.at_.rul k hk
    exact this))
   obtain⟨W3,hW3⟩:∃W3,w2.setCell ⟨g,a,none⟩ (.slice A2 zs.length c2)=W3:=⟨_,rfl⟩
   have HN3:Hid (ZV W3 nb base cs (nx'.set a zs) rl cv nv rv):=zh (by
    have h1:=HN2.out.at_.ext Y2.out
    rw[HNV.out,HMM.out]at h1
    have h2:=h1.setNext a HI2.out
    rw[hW3]at h2
    refine⟨by rw[HNV.out,HMM.out];exact h2,by rw[List.length_set];exact HN2.out.nxl,HN2.out.rll,fun ys hys=>?_,HN2.out.cls⟩
    rcases List.mem_or_eq_of_mem_set hys with hys|rfl
    ·exact HN2.out.ok ys hys
    ·exact HXO.out.union HFO.out HZU.out)
   have HT3:Hid (zA (fun k=>nv.ownBlock=some k) w W3):=zh (HT.out.trans (by rw[←hW3,HNV.out];exact(zA.of_ext Y2.out).trans ((zA.set1 g a _).mono fun k _ hk=>by rw[hk];rfl))); have n2:=zy n0 hg2 Y2.out; have f2:=zi (zb HCUR.out Y2.out) a; clear n0 l0 b1 lb; refine zp fun next hn=>?_;simp only[pick,yp]; go_wp2_with fail; refine zk (fun h=>absurd rfl h) (hn _ _ ?_); clear hn next; refine zv ?_; try simp only[hW3]
   clear hW3 n2 f2; go_wp2_with fail; go_roundw
   case rel=>exact⟨i+1,_,by omega,by go_num,HN3,HT3⟩
   case measure=>simp[intOf];omega
  ·obtain rfl:i=ln:=by omega
   go_wp2_with fail; exact bodyPost_end (results_none rfl _ _ _) rfl ⟨rfl,⟨nx',HN2.out⟩,HT.out⟩
theorem Zq {w:World}{g:Nat}{cs:Array Value}{T:TypeId}(h:w.heap[g]?=some (.cells cs T)):yI w (some ⟨g,0,none⟩) cs.toList:=fun _=>
 ⟨g,0,rfl,za h,fun k u hk=>by
   simp only[Nat.zero_add]
   exact(cell_of_row _ _ k _ _ (0,0) h).trans (by simpa using hk)⟩
theorem zhK {W V V':World}{base nb xb:Nat}{xcs:Array Value}{cv nv rv c' n' r':Value}{ns0:List Value}{nx:List (List Int)}{m:Nat}{cc rc:List Value}(h:St W base nb xb xcs cv nv rv ns0 nx V c' (m+1) cc n' (m+1) (ns0++[zH]) r' (m+1) rc)(hb:W.heap[nb]?=some (.cells #[cv,nv,rv] 108))(hne:∀k,(cv.ownBlock=some k∨nv.ownBlock=some k∨rv.ownBlock=some k)→k≠nb)(hlow:base≤nb)(hnl:ns0.length=nx.length)
 (gc:c'.ownBlock=cv.ownBlock∨∃g,c'.ownBlock=some g∧W.heap.size≤g∧g < V'.heap.size) {V2 V3:World} (gn:n'.ownBlock=nv.ownBlock∨∃g,n'.ownBlock=some g∧W.heap.size≤g∧g < V2.heap.size) (gr:r'.ownBlock=rv.ownBlock∨∃g,r'.ownBlock=some g∧W.heap.size≤g∧g < V3.heap.size):
 Hid (vA (y8 V nb c' n' r') nb base (m+1) cc rc (nx++[[]]) c' n' r')∧Hid (zA (Zf nb cv nv rv) W (y8 V nb c' n' r'))∧Hid (∀g,Zf nb c' n' r' g→Zf nb cv nv rv g∨W.heap.size≤g)∧Hid ((∀g,r'.ownBlock=some g→g < (y8 V nb c' n' r').heap.size)∧∀g,r'.ownBlock=some g→rv.ownBlock=some g∨W.heap.size≤g):=by
 obtain⟨h1,h2,h3,h4⟩:=zhY h hb hne hlow hnl gc gn gr
 refine⟨h1,h2,h3,zh ⟨h4.out,fun g hg=>?_⟩⟩
 rcases gr with he|⟨k,he,hk,_⟩
 ·exact .inl (he▸hg)
 ·rw[he]at hg
  injection hg with hg; exact .inr (by omega)
def zgq (w:World)(nb base m:Nat)(cc rc:List Value)(nx:List (List Int))(cv nv rv:Value)(z:Cl)(e:Ending)(w':World):Prop:=
 ∃f l cv' nv' rv',e=.returned (.agg #[.bool false,.slice (some ⟨f,0,none⟩) 1 1,.slice (some ⟨l,0,none⟩) 1 1])∧w.heap.size≤f∧w.heap.size≤l∧
  w'.heap[f]?=some (.cells #[.int .i64 m] 3)∧w'.heap[l]?=some (.cells #[.int .i64 m] 3)∧vA w' nb base (m+1) (cc++z.cells) (rc++[.int .i64 (-1)]) (nx++[[]]) cv' nv' rv'∧zA (Zf nb cv nv rv) w w'∧
  rv'.ownBlock≠some f∧rv'.ownBlock≠some l∧(∀g,Zf nb cv' nv' rv' g→Zf nb cv nv rv g∨w.heap.size≤g)∧(∀g,rv'.ownBlock=some g→rv.ownBlock=some g∨w.heap.size≤g)
set_option maxRecDepth 100000 in
set_option maxHeartbeats 16000000 in
theorem zcC (g off c len i:Nat)(n:Nod)(nb base m:Nat)(cc rc:List Value)(nx:List (List Int))(cv nv rv:Value)(w:World)(h:JX w g (off+i*6) n)(hkk:n.k=2)(hil:i < len)(hN:vA w nb base m cc rc nx cv nv rv)(hm:m≤100000):
 Calls Tryz.prog 80 #[ptr nb,.slice (some ⟨g,off,none⟩) len c,.int .i64 i] w (zgq w nb base m cc rc nx cv nv rv n.c):=by
 obtain⟨nk,z,kA,kids,kcc⟩:=n
 dsimp only at hkk; subst hkk
 obtain⟨x0,x1,x2,x3,x4,x5,lg⟩:=h
 dsimp only at x0 x1 x2 x3 x4 x5 ⊢
 obtain⟨ns0,hns,hnl,hin⟩:=hN.nxt
 obtain⟨Ac,kc,rfl,hca,hcb,hcd,hce⟩:=zW hN.cls
 obtain⟨An,kn,rfl,_,_,_,_⟩:=zW hns
 obtain⟨Ar,kr,rfl,_,_,_,_⟩:=zW hN.rul
 have HN:=zh hN; have HNS:=zh hns; have HIN:=zh hin; have HNL:=zh hnl; have HLE:Hid (base≤w.heap.size):=zh (by have:=hN.low;have:=za hN.blk;omega)
 obtain⟨xcs,hxcs⟩:∃xcs:Array Value,#[.int .i64 2,.int .u64 z.a,.int .u64 z.b,.int .u64 z.c,.int .u64 z.d,.slice kA kids.length kcc]=xcs:=⟨_,rfl⟩
 have HXC:=zh hxcs; clear hN hns hnl hin hca hcb hcd hce hxcs; go_in
 go_upto_region 2 with fail
 obtain⟨W,hW⟩:∃W,(w.alloc (.cells #[.bool false,zH,zH] 148)).alloc (.cells #[.int .i64 2,.int .u64 z.a,.int .u64 z.b,.int .u64 z.c,.int .u64 z.d,.slice kA kids.length kcc] 189)=W:=⟨_,rfl⟩
 obtain⟨pb,hpb⟩:∃pb,w.heap.size=pb:=⟨_,rfl⟩
 have X1:Ext w W:=by rw[←hW];exact xi
 have P0:W.heap[pb]?=some (.cells #[.bool false,zH,zH] 148):=by rw[←hW,←hpb];exact(by simp only[zm,World.size_alloc];(repeat(split;(first|rfl|(exfalso;omega))));(try(first|(exfalso;omega)|simp_all)))
 have Q0:W.heap[pb+1]?=some (.cells #[.int .i64 2,.int .u64 z.a,.int .u64 z.b,.int .u64 z.c,.int .u64 z.d,.slice kA kids.length kcc] 189):=by rw[←hW,←hpb];exact(by simp only[zm,World.size_alloc];(repeat(split;(first|rfl|(exfalso;omega))));(try(first|(exfalso;omega)|simp_all)))
 have hsz:W.heap.size=pb+2:=by rw[←hW,←hpb];simp
 have HX1:=zh X1; have HP0:=zh P0; have HPB:=zh hpb; have HSZ:=zh hsz; have HN1:=zh (HN.out.ext X1); have B0:=zh HN1.out.blk; have q0:=cr 0 Q0; simp at q0
 have lq:=za Q0; have b0:=cr 0 B0.out; have b1:=cr 1 B0.out; have b2:=cr 2 B0.out; have lb:=za B0.out; simp at b0 b1 b2
 rw[HXC.out]at Q0
 have HQ0:=zh Q0; clear X1 P0 Q0 hsz x0 x1 x2 x3 x4 x5 lg hil; simp only[hW,hpb]
 clear hW hpb; go_upto_region 7 with fail
 go_cut [] (fun wx=>∃cv' nv' rv',Hid (vA wx nb base (m+1) (cc++z.cells) (rc++[.int .i64 (-1)]) (nx++[[]]) cv' nv' rv')∧Hid (zA (Zf nb (.slice Ac m kc) (.slice An m kn) (.slice Ar m kr)) W wx)∧
  Hid (∀g,Zf nb cv' nv' rv' g→Zf nb (.slice Ac m kc) (.slice An m kn) (.slice Ar m kr) g∨W.heap.size≤g)∧Hid ((∀g,rv'.ownBlock=some g→g < wx.heap.size)∧∀g,rv'.ownBlock=some g→(Value.slice Ar m kr).ownBlock=some g∨W.heap.size≤g))
 case first=>
  have KX:Hid (∀x:EdS W nb (pb+1),(x.V.cell? ⟨nb,0,none⟩=some (.slice Ac m kc))∧(x.V.cell? ⟨nb,1,none⟩=some (.slice An m kn))∧(x.V.cell? ⟨nb,2,none⟩=some (.slice Ar m kr))∧(x.V.cell? ⟨pb+1,1,none⟩=some (.int .u64 z.a))∧
   (x.V.cell? ⟨pb+1,2,none⟩=some (.int .u64 z.b))∧(x.V.cell? ⟨pb+1,3,none⟩=some (.int .u64 z.c))∧(x.V.cell? ⟨pb+1,4,none⟩=some (.int .u64 z.d))∧nb < x.V.heap.size∧pb+1 < x.V.heap.size):=zh fun x=>by
   have Q:=x.box.trans HQ0.out
   rw[←HXC.out]at Q
   have e0:=cr 0 (x.idx.trans B0.out); have e1:=cr 1 (x.idx.trans B0.out); have e2:=cr 2 (x.idx.trans B0.out); have f1:=cr 1 Q; have f2:=cr 2 Q; have f3:=cr 3 Q; have f4:=cr 4 Q; simp at e0 e1 e2 f1 f2 f3 f4
   exact⟨e0,e1,e2,f1,f2,f3,f4,za (x.idx.trans B0.out),za Q⟩
  have kx0:=fun x=>(KX.out x).1; have kx1:=fun x=>(KX.out x).2.1; have kx2:=fun x=>(KX.out x).2.2.1; have kx3:=fun x=>(KX.out x).2.2.2.1; have kx4:=fun x=>(KX.out x).2.2.2.2.1; have kx5:=fun x=>(KX.out x).2.2.2.2.2.1; have kx6:=fun x=>(KX.out x).2.2.2.2.2.2.1; have kx7:=fun x=>(KX.out x).2.2.2.2.2.2.2.1; have kx8:=fun x=>(KX.out x).2.2.2.2.2.2.2.2; refine xz (T:=EdS W nb (pb+1)) EdS.V (25) (zd [0,1,2,3,4,5,7,11,12,13,17,18,19] (zj [6,8,14,20] (.two (.step 9 (.two (.step 10 (.two (.step 15 (.two (.step 16 (.step 21 (.step 22 (zd [23,24] (.step 25 (zd [26,27] (.late 28 (zd [29,30] (.late 31 .fin))))))))) (.step 21 (.step 16 (.step 22 (zd [23,24] (.step 25 (zd [26,27] (.late 28 (zd [29,30] (.late 31 .fin))))))))))) (.step 21 (.step 15 (.step 16 (.step 22 (zd [23,24] (.step 25 (zd [26,27] (.late 28 (zd [29,30] (.late 31 .fin)))))))))))) (.two (.step 15 (.two (.step 10 (.two (.step 16 (.step 21 (.step 22 (zd [23,24] (.step 25 (zd [26,27] (.late 28 (zd [29,30] (.late 31 .fin))))))))) (.step 21 (.step 16 (.step 22 (zd [23,24] (.step 25 (zd [26,27] (.late 28 (zd [29,30] (.late 31 .fin))))))))))) (.step 21 (.step 10 (.step 16 (.step 22 (zd [23,24] (.step 25 (zd [26,27] (.late 28 (zd [29,30] (.late 31 .fin)))))))))))) (.step 21 (.two (.step 10 (.step 15 (.step 16 (.step 22 (zd [23,24] (.step 25 (zd [26,27] (.late 28 (zd [29,30] (.late 31 .fin)))))))))) (.step 15 (.step 10 (.step 16 (.step 22 (zd [23,24] (.step 25 (zd [26,27] (.late 28 (zd [29,30] (.late 31 .fin))))))))))))))) (.two (.step 15 (.two (.step 9 (.two (.step 10 (.two (.step 16 (.step 21 (.step 22 (zd [23,24] (.step 25 (zd [26,27] (.late 28 (zd [29,30] (.late 31 .fin))))))))) (.step 21 (.step 16 (.step 22 (zd [23,24] (.step 25 (zd [26,27] (.late 28 (zd [29,30] (.late 31 .fin))))))))))) (.step 21 (.step 10 (.step 16 (.step 22 (zd [23,24] (.step 25 (zd [26,27] (.late 28 (zd [29,30] (.late 31 .fin)))))))))))) (.step 21 (.step 9 (.step 10 (.step 16 (.step 22 (zd [23,24] (.step 25 (zd [26,27] (.late 28 (zd [29,30] (.late 31 .fin))))))))))))) (.step 21 (.two (.step 9 (.two (.step 10 (.step 15 (.step 16 (.step 22 (zd [23,24] (.step 25 (zd [26,27] (.late 28 (zd [29,30] (.late 31 .fin)))))))))) (.step 15 (.step 10 (.step 16 (.step 22 (zd [23,24] (.step 25 (zd [26,27] (.late 28 (zd [29,30] (.late 31 .fin)))))))))))) (.step 15 (.step 9 (.step 10 (.step 16 (.step 22 (zd [23,24] (.step 25 (zd [26,27] (.late 28 (zd [29,30] (.late 31 .fin))))))))))))))))) (by kernel_rfl) (by kernel_rfl) ⟨⟨W.drew,rfl,rfl⟩,rfl⟩ ?_; refine btp ?_; refine bts ?_; clear kx0 kx1 kx2 kx3 kx4 kx5 kx6 kx7 kx8 q0 lq b0 b1 b2 lb
  obtain⟨ic,hic,hc0,hc1,hc2⟩:=info_parts zfy
  obtain⟨ini,hin,hn0,hn1,hn2⟩:=info_parts zbw
  obtain⟨ir,hir,hr0,hr1,hr2⟩:=info_parts Yd
  have HI:=zh (And.intro (And.intro hic (And.intro hc0 (And.intro hc1 hc2))) (And.intro (And.intro hin (And.intro hn0 (And.intro hn1 hn2))) (And.intro hir (And.intro hr0 (And.intro hr1 hr2))))); clear hic hc0 hc1 hc2 hin hn0 hn1 hn2 hir hr0 hr1 hr2
  obtain⟨V0,hV0⟩:∃V0,W.drew=V0:=⟨_,rfl⟩
  have S0:Hid (St W base nb (pb+1) xcs (.slice Ac m kc) (.slice An m kn) (.slice Ar m kr) ns0 nx V0 (.slice Ac m kc) m cc (.slice An m kn) m ns0 (.slice Ar m kr) m rc):=zh (by
   rw[←hV0]
   refine St.ext (V:=W) ⟨B0.out,HQ0.out,HN1.out.cls,yv HNS.out HX1.out,HN1.out.rul,zA.refl W,fun k v xs hv hx=>(HIN.out k v xs hv hx).keep (zA.of_ext (S:=fun _=>False) HX1.out) (fun _ _ _ _ h=>h) _ (fun g hg=>.inl hg)⟩ xi)
  have BS:Hid (base≤W.heap.size):=zh (Nat.le_trans HLE.out HX1.out.size); have HNB:Hid (∀k,((Value.slice Ac m kc).ownBlock=some k∨(Value.slice An m kn).ownBlock=some k∨(Value.slice Ar m kr).ownBlock=some k)→k≠nb):=zh (fun k hk he=>by
   subst he; have key:∀{T:TypeId} {size n:Nat} {v:Value} {ys:List Value},W.ownsRow base T size v n ys→v.ownBlock=some k→T=108:=fun hr hv=>by
    obtain⟨cur,hcur⟩:=zZ hr k hv
    rw[B0.out]at hcur
    injection hcur with hcur; injection hcur with _ hcur; exact hcur.symm
   rcases hk with hk|hk|hk
   ·exact absurd (key HN1.out.cls hk) (by decide)
   ·exact absurd (key (yv HNS.out HX1.out) hk) (by decide)
   ·exact absurd (key HN1.out.rul hk) (by decide))
  have S:=S0
  obtain⟨V,hV⟩:∃V,V=V0:=⟨_,rfl⟩
  simp only[hV0]
  clear hV0 S0; subst hV
  repeat' first
   |refine And.intro ?_ ?_
   |(refine yy fun next hn=>?_;simp only[pick,yp]
     go_wp2_with (first|(at_builtin;refine zE _ (by rfl) (.tmp 38) (.tmp 41) 105 rfl base 145 ic _ 4 32 Tryz.underlying105 HI.out.1.1 HI.out.1.2.1 HI.out.1.2.2.1 HI.out.1.2.2.2 rfl (by omega) (.slice Ac m kc) m cc rfl S.out.rc (some ⟨gC,0,none⟩) 1 1 z.cells rfl (by intro h;cases h) rfl (Zq LC.out) (by intro u hu;simp only[Cl.cells,List.mem_cons,List.not_mem_nil,or_false]at hu;rcases hu with rfl|rfl|rfl|rfl<;>rfl) (by unfold maxLen;omega) (by omega) (Nat.le_trans BS.out S.out.kt.size) ?_;intro v2 V2 ho hgr hat)|(at_builtin;refine zE _ (by rfl) (.tmp 46) (.tmp 47) 106 rfl base 33 ini _ 1 24 Tryz.underlying106 HI.out.2.1.1 HI.out.2.1.2.1 HI.out.2.1.2.2.1 HI.out.2.1.2.2.2 rfl (by omega) (.slice An m kn) m ns0 rfl S.out.rn (some ⟨gN,0,none⟩) 1 1 [zH] rfl (by intro h;cases h) rfl (Zq LN.out) (by intro u hu;obtain rfl:=List.mem_singleton.1 hu;rfl) (by unfold maxLen;omega) (by omega) (Nat.le_trans BS.out S.out.kt.size) ?_;intro v2 V2 ho hgr hat)|(at_builtin;refine zE _ (by rfl) (.tmp 52) (.tmp 53) 33 rfl base 3 ir _ 1 8 Tryz.underlying33 HI.out.2.2.1 HI.out.2.2.2.1 HI.out.2.2.2.2.1 HI.out.2.2.2.2.2 rfl (by omega) (.slice Ar m kr) m rc rfl S.out.rr (some ⟨gR,0,none⟩) 1 1 [.int .i64 (-1)] rfl (by intro h;cases h) rfl (Zq LR.out) (by intro u hu;obtain rfl:=List.mem_singleton.1 hu;rfl) (by unfold maxLen;omega) (by omega) (Nat.le_trans BS.out S.out.kt.size) ?_;intro v2 V2 ho hgr hat))
     first
     |(obtain⟨AC,k1,rfl,_,_,_⟩:=zW ho
       have GC:Hid ((Value.slice AC (m+1) k1).ownBlock=(Value.slice Ac m kc).ownBlock∨∃g,(Value.slice AC (m+1) k1).ownBlock=some g∧W.heap.size≤g∧g < V2.heap.size):=zh (hat.imp id fun h=>⟨_,h,S.out.kt.size,z8 ho _ h⟩); (try have LN:=zh (ym S.out.rc hgr (Ext.refl _) LN.out (by decide)))
       (try have LR:=zh (ym S.out.rc hgr (Ext.refl _) LR.out (by decide)))
       have S:=zh (S.out.appC ho hgr); refine zk (fun _=>S.out.eds B0.out HQ0.out) (hn _ _ ?_); clear hn next ho hgr hat LC
       obtain⟨V,hV⟩:∃V,V=V2:=⟨_,rfl⟩
       subst hV)
     |(obtain⟨AN,k2,rfl,_,_,_⟩:=zW ho
       have GN:Hid ((Value.slice AN (m+1) k2).ownBlock=(Value.slice An m kn).ownBlock∨∃g,(Value.slice AN (m+1) k2).ownBlock=some g∧W.heap.size≤g∧g < V2.heap.size):=zh (hat.imp id fun h=>⟨_,h,S.out.kt.size,z8 ho _ h⟩); (try have LC:=zh (ym S.out.rn hgr (Ext.refl _) LC.out (by decide)))
       (try have LR:=zh (ym S.out.rn hgr (Ext.refl _) LR.out (by decide)))
       have S:=zh (S.out.appN ho hgr); refine zk (fun _=>S.out.eds B0.out HQ0.out) (hn _ _ ?_); clear hn next ho hgr hat LN
       obtain⟨V,hV⟩:∃V,V=V2:=⟨_,rfl⟩
       subst hV)
     |(obtain⟨AR,k3,rfl,_,_,_⟩:=zW ho
       have GR:Hid ((Value.slice AR (m+1) k3).ownBlock=(Value.slice Ar m kr).ownBlock∨∃g,(Value.slice AR (m+1) k3).ownBlock=some g∧W.heap.size≤g∧g < V2.heap.size):=zh (hat.imp id fun h=>⟨_,h,S.out.kt.size,z8 ho _ h⟩); (try have LC:=zh (ym S.out.rr hgr (Ext.refl _) LC.out (by decide)))
       (try have LN:=zh (ym S.out.rr hgr (Ext.refl _) LN.out (by decide)))
       have S:=zh (S.out.appR ho hgr hat); refine zk (fun _=>S.out.eds B0.out HQ0.out) (hn _ _ ?_); clear hn next ho hgr hat LR
       obtain⟨V,hV⟩:∃V,V=V2:=⟨_,rfl⟩
       subst hV)
     |(obtain⟨V2,hV⟩:∃V2,V.alloc (.cells #[.int .u64 z.a,.int .u64 z.b,.int .u64 z.c,.int .u64 z.d] 145)=V2:=⟨_,rfl⟩
       simp only[hV]
       obtain⟨gC,hg⟩:∃g,V.heap.size=g:=⟨_,rfl⟩
       simp only[hg]
       have X:Ext V V2:=by rw[←hV];exact xi
       have LC:Hid (V2.heap[gC]?=some (.cells #[.int .u64 z.a,.int .u64 z.b,.int .u64 z.c,.int .u64 z.d] 145)):=zh (by rw[←hV,←hg];exact heap_alloc_new _ _); (try have LN:=zh (zb LN.out X))
       (try have LR:=zh (zb LR.out X))
       have S:=zh (S.out.ext X); refine zk (fun _=>S.out.eds B0.out HQ0.out) (hn _ _ ?_); clear hn next hV hg X
       obtain⟨V,hV⟩:∃V,V=V2:=⟨_,rfl⟩
       subst hV)
     |(obtain⟨V2,hV⟩:∃V2,V.alloc (.cells #[zH] 33)=V2:=⟨_,rfl⟩
       simp only[hV]
       obtain⟨gN,hg⟩:∃g,V.heap.size=g:=⟨_,rfl⟩
       simp only[hg]
       have X:Ext V V2:=by rw[←hV];exact xi
       have LN:Hid (V2.heap[gN]?=some (.cells #[zH] 33)):=zh (by rw[←hV,←hg];exact heap_alloc_new _ _); (try have LC:=zh (zb LC.out X))
       (try have LR:=zh (zb LR.out X))
       have S:=zh (S.out.ext X); refine zk (fun _=>S.out.eds B0.out HQ0.out) (hn _ _ ?_); clear hn next hV hg X
       obtain⟨V,hV⟩:∃V,V=V2:=⟨_,rfl⟩
       subst hV)
     |(obtain⟨V2,hV⟩:∃V2,V.alloc (.cells #[.int .i64 (-1)] 3)=V2:=⟨_,rfl⟩
       simp only[hV]
       obtain⟨gR,hg⟩:∃g,V.heap.size=g:=⟨_,rfl⟩
       simp only[hg]
       have X:Ext V V2:=by rw[←hV];exact xi
       have LR:Hid (V2.heap[gR]?=some (.cells #[.int .i64 (-1)] 3)):=zh (by rw[←hV,←hg];exact heap_alloc_new _ _); (try have LC:=zh (zb LC.out X))
       (try have LN:=zh (zb LN.out X))
       have S:=zh (S.out.ext X); refine zk (fun _=>S.out.eds B0.out HQ0.out) (hn _ _ ?_); clear hn next hV hg X
       obtain⟨V,hV⟩:∃V,V=V2:=⟨_,rfl⟩
       subst hV))
  all_goals
   obtain⟨Vz,hVz⟩:∃Vz,y8 V nb (.slice AC (m+1) k1) (.slice AN (m+1) k2) (.slice AR (m+1) k3)=Vz:=⟨_,rfl⟩
   have HZ:=zh (zhK S.out B0.out HNB.out HN1.out.low HNL.out GC.out GN.out GR.out); have KB:=S.out.kb; have z0:=cr 0 KB; have y0:=zi KB 0; have KB1:=zn (k:=0) KB (.slice AC (m+1) k1); have z1:=cr 1 KB1; have y1:=zi KB1 1; have KB2:=zn (k:=1) KB1 (.slice AN (m+1) k2); have z2:=cr 2 KB2; have y2:=zi KB2 2; simp at z0 z1 z2
   rw[hVz]at HZ
   have HVZ:=zh hVz; clear hVz KB KB1 KB2; refine btp ?_; refine yy fun next hn=>?_;simp only[pick,yp]; go_wp2_with fail; refine zk (fun h=>absurd rfl h) (hn _ _ ?_); clear hn next; refine btp ?_; refine zaC fun next hn=>?_;simp only[pick,yp]; go_wp2_with fail; refine zk (fun _=>trivial) (hn _ _ ?_); clear hn next; refine btp ?_; refine zaC fun next hn=>?_;simp only[pick,yp]; go_wp2_with fail; refine zk (fun _=>trivial) (hn _ _ ?_); clear hn next; (refine xw ?_)
   have HVZ2:=HVZ.out; unfold y8 put2 at HVZ2; simp only[HVZ2]
   go_wp2_with fail; go_meet
   exact⟨_,_,_,HZ.out.1,HZ.out.2.1,HZ.out.2.2.1,HZ.out.2.2.2⟩
 case rest=>
  obtain⟨cv',nv',rv',hN',hT',hG',hR'⟩:=hcut
  have HPN:Hid (¬Zf nb (.slice Ac m kc) (.slice An m kn) (.slice Ar m kr) pb):=zh (fun hk=>by
   have h0:=HPB.out; rcases hk with hk|hk|hk|hk
   ·have:=za HN.out.blk;omega
   ·have:=z8 HN.out.cls pb hk;omega
   ·have:=z8 HNS.out pb hk;omega
   ·have:=z8 HN.out.rul pb hk;omega)
  have P1:=hT'.out.keep HP0.out HPN.out
  obtain⟨f,hf⟩:∃f,wc.heap.size=f:=⟨_,rfl⟩
  obtain⟨W2,hW2⟩:∃W2,(wc.alloc (.cells #[.int .i64 m] 3)).alloc (.cells #[.int .i64 m] 3)=W2:=⟨_,rfl⟩
  have X2:Ext wc W2:=by rw[←hW2];exact xi
  have F2:W2.heap[f]?=some (.cells #[.int .i64 m] 3):=by rw[←hW2,←hf];exact(by simp only[zm,World.size_alloc];(repeat(split;(first|rfl|(exfalso;omega))));(try(first|(exfalso;omega)|simp_all)))
  have L2:W2.heap[f+1]?=some (.cells #[.int .i64 m] 3):=by rw[←hW2,←hf];exact(by simp only[zm,World.size_alloc];(repeat(split;(first|rfl|(exfalso;omega))));(try(first|(exfalso;omega)|simp_all)))
  have P2:=zb P1 X2; have c0:=cr 0 P2; have c1:=cr 1 P2; have c2:=cr 2 P2; have ff:=fun k=>zi P2 k; have P3:=qK P2 (.bool false) (.slice (some ⟨f,0,none⟩) 1 1) (.slice (some ⟨f+1,0,none⟩) 1 1)
  obtain⟨W3,hW3⟩:∃W3,y8 W2 pb (.bool false) (.slice (some ⟨f,0,none⟩) 1 1) (.slice (some ⟨f+1,0,none⟩) 1 1)=W3:=⟨_,rfl⟩
  have T3:zA (fun k=>k=pb) W2 W3:=by rw[←hW3];exact yM (S:=fun k=>k=pb) rfl _ _ _
  rw[hW3]at P3
  have d0:=cr 0 P3; have d1:=cr 1 P3; have d2:=cr 2 P3; simp at c0 c1 c2 d0 d1 d2
  have hpf:pb < f:=by rw[←hf];exact za P1
  have HF3:=zh (T3.keep F2 (by omega)); have HL3:=zh (T3.keep L2 (by omega)); have HWP:Hid (w.heap.size≤pb∧pb < f):=zh ⟨by have:=HPB.out;omega,hpf⟩; have HN3:Hid (vA W3 nb base (m+1) (cc++z.cells) (rc++[.int .i64 (-1)]) (nx++[[]]) cv' nv' rv'):=zh (by
   have h2:=hN'.out.ext X2
   obtain⟨vs,hv1,hv2,hv3⟩:=h2.nxt
   have key:∀{cs:Array Value} {T:TypeId},W2.heap[pb]?=some (.cells cs T)→T=148:=fun hh=>by
    rw[P2]at hh
    injection hh with hh; injection hh with _ hh; exact hh.symm
   have ok:∀{T:TypeId} {size n:Nat} {v:Value} {ys:List Value},W2.ownsRow base T size v n ys→T≠148→W3.ownsRow base T size v n ys:=fun hr hT=>ye hr fun i hi=>T3.block i (z8 hr i hi) (fun he=>by
    subst he
    obtain⟨cur,hcur⟩:=zZ hr _ hi
    exact hT (key hcur))
   exact⟨T3.keep h2.blk (fun he=>by subst he;exact absurd (key h2.blk) (by decide)),h2.low,ok h2.cls (by decide),⟨vs,ok hv1 (by decide),hv2,fun k v xs hv hx=>(hv3 k v xs hv hx).keep T3 (fun g cs hcs _ he=>by subst he;exact absurd (key hcs) (by decide)) rv' (fun g hg=>.inl hg)⟩,ok h2.rul (by decide)⟩)
  have HT3:Hid (zA (Zf nb (.slice Ac m kc) (.slice An m kn) (.slice Ar m kr)) w W3):=zh ((((zA.of_ext HX1.out).trans hT'.out).trans (zA.of_ext X2)).andThen T3 (fun k _ hk=>hk) (fun k hk he=>by have:=HWP.out;omega)); have HRR:Hid (rv'.ownBlock≠some f∧rv'.ownBlock≠some (f+1)):=zh ⟨fun h=>by have:=hR'.out.1 _ h;omega,fun h=>by have:=hR'.out.1 _ h;omega⟩; have HGG:Hid (∀g,Zf nb cv' nv' rv' g→Zf nb (.slice Ac m kc) (.slice An m kn) (.slice Ar m kr) g∨w.heap.size≤g):=zh (fun g hg=>(hG'.out g hg).imp id fun h=>by have:=HSZ.out;have:=HWP.out;omega); have HRB:Hid (∀g,rv'.ownBlock=some g→(Value.slice Ar m kr).ownBlock=some g∨w.heap.size≤g):=zh (fun g hg=>(hR'.out.2 g hg).imp id fun h=>by have:=HSZ.out;have:=HWP.out;omega); unfold y8 put2 at hW3; clear P1 P2 P3 F2 L2 X2 T3 hpf; go_wp2_with fail
  exact bodyPost_ret (v:=.agg #[.bool false,.slice (some ⟨f,0,none⟩) 1 1,.slice (some ⟨f+1,0,none⟩) 1 1]) (by simp[results,Tryz.results80,go_sem, *]) rfl
   ⟨f,f+1,cv',nv',rv',rfl,by have:=HWP.out;omega,by have:=HWP.out;omega,HF3.out,HL3.out,HN3.out,HT3.out,HRR.out.1,HRR.out.2,HGG.out,HRB.out⟩
end Go.Proofs.YtmbelmngniddjaaGreat
