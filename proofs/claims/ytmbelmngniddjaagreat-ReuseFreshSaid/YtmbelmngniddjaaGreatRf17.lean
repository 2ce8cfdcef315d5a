/- Rf: texts that the proof rests on, part 17. -/
import Derived.Test.YtmbelmngniddjaaGreatRf16
namespace Go.Proofs.YtmbelmngniddjaaGreat
open Go.RowKit
attribute [local go_sem] zF zB zI zJ zw zt zN zD zX zQ zK zP zO zL zT zR zS zG zM zC
def zhN (w:World)(s:ByteArray)(e:Ending)(w':World):Prop:=∃(v:Value) (ns:List Nod) (n:Nat) (er:Int),e=.returned (.tuple #[v,.int .i64 n,.int .i64 er])∧YI w' v ns∧ns.length≤4*s.size+2∧Ze w ns∧Ext w w'
set_option maxRecDepth 100000 in
set_option maxHeartbeats 4000000 in
theorem zjC (s:ByteArray)(w:World)(hs:s.size≤1000):Calls Tryz.prog 45 #[.string s] w (zhN w s):=by
 by_cases hbig:256 < s.size
 ·have q:decide ((256:Int) < (s.size:Int))=true:=by rw[decide_eq_true_iff];omega
  go_in
  go_wp2_with fail; exact bodyPost_ret (v:=.tuple #[zH,.int .i64 0,.int .i64 3]) (by simp[results,Tryz.results45,go_sem]) rfl ⟨zH,[],0,3,rfl,zdq _,by simp,Ze.nil _,xi⟩
 ·have q:decide ((256:Int) < (s.size:Int))=false:=by rw[decide_eq_false_iff_not];omega
  obtain⟨b,hb⟩:∃b,w.heap.size=b:=⟨_,rfl⟩
  obtain⟨W,hW⟩:∃W,w.alloc (.cells #[.string s,.int .i64 0,.slice none 0 0,.int .i64 0] 140)=W:=⟨_,rfl⟩
  have B1:W.heap[b]?=some (.cells #[.string s,.int .i64 0,.slice none 0 0,.int .i64 0] 140):=by rw[←hW,←hb];exact heap_alloc_new _ _
  have X1:Ext w W:=by rw[←hW];exact xi
  have HB:=zh hb; have HX:=zh X1; have AL:=zh (ziy b b s hs (s.size+1) 0 (by omega) zH [] W ⟨B1,World.ownsRow_nil _ _ _ _,fun _ h=>(by cases h),fun _ h=>(by cases h)⟩ (by have:=za B1;omega) (Nat.zero_le _) (by simp)); clear B1 X1; go_in
  go_wp2_with fail; try simp only[hb,hW]
  refine AL.out.mono ?_; rintro e w1 ⟨r,a,er,v1,ns,rfl,ha,h1,t1,hok,hall,hnew⟩; have NEW:Hid (Ze w ns):=zh (hnew.low HX.out.size); clear hnew
  rw[List.nil_append]at h1
  have H1:=zh h1; have X2:Hid (Ext w w1):=zh (t1.1.ext HX.out (fun k hk=>by
   have:=HB.out
   rcases hk with hk|hk
   ·omega
   ·cases hk))
  have HL:Hid (ns.length≤4*s.size+2):=zh (by omega); have HAA:=zh ha; have MO:=zh (qE b s a er v1 w1 h1.blk); clear h1 t1 hok hall ha hW hb AL; by_cases e0:er=0∧a < s.size
  ·obtain⟨rfl,hlt⟩:=e0
   rw[show(decide ((0:Int)=0)&&decide (a < s.size))=true from by simp[hlt]]at MO
   go_wp2_with fail; refine MO.out.mono ?_; rintro e V ⟨rfl,xm⟩; have H2:=zh (H1.out.ext xm); have X3:=zh (X2.out.trans xm); have FA:=zh (vV b b s a a 0 7 v1 ns V H2.out)
   obtain⟨c0,c1,c2,c3⟩:=H2.out.blk.cells
   have lb:=H2.out.blk.lt; clear xm MO; go_wp2_with fail; refine FA.out.mono ?_; rintro e wf ⟨rfl,hf,tf⟩; simp only[if_pos]at hf
   have X4:Hid (Ext w wf):=zh (tf.1.ext X3.out (fun k hk=>by
    have:=HB.out
    rcases hk with hk|hk
    ·omega
    ·have:=zV H2.out.row k hk
     omega))
   clear c0 c1 c2 c3 lb
   obtain⟨c0,c1,c2,c3⟩:=hf.blk.cells
   have lb:=hf.blk.lt; have q7:((7:Int) !=0)=true:=rfl; clear hf tf FA; go_upto_region 8 with fail; refine zg (11) (zd [0,1,2,4,5,6,8] (zj [3,7,9,10] .fin)) (by kernel_rfl) (by kernel_rfl) ?_; (repeat first|refine yq ?_|refine yr ?_)
   refine zv ?_; go_wp2_with fail; exact bodyPost_ret (v:=.tuple #[zH,.int .i64 a,.int .i64 7]) (by simp[results,Tryz.results45,go_sem]) rfl ⟨zH,[],a,7,rfl,zdq _,by simp,Ze.nil _,X4.out.trans xi⟩
  ·rw[show(decide (er=0)&&decide (a < s.size))=false from by
    by_cases h1:er=0
    ·have:¬a < s.size:=fun h2=>e0 ⟨h1,h2⟩
     simp[this]
    ·simp[h1]]at MO
   clear e0; by_cases e1:er=0
   ·subst e1; go_wp2_with fail; refine MO.out.mono ?_; rintro e V ⟨rfl,xm⟩; have H2:=zh (H1.out.ext xm); have X3:=zh (X2.out.trans xm)
    obtain⟨c0,c1,c2,c3⟩:=H2.out.blk.cells
    have lb:=H2.out.blk.lt; have q7:((0:Int) !=0)=false:=rfl; have HRX:=zh H2.out.rx
    obtain⟨A,c,rfl,_⟩:=HRX.out.row
    clear xm MO; go_wp2_with fail; exact bodyPost_ret (v:=.tuple #[.slice A ns.length c,.int .i64 s.size,.int .i64 0]) (by simp[results,Tryz.results45,go_sem]) rfl ⟨_,ns,s.size,0,rfl,HRX.out,HL.out,NEW.out,X3.out⟩
   ·have q7:(er !=0)=true:=by simpa using e1
    go_wp2_with fail; refine MO.out.mono ?_; rintro e V ⟨rfl,xm⟩; have H2:=zh (H1.out.ext xm); have X3:=zh (X2.out.trans xm)
    obtain⟨c0,c1,c2,c3⟩:=H2.out.blk.cells
    have lb:=H2.out.blk.lt; clear xm MO e1; go_upto_region 8 with fail; refine zg (11) (zd [0,1,2,4,5,6,8] (zj [3,7,9,10] .fin)) (by kernel_rfl) (by kernel_rfl) ?_; (repeat first|refine yq ?_|refine yr ?_)
    refine zv ?_; go_wp2_with fail; exact bodyPost_ret (v:=.tuple #[zH,.int .i64 a,.int .i64 er]) (by simp[results,Tryz.results45,go_sem]) rfl ⟨zH,[],a,er,rfl,zdq _,by simp,Ze.nil _,X3.out.trans xi⟩
theorem YI.turn {w w':World}{v:Value}{ns:List Nod}{S:Nat→Prop}(h:YI w v ns)(t:zA S w w')(hS:∀g cs,w.heap[g]?=some (.cells cs 189)→¬S g)(hK:∀n∈ns,∀g off s,n.kA=some ⟨g,off,s⟩→¬S g):YI w' v ns:=by
 obtain⟨A,c,h1,h2,h3,h4,h5⟩:=h.row
 refine⟨⟨A,c,h1,fun h0=>?_,h3,h4,fun g off s hA=>?_⟩,fun n hn=>?_,h.cls⟩
 ·obtain⟨g,off,hA,hg,hc⟩:=h2 h0
  obtain⟨cs,hcs⟩:=h5 g off none hA
  exact⟨g,off,hA,Nat.lt_of_lt_of_le hg t.size,fun k u hu=>(World.cell?_of_block (w:=w) (a:=⟨g,off+k,none⟩) (t.block g hg (hS g cs hcs))).trans (hc k u hu)⟩
 ·obtain⟨cs,hcs⟩:=h5 g off s hA
  exact⟨cs,t.keep hcs (hS g cs hcs)⟩
 ·have ho:=h.kids n hn
  refine⟨fun h0=>?_,ho.le,ho.top,ho.nil,fun g off s' hA=>?_⟩
  ·obtain⟨g,off,hA,hl,hc⟩:=ho.ints h0
   exact⟨g,off,hA,Nat.lt_of_lt_of_le hl t.size,fun k hk'=>(World.cell?_of_block (w:=w) (a:=⟨g,off+k,none⟩) (t.block g hl (hK n hn g off none hA))).trans (hc k hk')⟩
  ·obtain⟨cs,hcs⟩:=ho.blk g off s' hA
   exact⟨cs,t.keep hcs (hK n hn g off s' hA)⟩
theorem YI.low {w:World}{v:Value}{ns:List Nod}(h:YI w v ns):∀n∈ns,∀g off s,n.kA=some ⟨g,off,s⟩→∃cs,w.heap[g]?=some (.cells cs 3):=fun n hn g off s hA=>(h.kids n hn).blk g off s hA
structure B7 (w0 w:World)(base lb:Nat)(sv kv:Value)(kn:Int)(kl:List Int)(vs:List Value)(nss:List (List Nod))(i:Nat):Prop where
 lex:LbI w0 w base lb zH zH kv kn kl
 row:w.ownsRow base 101 1 sv i vs
 rx:∀(j:Nat) (u:Value) (ns:List Nod),vs[j]?=some u→nss[j]?=some ns→YI w u ns∧zaq kv ns
 vl:vs.length=i
 nl:nss.length=i
 kll:kl.length=i
 kr:∀k∈kl,-1≤k∧k < kn
 kn9:0≤kn∧kn≤i
 ln:∀ns∈nss,ns.length≤100000
 siz:base≤w.heap.size
section
variable {w0 w w' w2:World}{base lb i:Nat}{sv kv v' u:Value}{kn y:Int}{kl:List Int}{vs:List Value}{nss:List (List Nod)}{ns:List Nod}
theorem B7.to (h:B7 w0 w base lb sv kv kn kl vs nss i)(e:Ext w w'):B7 w0 w' base lb sv kv kn kl vs nss i:=
 ⟨h.lex.to e,yv h.row e,fun j u ns hu hn=>⟨(h.rx j u ns hu hn).1.ext e,(h.rx j u ns hu hn).2⟩,h.vl,h.nl,h.kll,h.kr,h.kn9,h.ln,Nat.le_trans h.siz e.size⟩
structure B7h (w0 w:World)(base lb:Nat)(sv kv:Value)(kn:Int)(kl:List Int)(vs:List Value)(nss:List (List Nod))(i:Nat):Prop where
 lex:LbI w0 w base lb zH zH kv kn kl
 row:w.ownsRow base 101 1 sv (i+1) vs
 rx:∀(j:Nat) (u:Value) (ns:List Nod),vs[j]?=some u→nss[j]?=some ns→YI w u ns∧zaq kv ns
 vl:vs.length=i+1
 nl:nss.length=i+1
 kll:kl.length=i
 kr:∀k∈kl,-1≤k∧k < kn
 kn9:0≤kn∧kn≤i
 ln:∀ns∈nss,ns.length≤100000
 siz:base≤w.heap.size
theorem B7h.to (h:B7h w0 w base lb sv kv kn kl vs nss i)(e:Ext w w'):B7h w0 w' base lb sv kv kn kl vs nss i:=
 ⟨h.lex.to e,yv h.row e,fun j u ns hu hn=>⟨(h.rx j u ns hu hn).1.ext e,(h.rx j u ns hu hn).2⟩,h.vl,h.nl,h.kll,h.kr,h.kn9,h.ln,Nat.le_trans h.siz e.size⟩
theorem B7.app (h:B7 w0 w base lb sv kv kn kl vs nss i)(hu:YI w u ns)(hs:zaq kv ns)(hl:ns.length≤100000)(ho:w2.ownsRow base 101 1 v' (i+1) (vs++[u]))(hg:w.grownBy w2 sv.ownBlock):B7h w0 w2 base lb v' kv kn kl (vs++[u]) (nss++[ns]) i:=by
 have T:zA (fun g=>sv.ownBlock=some g) w w2:=zA.grown hg (fun g hg _=>hg); have ne:∀{g:Nat} {cs:Array Value} {U:TypeId},w.heap[g]?=some (.cells cs U)→U≠101→¬sv.ownBlock=some g:=fun {g cs U} hc hU he=>by
  obtain⟨cur,hcur⟩:=zZ h.row g he
  exact zU hc hcur hU rfl
 have kp:∀{u:Value} {ns:List Nod},YI w u ns→YI w2 u ns:=fun {u ns} hr=>hr.turn T (fun g cs hc=>ne hc (by decide)) (fun n hn g off s hA=>by
  obtain⟨cs,hcs⟩:=hr.low n hn g off s hA
  exact ne hcs (by decide))
 refine⟨⟨T.keep h.lex.blk (ne h.lex.blk (by decide)),h.lex.low,h.lex.row.keepT T (fun g hg he=>?_),h.lex.bas,T.ext h.lex.ext (fun k hk=>Nat.le_trans h.lex.bas (zV h.row k hk))⟩,ho,fun j x ms hx hm=>?_,by rw[List.length_append,h.vl];rfl,by rw[List.length_append,h.nl];rfl,h.kll,h.kr,h.kn9,fun ms hm=>?_,Nat.le_trans h.siz T.size⟩
 ·obtain⟨cur,hcur⟩:=h.lex.row.obj g hg
  exact ne hcur (by decide) he
 ·rcases Nat.lt_or_ge j i with hj|hj
  ·rw[List.getElem?_append_left (by rw[h.vl];exact hj)]at hx
   rw[List.getElem?_append_left (by rw[h.nl];exact hj)]at hm
   exact⟨kp (h.rx j x ms hx hm).1,(h.rx j x ms hx hm).2⟩
  ·rw[List.getElem?_append_right (by rw[h.vl];exact hj),h.vl]at hx
   rw[List.getElem?_append_right (by rw[h.nl];exact hj),h.nl]at hm
   rcases Nat.eq_zero_or_pos (j - i)with h0|h0
   ·rw[h0]at hx hm
    simp at hx hm
    subst hx hm
    exact⟨kp hu,hs⟩
   ·rw[List.getElem?_eq_none (by simp;omega)]at hx
    cases hx
 ·rcases List.mem_append.1 hm with hm|hm
  ·exact h.ln ms hm
  ·rw[List.mem_singleton]at hm
   subst hm; exact hl
theorem B7h.kind {m:Int}(h:B7h w0 w base lb sv kv kn kl vs nss i)(hr:xj w2 base v' (kl++[y]))(hg:w.grownBy w2 kv.ownBlock)(ha:v'.ownBlock=kv.ownBlock∨v'.ownBlock=some w.heap.size)(hy:-1≤y∧y < m)(hm:kn≤m∧m≤i+1){w3:World}(h3:(m=kn∧w3=w2.setCell ⟨lb,2,none⟩ v')∨w3=(w2.setCell ⟨lb,2,none⟩ v').setCell ⟨lb,3,none⟩ (.int .i64 m)):
 B7 w0 w3 base lb sv v' m (kl++[y]) vs nss (i+1):=by
 obtain⟨_,T0,hL⟩:=h.lex.app hr hg
 have hL3:LbI w0 w3 base lb zH zH v' m (kl++[y]):=by
  rcases h3 with⟨rfl,rfl⟩|rfl
  ·exact hL
  ·exact hL.set (k:=3) rfl
 have T:zA (fun g=>kv.ownBlock=some g∨g=lb) w w3:=by
  rcases h3 with⟨_,rfl⟩|rfl
  ·exact T0
  ·exact T0.trans (zA.setCell _ (.inr rfl) _)
 have ne:∀{g:Nat} {cs:Array Value} {U:TypeId},w.heap[g]?=some (.cells cs U)→U≠3→U≠37→¬(kv.ownBlock=some g∨g=lb):=fun {g cs U} hc h1 h2 he=>by
  rcases he with he|rfl
  ·obtain⟨cur,hcur⟩:=h.lex.row.obj g he
   exact zU hc hcur h1 rfl
  ·exact zU hc h.lex.blk h2 rfl
 refine⟨hL3,ye h.row (fun g hg'=>T.block g (z8 h.row g hg') ?_),fun j x ms hx hm'=>?_,h.vl,h.nl,by rw[List.length_append,h.kll];rfl,fun k hk=>?_,by have:=h.kn9;omega,h.ln,Nat.le_trans h.siz T.size⟩
 ·obtain⟨cur,hcur⟩:=zZ h.row g hg'
  exact ne hcur (by decide) (by decide)
 ·obtain⟨hr1,hs1⟩:=h.rx j x ms hx hm'
  refine⟨hr1.turn T (fun g cs hc=>ne hc (by decide) (by decide)) (fun n hn g off s hA he=>?_),fun n hn g off s hA hv=>?_⟩
  ·rcases he with he|rfl
   ·exact hs1 n hn g off s hA he
   ·obtain⟨cs,hcs⟩:=hr1.low n hn g off s hA
    exact zU hcs h.lex.blk (by decide) rfl
  ·rcases ha with ha|ha
   ·exact hs1 n hn g off s hA (ha▸hv)
   ·rw[ha]at hv
    injection hv with hv
    obtain⟨cs,hcs⟩:=hr1.low n hn g off s hA
    have:=za hcs
    omega
 ·rcases List.mem_append.1 hk with hk|hk
  ·have:=h.kr k hk;omega
  ·rw[List.mem_singleton]at hk
   subst hk; exact hy
theorem B7.regs (h:B7 w0 w base lb sv kv kn kl vs nss i):zbY w sv nss:=by
 obtain⟨A,c,h1,h2,_⟩:=zW h.row
 exact⟨A,c,vs,by rw[h1,h.nl],h2,by rw[h.vl,h.nl],fun j u ns hu hn=>(h.rx j u ns hu hn).1⟩
end
structure Rul where
 name:ByteArray
 text:ByteArray
 skip:Bool
def zfD (w:World)(v:Value)(rs:List Rul):Prop:=∃A c,v=.slice A rs.length c∧(0 < rs.length→∃g off,A=some ⟨g,off,none⟩∧g < w.heap.size∧∀(i:Nat) (r:Rul),rs[i]?=some r→w.cell? ⟨g,off+i*3,none⟩=some (.string r.name)∧w.cell? ⟨g,off+i*3+1,none⟩=some (.string r.text)∧w.cell? ⟨g,off+i*3+2,none⟩=some (.bool r.skip))
theorem zfD.ext {w w':World}{v:Value}{rs:List Rul}(h:zfD w v rs)(e:Ext w w'):zfD w' v rs:=by
 obtain⟨A,c,h1,h2⟩:=h
 refine⟨A,c,h1,fun h0=>?_⟩
 obtain⟨g,off,h3,h4,h5⟩:=h2 h0
 exact⟨g,off,h3,Nat.lt_of_lt_of_le h4 e.size,fun i r hr=>⟨zy (h5 i r hr).1 h4 e,zy (h5 i r hr).2.1 h4 e,zy (h5 i r hr).2.2 h4 e⟩⟩
def zh7 (w:World)(e:Ending)(w':World):Prop:=∃(er k:Int) (nv rv kv:Value) (kn:Int),e=.returned (.tuple #[.agg #[nv,rv,kv,.int .i64 kn],.int .i64 k,.int .i64 er])∧(er=0→∃nl rl kl,Qp w' nv rv kv nl rl kl∧v9 nl rl kl kn)∧(zfF nv∧zfF rv∧zfF kv)∧Ext w w'
set_option maxRecDepth 100000 in
set_option maxHeartbeats 4000000 in
theorem zen (v:Value)(rs:List Rul)(w:World)(h:zfD w v rs)(hs:∀r∈rs,r.text.size≤1000)(hl:rs.length≤1000000):Calls Tryz.prog 21 #[v] w (zh7 w):=by
 obtain⟨n,hn⟩:∃n,rs.length=n:=⟨_,rfl⟩
 obtain⟨RA,rc,rfl,hr0⟩:=h
 obtain⟨qb,hqb⟩:∃b,w.heap.size=b:=⟨_,rfl⟩
 obtain⟨W,hW⟩:∃W,w.alloc (.cells #[zH,zH,zH,.int .i64 0] 37)=W:=⟨_,rfl⟩
 have hQ:W.heap[qb]?=some (.cells #[zH,zH,zH,.int .i64 0] 37):=by rw[←hW,←hqb];exact heap_alloc_new _ _
 have X1:Ext w W:=by rw[←hW];exact xi
 have HQ:=zh hQ; have HX1:=zh X1; have HLW:Hid (w.heap.size≤qb∧qb < W.heap.size):=zh ⟨by omega,za hQ⟩
 rw[hn]at hr0 hl ⊢
 by_cases hbig:n=0∨16 < n
 ·clear hr0 hs X1 hQ; rcases hbig with rfl|hbig
  ·have d0:(((0:Nat):Int)==0)=true:=rfl; have HQE:=zh (zb HQ.out (Ext.refl _:Ext W W)); have QP:=yE HQE.out zH zH zH (.int .i64 0); have HXE:Hid (Ext w (yX W qb zH zH zH (.int .i64 0))):=zh ((yg (S:=fun k=>k=qb) rfl _ _ _ _).ext (HX1.out.trans (Ext.refl _)) (fun k hk=>by have:=HLW.out.1;omega)); have q0:=cr 0 HQE.out; have q1:=cr 1 HQE.out; have q2:=cr 2 HQE.out; have q3:=cr 3 HQE.out; have ql:=za HQE.out; have qf:=fun k=>zi HQE.out k
   obtain⟨WE,hWE⟩:∃V,yX W qb zH zH zH (.int .i64 0)=V:=⟨_,rfl⟩
   rw[hWE]at QP HXE
   have e0:=cr 0 QP; have e1:=cr 1 QP; have e2:=cr 2 QP; have e3:=cr 3 QP; have el:=za QP; simp at q0 q1 q2 q3 e0 e1 e2 e3
   unfold yX y8 put2 at hWE; clear QP hn hl; go_in
   go_upto_region 1 with fail; try simp only[hqb]
   try simp only[hW]
   go_wp2_with fail; exact bodyPost_ret (v:=.tuple #[.agg #[zH,zH,zH,.int .i64 0],.int .i64 0,.int .i64 2]) (by simp[results,Tryz.results21,go_sem, *]) rfl ⟨2,0,zH,zH,zH,0,rfl,fun h=>by simp at h,⟨⟨_,_,_,rfl⟩,⟨_,_,_,rfl⟩,_,_,_,rfl⟩,HXE.out⟩
  ·have d0:((n:Int)==0)=false:=by simp;omega
   have d1:decide ((16:Int) < (n:Int))=true:=by rw[decide_eq_true_iff];omega
   have HQE:=zh (zb HQ.out (Ext.refl _:Ext W W)); have QP:=yE HQE.out zH zH zH (.int .i64 0); have HXE:Hid (Ext w (yX W qb zH zH zH (.int .i64 0))):=zh ((yg (S:=fun k=>k=qb) rfl _ _ _ _).ext (HX1.out.trans (Ext.refl _)) (fun k hk=>by have:=HLW.out.1;omega)); have q0:=cr 0 HQE.out; have q1:=cr 1 HQE.out; have q2:=cr 2 HQE.out; have q3:=cr 3 HQE.out; have ql:=za HQE.out; have qf:=fun k=>zi HQE.out k
   obtain⟨WE,hWE⟩:∃V,yX W qb zH zH zH (.int .i64 0)=V:=⟨_,rfl⟩
   rw[hWE]at QP HXE
   have e0:=cr 0 QP; have e1:=cr 1 QP; have e2:=cr 2 QP; have e3:=cr 3 QP; have el:=za QP; simp at q0 q1 q2 q3 e0 e1 e2 e3
   unfold yX y8 put2 at hWE; clear QP hn hl; go_in
   go_upto_region 1 with fail; try simp only[hqb]
   try simp only[hW]
   go_wp2_with fail; exact bodyPost_ret (v:=.tuple #[.agg #[zH,zH,zH,.int .i64 0],.int .i64 0,.int .i64 3]) (by simp[results,Tryz.results21,go_sem, *]) rfl ⟨3,0,zH,zH,zH,0,rfl,fun h=>by simp at h,⟨⟨_,_,_,rfl⟩,⟨_,_,_,rfl⟩,_,_,_,rfl⟩,HXE.out⟩
 ·have h0:0 < n:=by omega
  have h16:n≤16:=by omega
  have d0:((n:Int)==0)=false:=by simp;omega
  have d1:decide ((16:Int) < (n:Int))=false:=by rw[decide_eq_false_iff_not];omega
  clear hbig hl
  obtain⟨rg,ro,rfl,hrl,hrc⟩:=hr0 h0
  have HR:Hid (∀w1,Ext W w1→rg < w1.heap.size∧∀(i:Nat) (r:Rul),rs[i]?=some r→w1.cell? ⟨rg,ro+i*3,none⟩=some (.string r.name)∧w1.cell? ⟨rg,ro+i*3+1,none⟩=some (.string r.text)∧w1.cell? ⟨rg,ro+i*3+2,none⟩=some (.bool r.skip)):=zh (fun w1 e=>⟨Nat.lt_of_lt_of_le hrl (X1.trans e).size,fun i r hr=>⟨zy (hrc i r hr).1 hrl (X1.trans e),zy (hrc i r hr).2.1 hrl (X1.trans e),zy (hrc i r hr).2.2 hrl (X1.trans e)⟩⟩); have HS:=zh hs; have HN:=zh hn
  obtain⟨lb,hlb⟩:∃b,W.heap.size=b:=⟨_,rfl⟩
  obtain⟨W1,hW1⟩:∃V,W.alloc (.cells #[zH,zH,zH,.int .i64 0] 37)=V:=⟨_,rfl⟩
  have hL1:W1.heap[lb]?=some (.cells #[zH,zH,zH,.int .i64 0] 37):=by rw[←hW1,←hlb];exact heap_alloc_new _ _
  obtain⟨W2,hW2⟩:∃V,yX W1 lb zH zH zH (.int .i64 0)=V:=⟨_,rfl⟩
  have hL2:W2.heap[lb]?=some (.cells #[zH,zH,zH,.int .i64 0] 37):=by rw[←hW2];exact yE hL1 _ _ _ _
  have X12:Ext W W2:=by rw[←hW2];exact(yg (S:=fun k=>k=lb) rfl _ _ _ _).ext (show Ext W W1 from by rw[←hW1];exact xi) (fun k hk=>by omega)
  have HB2:Hid (B7 W W2 W2.heap.size lb zH zH 0 [] [] [] 0):=zh ⟨⟨hL2,by omega,⟨none,0,rfl,vr.nil _ _⟩,X12.size,X12⟩,World.ownsRow_nil _ _ _ _,fun j u ns hu=>(by cases hu),rfl,rfl,rfl,fun k hk=>(by cases hk),by omega,fun ns hns=>(by cases hns),Nat.le_refl _⟩; have z0:=cr 0 hL1; have z1:=cr 1 hL1; have z2:=cr 2 hL1; have z3:=cr 3 hL1; have zl:=za hL1; have zf:=fun k=>zi hL1 k; simp at z0 z1 z2 z3
  unfold yX y8 put2 at hW2; clear hr0 hrl hrc hs hn X1 hQ X12 hL1 hL2; go_in
  go_upto_region 6 with fail; try simp only[hqb]
  try simp only[hW]
  try simp only[hlb]
  try simp only[hW1]
  try simp only[hW2]
  clear hqb hW hlb hW1 hW2 z0 z1 z2 z3 zl zf; go_wp2_with fail; go_loopw [6,7] (fun sv iv wr=>∃(i:Nat) (kv:Value) (kn:Int) (kl:List Int) (vs:List Value) (nss:List (List Nod)),iv=.int .i64 i∧i≤n∧Hid (B7 W wr W2.heap.size lb sv kv kn kl vs nss i)) (fun _ iv _=>n - (intOf iv).toNat)
  case atStart=>exact⟨0,_,_,_,_,_,rfl,Nat.zero_le _,HB2⟩
  case round=>
   clear HB2
   obtain⟨i,kv,kn,kl,vs,nss,rfl,hi,HB⟩:=hrel
   obtain⟨L,c,rfl,_⟩:=zW HB.out.row
   by_cases hlt:i < n
   ·obtain⟨r,hr⟩:∃r,rs[i]?=some r:=⟨_,List.getElem?_eq_getElem (by have:=HN.out;omega)⟩
    have HRI:=zh hr
    obtain⟨rl,hrc⟩:=HR.out wr HB.out.lex.ext
    obtain⟨r0,_,_⟩:=hrc i r hr
    clear hrc hr
    obtain⟨be,hbe⟩:∃b,r.name.toList.isEmpty=b:=⟨_,rfl⟩
    cases be with
    |true=>
     have HQE:=zh (zb HQ.out (HB.out.lex.ext:Ext W wr)); have QP:=yE HQE.out zH zH zH (.int .i64 0); have HXE:Hid (Ext w (yX wr qb zH zH zH (.int .i64 0))):=zh ((yg (S:=fun k=>k=qb) rfl _ _ _ _).ext (HX1.out.trans (HB.out.lex.ext)) (fun k hk=>by have:=HLW.out.1;omega)); have q0:=cr 0 HQE.out; have q1:=cr 1 HQE.out; have q2:=cr 2 HQE.out; have q3:=cr 3 HQE.out; have ql:=za HQE.out; have qf:=fun k=>zi HQE.out k
     obtain⟨WE,hWE⟩:∃V,yX wr qb zH zH zH (.int .i64 0)=V:=⟨_,rfl⟩
     rw[hWE]at QP HXE
     have e0:=cr 0 QP; have e1:=cr 1 QP; have e2:=cr 2 QP; have e3:=cr 3 QP; have el:=za QP; simp at q0 q1 q2 q3 e0 e1 e2 e3
     unfold yX y8 put2 at hWE; clear QP; go_wp2_with fail; exact bodyPost_ret (v:=.tuple #[.agg #[zH,zH,zH,.int .i64 0],.int .i64 i,.int .i64 2]) (by simp[results,Tryz.results21,go_sem, *]) rfl ⟨2,i,zH,zH,zH,0,rfl,fun h=>by simp at h,⟨⟨_,_,_,rfl⟩,⟨_,_,_,rfl⟩,_,_,_,rfl⟩,HXE.out⟩
    |false=>
     go_wp2_with fail; clear r0 hbe rl; go_loopw [8] (fun jv wq=>∃k:Nat,jv=.int .i64 k∧k≤i∧Hid (Ext wr wq)) (fun jv _=>i - (intOf jv).toNat)
     case atStart=>exact⟨0,rfl,Nat.zero_le _,zh (Ext.refl _)⟩
     case round=>
      obtain⟨k,rfl,hk,HX⟩:=hrel
      have HBq:=zh (HB.out.to HX.out)
      obtain⟨rl,hrc⟩:=HR.out _ HBq.out.lex.ext
      obtain⟨r0,r1,r2⟩:=hrc i r HRI.out
      by_cases hki:k < i
      ·obtain⟨r',hr'⟩:∃r',rs[k]?=some r':=⟨_,List.getElem?_eq_getElem (by have:=HN.out;omega)⟩
       obtain⟨p0,_,_⟩:=hrc k r' hr'
       obtain⟨be,hbe⟩:∃b,(r'.name==r.name)=b:=⟨_,rfl⟩
       have hbe2:(r'.name.toList==r.name.toList)=be:=by rw[←hbe,beq_toListBytes]
       clear hrc hr' r1 r2; cases be with
       |true=>
        go_upto_region 15 with fail;refine yj (11) (zd [0,1,2,3,5,6,7,8] (zj [4,9,10] .fin)) (by kernel_rfl) (by kernel_rfl) ?_;refine btp ?_;refine bts ?_;(refine xw ?_)
        obtain⟨V7,hV7⟩:∃V,wr.drew=V:=⟨_,rfl⟩
        have X7:Ext wr V7:=by rw[←hV7];exact xi
        try simp only[hV7]
        clear hV7 r0 p0 rl; have HX7:=zh (HBq.out.lex.ext.trans X7); clear X7; have HQE:=zh (zb HQ.out (HX7.out:Ext W V7)); have QP:=yE HQE.out zH zH zH (.int .i64 0); have HXE:Hid (Ext w (yX V7 qb zH zH zH (.int .i64 0))):=zh ((yg (S:=fun k=>k=qb) rfl _ _ _ _).ext (HX1.out.trans (HX7.out)) (fun k hk=>by have:=HLW.out.1;omega)); have q0:=cr 0 HQE.out; have q1:=cr 1 HQE.out; have q2:=cr 2 HQE.out; have q3:=cr 3 HQE.out; have ql:=za HQE.out; have qf:=fun k=>zi HQE.out k
        obtain⟨WE,hWE⟩:∃V,yX V7 qb zH zH zH (.int .i64 0)=V:=⟨_,rfl⟩
        rw[hWE]at QP HXE
        have e0:=cr 0 QP; have e1:=cr 1 QP; have e2:=cr 2 QP; have e3:=cr 3 QP; have el:=za QP; simp at q0 q1 q2 q3 e0 e1 e2 e3
        unfold yX y8 put2 at hWE; clear QP; go_wp2_with fail; exact bodyPost_ret (v:=.tuple #[.agg #[zH,zH,zH,.int .i64 0],.int .i64 i,.int .i64 6]) (by simp[results,Tryz.results21,go_sem, *]) rfl ⟨6,i,zH,zH,zH,0,rfl,fun h=>by simp at h,⟨⟨_,_,_,rfl⟩,⟨_,_,_,rfl⟩,_,_,_,rfl⟩,HXE.out⟩
       |false=>
        go_upto_region 15 with fail;refine yj (11) (zd [0,1,2,3,5,6,7,8] (zj [4,9,10] .fin)) (by kernel_rfl) (by kernel_rfl) ?_;refine btp ?_;refine bts ?_;(refine xw ?_); go_wp2_with fail; go_roundw
        case rel=>exact⟨k+1,by go_num,by omega,zh (HX.out.trans xi)⟩
        case measure=>simp[intOf];omega
      ·obtain rfl:k=i:=by omega
       clear hrc r0 HB HX; have RD:=zh (zjC r.text wr (HS.out r (List.mem_of_getElem? HRI.out))); go_wp2_with fail; refine RD.out.mono ?_; rintro e w3 ⟨ev,ns,en,er,rfl,hrx,hnl,hnew,hx3⟩; have HSZ:=HS.out r (List.mem_of_getElem? HRI.out); have HRX:=zh hrx; have HNL:Hid (ns.length≤100000):=zh (by omega); have HB3:=zh (HBq.out.to hx3); have HSEP:Hid (zaq kv ns):=zh (fun m hm g off s' hA hv=>by
        have a1:=hnew m hm g off s' hA; have a2:=z8 HBq.out.lex.row.ownU g hv; omega)
       clear r1 r2 rl RD hrx hnl hnew hx3 HSZ HBq; by_cases her:er=0
       ·subst her; have ND:=zh (zcR ev ns w3 HRX.out HNL.out); go_wp2_with fail; refine ND.out.mono ?_; rintro e w4 ⟨d,rfl,hx4⟩; have HB4:=zh (HB3.out.to hx4); have HRX4:=zh (HRX.out.ext hx4); clear hx4 ND HB3 HRX; cases d with
        |true=>
         have HQE:=zh (zb HQ.out (HB4.out.lex.ext:Ext W w4)); have QP:=yE HQE.out zH zH zH (.int .i64 0); have HXE:Hid (Ext w (yX w4 qb zH zH zH (.int .i64 0))):=zh ((yg (S:=fun k=>k=qb) rfl _ _ _ _).ext (HX1.out.trans (HB4.out.lex.ext)) (fun k hk=>by have:=HLW.out.1;omega)); have q0:=cr 0 HQE.out; have q1:=cr 1 HQE.out; have q2:=cr 2 HQE.out; have q3:=cr 3 HQE.out; have ql:=za HQE.out; have qf:=fun k=>zi HQE.out k
         obtain⟨WE,hWE⟩:∃V,yX w4 qb zH zH zH (.int .i64 0)=V:=⟨_,rfl⟩
         rw[hWE]at QP HXE
         have e0:=cr 0 QP; have e1:=cr 1 QP; have e2:=cr 2 QP; have e3:=cr 3 QP; have el:=za QP; simp at q0 q1 q2 q3 e0 e1 e2 e3
         unfold yX y8 put2 at hWE; clear QP; go_wp2_with fail; exact bodyPost_ret (v:=.tuple #[.agg #[zH,zH,zH,.int .i64 0],.int .i64 k,.int .i64 4]) (by simp[results,Tryz.results21,go_sem, *]) rfl ⟨4,k,zH,zH,zH,0,rfl,fun h=>by simp at h,⟨⟨_,_,_,rfl⟩,⟨_,_,_,rfl⟩,_,_,_,rfl⟩,HXE.out⟩
        |false=>
         obtain⟨EA,ec,rfl,_⟩:=HRX4.out.row
         go_upto_region 22 with fail
         obtain⟨i6,hi6,hz0,hz1,hz2⟩:=info_parts ziV
         have HC:=zh (xp w4 101 w4.heap.size #[.slice EA ns.length ec] [.slice EA ns.length ec] rfl rfl); have HO4:=zh (yv HB4.out.row (xi:Ext w4 (w4.alloc (.cells #[.slice EA ns.length ec] 101)))); have HSZ4:=zh HB4.out.siz; have hk16:k≤16:=by omega
         go_upto_region 23 with(at_builtin;refine zE _ (by rfl) (.tmp 76) (.tmp 78) 99 rfl W2.heap.size 101 i6 _ 1 24 Tryz.underlying99 hi6 hz0 hz1 hz2 rfl (by omega) (.slice L k c) k vs rfl HO4.out (some ⟨w4.heap.size,0,none⟩) 1 1 [.slice EA ns.length ec] rfl (by intro h;cases h) rfl HC.out (by intro u hu;obtain rfl:=List.mem_singleton.1 hu;rfl) (by unfold maxLen;omega) (by omega) (by have:=HSZ4.out;simp<;>omega) ?_;intro v5 w5 ho5 hg5 hat5); have HH:=zh ((HB4.out.to (xi:Ext w4 (w4.alloc (.cells #[.slice EA ns.length ec] 101)))).app (HRX4.out.ext xi) HSEP.out HNL.out ho5 hg5)
         obtain⟨L5,c5,rfl,_⟩:=zW ho5
         clear ho5 hg5 hat5 HC HO4 HSZ4 HB4 HRX4 HSEP hi6 hz0 hz1 hz2
         obtain⟨rl,hrc⟩:=HR.out _ HH.out.lex.ext
         obtain⟨_,_,r2⟩:=hrc k r HRI.out
         obtain⟨sk,hsk⟩:∃b,r.skip=b:=⟨_,rfl⟩
         rw[hsk]at r2
         clear hrc hsk; have d2:=cr 2 HH.out.lex.blk; have d3:=cr 3 HH.out.lex.blk; have dl:=za HH.out.lex.blk; simp at d2 d3
         have HKL:Hid (kl.length≤1000000):=zh (by rw[HH.out.kll];omega); have HSZ5:=zh HH.out.siz; have HKN:=zh HH.out.kn9; cases sk with
         |true=>
          go_wp2_with (at_builtin;refine yV W2 (by rfl) (.tmp 86) (.tmp 87) rfl (HH.out.lex.to xi).row (-1) w5.heap.size rfl rfl (by simp) (by rw[cr 0 (heap_alloc_new w5 (.cells #[.int .i64 (-1)] 3))];rfl) HKL.out (by have:=HSZ5.out;simp<;>omega) ?_;intro v6 w6 hr6 hg6 hat6;have hb6:=((HH.out.lex.to xi).app hr6 hg6).1;obtain⟨K6,l6,c6,rfl⟩:∃A l c,v6=.slice A l c:=(by obtain⟨A,c,h,_⟩:=hr6;exact⟨A,_,c,h⟩);have e2:=cr 2 hb6;simp at e2;have e2f:=zi hb6 2;have e2l:=za hb6;obtain⟨W6,hW6⟩:∃V,w6.setCell ⟨lb,2,none⟩ (.slice K6 l6 c6)=V:=⟨_,rfl⟩;have HB6:=zh ((HH.out.to xi).kind hr6 hg6 hat6 (y:=-1) (m:=kn) (by have:=HKN.out;omega) (by have:=HKN.out;omega) (.inl ⟨rfl,hW6.symm⟩));clear hb6 hr6 hg6 hat6 d2 d3 dl r2)
          clear hW6 e2 e2f e2l; go_roundw
          case rel=>exact⟨k+1,_,_,_,_,_,by go_num,by omega,HB6⟩
          case measure=>simp[intOf];omega
         |false=>
          go_upto_region 26 with(at_builtin;refine yV W2 (by rfl) (.tmp 91) (.tmp 94) rfl (HH.out.lex.to xi).row kn w5.heap.size rfl rfl (by simp) (by rw[cr 0 (heap_alloc_new w5 (.cells #[.int .i64 kn] 3))];rfl) HKL.out (by have:=HSZ5.out;simp<;>omega) ?_;intro v6 w6 hr6 hg6 hat6;obtain⟨hb6,_,hL6⟩:=(HH.out.lex.to xi).app hr6 hg6;obtain⟨K6,l6,c6,rfl⟩:∃A l c,v6=.slice A l c:=(by obtain⟨A,c,h,_⟩:=hr6;exact⟨A,_,c,h⟩);have e2:=cr 2 hb6;simp at e2;have e2f:=zi hb6 2;have e2l:=za hb6;obtain⟨W6,hW6⟩:∃V,w6.setCell ⟨lb,2,none⟩ (.slice K6 l6 c6)=V:=⟨_,rfl⟩;rw[hW6]at hL6;have HB6:=zh (fun w7 hw7=>(HH.out.to xi).kind (w3:=w7) hr6 hg6 hat6 (y:=kn) (m:=kn+1) (by have:=HKN.out;omega) (by have:=HKN.out;omega) (.inr hw7));clear hb6 hr6 hg6 hat6 d2 d3 dl r2)
          obtain⟨W7,hW7⟩:∃V,W6.setCell ⟨lb,3,none⟩ (.int .i64 (kn+1))=V:=⟨_,rfl⟩
          have HB7:=zh (HB6.out W7 (by rw[hW6,hW7])); have d3:=cr 3 hL6.blk; have dl:=za hL6.blk; have df:=zi hL6.blk 3; simp at d3
          have hkn:=HKN.out; clear hL6 hW6 e2 e2f e2l HB6; go_wp2_with fail; clear hW7 d3 dl df hkn; go_roundw
          case rel=>exact⟨k+1,_,_,_,_,_,by go_num,by omega,HB7⟩
          case measure=>simp[intOf];omega
       ·have q0:(er==0)=false:=by simpa using her
        have q1:(er !=0)=true:=by simpa using her
        have HER:=zh her; clear her; have HQE:=zh (zb HQ.out (HB3.out.lex.ext:Ext W w3)); have QP:=yE HQE.out zH zH zH (.int .i64 0); have HXE:Hid (Ext w (yX w3 qb zH zH zH (.int .i64 0))):=zh ((yg (S:=fun k=>k=qb) rfl _ _ _ _).ext (HX1.out.trans (HB3.out.lex.ext)) (fun k hk=>by have:=HLW.out.1;omega)); have qq0:=cr 0 HQE.out; have qq1:=cr 1 HQE.out; have q2:=cr 2 HQE.out; have q3:=cr 3 HQE.out; have ql:=za HQE.out; have qf:=fun k=>zi HQE.out k
        obtain⟨WE,hWE⟩:∃V,yX w3 qb zH zH zH (.int .i64 0)=V:=⟨_,rfl⟩
        rw[hWE]at QP HXE
        have e0:=cr 0 QP; have e1:=cr 1 QP; have e2:=cr 2 QP; have e3:=cr 3 QP; have el:=za QP; simp at qq0 qq1 q2 q3 e0 e1 e2 e3
        unfold yX y8 put2 at hWE; clear QP; go_wp2_with fail; exact bodyPost_ret (v:=.tuple #[.agg #[zH,zH,zH,.int .i64 0],.int .i64 k,.int .i64 er]) (by simp[results,Tryz.results21,go_sem, *]) rfl ⟨er,k,zH,zH,zH,0,rfl,fun h=>absurd h HER.out,⟨⟨_,_,_,rfl⟩,⟨_,_,_,rfl⟩,_,_,_,rfl⟩,HXE.out⟩
   ·obtain rfl:i=n:=by omega
    have HNN:Hid (nss.length=i):=zh HB.out.nl; have HKR:=zh HB.out.kr; have HKN:=zh HB.out.kn9; have HKLL:Hid (kl.length=i):=zh HB.out.kll
    obtain⟨K,kq,kc,rfl⟩:∃A l c,kv=.slice A l c:=by
     obtain⟨A,c,h,_⟩:=HB.out.lex.row
     exact⟨A,_,c,h⟩
    have NB:Hid (Calls Tryz.prog 47 #[.slice L i c] wr (zht wr i)):=zh (by
     have:=ze3 (.slice L i c) nss wr HB.out.regs (by rw[HNN.out];omega) (by rw[HNN.out];omega) HB.out.ln
     rwa[HNN.out]at this)
    go_wp2_with fail; refine NB.out.mono ?_; rintro e w3 ⟨er,cv,nv,rv,rfl,hok,⟨⟨A0,n0,c0,rfl⟩,⟨A1,n1,c1,rfl⟩,⟨A2,n2,c2,rfl⟩⟩,hx3⟩; have HOK:=zh hok
    obtain⟨nb,hnb⟩:∃b,w3.heap.size=b:=⟨_,rfl⟩
    obtain⟨W14a,hW14a⟩:∃V,w3.alloc (.cells #[zH,zH,zH] 108)=V:=⟨_,rfl⟩
    have hN14:W14a.heap[nb]?=some (.cells #[zH,zH,zH] 108):=by rw[←hW14a,←hnb];exact heap_alloc_new _ _
    obtain⟨W14,hW14⟩:∃V,y8 W14a nb (.slice A0 n0 c0) (.slice A1 n1 c1) (.slice A2 n2 c2)=V:=⟨_,rfl⟩
    have hP14:W14.heap[nb]?=some (.cells #[.slice A0 n0 c0,.slice A1 n1 c1,.slice A2 n2 c2] 108):=by rw[←hW14];exact qK hN14 _ _ _
    have X14:Ext w3 W14:=by rw[←hW14];exact(yM (S:=fun k=>k=nb) rfl _ _ _).ext (show Ext w3 W14a from by rw[←hW14a];exact xi) (fun k hk=>by omega)
    have HX14:=zh X14; have HB14:=zh (HB.out.to (hx3.trans X14)); have HP:=zh hP14; have z0:=cr 0 hN14; have z1:=cr 1 hN14; have z2:=cr 2 hN14; have zl:=za hN14; have zf:=fun k=>zi hN14 k; simp at z0 z1 z2
    unfold y8 put2 at hW14; clear hok hx3 NB HB hN14 hP14 X14; go_upto_region 28 with fail; try simp only[hnb]
    try simp only[hW14a]
    try simp only[hW14]
    clear hnb hW14a hW14 z0 z1 z2 zl zf; by_cases her:er=0
    ·subst her
     obtain⟨cs,nx,rl,hn,hg⟩:=HOK.out rfl
     have TB:=zh (zey _ _ _ cs nx rl (i:Int) W14 (hn.ext HX14.out) hg (by omega) (by omega)); have y0:=cr 0 HP.out; have y1:=cr 1 HP.out; have y2:=cr 2 HP.out; have yl:=za HP.out; simp at y0 y1 y2
     clear hn hg; go_wp2_with fail; refine TB.out.mono ?_; rintro e w15 ⟨er,nv2,rv2,rfl,htab,⟨⟨B0,m0,b0,rfl⟩,⟨B1,m1,b1,rfl⟩⟩,hx15⟩; have HTAB:=zh htab; have HB15:=zh (HB14.out.to hx15); clear htab hx15 HB14 y0 y1 y2 yl TB
     obtain⟨W16,hW16⟩:∃V,put2 w15 lb (.slice B0 m0 b0) (.slice B1 m1 b1)=V:=⟨_,rfl⟩
     have HT16:Hid (zA (fun k=>k=lb) w15 W16):=zh (by rw[←hW16];exact qU (S:=fun k=>k=lb) rfl _ _); have HL16:Hid (LbI W W16 W2.heap.size lb (.slice B0 m0 b0) (.slice B1 m1 b1) (.slice K kq kc) kn kl):=zh (by rw[←hW16];unfold put2;exact(HB15.out.lex.set (k:=0) (e0:=.slice B0 m0 b0) (e1:=zH) (m:=kn) rfl).set (k:=1) rfl); have p0:=cr 0 HB15.out.lex.blk; have p1:=cr 1 HB15.out.lex.blk; have pl:=za HB15.out.lex.blk; have pf:=fun k=>zi HB15.out.lex.blk k; simp at p0 p1
     unfold put2 at hW16; go_upto_region 30 with fail; try simp only[hW16]
     clear hW16 p0 p1 pl pf; by_cases her:er=0
     ·subst her
      obtain⟨nl,rl2,hr1,hr2,hdfa,hrul⟩:=HTAB.out rfl
      have kp:∀{x:Value} {xs:List Int},xj w15 0 x xs→xj W16 0 x xs:=fun {x xs} h=>h.keepT HT16.out (fun g hg he=>by
       obtain⟨cur,hcur⟩:=h.obj g hg
       subst he; exact zU hcur HB15.out.lex.blk (by decide) rfl)
      have LS:=zh (zhV _ _ nl rl2 (i:Int) W16 (Zi.rows (kp hr1) (kp hr2)) hdfa hrul (by omega)); clear kp hr1 hr2 hdfa hrul; have p0:=cr 0 HL16.out.blk; have p1:=cr 1 HL16.out.blk; have pl:=za HL16.out.blk; simp at p0 p1
      go_wp2_with fail; refine LS.out.mono ?_; rintro e w17 ⟨nv3,rv3,nl3,rl3,rfl,hn3,hr3,hdfa3,hrul3,⟨⟨C0,k0,cc0,rfl⟩,⟨C1,k1,cc1,rfl⟩⟩,hx17⟩; have HL17:=zh (HL16.out.to hx17); have HROW:=zh (And.intro hn3 hr3); have HD3:=zh (And.intro hdfa3 hrul3); clear p0 p1 pl LS HL16 hn3 hr3 hdfa3 hrul3 hx17 HT16 HB15
      obtain⟨W18,hW18⟩:∃V,put2 w17 lb (.slice C0 k0 cc0) (.slice C1 k1 cc1)=V:=⟨_,rfl⟩
      have HT18:Hid (zA (fun k=>k=lb) w17 W18):=zh (by rw[←hW18];exact qU (S:=fun k=>k=lb) rfl _ _); have HL18:Hid (LbI W W18 W2.heap.size lb (.slice C0 k0 cc0) (.slice C1 k1 cc1) (.slice K kq kc) kn kl):=zh (by rw[←hW18];unfold put2;exact(HL17.out.set (k:=0) (e0:=.slice C0 k0 cc0) (e1:=.slice B1 m1 b1) (m:=kn) rfl).set (k:=1) rfl); have p0:=cr 0 HL17.out.blk; have p1:=cr 1 HL17.out.blk; have pl:=za HL17.out.blk; have pf:=fun k=>zi HL17.out.blk k; simp at p0 p1
      unfold put2 at hW18; go_upto_region 33 with fail; try simp only[hW18]
      clear hW18 p0 p1 pl pf; have hQ18:=zb HQ.out HL18.out.ext
      obtain⟨W19,hW19⟩:∃V,yX W18 qb (.slice C0 k0 cc0) (.slice C1 k1 cc1) (.slice K kq kc) (.int .i64 kn)=V:=⟨_,rfl⟩
      have T19:zA (fun k=>k=qb) W18 W19:=by rw[←hW19];exact yg (S:=fun k=>k=qb) rfl _ _ _ _
      have hQ19:W19.heap[qb]?=some (.cells #[.slice C0 k0 cc0,.slice C1 k1 cc1,.slice K kq kc,.int .i64 kn] 37):=by rw[←hW19];exact yE hQ18 _ _ _ _
      have HX19:Hid (Ext w W19):=zh (T19.ext (HX1.out.trans HL18.out.ext) (fun k hk=>by have:=HLW.out.1;omega)); have HLR:Hid (Qp W19 (.slice C0 k0 cc0) (.slice C1 k1 cc1) (.slice K kq kc) nl3 rl3 kl):=zh (by
       have kp:∀{x:Value} {xs:List Int},xj w17 0 x xs→xj W19 0 x xs:=fun {x xs} h=>by
        have h2:xj W18 0 x xs:=h.keepT HT18.out (fun g hg he=>by
         obtain⟨cur,hcur⟩:=h.obj g hg
         subst he; exact zU hcur HL17.out.blk (by decide) rfl)
        exact h2.keepT T19 (fun g hg he=>by
         obtain⟨cur,hcur⟩:=h2.obj g hg
         subst he; exact zU hcur hQ18 (by decide) rfl)
       have hk:=HL18.out.row.keepT T19 (fun g hg he=>by
        obtain⟨cur,hcur⟩:=HL18.out.row.obj g hg
        subst he; exact zU hcur hQ18 (by decide) rfl)
       obtain⟨A,c,hA,ho⟩:=hk
       exact⟨Zi.rows (kp HROW.out.1) (kp HROW.out.2),A,c,hA,ho.ints.1⟩)
      have HOKL:Hid (v9 nl3 rl3 kl kn):=zh ⟨HD3.out.1,by have:=HKN.out;omega,HKR.out,fun r hr=>by have:=HD3.out.2 r hr;have:=HKLL.out;omega,by have:=HKLL.out;omega⟩; have p0:=cr 0 HL18.out.blk; have p1:=cr 1 HL18.out.blk; have p2:=cr 2 HL18.out.blk; have p3:=cr 3 HL18.out.blk; have pl:=za HL18.out.blk; have q0:=cr 0 hQ18; have q1:=cr 1 hQ18; have q2:=cr 2 hQ18; have q3:=cr 3 hQ18; have ql:=za hQ18; have qf:=fun k=>zi hQ18 k; have e0:=cr 0 hQ19; have e1:=cr 1 hQ19; have e2:=cr 2 hQ19; have e3:=cr 3 hQ19; have el:=za hQ19; simp at p0 p1 p2 p3 q0 q1 q2 q3 e0 e1 e2 e3
      unfold yX y8 put2 at hW19; clear hQ18 hQ19 T19 HL18 HL17 HT18 HROW HD3; go_wp2_with fail; exact bodyPost_ret (v:=.tuple #[.agg #[.slice C0 k0 cc0,.slice C1 k1 cc1,.slice K kq kc,.int .i64 kn],.int .i64 i,.int .i64 0]) (by simp[results,Tryz.results21,go_sem, *]) rfl ⟨0,i,_,_,_,kn,rfl,fun _=>⟨nl3,rl3,kl,HLR.out,HOKL.out⟩,⟨⟨_,_,_,rfl⟩,⟨_,_,_,rfl⟩,_,_,_,rfl⟩,HX19.out⟩
     ·have qq0:(er !=0)=true:=by simpa using her
      have HER:=zh her; clear her HT16; have HQE:=zh (zb HQ.out (HL16.out.ext:Ext W W16)); have QP:=yE HQE.out zH zH zH (.int .i64 0); have HXE:Hid (Ext w (yX W16 qb zH zH zH (.int .i64 0))):=zh ((yg (S:=fun k=>k=qb) rfl _ _ _ _).ext (HX1.out.trans (HL16.out.ext)) (fun k hk=>by have:=HLW.out.1;omega)); have q0:=cr 0 HQE.out; have q1:=cr 1 HQE.out; have q2:=cr 2 HQE.out; have q3:=cr 3 HQE.out; have ql:=za HQE.out; have qf:=fun k=>zi HQE.out k
      obtain⟨WE,hWE⟩:∃V,yX W16 qb zH zH zH (.int .i64 0)=V:=⟨_,rfl⟩
      rw[hWE]at QP HXE
      have e0:=cr 0 QP; have e1:=cr 1 QP; have e2:=cr 2 QP; have e3:=cr 3 QP; have el:=za QP; simp at q0 q1 q2 q3 e0 e1 e2 e3
      unfold yX y8 put2 at hWE; clear QP; go_wp2_with fail; exact bodyPost_ret (v:=.tuple #[.agg #[zH,zH,zH,.int .i64 0],.int .i64 i,.int .i64 er]) (by simp[results,Tryz.results21,go_sem, *]) rfl ⟨er,i,zH,zH,zH,0,rfl,fun h=>absurd h HER.out,⟨⟨_,_,_,rfl⟩,⟨_,_,_,rfl⟩,_,_,_,rfl⟩,HXE.out⟩
    ·have qq0:(er==0)=false:=by simpa using her
     have qq1:(er !=0)=true:=by simpa using her
     have HER:=zh her; clear her; have HQE:=zh (zb HQ.out (HB14.out.lex.ext:Ext W W14)); have QP:=yE HQE.out zH zH zH (.int .i64 0); have HXE:Hid (Ext w (yX W14 qb zH zH zH (.int .i64 0))):=zh ((yg (S:=fun k=>k=qb) rfl _ _ _ _).ext (HX1.out.trans (HB14.out.lex.ext)) (fun k hk=>by have:=HLW.out.1;omega)); have q0:=cr 0 HQE.out; have q1:=cr 1 HQE.out; have q2:=cr 2 HQE.out; have q3:=cr 3 HQE.out; have ql:=za HQE.out; have qf:=fun k=>zi HQE.out k
     obtain⟨WE,hWE⟩:∃V,yX W14 qb zH zH zH (.int .i64 0)=V:=⟨_,rfl⟩
     rw[hWE]at QP HXE
     have e0:=cr 0 QP; have e1:=cr 1 QP; have e2:=cr 2 QP; have e3:=cr 3 QP; have el:=za QP; simp at q0 q1 q2 q3 e0 e1 e2 e3
     unfold yX y8 put2 at hWE; clear QP; go_wp2_with fail; exact bodyPost_ret (v:=.tuple #[.agg #[zH,zH,zH,.int .i64 0],.int .i64 i,.int .i64 er]) (by simp[results,Tryz.results21,go_sem, *]) rfl ⟨er,i,zH,zH,zH,0,rfl,fun h=>absurd h HER.out,⟨⟨_,_,_,rfl⟩,⟨_,_,_,rfl⟩,_,_,_,rfl⟩,HXE.out⟩
structure vJ where
 nv:Value
 rv:Value
 kv:Value
 nl:List Int
 rl:List Int
 kl:List Int
 kn:Int
 gc:Gr
 tg:Nat
 tt:Nat
 tc:Nat
 xg:Nat
 xo:Nat
 xc:Nat
 n:Nat
 t:Nat
 β:Nat→Nat→Bool
 M:Int
def zjW (c:Int):Int:=if(524288:Int).tdiv c - 1 < 65536 then(524288:Int).tdiv c - 1 else 65536
structure jM (w:World)(lb:Nat)(D:vJ)(g:Gm):Prop where
 blk:w.heap[lb]?=some (.cells #[D.nv,D.rv,D.kv,.int .i64 D.kn,.int .i64 D.gc.terms,.int .i64 D.gc.nons,.int .i64 D.gc.k,.slice D.gc.pA D.gc.prods.length D.gc.pc,.slice (some ⟨D.tg,D.tt,none⟩) D.gc.prods.length D.tc,.slice (some ⟨D.xg,D.xo,none⟩) D.n D.xc,.int .i64 D.M] 43)
 lex:Qp w D.nv D.rv D.kv D.nl D.rl D.kl
 lok:v9 D.nl D.rl D.kl D.kn
 kin:D.kn=D.gc.terms
 gr:jC w D.gc
 gm:D.gc.gm=g
 acc:jH D.gc
 tab:zcw w D.tg D.tt g
 nxt:zc2 w D.xg D.xo D.n D.t D.β
 hn:D.gc.nons=D.n
 ht:D.gc.terms+1=D.t
 cap:D.M=zjW (Ja g)
theorem jM.ext {w w':World}{lb:Nat}{D:vJ}{g:Gm}(h:jM w lb D g)(e:Ext w w'):jM w' lb D g:=
 ⟨zb h.blk e,h.lex.ext e,h.lok,h.kin,h.gr.ext e,h.gm,h.acc,h.tab.ext e,h.nxt.ext e,h.hn,h.ht,h.cap⟩
theorem jH.like {g g':Gr}(h:jH g)(h1:g'.gm=g.gm)(h2:yY g'=yY g):jH g':=by
 unfold jH
 rw[h1,h2]
 exact h
def zif (w:World)(g:Gr)(e:Ending)(w':World):Prop:=∃(er:Int) (pv:Value),e=.returned (.tuple #[pv,.int .i64 er])∧(er=0→∃lb D,pv=.pointer (some ⟨lb,0,none⟩)∧jH g∧jM w' lb D g.gm)∧Ext w w'
set_option maxRecDepth 100000 in
set_option maxHeartbeats 4000000 in
theorem za7 (v:Value)(rs:List Rul)(g:Gr)(w:World)(hr:zfD w v rs)(hs:∀r∈rs,r.text.size≤1000)(hl:rs.length≤1000000)(h:jC w g)(hz:∀p∈g.prods,p.rA=none→p.rc=0):Calls Tryz.prog 8 #[v,grV g] w (zif w g):=by
 obtain⟨g0,W,hg0,hW,X1,GA,GO⟩:=xM g w h
 have HX:=zh X1; have HG:=zh GA; have HO:=zh GO; have HLB:=zh (zen v rs W (hr.ext X1) hs hl); have HAC:=zh (fun w1 h1=>Ym g w1 h1); have HCN:=zh (fun w1 h1 (ha:jH g)=>JQ g w1 h1 ha); have HCO:=zh (fun w1 h1 (ha:jH g)=>zbe g w1 h1 ha); have HBU:=zh (fun n k w1 h1 (ha:jH g) hn hk=>Qi g n k w1 h1 ha.1 hn hk); have HGC:=zh (fun w1 h1 (ha:jH g)=>zaK g w1 h1 ha.1 hz); have HNX:=zh (fun n k t w1 h1 (ha:jH g) hn hk ht=>zfZ g n k t w1 h1 ha.1 hn hk ht)
 obtain⟨RA,rc,rfl,_⟩:=hr
 obtain⟨rn,hrn⟩:∃k,rs.length=k:=⟨_,rfl⟩
 obtain⟨m,hm⟩:∃m,g.prods.length=m:=⟨_,rfl⟩
 have HM:=zh hm; unfold grV at HAC HCN HCO HBU HGC HNX ⊢
 rw[hrn]at HLB ⊢
 rw[hm]at hW HAC HCN HCO HBU HGC HNX ⊢
 clear h X1 GA GO hs hl hz hrn hm; go_in
 go_upto_region 1 with fail; try simp only[hg0]
 try simp only[hW]
 clear hg0 hW; go_wp2_with fail; refine HLB.out.mono ?_; rintro e' W2 ⟨er,kk,nv,rv,kv,kn,rfl,hlx,⟨⟨N0,m0,nc0,rfl⟩,⟨N1,m1,nc1,rfl⟩,N2,m2,nc2,rfl⟩,hx2⟩; clear HLB
 obtain⟨xb,hxb⟩:∃b,W2.heap.size=b:=⟨_,rfl⟩
 obtain⟨W3a,hW3a⟩:∃V,W2.alloc (.cells #[zH,zH,zH,.int .i64 0] 37)=V:=⟨_,rfl⟩
 have hB3:W3a.heap[xb]?=some (.cells #[zH,zH,zH,.int .i64 0] 37):=by rw[←hW3a,←hxb];exact heap_alloc_new _ _
 obtain⟨W3,hW3⟩:∃V,yX W3a xb (.slice N0 m0 nc0) (.slice N1 m1 nc1) (.slice N2 m2 nc2) (.int .i64 kn)=V:=⟨_,rfl⟩
 have P3:W3.heap[xb]?=some (.cells #[.slice N0 m0 nc0,.slice N1 m1 nc1,.slice N2 m2 nc2,.int .i64 kn] 37):=by rw[←hW3];exact yE hB3 _ _ _ _
 have X23:Ext W2 W3:=by rw[←hW3];exact(yg (S:=fun k=>k=xb) rfl _ _ _ _).ext (show Ext W2 W3a from by rw[←hW3a];exact xi) (fun k hk=>by omega)
 have HX3:=zh (hx2.trans X23); have HLX:=zh (fun h0=>by
  obtain⟨nl,rl,kl,h1,h2⟩:=hlx h0
  exact(⟨nl,rl,kl,h1.ext X23,h2⟩:∃nl rl kl,Qp W3 (.slice N0 m0 nc0) (.slice N1 m1 nc1) (.slice N2 m2 nc2) nl rl kl∧v9 nl rl kl kn))
 have HP3:=zh P3; have z0:=cr 0 hB3; have z1:=cr 1 hB3; have z2:=cr 2 hB3; have z3:=cr 3 hB3; have zl:=za hB3; have zf:=fun k=>zi hB3 k; simp at z0 z1 z2 z3
 unfold yX y8 put2 at hW3; clear hx2 hlx hB3 P3 X23; go_upto_region 2 with fail; try simp only[hxb]
 try simp only[hW3a]
 try simp only[hW3]
 clear hxb hW3a hW3 z0 z1 z2 z3 zl zf; by_cases q0:er=0
 case neg=>
  have p1:(er==0)=false:=by simpa using q0
  have p1':decide (er=0)=false:=by simpa using q0
  have p2:(er !=0)=true:=by simpa using q0
  have HE:=zh q0; have y3:=cr 3 HP3.out; have yl:=za HP3.out; simp at y3
  obtain⟨e0,e1,e2,e3,el⟩:=HG.out.ext HX3.out
  clear q0; go_wp2_with fail; exact bodyPost_ret (v:=.tuple #[.pointer none,.int .i64 er]) (by simp[results,Tryz.results8,go_sem, *]) rfl ⟨er,_,rfl,fun h=>absurd h HE.out,HX.out.trans (HX3.out.trans xi)⟩
 subst q0
 obtain⟨e0,e1,e2,e3,el⟩:=HG.out.ext HX3.out
 rw[HM.out]at e3
 go_wp2_with fail
 refine(HAC.out _ (HO.out.ext HX3.out)).mono ?_
 rintro e' W4 ⟨er,rfl,hac,hx4⟩; have HX4:=zh (HX3.out.trans hx4); have HP4:=zh (zb HP3.out hx4)
 obtain⟨nl,rl,kl,hlx,hlo⟩:=HLX.out (by simp)
 have HLX4:=zh (hlx.ext hx4); have HLO:=zh hlo; clear hx4 HAC HP3 HLX HX3 hlx hlo e0 e1 e2 e3 el
 obtain⟨e0,e1,e2,e3,el⟩:=HG.out.ext HX4.out
 rw[HM.out]at e3
 have y3:=cr 3 HP4.out; have yl:=za HP4.out; simp at y3
 by_cases q0:er=0
 case neg=>
  have p1:(er==0)=false:=by simpa using q0
  have p1':decide (er=0)=false:=by simpa using q0
  have p2:(er !=0)=true:=by simpa using q0
  have HE:=zh q0; clear q0 hac; go_wp2_with fail; exact bodyPost_ret (v:=.tuple #[.pointer none,.int .i64 er]) (by simp[results,Tryz.results8,go_sem, *]) rfl ⟨er,_,rfl,fun h=>absurd h HE.out,HX.out.trans (HX4.out.trans xi)⟩
 subst q0; have HA:=zh (hac.1 rfl); clear hac; by_cases q0:kn=g.terms
 case neg=>
  have p1:(kn !=g.terms)=true:=by simpa using q0
  clear q0; go_wp2_with fail; exact bodyPost_ret (v:=.tuple #[.pointer none,.int .i64 2]) (by simp[results,Tryz.results8,go_sem, *]) rfl ⟨2,_,rfl,fun h=>absurd h (by decide),HX.out.trans (HX4.out.trans xi)⟩
 have p1:(kn !=g.terms)=false:=by simpa using q0
 have HKN:=zh q0; clear q0; go_wp2_with fail
 refine(HCN.out _ (HO.out.ext HX4.out) HA.out).mono ?_
 rintro e' W5 ⟨rfl,hc1,hc2,hx5⟩; have HX5:=zh (HX4.out.trans hx5); have HP5:=zh (zb HP4.out hx5); have HLX5:=zh (HLX4.out.ext hx5)
 obtain⟨cc,hcc⟩:∃c,Ys g.gm=c:=⟨_,rfl⟩
 rw[hcc]at hc1 hc2 ⊢
 clear hx5 HCN HP4 HLX4 HX4 y3 yl hcc e0 e1 e2 e3 el p1
 obtain⟨e0,e1,e2,e3,el⟩:=HG.out.ext HX5.out
 rw[HM.out]at e3
 by_cases q0:65536 < cc
 case pos=>
  have p1:decide (65536 < cc)=true:=decide_eq_true q0; clear q0 hc1 hc2; go_wp2_with fail; exact bodyPost_ret (v:=.tuple #[.pointer none,.int .i64 10]) (by simp[results,Tryz.results8,go_sem, *]) rfl ⟨10,_,rfl,fun h=>absurd h (by decide),HX.out.trans (HX5.out.trans xi)⟩
 have p1:decide (65536 < cc)=false:=decide_eq_false q0; clear q0 hc1 hc2; go_wp2_with fail
 refine(HCO.out _ (HO.out.ext HX5.out) HA.out).mono ?_
 rintro e' W6 ⟨rfl,hc3,hx6⟩; have HX6:=zh (HX5.out.trans hx6); have HP6:=zh (zb HP5.out hx6); have HLX6:=zh (HLX5.out.ext hx6)
 obtain⟨co,hco⟩:∃c,Ja g.gm=c:=⟨_,rfl⟩
 have HC3:=zh hc3; have HCE:=zh hco
 rw[hco]
 clear hx6 HP5 HLX5 HX5 e0 e1 e2 e3 el hc3 hco; by_cases q0:524288 < co
 case pos=>
  have p2:decide (524288 < co)=true:=decide_eq_true q0; clear q0; go_wp2_with fail; exact bodyPost_ret (v:=.tuple #[.pointer none,.int .i64 10]) (by simp[results,Tryz.results8,go_sem, *]) rfl ⟨10,_,rfl,fun h=>absurd h (by decide),HX.out.trans (HX6.out.trans xi)⟩
 have p2:decide (524288 < co)=false:=decide_eq_false q0; have HC4:Hid (3≤co∧co≤524288):=zh ⟨by rw[←HCE.out];exact HC3.out,by omega⟩; clear q0
 obtain⟨e0,e1,e2,e3,el⟩:=HG.out.ext HX6.out
 rw[HM.out]at e3
 go_wp2_with fail
 obtain⟨n,hn⟩:∃n:Nat,g.nons=n:=⟨g.nons.toNat,by have:=yk HA.out.1;omega⟩
 obtain⟨k,hk⟩:∃n:Nat,g.k=n:=⟨g.k.toNat,by have:=yk HA.out.1;omega⟩
 obtain⟨t,ht⟩:∃n:Nat,g.terms+1=n:=⟨(g.terms+1).toNat,by have:=yk HA.out.1;omega⟩
 have HN:=zh hn; have HK:=zh hk; have HT:=zh ht; clear hn hk ht
 refine(HBU.out n k _ (HO.out.ext HX6.out) HA.out HN.out HK.out).mono ?_
 rintro e' W7 ⟨er,tv,cx,cy,cz,cs,rfl,her,htv,hx7⟩; obtain rfl:=her.2 HA.out.2.2.2
 obtain⟨tg,tog,tc,rfl,ht⟩:=htv rfl
 have HX7:=zh (HX6.out.trans hx7); have hp7:=zb HP6.out hx7; have hl7:=HLX6.out.ext hx7; clear hx7 HBU HP6 HLX6 HX6 her htv e0 e1 e2 e3 el
 obtain⟨tb,htb⟩:∃b,W7.heap.size=b:=⟨_,rfl⟩
 obtain⟨V1,hV1⟩:∃V,W7.alloc (.cells #[zH] 40)=V:=⟨_,rfl⟩
 have hT1:V1.heap[tb]?=some (.cells #[zH] 40):=by rw[←hV1,←htb];exact heap_alloc_new _ _
 have htb2:V1.heap.size=tb+1:=by rw[←hV1,←htb];simp
 obtain⟨V2,hV2⟩:∃V,V1.alloc (.cells #[.int .i64 0,.int .i64 0,.int .i64 0,.string ⟨#[]⟩] 75)=V:=⟨_,rfl⟩
 have hC2:V2.heap[tb+1]?=some (.cells #[.int .i64 0,.int .i64 0,.int .i64 0,.string ⟨#[]⟩] 75):=by rw[←hV2,←htb2];exact heap_alloc_new _ _
 have x12:Ext V1 V2:=by rw[←hV2];exact xi
 have hT2:=zb hT1 x12
 obtain⟨V3,hV3⟩:∃V,V2.setCell ⟨tb,0,none⟩ (.slice (some ⟨tg,tog,none⟩) m tc)=V:=⟨_,rfl⟩
 have hT3:V3.heap[tb]?=some (.cells #[.slice (some ⟨tg,tog,none⟩) m tc] 40):=by rw[←hV3];exact zn hT2 _
 have hC3:=zY (k:=0) (g:=tb) hC2 (by omega) (.slice (some ⟨tg,tog,none⟩) m tc)
 rw[hV3]at hC3
 obtain⟨V4,hV4⟩:∃V,yX V3 (tb+1) (.int .i64 cx) (.int .i64 cy) (.int .i64 cz) (.string cs)=V:=⟨_,rfl⟩
 have T4:zA (fun k=>k=tb+1) V3 V4:=by rw[←hV4];exact yg (S:=fun k=>k=tb+1) rfl _ _ _ _
 have hT4:=T4.keep hT3 (by omega); have X74:Ext W7 V4:=T4.ext (show Ext W7 V3 from by rw[←hV3];exact(show Ext W7 V2 from by rw[←hV2,←hV1];exact xi).setCell (by show _≤tb;omega) _) (fun k hk=>by omega); have HX8:=zh (HX7.out.trans X74); have HP8:=zh (zb hp7 X74); have HLX8:=zh (hl7.ext X74); have HT8:=zh (ht.ext X74); have HTB:=zh hT4; have t0:=cr 0 hT2; have tl:=za hT2; have tf:=zi hT2 0; have c0:=cr 0 hC3; have c1:=cr 1 hC3; have c2:=cr 2 hC3; have c3:=cr 3 hC3; have cl:=za hC3; have cf:=fun k=>zi hC3 k; simp at t0 c0 c1 c2 c3
 unfold yX y8 put2 at hV4; clear hp7 hl7 hT1 hC2 x12 hT2 hT3 hC3 T4 hT4 X74 ht HX7; go_upto_region 12 with fail; try simp only[htb]
 try simp only[hV1]
 try simp only[htb2]
 try simp only[hV2]
 try simp only[hV3]
 try simp only[hV4]
 clear htb hV1 htb2 hV2 hV3 hV4 t0 tl tf c0 c1 c2 c3 cl cf
 obtain⟨e0,e1,e2,e3,el⟩:=HG.out.ext HX8.out
 rw[HM.out]at e3
 have t0:=cr 0 HTB.out; have tl:=za HTB.out; have y0:=cr 0 HP8.out; have y1:=cr 1 HP8.out; have y2:=cr 2 HP8.out; have y3:=cr 3 HP8.out; have yl:=za HP8.out; simp at t0 y0 y1 y2 y3
 refine zg (15) (zj [0,1,3,4,6] (.step 2 (.step 5 (.step 7 (zd [8,9,10,11] (.step 12 (zd [13,14] .fin))))))) (by kernel_rfl) (by kernel_rfl) ?_; (repeat first|refine yq ?_|refine yr ?_)
 refine zp fun next hn=>?_;simp only[pick,yp]; go_wp2_with fail
 refine(HGC.out _ (HO.out.ext (HX8.out.trans xi)) HA.out).mono ?_
 rintro e' U1 ⟨gc,rfl,hg',hgm,hgf,hu1⟩; have HU1:Hid (Ext V4 U1):=zh (Ext.trans xi hu1); have HG1:=zh hg'; have HGM:=zh hgm; have HGF:=zh hgf; have HGN:Hid (gc.terms=g.terms∧gc.nons=g.nons∧gc.k=g.k∧gc.prods.length=m):=zh ⟨congrArg Gm.terms hgm,congrArg Gm.nons hgm,congrArg Gm.k hgm,by rw[←HM.out];simpa[Gr.gm]using congrArg (fun x=>x.prods.length) hgm⟩; unfold grV
 rw[HGN.out.2.2.2]
 clear hu1 hg' HGC hgm hgf; go_wp2_with fail; refine zk (fun _=>yZ HU1.out) (hn _ _ ?_); clear hn next; (repeat first|refine yq ?_|refine yr ?_)
 refine zp fun next hn=>?_;simp only[pick,yp]; go_wp2_with fail
 refine(HNX.out n k t _ (HO.out.ext (HX8.out.trans HU1.out)) HA.out HN.out HK.out HT.out).mono ?_
 rintro e' U2 ⟨xg,xo,xc,β,rfl,hxv,hu2⟩; have HU2:Hid (Ext V4 U2):=zh (HU1.out.trans hu2); have HG2:=zh (HG1.out.ext hu2); have HN2:=zh hxv; clear hu2 HNX HG1 HU1 hxv; go_wp2_with fail; refine zk (fun _=>yZ HU2.out) (hn _ _ ?_); clear hn next; (repeat first|refine yq ?_|refine yr ?_)
 refine zp fun next hn=>?_;simp only[pick,yp]; go_wp2_with fail
 refine(HCO.out _ (HO.out.ext (HX8.out.trans HU2.out)) HA.out).mono ?_
 rintro e' U3 ⟨rfl,_,hu3⟩
 rw[HCE.out]
 have HU3:Hid (Ext V4 U3):=zh (HU2.out.trans hu3); have HG3:=zh (HG2.out.ext hu3); have HN3:=zh (HN2.out.ext hu3); clear hu3 HCO HG2 HN2 HU2; go_wp2_with fail; refine zk (fun _=>yZ HU3.out) (hn _ _ ?_); clear hn next e0 e1 e2 e3 el t0 tl y0 y1 y2 y3 yl
 obtain⟨qd,hqd⟩:∃q,(524288:Int).tdiv co=q:=⟨_,rfl⟩
 have hqb:0≤qd∧qd≤524288:=by
  rw[←hqd]
  have h1:=HC4.out
  rw[Int.tdiv_eq_ediv_of_nonneg (by decide)]
  exact⟨Int.ediv_nonneg (by decide) (by omega),by
   have:=Int.ediv_le_self (a:=524288) co (by decide)
   exact this⟩
 have HQD:=zh hqd; have d0:(co==0)=false:=by have:=HC4.out;simp;omega
 have d0':co≠0:=by have:=HC4.out;omega
 have f1:wrap64 qd=qd:=IntWalk.wrap64_in _ (by omega); have f2:wrap64 (qd - 1)=qd - 1:=IntWalk.wrap64_in _ (by omega)
 obtain⟨M,hMM⟩:∃x,(if qd - 1 < 65536 then qd - 1 else 65536)=x:=⟨_,rfl⟩
 have HMM:=zh hMM; clear hqb; (repeat first|refine yq ?_|refine yr ?_)
 refine zp fun next hn=>?_;simp only[pick,yp]; go_wp2_with fail; clear d0 d0' f1 f2 hqd hMM; refine zk (fun _=>yZ (HU3.out.trans (xi:Ext U3 _))) (hn _ _ ?_); clear hn next; have X4:Ext U3 (U3.alloc (.cells #[.slice N0 m0 nc0,.slice N1 m1 nc1,.slice N2 m2 nc2,.int .i64 kn,.int .i64 gc.terms,.int .i64 gc.nons,.int .i64 gc.k,.slice gc.pA m gc.pc,.slice (some ⟨tg,tog,none⟩) m tc,.slice (some ⟨xg,xo,none⟩) n xc,.int .i64 M] 43)):=xi; have HLR0:jM (U3.alloc (.cells #[.slice N0 m0 nc0,.slice N1 m1 nc1,.slice N2 m2 nc2,.int .i64 kn,.int .i64 gc.terms,.int .i64 gc.nons,.int .i64 gc.k,.slice gc.pA m gc.pc,.slice (some ⟨tg,tog,none⟩) m tc,.slice (some ⟨xg,xo,none⟩) n xc,.int .i64 M] 43)) U3.heap.size ⟨.slice N0 m0 nc0,.slice N1 m1 nc1,.slice N2 m2 nc2,nl,rl,kl,kn,gc,tg,tog,tc,xg,xo,xc,n,t,β,M⟩ g.gm:=by
  refine⟨?_,HLX8.out.ext (HU3.out.trans X4),HLO.out,by rw[HKN.out];exact HGN.out.1.symm,HG3.out.ext X4,HGM.out,HA.out.like HGM.out HGF.out,HT8.out.ext (HU3.out.trans X4),HN3.out.ext X4,by rw[←HN.out];exact HGN.out.2.1,by rw[←HT.out];show gc.terms+1=_;rw[HGN.out.1],?_⟩
  ·dsimp only
   rw[HGN.out.2.2.2]
   exact heap_alloc_new _ _
  ·dsimp only; unfold zjW
   rw[HCE.out,HQD.out]
   exact HMM.out.symm
 have HLR:=zh HLR0; have HXF:Hid (Ext w (U3.alloc (.cells #[.slice N0 m0 nc0,.slice N1 m1 nc1,.slice N2 m2 nc2,.int .i64 kn,.int .i64 gc.terms,.int .i64 gc.nons,.int .i64 gc.k,.slice gc.pA m gc.pc,.slice (some ⟨tg,tog,none⟩) m tc,.slice (some ⟨xg,xo,none⟩) n xc,.int .i64 M] 43))):=zh (HX.out.trans (HX8.out.trans (HU3.out.trans X4))); clear X4 HLR0
 obtain⟨lb,hlb⟩:∃b,U3.heap.size=b:=⟨_,rfl⟩
 obtain⟨U4,hU4⟩:∃V,U3.alloc (.cells #[.slice N0 m0 nc0,.slice N1 m1 nc1,.slice N2 m2 nc2,.int .i64 kn,.int .i64 gc.terms,.int .i64 gc.nons,.int .i64 gc.k,.slice gc.pA m gc.pc,.slice (some ⟨tg,tog,none⟩) m tc,.slice (some ⟨xg,xo,none⟩) n xc,.int .i64 M] 43)=V:=⟨_,rfl⟩
 rw[hU4,hlb]at HLR
 rw[hU4]at HXF
 try simp only[hU4,hlb]
 clear hU4 hlb; (repeat first|refine yq ?_|refine yr ?_)
 refine zv ?_; go_wp2_with fail; exact bodyPost_ret (v:=.tuple #[.pointer (some ⟨lb,0,none⟩),.int .i64 0]) (by simp[results,Tryz.results8,go_sem, *]) rfl ⟨0,_,rfl,fun _=>⟨lb,_,rfl,HA.out,HLR.out⟩,HXF.out⟩
def YM (n:Nat)(kn:Int)(p:Nat)(q:Int×Int×Int×Int):Prop:=-2≤q.1∧q.1 < kn∧(p:Int)≤q.2.1∧q.2.1≤q.2.2.1∧q.2.2.1≤n∧q.2.2.1+1≤q.2.2.2∧q.2.2.2≤(n:Int)+1∧(q.1≠-2→(p:Int) < q.2.2.1)
theorem zjs {nl rl kl:List Int}{kinds:Int}{s:ByteArray}(hO:v9 nl rl kl kinds):∀(f p:Nat) (ext:Int),p≤s.size→s.size+1 - p≤f→ext≤(s.size:Int)+1→YM s.size kinds p (nxt nl rl kl s f p ext):=by
 intro f; induction f with
 |zero=>intro p ext h1 h2;omega
 |succ f ih=>
  intro p ext h1 h2 h3; have hkn:=hO.few; unfold nxt; by_cases hp:p=s.size
  ·rw[if_pos hp]
   unfold YM; dsimp only
   refine⟨by omega,by omega,by omega,by omega,by omega,by omega,by omega,fun h=>absurd rfl h⟩
  ·rw[if_neg hp]
   have hm:=jn (s:=s) (p:=p) hO (by omega)
   obtain⟨z,hz⟩:∃z,xT nl rl s p=z:=⟨_,rfl⟩
   rw[hz]at hm ⊢
   obtain⟨a,b,c⟩:=z
   obtain⟨m1,m2,m3,m4,m5,m6⟩:=hm
   dsimp only at m1 m2 m3 m4 m5 m6 ⊢; by_cases ha:a < 0
   ·rw[if_pos ha]
    unfold YM; dsimp only
    refine⟨by omega,by omega,by omega,by omega,by omega,by omega,by omega,fun h=>by omega⟩
   ·rw[if_neg ha]
    have hal:a.toNat < kl.length:=by omega
    have hk:=hO.kind (kl.getD a.toNat 0) (by rw[List.getD_eq_getElem?_getD,List.getElem?_eq_getElem hal];exact List.getElem_mem hal)
    obtain⟨y,hy⟩:∃y,kl.getD a.toNat 0=y:=⟨_,rfl⟩
    rw[hy]at hk ⊢
    by_cases h0:0≤y
    ·rw[if_pos h0]
     unfold YM; dsimp only
     refine⟨by omega,by omega,by omega,by omega,by omega,by omega,by omega,fun h=>by omega⟩
    ·rw[if_neg h0]
     have hh:=ih b.toNat (max ext c) (by omega) (by omega) (by omega); unfold YM at hh ⊢
     obtain⟨h1,h2,h3,h4,h5,h6,h7,h8⟩:=hh
     exact⟨h1,h2,by omega,h4,h5,h6,h7,fun h=>by have:=h8 h;omega⟩
theorem za8 {nl rl kl:List Int}{kinds:Int}{s:ByteArray}(hO:v9 nl rl kl kinds){p:Nat}(hp:p≤s.size):YM s.size kinds p (vI nl rl kl s p):=zjs hO _ p 0 hp (Nat.le_refl _) (by omega)
noncomputable def qZ (D:vJ)(g:Gm)(s:ByteArray):LxP:=⟨g,s.size,fun p=>vI D.nl D.rl D.kl s p,fun A r=>QM g A r,fun A k=>decide (0≤k)&&D.β A.toNat k.toNat⟩
theorem za3 {w:World}{lb:Nat}{D:vJ}{g:Gm}(h:jM w lb D g)(h6:g.nons≤6)(h5:∀p∈g.prods,p.right.length≤5)(s:ByteArray):QL (qZ D g s):=by
 have hg:VE g:=by rw[←h.gm];exact YJ h.acc.1
 have hl:qx g:=by rw[←h.gm];exact h.acc.2.2.1
 have hs:vd g:=by rw[←h.gm];exact h.acc.2.2.2
 have hk:D.kn=g.terms:=by rw[h.kin,←h.gm];rfl
 refine⟨hg,h6,h5,hl,hs,fun p hp=>?_,fun A w hA=>?_,fun A w hA=>?_⟩
 ·have:=za8 h.lok hp (s:=s)
  unfold YM at this
  rw[hk]at this
  exact this
 ·rcases zbj g A w with⟨h1,_⟩|⟨i,p,h1,hp,hl,hr⟩
  ·exact absurd hA (by show ¬0≤QM g A w;omega)
  ·refine⟨p,?_,hl,hr⟩
   show g.prods[(QM g A w).toNat]?=some p
   rw[h1]
   exact hp
 ·rcases zbj g A w with⟨_,h1⟩|⟨i,p,h1,hp,hl,hr⟩
  ·exact h1
  ·exact absurd hA (by show ¬QM g A w < 0;omega)
end Go.Proofs.YtmbelmngniddjaaGreat
