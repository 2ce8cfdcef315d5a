/- Rf: texts that the proof rests on, part 14. -/
import Derived.Test.YtmbelmngniddjaaGreatRf13
namespace Go.Proofs.YtmbelmngniddjaaGreat
open Go.RowKit
attribute [local go_sem] zF zB zI zJ zw zt zN zD zX zQ zK zP zO zL zT zR zS zG zM zC
def lvF (ns:List Nod):Nat→Nat→Nat
 |0,_=>0
 |f+1,i=>match ns[i]? with
  |none=>0
  |some n=>if n.k=2 then 1 else(n.kids.map fun k=>lvF ns f k.toNat).sum
def lvN (ns:List Nod)(i:Nat):Nat:=lvF ns (i+1) i
theorem zij {ns:List Nod}(hO:zga ns):∀(b i f:Nat),i < b→i < f→lvF ns f i=lvN ns i:=by
 intro b; induction b with
 |zero=>intro i f h;omega
 |succ b ih=>
  intro i f hb hf
  obtain⟨f,rfl⟩:∃g,f=g+1:=⟨f - 1,by omega⟩
  unfold lvN lvF; cases hn:ns[i]? with
  |none=>rfl
  |some n=>
   show(if n.k=2 then 1 else _)=(if n.k=2 then 1 else _)
   congr 2
   apply List.map_congr_left
   intro k hk
   have:=hO.low i n hn k hk
   rw[ih k.toNat f (by omega) (by omega),ih k.toNat i (by omega) (by omega)]
theorem zjr {ns:List Nod}(hO:zga ns){i:Nat}{n:Nod}(hn:ns[i]?=some n):lvN ns i=if n.k=2 then 1 else(n.kids.map fun k=>lvN ns k.toNat).sum:=by
 conv=>lhs;unfold lvN lvF
 rw[hn]
 show(if n.k=2 then 1 else _)=_
 congr 2
 apply List.map_congr_left
 intro k hk
 have:=hO.low i n hn k hk
 exact zij hO i k.toNat i (by omega) (by omega)
theorem zjt {ns:List Nod}(hO:zga ns):∀j,j≤ns.length→((List.range j).map (lvN ns)).sum≤j+(((ns.take j).flatMap (·.kids)).map fun k=>lvN ns k.toNat).sum:=by
 intro j; induction j with
 |zero=>intro _;simp
 |succ j ih=>
  intro hj; have h1:=ih (by omega)
  obtain⟨n,hn⟩:∃n,ns[j]?=some n:=⟨_,List.getElem?_eq_getElem (by omega)⟩
  have ht:ns.take (j+1)=ns.take j++[n]:=by rw[List.take_add_one,hn];rfl
  rw[List.range_succ,List.map_append,List.sum_append,ht,List.flatMap_append,List.map_append,List.sum_append]
  have h2:=zjr hO hn; have h3:lvN ns j≤1+(n.kids.map fun k=>lvN ns k.toNat).sum:=by
   rw[h2]
   split<;>omega
  simp only[List.map_cons,List.map_nil,List.sum_cons,List.sum_nil,List.flatMap_cons,List.flatMap_nil,List.append_nil]
  omega
theorem ziI {ns:List Nod}(hO:zga ns):lvN ns (ns.length - 1)≤ns.length:=by
 have h1:=zjt hO ns.length (Nat.le_refl _)
 rw[List.take_length]at h1
 have hp:(ns.flatMap (·.kids)).Perm ((List.range (ns.length - 1)).map Int.ofNat):=by
  rw[List.perm_iff_count]
  intro a; by_cases ha:0≤a∧a < (ns.length - 1:Nat)
  ·obtain⟨q,rfl⟩:∃q:Nat,a=q:=⟨a.toNat,by omega⟩
   rw[show(ns.flatMap (·.kids)).count (q:Int)=1 from hO.once q (by omega)]
   have hnd:((List.range (ns.length - 1)).map Int.ofNat).Nodup:=by
    rw[List.nodup_iff_pairwise_ne,List.pairwise_map]
    exact List.nodup_range.imp (fun h he=>h (Int.ofNat.inj he))
   have hm:(q:Int)∈(List.range (ns.length - 1)).map Int.ofNat:=List.mem_map.2 ⟨q,List.mem_range.2 (by omega),rfl⟩; have h1:=List.nodup_iff_count.1 hnd (q:Int); have h2:=List.count_pos_iff.2 hm; omega
  ·rw[List.count_eq_zero.2,List.count_eq_zero.2]
   ·intro hm
    obtain⟨q,hq,rfl⟩:=List.mem_map.1 hm
    have:=List.mem_range.1 hq
    exact ha ⟨Int.natCast_nonneg q,by show(q:Int) < _;omega⟩
   ·intro hm
    obtain⟨n,hn,hk⟩:=List.mem_flatMap.1 hm
    obtain⟨i,hi⟩:=List.mem_iff_getElem?.1 hn
    have:=hO.low i n hi a hk
    have:=(List.getElem?_eq_some_iff.1 hi).1
    exact ha ⟨by omega,by omega⟩
 have h2:=(hp.map fun k=>lvN ns k.toNat).sum_nat
 rw[h2,List.map_map]at h1
 have hl:ns.length=(ns.length - 1)+1:=by have:=hO.pos;omega
 conv at h1=>lhs;rw[hl,List.range_succ,List.map_append,List.sum_append]
 have h3:((List.range (ns.length - 1)).map ((fun k:Int=>lvN ns k.toNat) ∘ Int.ofNat))=(List.range (ns.length - 1)).map (lvN ns):=List.map_congr_left (fun q _=>rfl)
 rw[h3]at h1
 simp only[List.map_cons,List.map_nil,List.sum_cons,List.sum_nil]at h1
 omega
section
variable {w w':World}{nb base:Nat}{cs:List Cl}{nx:List (List Int)}{rl:List Int}{cv nv rv cv' nv' rv':Value}
theorem ZV.low_all (h:ZV w nb base cs nx rl cv nv rv):∀g,Zf nb cv nv rv g→base≤g:=fun g hg=>by
 obtain⟨vs,h1,_⟩:=h.at_.nxt
 rcases hg with rfl|hg|hg|hg
 ·exact h.at_.low
 ·exact zV h.at_.cls g hg
 ·exact zV h1 g hg
 ·exact zV h.at_.rul g hg
theorem ZV.off (h:ZV w nb base cs nx rl cv nv rv){b:Nat}{xs:Array Value}{T:TypeId}(hb:w.heap[b]?=some (.cells xs T))(hT:T≠108∧T≠145∧T≠33∧T≠3):¬Zf nb cv nv rv b:=fun hg=>by
 obtain⟨t1,t2,t3⟩:=h.at_.types
 rcases hg with rfl|hg|hg|hg
 ·exact zU h.at_.blk hb (Ne.symm hT.1) rfl
 ·obtain⟨cu,hc⟩:=t1 b hg
  exact zU hc hb (Ne.symm hT.2.1) rfl
 ·obtain⟨cu,hc⟩:=t2 b hg
  exact zU hc hb (Ne.symm hT.2.2.1) rfl
 ·obtain⟨cu,hc⟩:=t3 b hg
  exact zU hc hb (Ne.symm hT.2.2.2) rfl
theorem ZV.sl (h:ZV w nb base cs nx rl cv nv rv){v:Value}{xs:List Int}(hs:yN w rv v xs)(t:zA (Zf nb cv nv rv) w w')(hr:∀g,rv'.ownBlock=some g→rv.ownBlock=some g∨w.heap.size≤g):yN w' rv' v xs:=
 hs.keep t (fun g ds hg hne hh=>by
  obtain⟨t1,t2,t3⟩:=h.at_.types
  rcases hh with rfl|hh|hh|hh
  ·exact zU h.at_.blk hg (by decide) rfl
  ·obtain⟨cu,hc⟩:=t1 g hh
   exact zU hc hg (by decide) rfl
  ·obtain⟨cu,hc⟩:=t2 g hh
   exact zU hc hg (by decide) rfl
  ·exact hne hh) rv' hr
end
def zdb (w:World)(nb base:Nat)(cs:List Cl)(rl:List Int)(cv nv rv:Value)(lim:Nat)(e:Ending)(w':World):Prop:=
 ∃(em:Bool) (F:Option Addr) (fc:Nat) (fs:List Int) (L:Option Addr) (lc:Nat) (ls:List Int) (cs2:List Cl) (nx':List (List Int)) (rl2:List Int) (cv' nv' rv':Value),
  e=.returned (.agg #[.bool em,.slice F fs.length fc,.slice L ls.length lc])∧yN w' rv' (.slice F fs.length fc) fs∧yN w' rv' (.slice L ls.length lc) ls∧ZV w' nb base (cs++cs2) nx' (rl++rl2) cv' nv' rv'∧
  qY (cs++cs2).length fs∧qY (cs++cs2).length ls∧cs2.length≤lim∧(∀r∈rl2,r=-1)∧zA (Zf nb cv nv rv) w w'∧(∀g,Zf nb cv' nv' rv' g→Zf nb cv nv rv g∨w.heap.size≤g)∧∀g,rv'.ownBlock=some g→rv.ownBlock=some g∨w.heap.size≤g
structure NdS (w0 ws:World)(nb base:Nat)(cs:List Cl)(rl:List Int)(cv nv rv:Value)(pb:Nat)(xcs:Array Value)(w:World)(lim:Nat)(cs2:List Cl)(cv' nv' rv':Value):Prop where
 nfa:∃nx rl2,ZV w nb base (cs++cs2) nx (rl++rl2) cv' nv' rv'∧∀r∈rl2,r=-1
 lim:cs2.length≤lim
 turn:zA (Zf nb cv nv rv) ws w
 sub:∀g,Zf nb cv' nv' rv' g→Zf nb cv nv rv g∨ws.heap.size≤g
 rvb:∀g,rv'.ownBlock=some g→rv.ownBlock=some g∨ws.heap.size≤g
 res:w.heap[pb]?=some (.cells #[.bool false,zH,zH] 148)
 nod:w.heap[pb+1]?=some (.cells xcs 189)
 ext:Ext w0 w
 new:ws.heap.size≤pb
structure PlA (w:World)(b m:Nat)(rv:Value)(em:Bool)(F:Option Addr)(fc:Nat)(fs:List Int)(L:Option Addr)(lc:Nat)(ls:List Int):Prop where
 blk:w.heap[b]?=some (.cells #[.bool em,.slice F fs.length fc,.slice L ls.length lc] 148)
 f:yN w rv (.slice F fs.length fc) fs
 l:yN w rv (.slice L ls.length lc) ls
 fo:qY m fs
 lo:qY m ls
section
variable {w0 ws w w':World}{nb base pb lim b m:Nat}{cs cs2:List Cl}{rl:List Int}{cv nv rv cv1 nv1 rv1:Value}{xcs:Array Value}{em:Bool}{F L:Option Addr}{fc lc:Nat}{fs ls:List Int}
theorem NdS.toExt (h:NdS w0 ws nb base cs rl cv nv rv pb xcs w lim cs2 cv1 nv1 rv1)(e:Ext w w'):NdS w0 ws nb base cs rl cv nv rv pb xcs w' lim cs2 cv1 nv1 rv1:=by
 obtain⟨nx,rl2,h1,h2⟩:=h.nfa
 exact⟨⟨nx,rl2,h1.ext e,h2⟩,h.lim,h.turn.trans (zA.of_ext e),h.sub,h.rvb,zb h.res e,zb h.nod e,h.ext.trans e,h.new⟩
theorem PlA.ext (h:PlA w b m rv em F fc fs L lc ls)(e:Ext w w'):PlA w' b m rv em F fc fs L lc ls:=⟨zb h.blk e,h.f.extU e,h.l.extU e,h.fo,h.lo⟩
theorem PlA.cells (h:PlA w b m rv em F fc fs L lc ls):w.cell? ⟨b,0,none⟩=some (.bool em)∧w.cell? ⟨b,1,none⟩=some (.slice F fs.length fc)∧w.cell? ⟨b,2,none⟩=some (.slice L ls.length lc)∧b < w.heap.size∧∀k,w.frozen? ⟨b,k,none⟩=false:=by
 have b0:=cr 0 h.blk; have b1:=cr 1 h.blk; have b2:=cr 2 h.blk; simp at b0 b1 b2
 exact⟨b0,b1,b2,za h.blk,fun k=>zi h.blk k⟩
theorem NdS.wrote (h:NdS w0 ws nb base cs rl cv nv rv pb xcs w lim cs2 cv1 nv1 rv1)(hb:w0.heap.size≤base){lim':Nat}{cs3:List Cl}{cv2 nv2 rv2:Value}{nx2:List (List Int)}{rl3:List Int}(hn:ZV w' nb base (cs++cs3) nx2 (rl++rl3) cv2 nv2 rv2)(hrl:∀r∈rl3,r=-1)(hlim:cs3.length≤lim')(t:zA (Zf nb cv1 nv1 rv1) w w')
 (hsub:∀g,Zf nb cv2 nv2 rv2 g→Zf nb cv1 nv1 rv1 g∨w.heap.size≤g) (hrb:∀g,rv2.ownBlock=some g→rv1.ownBlock=some g∨w.heap.size≤g):NdS w0 ws nb base cs rl cv nv rv pb xcs w' lim' cs3 cv2 nv2 rv2:=by
 obtain⟨nx,rl2,h1,h2⟩:=h.nfa
 exact⟨⟨nx2,rl3,hn,hrl⟩,hlim,h.turn.andThen t (fun _ _ hk=>hk) (fun k hk hs=>by
  rcases h.sub k hs with h3|h3
  ·exact h3
  ·omega),fun g hg=>by
  rcases hsub g hg with h3|h3
  ·exact h.sub g h3
  ·have:=h.turn.size;exact .inr (by omega),fun g hg=>by
  rcases hrb g hg with h3|h3
  ·exact h.rvb g h3
  ·have:=h.turn.size;exact .inr (by omega),t.keep h.res (h1.off h.res (by decide)),t.keep h.nod (h1.off h.nod (by decide)),t.ext h.ext (fun k hk=>Nat.le_trans hb (h1.low_all k hk)),h.new⟩
theorem PlA.wrote (h:PlA w b m rv1 em F fc fs L lc ls){nx:List (List Int)}(hn:ZV w nb base cs nx rl cv1 nv1 rv1)(t:zA (Zf nb cv1 nv1 rv1) w w'){rv2:Value}(hrb:∀g,rv2.ownBlock=some g→rv1.ownBlock=some g∨w.heap.size≤g){m':Nat}(hm:m≤m'):PlA w' b m' rv2 em F fc fs L lc ls:=
 ⟨t.keep h.blk (hn.off h.blk (by decide)),hn.sl h.f t hrb,hn.sl h.l t hrb,h.fo.wide hm,h.lo.wide hm⟩
theorem NdS.put (h:NdS w0 ws nb base cs rl cv nv rv pb xcs w lim cs2 cv1 nv1 rv1){ds:Array Value}(hq:w.heap[b]?=some (.cells ds 148))(hb:ws.heap.size≤b)(hne:b≠pb)(hx:Ext w0 ws)(t:zA (fun k=>k=b) w w'):NdS w0 ws nb base cs rl cv nv rv pb xcs w' lim cs2 cv1 nv1 rv1:=by
 obtain⟨nx,rl2,h1,h2⟩:=h.nfa
 exact⟨⟨nx,rl2,⟨h1.at_.keepB hq (by decide) t,h1.nxl,h1.rll,h1.ok,h1.cls⟩,h2⟩,h.lim,h.turn.andThen t (fun _ _ hk=>hk) (fun k hk hs=>by omega),h.sub,h.rvb,t.keep h.res (fun he=>hne he.symm),t.keep h.nod (fun he=>zU h.nod hq (by decide) he),t.ext h.ext (fun k hk=>by have:=hx.size;omega),h.new⟩
theorem yN.put {v:Value}{xs:List Int}(h:yN w rv v xs){ds:Array Value}(hq:w.heap[b]?=some (.cells ds 148))(t:zA (fun k=>k=b) w w'):yN w' rv v xs:=
 h.keep t (fun g cs hg _ he=>zU hg hq (by decide) he) rv (fun _ hg=>.inl hg)
end
def zit (w0:World)(g off c len nb base:Nat)(ns:List Nod)(i:Nat):Prop:=∀(q:Nat),q < i→∀(cs:List Cl) (nx:List (List Int)) (rl:List Int) (cv nv rv:Value) (w:World),ZV w nb base cs nx rl cv nv rv→Ext w0 w→cs.length+lvN ns q≤10000→
 Calls Tryz.prog 80 #[ptr nb,.slice (some ⟨g,off,none⟩) len c,.int .i64 q] w (zdb w nb base cs rl cv nv rv (lvN ns q))
theorem NdS.call {w0 ws w:World}{g off c len nb base pb lim i q:Nat}{ns:List Nod}{cs cs2:List Cl}{rl:List Int}{cv nv rv cv1 nv1 rv1:Value}{xcs:Array Value}(h:NdS w0 ws nb base cs rl cv nv rv pb xcs w lim cs2 cv1 nv1 rv1)(IH:zit w0 g off c len nb base ns i)(hq:q < i)(hb:w0.heap.size≤base)(hl:cs.length+lim+lvN ns q≤10000):
 Calls Tryz.prog 80 #[ptr nb,.slice (some ⟨g,off,none⟩) len c,.int .i64 q] w fun e w'=>∃(em:Bool) (F:Option Addr) (fc:Nat) (fs:List Int) (L:Option Addr) (lc:Nat) (ls:List Int) (cs3:List Cl) (cv2 nv2 rv2:Value),
  e=.returned (.agg #[.bool em,.slice F fs.length fc,.slice L ls.length lc])∧NdS w0 ws nb base cs rl cv nv rv pb xcs w' (lim+lvN ns q) cs3 cv2 nv2 rv2∧yN w' rv2 (.slice F fs.length fc) fs∧yN w' rv2 (.slice L ls.length lc) ls∧qY (cs++cs3).length fs∧qY (cs++cs3).length ls∧
  ∀{b:Nat} {em':Bool} {F':Option Addr} {fc':Nat} {fs':List Int} {L':Option Addr} {lc':Nat} {ls':List Int},PlA w b (cs++cs2).length rv1 em' F' fc' fs' L' lc' ls'→PlA w' b (cs++cs3).length rv2 em' F' fc' fs' L' lc' ls':=by
 obtain⟨nx,rl2,h1,h2⟩:=h.nfa
 refine(IH q hq (cs++cs2) nx (rl++rl2) cv1 nv1 rv1 w h1 h.ext (by rw[List.length_append];have:=h.lim;omega)).mono ?_
 rintro e w' ⟨em,F,fc,fs,L,lc,ls,cs3,nx',rl3,cv2,nv2,rv2,rfl,k1,k2,k3,k4,k5,k6,k7,k8,k9,k10⟩
 rw[List.append_assoc]at k3 k4 k5
 rw[List.append_assoc]at k3
 refine⟨em,F,fc,fs,L,lc,ls,cs2++cs3,cv2,nv2,rv2,rfl,h.wrote hb k3 (fun r hr=>?_) (by rw[List.length_append];have:=h.lim;omega) k8 k9 k10,k1,k2,k4,k5,fun hp=>hp.wrote h1 k8 k10 (by simp only[List.length_append];omega)⟩
 rcases List.mem_append.1 hr with hr|hr
 ·exact h2 r hr
 ·exact k7 r hr
theorem NdS.join {w0 ws w:World}{nb base pb lim:Nat}{cs cs2:List Cl}{rl:List Int}{cv nv rv cv1 nv1 rv1:Value}{xcs:Array Value}(h:NdS w0 ws nb base cs rl cv nv rv pb xcs w lim cs2 cv1 nv1 rv1)(hb:w0.heap.size≤base)(hl:cs.length+lim≤10000){lv fv:Value}{ls fs:List Int}(hL:yN w rv1 lv ls)(hF:yN w rv1 fv fs)(hlo:qY (cs++cs2).length ls)(hfo:qY (cs++cs2).length fs):
 Calls Tryz.prog 117 #[ptr nb,lv,fv] w fun e w'=>e=.returned (.tuple #[])∧NdS w0 ws nb base cs rl cv nv rv pb xcs w' lim cs2 cv1 nv1 rv1∧
  ∀{b:Nat} {em':Bool} {F':Option Addr} {fc':Nat} {fs':List Int} {L':Option Addr} {lc':Nat} {ls':List Int},PlA w b (cs++cs2).length rv1 em' F' fc' fs' L' lc' ls'→PlA w' b (cs++cs2).length rv1 em' F' fc' fs' L' lc' ls':=by
 obtain⟨nx,rl2,h1,h2⟩:=h.nfa
 refine(zi0 nb base (cs++cs2) nx (rl++rl2) cv1 nv1 rv1 lv fv ls fs w h1 hL hF hlo hfo (by rw[List.length_append];have:=h.lim;omega)).mono ?_
 rintro e w' ⟨rfl,⟨nx',k1⟩,k2⟩; have t:zA (Zf nb cv1 nv1 rv1) w w':=k2.mono fun k _ hk=>.inr (.inr (.inl hk))
 exact⟨rfl,h.wrote hb k1 h2 h.lim t (fun g hg=>.inl hg) (fun g hg=>.inl hg),fun hp=>hp.wrote h1 t (fun g hg=>.inl hg) (Nat.le_refl _)⟩
section
variable {w0 ws w w':World}{nb base pb lim lim' b m:Nat}{cs cs2:List Cl}{rl:List Int}{cv nv rv cv1 nv1 rv1:Value}{xcs:Array Value}{em em':Bool}{F L A:Option Addr}{fc lc c:Nat}{fs ls zs:List Int}
theorem NdS.done (h:NdS w0 ws nb base cs rl cv nv rv pb xcs w lim cs2 cv1 nv1 rv1)(t:zA (fun k=>k=pb) w w')(f:yN w rv1 (.slice F fs.length fc) fs)(l:yN w rv1 (.slice L ls.length lc) ls)(fo:qY (cs++cs2).length fs)(lo:qY (cs++cs2).length ls)(hl:lim≤lim'):
 zdb ws nb base cs rl cv nv rv lim' (.returned (.agg #[.bool em,.slice F fs.length fc,.slice L ls.length lc])) w':=by
 obtain⟨nx,rl2,h1,h2⟩:=h.nfa
 refine⟨em,F,fc,fs,L,lc,ls,cs2,nx,rl2,cv1,nv1,rv1,rfl,f.put h.res t,l.put h.res t,⟨h1.at_.keepB h.res (by decide) t,h1.nxl,h1.rll,h1.ok,h1.cls⟩,fo,lo,Nat.le_trans h.lim hl,h2,h.turn.andThen t (fun _ _ hk=>hk) (fun k hk hs=>by have:=h.new;omega),h.sub,h.rvb⟩
theorem PlA.put1 (h:PlA w b m rv em F fc fs L lc ls)(hz:yN w rv (.slice A zs.length c) zs)(zo:qY m zs):PlA (w.setCell ⟨b,1,none⟩ (.slice A zs.length c)) b m rv em A c zs L lc ls:=
 ⟨zn h.blk _,hz.put h.blk (zA.set1 _ _ _),h.l.put h.blk (zA.set1 _ _ _),zo,h.lo⟩
theorem PlA.put2 (h:PlA w b m rv em F fc fs L lc ls)(hz:yN w rv (.slice A zs.length c) zs)(zo:qY m zs):PlA (w.setCell ⟨b,2,none⟩ (.slice A zs.length c)) b m rv em F fc fs A c zs:=
 ⟨zn h.blk _,h.f.put h.blk (zA.set1 _ _ _),hz.put h.blk (zA.set1 _ _ _),h.fo,zo⟩
theorem PlA.put0 (h:PlA w b m rv em F fc fs L lc ls):PlA (w.setCell ⟨b,0,none⟩ (.bool em')) b m rv em' F fc fs L lc ls:=
 ⟨zn h.blk _,h.f.put h.blk (zA.set1 _ _ _),h.l.put h.blk (zA.set1 _ _ _),h.fo,h.lo⟩
theorem PlA.other (h:PlA w b m rv em F fc fs L lc ls){q:Nat}{ds:Array Value}(hq:w.heap[q]?=some (.cells ds 148))(hne:b≠q)(t:zA (fun k=>k=q) w w'):PlA w' b m rv em F fc fs L lc ls:=
 ⟨t.keep h.blk hne,h.f.put hq t,h.l.put hq t,h.fo,h.lo⟩
theorem PlA.mk3 {ds:Array Value}(hq:w.heap[b]?=some (.cells ds 148))(hs:∃x y z,ds=#[x,y,z])(hf:yN w rv (.slice F fs.length fc) fs)(hl:yN w rv (.slice L ls.length lc) ls)(fo:qY m fs)(lo:qY m ls):PlA (y8 w b (.bool em) (.slice F fs.length fc) (.slice L ls.length lc)) b m rv em F fc fs L lc ls:=by
 obtain⟨x,y,z,rfl⟩:=hs
 have t:zA (fun k=>k=b) w (y8 w b (.bool em) (.slice F fs.length fc) (.slice L ls.length lc)):=yM (S:=fun k=>k=b) rfl _ _ _
 exact⟨qK hq _ _ _,hf.put hq t,hl.put hq t,fo,lo⟩
end
theorem zaz (f:Int→Nat)(l:List Int)(j:Nat):((l.take j).map f).sum≤(l.map f).sum:=by
 conv=>rhs;rw[←List.take_append_drop j l,List.map_append,List.sum_append]
 omega
theorem Zt {w:World}{A B:Option Addr}{c d m:Nat}{xs ys:List Int}{rv:Value}(hA:yN w rv (.slice A xs.length c) xs)(hB:yN w rv (.slice B ys.length d) ys)(ho:qY m xs)(ho':qY m ys)(hm:m≤10000)(hr:∀g,rv.ownBlock=some g→g < w.heap.size):
 Calls Tryz.prog 81 #[.slice A xs.length c,.slice B ys.length d] w fun e w'=>∃(Z:Option Addr) (zc:Nat) (zs:List Int),e=.returned (.slice Z zs.length zc)∧yN w' rv (.slice Z zs.length zc) zs∧qY m zs∧Ext w w':=by
 obtain⟨A',c',h1,h2,h3⟩:=hA.ints
 injection h1 with h1 _ h4; subst h1 h4
 obtain⟨B',d',h1,h5,_⟩:=hB.ints
 injection h1 with h1 _ h4; subst h1 h4
 refine(zfg A B c d xs ys w h2 h5 h3 (by have:=y9 ho;have:=y9 ho';omega)).mono ?_
 rintro e w' ⟨zs,hz,Z,zc,rfl,ho3,hx⟩
 exact⟨Z,zc,zs,rfl,ho3.sl hr,ho.union ho' hz,hx⟩
theorem zcg {w0 w:World}{g off c len nb base i:Nat}{n:Nod}{cs:List Cl}{nx:List (List Int)}{rl:List Int}{cv nv rv:Value}(h:JX w g (off+i*6) n)(hk:n.k=2)(hc:n.c.ok)(hi:i < len)(hN:ZV w nb base cs nx rl cv nv rv)(hm:cs.length≤10000):
 Calls Tryz.prog 80 #[ptr nb,.slice (some ⟨g,off,none⟩) len c,.int .i64 i] w (zdb w nb base cs rl cv nv rv 1):=by
 refine(zcC g off c len i n nb base cs.length (cs.flatMap Cl.cells) (iv rl) nx cv nv rv w h hk hi hN.at_ (by omega)).mono ?_
 rintro e w' ⟨f,l,cv',nv',rv',rfl,hf,hl,kf,kl,hn,ht,rf,rl',hs,hr⟩; have hlen:(cs++[n.c]).length=cs.length+1:=by simp
 have sl:∀{f:Nat},w'.heap[f]?=some (.cells #[.int .i64 (cs.length:Int)] 3)→rv'.ownBlock≠some f→yN w' rv' (.slice (some ⟨f,0,none⟩) [(cs.length:Int)].length 1) [(cs.length:Int)]:=fun hf hne=>
  ⟨_,1,rfl,zhj hf,Nat.le_refl _,by omega,(fun h=>by cases h),fun g o s he=>by
    injection he with he; injection he with he; subst he
    exact⟨⟨_,hf⟩,hne⟩⟩
 have po:qY (cs++[n.c]).length [(cs.length:Int)]:=⟨by simp,fun x hx=>by rw[List.mem_singleton]at hx;subst hx;rw[hlen];omega⟩
 refine⟨false,_,1,[(cs.length:Int)],_,1,[(cs.length:Int)],[n.c],nx++[[]],[-1],cv',nv',rv',rfl,sl kf rf,sl kl rl',⟨?_,by simp[hN.nxl],by simp[hN.rll],fun xs hxs=>?_,fun x hx=>?_⟩,po,po,Nat.le_refl _,by simp,ht,hs,hr⟩
 ·rw[hlen,List.flatMap_append]
  have:iv (rl++[-1])=iv rl++[.int .i64 (-1)]:=by simp[iv]
  rw[this]
  simpa using hn
 ·rcases List.mem_append.1 hxs with hxs|hxs
  ·exact(hN.ok xs hxs).wide (by rw[hlen];omega)
  ·rw[List.mem_singleton]at hxs
   subst hxs; exact qY.nil _
 ·rcases List.mem_append.1 hx with hx|hx
  ·exact hN.cls x hx
  ·rw[List.mem_singleton]at hx
   subst hx; exact hc
set_option maxRecDepth 100000 in
set_option maxHeartbeats 16000000 in
theorem zjn (w0:World)(g off c len nb base:Nat)(ns:List Nod)(i:Nat)(hX:∀w1,Ext w0 w1→∀(j:Nat) (n:Nod),ns[j]?=some n→JX w1 g (off+j*6) n)(hK:∀w1,Ext w0 w1→∀n∈ns,vW w1 n.kA n.kids n.kc)(hC:∀n∈ns,n.c.ok)(hO:zga ns)(hlen:ns.length=len)(hb:w0.heap.size≤base)(IH:zit w0 g off c len nb base ns i)(hi:i < len)
 (cs:List Cl) (nx:List (List Int)) (rl:List Int) (cv nv rv:Value) (w:World) (hN:ZV w nb base cs nx rl cv nv rv) (hw:Ext w0 w) (hlim:cs.length+lvN ns i≤10000):
 Calls Tryz.prog 80 #[ptr nb,.slice (some ⟨g,off,none⟩) len c,.int .i64 i] w (zdb w nb base cs rl cv nv rv (lvN ns i)):=by
 obtain⟨n,hn⟩:∃n,ns[i]?=some n:=⟨_,List.getElem?_eq_getElem (by omega)⟩
 have hnm:=List.mem_of_getElem? hn; have hlv:=zjr hO hn; by_cases k2:n.k=2
 ·rw[if_pos k2]at hlv
  rw[hlv]
  exact zcg (w0:=w0) (hX w hw i n hn) k2 (hC n hnm) hi hN (by omega)
 ·rw[if_neg k2]at hlv
  have hfit:=hO.fit n hnm; have hkind:n.k=1∨n.k=3∨n.k=4∨n.k=5∨n.k=6∨n.k=7:=by
   have:=hfit.1
   unfold qj at this; by_cases h1:n.k=1∨n.k=2
   ·omega
   ·rw[if_neg h1]at this
    by_cases h3:n.k=3∨n.k=4
    ·omega
    ·rw[if_neg h3]at this
     by_cases h5:n.k=5∨n.k=6∨n.k=7
     ·omega
     ·rw[if_neg h5]at this
      have:(0:Int)≤-1:=this
      omega
  have hkl:n.k≠1→0 < n.kids.length:=fun h1=>by
   have:=hfit.2.1
   unfold qj at this
   rw[if_neg (by omega)]at this
   by_cases h3:n.k=3∨n.k=4
   ·rw[if_pos h3]at this
    have:(2:Int)≤n.kids.length:=this
    omega
   ·rw[if_neg h3,if_pos (by omega)]at this
    have:(1:Int)≤n.kids.length:=this
    omega
  have hk512:n.kids.length≤512:=by
   have:=hfit.2.2
   unfold qj at this; split at this
   ·have:(n.kids.length:Int)≤0:=this;omega
   ·split at this
    ·exact Int.ofNat_le.1 this
    ·split at this
     ·have:(n.kids.length:Int)≤1:=this;omega
     ·have:(n.kids.length:Int)≤-1:=this;omega
  have HSUM:Hid (∀j,((n.kids.take j).map fun k=>lvN ns k.toNat).sum≤lvN ns i):=zh (fun j=>by rw[hlv];exact zaz _ _ j); have HLIM:=zh hlim; have HIH:=zh IH; have HB:=zh hb; have HKJ:Hid (∀w1,Ext w0 w1→∀j,j < n.kids.length→∃kg ko q,n.kA=some ⟨kg,ko,none⟩∧kg < w1.heap.size∧w1.cell? ⟨kg,ko+j,none⟩=some (.int .i64 ((q:Nat):Int))∧q < i∧n.kids.take (j+1)=n.kids.take j++[(q:Int)]):=zh (fun w1 e j hj=>by
   obtain⟨kg,ko,hkA,klt,kcc⟩:=(hK w1 e n hnm).ints (by omega)
   obtain⟨x,hx⟩:∃x,n.kids.getD j 0=x:=⟨_,rfl⟩
   have y0:=kcc j hj
   rw[hx]at y0
   have hxm:x∈n.kids:=by
    rw[←hx,List.getD_eq_getElem?_getD,List.getElem?_eq_getElem hj]
    exact List.getElem_mem hj
   have hxr:=hO.low i n hn x hxm; have ht:=qu hj
   rw[hx]at ht
   obtain⟨q,rfl⟩:∃q:Nat,x=q:=⟨x.toNat,by omega⟩
   exact⟨kg,ko,q,hkA,klt,y0,by omega,ht⟩)
  obtain⟨x0,x1,x2,x3,x4,x5,lg⟩:=hX w hw i n hn
  obtain⟨xcs,hxcs⟩:∃xcs:Array Value,#[.int .i64 n.k,.int .u64 n.c.a,.int .u64 n.c.b,.int .u64 n.c.c,.int .u64 n.c.d,.slice n.kA n.kids.length n.kc]=xcs:=⟨_,rfl⟩
  have HQ:Hid (∀(w1:World) (b:Nat),w1.heap[b]?=some (.cells xcs 189)→w1.cell? ⟨b,0,none⟩=some (.int .i64 n.k)∧w1.cell? ⟨b,5,none⟩=some (.slice n.kA n.kids.length n.kc)∧b < w1.heap.size):=zh (fun w1 b h=>by
   rw[←hxcs]at h
   have k0:=cr 0 h; have k5:=cr 5 h; simp at k0 k5
   exact⟨k0,k5,za h⟩)
  obtain⟨W,hW⟩:∃W,(w.alloc (.cells #[.bool false,zH,zH] 148)).alloc (.cells #[.int .i64 n.k,.int .u64 n.c.a,.int .u64 n.c.b,.int .u64 n.c.c,.int .u64 n.c.d,.slice n.kA n.kids.length n.kc] 189)=W:=⟨_,rfl⟩
  obtain⟨pb,hpb⟩:∃pb,w.heap.size=pb:=⟨_,rfl⟩
  have X1:Ext w W:=by rw[←hW];exact xi
  have P0:W.heap[pb]?=some (.cells #[.bool false,zH,zH] 148):=by rw[←hW,←hpb];exact(by simp only[zm,World.size_alloc];(repeat(split;(first|rfl|(exfalso;omega))));(try(first|(exfalso;omega)|simp_all)))
  have Q0:W.heap[pb+1]?=some (.cells xcs 189):=by rw[←hxcs,←hW,←hpb];exact(by simp only[zm,World.size_alloc];(repeat(split;(first|rfl|(exfalso;omega))));(try(first|(exfalso;omega)|simp_all)))
  have HS:Hid (NdS w0 w nb base cs rl cv nv rv pb xcs W 0 [] cv nv rv):=zh ⟨⟨nx,[],by rw[List.append_nil,List.append_nil];exact hN.ext X1,by simp⟩,Nat.le_refl _,zA.of_ext X1,fun g h=>.inl h,fun g h=>.inl h,P0,Q0,hw.trans X1,by omega⟩; have HRV:Hid (∀{w1:World} {lim:Nat} {cs2:List Cl} {cv1 nv1 rv1:Value},NdS w0 w nb base cs rl cv nv rv pb xcs w1 lim cs2 cv1 nv1 rv1→∀g,rv1.ownBlock=some g→g < w1.heap.size):=zh (fun h g hg=>by
   obtain⟨nx',rl',h1,_⟩:=h.nfa
   exact z8 h1.at_.rul g hg)
  have HWP:Hid (w.heap.size=pb):=zh hpb; have HX0:=zh hw
  obtain⟨q0,q5,lq⟩:=HQ.out W _ HS.out.nod
  have r0:=cr 0 HS.out.res; have r1:=cr 1 HS.out.res; have r2:=cr 2 HS.out.res; have rlt:=za HS.out.res; have rf:=fun k=>zi HS.out.res k; simp at r0 r1 r2
  have lg2:g < pb:=by omega
  clear hX hK hC hO hn hnm hlv hfit hN hw IH hb P0 Q0 X1 hxcs hlen hlim; go_in
  go_upto_region 2 with fail; try simp only[hW,hpb]
  clear hW hpb x0 x1 x2 x3 x4 x5 lg lg2; by_cases k1:n.k=1
  ·have e1:(n.k==1)=true:=by simp[k1]
   have P3:=qK HS.out.res (.bool true) zH zH
   obtain⟨W3,hW3⟩:∃W3,y8 W pb (.bool true) zH zH=W3:=⟨_,rfl⟩
   have T3:zA (fun k=>k=pb) W W3:=by rw[←hW3];exact yM (S:=fun k=>k=pb) rfl _ _ _
   rw[hW3]at P3
   have d0:=cr 0 P3; have d1:=cr 1 P3; have d2:=cr 2 P3; simp at d0 d1 d2
   have FIN:Hid (zdb w nb base cs rl cv nv rv (lvN ns i) (.returned (.agg #[.bool true,.slice none ([]:List Int).length 0,.slice none ([]:List Int).length 0])) W3):=zh (HS.out.done T3 (yN.nil _ _) (yN.nil _ _) (qY.nil _) (qY.nil _) (Nat.zero_le _)); unfold y8 put2 at hW3; clear k1 k2 hkind hkl P3 T3; go_wp2_with fail; exact bodyPost_ret (v:=.agg #[.bool true,zH,zH]) (by simp[results,Tryz.results80,go_sem, *]) rfl FIN.out
  ·have e1:(n.k==1)=false:=by simpa using k1
   have e2:(n.k==2)=false:=by simpa using k2
   have hk0:=hkl k1; by_cases k3:n.k=3
   ·have e3:(n.k==3)=true:=by simp[k3]
    clear k1 k2 k3 hkind hkl
    obtain⟨kg,ko,q,hkA,klt,y0,hq,ht⟩:=HKJ.out W HS.out.ext 0 hk0
    rw[List.take_zero,List.nil_append,Nat.add_zero]at*
    rw[hkA]at q5
    have HT1:Hid (n.kids.take 1=[(q:Int)]):=zh ht; have HC:=zh (HS.out.call HIH.out hq HB.out (by have h1:=HSUM.out 1;have:=HLIM.out;rw[HT1.out]at h1;simp only[List.map_cons,List.map_nil,List.sum_cons,List.sum_nil,Int.toNat_natCast]at h1;omega)); clear hkA ht; go_wp2_with fail; refine HC.out.mono ?_; rintro e W1 ⟨em,F,fc,fs,L,lc,ls,cs3,cv2,nv2,rv2,rfl,s1,f1,l1,fo1,lo1,hp0⟩
    obtain⟨p,hp⟩:∃p,W1.heap.size=p:=⟨_,rfl⟩
    obtain⟨W2,hW2⟩:∃W2,W1.alloc (.cells #[.bool em,.slice F fs.length fc,.slice L ls.length lc] 148)=W2:=⟨_,rfl⟩
    have X2:Ext W1 W2:=by rw[←hW2];exact xi
    have B2:W2.heap[p]?=some (.cells #[.bool em,.slice F fs.length fc,.slice L ls.length lc] 148):=by rw[←hW2,←hp];exact heap_alloc_new _ _
    have S2:=zh (s1.toExt X2); have P2:Hid (PlA W2 p (cs++cs3).length rv2 em F fc fs L lc ls):=zh ⟨B2,f1.extU X2,l1.extU X2,fo1,lo1⟩; have HPB:Hid (pb+1 < p∧w.heap.size≤p):=zh (by have:=za s1.nod;have:=s1.new;omega); clear s1 f1 l1 fo1 lo1 hp0 X2 B2 HC q0 q5 lq r0 r1 r2 rlt rf y0 klt HS; go_wp2_with fail; try simp only[hp,hW2]
    clear hp hW2; go_loopw [10] (fun jv wr=>∃(j:Nat) (cs3:List Cl) (cv2 nv2 rv2:Value) (em:Bool) (F:Option Addr) (fc:Nat) (fs:List Int) (L:Option Addr) (lc:Nat) (ls:List Int),jv=.int .i64 j∧j≤n.kids.length∧Hid (NdS w0 w nb base cs rl cv nv rv pb xcs wr ((n.kids.take j).map fun k=>lvN ns k.toNat).sum cs3 cv2 nv2 rv2)∧Hid (PlA wr p (cs++cs3).length rv2 em F fc fs L lc ls)) (fun jv _=>n.kids.length - (intOf jv).toNat)
    case atStart=>exact⟨1,cs3,cv2,nv2,rv2,em,F,fc,fs,L,lc,ls,rfl,hk0,zh (by rw[HT1.out];simpa using S2.out),P2⟩
    case round=>
     clear S2 P2
     obtain⟨j,cs3,cv2,nv2,rv2,em,F,fc,fs,L,lc,ls,rfl,hj,S,P⟩:=hrel
     obtain⟨q0,q5,lq⟩:=HQ.out wr _ S.out.nod
     by_cases hlt:j < n.kids.length
     ·skip
      obtain⟨kg,ko,q,hkA,klt,y0,hq,ht⟩:=HKJ.out wr S.out.ext j hlt
      rw[hkA]at q5
      have HT1:=zh ht; have HSM:Hid (((n.kids.take (j+1)).map fun k=>lvN ns k.toNat).sum=((n.kids.take j).map fun k=>lvN ns k.toNat).sum+lvN ns q):=zh (by rw[ht,List.map_append,List.sum_append];simp); have HC:=zh (S.out.call HIH.out hq HB.out (by have h1:=HSUM.out (j+1);have:=HLIM.out;rw[HSM.out]at h1;omega)); clear hkA ht; go_wp2_with fail; refine HC.out.mono ?_; rintro e W1 ⟨em2,F2,fc2,fs2,L2,lc2,ls2,cs4,cv4,nv4,rv4,rfl,s1,f1,l1,fo1,lo1,hp1⟩
      obtain⟨qb,hqb⟩:∃p,W1.heap.size=p:=⟨_,rfl⟩
      obtain⟨W2,hW2⟩:∃W2,W1.alloc (.cells #[.bool em2,.slice F2 fs2.length fc2,.slice L2 ls2.length lc2] 148)=W2:=⟨_,rfl⟩
      have X2:Ext W1 W2:=by rw[←hW2];exact xi
      have B2:W2.heap[qb]?=some (.cells #[.bool em2,.slice F2 fs2.length fc2,.slice L2 ls2.length lc2] 148):=by rw[←hW2,←hqb];exact heap_alloc_new _ _
      have S2:=zh (s1.toExt X2); have Q2:Hid (PlA W2 qb (cs++cs4).length rv4 em2 F2 fc2 fs2 L2 lc2 ls2):=zh ⟨B2,f1.extU X2,l1.extU X2,fo1,lo1⟩; have P2:Hid (PlA W2 p (cs++cs4).length rv4 em F fc fs L lc ls):=zh ((hp1 P.out).ext X2); have HPQ:Hid (p < qb):=zh (by have:=za (hp1 P.out).blk;omega); have HML:Hid ((cs++cs4).length≤10000):=zh (by rw[List.length_append];have:=s1.lim;have h1:=HSUM.out (j+1);have:=HLIM.out;rw[HSM.out]at h1;omega); clear s1 f1 l1 fo1 lo1 hp1 X2 B2 HC q0 q5 lq y0 klt S P; have J:=zh (S2.out.join HB.out (by have h1:=HSUM.out (j+1);have:=HLIM.out;rw[HSM.out]at h1;omega) P2.out.l Q2.out.f P2.out.lo Q2.out.fo)
      obtain⟨c0,c1,c2,cl,cf⟩:=P2.out.cells
      obtain⟨e0,e1',e2',el,ef⟩:=Q2.out.cells
      go_wp2_with fail; try simp only[hqb,hW2]
      clear hqb hW2; refine J.out.mono ?_; rintro e W3 ⟨rfl,s3,k3⟩; have S3:=zh s3; have P3:=zh (k3 P2.out); have Q3:=zh (k3 Q2.out); clear s3 k3 J S2 P2 Q2 c0 c1 c2 cl cf e0 e1' e2' el ef
      obtain⟨c0,c1,c2,cl,cf⟩:=P3.out.cells
      obtain⟨e0,e1',e2',el,ef⟩:=Q3.out.cells
      go_upto_if 97 with fail
      go_cut [] (fun wx=>∃F fc fs,Hid (NdS w0 w nb base cs rl cv nv rv pb xcs wx (((n.kids.take j).map fun k=>lvN ns k.toNat).sum+lvN ns q) cs4 cv4 nv4 rv4)∧Hid (PlA wx p (cs++cs4).length rv4 em F fc fs L lc ls)∧Hid (PlA wx qb (cs++cs4).length rv4 em2 F2 fc2 fs2 L2 lc2 ls2))
      case first=>
       cases em with
       |false=>
        go_wp2_with fail; go_meet
        exact⟨F,fc,fs,S3,P3,Q3⟩
       |true=>
        have U:=zh (Zt P3.out.f Q3.out.f P3.out.fo Q3.out.fo HML.out (HRV.out S3.out)); go_wp2_with fail; refine U.out.mono ?_; rintro e W4 ⟨Z,zc,zs,rfl,hz,zo,x4⟩; have S4:=zh (S3.out.toExt x4); have P4:=zh (P3.out.ext x4); have Q4:=zh (Q3.out.ext x4); have HZ:=zh hz; have HZO:=zh zo; clear c0 c1 c2 cl cf e0 e1' e2' el ef hz zo x4 U S3 P3 Q3
        obtain⟨c0,c1,c2,cl,cf⟩:=P4.out.cells
        have T5:Hid (zA (fun k=>k=p) W4 (W4.setCell ⟨p,1,none⟩ (.slice Z zs.length zc))):=zh (zA.set1 _ _ _); have S5:=zh (S4.out.put P4.out.blk HPB.out.2 (by have:=HPB.out.1;omega) HX0.out T5.out); have P5:=zh (P4.out.put1 HZ.out HZO.out); have Q5:=zh (Q4.out.other P4.out.blk (by have:=HPQ.out;omega) T5.out); go_wp2_with fail; go_meet
        exact⟨Z,zc,zs,S5,P5,Q5⟩
      case rest=>
       obtain⟨F,fc,fs,S4,P4,Q4⟩:=hcut
       clear S3 P3 Q3 c0 c1 c2 cl cf e0 e1' e2' el ef
       obtain⟨c0,c1,c2,cl,cf⟩:=P4.out.cells
       obtain⟨e0,e1',e2',el,ef⟩:=Q4.out.cells
       go_upto_if 105 with fail
       go_cut [] (fun wx=>∃L2 lc2 ls2,Hid (NdS w0 w nb base cs rl cv nv rv pb xcs wx (((n.kids.take j).map fun k=>lvN ns k.toNat).sum+lvN ns q) cs4 cv4 nv4 rv4)∧Hid (PlA wx p (cs++cs4).length rv4 em F fc fs L lc ls)∧Hid (PlA wx qb (cs++cs4).length rv4 em2 F2 fc2 fs2 L2 lc2 ls2))
       case first=>
        cases em2 with
        |false=>
         go_wp2_with fail; go_meet
         exact⟨L2,lc2,ls2,S4,P4,Q4⟩
        |true=>
         have U:=zh (Zt P4.out.l Q4.out.l P4.out.lo Q4.out.lo HML.out (HRV.out S4.out)); go_wp2_with fail; refine U.out.mono ?_; rintro e W5 ⟨Z,zc,zs,rfl,hz,zo,x5⟩; have S5:=zh (S4.out.toExt x5); have P5:=zh (P4.out.ext x5); have Q5:=zh (Q4.out.ext x5); have HZ:=zh hz; have HZO:=zh zo; clear c0 c1 c2 cl cf e0 e1' e2' el ef hz zo x5 U S4 P4 Q4
         obtain⟨e0,e1',e2',el,ef⟩:=Q5.out.cells
         have T6:Hid (zA (fun k=>k=qb) W5 (W5.setCell ⟨qb,2,none⟩ (.slice Z zs.length zc))):=zh (zA.set1 _ _ _); have S6:=zh (S5.out.put Q5.out.blk (by have:=HPB.out.2;have:=HPQ.out;omega) (by have:=HPB.out.1;have:=HPQ.out;omega) HX0.out T6.out); have Q6:=zh (Q5.out.put2 HZ.out HZO.out); have P6:=zh (P5.out.other Q5.out.blk (by have:=HPQ.out;omega) T6.out); go_wp2_with fail; go_meet
         exact⟨Z,zc,zs,S6,P6,Q6⟩
       case rest=>
        obtain⟨L2,lc2,ls2,S5,P5,Q5⟩:=hcut
        clear S4 P4 Q4 c0 c1 c2 cl cf e0 e1' e2' el ef
        obtain⟨c0,c1,c2,cl,cf⟩:=P5.out.cells
        obtain⟨e0,e1',e2',el,ef⟩:=Q5.out.cells
        have T6:Hid (zA (fun k=>k=p) wc (y8 wc p (.bool (em&&em2)) (.slice F fs.length fc) (.slice L2 ls2.length lc2))):=zh (yM (S:=fun k=>k=p) rfl _ _ _); have S6:=zh (S5.out.put P5.out.blk HPB.out.2 (by have:=HPB.out.1;omega) HX0.out T6.out); have P6:=zh (PlA.mk3 (em:=em&&em2) P5.out.blk ⟨_,_,_,rfl⟩ P5.out.f Q5.out.l P5.out.fo Q5.out.lo)
        obtain⟨W7,hW7⟩:∃W7,y8 wc p (.bool (em&&em2)) (.slice F fs.length fc) (.slice L2 ls2.length lc2)=W7:=⟨_,rfl⟩
        rw[hW7]at S6 P6
        have HJM:Hid (j < 512):=zh (by omega); have hj5:j < 512:=by omega
        unfold y8 put2 at hW7; cases em
        all_goals
         simp only[Bool.true_and,Bool.false_and]at hW7 P6
         go_wp2_with fail; try simp only[hW7]
         clear hW7; go_roundw
         case rel=>exact⟨j+1,cs4,cv4,nv4,rv4,_,F,fc,fs,L2,lc2,ls2,by go_num,by omega,zh (by rw[HSM.out];exact S6.out),P6⟩
         case measure=>simp[intOf]<;>omega
     ·obtain rfl:j=n.kids.length:=by omega
      obtain⟨c0,c1,c2,cl,cf⟩:=P.out.cells
      have P3:=qK S.out.res (.bool em) (.slice F fs.length fc) (.slice L ls.length lc); have r0:=cr 0 S.out.res; have r1:=cr 1 S.out.res; have r2:=cr 2 S.out.res; have rlt:=za S.out.res; have rf:=fun k=>zi S.out.res k
      obtain⟨W3,hW3⟩:∃W3,y8 wr pb (.bool em) (.slice F fs.length fc) (.slice L ls.length lc)=W3:=⟨_,rfl⟩
      have T3:zA (fun k=>k=pb) wr W3:=by rw[←hW3];exact yM (S:=fun k=>k=pb) rfl _ _ _
      rw[hW3]at P3
      have d0:=cr 0 P3; have d1:=cr 1 P3; have d2:=cr 2 P3; simp at r0 r1 r2 d0 d1 d2
      have FIN:Hid (zdb w nb base cs rl cv nv rv (lvN ns i) (.returned (.agg #[.bool em,.slice F fs.length fc,.slice L ls.length lc])) W3):=zh (S.out.done T3 P.out.f P.out.l P.out.fo P.out.lo (HSUM.out _)); unfold y8 put2 at hW3; clear P3 T3; go_wp2_with fail; exact bodyPost_ret (v:=.agg #[.bool em,.slice F fs.length fc,.slice L ls.length lc]) (by simp[results,Tryz.results80,go_sem, *]) rfl FIN.out
   ·have e3:(n.k==3)=false:=by simpa using k3
    by_cases k4:n.k=4
    ·have e4:(n.k==4)=true:=by simp[k4]
     clear k1 k2 k3 k4 hkind hkl; go_wp2_with fail
     obtain⟨p,hp⟩:∃p,W.heap.size=p:=⟨_,rfl⟩
     obtain⟨W2,hW2⟩:∃W2,W.alloc (.cells #[.bool false,zH,zH] 148)=W2:=⟨_,rfl⟩
     have X2:Ext W W2:=by rw[←hW2];exact xi
     have B2:W2.heap[p]?=some (.cells #[.bool false,zH,zH] 148):=by rw[←hW2,←hp];exact heap_alloc_new _ _
     have S2:=zh (HS.out.toExt X2); have P2:Hid (PlA W2 p (cs++[]).length rv false none 0 [] none 0 []):=zh ⟨B2,yN.nil _ _,yN.nil _ _,qY.nil _,qY.nil _⟩; have HPB:Hid (pb+1 < p∧w.heap.size≤p):=zh (by have:=za HS.out.nod;have:=HS.out.new;omega); simp only[hp,hW2]
     clear X2 B2 hp hW2 q0 q5 lq r0 r1 r2 rlt rf HS; go_loopw [13] (fun jv wr=>∃(j:Nat) (cs3:List Cl) (cv2 nv2 rv2:Value) (em:Bool) (F:Option Addr) (fc:Nat) (fs:List Int) (L:Option Addr) (lc:Nat) (ls:List Int),jv=.int .i64 j∧j≤n.kids.length∧Hid (NdS w0 w nb base cs rl cv nv rv pb xcs wr ((n.kids.take j).map fun k=>lvN ns k.toNat).sum cs3 cv2 nv2 rv2)∧Hid (PlA wr p (cs++cs3).length rv2 em F fc fs L lc ls)) (fun jv _=>n.kids.length - (intOf jv).toNat)
     case atStart=>exact⟨0,[],cv,nv,rv,false,none,0,[],none,0,[],rfl,Nat.zero_le _,zh (by simpa using S2.out),P2⟩
     case round=>
      clear S2 P2
      obtain⟨j,cs3,cv2,nv2,rv2,em,F,fc,fs,L,lc,ls,rfl,hj,S,P⟩:=hrel
      obtain⟨q0,q5,lq⟩:=HQ.out wr _ S.out.nod
      by_cases hlt:j < n.kids.length
      ·skip
       obtain⟨kg,ko,q,hkA,klt,y0,hq,ht⟩:=HKJ.out wr S.out.ext j hlt
       rw[hkA]at q5
       have HT1:=zh ht; have HSM:Hid (((n.kids.take (j+1)).map fun k=>lvN ns k.toNat).sum=((n.kids.take j).map fun k=>lvN ns k.toNat).sum+lvN ns q):=zh (by rw[ht,List.map_append,List.sum_append];simp); have HC:=zh (S.out.call HIH.out hq HB.out (by have h1:=HSUM.out (j+1);have:=HLIM.out;rw[HSM.out]at h1;omega)); clear hkA ht; go_wp2_with fail; refine HC.out.mono ?_; rintro e W1 ⟨em2,F2,fc2,fs2,L2,lc2,ls2,cs4,cv4,nv4,rv4,rfl,s1,f1,l1,fo1,lo1,hp1⟩
       obtain⟨qb,hqb⟩:∃p,W1.heap.size=p:=⟨_,rfl⟩
       obtain⟨W2,hW2⟩:∃W2,W1.alloc (.cells #[.bool em2,.slice F2 fs2.length fc2,.slice L2 ls2.length lc2] 148)=W2:=⟨_,rfl⟩
       have X2:Ext W1 W2:=by rw[←hW2];exact xi
       have B2:W2.heap[qb]?=some (.cells #[.bool em2,.slice F2 fs2.length fc2,.slice L2 ls2.length lc2] 148):=by rw[←hW2,←hqb];exact heap_alloc_new _ _
       have S2:=zh (s1.toExt X2); have Q2:Hid (PlA W2 qb (cs++cs4).length rv4 em2 F2 fc2 fs2 L2 lc2 ls2):=zh ⟨B2,f1.extU X2,l1.extU X2,fo1,lo1⟩; have P2:Hid (PlA W2 p (cs++cs4).length rv4 em F fc fs L lc ls):=zh ((hp1 P.out).ext X2); have HPQ:Hid (p < qb):=zh (by have:=za (hp1 P.out).blk;omega); have HML:Hid ((cs++cs4).length≤10000):=zh (by rw[List.length_append];have:=s1.lim;have h1:=HSUM.out (j+1);have:=HLIM.out;rw[HSM.out]at h1;omega); clear s1 f1 l1 fo1 lo1 hp1 X2 B2 HC q0 q5 lq y0 klt S P; have U1:=zh (fun W3 (e:Ext W2 W3)=>Zt (P2.out.f.extU e) (Q2.out.f.extU e) P2.out.fo Q2.out.fo HML.out (fun g hg=>Nat.lt_of_lt_of_le (HRV.out S2.out g hg) e.size)); have U2:=zh (fun W3 (e:Ext W2 W3)=>Zt (P2.out.l.extU e) (Q2.out.l.extU e) P2.out.lo Q2.out.lo HML.out (fun g hg=>Nat.lt_of_lt_of_le (HRV.out S2.out g hg) e.size))
       obtain⟨c0,c1,c2,cl,cf⟩:=P2.out.cells
       obtain⟨e0,e1',e2',el,ef⟩:=Q2.out.cells
       have hj5:j < 512:=by omega
       cases em
       all_goals
        go_upto_region 28 with fail; try simp only[hqb,hW2]
        clear hqb hW2; refine zg (17) (zd [0,6,8,11,13] (zj [1,2,3,4,5,7,9,12,14] (.step 10 (.step 15 (zd [16] (.step 17 .fin)))))) (by kernel_rfl) (by kernel_rfl) ?_; (repeat first|refine yq ?_|refine yr ?_)
        refine zp fun next hn=>?_;simp only[pick,yp]; go_wp2_with fail
        refine(U1.out _ xi).mono ?_
        rintro e W3 ⟨Z,zc,zs,rfl,hz,zo,x3⟩; have X3:Hid (Ext W2 W3):=zh (Ext.trans xi x3); have HZ:=zh hz; have HZO:=zh zo; clear hz zo x3 U1; go_wp2_with fail; refine zk (fun _=>yZ X3.out) (hn _ _ ?_); clear hn next; (repeat first|refine yq ?_|refine yr ?_)
        refine zp fun next hn=>?_;simp only[pick,yp]; go_wp2_with fail
        refine(U2.out _ X3.out).mono ?_
        rintro e W4 ⟨Y,yc,ys,rfl,hy,yo,x4⟩; have X4:Hid (Ext W2 W4):=zh (X3.out.trans x4); have HZ4:=zh (HZ.out.extU x4); have HY:=zh hy; have HYO:=zh yo; clear hy yo x4 U2 HZ; go_wp2_with fail; refine zk (fun _=>yZ X4.out) (hn _ _ ?_); clear hn next; (repeat first|refine yq ?_|refine yr ?_)
        have P4:=zh (P2.out.ext X4.out); have S4:=zh (S2.out.toExt X4.out); clear c0 c1 c2 cl cf e0 e1' e2' el ef
        obtain⟨c0,c1,c2,cl,cf⟩:=P4.out.cells
        have HM4:Hid (∀em',PlA (y8 W4 p (.bool em') (.slice Z zs.length zc) (.slice Y ys.length yc)) p (cs++cs4).length rv4 em' Z zc zs Y yc ys∧NdS w0 w nb base cs rl cv nv rv pb xcs (y8 W4 p (.bool em') (.slice Z zs.length zc) (.slice Y ys.length yc)) (((n.kids.take j).map fun k=>lvN ns k.toNat).sum+lvN ns q) cs4 cv4 nv4 rv4):=zh (fun em'=>⟨PlA.mk3 P4.out.blk ⟨_,_,_,rfl⟩ HZ4.out HY.out HZO.out HYO.out,S4.out.put P4.out.blk HPB.out.2 (by have:=HPB.out.1;omega) HX0.out (yM (S:=fun k=>k=p) rfl _ _ _)⟩); refine zp fun next hn=>?_;simp only[pick,yp]; go_wp2_with fail; refine zk (fun h=>absurd rfl h) (hn _ _ ?_); clear hn next; refine zv ?_; clear c0 c1 c2 cl cf; go_wp2_with fail; go_roundw
        case rel=>exact⟨j+1,cs4,cv4,nv4,rv4,_,Z,zc,zs,Y,yc,ys,by go_num,by omega,zh (by rw[HSM.out];exact(HM4.out _).2),zh (HM4.out _).1⟩
        case measure=>simp[intOf]<;>omega
      ·obtain rfl:j=n.kids.length:=by omega
       obtain⟨c0,c1,c2,cl,cf⟩:=P.out.cells
       have P3:=qK S.out.res (.bool em) (.slice F fs.length fc) (.slice L ls.length lc); have r0:=cr 0 S.out.res; have r1:=cr 1 S.out.res; have r2:=cr 2 S.out.res; have rlt:=za S.out.res; have rf:=fun k=>zi S.out.res k
       obtain⟨W3,hW3⟩:∃W3,y8 wr pb (.bool em) (.slice F fs.length fc) (.slice L ls.length lc)=W3:=⟨_,rfl⟩
       have T3:zA (fun k=>k=pb) wr W3:=by rw[←hW3];exact yM (S:=fun k=>k=pb) rfl _ _ _
       rw[hW3]at P3
       have d0:=cr 0 P3; have d1:=cr 1 P3; have d2:=cr 2 P3; simp at r0 r1 r2 d0 d1 d2
       have FIN:Hid (zdb w nb base cs rl cv nv rv (lvN ns i) (.returned (.agg #[.bool em,.slice F fs.length fc,.slice L ls.length lc])) W3):=zh (S.out.done T3 P.out.f P.out.l P.out.fo P.out.lo (HSUM.out _)); unfold y8 put2 at hW3; clear P3 T3; go_wp2_with fail; exact bodyPost_ret (v:=.agg #[.bool em,.slice F fs.length fc,.slice L ls.length lc]) (by simp[results,Tryz.results80,go_sem, *]) rfl FIN.out
    ·have e4:(n.k==4)=false:=by simpa using k4
     by_cases k5:n.k=5
     ·have e6:(n.k !=7)=true:=by simp[k5]
      have e7:(n.k !=6)=true:=by simp[k5]
      clear k1 k2 k3 k4 k5 hkind hkl
      obtain⟨kg,ko,q,hkA,klt,y0,hq,ht⟩:=HKJ.out W HS.out.ext 0 hk0
      rw[List.take_zero,List.nil_append,Nat.add_zero]at*
      rw[hkA]at q5
      have HT1:Hid (n.kids.take 1=[(q:Int)]):=zh ht; have HC:=zh (HS.out.call HIH.out hq HB.out (by have h1:=HSUM.out 1;have:=HLIM.out;rw[HT1.out]at h1;simp only[List.map_cons,List.map_nil,List.sum_cons,List.sum_nil,Int.toNat_natCast]at h1;omega)); clear hkA ht; go_wp2_with fail; refine HC.out.mono ?_; rintro e W1 ⟨em,F,fc,fs,L,lc,ls,cs3,cv2,nv2,rv2,rfl,s1,f1,l1,fo1,lo1,hp0⟩
      obtain⟨p,hp⟩:∃p,W1.heap.size=p:=⟨_,rfl⟩
      obtain⟨W2,hW2⟩:∃W2,W1.alloc (.cells #[.bool em,.slice F fs.length fc,.slice L ls.length lc] 148)=W2:=⟨_,rfl⟩
      have X2:Ext W1 W2:=by rw[←hW2];exact xi
      have B2:W2.heap[p]?=some (.cells #[.bool em,.slice F fs.length fc,.slice L ls.length lc] 148):=by rw[←hW2,←hp];exact heap_alloc_new _ _
      have S2:=zh (s1.toExt X2); have P2:Hid (PlA W2 p (cs++cs3).length rv2 em F fc fs L lc ls):=zh ⟨B2,f1.extU X2,l1.extU X2,fo1,lo1⟩; have HPB:Hid (pb+1 < p∧w.heap.size≤p):=zh (by have:=za s1.nod;have:=s1.new;omega); clear s1 f1 l1 fo1 lo1 hp0 X2 B2 HC q0 q5 lq r0 r1 r2 rlt rf y0 klt HS
      obtain⟨q0,q5,lq⟩:=HQ.out W2 _ S2.out.nod
      have J:=zh (S2.out.join HB.out (by have h1:=HSUM.out 1;have:=HLIM.out;rw[HT1.out]at h1;simp only[List.map_cons,List.map_nil,List.sum_cons,List.sum_nil,Int.toNat_natCast]at h1;omega) P2.out.l P2.out.f P2.out.lo P2.out.fo)
      obtain⟨c0,c1,c2,cl,cf⟩:=P2.out.cells
      go_wp2_with fail; try simp only[hp,hW2]
      clear hp hW2; refine J.out.mono ?_; rintro e W3' ⟨rfl,s3,k3⟩; have S3:=zh s3; have P3':=zh (k3 P2.out); clear s3 k3 J S2 P2 c0 c1 c2 cl cf q0 q5 lq
      obtain⟨q0,q5,lq⟩:=HQ.out W3' _ S3.out.nod
      have T4:Hid (zA (fun k=>k=p) W3' (W3'.setCell ⟨p,0,none⟩ (.bool true))):=zh (zA.set1 _ _ _); have S4:=zh (S3.out.put P3'.out.blk HPB.out.2 (by have:=HPB.out.1;omega) HX0.out T4.out); have P4:=zh (P3'.out.put0 (em':=true))
      obtain⟨c0,c1,c2,cl,cf⟩:=P3'.out.cells
      go_upto_region 35 with fail
      obtain⟨W4,hW4⟩:∃W4,W3'.setCell ⟨p,0,none⟩ (.bool true)=W4:=⟨_,rfl⟩
      rw[hW4]at S4 P4 ⊢
      clear hW4 c0 c1 c2 cl cf T4 q0 q5 lq
      obtain⟨c0,c1,c2,cl,cf⟩:=P4.out.cells
      have P3:=qK S4.out.res (.bool true) (.slice F fs.length fc) (.slice L ls.length lc); have r0:=cr 0 S4.out.res; have r1:=cr 1 S4.out.res; have r2:=cr 2 S4.out.res; have rlt:=za S4.out.res; have rf:=fun k=>zi S4.out.res k
      obtain⟨W3,hW3⟩:∃W3,y8 W4 pb (.bool true) (.slice F fs.length fc) (.slice L ls.length lc)=W3:=⟨_,rfl⟩
      have T3:zA (fun k=>k=pb) W4 W3:=by rw[←hW3];exact yM (S:=fun k=>k=pb) rfl _ _ _
      rw[hW3]at P3
      have d0:=cr 0 P3; have d1:=cr 1 P3; have d2:=cr 2 P3; simp at r0 r1 r2 d0 d1 d2
      have FIN:Hid (zdb w nb base cs rl cv nv rv (lvN ns i) (.returned (.agg #[.bool true,.slice F fs.length fc,.slice L ls.length lc])) W3):=zh (S4.out.done T3 P4.out.f P4.out.l P4.out.fo P4.out.lo (by have h1:=HSUM.out 1;rw[HT1.out]at h1;simp only[List.map_cons,List.map_nil,List.sum_cons,List.sum_nil,Int.toNat_natCast]at h1;omega)); unfold y8 put2 at hW3; clear P3 T3; go_wp2_with fail; exact bodyPost_ret (v:=.agg #[.bool true,.slice F fs.length fc,.slice L ls.length lc]) (by simp[results,Tryz.results80,go_sem, *]) rfl FIN.out
     ·by_cases k6:n.k=6
      ·have e6:(n.k !=7)=true:=by simp[k6]
       have e7:(n.k !=6)=false:=by simp[k6]
       clear k1 k2 k3 k4 k5 k6 hkind hkl
       obtain⟨kg,ko,q,hkA,klt,y0,hq,ht⟩:=HKJ.out W HS.out.ext 0 hk0
       rw[List.take_zero,List.nil_append,Nat.add_zero]at*
       rw[hkA]at q5
       have HT1:Hid (n.kids.take 1=[(q:Int)]):=zh ht; have HC:=zh (HS.out.call HIH.out hq HB.out (by have h1:=HSUM.out 1;have:=HLIM.out;rw[HT1.out]at h1;simp only[List.map_cons,List.map_nil,List.sum_cons,List.sum_nil,Int.toNat_natCast]at h1;omega)); clear hkA ht; go_wp2_with fail; refine HC.out.mono ?_; rintro e W1 ⟨em,F,fc,fs,L,lc,ls,cs3,cv2,nv2,rv2,rfl,s1,f1,l1,fo1,lo1,hp0⟩
       obtain⟨p,hp⟩:∃p,W1.heap.size=p:=⟨_,rfl⟩
       obtain⟨W2,hW2⟩:∃W2,W1.alloc (.cells #[.bool em,.slice F fs.length fc,.slice L ls.length lc] 148)=W2:=⟨_,rfl⟩
       have X2:Ext W1 W2:=by rw[←hW2];exact xi
       have B2:W2.heap[p]?=some (.cells #[.bool em,.slice F fs.length fc,.slice L ls.length lc] 148):=by rw[←hW2,←hp];exact heap_alloc_new _ _
       have S2:=zh (s1.toExt X2); have P2:Hid (PlA W2 p (cs++cs3).length rv2 em F fc fs L lc ls):=zh ⟨B2,f1.extU X2,l1.extU X2,fo1,lo1⟩; have HPB:Hid (pb+1 < p∧w.heap.size≤p):=zh (by have:=za s1.nod;have:=s1.new;omega); clear s1 f1 l1 fo1 lo1 hp0 X2 B2 HC q0 q5 lq r0 r1 r2 rlt rf y0 klt HS
       obtain⟨q0,q5,lq⟩:=HQ.out W2 _ S2.out.nod
       have J:=zh (S2.out.join HB.out (by have h1:=HSUM.out 1;have:=HLIM.out;rw[HT1.out]at h1;simp only[List.map_cons,List.map_nil,List.sum_cons,List.sum_nil,Int.toNat_natCast]at h1;omega) P2.out.l P2.out.f P2.out.lo P2.out.fo)
       obtain⟨c0,c1,c2,cl,cf⟩:=P2.out.cells
       go_wp2_with fail; try simp only[hp,hW2]
       clear hp hW2; refine J.out.mono ?_; rintro e W3' ⟨rfl,s3,k3⟩; have S3:=zh s3; have P3':=zh (k3 P2.out); clear s3 k3 J S2 P2 c0 c1 c2 cl cf q0 q5 lq
       obtain⟨q0,q5,lq⟩:=HQ.out W3' _ S3.out.nod
       go_upto_region 35 with fail; clear q0 q5 lq
       obtain⟨c0,c1,c2,cl,cf⟩:=P3'.out.cells
       have P3:=qK S3.out.res (.bool em) (.slice F fs.length fc) (.slice L ls.length lc); have r0:=cr 0 S3.out.res; have r1:=cr 1 S3.out.res; have r2:=cr 2 S3.out.res; have rlt:=za S3.out.res; have rf:=fun k=>zi S3.out.res k
       obtain⟨W3,hW3⟩:∃W3,y8 W3' pb (.bool em) (.slice F fs.length fc) (.slice L ls.length lc)=W3:=⟨_,rfl⟩
       have T3:zA (fun k=>k=pb) W3' W3:=by rw[←hW3];exact yM (S:=fun k=>k=pb) rfl _ _ _
       rw[hW3]at P3
       have d0:=cr 0 P3; have d1:=cr 1 P3; have d2:=cr 2 P3; simp at r0 r1 r2 d0 d1 d2
       have FIN:Hid (zdb w nb base cs rl cv nv rv (lvN ns i) (.returned (.agg #[.bool em,.slice F fs.length fc,.slice L ls.length lc])) W3):=zh (S3.out.done T3 P3'.out.f P3'.out.l P3'.out.fo P3'.out.lo (by have h1:=HSUM.out 1;rw[HT1.out]at h1;simp only[List.map_cons,List.map_nil,List.sum_cons,List.sum_nil,Int.toNat_natCast]at h1;omega)); unfold y8 put2 at hW3; clear P3 T3; go_wp2_with fail; exact bodyPost_ret (v:=.agg #[.bool em,.slice F fs.length fc,.slice L ls.length lc]) (by simp[results,Tryz.results80,go_sem, *]) rfl FIN.out
      ·have k7:n.k=7:=by omega
       have e6:(n.k !=7)=false:=by simp[k7]
       have e7:(n.k !=6)=true:=by simp[k7]
       clear k1 k2 k3 k4 k5 k6 k7 hkind hkl
       obtain⟨kg,ko,q,hkA,klt,y0,hq,ht⟩:=HKJ.out W HS.out.ext 0 hk0
       rw[List.take_zero,List.nil_append,Nat.add_zero]at*
       rw[hkA]at q5
       have HT1:Hid (n.kids.take 1=[(q:Int)]):=zh ht; have HC:=zh (HS.out.call HIH.out hq HB.out (by have h1:=HSUM.out 1;have:=HLIM.out;rw[HT1.out]at h1;simp only[List.map_cons,List.map_nil,List.sum_cons,List.sum_nil,Int.toNat_natCast]at h1;omega)); clear hkA ht; go_wp2_with fail; refine HC.out.mono ?_; rintro e W1 ⟨em,F,fc,fs,L,lc,ls,cs3,cv2,nv2,rv2,rfl,s1,f1,l1,fo1,lo1,hp0⟩
       obtain⟨p,hp⟩:∃p,W1.heap.size=p:=⟨_,rfl⟩
       obtain⟨W2,hW2⟩:∃W2,W1.alloc (.cells #[.bool em,.slice F fs.length fc,.slice L ls.length lc] 148)=W2:=⟨_,rfl⟩
       have X2:Ext W1 W2:=by rw[←hW2];exact xi
       have B2:W2.heap[p]?=some (.cells #[.bool em,.slice F fs.length fc,.slice L ls.length lc] 148):=by rw[←hW2,←hp];exact heap_alloc_new _ _
       have S2:=zh (s1.toExt X2); have P2:Hid (PlA W2 p (cs++cs3).length rv2 em F fc fs L lc ls):=zh ⟨B2,f1.extU X2,l1.extU X2,fo1,lo1⟩; have HPB:Hid (pb+1 < p∧w.heap.size≤p):=zh (by have:=za s1.nod;have:=s1.new;omega); clear s1 f1 l1 fo1 lo1 hp0 X2 B2 HC q0 q5 lq r0 r1 r2 rlt rf y0 klt HS
       obtain⟨q0,q5,lq⟩:=HQ.out W2 _ S2.out.nod
       go_upto_region 34 with fail; try simp only[hp,hW2]
       clear hp hW2; have T4:Hid (zA (fun k=>k=p) W2 (W2.setCell ⟨p,0,none⟩ (.bool true))):=zh (zA.set1 _ _ _); have S4:=zh (S2.out.put P2.out.blk HPB.out.2 (by have:=HPB.out.1;omega) HX0.out T4.out); have P4:=zh (P2.out.put0 (em':=true))
       obtain⟨c0,c1,c2,cl,cf⟩:=P2.out.cells
       go_upto_region 35 with fail
       obtain⟨W4,hW4⟩:∃W4,W2.setCell ⟨p,0,none⟩ (.bool true)=W4:=⟨_,rfl⟩
       rw[hW4]at S4 P4 ⊢
       clear hW4 c0 c1 c2 cl cf T4 q0 q5 lq
       obtain⟨c0,c1,c2,cl,cf⟩:=P4.out.cells
       have P3:=qK S4.out.res (.bool true) (.slice F fs.length fc) (.slice L ls.length lc); have r0:=cr 0 S4.out.res; have r1:=cr 1 S4.out.res; have r2:=cr 2 S4.out.res; have rlt:=za S4.out.res; have rf:=fun k=>zi S4.out.res k
       obtain⟨W3,hW3⟩:∃W3,y8 W4 pb (.bool true) (.slice F fs.length fc) (.slice L ls.length lc)=W3:=⟨_,rfl⟩
       have T3:zA (fun k=>k=pb) W4 W3:=by rw[←hW3];exact yM (S:=fun k=>k=pb) rfl _ _ _
       rw[hW3]at P3
       have d0:=cr 0 P3; have d1:=cr 1 P3; have d2:=cr 2 P3; simp at r0 r1 r2 d0 d1 d2
       have FIN:Hid (zdb w nb base cs rl cv nv rv (lvN ns i) (.returned (.agg #[.bool true,.slice F fs.length fc,.slice L ls.length lc])) W3):=zh (S4.out.done T3 P4.out.f P4.out.l P4.out.fo P4.out.lo (by have h1:=HSUM.out 1;rw[HT1.out]at h1;simp only[List.map_cons,List.map_nil,List.sum_cons,List.sum_nil,Int.toNat_natCast]at h1;omega)); unfold y8 put2 at hW3; clear P3 T3; go_wp2_with fail; exact bodyPost_ret (v:=.agg #[.bool true,.slice F fs.length fc,.slice L ls.length lc]) (by simp[results,Tryz.results80,go_sem, *]) rfl FIN.out
theorem zfN (w0:World)(g off c len nb base:Nat)(ns:List Nod)(hX:∀w1,Ext w0 w1→∀(j:Nat) (n:Nod),ns[j]?=some n→JX w1 g (off+j*6) n)(hK:∀w1,Ext w0 w1→∀n∈ns,vW w1 n.kA n.kids n.kc)(hC:∀n∈ns,n.c.ok)(hO:zga ns)(hlen:ns.length=len)(hb:w0.heap.size≤base):∀i,i≤len→zit w0 g off c len nb base ns i:=by
 intro i; induction i with
 |zero=>intro _ q hq;omega
 |succ i ih=>
  intro hi q hq; by_cases h:q < i
  ·exact ih (by omega) q h
  ·obtain rfl:q=i:=by omega
   exact zjn w0 g off c len nb base ns q hX hK hC hO hlen hb (ih (by omega)) (by omega)
end Go.Proofs.YtmbelmngniddjaaGreat
