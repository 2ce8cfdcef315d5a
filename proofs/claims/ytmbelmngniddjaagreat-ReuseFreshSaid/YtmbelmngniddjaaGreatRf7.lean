/- Rf: texts that the proof rests on, part 7. -/
import Derived.Test.YtmbelmngniddjaaGreatRf6
namespace Go.Proofs.YtmbelmngniddjaaGreat
open Go.RowKit Go.Maps
attribute [local go_sem] zF zB zI zJ zw zt zN zD zX zQ zK zP zO zL zT zR zS zG zM zC
def UR (r:Row):Prop:=r.length≤3∧∀b∈r,b < 8∨b=255
def zgj (b:UInt8):Nat:=if b=255 then 9 else b.toNat+1
def Zu:Row→Nat
 |[]=>0
 |b ::r=>zgj b+10*Zu r
theorem vY {b:UInt8}(h:b < 8∨b=255):1≤zgj b∧zgj b≤9:=by
 unfold zgj; split
 ·omega
 ·rcases h with h|h
  ·have:b.toNat < 8:=h
   omega
  ·exact absurd h (by assumption)
theorem zf0 {a b:UInt8}(ha:a < 8∨a=255)(hb:b < 8∨b=255)(h:zgj a=zgj b):a=b:=by
 unfold zgj at h; split at h<;>split at h
 ·rename_i h1 h2;rw[h1,h2]
 ·rcases hb with hb|hb
  ·have:b.toNat < 8:=hb
   omega
  ·rw[hb];assumption
 ·rcases ha with ha|ha
  ·have:a.toNat < 8:=ha
   omega
  ·rw[ha];exact(by assumption:b=255).symm
 ·exact UInt8.toNat_inj.1 (by omega)
theorem zaa:∀{a b:Row},(∀x∈a,x < 8∨x=255)→(∀x∈b,x < 8∨x=255)→Zu a=Zu b→a=b
 |[],[],_,_,_=>rfl
 |[],y ::b,_,hb,h=>by
  have:=vY (hb y (by simp))
  simp only[Zu]at h
  omega
 |x ::a,[],ha,_,h=>by
  have:=vY (ha x (by simp))
  simp only[Zu]at h
  omega
 |x ::a,y ::b,ha,hb,h=>by
  have h1:=vY (ha x (by simp)); have h2:=vY (hb y (by simp)); simp only[Zu]at h
  have e1:zgj x=zgj y:=by omega
  have e2:Zu a=Zu b:=by omega
  rw[zf0 (ha x (by simp)) (hb y (by simp)) e1,zaa (fun z hz=>ha z (by simp[hz])) (fun z hz=>hb z (by simp[hz])) e2]
theorem zgu {r:Row}(h:UR r):Zu r < 1000:=by
 obtain⟨hl,hb⟩:=h
 match r,hl,hb with
 |[],_,_=>simp[Zu]
 |[a],_,hb=>
  have:=vY (hb a (by simp))
  simp only[Zu]
  omega
 |[a,b],_,hb=>
  have:=vY (hb a (by simp))
  have:=vY (hb b (by simp))
  simp only[Zu]
  omega
 |[a,b,c],_,hb=>
  have:=vY (hb a (by simp))
  have:=vY (hb b (by simp))
  have:=vY (hb c (by simp))
  simp only[Zu]
  omega
 |a ::b ::c ::d ::r,hl,_=>simp at hl
theorem jQ {α:Type}[DecidableEq α]:∀{l m:List α},l.Nodup→(∀x∈l,x∈m)→l.length≤m.length
 |[],_,_,_=>Nat.zero_le _
 |x ::l,m,hn,hs=>by
  rw[List.nodup_cons]at hn
  have hx:=hs x (by simp)
  have:=jQ (l:=l) (m:=m.erase x) hn.2 (fun y hy=>(List.mem_erase_of_ne (fun he=>hn.1 (by rw[←he];exact hy))).2 (hs y (by simp[hy])))
  rw[List.length_erase_of_mem hx]at this
  have:=List.length_pos_of_mem hx
  simp only[List.length_cons]
  omega
theorem zcp {α:Type}[DecidableEq α]{l m:List α}(hl:l.Nodup)(hs:∀x∈l,x∈m)(hle:m.length≤l.length):∀x∈m,x∈l:=by
 intro x hx; apply Classical.byContradiction
 intro hn
 have:=jQ (l:=l) (m:=m.erase x) hl (fun y hy=>(List.mem_erase_of_ne (fun he=>hn (by rw[←he];exact hy))).2 (hs y hy))
 rw[List.length_erase_of_mem hx]at this
 have:=List.length_pos_of_mem hx
 omega
theorem zfH {l:List Row}(hn:l.Nodup)(hu:∀r∈l,UR r):l.length≤1000:=by
 have h1:(l.map Zu).Nodup:=by
  rw[List.nodup_iff_pairwise_ne,List.pairwise_map]
  refine List.Pairwise.imp_of_mem ?_ (List.nodup_iff_pairwise_ne.1 hn); intro a b ha hb hne he; exact hne (zaa (hu a ha).2 (hu b hb).2 he)
 have:=jQ (m:=List.range 1000) h1 (fun x hx=>by
  obtain⟨r,hr,rfl⟩:=List.mem_map.1 hx
  exact List.mem_range.2 (zgu (hu r hr)))
 simpa using this
theorem UR.take {r:Row}(h:∀b∈r,b < 8∨b=255){k:Nat}(hk:k≤3):UR (r.take k):=⟨by rw[List.length_take];omega,fun b hb=>h b (List.mem_of_mem_take hb)⟩
theorem UR.join {k:Nat}{a b:Row}(hk:k≤3)(ha:UR a)(hb:UR b):UR (xK k a b):=by
 unfold xK; split
 ·exact UR.take ha.2 hk
 ·exact UR.take (fun x hx=>by
   rcases List.mem_append.1 hx with hx|hx
   ·exact ha.2 x hx
   ·exact hb.2 x hx) hk
structure yO (zs:List ByteArray)(P:RS):Prop where
 once:(zs.map rb).Nodup
 few:∀z∈zs,UR (rb z)
 mem:∀r,r∈zs.map rb↔P r
theorem yO.len {zs:List ByteArray}{P:RS}(h:yO zs P):zs.length≤1000:=by
 have:=zfH h.once (fun r hr=>by
  obtain⟨z,hz,rfl⟩:=List.mem_map.1 hr
  exact h.few z hz)
 simpa using this
theorem yO.nil:yO [] (fun _=>False):=⟨by simp,fun z h=>by simp at h,fun r=>by simp⟩
theorem yO.perm {zs us:List ByteArray}{P:RS}(h:yO zs P)(p:us.Perm zs):yO us P:=
 ⟨(p.map rb).nodup_iff.2 h.once,fun z hz=>h.few z (p.mem_iff.1 hz),fun r=>by rw[(p.map rb).mem_iff];exact h.mem r⟩
theorem yO.to {zs:List ByteArray}{P Q:RS}(h:yO zs P)(e:∀r,P r↔Q r):yO zs Q:=⟨h.once,h.few,fun r=>(h.mem r).trans (e r)⟩
theorem yO.at_ {zs:List ByteArray}{P:RS}(h:yO zs P){k:Nat}{z:ByteArray}(hz:zs[k]?=some z):P (rb z)∧UR (rb z)∧z.size≤3:=
 ⟨(h.mem _).1 (List.mem_map.2 ⟨z,List.mem_of_getElem? hz,rfl⟩),h.few z (List.mem_of_getElem? hz),by rw[←jB];exact(h.few z (List.mem_of_getElem? hz)).1⟩
def qQ (f:List UInt8→Bool)(zs:List ByteArray):Prop:=∀y,f y=true↔y∈zs.map rb
theorem qQ.nil:qQ (fun _=>false) []:=fun y=>by simp
theorem qQ.add {f:List UInt8→Bool}{zs:List ByteArray}{P:RS}(hs:qQ f zs)(h:yO zs P){x:ByteArray}(hx:UR (rb x)):qQ (QU f x) (JN f zs x)∧yO (JN f zs x) (fun r=>P r∨r=rb x):=by
 cases hf:f (rb x)with
 |true=>
  have hm:=(hs _).1 hf; have e1:JN f zs x=zs:=by unfold JN;rw[show f x.data.toList=true from hf];rfl
  rw[e1]
  refine⟨fun y=>?_,h.to fun r=>?_⟩
  ·unfold QU; split
   ·rename_i hy; subst hy
    exact⟨fun _=>hm,fun _=>rfl⟩
   ·exact hs y
  ·constructor
   ·exact .inl
   ·rintro(hr|rfl)
    ·exact hr
    ·exact(h.mem _).1 hm
 |false=>
  have hm:rb x∉zs.map rb:=fun hh=>by
   have:=(hs _).2 hh
   rw[hf]at this
   cases this
  have e1:JN f zs x=zs++[x]:=by unfold JN;rw[show f x.data.toList=false from hf];rfl
  rw[e1]
  refine⟨fun y=>?_,?_,fun z hz=>?_,fun r=>?_⟩
  ·rw[List.map_append,List.mem_append,←hs y]
   unfold QU; split
   ·rename_i hy; subst hy; simp[rb]
   ·rename_i hy; simp only[List.map_cons,List.map_nil,List.mem_singleton]
    constructor
    ·exact .inl
    ·rintro(h|h)
     ·exact h
     ·exact absurd h hy
  ·rw[List.map_append,List.nodup_append]
   exact⟨h.once,by simp,fun a ha b hb he=>by
    rw[List.map_cons,List.map_nil,List.mem_singleton]at hb
    subst hb he; exact hm ha⟩
  ·rcases List.mem_append.1 hz with hz|hz
   ·exact h.few z hz
   ·rw[List.mem_singleton]at hz
    subst hz; exact hx
  ·rw[List.map_append,List.mem_append,h.mem]
   simp
def Qc (w:World)(P:RS)(e:Ending)(w':World):Prop:=∃v zs,e=.returned v∧vK w' v zs∧yO zs P∧Ext w w'
theorem VD (v:Value)(zs:List ByteArray)(P:RS)(w:World)(h:vK w v zs)(hs:yO zs P):Calls Tryz.prog 125 #[v] w (Qc w P):=
 (zcL 1000 v zs w h hs.len (by omega)).mono (fun e w' ⟨v',us,h1,h2,h3,h4⟩=>⟨v',us,h1,h2,hs.perm h3,h4⟩)
def VF (k:Nat)(xs ys:List ByteArray)(i j:Nat):RS:=fun r=>(∃x∈xs.take i,∃y∈ys,r=xK k (rb x) (rb y))∨∃x,xs[i]?=some x∧∃y∈ys.take j,r=xK k (rb x) (rb y)
theorem zdM (k:Nat)(xs ys:List ByteArray)(r:Row):False↔VF k xs ys 0 0 r:=by simp[VF]
theorem zag {k:Nat}{xs ys:List ByteArray}{i:Nat}{x:ByteArray}(hx:xs[i]?=some x)(r:Row):VF k xs ys i ys.length r↔VF k xs ys (i+1) 0 r:=by
 have ht:xs.take (i+1)=xs.take i++[x]:=by rw[List.take_add_one,hx];rfl
 unfold VF
 rw[ht,List.take_length,List.take_zero]
 constructor
 ·rintro(⟨u,hu,y,hy,rfl⟩|⟨u,hu,y,hy,rfl⟩)
  ·exact .inl ⟨u,List.mem_append_left _ hu,y,hy,rfl⟩
  ·rw[hx]at hu
   injection hu with hu; subst hu; exact .inl ⟨x,by simp,y,hy,rfl⟩
 ·rintro(⟨u,hu,y,hy,rfl⟩|⟨u,hu,y,hy,rfl⟩)
  ·rcases List.mem_append.1 hu with hu|hu
   ·exact .inl ⟨u,hu,y,hy,rfl⟩
   ·rw[List.mem_singleton]at hu
    subst hu; exact .inr ⟨u,hx,y,hy,rfl⟩
  ·cases hy
theorem zeU {k:Nat}{xs ys:List ByteArray}{i j:Nat}{x y:ByteArray}(hx:xs[i]?=some x)(hy:ys[j]?=some y)(r:Row):(VF k xs ys i j r∨r=xK k (rb x) (rb y))↔VF k xs ys i (j+1) r:=by
 have ht:ys.take (j+1)=ys.take j++[y]:=by rw[List.take_add_one,hy];rfl
 unfold VF
 rw[ht]
 constructor
 ·rintro((h|⟨u,hu,z,hz,rfl⟩)|rfl)
  ·exact .inl h
  ·exact .inr ⟨u,hu,z,List.mem_append_left _ hz,rfl⟩
  ·exact .inr ⟨x,hx,y,by simp,rfl⟩
 ·rintro(h|⟨u,hu,z,hz,rfl⟩)
  ·exact .inl (.inl h)
  ·rcases List.mem_append.1 hz with hz|hz
   ·exact .inl (.inr ⟨u,hu,z,hz,rfl⟩)
   ·rw[List.mem_singleton]at hz
    subst hz
    rw[hx]at hu
    injection hu with hu; subst hu; exact .inr rfl
theorem zc3 {k:Nat}{xs ys:List ByteArray}{i:Nat}{x:ByteArray}(hx:xs[i]?=some x)(hw:qC k (rb x)=true)(hy:0 < ys.length)(r:Row):(VF k xs ys i 0 r∨r=xK k (rb x) [])↔VF k xs ys (i+1) 0 r:=by
 rw[←zag hx]
 unfold VF
 rw[List.take_zero,List.take_length]
 have hj:∀y,xK k (rb x) y=xK k (rb x) []:=fun y=>by rw[xh hw,xh hw]
 constructor
 ·rintro((h|⟨u,hu,z,hz,rfl⟩)|rfl)
  ·exact .inl h
  ·cases hz
  ·exact .inr ⟨x,hx,ys[0],List.getElem_mem hy,(hj _).symm⟩
 ·rintro(h|⟨u,hu,z,hz,rfl⟩)
  ·exact .inl (.inl h)
  ·rw[hx]at hu
   injection hu with hu; subst hu; exact .inr (hj _)
theorem zfP {k:Nat}{xs ys:List ByteArray}{A B:RS}(ha:yO xs A)(hb:yO ys B)(r:Row):VF k xs ys xs.length 0 r↔jm k A B r:=by
 unfold VF jm
 rw[List.take_length,List.take_zero]
 constructor
 ·rintro(⟨u,hu,y,hy,rfl⟩|⟨u,hu,y,hy,rfl⟩)
  ·exact⟨rb u,rb y,(ha.mem _).1 (List.mem_map.2 ⟨u,hu,rfl⟩),(hb.mem _).1 (List.mem_map.2 ⟨y,hy,rfl⟩),rfl⟩
  ·cases hy
 ·rintro⟨a,b,h1,h2,rfl⟩
  obtain⟨x,hx,rfl⟩:=List.mem_map.1 ((ha.mem a).2 h1)
  obtain⟨y,hy,rfl⟩:=List.mem_map.1 ((hb.mem b).2 h2)
  exact .inl ⟨x,hx,y,hy,rfl⟩
theorem zft {k:Nat}{xs:List ByteArray}(i:Nat)(r:Row):VF k xs [] i 0 r↔False:=by simp[VF]
end Go.Proofs.YtmbelmngniddjaaGreat
namespace Go.Proofs.YtmbelmngniddjaaGreat
open Go.RowKit
attribute [local go_sem] zF zB zI zJ zw zt zN zD zX zQ zK zP zO zL zT zR zS zG zM zC
theorem zj7:rb tz=[]:=rfl
theorem zh4:tz.size=0:=rfl
set_option maxRecDepth 100000 in
set_option maxHeartbeats 2000000 in
theorem zaR (k:Nat)(va vb:Value)(xs ys:List ByteArray)(P Q:RS)(w:World)(hk:1≤k∧k≤3)(ha:vK w va xs)(hb:vK w vb ys)(sa:yO xs P)(sb:yO ys Q):Calls Tryz.prog 94 #[.int .i64 k,va,vb] w (Qc w (jm k P Q)):=by
 have HA:=zh ha; have HB:=zh hb; have SA:=zh sa; have SB:=zh sb
 obtain⟨A,ca,rfl⟩:=ha.size
 obtain⟨B,cb,rfl⟩:=hb.size
 obtain⟨n1,hn1⟩:∃n,xs.length=n:=⟨_,rfl⟩
 obtain⟨n2,hn2⟩:∃n,ys.length=n:=⟨_,rfl⟩
 have hb1:n1≤1000:=by rw[←hn1];exact sa.len
 have hb2:n2≤1000:=by rw[←hn2];exact sb.len
 have HN1:=zh hn1; have HN2:=zh hn2
 obtain⟨mb,hmb⟩:∃mb,w.heap.size=mb:=⟨_,rfl⟩
 obtain⟨W1,hW1⟩:∃W,w.alloc (.map #[] 0)=W:=⟨_,rfl⟩
 have X1:Ext w W1:=by rw[←hW1];exact xi
 have HM1:Hid (YN W1 mb 0 fun _=>false):=zh (by rw[←hW1,←hmb];exact YN.made w); have HX1:=zh X1; have HMB:Hid (w.heap.size≤mb):=zh (by omega); have hmm:=@run_makeMap Tryz.prog; have hk1:decide ((0:Int) < (k:Int))=true:=decide_eq_true (by omega); have hk2:decide (0 < k)=true:=decide_eq_true (by omega); have hk3:(if(0:Int) < (k:Int)then(k:Int)else 0)=k:=if_pos (by omega)
 have hk4:0 < k:=by omega
 rw[hn1,hn2]
 clear ha hb sa sb X1 hn1 hn2; go_in
 go_wp2_with fail; try simp only[hW1,hmb]
 clear hW1 hmb hmm hk1 hk2 hk3 hk4; go_loopw [8,9] (fun ov iv wr=>∃(i n:Nat) (ls:List ByteArray) (f:List UInt8→Bool),iv=.int .i64 i∧i≤n1∧Hid (n≤i*(n2+1))∧Hid (zam wr w.heap.size ov ls)∧Hid (YN wr mb n f)∧Hid (qQ f ls∧yO ls (VF k xs ys i 0))∧Hid (Ext w wr)) (fun _ iv _=>n1 - (intOf iv).toNat)
 case atStart=>exact⟨0,0,[],_,rfl,Nat.zero_le _,zh (Nat.zero_le _),zh (World.ownsRow_nil _ _ _ _),HM1,zh ⟨qQ.nil,yO.nil.to (zdM k xs ys)⟩,HX1⟩
 case round=>
  clear HM1 HX1
  obtain⟨i,n,ls,f,rfl,hi,HN,HR,HM,HS,HX⟩:=hrel
  by_cases hend:¬i < n1∨n2=0
  ·have HF:Hid (yO ls (jm k P Q)):=zh (by
    rcases hend with hend|hend
    ·obtain rfl:i=xs.length:=by have:=HN1.out;omega
     exact HS.out.2.to (zfP SA.out SB.out)
    ·have hy:ys=[]:=List.length_eq_zero_iff.1 (by have:=HN2.out;omega); subst hy; refine HS.out.2.to (fun r=>(zft i r).trans ⟨False.elim,?_⟩)
     rintro⟨a,b,_,h2,_⟩
     have:=(SB.out.mem b).2 h2
     simp at this)
   have CS:=zh (VD _ ls _ wr HR.out.reads HF.out)
   obtain⟨d,hd⟩:∃d,(decide (i < n1)&&decide (0 < n2))=d:=⟨_,rfl⟩
   obtain⟨d1,hd1⟩:∃d,decide ((i:Int) < (n1:Int))=d:=⟨_,rfl⟩
   obtain⟨d2,hd2⟩:∃d,decide (i < n1)=d:=⟨_,rfl⟩
   obtain rfl:d1=d2:=by rw[←hd1,←hd2,decide_eq_decide];omega
   clear hd; cases d1
   ·clear hend; go_wp2_with fail; refine CS.out.mono ?_; rintro e W5 ⟨v5,zs,rfl,h5,s5,x5⟩; have H5:=zh h5; have S5:=zh s5; have X5:=zh (HX.out.trans x5); clear h5 s5 x5 CS; go_wp2_with fail; go_ret
    exact⟨v5,zs,rfl,H5.out,S5.out,X5.out⟩
   ·obtain rfl:n2=0:=by
     have:=of_decide_eq_true hd2
     omega
    have d3:decide ((((0:Nat):Int)) > 0)=false:=rfl; clear hend; go_wp2_with fail; refine CS.out.mono ?_; rintro e W5 ⟨v5,zs,rfl,h5,s5,x5⟩; have H5:=zh h5; have S5:=zh s5; have X5:=zh (HX.out.trans x5); clear h5 s5 x5 CS; go_wp2_with fail; go_ret
    exact⟨v5,zs,rfl,H5.out,S5.out,X5.out⟩
  ·have hlt:i < n1:=by omega
   have hpos:0 < n2:=by omega
   have d0:decide ((i:Int) < (n1:Int))=true:=decide_eq_true (by omega); have d1:decide (i < n1)=true:=decide_eq_true hlt; have d2:decide ((0:Int) < (n2:Int))=true:=decide_eq_true (by omega); have d3:decide (0 < n2)=true:=decide_eq_true hpos
   obtain⟨x,hx⟩:∃x,xs[i]?=some x:=⟨_,List.getElem?_eq_getElem (by have:=HN1.out;omega)⟩
   obtain⟨g1,o1,hA,l1,z1⟩:=(HA.out.ext HX.out).get hx
   subst hA; have HXI:=zh hx
   obtain⟨_,hux,hxs⟩:=SA.out.at_ hx
   have HUX:=zh hux
   obtain⟨wh,hwh⟩:∃b,qC k (rb x)=b:=⟨_,rfl⟩
   have HWH:=zh hwh; clear hend hx hux hwh; go_upto_region 7 with fail; go_cut [10] (fun wv wc=>wv=.bool wh∧Hid (Ext wr wc))
   case first=>
    by_cases a1:k≤x.size
    ·have e1:decide ((k:Int)≤(x.size:Int))=true:=decide_eq_true (by omega); have e2:decide (k≤x.size)=true:=decide_eq_true a1; obtain rfl:wh=true:=by rw[←HWH.out];exact Vk a1
     clear a1; go_upto_region 7 with fail; refine zg (29) (zd [0,1,2,5] (zj [3,4,6,7,8,9,10,11,12,13,14,15,16,17,18,19,20,21,22,23,24,25,26,27,28] .fin)) (by kernel_rfl) (by kernel_rfl) ?_; (repeat first|refine yq ?_|refine yr ?_)
     refine zv ?_; go_wp2_with fail; go_meet
     exact⟨rfl,zh xi⟩
    ·have e1:decide ((k:Int)≤(x.size:Int))=false:=decide_eq_false (by omega); have e2:decide (k≤x.size)=false:=decide_eq_false a1; by_cases a2:x.size=0
     ·have e3:x.toList.isEmpty=true:=by rw[Yk,a2];rfl
      obtain rfl:wh=false:=by rw[←HWH.out];exact Q8 (by omega) a2
      clear a1 a2; go_upto_region 7 with fail; refine zg (29) (zd [0,1,2,5] (zj [3,4,6,7,8,9,10,11,12,13,14,15,16,17,18,19,20,21,22,23,24,25,26,27,28] .fin)) (by kernel_rfl) (by kernel_rfl) ?_; (repeat first|refine yq ?_|refine yr ?_)
      refine zv ?_; go_wp2_with fail; go_meet
      exact⟨rfl,zh xi⟩
     ·have e3:x.toList.isEmpty=false:=by rw[Yk];simp[a2]
      have q3:x.size - 1 < x.size:=by omega
      have q8:0 < x.size:=by omega
      have hbn:=zeC (x[x.size - 1]'q3)
      rw[←QI (k:=k) (by omega) q3,HWH.out]at hbn
      have e5:IntKind.i64.wrap ((x.size:Int) - 1)=(x.size:Int) - 1:=IntWalk.i64_in _ (by omega); have hx8:x[x.size - 1]?=some (x[x.size - 1]'q3):=ByteArray.getElem?_lt' x _ q3
      obtain⟨b8,hb8⟩:∃b,x[x.size - 1]'q3=b:=⟨_,rfl⟩
      rw[hb8]at hx8 hbn
      have hidx:=fun w=>qS hx8 ((x.size:Int) - 1) (by omega) w; clear hx8 hb8 q3; clear a1 a2; go_upto_region 7 with fail; refine zg (29) (zd [0,1,2,5] (zj [3,4,6,7,8,9,10,11,12,13,14,15,16,17,18,19,20,21,22,23,24,25,26,27,28] .fin)) (by kernel_rfl) (by kernel_rfl) ?_; (repeat first|refine yq ?_|refine yr ?_)
      refine zv ?_; go_wp2_with fail; go_meet
      exact⟨rfl,zh xi⟩
   case rest=>
    obtain⟨rfl,hxc⟩:=hcut
    have HXC:Hid (Ext w wc):=zh (HX.out.trans hxc.out); have HRC:=zh (HR.out.ext hxc.out); have HMC:=zh (HM.out.ext hxc.out); have z1:=zy z1 l1 hxc.out; have l1:=Nat.lt_of_lt_of_le l1 hxc.out.size; clear HX HR HM hxc; have HLB:Hid (n≤90000000):=zh (by
     have h1:=HN.out; have h2:i*(n2+1)≤999*1001:=Nat.mul_le_mul (by omega) (by omega); have h3:i*(n2+1)≤999*(n2+1):=Nat.mul_le_mul (by omega) (Nat.le_refl _); omega)
    cases wh with
    |true=>
     have HJ:=zh (zb9 k x tz wc (by omega) (by rw[zh4];omega) (by omega))
     rw[zj7]at HJ
     go_wp2_with fail; refine HJ.out.mono ?_; rintro e W3 ⟨c,rfl,hc,hx3⟩; have HC:=zh hc; have HX3:=zh (HXC.out.trans hx3); have HUC:Hid (UR (rb c)):=zh (by rw[hc];exact UR.join hk.2 HUX.out ⟨by simp,fun b hb=>by cases hb⟩); have HAD:=zh (VP w _ ls mb n f c W3 (HRC.out.ext hx3) (HMC.out.ext hx3) HMB.out HX3.out HS.out.2.len (by have:=HLB.out;omega) (by have:=HUC.out.1;rw[jB]at this;omega)); clear hc hx3 HJ; go_wp2_with fail; refine HAD.out.mono ?_; rintro e W4 ⟨v4,n4,rfl,hr4,hm4,hk4,hx4⟩; have HR4:=zh hr4; have HM4:=zh hm4; have HX4:=zh hx4; have HK4:Hid (n4≤(i+1)*(n2+1)):=zh (by have:=HN.out;rw[Nat.add_mul];omega); have HS4:Hid (qQ (QU f c) (JN f ls c)∧yO (JN f ls c) (VF k xs ys (i+1) 0)):=zh (by
      obtain⟨h1,h2⟩:=HS.out.1.add HS.out.2 HUC.out
      rw[HC.out]at h2
      exact⟨h1,h2.to (zc3 HXI.out HWH.out (by rw[HN2.out];exact hpos))⟩)
     clear hr4 hm4 hx4 hk4 HAD; go_wp2_with fail; refine wp_loop_rounds 1 ?_
     rw[rounds_succ]
     go_wp2_with fail; go_roundw
     case rel=>exact⟨i+1,n4,_,_,by go_num,by omega,HK4,HR4,HM4,HS4,HX4⟩
     case measure=>simp[intOf];omega
    |false=>
     go_wp2_with fail; clear z1 l1; go_loopw [8,11] (fun ov jv wq=>∃(j n:Nat) (ls:List ByteArray) (f:List UInt8→Bool),jv=.int .i64 j∧j≤n2∧Hid (n≤i*(n2+1)+j)∧Hid (zam wq w.heap.size ov ls)∧Hid (YN wq mb n f)∧Hid (qQ f ls∧yO ls (VF k xs ys i j))∧Hid (Ext w wq)) (fun _ jv _=>n2 - (intOf jv).toNat)
     case atStart=>exact⟨0,n,ls,f,rfl,Nat.zero_le _,HN,HRC,HMC,HS,HXC⟩
     case round=>
      clear HN HRC HMC HS HXC HLB n ls f
      obtain⟨j,n,ls,f,rfl,hj,HN,HR,HM,HS,HX⟩:=hrel
      by_cases hlj:j < n2
      ·obtain⟨y,hy⟩:∃y,ys[j]?=some y:=⟨_,List.getElem?_eq_getElem (by have:=HN2.out;omega)⟩
       obtain⟨g2,o2,hB,l2,z2⟩:=(HB.out.ext HX.out).get hy
       subst hB
       obtain⟨g1',o1',hA',l1,z1⟩:=(HA.out.ext HX.out).get HXI.out
       injection hA' with hA'; injection hA' with e1 e2; subst e1 e2; have HYJ:=zh hy
       obtain⟨_,huy,hys⟩:=SB.out.at_ hy
       have HUY:=zh huy; have HLB:Hid (n≤90000000):=zh (by
        have h1:=HN.out; have h3:i*(n2+1)≤999*(n2+1):=Nat.mul_le_mul (by omega) (Nat.le_refl _); omega)
       have HJ:=zh (fun w1=>zb9 k x y w1 (by omega) (by omega) (by omega)); clear hy huy; go_upto_region 13 with fail; refine zg (12) (zd [0,1,2,3,4,5,7,8,9] (zj [6,10] (.step 11 (.step 12 (zd [13] .fin))))) (by kernel_rfl) (by kernel_rfl) ?_; (repeat first|refine yq ?_|refine yr ?_)
       refine zp fun next hn=>?_;simp only[pick,yp]; go_wp2_with fail
       refine(HJ.out _).mono ?_
       rintro e W3 ⟨c,rfl,hc,hx3⟩; have HY3:Hid (Ext wr W3):=zh (Ext.trans xi hx3); have HC:=zh hc; have HX3:=zh (HX.out.trans HY3.out); have HUC:Hid (UR (rb c)):=zh (by rw[hc];exact UR.join hk.2 HUX.out HUY.out); have HAD:=zh (VP w _ ls mb n f c W3 (HR.out.ext HY3.out) (HM.out.ext HY3.out) HMB.out HX3.out HS.out.2.len (by have:=HLB.out;omega) (by have:=HUC.out.1;rw[jB]at this;omega)); clear hc hx3 HJ; go_wp2_with fail; refine zk (fun _=>yZ HY3.out) (hn _ _ ?_); clear hn next; refine zp fun next hn=>?_;simp only[pick,yp]; go_wp2_with fail; refine HAD.out.mono ?_; rintro e W4 ⟨v4,n4,rfl,hr4,hm4,hk4,hx4⟩; have HR4:=zh hr4; have HM4:=zh hm4; have HX4:=zh hx4; have HK4:Hid (n4≤i*(n2+1)+(j+1)):=zh (by have:=HN.out;omega); have HS4:Hid (qQ (QU f c) (JN f ls c)∧yO (JN f ls c) (VF k xs ys i (j+1))):=zh (by
        obtain⟨h1,h2⟩:=HS.out.1.add HS.out.2 HUC.out
        rw[HC.out]at h2
        exact⟨h1,h2.to (zeU HXI.out HYJ.out)⟩)
       clear hr4 hm4 hx4 hk4 HAD z1 z2 l1 l2; go_wp2_with fail; refine zk (fun h=>absurd rfl h) (hn _ _ ?_); clear hn next; (repeat first|refine yq ?_|refine yr ?_)
       refine zv ?_; go_wp2_with fail; go_roundw
       case rel=>exact⟨j+1,n4,_,_,by go_num,by omega,HK4,HR4,HM4,HS4,HX4⟩
       case measure=>simp[intOf];omega
      ·obtain rfl:j=n2:=by omega
       have HK4:Hid (n≤(i+1)*(j+1)):=zh (by have:=HN.out;rw[Nat.add_mul];omega); have HS4:Hid (qQ f ls∧yO ls (VF k xs ys (i+1) 0)):=zh ⟨HS.out.1,by
        have h1:=HS.out.2
        rw[←HN2.out]at h1
        exact h1.to (zag HXI.out)⟩
       go_wp2_with fail; go_roundw
       case rel=>exact⟨i+1,n,ls,f,by go_num,by omega,HK4,HR,HM,HS4,HX⟩
       case measure=>simp[intOf];omega
theorem Qa (w:World)(x:ByteArray):vK (w.alloc (.cells #[.string x] 9)) (.slice (some ⟨w.heap.size,0,none⟩) 1 1) [x]:=⟨_,_,rfl,vq (ls:=[x]) (heap_alloc_new w _) rfl,(fun h=>by cases h),Nat.le_refl _,fun g off s h=>by injection h with h;injection h with h;subst h;exact⟨_,heap_alloc_new w _⟩⟩
def orS (P Q:RS):RS:=fun r=>P r∨Q r
def inS (xs:List ByteArray):RS:=fun r=>∃x∈xs,r=rb x
theorem zbF {xs:List ByteArray}{k:Nat}{x:ByteArray}(hx:xs[k]?=some x)(r:Row):(inS (xs.take k) r∨r=rb x)↔inS (xs.take (k+1)) r:=by
 have ht:xs.take (k+1)=xs.take k++[x]:=by rw[List.take_add_one,hx];rfl
 unfold inS
 rw[ht]
 constructor
 ·rintro(⟨y,hy,rfl⟩|rfl)
  ·exact⟨y,List.mem_append_left _ hy,rfl⟩
  ·exact⟨x,by simp,rfl⟩
 ·rintro⟨y,hy,rfl⟩
  rcases List.mem_append.1 hy with hy|hy
  ·exact .inl ⟨y,hy,rfl⟩
  ·rw[List.mem_singleton]at hy
   subst hy; exact .inr rfl
theorem zep {xs:List ByteArray}{P:RS}(h:yO xs P)(r:Row):inS xs r↔P r:=by
 rw[←h.mem]
 unfold inS
 rw[List.mem_map]
 exact⟨fun⟨x,hx,e⟩=>⟨x,hx,e.symm⟩,fun⟨x,hx,e⟩=>⟨x,hx,e.symm⟩⟩
set_option maxRecDepth 100000 in
set_option maxHeartbeats 2000000 in
theorem Jv (va vb:Value)(xs ys:List ByteArray)(P Q:RS)(w:World)(ha:vK w va xs)(hb:vK w vb ys)(sa:yO xs P)(sb:yO ys Q):Calls Tryz.prog 97 #[va,vb] w (Qc w (orS P Q)):=by
 have HA:=zh ha; have HB:=zh hb; have SA:=zh sa; have SB:=zh sb
 obtain⟨A,ca,rfl⟩:=ha.size
 obtain⟨B,cb,rfl⟩:=hb.size
 obtain⟨n1,hn1⟩:∃n,xs.length=n:=⟨_,rfl⟩
 obtain⟨n2,hn2⟩:∃n,ys.length=n:=⟨_,rfl⟩
 have hb1:n1≤1000:=by rw[←hn1];exact sa.len
 have hb2:n2≤1000:=by rw[←hn2];exact sb.len
 have HN1:=zh hn1; have HN2:=zh hn2
 obtain⟨mb,hmb⟩:∃mb,w.heap.size=mb:=⟨_,rfl⟩
 obtain⟨W1,hW1⟩:∃W,w.alloc (.map #[] 0)=W:=⟨_,rfl⟩
 have X1:Ext w W1:=by rw[←hW1];exact xi
 have HM1:Hid (YN W1 mb 0 fun _=>false):=zh (by rw[←hW1,←hmb];exact YN.made w); have HX1:=zh X1; have HMB:Hid (w.heap.size≤mb):=zh (by omega); have hmm:=@run_makeMap Tryz.prog
 rw[hn1,hn2]
 clear ha hb sa sb X1 hn1 hn2; go_in
 go_wp2_with fail; try simp only[hW1,hmb]
 clear hW1 hmb hmm; go_loopw [6,7] (fun ov iv wr=>∃(i n:Nat) (ls:List ByteArray) (f:List UInt8→Bool),iv=.int .i64 i∧i≤n1∧Hid (n≤i)∧Hid (zam wr w.heap.size ov ls)∧Hid (YN wr mb n f)∧Hid (qQ f ls∧yO ls (inS (xs.take i)))∧Hid (Ext w wr)) (fun _ iv _=>n1 - (intOf iv).toNat)
 case atStart=>exact⟨0,0,[],_,rfl,Nat.zero_le _,zh (Nat.zero_le _),zh (World.ownsRow_nil _ _ _ _),HM1,zh ⟨qQ.nil,yO.nil.to (fun r=>by simp[inS])⟩,HX1⟩
 case round=>
  clear HM1 HX1
  obtain⟨i,n,ls,f,rfl,hi,HN,HR,HM,HS,HX⟩:=hrel
  by_cases hlt:i < n1
  ·obtain⟨x,hx⟩:∃x,xs[i]?=some x:=⟨_,List.getElem?_eq_getElem (by have:=HN1.out;omega)⟩
   obtain⟨g1,o1,hA,l1,z1⟩:=(HA.out.ext HX.out).get hx
   subst hA
   obtain⟨_,hux,hxs⟩:=SA.out.at_ hx
   have HAD:=zh (VP w _ ls mb n f x wr HR.out HM.out HMB.out HX.out HS.out.2.len (by have:=HN.out;omega) (by omega)); have HSX:Hid (qQ (QU f x) (JN f ls x)∧yO (JN f ls x) (inS (xs.take (i+1)))):=zh (by
    obtain⟨h1,h2⟩:=HS.out.1.add HS.out.2 hux
    exact⟨h1,h2.to (zbF hx)⟩)
   clear hx hux; go_wp2_with fail; refine HAD.out.mono ?_; rintro e W4 ⟨v4,n4,rfl,hr4,hm4,hk4,hx4⟩; have HR4:=zh hr4; have HM4:=zh hm4; have HX4:=zh hx4; have HK4:Hid (n4≤i+1):=zh (by have:=HN.out;omega); clear hr4 hm4 hx4 hk4 HAD z1 l1; go_wp2_with fail; go_roundw
   case rel=>exact⟨i+1,n4,_,_,by go_num,by omega,HK4,HR4,HM4,HSX,HX4⟩
   case measure=>simp[intOf];omega
  ·obtain rfl:i=n1:=by omega
   have HS0:Hid (qQ f ls∧yO ls (orS P (inS (ys.take 0)))):=zh ⟨HS.out.1,HS.out.2.to (fun r=>by
    rw[List.take_of_length_le (by have:=HN1.out;omega),zep SA.out]
    unfold orS; simp[inS])⟩
   have HN0:Hid (n≤i+0):=zh HN.out; go_wp2_with fail; go_loopw [6,8] (fun ov jv wr=>∃(j n:Nat) (ls:List ByteArray) (f:List UInt8→Bool),jv=.int .i64 j∧j≤n2∧Hid (n≤i+j)∧Hid (zam wr w.heap.size ov ls)∧Hid (YN wr mb n f)∧Hid (qQ f ls∧yO ls (orS P (inS (ys.take j))))∧Hid (Ext w wr)) (fun _ jv _=>n2 - (intOf jv).toNat)
   case atStart=>exact⟨0,n,ls,f,rfl,Nat.zero_le _,HN0,HR,HM,HS0,HX⟩
   case round=>
    clear HN HN0 HR HM HS HS0 HX n ls f
    obtain⟨j,n,ls,f,rfl,hj,HN,HR,HM,HS,HX⟩:=hrel
    by_cases hlj:j < n2
    ·obtain⟨y,hy⟩:∃y,ys[j]?=some y:=⟨_,List.getElem?_eq_getElem (by have:=HN2.out;omega)⟩
     obtain⟨g2,o2,hB,l2,z2⟩:=(HB.out.ext HX.out).get hy
     subst hB
     obtain⟨_,huy,hys⟩:=SB.out.at_ hy
     have HAD:=zh (VP w _ ls mb n f y wr HR.out HM.out HMB.out HX.out HS.out.2.len (by have:=HN.out;omega) (by omega)); have HSX:Hid (qQ (QU f y) (JN f ls y)∧yO (JN f ls y) (orS P (inS (ys.take (j+1))))):=zh (by
      obtain⟨h1,h2⟩:=HS.out.1.add HS.out.2 huy
      exact⟨h1,h2.to (fun r=>by
       unfold orS
       rw[←zbF hy]
       exact or_assoc)⟩)
     clear hy huy; go_wp2_with fail; refine HAD.out.mono ?_; rintro e W4 ⟨v4,n4,rfl,hr4,hm4,hk4,hx4⟩; have HR4:=zh hr4; have HM4:=zh hm4; have HX4:=zh hx4; have HK4:Hid (n4≤i+(j+1)):=zh (by have:=HN.out;omega); clear hr4 hm4 hx4 hk4 HAD z2 l2; go_wp2_with fail; go_roundw
     case rel=>exact⟨j+1,n4,_,_,by go_num,by omega,HK4,HR4,HM4,HSX,HX4⟩
     case measure=>simp[intOf];omega
    ·obtain rfl:j=n2:=by omega
     have HF:Hid (yO ls (orS P Q)):=zh (HS.out.2.to (fun r=>by
      rw[List.take_of_length_le (by have:=HN2.out;omega)]
      unfold orS
      rw[zep SB.out]))
     have CS:=zh (VD _ ls _ wr HR.out.reads HF.out); go_wp2_with fail; refine CS.out.mono ?_; rintro e W5 ⟨v5,zs,rfl,h5,s5,x5⟩; have H5:=zh h5; have S5:=zh s5; have X5:=zh (HX.out.trans x5); clear h5 s5 x5 CS; go_wp2_with fail; go_ret
     exact⟨v5,zs,rfl,H5.out,S5.out,X5.out⟩
structure VH (w:World)(g og n:Nat)(zs:Nat→List ByteArray):Prop where
 lt:g < w.heap.size
 at_:∀A,A < n→∃v,w.cell? ⟨g,og+A,none⟩=some v∧vK w v (zs A)
theorem VH.ext {w w':World}{g og n:Nat}{zs:Nat→List ByteArray}(h:VH w g og n zs)(e:Ext w w'):VH w' g og n zs:=
 ⟨Nat.lt_of_lt_of_le h.lt e.size,fun A hA=>by
   obtain⟨v,h1,h2⟩:=h.at_ A hA
   exact⟨v,zy h1 h.lt e,h2.ext e⟩⟩
def Vi (n:Nat)(zs:Nat→List ByteArray)(X:Int→RS):Prop:=∀A:Nat,A < n→yO (zs A) (X (A:Int))
theorem zg1:yO [tz] zaT:=⟨by simp,fun z hz=>by
 rw[List.mem_singleton]at hz
 subst hz
 exact⟨by simp[rb],fun b hb=>by cases hb⟩,fun r=>by simp[rb,zaT]⟩
def tbx (s:Int):ByteArray:=strOfNums [s]
theorem zbx (s:Int):rb (tbx s)=[UInt8.ofNat s.toNat]:=by
 unfold tbx rb
 rw[strOfNums_data]
 rfl
theorem ziu {s:Int}(h0:0≤s)(h8:s < 8):yO [tbx s] (fun x=>x=[UInt8.ofNat s.toNat]):=by
 refine⟨by simp,fun z hz=>?_,fun r=>by simp[zbx]⟩
 rw[List.mem_singleton]at hz
 subst hz
 rw[zbx]
 refine⟨by simp,fun b hb=>.inl ?_⟩
 rw[List.mem_singleton]at hb
 subst hb
 show(UInt8.ofNat s.toNat).toNat < 8
 rw[UInt8.toNat_ofNat']
 omega
set_option maxRecDepth 100000 in
set_option maxHeartbeats 2000000 in
theorem zhA (g:Gr)(n k:Nat)(sg so sc:Nat)(zs:Nat→List ByteArray)(X:Int→RS)(R:Option Addr)(rc:Nat)(right:List Int)(w:World)(h:jC w g)(h0:yY g=0)(hn:g.nons=n)(hk:g.k=k)(hz:VH w sg so n zs)(hs:Vi n zs X)(hr:xW w R right)(hl:right.length≤8)(hrs:∀s∈right,0≤s∧s < g.terms+g.nons):
 Calls Tryz.prog 122 #[grV g,.slice (some ⟨sg,so,none⟩) n sc,.slice R right.length rc] w (Qc w (ofS g.gm X right)):=by
 have HZ:=zh hz; have HSO:=zh hs; have HR:=zh hr; have HRS:=zh hrs; have HKN:=zh hk
 obtain⟨rn,hrn⟩:∃n,right.length=n:=⟨_,rfl⟩
 have HRN:=zh hrn; have hk3:1≤k∧k≤3:=by have:=yk h0;omega
 have HCA:=zh (fun va vb xs ys P Q w1 ha hb sa sb=>zaR k va vb xs ys P Q w1 hk3 ha hb sa sb)
 rw[hrn]at hl ⊢
 clear hz hs hr hrs hk hrn
 obtain⟨hT,hN,hK,hP1,hP2⟩:=yk h0
 obtain⟨b1,W2,hb1,hW1,X1,GA,GO⟩:=xM g w h
 have HG2:=zh GA; have HO2:=zh GO; have HX2:=zh X1; have H0:=zh h0; have HNN:=zh hn; have hn16:1≤n∧n≤16:=by omega
 unfold grV
 obtain⟨m,hm⟩:∃m,g.prods.length=m:=⟨_,rfl⟩
 have HM:=zh hm
 rw[hm]at hP1 hP2 ⊢
 rw[hm]at hW1
 clear h X1 GA GO h0 hn hm; go_in
 go_upto_region 1 with fail; try simp only[hb1]
 try simp only[hW1]
 clear hb1 hW1
 obtain⟨W3,hW3⟩:∃W,W2.alloc (.cells #[.string tz] 9)=W:=⟨_,rfl⟩
 have HL:=zh (Qa W2 tz)
 obtain⟨tb,htb⟩:∃b,W2.heap.size=b:=⟨_,rfl⟩
 have HX3:Hid (Ext W2 W3):=zh (by rw[←hW3];exact xi)
 rw[hW3,htb]at HL
 go_wp2_with fail; try simp only[hW3,htb]
 clear hW3 htb; have HSE:Hid (yO [tz] (ofL g.gm X zaT (right.take 0))):=zh zg1; go_loopw [7,8] (fun ov iv wr=>∃(i:Nat) (ls:List ByteArray),iv=.int .i64 i∧i≤rn∧Hid (vK wr ov ls)∧Hid (yO ls (ofL g.gm X zaT (right.take i)))∧Hid (Ext W2 wr)) (fun _ iv _=>rn - (intOf iv).toNat)
 case atStart=>exact⟨0,_,rfl,Nat.zero_le _,HL,HSE,HX3⟩
 case round=>
  clear HL HSE HX3
  obtain⟨i,ls,rfl,hi,HO,HS,HX⟩:=hrel
  obtain⟨e0,e1,e2,e3,el⟩:=HG2.out.ext HX.out
  rw[HM.out]at e3
  rw[HKN.out]at e2
  by_cases hlt:i < rn
  ·obtain⟨s,hs⟩:∃s,right[i]?=some s:=⟨_,List.getElem?_eq_getElem (by have:=HRN.out;omega)⟩
   obtain⟨hs0,hs1⟩:=HRS.out s (List.mem_of_getElem? hs)
   obtain⟨rg,ro,hRA,rl,y0⟩:∃b off,R=some ⟨b,off,none⟩∧b < wr.heap.size∧wr.cell? ⟨b,off+i,none⟩=some (.int .i64 s):=by
    obtain⟨b,off,h1,h2,h3⟩:=(HR.out.ext (HX2.out.trans HX.out)) (by have:=HRN.out;omega)
    have h4:=h3 i (by have:=HRN.out;omega)
    rw[List.getD_eq_getElem?_getD,hs]at h4
    exact⟨b,off,h1,h2,h4⟩
   subst hRA; have HT:Hid (right.take (i+1)=right.take i++[s]):=zh (vR hs)
   obtain⟨V1,hV1⟩:∃V,wr.drew=V:=⟨_,rfl⟩
   have x1:Ext wr V1:=by rw[←hV1];exact xi
   have k0:=zy e0 el x1; have k2:=zy e2 el x1; have kl:=Nat.lt_of_lt_of_le el x1.size; have z0:=zy y0 rl x1; have zl:=Nat.lt_of_lt_of_le rl x1.size; have HXV:=zh (HX.out.trans x1); have HOV:=zh (HO.out.ext x1); by_cases hst:s < g.terms
   ·have q1:decide (s < g.terms)=true:=decide_eq_true hst; have q2:IntKind.u8.wrap s=s:=by
     have h1:0≤s:=hs0; have h2:s < 8:=by omega
     simp[IntKind.wrap,IntKind.signed,IntKind.bits]
     omega
    have HSY:Hid (Qf g.gm X s=fun x=>x=[UInt8.ofNat s.toNat]):=zh (by
     unfold Qf; exact if_pos hst)
    have HS8:Hid (0≤s∧s < 8):=zh ⟨hs0,by omega⟩; clear hs hs0 hs1 hst x1; go_upto_region 5 with fail; refine zg (7) (zd [0,1,2,4] (zj [3,5,6] .fin)) (by kernel_rfl) (by kernel_rfl) ?_; (repeat first|refine yq ?_|refine yr ?_)
    refine zv ?_; try simp only[hV1]
    clear hV1 e0 e1 e2 e3 el y0 rl; go_upto_region 6 with fail; refine zg (13) (zd [0,2,3,4,5] (zj [1,6,7] (.step 8 (.step 9 (.step 10 (.step 11 (zd [12] .fin))))))) (by kernel_rfl) (by kernel_rfl) ?_; (repeat first|refine yq ?_|refine yr ?_)
    refine zp fun next hn=>?_;simp only[pick,yp]; go_wp2_with fail; refine zk (fun _=>yZ xi) (hn _ _ ?_); clear hn next k0 k2 kl z0 zl
    obtain⟨bb,hbb⟩:∃bb,V1.heap.size=bb:=⟨_,rfl⟩
    have hB:=heap_alloc_new V1 (.cells #[.int .u8 s] 5)
    rw[hbb]at hB
    obtain⟨V2,hV2⟩:∃V,(V1.alloc (.cells #[.int .u8 s] 5)).drew=V:=⟨_,rfl⟩
    have hB2:V2.heap[bb]?=some (.cells #[.int .u8 s] 5):=by rw[←hV2];exact hB
    have HX3:Hid (Ext V1 V2):=zh (by rw[←hV2];exact xi); have hcv:=run_convert_bytes_arg (P:=Tryz.prog) V2 166 5 Tryz.underlying166 Tryz.underlying5 bb 0 1 1 [s] rfl (fun i hi=>by
     obtain rfl:i=0:=by omega
     exact cr 0 hB2) 9 Tryz.underlying9
    rw[show strOfNums [s]=tbx s from rfl]at hcv
    try simp only[hV2,hbb]
    clear hV2 hbb hB hB2; refine zp fun next hn=>?_;simp only[pick,yp]; go_wp2_with fail; refine zk (fun _=>yZ HX3.out) (hn _ _ ?_); clear hn next hcv; refine zp fun next hn=>?_;simp only[pick,yp]; go_wp2_with fail; refine zk (fun _=>yZ (HX3.out.trans xi)) (hn _ _ ?_); clear hn next; have HT':=zh (Qa V2 (tbx s))
    obtain⟨tb,htb⟩:∃bb,V2.heap.size=bb:=⟨_,rfl⟩
    obtain⟨V3,hV3⟩:∃V,V2.alloc (.cells #[.string (tbx s)] 9)=V:=⟨_,rfl⟩
    have HX4:Hid (Ext V1 V3):=zh (by rw[←hV3];exact HX3.out.trans xi)
    rw[hV3,htb]at HT'
    try simp only[hV3,htb]
    clear hV3 htb; have HC:=zh (HCA.out _ _ _ _ _ _ V3 (HOV.out.ext HX4.out) HT'.out HS.out (ziu HS8.out.1 HS8.out.2)); refine zp fun next hn=>?_;simp only[pick,yp]; go_wp2_with fail; refine HC.out.mono ?_; rintro e' V4 ⟨v4,us,rfl,hv4,hs4,hx4⟩; have HX5:=zh (HX4.out.trans hx4); have HV4:=zh hv4; have HS4:Hid (yO us (ofL g.gm X zaT (right.take (i+1)))):=zh (by
     rw[HT.out,zbr,HSY.out]
     have h1:g.gm.kn=k:=by
      show g.k.toNat=k
      have:=HKN.out
      omega
     rw[h1]
     exact hs4)
    clear hx4 hv4 hs4 HC HT'; go_wp2_with fail; refine zk (fun _=>yZ HX5.out) (hn _ _ ?_); clear hn next; (repeat first|refine yq ?_|refine yr ?_)
    refine zv ?_; go_wp2_with fail; go_roundw
    case rel=>exact⟨i+1,us,by go_num,by omega,HV4,HS4,zh (HXV.out.trans HX5.out)⟩
    case measure=>simp[intOf];omega
   ·have q1:decide (s < g.terms)=false:=decide_eq_false hst
    obtain⟨c,hc⟩:∃c:Nat,s - g.terms=c:=⟨(s - g.terms).toNat,by omega⟩
    have hcn:c < n:=by have:=HNN.out;omega
    have e5:wrap64 (s - g.terms)=(c:Int):=by rw[IntWalk.wrap64_in _ (by omega)];omega
    have e6:IntKind.i64.wrap (s - g.terms)=(c:Int):=by rw[IntWalk.i64_in _ (by omega)];omega
    obtain⟨vz,u0,huz⟩:=(HZ.out.ext (HX2.out.trans HXV.out)).at_ c hcn
    have ul:=(HZ.out.ext (HX2.out.trans HXV.out)).lt; have HSY:Hid (Qf g.gm X s=X (c:Int)):=zh (by
     unfold Qf; have h2:¬s < g.gm.terms:=hst
     rw[if_neg h2,show s - g.gm.terms=(c:Int)from hc])
    have HC:=zh (fun w1 (e:Ext V1 w1)=>HCA.out _ _ _ _ _ _ w1 (HOV.out.ext e) (huz.ext e) HS.out (HSO.out c hcn)); clear hs hs0 hs1 hst x1 hc huz; go_upto_region 5 with fail; refine zg (7) (zd [0,1,2,4] (zj [3,5,6] .fin)) (by kernel_rfl) (by kernel_rfl) ?_; (repeat first|refine yq ?_|refine yr ?_)
    refine zv ?_; try simp only[hV1]
    clear hV1 e0 e1 e2 e3 el y0 rl; go_upto_region 7 with fail; refine zg (15) (zd [0,2,3,4,5,6,8] (zj [1,7,9,10,11,12] (.step 13 (zd [14] .fin)))) (by kernel_rfl) (by kernel_rfl) ?_; (repeat first|refine yq ?_|refine yr ?_)
    refine zp fun next hn=>?_;simp only[pick,yp]; go_wp2_with fail
    refine(HC.out _ xi).mono ?_
    rintro e' V4 ⟨v4,us,rfl,hv4,hs4,hx4⟩; have HX5:Hid (Ext V1 V4):=zh (Ext.trans xi hx4); have HV4:=zh hv4; have HS4:Hid (yO us (ofL g.gm X zaT (right.take (i+1)))):=zh (by
     rw[HT.out,zbr,HSY.out]
     have h1:g.gm.kn=k:=by
      show g.k.toNat=k
      have:=HKN.out
      omega
     rw[h1]
     exact hs4)
    clear hx4 hv4 hs4 HC; go_wp2_with fail; refine zk (fun _=>yZ HX5.out) (hn _ _ ?_); clear hn next k0 k2 kl z0 zl u0 ul; (repeat first|refine yq ?_|refine yr ?_)
    refine zv ?_; go_wp2_with fail; go_roundw
    case rel=>exact⟨i+1,us,by go_num,by omega,HV4,HS4,zh (HXV.out.trans HX5.out)⟩
    case measure=>simp[intOf];omega
  ·obtain rfl:i=rn:=by omega
   have HF:Hid (yO ls (ofS g.gm X right)):=zh (by
    have h1:=HS.out
    rw[List.take_of_length_le (by have:=HRN.out;omega)]at h1
    exact h1)
   go_wp2_with fail; go_ret
   exact⟨_,ls,rfl,HO.out,HF.out,HX2.out.trans HX.out⟩
theorem Vs:(Tryz.prog.info? 122).map (fun i=>(i.zero,i.size,i.bytes))=some (some (.slice none 0 0),1,24):=by kernel_rfl
theorem zbE (w:World)(n:Nat)(m:Int)(hm:m=n)(hn:n≤1000000):
 (Instr.makeSlice 38 (.int .i64 m) (.int .i64 m)).run Tryz.prog w=.ok (.slice (some ⟨w.heap.size,0,none⟩) n n) (w.alloc (.cells (madeCells #[zH] n) 122)):=by
 subst hm
 obtain⟨i3,hi,hz0,hz1,hz2⟩:=info_parts Vs
 have h:=run_makeSlice (P:=Tryz.prog) w 38 122 i3 zH Tryz.underlying38 hi hz0 .i64 .i64 (n:Int) (n:Int) (by omega) (by omega) (by rw[hz1];omega) (by rw[hz2];omega) (by omega)
 rw[hz1,Int.toNat_natCast,Nat.mul_one]at h
 exact h
def XZ (n:Nat)(zs:Nat→List ByteArray)(A:Int):RS:=fun r=>0≤A∧A < n∧r∈(zs A.toNat).map rb
def Jt (n:Nat)(zs:Nat→List ByteArray):Prop:=∀A:Nat,A < n→((zs A).map rb).Nodup∧∀z∈zs A,UR (rb z)
theorem Jt.set {n:Nat}{zs:Nat→List ByteArray}(h:Jt n zs):Vi n zs (XZ n zs):=fun A hA=>⟨(h A hA).1,(h A hA).2,fun r=>by
 unfold XZ
 rw[Int.toNat_natCast]
 exact⟨fun h=>⟨by omega,by omega,h⟩,fun h=>h.2.2⟩⟩
def jr (zs:Nat→List ByteArray)(a:Nat)(us:List ByteArray):Nat→List ByteArray:=fun B=>if B=a then us else zs B
def MZ (n:Nat)(zs:Nat→List ByteArray):Nat:=((List.range n).map fun A=>1000 - (zs A).length).sum
theorem zds (f f':Nat→Nat)(a:Nat)(h:∀B,B≠a→f' B=f B):∀n,(a < n→((List.range n).map f').sum+f a=((List.range n).map f).sum+f' a)∧(n≤a→((List.range n).map f').sum=((List.range n).map f).sum)
 |0=>⟨fun h=>by omega,fun _=>rfl⟩
 |n+1=>by
  obtain⟨h1,h2⟩:=zds f f' a h n
  rw[List.range_succ,List.map_append,List.map_append,List.sum_append,List.sum_append]
  simp only[List.map_cons,List.map_nil,List.sum_cons,List.sum_nil,Nat.add_zero]
  refine⟨fun hlt=>?_,fun hle=>?_⟩
  ·by_cases hn:a=n
   ·subst hn
    rw[h2 (Nat.le_refl _)]
    omega
   ·have:=h1 (by omega)
    rw[h n (fun he=>hn he.symm)]
    omega
  ·rw[h2 (by omega),h n (by omega)]
structure Upd (n:Nat)(zs:Nat→List ByteArray)(a:Nat)(us:List ByteArray)(Q:RS):Prop where
 oks:Jt n (jr zs a us)
 up:∀A r,XZ n zs A r→XZ n (jr zs a us) A r
 new:∀r,Q r→XZ n (jr zs a us) a r
 len:(zs a).length≤us.length
 same:us.length≤(zs a).length→XZ n (jr zs a us)=XZ n zs∧MZ n (jr zs a us)=MZ n zs
 more:(zs a).length < us.length→MZ n (jr zs a us)+1≤MZ n zs
 sound:∀S:Int→RS,(∀A r,XZ n zs A r→S A r)→(∀r,Q r→S a r)→∀A r,XZ n (jr zs a us) A r→S A r
theorem zeh {n:Nat}{zs:Nat→List ByteArray}{a:Nat}{us:List ByteArray}{Q:RS}(h:Jt n zs)(ha:a < n)(hu:yO us (orS (XZ n zs a) Q)):Upd n zs a us Q:=by
 have hz:=h.set a ha; have e1:jr zs a us a=us:=by simp[jr]
 have e2:∀B,B≠a→jr zs a us B=zs B:=fun B hB=>by simp[jr,hB]
 have hsub:∀r∈(zs a).map rb,r∈us.map rb:=fun r hr=>(hu.mem r).2 (.inl ((hz.mem r).1 hr)); have hlen:(zs a).length≤us.length:=by
  have:=jQ hz.once hsub
  simpa using this
 have hup:∀A r,XZ n zs A r→XZ n (jr zs a us) A r:=fun A r ⟨h1,h2,h3⟩=>⟨h1,h2,by
  by_cases hA:A.toNat=a
  ·rw[hA]at h3 ⊢
   rw[e1]
   exact hsub r h3
  ·rw[e2 _ hA]
   exact h3⟩
 have hsum:=fun f f' hff=>(zds f f' a hff n).1 ha
 refine⟨fun B hB=>?_,hup,fun r hr=>⟨by omega,by omega,?_⟩,hlen,fun hle=>⟨?_,?_⟩,fun hlt=>?_,fun S h1 h2 A r ⟨k1,k2,k3⟩=>?_⟩
 ·by_cases hBa:B=a
  ·subst hBa
   rw[e1]
   exact⟨hu.once,hu.few⟩
  ·rw[e2 B hBa]
   exact h B hB
 ·rw[Int.toNat_natCast,e1]
  exact(hu.mem r).2 (.inr hr)
 ·funext A r
  apply propext
  refine⟨fun⟨h1,h2,h3⟩=>⟨h1,h2,?_⟩,hup A r⟩
  by_cases hA:A.toNat=a
  ·rw[hA]at h3 ⊢
   rw[e1]at h3
   exact zcp hz.once hsub (by simpa using hle) r h3
  ·rw[e2 _ hA]at h3
   exact h3
 ·have:=hsum (fun A=>1000 - (zs A).length) (fun A=>1000 - (jr zs a us A).length) (fun B hB=>by rw[e2 B hB])
  simp only[e1]at this
  unfold MZ; omega
 ·have:=hsum (fun A=>1000 - (zs A).length) (fun A=>1000 - (jr zs a us A).length) (fun B hB=>by rw[e2 B hB])
  simp only[e1]at this
  have:=hu.len
  unfold MZ; omega
 ·by_cases hA:A.toNat=a
  ·rw[hA,e1]at k3
   have hAa:A=(a:Int):=by omega
   subst hAa
   rcases(hu.mem r).1 k3 with k|k
   ·exact h1 _ r k
   ·exact h2 r k
  ·rw[e2 _ hA]at k3
   exact h1 A r ⟨k1,k2,k3⟩
structure vf (w:World)(base ob n:Nat)(zs:Nat→List ByteArray):Prop where
 blk:∃cs:List Value,w.heap[ob]?=some (.cells cs.toArray 122)∧cs.length=n∧∀A:Nat,A < n→∃v,cs[A]?=some v∧vK w v (zs A)
 low:base≤ob
section
variable {w w':World}{base ob n:Nat}{zs:Nat→List ByteArray}
theorem vf.ext (h:vf w base ob n zs)(e:Ext w w'):vf w' base ob n zs:=by
 obtain⟨⟨cs,h1,h2,h3⟩,h4⟩:=h
 exact⟨⟨cs,zb h1 e,h2,fun A hA=>by
  obtain⟨v,a,b⟩:=h3 A hA
  exact⟨v,a,b.ext e⟩⟩,h4⟩
theorem vf.rd (h:vf w base ob n zs):VH w ob 0 n zs:=by
 obtain⟨⟨cs,h1,h2,h3⟩,h4⟩:=h
 refine⟨za h1,fun A hA=>?_⟩
 obtain⟨v,a,b⟩:=h3 A hA
 refine⟨v,?_,b⟩
 rw[Nat.zero_add,cr A h1,List.getElem?_toArray]
 exact a
theorem vf.frozen (h:vf w base ob n zs)(k:Nat):w.frozen? ⟨ob,k,none⟩=false:=by
 obtain⟨⟨cs,h1,h2,h3⟩,h4⟩:=h
 exact zi h1 k
theorem vf.put (h:vf w base ob n zs){a:Nat}{u:Value}{us:List ByteArray}(hu:vK w u us):vf (w.setCell ⟨ob,a,none⟩ u) base ob n (jr zs a us):=by
 obtain⟨⟨cs,h1,h2,h3⟩,h4⟩:=h
 have T:zA (fun g=>g=ob) w (w.setCell ⟨ob,a,none⟩ u):=zA.set1 _ _ _; have hne:∀g cs',w.heap[g]?=some (.cells cs' 9)→¬g=ob:=fun g cs' hg he=>zU hg h1 (by decide) he
 refine⟨⟨cs.set a u,by rw[zn h1];congr 2;simp,by rw[List.length_set];exact h2,fun A hA=>?_⟩,h4⟩
 by_cases hAa:A=a
 ·subst hAa
  refine⟨u,by rw[List.getElem?_set_self (by omega)],?_⟩
  rw[show jr zs A us A=us by simp[jr]]
  exact hu.turn T hne
 ·obtain⟨v,k1,k2⟩:=h3 A hA
  refine⟨v,by rw[List.getElem?_set_ne (fun he=>hAa he.symm)];exact k1,?_⟩
  rw[show jr zs a us A=zs A by simp[jr,hAa]]
  exact k2.turn T hne
theorem vf.made (h:w.heap[ob]?=some (.cells (madeCells #[zH] n) 122))(hb:base≤ob):vf w base ob n (fun _=>[]):=
 ⟨⟨List.replicate n zH,by rw[h];congr 2;rw[←Y4],by simp,fun A hA=>⟨zH,by rw[List.getElem?_replicate,if_pos hA],zg7 w⟩⟩,hb⟩
end
theorem Jt.nil (n:Nat):Jt n (fun _=>[]):=fun A _=>⟨by simp,fun z h=>by cases h⟩
theorem zjz (n:Nat):MZ n (fun _=>[])≤1000*n:=by
 unfold MZ; induction n with
 |zero=>simp
 |succ n ih=>
  rw[List.range_succ,List.map_append,List.sum_append]
  simp at ih ⊢
  omega
set_option maxRecDepth 100000 in
set_option maxHeartbeats 2000000 in
theorem zhu (g:Gr)(n k:Nat)(sg so sc:Nat)(zs:Nat→List ByteArray)(X:Int→RS)(R:Option Addr)(rc:Nat)(right:List Int)(w:World)(h:jC w g)(h0:yY g=0)(hn:g.nons=n)(hk:g.k=k)(hz:VH w sg so n zs)(hs:Vi n zs X)(hr:xW w R right)(hl:right.length≤8)(hrs:∀s∈right,0≤s∧s < g.terms+g.nons):
 Calls Tryz.prog 95 #[grV g,.slice (some ⟨sg,so,none⟩) n sc,.slice R right.length rc] w (Qc w (ofS g.gm X right)):=by
 have HOF:=zh (fun w1 (e:Ext w w1)=>zhA g n k sg so sc zs X R rc right w1 (h.ext e) h0 hn hk (hz.ext e) hs (hr.ext e) hl hrs); have HR:=zh hr; have HRS:=zh hrs
 obtain⟨rn,hrn⟩:∃n,right.length=n:=⟨_,rfl⟩
 have HRN:=zh hrn; unfold grV at HOF
 rw[hrn]at hl HOF ⊢
 clear hz hs hr hrs hk hrn
 obtain⟨hT,hN,hK,hP1,hP2⟩:=yk h0
 obtain⟨b1,W1,hb1,hW1,X1,GA,GO⟩:=xM g w h
 have HC:=zh (xL g W1 GO)
 rw[h0]at HC
 have HG:=zh GA; have HO:=zh GO; have HX1:=zh X1; have H0:=zh h0; have HNN:=zh hn; have hn16:1≤n∧n≤16:=by omega
 unfold grV at HC ⊢
 obtain⟨m,hm⟩:∃m,g.prods.length=m:=⟨_,rfl⟩
 have HM:=zh hm
 obtain⟨e0,e1,e2,e3,el⟩:=GA
 rw[hm]at e3 hP1 hP2 HC HOF ⊢
 rw[hm]at hW1
 clear h X1 GO h0 hn hm; go_in
 go_upto_region 1 with fail; try simp only[hb1]
 try simp only[hW1]
 clear hb1 hW1; go_wp2_with fail; refine HC.out.mono ?_; rintro e W2 ⟨rfl,x2⟩; have HX2:=zh (HX1.out.trans x2); have HG2:=zh (HG.out.ext x2); have HO2:=zh (HO.out.ext x2); clear x2 HC e0 e1 e2 e3 el HG HO
 obtain⟨e0,e1,e2,e3,el⟩:=HG2.out
 rw[HM.out]at e3
 rw[HNN.out]at e1
 go_wp2_with fail; clear e0 e1 e2 e3 el; go_loopw [7] (fun iv wr=>∃i:Nat,iv=.int .i64 i∧i≤rn∧Hid (Ext W2 wr)) (fun iv _=>rn - (intOf iv).toNat)
 case atStart=>exact⟨0,rfl,Nat.zero_le _,zh (Ext.refl _)⟩
 case round=>
  obtain⟨i,rfl,hi,HX⟩:=hrel
  obtain⟨e0,e1,e2,e3,el⟩:=HG2.out.ext HX.out
  rw[HM.out]at e3
  by_cases hlt:i < rn
  ·obtain⟨s,hs⟩:∃s,right[i]?=some s:=⟨_,List.getElem?_eq_getElem (by have:=HRN.out;omega)⟩
   obtain⟨hs0,hs1⟩:=HRS.out s (List.mem_of_getElem? hs)
   obtain⟨rg,ro,hRA,rl,y0⟩:∃b off,R=some ⟨b,off,none⟩∧b < wr.heap.size∧wr.cell? ⟨b,off+i,none⟩=some (.int .i64 s):=by
    obtain⟨b,off,h1,h2,h3⟩:=(HR.out.ext (HX2.out.trans HX.out)) (by have:=HRN.out;omega)
    have h4:=h3 i (by have:=HRN.out;omega)
    rw[List.getD_eq_getElem?_getD,hs]at h4
    exact⟨b,off,h1,h2,h4⟩
   subst hRA; have q1:decide (s < 0)=false:=decide_eq_false (by omega); have q2:IntKind.i64.wrap (g.terms+g.nons)=g.terms+g.nons:=IntWalk.i64_in _ (by omega); have q3:decide (g.terms+g.nons≤s)=false:=decide_eq_false (by omega); clear hs hs0 hs1; go_upto_region 6 with fail; refine zg (17) (zd [0,1,2] (zj [3,4,5,6,7,8,9,10,11,12,13,14,15,16] .fin)) (by kernel_rfl) (by kernel_rfl) ?_; (repeat first|refine yq ?_|refine yr ?_)
   refine zv ?_; go_wp2_with fail; go_roundw
   case rel=>exact⟨i+1,by go_num,by omega,zh (HX.out.trans xi)⟩
   case measure=>simp[intOf];omega
  ·obtain rfl:i=rn:=by omega
   have HC:=zh (HOF.out wr (HX2.out.trans HX.out)); go_wp2_with fail; refine HC.out.mono ?_; rintro e W5 ⟨v5,us,rfl,h5,s5,x5⟩; have H5:=zh h5; have S5:=zh s5; have X5:=zh (HX2.out.trans (HX.out.trans x5)); clear h5 s5 x5 HC; go_wp2_with fail; go_ret
   exact⟨v5,us,rfl,H5.out,S5.out,X5.out⟩
def zdG (w:World)(n:Nat)(X:Int→RS)(e:Ending)(w':World):Prop:=∃ob zs,e=.returned (.slice (some ⟨ob,0,none⟩) n n)∧vf w' w.heap.size ob n zs∧Vi n zs X∧Ext w w'
def Zo (g:Gm)(X:Int→RS)(i:Nat):Prop:=∀(j:Nat) (p:Pd),j < i→g.prods[j]?=some p→∀r,ofS g X p.right r→X p.left r
theorem Zo.next {g:Gm}{X:Int→RS}{i:Nat}{p:Pd}(h:Zo g X i)(hp:g.prods[i]?=some p)(hh:∀r,ofS g X p.right r→X p.left r):Zo g X (i+1):=by
 intro j q hj hq; by_cases hji:j=i
 ·subst hji
  rw[hp]at hq
  injection hq with hq; subst hq; exact hh
 ·exact h j q (by omega) hq
theorem zcP {g:Gm}{n m:Nat}{zs:Nat→List ByteArray}(h:Jt n zs)(hs:∀A r,XZ n zs A r→yS g A r)(hc:Zo g (XZ n zs) m)(hm:m=g.prods.length):Vi n zs (yS g):=fun A hA=>(h.set A hA).to fun r=>⟨hs A r,fun hf=>JA (X:=XZ n zs) (fun p hp x hx=>by
 obtain⟨j,hj⟩:=List.mem_iff_getElem?.1 hp
 exact hc j p (by rw[hm];exact(List.getElem?_eq_some_iff.1 hj).1) hj x hx) A r hf⟩
set_option maxRecDepth 100000 in
set_option maxHeartbeats 4000000 in
theorem Va (g:Gr)(n k:Nat)(w:World)(h:jC w g)(h0:yY g=0)(hn:g.nons=n)(hk:g.k=k):Calls Tryz.prog 93 #[grV g] w (zdG w n (yS g.gm)):=by
 have hmk:=fun w=>zbE w n g.nons hn (by have:=yk h0;omega); have HOF:=zh (fun sg so sc zs X R rc right w1 h1 hz hs hr hl hrs=>zhA g n k sg so sc zs X R rc right w1 h1 h0 hn hk hz hs hr hl hrs); unfold grV at HOF; clear hk
 obtain⟨hT,hN,hK,hP1,hP2⟩:=yk h0
 obtain⟨b1,W1,hb1,hW1,X1,GA,GO⟩:=xM g w h
 have HC:=zh (xL g W1 GO)
 rw[h0]at HC
 have HG:=zh GA; have HO:=zh GO; have HX1:=zh X1; have H0:=zh h0; have HNN:=zh hn; have hn16:1≤n∧n≤16:=by omega
 unfold grV at HC ⊢
 obtain⟨m,hm⟩:∃m,g.prods.length=m:=⟨_,rfl⟩
 have HM:=zh hm
 obtain⟨e0,e1,e2,e3,el⟩:=GA
 rw[hm]at e3 hP1 hP2 HC HOF ⊢
 rw[hm]at hW1
 clear h X1 GO h0 hn hm; go_in
 go_upto_region 1 with fail; try simp only[hb1]
 try simp only[hW1]
 clear hb1 hW1; go_wp2_with fail; refine HC.out.mono ?_; rintro e W2 ⟨rfl,x2⟩; have HX2:=zh (HX1.out.trans x2); have HG2:=zh (HG.out.ext x2); have HO2:=zh (HO.out.ext x2); clear x2 HC e0 e1 e2 e3 el HG HO
 obtain⟨e0,e1,e2,e3,el⟩:=HG2.out
 rw[HM.out]at e3
 obtain⟨ob,hob⟩:∃b,W2.heap.size=b:=⟨_,rfl⟩
 obtain⟨V0,hV0⟩:∃V,W2.alloc (.cells (madeCells #[zH] n) 122)=V:=⟨_,rfl⟩
 have HB0:Hid (vf V0 W2.heap.size ob n (fun _=>[])):=zh (by rw[←hV0];exact vf.made (by rw[←hob];exact heap_alloc_new _ _) (by omega)); have HV0:Hid (Ext W2 V0):=zh (by rw[←hV0];exact xi); have HOB:Hid (W2.heap.size≤ob):=zh (by omega); go_upto_region 4 with fail; try simp only[hob]
 try simp only[hV0]
 clear hob hV0 hmk e0 e1 e2 e3 el; go_wp2_with fail; go_loopg [4] (2*MZ n (fun _=>[])+1) (fun gh mv wr=>Hid (ExB fun mb=>∃(zs:Nat→List ByteArray),mv=.bool mb∧Hid (MZ n zs*2+(if mb then 1 else 0)≤gh)∧Hid (vf wr W2.heap.size ob n zs)∧Hid (Jt n zs∧∀A r,XZ n zs A r→yS g.gm A r)∧Hid (mb=false→Zo g.gm (XZ n zs) m)∧Hid (Ext W2 wr)))
 case atStart=>exact zh ⟨true,_,rfl,zh (by simp;omega),HB0,zh ⟨Jt.nil n,fun A r h=>by have:=h.2.2;simp at this⟩,zh (fun h=>by cases h),HV0⟩
 case round=>
  clear HB0 HV0
  obtain⟨mb,zs,rfl,HMS,HB,HS,HCL,HX⟩:=hrel.out
  cases mb with
  |false=>
   have HF:=zh (zcP HS.out.1 HS.out.2 (HCL.out rfl) (by rw[←HM.out];simp[Gr.gm])); go_wp2_with fail; go_ret
   obtain⟨b1,b2⟩:=HB.out
   exact⟨ob,zs,rfl,⟨b1,Nat.le_trans HX2.out.size b2⟩,HF.out,HX2.out.trans HX.out⟩
  |true=>
   go_wp2_with fail; go_loopw [4,5] (fun mv iv wr=>Hid (ExB fun mb=>∃(i:Nat) (zs':Nat→List ByteArray),mv=.bool mb∧iv=.int .i64 i∧i≤m∧Hid (MZ n zs'+(if mb then 1 else 0)≤MZ n zs)∧Hid (vf wr W2.heap.size ob n zs')∧Hid (Jt n zs'∧∀A r,XZ n zs' A r→yS g.gm A r)∧Hid (mb=false→Zo g.gm (XZ n zs') i)∧Hid (Ext W2 wr))) (fun _ iv _=>m - (intOf iv).toNat)
   case atStart=>exact zh ⟨false,0,zs,rfl,rfl,Nat.zero_le _,zh (by simp),HB,HS,zh (fun _ j p hj=>by omega),HX⟩
   case round=>
    clear HB HS HCL HX
    obtain⟨mb,i,zs',rfl,rfl,hi,HCF,HB,HS,HCL,HX⟩:=hrel.out
    obtain⟨e0,e1,e2,e3,el⟩:=HG2.out.ext HX.out
    rw[HM.out]at e3
    by_cases hlt:i < m
    ·obtain⟨p,hp⟩:∃p,g.prods[i]?=some p:=⟨_,List.getElem?_eq_getElem (by have:=HM.out;omega)⟩
     obtain⟨pg,po,hA,pl,d0,d1,PO⟩:=(HO2.out.ext HX.out).prd hp
     have HPI:=zh (je H0.out hp); have HPG:=zh (vO hp)
     obtain⟨bp,W5,hbp,hW5,x5,pc⟩:=Zk p wr
     obtain⟨left,rA,rc,right⟩:=p
     obtain⟨a,rfl⟩:∃a:Nat,left=a:=⟨left.toNat,by have:=HPI.out.left.1;dsimp only at this;omega⟩
     rw[hA]at e3
     dsimp only at d0 d1 hW5 pc; have HPC:=zh pc; have HX5:=zh (HX.out.trans x5); have han:a < n:=by have:=HPI.out.left.2;dsimp only at this;have:=HNN.out;omega
     have HB5:=zh (HB.out.ext x5); have HOS:=zh (fun w1 (e:Ext W5 w1)=>HOF.out ob 0 n zs' (XZ n zs') rA rc right w1 (HO2.out.ext (HX5.out.trans e)) (HB5.out.rd.ext e) HS.out.1.set ((PO.ext (x5.trans e)).right) HPI.out.len HPI.out.sym); clear PO pc hp hA; go_upto_region 11 with fail; try simp only[hbp]
     try simp only[hW5]
     clear hbp hW5 e0 e1 e2 e3 el d0 d1 pl x5
     obtain⟨e0,e1,e2,e3,el⟩:=HG2.out.ext HX5.out
     rw[HM.out]at e3
     obtain⟨c0,c1,cl⟩:=HPC.out _ (Ext.refl _)
     obtain⟨va,q0,hva⟩:=HB5.out.rd.at_ a han
     have ql:=HB5.out.rd.lt
     rw[Nat.zero_add]at q0
     have HVA:=zh hva; clear hva; refine zg (12) (zd [0,1,6,7] (zj [2,3,4,5,8] (.step 9 (.step 10 (zd [11] .fin))))) (by kernel_rfl) (by kernel_rfl) ?_; (repeat first|refine yq ?_|refine yr ?_)
     refine zp fun next hn=>?_;simp only[pick,yp]; go_wp2_with fail
     refine(HOS.out _ xi).mono ?_
     rintro e' Q1 ⟨vo,us,rfl,hvo,hso,hxo⟩; have HXo:Hid (Ext W5 Q1):=zh (Ext.trans xi hxo); have HUN:=zh (Jv _ _ _ _ _ _ Q1 (HVA.out.ext HXo.out) hvo (HS.out.1.set a han) hso); clear hxo hvo hso HOS; go_wp2_with fail; refine zk (fun _=>yZ HXo.out) (hn _ _ ?_); clear hn next; refine zp fun next hn=>?_;simp only[pick,yp]; go_wp2_with fail; refine HUN.out.mono ?_; rintro e' R1 ⟨vu,zu,rfl,hvu,hsu,hxu⟩; have HXu:Hid (Ext W5 R1):=zh (HXo.out.trans hxu)
     obtain⟨A1,k1,rfl⟩:=hvu.size
     have HVU:=zh hvu; have HUP:=zh (zeh HS.out.1 han hsu); clear hvu hsu hxu HUN HXo; go_wp2_with fail; refine zk (fun _=>yZ HXu.out) (hn _ _ ?_); clear hn next e0 e1 e2 e3 el q0 ql c0 c1 cl; (repeat first|refine yq ?_|refine yr ?_)
     refine zv ?_; have HXR:=zh (HX5.out.trans HXu.out); have HBR:=zh (HB5.out.ext HXu.out)
     obtain⟨c0,c1,cl⟩:=HPC.out _ HXu.out
     obtain⟨vb,q0,hvb⟩:=HBR.out.rd.at_ a han
     have ql:=HBR.out.rd.lt; have qf:=HBR.out.frozen a
     rw[Nat.zero_add]at q0
     obtain⟨A2,k2,rfl⟩:=hvb.size
     obtain⟨l1,hl1⟩:∃l,zu.length=l:=⟨_,rfl⟩
     obtain⟨l2,hl2⟩:∃l,(zs' a).length=l:=⟨_,rfl⟩
     obtain⟨W6,hW6⟩:∃W,R1.setCell ⟨ob,a,none⟩ (.slice A1 zu.length k1)=W:=⟨_,rfl⟩
     have HB6:Hid (vf W6 W2.heap.size ob n (jr zs' a zu)):=zh (by rw[←hW6];exact HBR.out.put HVU.out); have HX6:Hid (Ext W2 W6):=zh (by rw[←hW6];exact HXR.out.setCell HOB.out _); have HL1:=zh hl1; have HL2:=zh hl2
     rw[hl1]at hW6
     have HS6:Hid (Jt n (jr zs' a zu)∧∀A r,XZ n (jr zs' a zu) A r→yS g.gm A r):=zh ⟨HUP.out.oks,HUP.out.sound _ HS.out.2 (fun r hr=>Vc.2 ⟨⟨(a:Int),right⟩,List.mem_of_getElem? HPG.out,rfl,Y3 HS.out.2 hr⟩)⟩
     rw[hl1,]
     rw[hl2]at q0
     clear hvb hl1 hl2; by_cases hgr:l2 < l1
     ·have HCF6:Hid (MZ n (jr zs' a zu)+1≤MZ n zs):=zh (by
       have h1:=HUP.out.more (by rw[HL1.out,HL2.out];exact hgr); have h2:=HCF.out; omega)
      have g1:decide ((l2:Int) < (l1:Int))=true:=decide_eq_true (by omega); have g2:decide (l2 < l1)=true:=decide_eq_true hgr; clear hgr; cases mb
      all_goals
       go_wp2_with fail; try simp only[hW6]
       go_roundw
       case rel=>exact zh ⟨true,i+1,_,rfl,by go_num,by omega,HCF6,HB6,HS6,zh (fun h=>by cases h),HX6⟩
       case measure=>simp[intOf];omega
     ·have g1:decide ((l2:Int) < (l1:Int))=false:=decide_eq_false (by omega); have g2:decide (l2 < l1)=false:=decide_eq_false hgr; have HCF6:Hid (MZ n (jr zs' a zu)+(if mb then 1 else 0)≤MZ n zs):=zh (by
       have h1:=(HUP.out.same (by rw[HL1.out,HL2.out];omega)).2
       rw[h1]
       exact HCF.out)
      have HCL6:Hid (mb=false→Zo g.gm (XZ n (jr zs' a zu)) (i+1)):=zh (fun hm=>by
       rw[(HUP.out.same (by rw[HL1.out,HL2.out];omega)).1]
       exact(HCL.out hm).next HPG.out (fun r hr=>by
        have:=HUP.out.new r hr
        rw[(HUP.out.same (by rw[HL1.out,HL2.out];omega)).1]at this
        exact this))
      clear hgr; cases mb
      all_goals
       go_wp2_with fail; try simp only[hW6]
       go_roundw
       case rel=>exact zh ⟨_,i+1,_,rfl,by go_num,by omega,HCF6,HB6,HS6,HCL6,HX6⟩
       case measure=>simp[intOf];omega
    ·obtain rfl:i=m:=by omega
     go_wp2_with fail; go_roundg (MZ n zs'*2+(if mb then 1 else 0))
     case measure=>
      have h1:=HMS.out; have h2:=HCF.out; cases mb<;>simp at h1 h2 ⊢<;>omega
     case rel=>exact zh ⟨mb,zs',rfl,zh (Nat.le_refl _),HB,HS,HCL,HX⟩
end Go.Proofs.YtmbelmngniddjaaGreat
