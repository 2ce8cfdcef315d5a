/- Rf: texts that the proof rests on, part 6. -/
import Derived.Test.YtmbelmngniddjaaGreatRf5
import Derived.Lib.SlicesS
import Derived.Laws.StructEq
namespace Go.Proofs.YtmbelmngniddjaaGreat
open Go.RowKit
attribute [local go_sem] zF zB zI zJ zw zt zN zD zX zQ zK zP zO zL zT zR zS zG zM zC
theorem Zh.cellAt {w:World}{base bb n:Nat}{hs:List Nat}{β:Nat→Nat→Bool}(h:Zh w base bb n hs β){i:Nat}(hi:i < n):∃v,w.cell? ⟨bb,i,none⟩=some v∧bb < w.heap.size∧w.frozen? ⟨bb,i,none⟩=false:=by
 obtain⟨⟨cs,h1,h2,h3⟩,h4,h5,h6⟩:=h
 refine⟨cs[i]'(by omega),?_,za h1,zi h1 i⟩
 rw[cr i h1,List.getElem?_toArray,List.getElem?_eq_getElem]
theorem Zh.of_made {w:World}{base bb n:Nat}(h:w.heap[bb]?=some (.cells (madeCells #[zH] n) 121))(hb:base≤bb):Zh w base bb n [] (fun _ _=>false):=
 ⟨⟨List.replicate n zH,by rw[h];congr 2;rw[←Y4],by simp,fun i h hh=>by simp at hh⟩,fun i h hh=>by simp at hh,fun i j h hh=>by simp at hh,hb⟩
theorem Zh.same {w:World}{base bb n:Nat}{hs:List Nat}{β β':Nat→Nat→Bool}(h:Zh w base bb n hs β)(e:∀i j,β i j=β' i j):Zh w base bb n hs β':=by
 obtain rfl:β=β':=funext fun i=>funext fun j=>e i j; exact h
set_option maxRecDepth 100000 in
set_option maxHeartbeats 2000000 in
theorem zgp (g:Gr)(n:Nat)(w:World)(h:jC w g)(h0:yY g=0)(hn:g.nons=n):Calls Tryz.prog 52 #[grV g] w (zjA w (¬qx g.gm)):=by
 have HNU:=zh (fun w1 h=>Yu g n w1 h h0 hn); have HGO:=zh (YJ h0); have hmk:=fun w=>zch w n g.nons hn (by have:=yk h0;omega); have hmk2:=fun w=>jk w n g.nons hn (by have:=yk h0;omega); unfold grV at HNU
 obtain⟨hT,hN,hK,hP1,hP2⟩:=yk h0
 obtain⟨b1,W1,hb1,hW1,X1,GA,GO⟩:=xM g w h
 have HC:=zh (xL g W1 GO)
 rw[h0]at HC
 have HG:=zh GA; have HO:=zh GO; have HX1:=zh X1; have H0:=zh h0; have HNN:=zh hn; have hn16:1≤n∧n≤16:=by omega
 unfold grV at HC ⊢
 obtain⟨m,hm⟩:∃m,g.prods.length=m:=⟨_,rfl⟩
 have HM:=zh hm
 obtain⟨e0,e1,e2,e3,el⟩:=GA
 rw[hm]at e3 hP1 hP2 HC HNU ⊢
 rw[hm]at hW1
 clear h X1 GO h0 hn hm; go_in
 go_upto_region 1 with fail; try simp only[hb1]
 try simp only[hW1]
 clear hb1 hW1; go_wp2_with fail; refine HC.out.mono ?_; rintro e W2 ⟨rfl,x2⟩; have HX2:=zh (HX1.out.trans x2); have HG2:=zh (HG.out.ext x2); have HO2:=zh (HO.out.ext x2); clear x2 HC e0 e1 e2 e3 el HG HO
 obtain⟨e0,e1,e2,e3,el⟩:=HG2.out
 rw[HM.out]at e3
 go_wp2_with fail
 refine(HNU.out _ HO2.out).mono ?_
 rintro e W3 ⟨nb,ns,rfl,hb,hni,hx3⟩; have HX3:=zh (HX2.out.trans hx3); have HNB:=zh hb; have HNI:=zh hni; have HG3:=zh (HG2.out.ext hx3); have HO3:=zh (HO2.out.ext hx3); clear hb hni hx3 HNU e0 e1 e2 e3 el HG2 HO2
 obtain⟨e0,e1,e2,e3,el⟩:=HG3.out
 rw[HM.out]at e3
 obtain⟨bb,hbb⟩:∃b,W3.heap.size=b:=⟨_,rfl⟩
 obtain⟨V0,hV0⟩:∃V,W3.alloc (.cells (madeCells #[zH] n) 121)=V:=⟨_,rfl⟩
 have HM0:Hid (Zh V0 W3.heap.size bb n [] (fun _ _=>false)):=zh (by rw[←hV0];exact Zh.of_made (by rw[←hbb];exact heap_alloc_new _ _) (by omega)); have HV0:Hid (Ext W3 V0):=zh (by rw[←hV0];exact xi); have HOB:Hid (W3.heap.size≤bb):=zh (by omega); go_upto_region 5 with fail; try simp only[hbb]
 try simp only[hV0]
 clear hbb hV0 hmk e0 e1 e2 e3 el; go_wp2_with fail; go_loopw [6] (fun iv wr=>∃(i:Nat) (hs:List Nat),iv=.int .i64 i∧i≤n∧Hid (hs.length=i)∧Hid (Zh wr W3.heap.size bb n hs (fun _ _=>false))∧Hid (Ext W3 wr)) (fun iv _=>n - (intOf iv).toNat)
 case atStart=>exact⟨0,[],rfl,Nat.zero_le _,zh rfl,HM0,HV0⟩
 case round=>
  clear HM0 HV0
  obtain⟨i,hs,rfl,hi,HL,HB,HX⟩:=hrel
  obtain⟨e0,e1,e2,e3,el⟩:=HG3.out.ext HX.out
  have HNG:=HNN.out; by_cases hlt:i < n
  ·have d1:decide ((i:Int) < g.nons)=true:=decide_eq_true (by omega); clear HNG
   obtain⟨v,q0,ql,qf⟩:=HB.out.cellAt hlt
   obtain⟨x,hx⟩:∃x,wr.heap.size=x:=⟨_,rfl⟩
   obtain⟨V,hV⟩:∃V,wr.alloc (.cells (madeCells #[.bool false] n) 4)=V:=⟨_,rfl⟩
   have xv:Ext wr V:=by rw[←hV];exact xi
   obtain⟨W7,hW7⟩:∃W,V.setCell ⟨bb,i,none⟩ (.slice (some ⟨x,0,none⟩) n n)=W:=⟨_,rfl⟩
   have HB7:Hid (Zh W7 W3.heap.size bb n (hs++[x]) (fun _ _=>false)):=zh ((HB.out.grow HL.out hlt hx (by omega) HX.out.size (by rw[hV];exact hW7)).same (fun i j=>by split<;>rfl)); have HX7:Hid (Ext W3 W7):=zh (by rw[←hW7];exact(HX.out.trans xv).setCell HOB.out _); have HL7:Hid ((hs++[x]).length=i+1):=zh (by rw[List.length_append,HL.out];rfl); have q1:=zy q0 ql xv; have ql1:=Nat.lt_of_lt_of_le ql xv.size; have qf1:V.frozen? ⟨bb,i,none⟩=false:=by
    obtain⟨cs,h1,_,_⟩:=(HB.out.ext xv).out
    exact zi h1 i
   clear q0 ql qf xv; go_wp2_with fail; try simp only[hx]
   try simp only[hV]
   go_wp2_with fail; try simp only[hW7]
   go_roundw
   case rel=>exact⟨i+1,_,by go_num,by omega,HL7,HB7,HX7⟩
   case measure=>simp[intOf];omega
  ·obtain rfl:i=n:=by omega
   have d1:decide ((i:Int) < g.nons)=false:=decide_eq_false (by omega); have HB0:=zh HB.out; have HXX:=zh HX.out; clear HB HX HNG hmk2; go_wp2_with fail; clear e0 e1 e2 e3 el d1; go_loopw [7] (fun iv wr=>∃(j:Nat) (β:Nat→Nat→Bool),iv=.int .i64 j∧j≤m∧Hid (Zh wr W3.heap.size bb i hs β)∧Hid (zaZ g.gm β)∧Hid (Yq g.gm β j)∧Hid (Ext W3 wr)) (fun iv _=>m - (intOf iv).toNat)
   case atStart=>exact⟨0,_,rfl,Nat.zero_le _,HB0,zh (fun i j h=>by cases h),zh (fun j p hj=>by omega),HXX⟩
   case round=>
    clear HB0 HXX
    obtain⟨j,β,rfl,hj,HB,HS,HAL,HX⟩:=hrel
    obtain⟨e0,e1,e2,e3,el⟩:=HG3.out.ext HX.out
    rw[HM.out]at e3
    by_cases hlt:j < m
    ·obtain⟨p,hp⟩:∃p,g.prods[j]?=some p:=⟨_,List.getElem?_eq_getElem (by have:=HM.out;omega)⟩
     obtain⟨pg,po,hA,pl,d0,d1,_⟩:=(HO3.out.ext HX.out).prd hp
     have HPI:=zh (je H0.out hp); have HPG:=zh (vO hp); have HPO:=zh (by
      obtain⟨_,_,_,_,_,_,PO2⟩:=HO3.out.prd hp
      exact PO2)
     obtain⟨bp,W5,hbp,hW5,x5,pc⟩:=Zk p wr
     obtain⟨left,rA,rc,right⟩:=p
     obtain⟨a,rfl⟩:∃a:Nat,left=a:=⟨left.toNat,by have:=HPI.out.left.1;dsimp only at this;omega⟩
     rw[hA]at e3
     dsimp only at d0 d1 hW5 pc; have HPC:=zh pc; have HX5:=zh (HX.out.trans x5); have han:a < i:=by have:=HPI.out.left.2;dsimp only at this;have:=HNN.out;omega
     have HB5:=zh (HB.out.ext x5); have HPL:Hid (∀h∈hs,h < bp):=zh (fun h hh=>by
      obtain⟨q,hq⟩:=List.mem_iff_getElem?.1 hh
      obtain⟨bs,hb,_⟩:=HB.out.rows q h hq
      have:=hb.lt
      omega)
     clear pc hp hA; go_upto_region 13 with fail; try simp only[hbp]
     try simp only[hW5]
     clear hbp hW5 e0 e1 e2 e3 el d0 d1 pl x5; go_wp2_with fail; go_loopw [9] (fun kv wk=>∃(k:Nat) (β:Nat→Nat→Bool),kv=.int .i64 k∧k≤right.length∧Hid (Zh wk W3.heap.size bb i hs β)∧Hid (zaZ g.gm β)∧Hid (Yq g.gm β j)∧Hid (vi g.gm ⟨(a:Int),right⟩ a β k)∧Hid (∀s∈right.take k,g.terms≤s∧Zs g.gm false (s - g.terms))∧Hid (zA (fun x=>x∈hs) W5 wk)∧Hid (Ext W3 wk)) (fun kv _=>right.length - (intOf kv).toNat)
     case atStart=>exact⟨0,β,rfl,Nat.zero_le _,HB5,HS,HAL,zh (fun x B y _ _ h=>by omega),zh (fun s h=>by simp at h),zh (zA.of_ext (Ext.refl _)),HX5⟩
     case round=>
      clear HB5 HS HAL HB HX HX5
      obtain⟨k,β,rfl,hk,HB,HS,HAL,HD,HNL,HT,HX⟩:=hrel
      obtain⟨c0,c1,cl⟩:=HPC.out W5 (Ext.refl _)
      have hbb:=HT.out.block bp cl (fun hh=>by have:=HPL.out bp hh;omega); have c0:=(World.cell?_of_block (w:=W5) (a:=⟨bp,0,none⟩) hbb).trans c0; have c1:=(World.cell?_of_block (w:=W5) (a:=⟨bp,1,none⟩) hbb).trans c1; have cl:=Nat.lt_of_lt_of_le cl HT.out.size; clear hbb
      obtain⟨e0,e1,e2,e3,el⟩:=HG3.out.ext HX.out
      obtain⟨W6,hW6⟩:∃W,wr.drew=W:=⟨_,rfl⟩
      have x6:Ext wr W6:=by rw[←hW6];exact xi
      have HB6:=zh (HB.out.ext x6); have HT6:=zh (HT.out.trans (zA.of_ext x6)); have HX6:=zh (HX.out.trans x6); by_cases hlk:k < right.length
      ·obtain⟨s,hs'⟩:∃s,right[k]?=some s:=⟨_,List.getElem?_eq_getElem hlk⟩
       obtain⟨hs0,hs1⟩:=HPI.out.sym s (List.mem_of_getElem? hs')
       obtain⟨sg,so,hrA,sl,y0⟩:=(HPO.out.ext HX.out).sym hs'
       have HSS:=zh hs'; dsimp only at hrA; have hcap:=HPO.out.cap; have htop:=HPO.out.top; dsimp only at hcap htop
       rw[hrA]at c1
       by_cases hst:s < g.terms
       ·have q1:decide (g.terms≤s)=false:=decide_eq_false (by omega); have HD2:Hid (Yq g.gm β (j+1)):=zh (HAL.out.next HPG.out rfl (HD.out.stop (fun u hu=>by
         have h1:right[k]?=some u:=hu
         rw[HSS.out]at h1
         injection h1 with h1; subst h1; exact hst)))
        clear hs' hrA hst hs0 hs1 x6; go_upto_region 14 with fail; refine zg (15) (zd [0,1] (zj [2,3,4,5,6,7,8,9,10,11,12,13,14] .fin)) (by kernel_rfl) (by kernel_rfl) ?_; (repeat first|refine yq ?_|refine yr ?_)
        refine zv ?_; try simp only[hW6]
        clear hW6; go_wp2_with fail; go_roundw
        case rel=>exact⟨j+1,β,by go_num,by omega,HB6,HS,HD2,HX6⟩
        case measure=>simp[intOf];omega
       ·have q1:decide (g.terms≤s)=true:=decide_eq_true (by omega)
        obtain⟨c,hc⟩:∃c:Nat,s - g.terms=c:=⟨(s - g.terms).toNat,by omega⟩
        have hcn:c < i:=by have:=HNN.out;omega
        have e5:wrap64 (s - g.terms)=(c:Int):=by rw[IntWalk.wrap64_in _ (by omega)];omega
        have e6:IntKind.i64.wrap (s - g.terms)=(c:Int):=by rw[IntWalk.i64_in _ (by omega)];omega
        have HCC:Hid (s - g.terms=c):=zh hc
        obtain⟨z,hz⟩:∃z,hs[a]?=some z:=⟨_,List.getElem?_eq_getElem (by rw[HL.out];exact han)⟩
        obtain⟨y,hy⟩:∃y,ns[c]?=some y:=⟨_,List.getElem?_eq_getElem (by rw[HNB.out.1];exact hcn)⟩
        have HYN:Hid (y=true↔Zs g.gm false (c:Int)):=zh (by have:=HNI.out c;rw[List.getD_eq_getElem?_getD,hy]at this;exact this)
        obtain⟨W7,hW7⟩:∃W,W6.drew=W:=⟨_,rfl⟩
        have x7:Ext W6 W7:=by rw[←hW7];exact xi
        have m7:=HB6.out.ext x7
        obtain⟨z0,z1,z2,z3,z4⟩:=m7.get hz hcn
        have zl:=m7.lt
        obtain⟨W8,hW8⟩:∃W,W7.setCell ⟨z,c,none⟩ (.bool true)=W:=⟨_,rfl⟩
        obtain⟨β',hβ⟩:∃β',(fun j l=>if j=a∧l=c then true else β j l)=β':=⟨_,rfl⟩
        have HB8:Hid (Zh W8 W3.heap.size bb i hs β'):=zh (by rw[←hW8,←hβ];exact m7.put hz hcn true); have hge:∀u v,β u v=true→β' u v=true:=fun u v huv=>by rw[←hβ];dsimp only;split;rfl;exact huv
        have hac:β' a c=true:=by rw[←hβ];dsimp only;rw[if_pos ⟨rfl,rfl⟩]
        have HGE:=zh hge; have HAC:=zh hac; have HX8:Hid (Ext W3 W8):=zh (by rw[←hW8];exact(HX6.out.trans x7).setCell z4 _); have HT8:Hid (zA (fun x=>x∈hs) W5 W8):=zh (by rw[←hW8];exact(HT6.out.trans (zA.of_ext x7)).trans ((zA.set1 z c (.bool true)).wideV (fun g hg=>by rw[hg];exact List.mem_of_getElem? hz))); have HS8:Hid (zaZ g.gm β'):=zh (fun u v huv=>by
         rw[←hβ]at huv
         dsimp only at huv; split at huv
         ·rename_i hh
          obtain⟨rfl,rfl⟩:=hh
          refine⟨by omega,⟨(u:Int),right⟩,List.mem_of_getElem? HPG.out,rfl,right.take k,right.drop (k+1),?_,HNL.out⟩
          have h1:s=g.terms+(v:Int):=by have:=HCC.out;omega
          show right=_; have h2:=List.getElem?_eq_some_iff.1 HSS.out
          obtain⟨h2,h3⟩:=h2
          conv=>lhs;rw[←List.take_append_drop k right,List.drop_eq_getElem_cons h2,h3,h1]
          rfl
         ·exact HS.out u v huv)
        have HAL8:Hid (Yq g.gm β' j):=zh (HAL.out.mono hge); have HD8:Hid (vi g.gm ⟨(a:Int),right⟩ a β' (k+1)):=zh ((HD.out.mono hge).step HSS.out HCC.out hac); have n8:=HNB.out.ext HX8.out; have w0:=n8.get hy; have wl:=n8.lt; have y0':=y0; have f7:Ext wr W6:=x6; have k0:=zy y0 sl x6; have k1:=zy c1 cl x6; have k2:=zy e0 el x6; have ksl:=Nat.lt_of_lt_of_le sl x6.size; have kcl:=Nat.lt_of_lt_of_le cl x6.size; have kel:=Nat.lt_of_lt_of_le el x6.size; have kk0:=zy c0 cl (x6.trans x7); have kkl:=Nat.lt_of_lt_of_le cl (x6.trans x7).size; clear hs' hrA hst hs0 hs1 hc hz hy m7 hge hac n8 x6 f7 x7 hβ; go_upto_region 14 with fail; refine zg (15) (zd [0,1] (zj [2,3,4,5,6,7,8,9,10,11,12,13,14] .fin)) (by kernel_rfl) (by kernel_rfl) ?_; (repeat first|refine yq ?_|refine yr ?_)
        refine zv ?_; try simp only[hW6]
        clear hW6 c0 c1 cl e0 e1 e2 e3 el y0 y0' sl; go_upto_region 16 with fail; refine zg (9) (zd [0,2,5] (zj [1,3,4,6,7,8] .fin)) (by kernel_rfl) (by kernel_rfl) ?_; (repeat first|refine yq ?_|refine yr ?_)
        refine zv ?_; try simp only[hW7]
        clear hW7 k0 k1 k2 ksl kcl kel e5 e6; go_upto_region 18 with fail; try simp only[hW8]
        clear hW8 z0 z1 z2 z3 z4 zl kk0 kkl; cases y with
        |false=>
         have HDA:Hid (Yq g.gm β' (j+1)):=zh (HAL8.out.next HPG.out rfl (HD8.out.break_ HSS.out (fun hh=>by
          have h1:s - g.gm.terms=(c:Int):=HCC.out
          rw[h1]at hh
          have:=HYN.out.2 hh
          cases this)))
         go_wp2_with fail; go_roundw
         case rel=>exact⟨j+1,β',by go_num,by omega,HB8,HS8,HDA,HX8⟩
         case measure=>simp[intOf];omega
        |true=>
         have HNL8:Hid (∀u∈right.take (k+1),g.terms≤u∧Zs g.gm false (u - g.terms)):=zh (fun u hu=>by
          rw[vR HSS.out]at hu
          rcases List.mem_append.1 hu with hu|hu
          ·exact HNL.out u hu
          ·rw[List.mem_singleton]at hu
           subst hu; have h1:=HCC.out
           rw[h1]
           exact⟨by omega,HYN.out.1 rfl⟩)
         go_wp2_with fail; go_roundw
         case rel=>exact⟨k+1,β',by go_num,by omega,HB8,HS8,HAL8,HD8,HNL8,HT8,HX8⟩
         case measure=>simp[intOf];omega
      ·obtain rfl:k=right.length:=by omega
       have HD2:Hid (Yq g.gm β (j+1)):=zh (HAL.out.next HPG.out rfl (HD.out.stop (fun u hu=>by
        have h1:right[right.length]?=some u:=hu
        rw[List.getElem?_eq_none (Nat.le_refl _)]at h1
        cases h1)))
       clear x6; go_upto_region 14 with fail; refine zg (15) (zd [0,1] (zj [2,3,4,5,6,7,8,9,10,11,12,13,14] .fin)) (by kernel_rfl) (by kernel_rfl) ?_; (repeat first|refine yq ?_|refine yr ?_)
       refine zv ?_; try simp only[hW6]
       clear hW6; go_wp2_with fail; go_roundw
       case rel=>exact⟨j+1,β,by go_num,by omega,HB6,HS,HD2,HX6⟩
       case measure=>simp[intOf];omega
    ·obtain rfl:j=m:=by omega
     have HW0:Hid (Qs g.gm β∧zei g.gm i β 0):=zh ⟨fun u v huv=>.one (HS.out u v huv),fun u v hu hv hp=>by
      cases hp with
      |one hb=>exact zjP HAL.out (by rw[←HM.out];simp[Gr.gm]) hb
      |step hb hc _=>have:=hb.1;omega⟩
     have HB0:=zh HB.out; have HXX:=zh HX.out; clear HB HX HS HAL; go_wp2_with fail; clear e0 e1 e2 e3 el; go_loopw [11] (fun mv wr=>∃(q:Nat) (β:Nat→Nat→Bool),mv=.int .i64 q∧q≤i∧Hid (Zh wr W3.heap.size bb i hs β)∧Hid (Qs g.gm β∧zei g.gm i β q)∧Hid (Ext W3 wr)) (fun mv _=>i - (intOf mv).toNat)
     case atStart=>exact⟨0,β,rfl,Nat.zero_le _,HB0,HW0,HXX⟩
     case round=>
      clear HB0 HXX HW0
      obtain⟨q,β0,rfl,hq,HB,HW,HX⟩:=hrel
      obtain⟨e0,e1,e2,e3,el⟩:=HG3.out.ext HX.out
      rw[HNN.out]at e1
      by_cases hlt:q < i
      ·go_wp2_with fail; clear e0 e1 e2 e3 el; go_loopw [12] (fun iv wr=>∃(u:Nat) (β:Nat→Nat→Bool),iv=.int .i64 u∧u≤i∧Hid (Zh wr W3.heap.size bb i hs β)∧Hid (Qs g.gm β∧∀x y,β0 x y=true→β x y=true)∧Hid (∀x y,x < u→y < i→ziO β0 β q x y)∧Hid (Ext W3 wr)) (fun iv _=>i - (intOf iv).toNat)
       case atStart=>exact⟨0,β0,rfl,Nat.zero_le _,HB,zh ⟨HW.out.1,fun _ _ h=>h⟩,zh (fun x y h=>by omega),HX⟩
       case round=>
        clear HB HX
        obtain⟨u,β1,rfl,hu,HB,HW1,HD,HX⟩:=hrel
        obtain⟨e0,e1,e2,e3,el⟩:=HG3.out.ext HX.out
        rw[HNN.out]at e1
        by_cases hlu:u < i
        ·go_wp2_with fail; clear e0 e1 e2 e3 el; go_loopw [13] (fun kv wr=>∃(v:Nat) (β:Nat→Nat→Bool),kv=.int .i64 v∧v≤i∧Hid (Zh wr W3.heap.size bb i hs β)∧Hid (Qs g.gm β∧∀x y,β0 x y=true→β x y=true)∧Hid (∀x y,x < u→y < i→ziO β0 β q x y)∧Hid (∀y,y < v→ziO β0 β q u y)∧Hid (Ext W3 wr)) (fun kv _=>i - (intOf kv).toNat)
         case atStart=>exact⟨0,β1,rfl,Nat.zero_le _,HB,HW1,HD,zh (fun y h=>by omega),HX⟩
         case round=>
          clear HB HX HW1 HD
          obtain⟨v,β2,rfl,hv,HB,HW2,HD,HDK,HX⟩:=hrel
          obtain⟨e0,e1,e2,e3,el⟩:=HG3.out.ext HX.out
          rw[HNN.out]at e1
          by_cases hlv:v < i
          ·obtain⟨zu,hzu⟩:∃z,hs[u]?=some z:=⟨_,List.getElem?_eq_getElem (by rw[HL.out];exact hlu)⟩
           obtain⟨zq,hzq⟩:∃z,hs[q]?=some z:=⟨_,List.getElem?_eq_getElem (by rw[HL.out];exact hlt)⟩
           obtain⟨a0,a1,a2,a3,a4⟩:=HB.out.get hzu hlv
           obtain⟨_,b1',_,_,_⟩:=HB.out.get hzu hlt
           obtain⟨c0,c1,c2,_,_⟩:=HB.out.get hzq hlv
           have bl:=HB.out.lt
           obtain⟨b,hb⟩:∃b,(β2 u v||(β2 u q&&β2 q v))=b:=⟨_,rfl⟩
           obtain⟨W6,hW6⟩:∃W,wr.drew=W:=⟨_,rfl⟩
           have x6:Ext wr W6:=by rw[←hW6];exact xi
           have g1:=zy a1 a2 x6; have g2:=Nat.lt_of_lt_of_le a2 x6.size; have f3:W6.frozen? ⟨zu,v,none⟩=false:=by
            obtain⟨_,_,_,h,_⟩:=(HB.out.ext x6).get hzu hlv
            exact h
           obtain⟨W7,hW7⟩:∃W,W6.setCell ⟨zu,v,none⟩ (.bool b)=W:=⟨_,rfl⟩
           obtain⟨β3,hβ⟩:∃β',(fun j l=>if j=u∧l=v then b else β2 j l)=β':=⟨_,rfl⟩
           have HB7:Hid (Zh W7 W3.heap.size bb i hs β3):=zh (by rw[←hW7,←hβ];exact(HB.out.ext x6).put hzu hlv b); have HX7:Hid (Ext W3 W7):=zh (by rw[←hW7];exact(HX.out.trans x6).setCell a4 _); have hge:∀x y,β2 x y=true→β3 x y=true:=fun x y hxy=>by
            rw[←hβ]
            dsimp only; split
            ·rename_i hh
             obtain⟨rfl,rfl⟩:=hh
             rw[←hb,hxy]
             rfl
            ·exact hxy
           have HW3:Hid (Qs g.gm β3∧∀x y,β0 x y=true→β3 x y=true):=zh ⟨fun x y hxy=>by
            rw[←hβ]at hxy
            dsimp only at hxy; split at hxy
            ·rename_i hh
             obtain⟨rfl,rfl⟩:=hh
             rw[←hb,Bool.or_eq_true,Bool.and_eq_true]at hxy
             rcases hxy with hxy|⟨h1,h2⟩
             ·exact HW2.out.1 _ _ hxy
             ·exact(HW2.out.1 _ _ h1).trans (HW2.out.1 _ _ h2)
            ·exact HW2.out.1 _ _ hxy,fun x y hxy=>hge x y (HW2.out.2 x y hxy)⟩
           have HD3:Hid (∀x y,x < u→y < i→ziO β0 β3 q x y):=zh (fun x y hx hy h1 h2=>hge _ _ (HD.out x y hx hy h1 h2)); have HDK3:Hid (∀y,y < v+1→ziO β0 β3 q u y):=zh (fun y hy h1 h2=>by
            by_cases hyv:y=v
            ·subst hyv
             rw[←hβ]
             dsimp only
             rw[if_pos ⟨rfl,rfl⟩,←hb,HW2.out.2 _ _ h1,HW2.out.2 _ _ h2]
             simp
            ·exact hge _ _ (HDK.out y (by omega) h1 h2))
           obtain⟨t1,ht1⟩:∃t,β2 u v=t:=⟨_,rfl⟩
           obtain⟨t2,ht2⟩:∃t,β2 u q=t:=⟨_,rfl⟩
           obtain⟨t3,ht3⟩:∃t,β2 q v=t:=⟨_,rfl⟩
           rw[ht1]at a1 g1
           rw[ht2]at b1'
           rw[ht3]at c1
           rw[ht1,ht2,ht3]at hb
           clear ht1 ht2 ht3 hge hβ x6 hzu hzq e0 e2 e3; have hgo:True:=trivial; cases t1
           ·cases t2
            ·obtain rfl:false=b:=by rw[←hb];rfl
             clear hb; go_upto_region 28 with fail; refine zg (31) (zd [0,1,2,4,5,6,7,9] (zj [3,8,10,11,12,13,14,15,16,17,18,19,20,21,22,23,24,25,26,27,28,29,30] (.step 31 .fin))) (by kernel_rfl) (by kernel_rfl) ?_; (repeat first|refine yq ?_|refine yr ?_)
             refine zp fun next hn=>?_;simp only[pick,yp]; go_wp2_with fail; refine zk (fun h=>absurd rfl h) (hn _ _ ?_); clear hn next; refine zv ?_; try simp only[hW6]
             try simp only[hW7]
             clear hW6 hW7 a0 a1 a2 a3 b1' c0 c1 c2 f3 g1 g2; go_wp2_with fail; go_roundw
             case rel=>exact⟨v+1,β3,by go_num,by omega,HB7,HW3,HD3,HDK3,HX7⟩
             case measure=>simp[intOf];omega
            ·obtain rfl:t3=b:=by rw[←hb];cases t3<;>rfl
             clear hb; go_upto_region 28 with fail; refine zg (31) (zd [0,1,2,4,5,6,7,9] (zj [3,8,10,11,12,13,14,15,16,17,18,19,20,21,22,23,24,25,26,27,28,29,30] (.step 31 .fin))) (by kernel_rfl) (by kernel_rfl) ?_; (repeat first|refine yq ?_|refine yr ?_)
             refine zp fun next hn=>?_;simp only[pick,yp]; go_wp2_with fail; refine zk (fun h=>absurd rfl h) (hn _ _ ?_); clear hn next; refine zv ?_; try simp only[hW6]
             try simp only[hW7]
             clear hW6 hW7 a0 a1 a2 a3 b1' c0 c1 c2 f3 g1 g2; go_wp2_with fail; go_roundw
             case rel=>exact⟨v+1,β3,by go_num,by omega,HB7,HW3,HD3,HDK3,HX7⟩
             case measure=>simp[intOf];omega
           ·obtain rfl:true=b:=by rw[←hb];rfl
            clear hb; go_upto_region 28 with fail; refine zg (31) (zd [0,1,2,4,5,6,7,9] (zj [3,8,10,11,12,13,14,15,16,17,18,19,20,21,22,23,24,25,26,27,28,29,30] (.step 31 .fin))) (by kernel_rfl) (by kernel_rfl) ?_; (repeat first|refine yq ?_|refine yr ?_)
            refine zp fun next hn=>?_;simp only[pick,yp]; go_wp2_with fail; refine zk (fun h=>absurd rfl h) (hn _ _ ?_); clear hn next; refine zv ?_; try simp only[hW6]
            try simp only[hW7]
            clear hW6 hW7 a0 a1 a2 a3 b1' c0 c1 c2 f3 g1 g2; go_wp2_with fail; go_roundw
            case rel=>exact⟨v+1,β3,by go_num,by omega,HB7,HW3,HD3,HDK3,HX7⟩
            case measure=>simp[intOf];omega
          ·obtain rfl:v=i:=by omega
           go_wp2_with fail; go_roundw
           case rel=>exact⟨u+1,β2,by go_num,by omega,HB,HW2,zh (fun x y hx hy=>by
            by_cases hxu:x=u
            ·subst hxu;exact HDK.out y hy
            ·exact HD.out x y (by omega) hy),HX⟩
           case measure=>simp[intOf];omega
        ·obtain rfl:u=i:=by omega
         go_wp2_with fail; go_roundw
         case rel=>exact⟨q+1,β1,by go_num,by omega,HB,zh ⟨HW1.out.1,HW.out.2.next hlt HW1.out.2 HD.out⟩,HX⟩
         case measure=>simp[intOf];omega
      ·obtain rfl:q=i:=by omega
       have HWF:=zh HW.out; clear HW; go_wp2_with fail; clear e0 e1 e2 e3 el; go_loopw [14] (fun iv wr=>∃u:Nat,iv=.int .i64 u∧u≤q∧Hid (∀x,x < u→β0 x x=false)∧Hid (Zh wr W3.heap.size bb q hs β0)∧Hid (Ext W3 wr)) (fun iv _=>q - (intOf iv).toNat)
       case atStart=>exact⟨0,rfl,Nat.zero_le _,zh (fun x h=>by omega),HB,HX⟩
       case round=>
        clear HB HX
        obtain⟨u,rfl,hu,HNO,HB,HX⟩:=hrel
        obtain⟨e0,e1,e2,e3,el⟩:=HG3.out.ext HX.out
        rw[HNN.out]at e1
        by_cases hlu:u < q
        ·obtain⟨zu,hzu⟩:∃z,hs[u]?=some z:=⟨_,List.getElem?_eq_getElem (by rw[HL.out];exact hlu)⟩
         obtain⟨a0,a1,a2,a3,a4⟩:=HB.out.get hzu hlu
         have bl:=HB.out.lt
         obtain⟨t1,ht1⟩:∃t,β0 u u=t:=⟨_,rfl⟩
         have HT1:=zh ht1
         rw[ht1]at a1
         clear ht1 hzu; cases t1 with
         |true=>
          go_wp2_with fail; exact bodyPost_ret (v:=.tuple #[.int .i64 u,.bool true]) (by simp[results,Tryz.results52,go_sem, *]) rfl ⟨u,true,rfl,⟨fun _ hf=>hf _ (HWF.out.1 u u HT1.out),fun _=>rfl⟩,HX3.out.trans HX.out⟩
         |false=>
          go_wp2_with fail; go_roundw
          case rel=>exact⟨u+1,by go_num,by omega,zh (fun x hx=>by
           by_cases hxu:x=u
           ·subst hxu;exact HT1.out
           ·exact HNO.out x (by omega)),HB,HX⟩
          case measure=>simp[intOf];omega
        ·obtain rfl:u=q:=by omega
         have HLF:Hid (qx g.gm):=zh (fun A hA=>by
          have h1:=hA.inside HGO.out; have h2:A < g.nons:=h1.2; have h3:=HNN.out
          obtain⟨x,rfl⟩:∃x:Nat,A=x:=⟨A.toNat,by omega⟩
          have h4:=HWF.out.2 x x (by omega) (by omega) (hA.pth HGO.out HNN.out)
          rw[HNO.out x (by omega)]at h4
          cases h4)
         go_wp2_with fail; exact bodyPost_ret (v:=.tuple #[.int .i64 0,.bool false]) (by simp[results,Tryz.results52,go_sem, *]) rfl ⟨0,false,rfl,⟨fun h=>(by cases h),fun h=>absurd HLF.out h⟩,HX3.out.trans HX.out⟩
def zjE (w:World)(A:Option Addr)(ls:List ByteArray):Prop:=yI w A (ls.map Value.string)
theorem zjE.ext {w w':World}{A:Option Addr}{ls:List ByteArray}(h:zjE w A ls)(e:Ext w w'):zjE w' A ls:=yI.ext h e
set_option maxRecDepth 100000 in
set_option maxHeartbeats 2000000 in
theorem VB (A:Option Addr)(c:Nat)(ls:List ByteArray)(x:ByteArray)(w:World)(h:zjE w A ls)(hl:ls.length≤1000000)(r:Bool)(hr:r=true↔x∈ls):Calls Tryz.prog 96 #[.slice A ls.length c,.string x] w fun e w'=>e=.returned (.bool r)∧Ext w w':=by
 have H:=zh h; have HR:=zh hr; have HRF:Hid (x∉ls→r=false):=zh (fun hx=>by cases r with|false=>rfl|true=>exact absurd (hr.1 rfl) hx); clear h hr; go_in
 go_wp2_with fail; go_loopw [5] (fun i wr=>∃k:Nat,k≤ls.length∧i=.int .i64 k∧Hid (x∉ls.take k)∧Hid (Ext w wr)) (fun i _=>ls.length - (intOf i).toNat)
 case atStart=>exact⟨0,Nat.zero_le _,rfl,zh (by simp),zh (Ext.refl _)⟩
 case round=>
  obtain⟨k,hk,rfl,hn,hx⟩:=hrel
  by_cases hlt:k < ls.length
  ·obtain⟨b,off,rfl,hb,hc⟩:=(H.out.ext hx.out) (by simp;omega)
   obtain⟨y,hy⟩:∃y,ls[k]?=some y:=⟨_,List.getElem?_eq_getElem hlt⟩
   have x0:=hc k (.string y) (by rw[List.getElem?_map,hy];rfl); have hym:y∈ls:=List.mem_of_getElem? hy; have HT:Hid (ls.take (k+1)=ls.take k++[y]):=zh (by rw[List.take_add_one,hy];rfl); clear hc hy; by_cases hxn:y=x
   ·have HM:Hid (x∈ls):=zh (hxn▸hym); subst hxn; clear hym; go_wp2_with fail; go_ret
    exact⟨yx (HR.out.2 HM.out).symm,hx.out⟩
   ·have HM:Hid (x∉ls.take (k+1)):=zh (by rw[HT.out,List.mem_append];rintro(h|h);exact hn.out h;exact hxn (List.mem_singleton.1 h).symm); have q1:(y.toList==x.toList)=false:=by
     cases hb:(y.toList==x.toList)with
     |false=>rfl
     |true=>exact absurd ((Lib.bytes_beq_iff y x).1 hb) hxn
    have q2:(y==x)=false:=by rw[beq_toListBytes];exact q1
    clear hym; go_wp2_with fail; go_roundw
    case rel=>exact⟨k+1,by omega,by go_num,HM,hx⟩
    case measure=>simp[intOf];omega
  ·obtain rfl:k=ls.length:=by omega
   have HM:Hid (x∉ls):=zh (by have:=hn.out;rwa[List.take_length]at this); go_wp2_with fail; go_ret
   exact⟨yx (HRF.out HM.out).symm,hx.out⟩
end Go.Proofs.YtmbelmngniddjaaGreat
namespace Go.Proofs.YtmbelmngniddjaaGreat
open Go.RowKit Go.Maps
attribute [local go_sem] zF zB zI zJ zw zt zN zD zX zQ zK zP zO zL zT zR zS zG zM zC
theorem zhL:(Tryz.prog.info? 9).map (fun i=>(i.zero,i.size,i.bytes))=some (some (.string ⟨#[]⟩),1,16):=by kernel_rfl
abbrev tz:ByteArray:=⟨#[]⟩
def sv (ls:List ByteArray):List Value:=ls.map Value.string
def zam (w:World)(base:Nat)(v:Value)(ls:List ByteArray):Prop:=w.ownsRow base 9 1 v ls.length (sv ls)
theorem zam.ext {w w':World}{base:Nat}{v:Value}{ls:List ByteArray}(h:zam w base v ls)(e:Ext w w'):zam w' base v ls:=yv h e
def vK (w:World)(v:Value)(ls:List ByteArray):Prop:=∃A c,v=.slice A ls.length c∧zjE w A ls∧(A=none→c=0)∧ls.length≤c∧∀g off s,A=some ⟨g,off,s⟩→∃cs,w.heap[g]?=some (.cells cs 9)
theorem vK.turn {w w':World}{v:Value}{ls:List ByteArray}{S:Nat→Prop}(h:vK w v ls)(t:zA S w w')(hS:∀g cs,w.heap[g]?=some (.cells cs 9)→¬S g):vK w' v ls:=by
 obtain⟨A,c,h1,h2,h3,h4,h5⟩:=h
 refine⟨A,c,h1,fun h0=>?_,h3,h4,fun g off s hA=>?_⟩
 ·obtain⟨g,off,k1,k2,k3⟩:=h2 h0
  obtain⟨cs,hcs⟩:=h5 g off none k1
  have hk:=t.block g k2 (hS g cs hcs)
  exact⟨g,off,k1,Nat.lt_of_lt_of_le k2 t.size,fun k v hv=>(World.cell?_of_block (w:=w) (a:=⟨g,off+k,none⟩) hk).trans (k3 k v hv)⟩
 ·obtain⟨cs,hcs⟩:=h5 g off s hA
  exact⟨cs,t.keep hcs (hS g cs hcs)⟩
theorem vK.ext {w w':World}{v:Value}{ls:List ByteArray}(h:vK w v ls)(e:Ext w w'):vK w' v ls:=h.turn (zA.of_ext (S:=fun _=>False) e) (fun _ _ _ h=>h)
theorem zg7 (w:World):vK w zH []:=⟨none,0,rfl,fun h=>absurd h (by simp),fun _=>rfl,Nat.le_refl _,fun g off s h=>by cases h⟩
theorem zam.reads {w:World}{base:Nat}{v:Value}{ls:List ByteArray}(h:zam w base v ls):vK w v ls:=by
 obtain⟨A,c,h1,h2,h3,h4⟩:=zW h
 refine⟨A,c,h1,h2,h4.2,h3,fun g off s hA=>zZ h g (by rw[h1,hA];rfl)⟩
def YN (w:World)(b n:Nat)(f:List UInt8→Bool):Prop:=
 ∃D:DataW Unit,w.ownsMap Tryz.prog 9 (plainElem Tryz.prog 4) b n D∧IsMap D∧∀x:List UInt8,D.atKey (.string x) (.lit (.bool false))=.lit (.bool (f x))
theorem YN.made (w:World):YN (w.alloc (.map #[] 0)) w.heap.size 0 fun _=>false:=⟨.map [],World.ownsMap_made _ _ _ _,isMap_empty,fun _=>rfl⟩
theorem YN.ext {w w':World}{b n:Nat}{f:List UInt8→Bool}(h:YN w b n f)(e:Ext w w'):YN w' b n f:=by
 obtain⟨D,⟨es,cl,h1,h3⟩,h2⟩:=h
 exact⟨D,⟨es,cl,zb h1 e,h3⟩,h2⟩
theorem YN.obj {w:World}{b n:Nat}{f:List UInt8→Bool}(h:YN w b n f):∃es cl,w.heap[b]?=some (.map es cl):=by
 obtain⟨D,⟨es,cl,h1,h3⟩,h2⟩:=h
 exact⟨es,cl,h1⟩
theorem YN.keep {w w':World}{b n:Nat}{f:List UInt8→Bool}{S:Nat→Prop}(h:YN w b n f)(t:zA S w w')(hS:¬S b):YN w' b n f:=by
 obtain⟨D,⟨es,cl,h1,h3⟩,h2⟩:=h
 exact⟨D,⟨es,cl,(t.block b (za h1) hS).trans h1,h3⟩,h2⟩
theorem zdr (w:World):(zeroValue 4).run Tryz.prog w=.ok (.bool false) w:=by kernel_rfl
set_option maxRecDepth 100000 in
theorem Jm {v:Value}{z:DataW Unit×List MemPlace}(h:plainElem Tryz.prog 4 v=some z):∃a,v=.bool a∧z=(.lit (.bool a),[]):=by
 unfold plainElem at h
 rw[Tryz.underlying4]at h
 cases v<;>simp at h
 exact⟨_,rfl,h.symm⟩
set_option maxRecDepth 100000 in
theorem YN.look {w:World}{b n:Nat}{f:List UInt8→Bool}(h:YN w b n f)(s:ByteArray)(hs:s.size≤maxLen):
 (Instr.lookup 195 (.map (some b)) (.string s) false).run Tryz.prog w=.ok (.bool (f s.data.toList)) w:=by
 obtain⟨D,h3,_,h4⟩:=h
 obtain⟨v,ps,hrun,hv⟩:=h3.lookup jZ Tryz.underlying195 (zdr w) (plainElem_bool Tryz.underlying4 false) (WideMaps.keyOf_string_mk (P:=Tryz.prog) Tryz.underlying9 hs)
 obtain⟨c,rfl,hc⟩:=Jm hv
 simp only[Prod.mk.injEq]at hc
 have h5:=hc.1
 rw[h4]at h5
 injection h5 with h5; injection h5 with h5
 rw[hrun,h5]
set_option maxRecDepth 100000 in
theorem YN.put {w:World}{b n:Nat}{f:List UInt8→Bool}(h:YN w b n f)(hn:n≤1000000000)(s:ByteArray)(hs:s.size≤maxLen):
 ∃w',(Instr.mapUpdate 195 (.map (some b)) (.string s) (.bool true)).run Tryz.prog w=.ok () w'∧YN w' b (n+1) (fun y=>if y=s.data.toList then true else f y)∧zA (fun i=>i=b) w w':=by
 obtain⟨D,h5,h6,h7⟩:=h
 have hn2:n < maxLen:=Nat.lt_of_le_of_lt hn (by unfold maxLen;decide)
 obtain⟨w',hrun,ho,hgr⟩:=h5.update jZ Tryz.underlying195 hn2 (WideMaps.keyOf_string_mk (P:=Tryz.prog) Tryz.underlying9 hs) (plainElem_bool Tryz.underlying4 true)
 refine⟨w',hrun,⟨_,ho,h6.put _ _,fun y=>?_⟩,zA.grown hgr fun i hi _=>by injection hi with hi;exact hi.symm⟩
 dsimp only; by_cases hy:y=s.data.toList
 ·subst hy
  rw[if_pos rfl]
  exact atKey_put_same h6 (by trivial) _ _
 ·rw[if_neg hy]
  exact(atKey_put_other (fun he=>hy (by injection he)) _ _).trans (h7 y)
theorem vq {w:World}{g:Nat}{ls:List ByteArray}{cs:Array Value}(h:w.heap[g]?=some (.cells cs 9))(hc:cs=(sv ls).toArray):yI w (some ⟨g,0,none⟩) (sv ls):=fun _=>⟨g,0,rfl,za h,fun k v hk=>by
 rw[Nat.zero_add,cr k h,hc,List.getElem?_toArray]
 exact hk⟩
theorem qv (w0:World){w:World}{ops:Array Oper}{rest:List Oper}{o:Oper}{a:Act}{Q:Exit→Act→World→Prop}(hw:Region.wanted o (yielded ops a.tmps)=true)(s x:Operand)
 (ho:o.op=.call {callee:=.builtin .append,args:=#[s,x],argTypes:=#[122,122]}) {ls ys:List ByteArray} {v:Value} (hr:zam w w0.heap.size v ls) {A:Option Addr} {c:Nat}
 (hs:a.eval s=v) (hx:a.eval x=.slice A ys.length c) (hA:A=none→c=0) (hc:yI w A (sv ys)) (hlen:ls.length≤1000000) (hy:ys.length≤1000000) (hbase:w0.heap.size≤w.heap.size)
 (h:∀v' w',zam w' w0.heap.size v' (ls++ys)→w.grownBy w' v.ownBlock→(v'.ownBlock=v.ownBlock∨v'.ownBlock=some w.heap.size)→wpList Tryz.prog ops Q rest (a.put o.dst v') w'):wpList Tryz.prog ops Q (o ::rest) a w:=by
 obtain⟨i3,hi,hz0,hz1,hz2⟩:=info_parts zhL
 refine zE w hw s x 122 ho w0.heap.size 9 i3 (.string ⟨#[]⟩) 1 16 Tryz.underlying122 hi hz0 hz1 hz2 rfl (by omega) v ls.length (sv ls) hs hr A ys.length c (sv ys) hx hA (by simp[sv]) hc (fun u hu=>?_) (by unfold maxLen;omega) (by omega) hbase fun v' w' h2 h3 h4=>?_
 ·unfold sv at hu
  obtain⟨t,_,rfl⟩:=List.mem_map.1 hu
  rfl
 ·refine h v' w' ?_ h3 h4; unfold zam sv
  rw[List.length_append,List.map_append]
  exact h2
def JN (f:List UInt8→Bool)(ls:List ByteArray)(x:ByteArray):List ByteArray:=if f x.data.toList then ls else ls++[x]
def QU (f:List UInt8→Bool)(x:ByteArray):List UInt8→Bool:=fun y=>if y=x.data.toList then true else f y
set_option maxRecDepth 100000 in
set_option maxHeartbeats 2000000 in
theorem VP (w0:World)(v:Value)(ls:List ByteArray)(mb n:Nat)(f:List UInt8→Bool)(x:ByteArray)(w:World)(hr:zam w w0.heap.size v ls)(hm:YN w mb n f)(hlow:w0.heap.size≤mb)(hx:Ext w0 w)(hl:ls.length≤1000)(hn:n≤100000000)(hs:x.size≤1000):
 Calls Tryz.prog 123 #[v,.map (some mb),.string x] w fun e w'=>∃v' k,e=.returned v'∧zam w' w0.heap.size v' (JN f ls x)∧YN w' mb k (QU f x)∧k≤n+1∧Ext w0 w':=by
 have hs':x.size≤maxLen:=by unfold maxLen;omega
 have hlk:=hm.look x hs'; cases hfx:f x.data.toList with
 |true=>
  rw[hfx]at hlk
  have HR:=zh hr; have HM:=zh hm; have HX:=zh hx; have HF:=zh hfx; clear hr hm hx hfx; go_in
  go_wp2_with fail; go_ret
  refine⟨v,n,rfl,by unfold JN;rw[HF.out];exact HR.out,?_,by omega,HX.out⟩
  have:QU f x=f:=by
   funext y
   unfold QU; split
   ·subst y;exact HF.out.symm
   ·rfl
  rw[this]
  exact HM.out
 |false=>
  rw[hfx]at hlk
  obtain⟨w1,hrun,hm1,ht1⟩:=hm.put (by omega) x hs'
  have hr1:zam w1 w0.heap.size v ls:=ye hr fun k hk=>ht1.block k (z8 hr k hk) (fun he=>by
   obtain⟨cur,hcur⟩:=zZ hr k hk
   obtain⟨es,cl,ho⟩:=hm.obj
   subst he
   rw[ho]at hcur
   cases hcur)
  have HR:=zh hr1; have HM:=zh hm1; have HX:=zh (ht1.ext hx (fun k hk=>by omega)); have HF:=zh hfx; have HL:Hid (ls.length≤1000):=zh hl; clear hr hm hx hr1 hm1 ht1 hfx
  obtain⟨A,c,hv,_⟩:=zW HR.out
  have HV:=zh hv; clear hv; go_in
  go_wp2_with (at_builtin;refine qv w0 (by rfl) (.tmp 13) (.tmp 15) rfl (ys:=[x]) (HR.out.ext xi) rfl rfl (fun h=>by cases h) (vq (ls:=[x]) (heap_alloc_new w1 (.cells #[.string x] 9)) rfl) (by have:=HL.out;omega) (by simp) (by have:=HX.out.size;simp<;>omega) ?_;intro v4 w4 hr4 hg4 hat4)
  go_ret
  refine⟨v4,n+1,rfl,by unfold JN;rw[HF.out];exact hr4,?_,Nat.le_refl _,(HX.out.trans (xi:Ext w1 (w1.alloc (.cells #[.string x] 9)))).grown hg4 (fun g hg=>zV HR.out g hg)⟩
  refine(HM.out.ext (xi:Ext w1 (w1.alloc (.cells #[.string x] 9)))).keep (zA.grown (S:=fun g=>v.ownBlock=some g) hg4 (fun g hg _=>hg)) (fun hh=>?_)
  obtain⟨cur,hcur⟩:=zZ HR.out mb hh
  obtain⟨es,cl,ho⟩:=HM.out.obj
  rw[ho]at hcur
  cases hcur
def rb (a:ByteArray):Row:=a.data.toList
theorem jB (a:ByteArray):(rb a).length=a.size:=by
 rw[rb,Array.length_toList]
 rfl
set_option maxRecDepth 100000 in
theorem zhx (a b:ByteArray):rb (a++b)=rb a++rb b:=by simp[rb,ByteArray.data_append]
set_option maxRecDepth 100000 in
theorem zdj (a:ByteArray)(k:Nat):rb (a.extract 0 k)=(rb a).take k:=by simp[rb,ByteArray.data_extract,Array.toList_extract,List.extract]
theorem zhv {a b:ByteArray}(h:rb a=rb b):a=b:=by
 cases a; cases b; simp only[rb]at h
 rw[Array.toList_inj.1 h]
theorem zir {a:ByteArray}(h:a.size - 1 < a.size):(rb a).getLast?=some (a[a.size - 1]'h):=by
 rw[List.getLast?_eq_getElem?,jB]
 unfold rb
 rw[Array.getElem?_toList,Array.getElem?_eq_getElem (show a.size - 1 < a.data.size from h)]
 rfl
theorem Yk (a:ByteArray):a.toList.isEmpty=decide (a.size=0):=by
 rw[ByteArray.toList_eq,Bool.eq_iff_iff,List.isEmpty_iff_length_eq_zero,decide_eq_true_iff,Array.length_toList]
 exact Iff.rfl
theorem Vk {k:Nat}{a:ByteArray}(h:k≤a.size):qC k (rb a)=true:=qM.2 (.inl (by rw[jB];exact h))
theorem Q8 {k:Nat}{a:ByteArray}(h:a.size < k)(h0:a.size=0):qC k (rb a)=false:=vP.2 ⟨by rw[jB];exact h,by
 have:rb a=[]:=List.length_eq_zero_iff.1 (by rw[jB];exact h0)
 rw[this]
 simp⟩
theorem QI {k:Nat}{a:ByteArray}(h:a.size < k)(h0:a.size - 1 < a.size):qC k (rb a)=((a[a.size - 1]'h0)==255):=by
 rw[Bool.eq_iff_iff,qM,jB,zir h0]
 simp only[beq_iff_eq,Option.some.injEq]
 constructor
 ·rintro(h|h)
  ·omega
  ·exact h
 ·exact .inr
theorem zeO (x:UInt8):(((x.toNat:Nat):Int) !=255)= !(x==255):=by
 rw[Bool.eq_iff_iff]
 simp only[bne_iff_ne,ne_eq,Bool.not_eq_true',beq_eq_false_iff_ne]
 constructor
 ·intro h he; subst he; exact h rfl
 ·intro h he; apply h
  apply UInt8.toNat_inj.1
  show x.toNat=255; omega
theorem zeC (x:UInt8):(((x.toNat:Nat):Int)==255)=(x==255):=by
 have:=zeO x
 simp only[bne]at this
 exact Bool.not_inj this
set_option maxRecDepth 100000 in
set_option maxHeartbeats 2000000 in
theorem zb9 (k:Nat)(a b:ByteArray)(w:World)(ha:a.size≤1000)(hb:b.size≤1000)(hk:k≤1000):Calls Tryz.prog 124 #[.int .i64 k,.string a,.string b] w fun e w'=>∃c,e=.returned (.string c)∧rb c=xK k (rb a) (rb b)∧Ext w w':=by
 by_cases h1:a.size < k
 ·have q1:decide ((a.size:Int) < (k:Int))=true:=decide_eq_true (by omega); by_cases h2:a.size=0
  ·have q2:a.toList.isEmpty=true:=by rw[Yk,h2];rfl
   have HJ:Hid (xK k (rb a) (rb b)=(rb (a++b)).take k):=zh (by rw[qI (Q8 h1 h2),zhx]); clear h2; by_cases h4:k < (a++b).size
   ·have q5:decide ((k:Int) < ((a++b).size:Int))=true:=decide_eq_true (by omega); have q6:decide (k < (a++b).size)=true:=decide_eq_true h4; have HR:Hid (rb ((a++b).extract 0 k)=xK k (rb a) (rb b)):=zh (by rw[zdj,HJ.out]); have q7:decide ((k:Int) < (a.size:Int)+(b.size:Int))=decide (k < (a++b).size):=by rw[decide_eq_decide,ByteArray.size_append];omega
    rw[q6]at q7
    go_in
    go_wp2_with fail; go_ret
    exact⟨_,rfl,HR.out,Ext.refl _⟩
   ·have q5:decide ((k:Int) < ((a++b).size:Int))=false:=decide_eq_false (by omega); have q6:decide (k < (a++b).size)=false:=decide_eq_false h4; have HR:Hid (rb (a++b)=xK k (rb a) (rb b)):=zh (by rw[HJ.out,List.take_of_length_le (by rw[jB];omega)]); have q7:decide ((k:Int) < (a.size:Int)+(b.size:Int))=decide (k < (a++b).size):=by rw[decide_eq_decide,ByteArray.size_append];omega
    rw[q6]at q7
    go_in
    go_wp2_with fail; go_ret
    exact⟨_,rfl,HR.out,Ext.refl _⟩
  ·have q2:a.toList.isEmpty=false:=by rw[Yk];simp[h2]
   have q3:a.size - 1 < a.size:=by omega
   have q8:0 < a.size:=by omega
   have hw:=QI h1 q3; have hbn:=zeO (a[a.size - 1]'q3)
   rw[←hw]at hbn
   obtain⟨wh,hwh⟩:∃b,qC k (rb a)=b:=⟨_,rfl⟩
   rw[hwh]at hbn
   clear hw h2; cases wh with
   |false=>
    have HJ:Hid (xK k (rb a) (rb b)=(rb (a++b)).take k):=zh (by rw[qI hwh,zhx]); clear hwh; simp only[Bool.not_false]at hbn
    by_cases h4:k < (a++b).size
    ·have q5:decide ((k:Int) < ((a++b).size:Int))=true:=decide_eq_true (by omega); have q6:decide (k < (a++b).size)=true:=decide_eq_true h4; have HR:Hid (rb ((a++b).extract 0 k)=xK k (rb a) (rb b)):=zh (by rw[zdj,HJ.out]); have q7:decide ((k:Int) < (a.size:Int)+(b.size:Int))=decide (k < (a++b).size):=by rw[decide_eq_decide,ByteArray.size_append];omega
     rw[q6]at q7
     go_in
     go_wp2_with fail; go_ret
     exact⟨_,rfl,HR.out,Ext.refl _⟩
    ·have q5:decide ((k:Int) < ((a++b).size:Int))=false:=decide_eq_false (by omega); have q6:decide (k < (a++b).size)=false:=decide_eq_false h4; have HR:Hid (rb (a++b)=xK k (rb a) (rb b)):=zh (by rw[HJ.out,List.take_of_length_le (by rw[jB];omega)]); have q7:decide ((k:Int) < (a.size:Int)+(b.size:Int))=decide (k < (a++b).size):=by rw[decide_eq_decide,ByteArray.size_append];omega
     rw[q6]at q7
     go_in
     go_wp2_with fail; go_ret
     exact⟨_,rfl,HR.out,Ext.refl _⟩
   |true=>
    have HJ:Hid (xK k (rb a) (rb b)=(rb a).take k):=zh (by rw[xh hwh]); clear hwh; simp only[Bool.not_true]at hbn
    have h4:¬k < a.size:=by omega
    have q6:decide (k < a.size)=false:=decide_eq_false h4; have q5:decide ((k:Int) < (a.size:Int))=false:=decide_eq_false (by omega); have HR:Hid (rb a=xK k (rb a) (rb b)):=zh (by rw[HJ.out,List.take_of_length_le (by rw[jB];omega)]); go_in
    go_wp2_with fail; go_ret
    exact⟨_,rfl,HR.out,Ext.refl _⟩
 ·have q1:decide ((a.size:Int) < (k:Int))=false:=decide_eq_false (by omega); have HJ:Hid (xK k (rb a) (rb b)=(rb a).take k):=zh (by rw[xh (Vk (by omega))]); by_cases h4:k < (a).size
  ·have q5:decide ((k:Int) < ((a).size:Int))=true:=decide_eq_true (by omega); have q6:decide (k < (a).size)=true:=decide_eq_true h4; have HR:Hid (rb ((a).extract 0 k)=xK k (rb a) (rb b)):=zh (by rw[zdj,HJ.out]); go_in
   go_wp2_with fail; go_ret
   exact⟨_,rfl,HR.out,Ext.refl _⟩
  ·have q5:decide ((k:Int) < ((a).size:Int))=false:=decide_eq_false (by omega); have q6:decide (k < (a).size)=false:=decide_eq_false h4; have HR:Hid (rb (a)=xK k (rb a) (rb b)):=zh (by rw[HJ.out,List.take_of_length_le (by rw[jB];omega)]); go_in
   go_wp2_with fail; go_ret
   exact⟨_,rfl,HR.out,Ext.refl _⟩
set_option maxRecDepth 100000 in
set_option maxHeartbeats 1000000 in
theorem VC (v:Value)(ls:List ByteArray)(w:World)(h:vK w v ls)(hl:ls.length < 2):Calls Tryz.prog 125 #[v] w fun e w'=>e=.returned v∧Ext w w':=by
 obtain⟨A,c,rfl,_⟩:=h
 obtain⟨n,hn⟩:∃n,ls.length=n:=⟨_,rfl⟩
 rw[hn]at hl ⊢
 clear hn; have q:decide ((n:Int) < 2)=true:=by simp;omega
 have q':decide (n < 2)=true:=by simp;omega
 go_in
 go_wp2_with fail; go_ret
 exact⟨rfl,Ext.refl _⟩
theorem vK.cells {w:World}{A:Option Addr}{n c:Nat}{ls:List ByteArray}(h:vK w (.slice A n c) ls):n=ls.length∧yI w A (sv ls)∧(A=none→c=0)∧n≤c:=by
 obtain⟨A',c',h1,h2,h3,h4,_⟩:=h
 injection h1 with a1 a2 a3; subst a1 a2 a3
 exact⟨rfl,h2,h3,h4⟩
theorem vK.sub {w:World}{g og n c:Nat}{ls:List ByteArray}(h:vK w (.slice (some ⟨g,og,none⟩) n c) ls)(i m:Nat)(hi:i+m≤n):vK w (.slice (some ⟨g,og+i,none⟩) m (c - i)) ((ls.drop i).take m):=by
 obtain⟨A',c',h1,h2,h3,h4,h5⟩:=h
 injection h1 with a1 a2 a3; subst a1 a2 a3; have hl:((ls.drop i).take m).length=m:=by rw[List.length_take,List.length_drop];omega
 refine⟨_,_,by rw[hl],fun h0=>?_,(fun h=>by cases h),by rw[hl];omega,fun g' off' s' h=>?_⟩
 ·rw[List.length_map,hl]at h0
  obtain⟨b,off,e,hb,hc⟩:=h2 (by rw[List.length_map];omega)
  injection e with e; injection e with e1 e2; subst e1 e2
  refine⟨g,og+i,rfl,hb,fun k u hk=>?_⟩
  have:=hc (i+k) u (by
   have hk':=hk
   rw[List.getElem?_map]at hk' ⊢
   have hkm:k < m:=by
    have h1:=(List.getElem?_eq_some_iff.1 hk).1
    rw[List.length_map,hl]at h1
    exact h1
   rw[List.getElem?_take_of_lt hkm,List.getElem?_drop]at hk'
   exact hk')
  rwa[←Nat.add_assoc]at this
 ·injection h with h; injection h with h _; subst h; exact h5 g og none rfl
theorem vK.get {w:World}{A:Option Addr}{n c:Nat}{ls:List ByteArray}(h:vK w (.slice A n c) ls){k:Nat}{x:ByteArray}(hk:ls[k]?=some x):∃g og,A=some ⟨g,og,none⟩∧g < w.heap.size∧w.cell? ⟨g,og+k,none⟩=some (.string x):=by
 obtain⟨rfl,h2,_,_⟩:=h.cells
 have hlt:=(List.getElem?_eq_some_iff.1 hk).1
 obtain⟨b,off,e,hb,hc⟩:=h2 (by simp[sv];omega)
 exact⟨b,off,e,hb,hc k _ (by rw[sv,List.getElem?_map,hk];rfl)⟩
theorem vK.size {w:World}{v:Value}{ls:List ByteArray}(h:vK w v ls):∃A c,v=.slice A ls.length c:=by
 obtain⟨A,c,h1,_⟩:=h
 exact⟨A,c,h1⟩
def zix (w:World)(ls:List ByteArray)(e:Ending)(w':World):Prop:=∃v zs,e=.returned v∧vK w' v zs∧zs.Perm ls∧Ext w w'
theorem Vt {x:ByteArray}{os xs ys ls:List ByteArray}(h:(os++(x ::xs)++ys).Perm ls):((os++[x])++xs++ys).Perm ls:=by
 rw[List.append_assoc os [x] xs]
 exact h
theorem zb0 {y:ByteArray}{os xs ys ls:List ByteArray}(h:(os++xs++(y ::ys)).Perm ls):((os++[y])++xs++ys).Perm ls:=by
 refine List.Perm.trans ?_ h
 rw[List.append_assoc (os++[y]),List.append_assoc os [y],List.append_assoc os xs]
 refine List.Perm.append_left _ ?_
 exact(List.perm_middle (a:=y) (l₁:=xs) (l₂:=ys)).symm
set_option maxRecDepth 100000 in
set_option maxHeartbeats 2000000 in
theorem zcL:∀(N:Nat) (v:Value) (ls:List ByteArray) (w:World),vK w v ls→ls.length≤N→N≤100000→Calls Tryz.prog 125 #[v] w (zix w ls):=by
 intro N; induction N with
 |zero=>
  intro v ls w h hl _
  have:=VC v ls w h (by omega)
  exact this.mono (fun e w' ⟨h1,h2⟩=>⟨v,ls,h1,h.ext h2,List.Perm.refl _,h2⟩)
 |succ N ih=>
  intro v ls w h hl hN; by_cases h2:ls.length < 2
  ·have:=VC v ls w h h2
   exact this.mono (fun e w' ⟨h1,h2⟩=>⟨v,ls,h1,h.ext h2,List.Perm.refl _,h2⟩)
  ·obtain⟨n,hn⟩:∃n,ls.length=n:=⟨_,rfl⟩
   obtain⟨x0,hx0⟩:∃x,ls[0]?=some x:=⟨_,List.getElem?_eq_getElem (by omega)⟩
   obtain⟨A,c,rfl⟩:=h.size
   obtain⟨g,og,rfl,_,_⟩:=h.get hx0
   obtain⟨_,_,_,hcc⟩:=h.cells
   rw[hn]at h h2 hl hcc ⊢
   obtain⟨m,hm⟩:∃m,n / 2=m:=⟨_,rfl⟩
   have hmn:1≤m∧m < n:=by omega
   have s1:=h.sub 0 m (by omega); have s2:=h.sub m (n - m) (by omega)
   rw[List.drop_zero]at s1
   have hl1:(ls.take m).length=m:=by rw[List.length_take];omega
   have hl2:((ls.drop m).take (n - m)).length=n - m:=by rw[List.length_take,List.length_drop];omega
   have HC1:=zh (fun w1 (e:Ext w w1)=>ih _ _ w1 (s1.ext e) (by omega) (by omega)); have HC2:=zh (fun w1 (e:Ext w w1)=>ih _ _ w1 (s2.ext e) (by omega) (by omega)); have HPM:Hid (∀xs ys:List ByteArray,xs.Perm (ls.take m)→ys.Perm ((ls.drop m).take (n - m))→(([]:List ByteArray)++xs++ys).Perm ls):=zh (fun xs ys h1 h2=>by
    rw[List.nil_append]
    refine(h1.append h2).trans ?_
    rw[List.take_of_length_le (l:=ls.drop m) (by rw[List.length_drop];omega),List.take_append_drop])
   have HNL:Hid (ls.length=n):=zh hn; have q1:decide ((n:Int) < 2)=false:=decide_eq_false (by omega); have q2:Int.tdiv (n:Int) 2=(m:Int):=by rw[Int.tdiv_eq_ediv_of_nonneg (by omega)];omega
   have q3:(n:Int) / 2=(m:Int):=by omega
   have q4:m≤c:=by omega
   have q5:m≤n:=by omega
   have HMN:=zh hmn; clear h hx0 hl1 hl2 s1 s2 ih hn; go_in
   go_upto_region 3 with fail; refine zg (14) (zd [0,1,2,3,4,6,7,8,9,10] (.step 5 (.step 11 (zd [12,13] .fin)))) (by kernel_rfl) (by kernel_rfl) ?_; (repeat first|refine yq ?_|refine yr ?_)
   refine zp fun next hn=>?_;simp only[pick,yp]; go_wp2_with fail
   refine(HC1.out _ xi).mono ?_
   rintro e W2 ⟨va,xs,rfl,hva,hp1,hx1⟩; have HX2:Hid (Ext w W2):=zh (Ext.trans xi hx1); have HVA:=zh hva; have HP1:=zh hp1; clear hva hp1 hx1 HC1; go_wp2_with fail; refine zk (fun _=>yZ HX2.out) (hn _ _ ?_); clear hn next; refine zp fun next hn=>?_;simp only[pick,yp]; go_wp2_with fail
   refine(HC2.out _ HX2.out).mono ?_
   rintro e W3 ⟨vb,ys,rfl,hvb,hp2,hx2⟩; have HX3:Hid (Ext w W3):=zh (HX2.out.trans hx2); have HVA3:=zh (HVA.out.ext hx2); have HVB:=zh hvb; have HP:=zh (HPM.out xs ys HP1.out hp2); clear hvb hp2 hx2 HC2 HVA HP1 HPM HX2; go_wp2_with fail; refine zk (fun _=>yZ HX3.out) (hn _ _ ?_); clear hn next; (repeat first|refine yq ?_|refine yr ?_)
   refine zv ?_; have HXV:=zh HX3.out; have HVA0:=zh HVA3.out; have HVB0:=zh HVB.out; clear HVA3 HVB HX3 q1 q2 q3 q4 q5 hmn hcc; go_wp2_with fail; go_loopg [3,4,5] (xs.length+ys.length) (fun gh av bv ov wr=>∃(xs ys os:List ByteArray),Hid (vK W3 av xs)∧Hid (vK W3 bv ys)∧Hid (zam wr W3.heap.size ov os)∧Hid ((os++xs++ys).Perm ls)∧Hid (xs.length+ys.length≤gh)∧Hid (Ext W3 wr))
   case atStart=>exact⟨xs,ys,[],HVA0,HVB0,zh (World.ownsRow_nil _ _ _ _),HP,zh (Nat.le_refl _),zh (Ext.refl _)⟩
   case round=>
    clear HVA0 HVB0 HP xs ys
    obtain⟨xs,ys,os,HA,HB,HO,HP,HG,HXR⟩:=hrel
    obtain⟨A1,c1,rfl⟩:=HA.out.size
    obtain⟨A2,c2,rfl⟩:=HB.out.size
    have HLEN:Hid (os.length≤100000∧xs.length≤100000∧ys.length≤100000∧(os++xs).length≤100000):=zh (by
     have:=HP.out.length_eq
     simp only[List.length_append]at this ⊢
     have:=HNL.out
     omega)
    have HAR:=zh (HA.out.ext HXR.out); have HBR:=zh (HB.out.ext HXR.out); have HOL:Hid (os.length≤1000000):=zh (by have:=HLEN.out;omega)
    obtain⟨n1,hn1⟩:∃k,xs.length=k:=⟨_,rfl⟩
    obtain⟨n2,hn2⟩:∃k,ys.length=k:=⟨_,rfl⟩
    have HN1:=zh hn1; have HN2:=zh hn2; have HAR:=zh (HAR.out)
    rw[hn1,hn2]
    clear hn1 hn2; by_cases hx0:n1=0
    ·subst hx0; go_wp2_with (first|(at_builtin;refine qv W3 (by rfl) (.tmp 53) (.tmp 54) rfl (ys:=xs) HO.out rfl (by rw[HN1.out];rfl) (HAR.out.cells.2.2.1) (HAR.out.cells.2.1) HOL.out (by have:=HLEN.out;omega) (by have:=HXR.out.size;omega) ?_;intro v5 w5 hr5 hg5 hat5;have HX5:Hid (Ext W3 w5):=zh (HXR.out.grown hg5 (fun g hg=>zV HO.out g hg));have HB5:=zh (HB.out.ext HX5.out);have HR5:=zh hr5;clear hr5 hg5 hat5)|(at_builtin;refine qv W3 (by rfl) (.tmp 55) (.tmp 56) rfl (ys:=ys) HR5.out rfl (by rw[HN2.out];rfl) (HB5.out.cells.2.2.1) (HB5.out.cells.2.1) (by have:=HLEN.out;omega) (by have:=HLEN.out;omega) (by have:=HX5.out.size;omega) ?_;intro v6 w6 hr6 hg6 hat6;have HX6:Hid (Ext W3 w6):=zh (HX5.out.grown hg6 (fun g hg=>zV HR5.out g hg));have HR6:=zh hr6;clear hr6 hg6 hat6))
     go_ret
     exact⟨v6,_,rfl,HR6.out.reads,HP.out,HXV.out.trans HX6.out⟩
    ·by_cases hy0:n2=0
     ·subst hy0; go_wp2_with (first|(at_builtin;refine qv W3 (by rfl) (.tmp 53) (.tmp 54) rfl (ys:=xs) HO.out rfl (by rw[HN1.out];rfl) (HAR.out.cells.2.2.1) (HAR.out.cells.2.1) HOL.out (by have:=HLEN.out;omega) (by have:=HXR.out.size;omega) ?_;intro v5 w5 hr5 hg5 hat5;have HX5:Hid (Ext W3 w5):=zh (HXR.out.grown hg5 (fun g hg=>zV HO.out g hg));have HB5:=zh (HB.out.ext HX5.out);have HR5:=zh hr5;clear hr5 hg5 hat5)|(at_builtin;refine qv W3 (by rfl) (.tmp 55) (.tmp 56) rfl (ys:=ys) HR5.out rfl (by rw[HN2.out];rfl) (HB5.out.cells.2.2.1) (HB5.out.cells.2.1) (by have:=HLEN.out;omega) (by have:=HLEN.out;omega) (by have:=HX5.out.size;omega) ?_;intro v6 w6 hr6 hg6 hat6;have HX6:Hid (Ext W3 w6):=zh (HX5.out.grown hg6 (fun g hg=>zV HR5.out g hg));have HR6:=zh hr6;clear hr6 hg6 hat6))
      go_ret
      exact⟨v6,_,rfl,HR6.out.reads,HP.out,HXV.out.trans HX6.out⟩
     ·obtain⟨x,xs',rfl⟩:∃x xs',xs=x ::xs':=by cases xs with
       |nil=>exact absurd HN1.out.symm hx0
       |cons x xs=>exact⟨x,xs,rfl⟩
      obtain⟨y,ys',rfl⟩:∃y ys',ys=y ::ys':=by cases ys with
       |nil=>exact absurd HN2.out.symm hy0
       |cons y ys=>exact⟨y,ys,rfl⟩
      obtain⟨g1,o1,rfl,l1,z1⟩:=HAR.out.get (k:=0) rfl
      obtain⟨g2,o2,rfl,l2,z2⟩:=HBR.out.get (k:=0) rfl
      rw[Nat.add_zero]at z1 z2
      have u1:=HA.out.sub 1 xs'.length (by simp only[List.length_cons];omega); have u2:=HB.out.sub 1 ys'.length (by simp only[List.length_cons];omega)
      rw[show((x ::xs').drop 1).take xs'.length=xs' by simp]at u1
      rw[show((y ::ys').drop 1).take ys'.length=ys' by simp]at u2
      have HU1:=zh u1; have HU2:=zh u2
      obtain⟨k1,hk1⟩:∃k,xs'.length=k:=⟨_,rfl⟩
      obtain⟨k2,hk2⟩:∃k,ys'.length=k:=⟨_,rfl⟩
      obtain⟨_,_,_,hc1⟩:=HA.out.cells
      obtain⟨_,_,_,hc2⟩:=HB.out.cells
      have HK1:=zh hk1; have HK2:=zh hk2; obtain rfl:n1=k1+1:=by rw[←HN1.out,←hk1];rfl
      obtain rfl:n2=k2+1:=by rw[←HN2.out,←hk2];rfl
      rw[List.length_cons,hk1]at hc1
      rw[List.length_cons,hk2]at hc2
      rw[hk1]at HU1
      rw[hk2]at HU2
      have HGK:Hid (k1+k2+2≤gk):=zh (by have:=HG.out;simp only[List.length_cons]at this;omega)
      obtain⟨V1,hV1⟩:∃V,wr.drew=V:=⟨_,rfl⟩
      have x1:Ext wr V1:=by rw[←hV1];exact xi
      clear hx0 hy0 u1 u2 hk1 hk2; go_upto_region 6 with fail; refine zg (7) (zd [0,1,3,4] (zj [2,5,6] .fin)) (by kernel_rfl) (by kernel_rfl) ?_; (repeat first|refine yq ?_|refine yr ?_)
      refine zv ?_; try simp only[hV1]
      clear hV1; have HXV1:=zh (HXR.out.trans x1); have HO1:=zh (HO.out.ext x1); have z1:=zy z1 l1 x1; have z2:=zy z2 l2 x1; have l1:=Nat.lt_of_lt_of_le l1 x1.size; have l2:=Nat.lt_of_lt_of_le l2 x1.size; clear x1
      obtain⟨t,ht⟩:∃t,(Op.bytesLess x.toList y.toList||x.toList==y.toList)=t:=⟨_,rfl⟩
      rw[ht]
      clear ht; have HAK:Hid (vK W3 (.slice (some ⟨g1,o1,none⟩) (k1+1) c1) (x ::xs')):=zh (by have h1:=HA.out;rw[HN1.out]at h1;exact h1); have HBK:Hid (vK W3 (.slice (some ⟨g2,o2,none⟩) (k2+1) c2) (y ::ys')):=zh (by have h1:=HB.out;rw[HN2.out]at h1;exact h1); cases t
      ·by_cases hcp:c2=1
       ·subst hcp; have HU2:Hid (vK W3 (.slice (some ⟨g2,o2,none⟩) 0 0) ys'):=zh (by
         obtain rfl:k2=0:=by omega
         have h1:ys'=[]:=List.length_eq_zero_iff.1 HK2.out
         rw[h1]
         obtain⟨A,c,h2,_,_,_,h3⟩:=HU2.out
         injection h2 with h2 _ _; subst h2
         exact⟨_,_,rfl,(fun h=>by simp at h),fun h=>(by cases h),Nat.le_refl _,fun g off s h=>by
          injection h with h; injection h with h; subst h; exact h3 _ _ _ rfl⟩)
        have HP4:=zh (zb0 HP.out); have HG4:Hid ((x ::xs').length+ys'.length≤k1+k2+1):=zh (by have h1:=HK1.out;have h2:=HK2.out;simp only[List.length_cons];omega); go_upto_region 8 with fail; refine zg (5) (zd [0,1,2,6,7] (zj [3] (.step 4 (.step 5 (zd [8,9] .fin))))) (by kernel_rfl) (by kernel_rfl) ?_; (repeat first|refine yq ?_|refine yr ?_)
        refine zp fun next hn=>?_;simp only[pick,yp]; go_wp2_with fail; refine zk (fun _=>yZ xi) (hn _ _ ?_); clear hn next; refine zp fun next hn=>?_;simp only[pick,yp]; go_wp2_with (at_builtin;refine qv W3 (by rfl) (.tmp 45) (.tmp 49) rfl (ys:=[y]) (HO1.out.ext xi) rfl rfl (fun h=>by cases h) (vq (ls:=[y]) (w:=(V1.alloc (.cells #[.string y] 9)).drew) (heap_alloc_new V1 (.cells #[.string y] 9)) rfl) HOL.out (by simp) (by have:=HXV1.out.size;simp<;>omega) ?_;intro v4 w4 hr4 hg4 hat4)
        have HX5:Hid (Ext W3 w4):=zh ((HXV1.out.trans (xi:Ext V1 (V1.alloc (.cells #[.string y] 9)).drew)).grown hg4 (fun g hg=>zV HO1.out g hg)); have HO4:=zh hr4; refine zk (fun h=>absurd rfl h) (hn _ _ ?_); clear hn next hr4 hg4 hat4; (repeat first|refine yq ?_|refine yr ?_)
        refine zv ?_; go_wp2_with fail; go_roundg (k1+k2+1)
        case measure=>have:=HGK.out;omega
        case rel=>exact⟨x ::xs',ys',os++[y],HAK,HU2,HO4,HP4,HG4,HX5⟩
       ·have HP4:=zh (zb0 HP.out); have HG4:Hid ((x ::xs').length+ys'.length≤k1+k2+1):=zh (by have h1:=HK1.out;have h2:=HK2.out;simp only[List.length_cons];omega); go_upto_region 8 with fail; refine zg (5) (zd [0,1,2,6,7] (zj [3] (.step 4 (.step 5 (zd [8,9] .fin))))) (by kernel_rfl) (by kernel_rfl) ?_; (repeat first|refine yq ?_|refine yr ?_)
        refine zp fun next hn=>?_;simp only[pick,yp]; go_wp2_with fail; refine zk (fun _=>yZ xi) (hn _ _ ?_); clear hn next; refine zp fun next hn=>?_;simp only[pick,yp]; go_wp2_with (at_builtin;refine qv W3 (by rfl) (.tmp 45) (.tmp 49) rfl (ys:=[y]) (HO1.out.ext xi) rfl rfl (fun h=>by cases h) (vq (ls:=[y]) (w:=(V1.alloc (.cells #[.string y] 9)).drew) (heap_alloc_new V1 (.cells #[.string y] 9)) rfl) HOL.out (by simp) (by have:=HXV1.out.size;simp<;>omega) ?_;intro v4 w4 hr4 hg4 hat4)
        have HX5:Hid (Ext W3 w4):=zh ((HXV1.out.trans (xi:Ext V1 (V1.alloc (.cells #[.string y] 9)).drew)).grown hg4 (fun g hg=>zV HO1.out g hg)); have HO4:=zh hr4; refine zk (fun h=>absurd rfl h) (hn _ _ ?_); clear hn next hr4 hg4 hat4; (repeat first|refine yq ?_|refine yr ?_)
        refine zv ?_; go_wp2_with fail; go_roundg (k1+k2+1)
        case measure=>have:=HGK.out;omega
        case rel=>exact⟨x ::xs',ys',os++[y],HAK,HU2,HO4,HP4,HG4,HX5⟩
      ·by_cases hcp:c1=1
       ·subst hcp; have HU1:Hid (vK W3 (.slice (some ⟨g1,o1,none⟩) 0 0) xs'):=zh (by
         obtain rfl:k1=0:=by omega
         have h1:xs'=[]:=List.length_eq_zero_iff.1 HK1.out
         rw[h1]
         obtain⟨A,c,h2,_,_,_,h3⟩:=HU1.out
         injection h2 with h2 _ _; subst h2
         exact⟨_,_,rfl,(fun h=>by simp at h),fun h=>(by cases h),Nat.le_refl _,fun g off s h=>by
          injection h with h; injection h with h; subst h; exact h3 _ _ _ rfl⟩)
        have HP4:=zh (Vt HP.out); have HG4:Hid (xs'.length+(y ::ys').length≤k1+k2+1):=zh (by have h1:=HK1.out;have h2:=HK2.out;simp only[List.length_cons];omega); go_upto_region 7 with fail; refine zg (5) (zd [0,1,2,6,7] (zj [3] (.step 4 (.step 5 (zd [8,9] .fin))))) (by kernel_rfl) (by kernel_rfl) ?_; (repeat first|refine yq ?_|refine yr ?_)
        refine zp fun next hn=>?_;simp only[pick,yp]; go_wp2_with fail; refine zk (fun _=>yZ xi) (hn _ _ ?_); clear hn next; refine zp fun next hn=>?_;simp only[pick,yp]; go_wp2_with (at_builtin;refine qv W3 (by rfl) (.tmp 37) (.tmp 41) rfl (ys:=[x]) (HO1.out.ext xi) rfl rfl (fun h=>by cases h) (vq (ls:=[x]) (w:=(V1.alloc (.cells #[.string x] 9)).drew) (heap_alloc_new V1 (.cells #[.string x] 9)) rfl) HOL.out (by simp) (by have:=HXV1.out.size;simp<;>omega) ?_;intro v4 w4 hr4 hg4 hat4)
        have HX5:Hid (Ext W3 w4):=zh ((HXV1.out.trans (xi:Ext V1 (V1.alloc (.cells #[.string x] 9)).drew)).grown hg4 (fun g hg=>zV HO1.out g hg)); have HO4:=zh hr4; refine zk (fun h=>absurd rfl h) (hn _ _ ?_); clear hn next hr4 hg4 hat4; (repeat first|refine yq ?_|refine yr ?_)
        refine zv ?_; go_wp2_with fail; go_roundg (k1+k2+1)
        case measure=>have:=HGK.out;omega
        case rel=>exact⟨xs',y ::ys',os++[x],HU1,HBK,HO4,HP4,HG4,HX5⟩
       ·have HP4:=zh (Vt HP.out); have HG4:Hid (xs'.length+(y ::ys').length≤k1+k2+1):=zh (by have h1:=HK1.out;have h2:=HK2.out;simp only[List.length_cons];omega); go_upto_region 7 with fail; refine zg (5) (zd [0,1,2,6,7] (zj [3] (.step 4 (.step 5 (zd [8,9] .fin))))) (by kernel_rfl) (by kernel_rfl) ?_; (repeat first|refine yq ?_|refine yr ?_)
        refine zp fun next hn=>?_;simp only[pick,yp]; go_wp2_with fail; refine zk (fun _=>yZ xi) (hn _ _ ?_); clear hn next; refine zp fun next hn=>?_;simp only[pick,yp]; go_wp2_with (at_builtin;refine qv W3 (by rfl) (.tmp 37) (.tmp 41) rfl (ys:=[x]) (HO1.out.ext xi) rfl rfl (fun h=>by cases h) (vq (ls:=[x]) (w:=(V1.alloc (.cells #[.string x] 9)).drew) (heap_alloc_new V1 (.cells #[.string x] 9)) rfl) HOL.out (by simp) (by have:=HXV1.out.size;simp<;>omega) ?_;intro v4 w4 hr4 hg4 hat4)
        have HX5:Hid (Ext W3 w4):=zh ((HXV1.out.trans (xi:Ext V1 (V1.alloc (.cells #[.string x] 9)).drew)).grown hg4 (fun g hg=>zV HO1.out g hg)); have HO4:=zh hr4; refine zk (fun h=>absurd rfl h) (hn _ _ ?_); clear hn next hr4 hg4 hat4; (repeat first|refine yq ?_|refine yr ?_)
        refine zv ?_; go_wp2_with fail; go_roundg (k1+k2+1)
        case measure=>have:=HGK.out;omega
        case rel=>exact⟨xs',y ::ys',os++[x],HU1,HBK,HO4,HP4,HG4,HX5⟩
end Go.Proofs.YtmbelmngniddjaaGreat
