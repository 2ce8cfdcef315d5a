/- Rf: texts that the proof rests on, part 12. -/
import Derived.Test.YtmbelmngniddjaaGreatRf11
namespace Go.Proofs.YtmbelmngniddjaaGreat
open Go.RowKit
attribute [local go_sem] zF zB zI zJ zw zt zN zD zX zQ zK zP zO zL zT zR zS zG zM zC
def Ze (w:World)(ns:List Nod):Prop:=∀n∈ns,∀g off s',n.kA=some ⟨g,off,s'⟩→w.heap.size≤g
theorem Ze.nil (w:World):Ze w []:=fun _ h=>by cases h
theorem Ze.one (w:World)(k:Int)(c:Cl):Ze w [⟨k,c,none,[],0⟩]:=fun n hn g off s' h=>by
 rw[List.mem_singleton]at hn
 subst hn; cases h
theorem Ze.low {w w':World}{ns:List Nod}(h:Ze w' ns)(hs:w.heap.size≤w'.heap.size):Ze w ns:=fun n hn g off s' he=>Nat.le_trans hs (h n hn g off s' he)
theorem Ze.append {w:World}{a b:List Nod}(h:Ze w a)(h':Ze w b):Ze w (a++b):=fun n hn=>by
 rcases List.mem_append.1 hn with hn|hn
 ·exact h n hn
 ·exact h' n hn
def zgV (w:World)(b base:Nat)(s:ByteArray)(at_:Nat)(v:Value)(ns:List Nod)(adv up dn dn2:Nat)(e:Ending)(w':World):Prop:=
 ∃(r:Int) (at2:Nat) (er:Int) (v':Value) (ns2:List Nod),e=.returned (.int .i64 r)∧at2≤s.size∧RdS w' b base s at2 er v' (ns++ns2)∧RdT b v w v' w'∧
  (er=0→at_+adv≤at2∧ns2.length+dn≤4*(at2 - at_)+up)∧ns2.length+dn2≤4*(s.size - at_)+up∧Ze w ns2
def zc7 (b base:Nat)(s:ByteArray)(at_:Nat):Prop:=∀(v:Value) (ns:List Nod) (w:World),RdS w b base s at_ 0 v ns→base≤w.heap.size→at_≤s.size→ns.length≤4*at_+3→
 Calls Tryz.prog 75 #[ptr b] w (zgV w b base s at_ v ns 0 2 0 0)
theorem RdT.size {w w':World}{b:Nat}{v v':Value}(t:RdT b v w v' w'):w.heap.size≤w'.heap.size:=t.1.size
set_option maxRecDepth 100000 in
set_option maxHeartbeats 8000000 in
theorem zic (b base:Nat)(s:ByteArray)(at_:Nat)(IH:zc7 b base s (at_+1))(v:Value)(ns:List Nod)(w:World)(h:RdS w b base s at_ 0 v ns)(hb:base≤w.heap.size)(ha:at_ < s.size)(hs:s.size≤1000)(hn:ns.length≤4*at_+3):
 Calls Tryz.prog 139 #[ptr b] w (zgV w b base s at_ v ns 1 0 3 2):=by
 have H:=zh h; have HIH:=zh IH
 obtain⟨c0,c1,c2,c3⟩:=h.blk.cells
 have lb:=h.blk.lt; clear h IH
 obtain⟨x,hx⟩:∃x,s[at_]?=some x:=⟨_,getElem?_pos s at_ ha⟩
 have I0:=qS hx at_ rfl
 obtain⟨cc,hcc,hcl⟩:∃c:Nat,x.toNat=c∧c < 256:=⟨_,rfl,x.toNat_lt⟩
 rw[hcc]at I0
 clear hx hcc; go_in
 go_upto_region 1 with fail; refine zg (10) (zd [0,1,2,4,5,6] (zj [3,7,8,9] .fin)) (by kernel_rfl) (by kernel_rfl) ?_; (repeat first|refine yq ?_|refine yr ?_)
 refine zv ?_; have H2:=zh (H.out.ext (w':=w.drew) xi); have T2:Hid (RdT b v w v w.drew):=zh (RdT.of_ext xi)
 obtain⟨W2,hW2⟩:∃V,w.drew=V:=⟨_,rfl⟩
 rw[hW2]at H2 T2 ⊢
 clear c0 c1 c2 c3 lb hW2 I0 H; by_cases bad:cc=41∨cc=93∨cc=124∨cc=42∨cc=43∨cc=63
 ·have FA:=zh (vV b base s at_ at_ 0 7 v ns W2 H2.out)
  obtain⟨c0,c1,c2,c3⟩:=H2.out.blk.cells
  have lb:=H2.out.blk.lt; rcases bad with rfl|rfl|rfl|rfl|rfl|rfl
  all_goals
   go_wp2_with fail; refine FA.out.mono ?_; rintro e wf ⟨rfl,hf,tf⟩; have HF:=zh hf; have TF:=zh (T2.out.trans tf); clear hf tf c0 c1 c2 c3 lb FA; go_wp2_with fail; go_ret
   exact⟨0,at_,7,v,[],rfl,by omega,by simpa using HF.out,TF.out,fun h=>by simp at h,by simp;omega,Ze.nil w⟩
 ·have n1:((cc:Int)==41)=false:=by simp;omega
  have n2:((cc:Int)==93)=false:=by simp;omega
  have n3:((cc:Int)==124)=false:=by simp;omega
  have n4:((cc:Int)==42)=false:=by simp;omega
  have n5:((cc:Int)==43)=false:=by simp;omega
  have n6:((cc:Int)==63)=false:=by simp;omega
  obtain⟨c0,c1,c2,c3⟩:=H2.out.blk.cells
  have lb:=H2.out.blk.lt; have f1:=zi H2.out.blk 1; have M:=zh (H2.out.set1 (at_+1)); go_upto_region 11 with fail
  obtain⟨W3,hW3⟩:∃V,W2.setCell ⟨b,1,none⟩ (.int .i64 ((at_:Int)+1))=V:=⟨_,rfl⟩
  have H3:Hid (RdS W3 b base s (at_+1) 0 v ns):=zh (by rw[←hW3];exact M.out.1); have T3:Hid (RdT b v w v W3):=zh (by rw[←hW3];exact T2.out.trans M.out.2)
  rw[hW3]
  clear hW3 M f1 c0 c1 c2 c3 lb n1 n2 n3 n4 n5 n6; by_cases a1:cc=40
  ·have m1:((cc:Int)==40)=true:=by subst a1;rfl
   have AL:=zh (HIH.out v ns W3 H3.out (Nat.le_trans hb T3.out.size) (by omega) (by omega)); go_wp2_with fail; refine AL.out.mono ?_; rintro e w4 ⟨r,a2,er,v4,ns4,rfl,ha2,h4,t4,hok,hall,hnew⟩; have HNEW:Hid (Ze w ns4):=zh (hnew.low T3.out.size); have H4:=zh h4; have T4:=zh (T3.out.trans t4); have MO:=zh (qE b s a2 er v4 w4 h4.blk); have HALL:Hid (ns4.length≤4*(s.size - (at_+1))+2):=zh hall; have HOK:=zh hok; clear h4 t4 AL hok hall hnew; by_cases e0:er=0
   ·subst e0
    obtain⟨k1,k2⟩:=HOK.out (by first|rfl|trivial)
    by_cases hlt:a2 < s.size
    ·rw[show(decide ((0:Int)=0)&&decide (a2 < s.size))=true from by simp[hlt]]at MO
     go_wp2_with fail; refine MO.out.mono ?_; rintro e w5 ⟨rfl,x5⟩; have H5:=zh (H4.out.ext x5); have T5:=zh (T4.out.trans (RdT.of_ext x5)); clear x5 MO
     obtain⟨xq,hxq⟩:∃x,s[a2]?=some x:=⟨_,getElem?_pos s a2 hlt⟩
     have I5:=qS hxq a2 rfl
     obtain⟨c5,hc5,hcl5⟩:∃c:Nat,xq.toNat=c∧c < 256:=⟨_,rfl,xq.toNat_lt⟩
     rw[hc5]at I5
     clear hxq hc5
     obtain⟨c0,c1,c2,c3⟩:=H5.out.blk.cells
     have lb:=H5.out.blk.lt; by_cases q:c5=41
     ·have q5:((c5:Int) !=41)=false:=by subst q;rfl
      go_upto_region 16 with fail; refine zg (10) (zd [0,1,2,4,5,6] (zj [3,7,8,9] .fin)) (by kernel_rfl) (by kernel_rfl) ?_; (repeat first|refine yq ?_|refine yr ?_)
      refine zv ?_; have H6:=zh (H5.out.ext (w':=w5.drew) xi); have T6:Hid (RdT b v w v4 w5.drew):=zh (T5.out.trans (RdT.of_ext xi))
      obtain⟨W6,hW6⟩:∃V,w5.drew=V:=⟨_,rfl⟩
      rw[hW6]at H6 T6 ⊢
      clear hW6 c0 c1 c2 c3 lb I5 q5
      obtain⟨c0,c1,c2,c3⟩:=H6.out.blk.cells
      have lb:=H6.out.blk.lt; have f1:=zi H6.out.blk 1; have M:=zh (H6.out.set1 (a2+1)); go_wp2_with fail; go_ret
      exact⟨r,a2+1,0,v4,ns4,rfl,by omega,M.out.1,T6.out.trans M.out.2,fun _=>⟨by omega,by omega⟩,by have:=HALL.out;omega,HNEW.out⟩
     ·have q5:((c5:Int) !=41)=true:=by simp;omega
      go_upto_region 16 with fail; refine zg (10) (zd [0,1,2,4,5,6] (zj [3,7,8,9] .fin)) (by kernel_rfl) (by kernel_rfl) ?_; (repeat first|refine yq ?_|refine yr ?_)
      refine zv ?_; have H6:=zh (H5.out.ext (w':=w5.drew) xi); have T6:Hid (RdT b v w v4 w5.drew):=zh (T5.out.trans (RdT.of_ext xi))
      obtain⟨W6,hW6⟩:∃V,w5.drew=V:=⟨_,rfl⟩
      rw[hW6]at H6 T6 ⊢
      clear hW6 c0 c1 c2 c3 lb I5 q5; have FA:=zh (vV b base s a2 a2 0 7 v4 (ns++ns4) W6 H6.out)
      obtain⟨c0,c1,c2,c3⟩:=H6.out.blk.cells
      have lb:=H6.out.blk.lt; go_wp2_with fail; refine FA.out.mono ?_; rintro e wf ⟨rfl,hf,tf⟩; have HF:=zh hf; have TF:=zh (T6.out.trans tf); clear hf tf c0 c1 c2 c3 lb FA; go_wp2_with fail; go_ret
      exact⟨0,a2,7,v4,ns4,rfl,by omega,by simpa using HF.out,TF.out,fun h=>by simp at h,by have:=HALL.out;omega,HNEW.out⟩
    ·rw[show(decide ((0:Int)=0)&&decide (a2 < s.size))=false from by simp[hlt]]at MO
     go_wp2_with fail; refine MO.out.mono ?_; rintro e w5 ⟨rfl,x5⟩; have H5:=zh (H4.out.ext x5); have T5:=zh (T4.out.trans (RdT.of_ext x5)); clear x5 MO; have FA:=zh (vV b base s a2 s.size 0 8 v4 (ns++ns4) w5 H5.out)
     obtain⟨c0,c1,c2,c3⟩:=H5.out.blk.cells
     have lb:=H5.out.blk.lt; go_wp2_with fail; refine FA.out.mono ?_; rintro e wf ⟨rfl,hf,tf⟩; simp only[if_pos]at hf
     have HF:=zh hf; have TF:=zh (T5.out.trans tf); clear hf tf c0 c1 c2 c3 lb FA; go_wp2_with fail; go_ret
     exact⟨0,s.size,8,v4,ns4,rfl,by omega,HF.out,TF.out,fun h=>by simp at h,by have:=HALL.out;omega,HNEW.out⟩
   ·rw[show(decide (er=0)&&decide (a2 < s.size))=false from by simp[e0]]at MO
    go_wp2_with fail; refine MO.out.mono ?_; rintro e w5 ⟨rfl,x5⟩; have H5:=zh (H4.out.ext x5); have T5:=zh (T4.out.trans (RdT.of_ext x5)); clear x5 MO; have FA:=zh (vV b base s a2 s.size er 8 v4 (ns++ns4) w5 H5.out)
    obtain⟨c0,c1,c2,c3⟩:=H5.out.blk.cells
    have lb:=H5.out.blk.lt; go_wp2_with fail; refine FA.out.mono ?_; rintro e wf ⟨rfl,hf,tf⟩; simp only[if_neg e0]at hf
    have HF:=zh hf; have TF:=zh (T5.out.trans tf); clear hf tf c0 c1 c2 c3 lb FA; go_wp2_with fail; go_ret
    exact⟨0,a2,er,v4,ns4,rfl,by omega,HF.out,TF.out,fun h=>absurd h e0,by have:=HALL.out;omega,HNEW.out⟩
  ·have m1:((cc:Int)==40)=false:=by simp;omega
   by_cases a2:cc=91
   ·have m2:((cc:Int)==91)=true:=by subst a2;rfl
    have CL:=zh (zio b base s (at_+1) v ns W3 H3.out (by omega) hs); go_wp2_with fail; refine CL.out.mono ?_; rintro e w4 ⟨y,a2,er,rfl,yo,ha2,h4,t4,lt4⟩; unfold Cl.V; have H4:=zh h4; have T4:=zh (T3.out.trans t4); have LT4:=zh lt4; clear h4 t4 CL lt4; go_upto_region 22 with fail
    obtain⟨gb,hgb⟩:∃n,w4.heap.size=n:=⟨_,rfl⟩
    obtain⟨W5,hW5⟩:∃V,w4.alloc (.cells #[.int .u64 y.a,.int .u64 y.b,.int .u64 y.c,.int .u64 y.d] 145)=V:=⟨_,rfl⟩
    have B5:W5.heap[gb]?=some (.cells #[.int .u64 y.a,.int .u64 y.b,.int .u64 y.c,.int .u64 y.d] 145):=by rw[←hW5,←hgb];exact heap_alloc_new _ _
    have X5:Ext w4 W5:=by rw[←hW5];exact xi
    rw[hW5,hgb]
    have H5:=zh (H4.out.ext X5); have T5:=zh (T4.out.trans (RdT.of_ext X5)); have b0:=cr 0 B5; have b1:=cr 1 B5; have b2:=cr 2 B5; have b3:=cr 3 B5; have bl:=za B5; simp at b0 b1 b2 b3
    clear hW5 hgb B5 X5; have PW:=J6 b base s a2 er v ns 2 y none [] 0 W5 H5.out (vW.empty W5) yo (Nat.le_trans hb T5.out.size) (by omega); unfold Cl.V at PW; simp only[List.length_nil]at PW
    have HPW:=zh PW; clear PW; go_wp2_with fail; refine HPW.out.mono ?_; rintro e wp ⟨vp,rfl,hp,tp⟩; have HP:=zh hp; have TP:=zh (T5.out.trans tp); clear hp tp HPW; go_wp2_with fail; go_ret
    exact⟨_,a2,er,vp,[⟨2,y,none,[],0⟩],rfl,by omega,HP.out,TP.out,fun h=>⟨by have:=LT4.out h;omega,by have:=LT4.out h;simp<;>omega⟩,by simp<;>omega,Ze.one w _ _⟩
   ·have m2:((cc:Int)==91)=false:=by simp;omega
    by_cases a3:cc=46
    ·have m3:((cc:Int)==46)=true:=by subst a3;rfl
     have OF:=zh (zeg ⟨#[10]⟩ W3 (by show 1≤1000;omega)); go_wp2_with fail; refine OF.out.mono ?_; rintro e w4 ⟨y1,rfl,yo1,x4⟩; have H4:=zh (H3.out.ext x4); have T4:=zh (T3.out.trans (RdT.of_ext x4)); have NT:=zh (zfj y1 w4); unfold Cl.V at NT ⊢; clear x4 OF; go_wp2_with fail; refine NT.out.mono ?_; rintro e w5 ⟨y,rfl,yo,x5⟩; unfold Cl.V; have H5:=zh (H4.out.ext x5); have T5:=zh (T4.out.trans (RdT.of_ext x5)); clear x5 NT; have PW:=J6 b base s (at_+1) 0 v ns 2 y none [] 0 w5 H5.out (vW.empty w5) yo (Nat.le_trans hb T5.out.size) (by omega); unfold Cl.V at PW; simp only[List.length_nil]at PW
     have HPW:=zh PW; clear PW; go_wp2_with fail; refine HPW.out.mono ?_; rintro e wp ⟨vp,rfl,hp,tp⟩; have HP:=zh hp; have TP:=zh (T5.out.trans tp); clear hp tp HPW; go_wp2_with fail; go_ret
     exact⟨_,(at_+1),0,vp,[⟨2,y,none,[],0⟩],rfl,by omega,HP.out,TP.out,fun h=>⟨by omega,by simp<;>omega⟩,by simp<;>omega,Ze.one w _ _⟩
    ·have m3:((cc:Int)==46)=false:=by simp;omega
     by_cases a4:cc=92
     ·have m4:((cc:Int)==92)=true:=by subst a4;rfl
      have ES:=zh (zbG b base s (at_+1) v ns W3 H3.out (by omega) hs); go_wp2_with fail; refine ES.out.mono ?_; rintro e w4 ⟨x4,a2,er,rfl,hx4,ha2,h4,t4,lt4⟩; have H4:=zh h4; have T4:=zh (T3.out.trans t4); have LT4:=zh lt4; clear h4 t4 ES lt4
      obtain⟨bb,hbb⟩:∃bb,w4.heap.size=bb:=⟨_,rfl⟩
      obtain⟨V2,hV2⟩:∃V,w4.alloc (.cells #[.int .u8 (x4:Int)] 5)=V:=⟨_,rfl⟩
      have hB2:V2.heap[bb]?=some (.cells #[.int .u8 (x4:Int)] 5):=by rw[←hV2,←hbb];exact heap_alloc_new _ _
      have XV:Ext w4 V2:=by rw[←hV2];exact xi
      have hcv:=run_convert_bytes_arg (P:=Tryz.prog) V2 166 5 Tryz.underlying166 Tryz.underlying5 bb 0 1 1 [(x4:Int)] rfl (fun i hi=>by
       obtain rfl:i=0:=by omega
       exact cr 0 hB2) 9 Tryz.underlying9
      obtain⟨sz,hsz,hsl⟩:∃z,strOfNums [(x4:Int)]=z∧z.size≤1000:=⟨_,rfl,by show 1≤1000;omega⟩
      rw[hsz]at hcv
      have HV:=zh (H4.out.ext XV); have TV:=zh (T4.out.trans (RdT.of_ext XV)); have OF:=zh (zeg sz V2 hsl); clear hB2 XV hsz; go_wp2_with fail; try simp only[hbb,hV2]
      refine OF.out.mono ?_; rintro e w5 ⟨y,rfl,yo,x5⟩; unfold Cl.V; have H5:=zh (HV.out.ext x5); have T5:=zh (TV.out.trans (RdT.of_ext x5)); clear x5 hcv hV2 hbb OF HV TV; have PW:=J6 b base s a2 er v ns 2 y none [] 0 w5 H5.out (vW.empty w5) yo (Nat.le_trans hb T5.out.size) (by omega); unfold Cl.V at PW; simp only[List.length_nil]at PW
      have HPW:=zh PW; clear PW; go_wp2_with fail; refine HPW.out.mono ?_; rintro e wp ⟨vp,rfl,hp,tp⟩; have HP:=zh hp; have TP:=zh (T5.out.trans tp); clear hp tp HPW; go_wp2_with fail; go_ret
      exact⟨_,a2,er,vp,[⟨2,y,none,[],0⟩],rfl,by omega,HP.out,TP.out,fun h=>⟨by have:=LT4.out h;omega,by have:=LT4.out h;simp<;>omega⟩,by simp<;>omega,Ze.one w _ _⟩
     ·have m4:((cc:Int)==92)=false:=by simp;omega
      obtain⟨bb,hbb⟩:∃bb,W3.heap.size=bb:=⟨_,rfl⟩
      obtain⟨V2,hV2⟩:∃V,W3.alloc (.cells #[.int .u8 (cc:Int)] 5)=V:=⟨_,rfl⟩
      have hB2:V2.heap[bb]?=some (.cells #[.int .u8 (cc:Int)] 5):=by rw[←hV2,←hbb];exact heap_alloc_new _ _
      have XV:Ext W3 V2:=by rw[←hV2];exact xi
      have hcv:=run_convert_bytes_arg (P:=Tryz.prog) V2 166 5 Tryz.underlying166 Tryz.underlying5 bb 0 1 1 [(cc:Int)] rfl (fun i hi=>by
       obtain rfl:i=0:=by omega
       exact cr 0 hB2) 9 Tryz.underlying9
      obtain⟨sz,hsz,hsl⟩:∃z,strOfNums [(cc:Int)]=z∧z.size≤1000:=⟨_,rfl,by show 1≤1000;omega⟩
      rw[hsz]at hcv
      have HV:=zh (H3.out.ext XV); have TV:=zh (T3.out.trans (RdT.of_ext XV)); have OF:=zh (zeg sz V2 hsl); clear hB2 XV hsz; go_wp2_with fail; try simp only[hbb,hV2]
      refine OF.out.mono ?_; rintro e w5 ⟨y,rfl,yo,x5⟩; unfold Cl.V; have H5:=zh (HV.out.ext x5); have T5:=zh (TV.out.trans (RdT.of_ext x5)); clear x5 hcv hV2 hbb OF HV TV; have PW:=J6 b base s (at_+1) 0 v ns 2 y none [] 0 w5 H5.out (vW.empty w5) yo (Nat.le_trans hb T5.out.size) (by omega); unfold Cl.V at PW; simp only[List.length_nil]at PW
      have HPW:=zh PW; clear PW; go_wp2_with fail; refine HPW.out.mono ?_; rintro e wp ⟨vp,rfl,hp,tp⟩; have HP:=zh hp; have TP:=zh (T5.out.trans tp); clear hp tp HPW; go_wp2_with fail; go_ret
      exact⟨_,(at_+1),0,vp,[⟨2,y,none,[],0⟩],rfl,by omega,HP.out,TP.out,fun h=>⟨by omega,by simp<;>omega⟩,by simp<;>omega,Ze.one w _ _⟩
theorem xj.ownU {w:World}{base:Nat}{v:Value}{xs:List Int}(h:xj w base v xs):w.ownsRow base 3 1 v xs.length (iv xs):=by
 obtain⟨A,c,rfl,ho⟩:=h
 exact ho
theorem xj.objU {w:World}{base:Nat}{x:Value}{xs:List Int}(h:xj w base x xs):∀g,x.ownBlock=some g→∃cur,w.heap[g]?=some (.cells cur 3):=zZ h.ownU
theorem zhj {w:World}{f:Nat}{x:Int}(h:w.heap[f]?=some (.cells #[.int .i64 x] 3)):xW w (some ⟨f,0,none⟩) [x]:=fun _=>⟨f,0,rfl,za h,fun k hk=>by
 simp at hk
 subst hk; exact cr 0 h⟩
set_option maxRecDepth 100000 in
set_option maxHeartbeats 4000000 in
theorem zjy (b base:Nat)(s:ByteArray)(at_:Nat)(IH:zc7 b base s (at_+1))(v:Value)(ns:List Nod)(w:World)(h:RdS w b base s at_ 0 v ns)(hb:base≤w.heap.size)(ha:at_ < s.size)(hs:s.size≤1000)(hn:ns.length≤4*at_+3):
 Calls Tryz.prog 134 #[ptr b] w (zgV w b base s at_ v ns 1 0 3 2):=by
 have TH:=zh (zic b base s at_ IH v ns w h hb ha hs hn); clear h IH; go_in
 go_wp2_with fail; refine TH.out.mono ?_; rintro e w1 ⟨r0,a0,er0,v0,ns0,rfl,ha0,h1,t1,hok0,hall0,hnew0⟩; have NEW0:=zh hnew0; have H1:=zh h1; have T1:=zh t1; have OK0:=zh hok0; have ALL0:=zh hall0; clear h1 t1 hok0 hall0 hnew0 TH
 obtain⟨g0,hg0⟩:∃g:Nat,g=if er0=0 then s.size+1 - a0 else 0:=⟨_,rfl⟩
 have GH0:=zh hg0; clear hg0; go_wp2_with fail; go_loopg [3] g0 (fun gh nv wr=>∃(r:Int) (a:Nat) (er:Int) (v':Value) (ns2:List Nod),nv=.int .i64 r∧a≤s.size∧Hid (gh=if er=0 then s.size+1 - a else 0)∧Hid (RdS wr b base s a er v' (ns++ns2))∧Hid (RdT b v w v' wr)∧Hid (er=0→at_+1≤a∧ns2.length+3≤4*(a - at_)+0)∧Hid (ns2.length+2≤4*(s.size - at_)+0)∧Hid (Ze w ns2))
 case atStart=>exact⟨r0,a0,er0,v0,ns0,rfl,ha0,GH0,H1,T1,OK0,ALL0,NEW0⟩
 case round=>
  obtain⟨r,a,er,v',ns2,rfl,ha2,GH,H,T,OK,ALL,NEW⟩:=hrel
  clear H1 T1 OK0 ALL0 GH0 NEW0; have MO:=zh (qE b s a er v' wr H.out.blk); by_cases e0:er=0∧a < s.size
  ·obtain⟨rfl,hlt⟩:=e0
   rw[show(decide ((0:Int)=0)&&decide (a < s.size))=true from by simp[hlt]]at MO
   go_wp2_with fail; refine MO.out.mono ?_; rintro e V ⟨rfl,xm⟩; have H2:=zh (H.out.ext xm); have T2:=zh (T.out.trans (RdT.of_ext xm)); clear xm MO H T
   obtain⟨x,hx⟩:∃x,s[a]?=some x:=⟨_,getElem?_pos s a hlt⟩
   have I0:=qS hx a rfl
   obtain⟨cc,hcc,hcl⟩:∃c:Nat,x.toNat=c∧c < 256:=⟨_,rfl,x.toNat_lt⟩
   rw[hcc]at I0
   clear hx hcc
   obtain⟨c0,c1,c2,c3⟩:=H2.out.blk.cells
   have lb:=H2.out.blk.lt; go_upto_region 4 with fail; refine zg (9) (zd [0,1,2,4,5,6] (zj [3,7,8] .fin)) (by kernel_rfl) (by kernel_rfl) ?_; (repeat first|refine yq ?_|refine yr ?_)
   refine zv ?_; have H3:=zh (H2.out.ext (w':=V.drew) xi); have T3:Hid (RdT b v w v' V.drew):=zh (T2.out.trans (RdT.of_ext xi))
   obtain⟨V3,hV3⟩:∃U,V.drew=U:=⟨_,rfl⟩
   rw[hV3]at H3 T3 ⊢
   clear c0 c1 c2 c3 lb hV3 I0 H2 T2
   obtain⟨c0,c1,c2,c3⟩:=H3.out.blk.cells
   have lb:=H3.out.blk.lt; have f1:=zi H3.out.blk 1; have M:=zh (H3.out.set1 (a+1)); by_cases k:cc=42∨cc=43∨cc=63
   ·obtain⟨k1,k2⟩:=OK.out (by first|rfl|trivial)
    rcases k with rfl|rfl|rfl
    all_goals
     go_upto_region 14 with fail
     obtain⟨W3,hW3⟩:∃U,V3.setCell ⟨b,1,none⟩ (.int .i64 ((a:Int)+1))=U:=⟨_,rfl⟩
     have hW3':V3.setCell ⟨b,1,none⟩ (.int .i64 ((a+1:Nat):Int))=W3:=by rw[←hW3];rfl
     have H4:Hid (RdS W3 b base s (a+1) 0 v' (ns++ns2)):=zh (by rw[←hW3'];exact M.out.1); have T4:Hid (RdT b v w v' W3):=zh (by rw[←hW3'];exact T3.out.trans M.out.2)
     rw[hW3]
     clear hW3 hW3' M f1 c0 c1 c2 c3 lb H3 T3
     obtain⟨kb,hkb⟩:∃n,W3.heap.size=n:=⟨_,rfl⟩
     obtain⟨W5,hW5⟩:∃U,W3.alloc (.cells #[.int .i64 r] 3)=U:=⟨_,rfl⟩
     have B5:W5.heap[kb]?=some (.cells #[.int .i64 r] 3):=by rw[←hW5,←hkb];exact heap_alloc_new _ _
     have X5:Ext W3 W5:=by rw[←hW5];exact xi
     have H5:=zh (H4.out.ext X5); have T5:=zh (T4.out.trans (RdT.of_ext X5)); have HPW:=zh (fun kk=>J6 b base s (a+1) 0 v' (ns++ns2) kk Cl.zero (some ⟨kb,0,none⟩) [r] 1 W5 H5.out ⟨zhj B5,Nat.le_refl _,by omega,fun h=>(by cases h),fun g off s h=>by injection h with h;injection h with h;subst h;exact⟨_,B5⟩⟩ Cl.zero_ok (Nat.le_trans hb T5.out.size) (by simp only[List.length_append];omega)); unfold Cl.V Cl.zero at HPW; simp only[List.length_cons,List.length_nil,Nat.zero_add]at HPW
     have HKB:Hid (w.heap.size≤kb):=zh (by rw[←hkb];exact T4.out.size); clear B5 X5; go_wp2_with fail; try simp only[hkb,hW5]
     refine(HPW.out _).mono ?_
     rintro e wp ⟨vp,rfl,hp,tp⟩; have HP:=zh hp; have TP:=zh (T5.out.trans tp); clear hp tp HPW hW5 hkb
     rw[List.append_assoc]at HP
     have NEW9:Hid (∀kk:Int,Ze w (ns2++[⟨kk,Cl.zero,some ⟨kb,0,none⟩,[r],1⟩])):=zh (fun kk=>NEW.out.append fun n hn g off s' he=>by
      rw[List.mem_singleton]at hn
      subst hn; injection he with he; injection he with he; subst he; exact HKB.out)
     go_wp2_with fail; go_roundg (s.size+1 - (a+1))
     case rel=>exact⟨_,a+1,0,vp,_,rfl,by omega,zh (by simp),HP,TP,zh (fun _=>⟨by omega,by simp;omega⟩),zh (by simp;omega),zh (NEW9.out _)⟩
     case measure=>
      have hg:=GH.out; simp only[if_true,eq_self]at hg
      rw[hg]
      omega
   ·have n1:((cc:Int)==42)=false:=by simp;omega
    have n2:((cc:Int)==43)=false:=by simp;omega
    have n3:((cc:Int)==63)=false:=by simp;omega
    go_wp2_with fail; go_ret
    exact⟨r,a,0,v',ns2,rfl,by omega,H3.out,T3.out,fun _=>OK.out (by first|rfl|trivial),ALL.out,NEW.out⟩
  ·rw[show(decide (er=0)&&decide (a < s.size))=false from by
    by_cases h1:er=0
    ·have:¬a < s.size:=fun h2=>e0 ⟨h1,h2⟩
     simp[this]
    ·simp[h1]]at MO
   go_wp2_with fail; refine MO.out.mono ?_; rintro e V ⟨rfl,xm⟩; have H2:=zh (H.out.ext xm); have T2:=zh (T.out.trans (RdT.of_ext xm)); clear xm MO H T e0; go_wp2_with fail; go_ret
   exact⟨r,a,er,v',ns2,rfl,ha2,H2.out,T2.out,OK.out,ALL.out,NEW.out⟩
theorem xj.kid {w:World}{base:Nat}{v:Value}{xs:List Int}(h:xj w base v xs):∃A c,v=.slice A xs.length c∧vW w A xs c:=by
 have ho:=h.ownU
 obtain⟨A,c,rfl,hi⟩:=h
 obtain⟨k1,k2,k3,k4⟩:=hi.ints
 exact⟨A,c,rfl,k1,k2,by unfold maxLen at k3;omega,k4,fun g off s hg=>zZ ho g (by rw[hg];rfl)⟩
theorem RdT.grown {w w1 w2:World}{b:Nat}{v v' lv:Value}{xs:List Int}(t:RdT b v w v' w1)(hr:xj w1 w.heap.size lv xs)(hg:w1.grownBy w2 lv.ownBlock):RdT b v w v' w2:=
 ⟨t.1.andThen (zA.grown (S:=fun g=>lv.ownBlock=some g) hg (fun g hg _=>hg)) (fun _ _ h=>h) (fun k hk hs=>by
   have:=zV hr.ownU k hs
   omega),t.2⟩
theorem RdS.grown {w w2:World}{b base bl:Nat}{s:ByteArray}{a:Nat}{er:Int}{v lv:Value}{ns:List Nod}{xs:List Int}(h:RdS w b base s a er v ns)(hr:xj w bl lv xs)(hg:w.grownBy w2 lv.ownBlock)(hk:∀n∈ns,∀g off s',n.kA=some ⟨g,off,s'⟩→lv.ownBlock≠some g):RdS w2 b base s a er v ns:=by
 have T:zA (fun g=>lv.ownBlock=some g) w w2:=zA.grown hg (fun g hg _=>hg)
 refine⟨?_,ye h.row (fun g hg'=>T.block g (z8 h.row g hg') (fun he=>?_)),fun n hn=>?_,h.cls⟩
 ·have hb:=h.blk; unfold RDe at hb ⊢; refine T.keep hb (fun he=>?_)
  obtain⟨cur,hcur⟩:=hr.objU _ he
  exact zU hb hcur (by decide) rfl
 ·obtain⟨cur,hcur⟩:=hr.objU _ he
  obtain⟨cu,hcu⟩:=zZ h.row g hg'
  exact zU hcu hcur (by decide) rfl
 ·have ho:=h.kids n hn
  refine⟨fun h0=>?_,ho.le,ho.top,ho.nil,fun g off s' hA=>?_⟩
  ·obtain⟨g,off,hA,hl,hc⟩:=ho.ints h0
   exact⟨g,off,hA,Nat.lt_of_lt_of_le hl T.size,fun k hk'=>(World.cell?_of_block (w:=w) (a:=⟨g,off+k,none⟩) (T.block g hl (hk n hn g off none hA))).trans (hc k hk')⟩
  ·obtain⟨cs,hcs⟩:=ho.blk g off s' hA
   exact⟨cs,T.keep hcs (hk n hn g off s' hA)⟩
def zaq (lv:Value)(ns:List Nod):Prop:=∀n∈ns,∀g off s',n.kA=some ⟨g,off,s'⟩→lv.ownBlock≠some g
theorem zaq.of_new {w wr:World}{base:Nat}{lv:Value}{xs:List Int}{ns ms:List Nod}(h:zaq lv ns)(hr:xj wr base lv xs)(hn:Ze wr ms):zaq lv (ns++ms):=fun n hm g off s' he ho=>by
 rcases List.mem_append.1 hm with hm|hm
 ·exact h n hm g off s' he ho
 ·have:=hn n hm g off s' he
  have:=z8 hr.ownU g ho
  omega
theorem zaq.grown {w:World}{b base:Nat}{s:ByteArray}{a:Nat}{er:Int}{v lv v5:Value}{ns:List Nod}(h:zaq lv ns)(hs:RdS w b base s a er v ns)(ho:v5.ownBlock=lv.ownBlock∨v5.ownBlock=some w.heap.size):zaq v5 ns:=fun n hm g off s' he hg=>by
 rcases ho with ho|ho
 ·exact h n hm g off s' he (ho▸hg)
 ·rw[ho]at hg
  injection hg with hg
  obtain⟨cs,hcs⟩:=(hs.kids n hm).blk g off s' he
  have:=za hcs
  omega
theorem zgW {w:World}{base g:Nat}{x:Int}(h:w.heap[g]?=some (.cells #[.int .i64 x] 3))(hb:base≤g):xj w base (.slice (some ⟨g,0,none⟩) 1 1) [x]:=
 ⟨some ⟨g,0,none⟩,1,rfl,⟨rfl,.inr ⟨g,1,_,rfl,hb,h,Nat.le_refl _,by unfold maxLen;omega,rfl,rfl⟩⟩⟩
set_option maxRecDepth 100000 in
set_option maxHeartbeats 8000000 in
theorem zi9 (b base:Nat)(s:ByteArray)(at_:Nat)(IH:∀a,at_ < a→zc7 b base s a)(v:Value)(ns:List Nod)(w:World)(h:RdS w b base s at_ 0 v ns)(hb:base≤w.heap.size)(ha:at_≤s.size)(hs:s.size≤1000)(hn:ns.length≤4*at_+3):
 Calls Tryz.prog 113 #[ptr b] w (zgV w b base s at_ v ns 0 1 0 0):=by
 have H0:Hid (RdS w b base s at_ 0 v (ns++[])):=zh (by rw[List.append_nil];exact h); have HIH:=zh IH; clear h IH; go_in
 go_wp2_with fail; go_loopg [3] (s.size+1 - at_) (fun gh lv wr=>∃(a:Nat) (er:Int) (v1:Value) (ns2:List Nod) (xs:List Int),a≤s.size∧Hid (gh=if er=0 then s.size+1 - a else 0)∧Hid (RdS wr b base s a er v1 (ns++ns2))∧Hid (RdT b v w v1 wr)∧Hid (xj wr w.heap.size lv xs)∧Hid (er=0→at_≤a∧ns2.length+3*xs.length≤4*(a - at_))∧Hid (ns2.length+(if xs.length=0 then 0 else 2)≤4*(s.size - at_))∧Hid (er≠0→xs.length≠0)∧Hid (xs.length≤2000)∧Hid (zaq lv (ns++ns2))∧Hid (Ze w ns2))
 case atStart=>exact⟨at_,0,v,[],[],ha,zh (by simp),H0,zh RdT.refl,zh ⟨none,0,rfl,vr.nil _ _⟩,zh (fun _=>⟨Nat.le_refl _,by simp⟩),zh (by simp),zh (fun h=>absurd rfl h),zh (by simp),zh (fun n hn g off s' he h=>by cases h),zh (Ze.nil w)⟩
 case round=>
  obtain⟨a,er,v1,ns2,xs,ha2,GH,H,T,LR,OK,ALL,NE,LEN,SEP,NEW⟩:=hrel
  clear H0; have BDS:Hid (ns.length+ns2.length≤10000):=zh (by have:=ALL.out;omega); go_upto_region 2 with fail; go_cut [29] (fun nv wc=>∃nb:Bool,nv=.bool nb∧Hid (nb=true→er=0∧a < s.size)∧Hid (RdS wc b base s a er v1 (ns++ns2))∧Hid (RdT b v w v1 wc)∧Hid (xj wc w.heap.size u3 xs))
  case first=>
   by_cases e0:er=0∧a < s.size
   ·obtain⟨rfl,hlt⟩:=e0
    have mval:(decide ((0:Int)=0)&&decide (a < s.size))=true:=by simp[hlt]
    have HLT:=zh hlt
    obtain⟨xA,hxA⟩:∃x,s[a]?=some x:=⟨_,getElem?_pos s a hlt⟩
    have IA:=qS hxA (a:Nat) rfl
    obtain⟨cc,hyA,hlA⟩:∃c:Nat,xA.toNat=c∧c < 256:=⟨_,rfl,xA.toNat_lt⟩
    rw[hyA]at IA
    clear hxA hyA
    obtain⟨q0,hq0⟩:∃q:Bool,((cc:Int) !=124)=q:=⟨_,rfl⟩
    obtain⟨q1,hq1⟩:∃q:Bool,((cc:Int) !=41)=q:=⟨_,rfl⟩
    cases q0
    all_goals
     have MO:=zh (fun V (x:Ext wr V)=>qE b s a 0 v1 V (H.out.blk.ext x))
     obtain⟨c0,c1,c2,c3⟩:=H.out.blk.cells
     have lb:=H.out.blk.lt; go_upto_region 2 with fail; refine zg (26) (zd [0] (.step 1 (zd [2,3,4,5,7,8,9] (zj [6,10,11,12,13,14,15,16,17,18,19,20,21,22,23,24,25] .fin)))) (by kernel_rfl) (by kernel_rfl) ?_; (repeat first|refine yq ?_|refine yr ?_)
     refine zp fun next hn=>?_;simp only[pick,yp]; go_wp2_with fail
     refine(MO.out _ xi).mono ?_
     rintro e Vm ⟨rfl,xm⟩; have XM:Hid (Ext wr Vm):=zh ((xi:Ext wr wr.drew).trans xm)
     rw[mval]
     clear xm; go_wp2_with fail; refine zk (fun _=>yZ XM.out) (hn _ _ ?_); clear hn next MO; (repeat first|refine yq ?_|refine yr ?_)
     refine zv ?_; clear c0 c1 c2 c3 lb; go_wp2_with fail; go_meet
     exact⟨_,rfl,zh (fun h=>by first|exact⟨rfl,HLT.out⟩|exact⟨trivial,HLT.out⟩|cases h),zh (H.out.ext XM.out),zh (T.out.trans (RdT.of_ext XM.out)),zh (LR.out.ext XM.out)⟩
   ·have mval:(decide (er=0)&&decide (a < s.size))=false:=by
     by_cases h1:er=0
     ·have:¬a < s.size:=fun h2=>e0 ⟨h1,h2⟩
      simp[this]
     ·simp[h1]
    have MO:=zh (fun V (x:Ext wr V)=>qE b s a er v1 V (H.out.blk.ext x))
    obtain⟨c0,c1,c2,c3⟩:=H.out.blk.cells
    have lb:=H.out.blk.lt; go_upto_region 2 with fail; refine zg (26) (zd [0] (.step 1 (zd [2,3,4,5,7,8,9] (zj [6,10,11,12,13,14,15,16,17,18,19,20,21,22,23,24,25] .fin)))) (by kernel_rfl) (by kernel_rfl) ?_; (repeat first|refine yq ?_|refine yr ?_)
    refine zp fun next hn=>?_;simp only[pick,yp]; go_wp2_with fail
    refine(MO.out _ xi).mono ?_
    rintro e Vm ⟨rfl,xm⟩; have XM:Hid (Ext wr Vm):=zh ((xi:Ext wr wr.drew).trans xm)
    rw[mval]
    clear xm; go_wp2_with fail; refine zk (fun _=>yZ XM.out) (hn _ _ ?_); clear hn next MO; (repeat first|refine yq ?_|refine yr ?_)
    refine zv ?_; clear c0 c1 c2 c3 lb; go_wp2_with fail; go_meet
    exact⟨false,rfl,zh (fun h=>by cases h),zh (H.out.ext XM.out),zh (T.out.trans (RdT.of_ext XM.out)),zh (LR.out.ext XM.out)⟩
  case rest=>
   obtain⟨nb,rfl,NB,H',T',LR'⟩:=hcut
   clear H T LR; have H:=zh H'.out; have T:=zh T'.out; have LR:=zh LR'.out; clear H' T' LR'; cases nb with
   |true=>
    obtain⟨rfl,hlt⟩:=NB.out rfl
    clear NB
    obtain⟨k1,k2⟩:=OK.out (by first|rfl|trivial)
    have IT:=zh (zjy b base s a (HIH.out (a+1) (by omega)) v1 (ns++ns2) wc H.out (Nat.le_trans hb T.out.size) hlt hs (by simp only[List.length_append];omega)); go_wp2_with fail; refine IT.out.mono ?_; rintro e w3 ⟨r,a3,er3,v3,ns3,rfl,ha3,h3,t3,hok3,hall3,hnew3⟩
    rw[List.append_assoc]at h3
    have H3:=zh h3; have T3:=zh (T.out.trans t3); have LR3:=zh (t3.row H.out LR.out); have OK3:=zh hok3; have ALL3:=zh hall3; have SEP3:Hid (zaq u3 (ns++(ns2++ns3))):=zh (by rw[←List.append_assoc];exact SEP.out.of_new (w:=w) LR.out hnew3); have NEW3:Hid (Ze w (ns2++ns3)):=zh (NEW.out.append (hnew3.low T.out.size)); clear h3 t3 hok3 hall3 hnew3 IT H T LR SEP NEW
    obtain⟨LA,lc,hlv,_⟩:=id LR3.out
    subst hlv; have XA:Ext w3 (w3.alloc (.cells #[.int .i64 r] 3)):=xi; have H4:=zh (H3.out.ext XA); have T4:=zh (T3.out.trans (RdT.of_ext XA)); have LR4:=zh (LR3.out.ext XA); clear XA; go_wp2_with (at_builtin;refine yV w (by rfl) (.tmp 30) (.tmp 33) rfl LR4.out r w3.heap.size rfl rfl (by simp) (by rw[cr 0 (heap_alloc_new w3 (.cells #[.int .i64 r] 3))];rfl) (by have:=LEN.out;omega) (by have:=T4.out.size;omega) ?_;intro v5 w5 hr5 hg5 hat5)
    have H5:=zh (H4.out.grown LR4.out hg5 SEP3.out); have T5:=zh (T4.out.grown LR4.out hg5); have LR5:=zh hr5; have SEP5:=zh (SEP3.out.grown H4.out hat5); clear hr5 hg5 hat5; go_roundg (if er3=0 then s.size+1 - a3 else 0)
    case rel=>exact⟨a3,er3,v3,ns2++ns3,xs++[r],ha3,zh rfl,H5,T5,LR5,zh (fun h=>by have:=OK3.out h;simp only[List.length_append,List.length_cons,List.length_nil];omega),zh (by have:=ALL3.out;simp only[List.length_append,List.length_cons,List.length_nil];rw[if_neg (by omega)];omega),zh (fun _=>by simp),zh (by simp only[List.length_append,List.length_cons,List.length_nil];omega),SEP5,NEW3⟩
    case measure=>
     have hg:=GH.out; simp only[if_true,eq_self]at hg
     rw[hg]
     by_cases h:er3=0
     ·rw[if_pos h]
      have:=OK3.out h
      omega
     ·rw[if_neg h]
      omega
   |false=>
    obtain⟨LA,lc,rfl,hk⟩:=LR.out.kid
    obtain⟨n,hn'⟩:∃n,xs.length=n:=⟨_,rfl⟩
    have HK:=zh hk; have HN:=zh hn'; by_cases z0:n=0
    ·subst z0; have q0:(((0:Nat):Int)==0)=true:=rfl; simp only[hn']
     clear hk hn'; have HPW:=zh (J6 b base s a er v1 (ns++ns2) 1 Cl.zero none [] 0 wc H.out (vW.empty wc) Cl.zero_ok (Nat.le_trans hb T.out.size) (by simp only[List.length_append];have:=BDS.out;omega)); unfold Cl.V Cl.zero at HPW; simp only[List.length_nil]at HPW
     go_wp2_with fail; refine HPW.out.mono ?_; rintro e wp ⟨vp,rfl,hp,tp⟩; have HP:=zh hp; have TP:=zh (T.out.trans tp); clear hp tp HPW
     rw[List.append_assoc]at HP
     go_wp2_with fail; go_ret
     exact⟨_,a,er,vp,_,rfl,ha2,HP.out,TP.out,fun h=>by have:=OK.out h;have:=HN.out;exact⟨by omega,by simp only[List.length_append,List.length_cons,List.length_nil];omega⟩,by have h1:=ALL.out;have h2:=HN.out;rw[if_pos h2]at h1;simp only[List.length_append,List.length_cons,List.length_nil];omega,NEW.out.append (Ze.one w _ _)⟩
    ·by_cases z1:n=1
     ·subst z1; have q0:(((1:Nat):Int)==0)=false:=rfl; have q1:(((1:Nat):Int)==1)=true:=rfl
      obtain⟨g,off,rfl,hlg,hc⟩:=hk.ints (by omega)
      obtain⟨x0,hx0⟩:∃x,xs.getD 0 0=x:=⟨_,rfl⟩
      have y0:=hc 0 (by omega)
      rw[hx0,Nat.add_zero]at y0
      simp only[hn']
      clear hk hn' hc hx0; go_wp2_with fail; go_ret
      exact⟨x0,a,er,v1,ns2,rfl,ha2,H.out,T.out,fun h=>by have:=OK.out h;have:=HN.out;exact⟨by omega,by omega⟩,by have h1:=ALL.out;have h2:=HN.out;rw[if_neg (show ¬xs.length=0 by omega)]at h1;omega,NEW.out⟩
     ·have q0:(((n:Nat):Int)==0)=false:=by simp;omega
      have q1:(((n:Nat):Int)==1)=false:=by simp;omega
      have HZ:Hid (2≤n):=zh (by omega); simp only[hn']
      clear hk z0 z1; have HPW:=zh (J6 b base s a er v1 (ns++ns2) 3 Cl.zero LA xs lc wc H.out HK.out Cl.zero_ok (Nat.le_trans hb T.out.size) (by simp only[List.length_append];have:=BDS.out;omega)); unfold Cl.V Cl.zero at HPW
      rw[hn']at HPW
      clear hn'; go_wp2_with fail; refine HPW.out.mono ?_; rintro e wp ⟨vp,rfl,hp,tp⟩; have HP:=zh hp; have TP:=zh (T.out.trans tp); clear hp tp HPW
      rw[List.append_assoc]at HP
      go_wp2_with fail; go_ret
      exact⟨_,a,er,vp,_,rfl,ha2,HP.out,TP.out,fun h=>by have:=OK.out h;have:=HN.out;have:=HZ.out;exact⟨by omega,by simp only[List.length_append,List.length_cons,List.length_nil];omega⟩,by have h1:=ALL.out;have h2:=HN.out;have h3:=HZ.out;rw[if_neg (show ¬xs.length=0 by omega)]at h1;simp only[List.length_append,List.length_cons,List.length_nil];omega,NEW.out.append (fun n hn g off s' he=>by
       rw[List.mem_singleton]at hn
       subst hn; have he:LA=some ⟨g,off,s'⟩:=he; subst he; exact zV LR.out.ownU g rfl)⟩
set_option maxRecDepth 100000 in
set_option maxHeartbeats 8000000 in
theorem zj5 (b base:Nat)(s:ByteArray)(at_:Nat)(IH:∀a,at_ < a→zc7 b base s a)(hs:s.size≤1000):zc7 b base s at_:=by
 intro v ns w h hb ha hn; have CW:=zh (zi9 b base s at_ IH v ns w h hb ha hs hn); have HIH:=zh IH; clear h IH; go_in
 go_wp2_with fail; refine CW.out.mono ?_; rintro e w1 ⟨r0,a0,er0,v0,ns0,rfl,ha0,h1,t1,hok0,hall0,hnew0⟩
 obtain⟨kb,hkb⟩:∃n,w1.heap.size=n:=⟨_,rfl⟩
 obtain⟨W1,hW1⟩:∃U,w1.alloc (.cells #[.int .i64 r0] 3)=U:=⟨_,rfl⟩
 have B1:W1.heap[kb]?=some (.cells #[.int .i64 r0] 3):=by rw[←hW1,←hkb];exact heap_alloc_new _ _
 have X1:Ext w1 W1:=by rw[←hW1];exact xi
 have H0:=zh (h1.ext X1); have T0:=zh (t1.trans (RdT.of_ext X1)); have L0:Hid (xj W1 w.heap.size (.slice (some ⟨kb,0,none⟩) 1 1) [r0]):=zh (zgW B1 (by have:=t1.size;omega)); have OK0:=zh hok0; have ALL0:=zh hall0; have NEW0:=zh hnew0; have SEP0:Hid (zaq (.slice (some ⟨kb,0,none⟩) 1 1) (ns++ns0)):=zh (fun n hn g off s' he hg=>by
  injection hg with hg; subst hg
  obtain⟨cs,hcs⟩:=(h1.kids n hn).blk kb off s' he
  have:=za hcs
  omega)
 obtain⟨g0,hg0⟩:∃g:Nat,g=if er0=0 then s.size+1 - a0 else 0:=⟨_,rfl⟩
 have GH0:=zh hg0; clear h1 t1 hok0 hall0 hnew0 CW hg0 B1 X1; go_wp2_with fail; try simp only[hkb,hW1]
 clear hkb hW1; go_loopg [3] g0 (fun gh lv wr=>∃(a:Nat) (er:Int) (v1:Value) (ns2:List Nod) (xs:List Int),a≤s.size∧Hid (gh=if er=0 then s.size+1 - a else 0)∧Hid (RdS wr b base s a er v1 (ns++ns2))∧Hid (RdT b v w v1 wr)∧Hid (xj wr w.heap.size lv xs)∧Hid (er=0→at_≤a∧ns2.length≤4*(a - at_)+1∧xs.length≤a+1)∧Hid (ns2.length≤4*(s.size - at_)+1)∧Hid (0 < xs.length)∧Hid (xs.length≤2000)∧Hid (zaq lv (ns++ns2))∧Hid (Ze w ns2))
 case atStart=>exact⟨a0,er0,v0,ns0,[r0],ha0,GH0,H0,T0,L0,zh (fun h=>by have:=OK0.out h;exact⟨by omega,by omega,by simp⟩),zh (by have:=ALL0.out;omega),zh (by simp),zh (by simp),SEP0,NEW0⟩
 case round=>
  obtain⟨a,er,v1,ns2,xs,ha2,GH,H,T,LR,OK,ALL,NE,LEN,SEP,NEW⟩:=hrel
  clear H0 T0 L0 OK0 ALL0 NEW0 SEP0 GH0; have BDS:Hid (ns.length+ns2.length≤10000):=zh (by have:=ALL.out;omega); go_upto_region 2 with fail; go_cut [20] (fun nv wc=>∃nb:Bool,nv=.bool nb∧Hid (nb=true→er=0∧a < s.size)∧Hid (RdS wc b base s a er v1 (ns++ns2))∧Hid (RdT b v w v1 wc)∧Hid (xj wc w.heap.size u3 xs))
  case first=>
   by_cases e0:er=0∧a < s.size
   ·obtain⟨rfl,hlt⟩:=e0
    have mval:(decide ((0:Int)=0)&&decide (a < s.size))=true:=by simp[hlt]
    have HLT:=zh hlt
    obtain⟨xA,hxA⟩:∃x,s[a]?=some x:=⟨_,getElem?_pos s a hlt⟩
    have IA:=qS hxA (a:Nat) rfl
    obtain⟨cc,hyA,hlA⟩:∃c:Nat,xA.toNat=c∧c < 256:=⟨_,rfl,xA.toNat_lt⟩
    rw[hyA]at IA
    clear hxA hyA
    obtain⟨q0,hq0⟩:∃q:Bool,((cc:Int)==124)=q:=⟨_,rfl⟩
    have MO:=zh (fun V (x:Ext wr V)=>qE b s a 0 v1 V (H.out.blk.ext x))
    obtain⟨c0,c1,c2,c3⟩:=H.out.blk.cells
    have lb:=H.out.blk.lt; go_upto_region 2 with fail; refine zg (14) (zd [0] (.step 1 (zd [2,3,4,5,7,8,9] (zj [6,10,11,12,13] .fin)))) (by kernel_rfl) (by kernel_rfl) ?_; (repeat first|refine yq ?_|refine yr ?_)
    refine zp fun next hn=>?_;simp only[pick,yp]; go_wp2_with fail
    refine(MO.out _ xi).mono ?_
    rintro e Vm ⟨rfl,xm⟩; have XM:Hid (Ext wr Vm):=zh ((xi:Ext wr wr.drew).trans xm)
    rw[mval]
    clear xm; go_wp2_with fail; refine zk (fun _=>yZ XM.out) (hn _ _ ?_); clear hn next MO; (repeat first|refine yq ?_|refine yr ?_)
    refine zv ?_; clear c0 c1 c2 c3 lb; go_wp2_with fail; go_meet
    exact⟨_,rfl,zh (fun h=>by first|exact⟨rfl,HLT.out⟩|exact⟨trivial,HLT.out⟩|cases h),zh (H.out.ext XM.out),zh (T.out.trans (RdT.of_ext XM.out)),zh (LR.out.ext XM.out)⟩
   ·have mval:(decide (er=0)&&decide (a < s.size))=false:=by
     by_cases h1:er=0
     ·have:¬a < s.size:=fun h2=>e0 ⟨h1,h2⟩
      simp[this]
     ·simp[h1]
    have MO:=zh (fun V (x:Ext wr V)=>qE b s a er v1 V (H.out.blk.ext x))
    obtain⟨c0,c1,c2,c3⟩:=H.out.blk.cells
    have lb:=H.out.blk.lt; go_upto_region 2 with fail; refine zg (14) (zd [0] (.step 1 (zd [2,3,4,5,7,8,9] (zj [6,10,11,12,13] .fin)))) (by kernel_rfl) (by kernel_rfl) ?_; (repeat first|refine yq ?_|refine yr ?_)
    refine zp fun next hn=>?_;simp only[pick,yp]; go_wp2_with fail
    refine(MO.out _ xi).mono ?_
    rintro e Vm ⟨rfl,xm⟩; have XM:Hid (Ext wr Vm):=zh ((xi:Ext wr wr.drew).trans xm)
    rw[mval]
    clear xm; go_wp2_with fail; refine zk (fun _=>yZ XM.out) (hn _ _ ?_); clear hn next MO; (repeat first|refine yq ?_|refine yr ?_)
    refine zv ?_; clear c0 c1 c2 c3 lb; go_wp2_with fail; go_meet
    exact⟨false,rfl,zh (fun h=>by cases h),zh (H.out.ext XM.out),zh (T.out.trans (RdT.of_ext XM.out)),zh (LR.out.ext XM.out)⟩
  case rest=>
   obtain⟨nb,rfl,NB,H',T',LR'⟩:=hcut
   clear H T LR; have H:=zh H'.out; have T:=zh T'.out; have LR:=zh LR'.out; clear H' T' LR'; cases nb with
   |true=>
    obtain⟨rfl,hlt⟩:=NB.out rfl
    clear NB
    obtain⟨k1,k2,k3⟩:=OK.out (by first|rfl|trivial)
    obtain⟨c0,c1,c2,c3⟩:=H.out.blk.cells
    have lb:=H.out.blk.lt; have f1:=zi H.out.blk 1; have M:=zh (H.out.set1 (a+1)); have ML:=zh (M.out.2.row H.out LR.out); go_upto_region 4 with fail
    obtain⟨W3,hW3⟩:∃U,wc.setCell ⟨b,1,none⟩ (.int .i64 ((a:Int)+1))=U:=⟨_,rfl⟩
    have hW3':wc.setCell ⟨b,1,none⟩ (.int .i64 ((a+1:Nat):Int))=W3:=by rw[←hW3];rfl
    rw[hW3']at ML M
    have H2:Hid (RdS W3 b base s (a+1) 0 v1 (ns++ns2)):=zh M.out.1; have T2:Hid (RdT b v w v1 W3):=zh (T.out.trans M.out.2)
    rw[hW3]
    clear hW3 hW3' M f1 c0 c1 c2 c3 lb H T LR; have IT:=zh (zi9 b base s (a+1) (fun a' h=>HIH.out a' (by omega)) v1 (ns++ns2) W3 H2.out (Nat.le_trans hb T2.out.size) (by omega) hs (by simp only[List.length_append];omega)); go_wp2_with fail; refine IT.out.mono ?_; rintro e w3 ⟨r,a3,er3,v3,ns3,rfl,ha3,h3,t3,hok3,hall3,hnew3⟩
    rw[List.append_assoc]at h3
    have H3:=zh h3; have T3:=zh (T2.out.trans t3); have LR3:=zh (t3.row H2.out ML.out); have OK3:=zh hok3; have ALL3:=zh hall3; have SEP3:Hid (zaq u3 (ns++(ns2++ns3))):=zh (by rw[←List.append_assoc];exact SEP.out.of_new (w:=w) ML.out hnew3); have NEW3:Hid (Ze w (ns2++ns3)):=zh (NEW.out.append (hnew3.low T2.out.size)); clear h3 t3 hok3 hall3 hnew3 IT H2 T2 ML SEP NEW
    obtain⟨LA,lc,hlv,_⟩:=id LR3.out
    subst hlv; have XA:Ext w3 (w3.alloc (.cells #[.int .i64 r] 3)):=xi; have H4:=zh (H3.out.ext XA); have T4:=zh (T3.out.trans (RdT.of_ext XA)); have LR4:=zh (LR3.out.ext XA); clear XA; go_wp2_with (at_builtin;refine yV w (by rfl) (.tmp 28) (.tmp 31) rfl LR4.out r w3.heap.size rfl rfl (by simp) (by rw[cr 0 (heap_alloc_new w3 (.cells #[.int .i64 r] 3))];rfl) (by have:=LEN.out;omega) (by have:=T4.out.size;omega) ?_;intro v5 w5 hr5 hg5 hat5)
    have H5:=zh (H4.out.grown LR4.out hg5 SEP3.out); have T5:=zh (T4.out.grown LR4.out hg5); have LR5:=zh hr5; have SEP5:=zh (SEP3.out.grown H4.out hat5); clear hr5 hg5 hat5; go_roundg (if er3=0 then s.size+1 - a3 else 0)
    case rel=>exact⟨a3,er3,v3,ns2++ns3,xs++[r],ha3,zh rfl,H5,T5,LR5,zh (fun h=>by have:=OK3.out h;simp only[List.length_append,List.length_cons,List.length_nil];omega),zh (by have:=ALL3.out;simp only[List.length_append];omega),zh (by simp),zh (by simp only[List.length_append,List.length_cons,List.length_nil];omega),SEP5,NEW3⟩
    case measure=>
     have hg:=GH.out; simp only[if_true,eq_self]at hg
     rw[hg]
     by_cases h:er3=0
     ·rw[if_pos h]
      have:=OK3.out h
      omega
     ·rw[if_neg h]
      omega
   |false=>
    obtain⟨LA,lc,rfl,hk⟩:=LR.out.kid
    obtain⟨n,hn'⟩:∃n,xs.length=n:=⟨_,rfl⟩
    have HK:=zh hk; have HN:=zh hn'; by_cases z1:n=1
    ·subst z1; have q1:(((1:Nat):Int)==1)=true:=rfl
     obtain⟨g,off,rfl,hlg,hc⟩:=hk.ints (by omega)
     obtain⟨x0,hx0⟩:∃x,xs.getD 0 0=x:=⟨_,rfl⟩
     have y0:=hc 0 (by omega)
     rw[hx0,Nat.add_zero]at y0
     simp only[hn']
     clear hk hn' hc hx0; go_wp2_with fail; go_ret
     exact⟨x0,a,er,v1,ns2,rfl,ha2,H.out,T.out,fun h=>by have:=OK.out h;exact⟨by omega,by omega⟩,by have:=ALL.out;omega,NEW.out⟩
    ·have q1:(((n:Nat):Int)==1)=false:=by simp;omega
     simp only[hn']
     clear hk z1; have HPW:=zh (J6 b base s a er v1 (ns++ns2) 4 Cl.zero LA xs lc wc H.out HK.out Cl.zero_ok (Nat.le_trans hb T.out.size) (by simp only[List.length_append];have:=BDS.out;omega)); unfold Cl.V Cl.zero at HPW
     rw[hn']at HPW
     clear hn'; go_wp2_with fail; refine HPW.out.mono ?_; rintro e wp ⟨vp,rfl,hp,tp⟩; have HP:=zh hp; have TP:=zh (T.out.trans tp); clear hp tp HPW
     rw[List.append_assoc]at HP
     go_wp2_with fail; go_ret
     exact⟨_,a,er,vp,_,rfl,ha2,HP.out,TP.out,fun h=>by have:=OK.out h;exact⟨by omega,by simp only[List.length_append,List.length_cons,List.length_nil];omega⟩,by have:=ALL.out;simp only[List.length_append,List.length_cons,List.length_nil];omega,NEW.out.append (fun n hn g off s' he=>by
      rw[List.mem_singleton]at hn
      subst hn; have he:LA=some ⟨g,off,s'⟩:=he; subst he; exact zV LR.out.ownU g rfl)⟩
theorem ziy (b base:Nat)(s:ByteArray)(hs:s.size≤1000):∀(d at_:Nat),s.size+1 - at_≤d→zc7 b base s at_:=by
 intro d; induction d with
 |zero=>intro at_ hd v ns w h hb ha hn;omega
 |succ d ih=>
  intro at_ hd; by_cases hle:at_≤s.size
  ·exact zj5 b base s at_ (fun a h=>ih a (by omega)) hs
  ·intro v ns w h hb ha hn;omega
structure YI (w:World)(v:Value)(ns:List Nod):Prop where
 row:∃A c,v=.slice A ns.length c∧yI w A (Yo ns)∧ns.length≤c∧(A=none→c=0)∧∀g off s,A=some ⟨g,off,s⟩→∃cs,w.heap[g]?=some (.cells cs 189)
 kids:∀n∈ns,vW w n.kA n.kids n.kc
 cls:∀n∈ns,n.c.ok
theorem YI.ext {w w':World}{v:Value}{ns:List Nod}(h:YI w v ns)(e:Ext w w'):YI w' v ns:=by
 obtain⟨A,c,h1,h2,h3,h4,h5⟩:=h.row
 exact⟨⟨A,c,h1,h2.ext e,h3,h4,fun g off s hA=>by
  obtain⟨cs,hcs⟩:=h5 g off s hA
  exact⟨cs,zb hcs e⟩⟩,fun n hn=>(h.kids n hn).ext e,h.cls⟩
theorem RdS.rx {w:World}{b base:Nat}{s:ByteArray}{a:Nat}{er:Int}{v:Value}{ns:List Nod}(h:RdS w b base s a er v ns):YI w v ns:=by
 obtain⟨A,c,h1,h2,h3,h4⟩:=zW h.row
 exact⟨⟨A,c,h1,h2,h3,h4.2,fun g off s hA=>zZ h.row g (by rw[h1,hA];rfl)⟩,h.kids,h.cls⟩
theorem zdq (w:World):YI w zH []:=⟨⟨none,0,rfl,fun h=>absurd h (by simp[Yo]),Nat.le_refl _,fun _=>rfl,fun g off s h=>by cases h⟩,fun _ h=>(by cases h),fun _ h=>(by cases h)⟩
def qj (k:Int):Int×Int:=if k=1∨k=2 then(0,0)else if k=3∨k=4 then(2,512)else if k=5∨k=6∨k=7 then(1,1)else(-1,-1)
set_option maxRecDepth 100000 in
set_option maxHeartbeats 1000000 in
theorem zih (k:Int)(w:World):Calls Tryz.prog 116 #[.int .i64 k] w fun e w'=>e=.returned (.tuple #[.int .i64 (qj k).1,.int .i64 (qj k).2])∧Ext w w':=by
 have HP:=zh (show qj k=if k=1∨k=2 then(0,0)else if k=3∨k=4 then(2,512)else if k=5∨k=6∨k=7 then(1,1)else(-1,-1)from rfl)
 obtain⟨y,hy⟩:∃y,qj k=y:=⟨_,rfl⟩
 rw[hy]at HP ⊢
 clear hy; by_cases h1:k=1∨k=2∨k=3∨k=4∨k=5∨k=6∨k=7
 ·rcases h1 with rfl|rfl|rfl|rfl|rfl|rfl|rfl
  all_goals
   go_in
   go_wp2_with fail; go_ret2
   exact⟨by rw[HP.out];rfl,xi⟩
 ·have n1:(k==1)=false:=by simp;omega
  have n2:(k==2)=false:=by simp;omega
  have n3:(k==3)=false:=by simp;omega
  have n4:(k==4)=false:=by simp;omega
  have n5:(k==5)=false:=by simp;omega
  have n6:(k==6)=false:=by simp;omega
  have n7:(k==7)=false:=by simp;omega
  have HE:Hid (y=(-1,-1)):=zh (by rw[HP.out,if_neg (by omega),if_neg (by omega),if_neg (by omega)]); clear h1; go_in
  go_wp2_with fail; go_ret2
  exact⟨by rw[HE.out];rfl,xi⟩
theorem YP {P:Program}(w:World)(d:Nat)(t e:TypeId)(k:IntKind)(a b c f a' b' c' f':Int)(ht:P.underlying t=some (.array 4 e))(he:P.underlying e=some (.int k)){i:TypeInfo}(hi:P.info? e=some i)(hc:P.cellsOf e=1):
 (Op.equalIn (d+2) t (.agg #[.int k a,.int k b,.int k c,.int k f]) (.agg #[.int k a',.int k b',.int k c',.int k f'])).run P w=.ok (decide (a=a'∧b=b'∧c=c'∧f=f')) w:=by
 have he':=fun(w:World) (x y:Int)=>run_equalIn_int (P:=P) w d e k k x y he; have hg:∀w:World,(isAgg e).run P w=.ok false w:=fun w=>by simp[isAgg,run_underlying he]
 rw[Op.equalIn]
 simp only[Sem.run_bind,run_underlying ht,Result.andThen_ok,run_sizeOf w hi,hc]
 rw[Std.Legacy.Range.forIn_eq_forIn_range']
 simp[List.range',go_sem,part,hg,he']
 by_cases h0:a=a'<;>by_cases h1:b=b'<;>by_cases h2:c=c'<;>by_cases h3:f=f'<;>simp[h0,h1,h2,h3]
theorem ziv:(Tryz.prog.info? 51).map (fun i=>(i.zero,i.size,i.bytes))=some (some (.int .u64 0),1,8):=by kernel_rfl
theorem zfl (a b c d:Int):∃r:Bool,∀w:World,(Op.equalIn 10000 145 (.agg #[.int .u64 a,.int .u64 b,.int .u64 c,.int .u64 d]) (.agg #[.int .u64 0,.int .u64 0,.int .u64 0,.int .u64 0])).run Tryz.prog w=.ok r w:=by
 obtain⟨i3,hi,_⟩:=info_parts ziv
 exact⟨_,fun w=>YP w 9998 145 51 .u64 a b c d 0 0 0 0 Tryz.underlying145 Tryz.underlying51 hi (by kernel_rfl)⟩
theorem zaf:∀{ns:List Nod} {i:Nat} {n:Nod} (r:Nat),ns[i]?=some n→r < 6→(Yo ns)[i*6+r]?=(zhm n)[r]?
 |[],i,n,r,h,_=>by simp at h
 |m ::ns,0,n,r,h,hr=>by
  simp at h
  subst h; simp only[Yo,List.flatMap_cons,Nat.zero_mul,Nat.zero_add]
  rw[List.getElem?_append_left (by simp[zhm,zcr];omega)]
 |m ::ns,i+1,n,r,h,hr=>by
  have ih:=zaf (ns:=ns) (i:=i) r (by simpa using h) hr; simp only[Yo,List.flatMap_cons]at*
  rw[List.getElem?_append_right (by simp[zhm,zcr];omega),←ih]
  congr 1
  simp[zhm,zcr]
  omega
structure JX (w:World)(g k:Nat)(n:Nod):Prop where
 kind:w.cell? ⟨g,k,none⟩=some (.int .i64 n.k)
 a:w.cell? ⟨g,k+1,none⟩=some (.int .u64 n.c.a)
 b:w.cell? ⟨g,k+1+1,none⟩=some (.int .u64 n.c.b)
 c:w.cell? ⟨g,k+1+2,none⟩=some (.int .u64 n.c.c)
 d:w.cell? ⟨g,k+1+3,none⟩=some (.int .u64 n.c.d)
 kids:w.cell? ⟨g,k+5,none⟩=some (.slice n.kA n.kids.length n.kc)
 lt:g < w.heap.size
theorem YI.at_ {w:World}{v:Value}{ns:List Nod}(h:YI w v ns)(h0:0 < ns.length):∃g off c,v=.slice (some ⟨g,off,none⟩) ns.length c∧∀(i:Nat) (n:Nod),ns[i]?=some n→JX w g (off+i*6) n:=by
 obtain⟨A,c,rfl,hc,_⟩:=h.row
 obtain⟨g,off,rfl,hg,hcc⟩:=hc (by rw[zdS];omega)
 refine⟨g,off,c,rfl,fun i n hi=>?_⟩
 have key:∀r v,r < 6→(zhm n)[r]?=some v→w.cell? ⟨g,off+(i*6+r),none⟩=some v:=fun r v hr hv=>hcc _ v ((zaf r hi hr).trans hv)
 exact⟨key 0 _ (by omega) rfl,key 1 _ (by omega) rfl,key 2 _ (by omega) rfl,key 3 _ (by omega) rfl,key 4 _ (by omega) rfl,key 5 _ (by omega) rfl,hg⟩
def zgI (ns:List Nod)(q:Nat):Nat:=(ns.flatMap (·.kids)).count (q:Int)
structure zga (ns:List Nod):Prop where
 pos:0 < ns.length
 most:ns.length≤512
 fit:∀n∈ns,0≤(qj n.k).1∧(qj n.k).1≤n.kids.length∧(n.kids.length:Int)≤(qj n.k).2
 low:∀(i:Nat) (n:Nod),ns[i]?=some n→∀k∈n.kids,0≤k∧k < i
 once:∀q,q+1 < ns.length→zgI ns q=1
def ziY (w:World)(P:Prop)(e:Ending)(w':World):Prop:=∃er:Int,e=.returned (.int .i64 er)∧(er=0→P)∧Ext w w'
structure zar (w0 w:World)(g m:Nat)(ns:List Nod)(i:Nat)(ks:List Int):Prop where
 ext:Ext w0 w
 row:∃us,jE w w0.heap.size g m us∧∀q,q < m→us[q]?=some ((((ns.take i).flatMap (·.kids)++ks).count (q:Int):Nat):Int)
 fit:∀n∈ns.take i,0≤(qj n.k).1∧(qj n.k).1≤n.kids.length∧(n.kids.length:Int)≤(qj n.k).2
 low:∀(j:Nat) (n:Nod),j < i→ns[j]?=some n→∀k∈n.kids,0≤k∧k < j
 len:((ns.take i).flatMap (·.kids)).length≤512*i
theorem zar.ext' {w0 w w':World}{g m:Nat}{ns:List Nod}{i:Nat}{ks:List Int}(h:zar w0 w g m ns i ks)(e:Ext w w'):zar w0 w' g m ns i ks:=by
 obtain⟨us,h1,h2⟩:=h.row
 exact⟨h.ext.trans e,⟨us,h1.ext e,h2⟩,h.fit,h.low,h.len⟩
theorem zar.bump {w0 w:World}{g m:Nat}{ns:List Nod}{i q:Nat}{ks:List Int}(h:zar w0 w g m ns i ks)(hq:q < m):∃c:Nat,c≤512*i+ks.length∧w.cell? ⟨g,q,none⟩=some (.int .i64 (c:Int))∧w.frozen? ⟨g,q,none⟩=false∧g < w.heap.size∧zar w0 (w.setCell ⟨g,q,none⟩ (.int .i64 ((c:Int)+1))) g m ns i (ks++[(q:Int)]):=by
 obtain⟨us,h1,h2⟩:=h.row
 obtain⟨c,hc⟩:∃c,((ns.take i).flatMap (·.kids)++ks).count (q:Int)=c:=⟨_,rfl⟩
 have hx:=h2 q hq
 rw[hc]at hx
 have hle:c≤512*i+ks.length:=by
  have:=List.count_le_length (a:=(q:Int)) (l:=(ns.take i).flatMap (·.kids)++ks)
  rw[hc,List.length_append]at this
  have:=h.len
  omega
 refine⟨c,hle,h1.get hx,h1.frozen q,h1.lt,h.ext.setCell h1.low _,⟨_,h1.put q _,fun q' hq'=>?_⟩,h.fit,h.low,h.len⟩
 rw[←List.append_assoc,List.count_append,List.count_singleton]
 by_cases he:q=q'
 ·subst he
  rw[List.getElem?_set_self (by rw[h1.1];exact hq),hc]
  simp
 ·rw[List.getElem?_set_ne he,h2 q' hq',if_neg (by simp;omega)]
  rfl
theorem zar.next {w0 w:World}{g m:Nat}{ns:List Nod}{i:Nat}{n:Nod}(h:zar w0 w g m ns i n.kids)(hn:ns[i]?=some n)(hf:0≤(qj n.k).1∧(qj n.k).1≤n.kids.length∧(n.kids.length:Int)≤(qj n.k).2)(hl:∀k∈n.kids,0≤k∧k < i):zar w0 w g m ns (i+1) []:=by
 have ht:ns.take (i+1)=ns.take i++[n]:=by rw[List.take_add_one,hn];rfl
 have hle:(n.kids.length:Int)≤512:=by
  have:=hf.2.2
  unfold qj at this; split at this
  ·have:(n.kids.length:Int)≤0:=this;omega
  ·split at this
   ·exact this
   ·split at this
    ·have:(n.kids.length:Int)≤1:=this;omega
    ·have:(n.kids.length:Int)≤-1:=this;omega
 obtain⟨us,h1,h2⟩:=h.row
 refine⟨h.ext,⟨us,h1,fun q hq=>?_⟩,fun m hm=>?_,fun j p hj hp=>?_,?_⟩
 ·rw[h2 q hq,ht,List.flatMap_append]
  simp
 ·rw[ht]at hm
  rcases List.mem_append.1 hm with hm|hm
  ·exact h.fit m hm
  ·rw[List.mem_singleton]at hm
   subst hm; exact hf
 ·by_cases hji:j < i
  ·exact h.low j p hji hp
  ·obtain rfl:j=i:=by omega
   rw[hn]at hp
   injection hp with hp; subst hp; exact hl
 ·rw[ht,List.flatMap_append,List.length_append,List.flatMap_cons,List.flatMap_nil,List.append_nil]
  have:=h.len
  omega
set_option maxRecDepth 100000 in
set_option maxHeartbeats 4000000 in
theorem J3 (v:Value)(ns:List Nod)(w:World)(h:YI w v ns)(hl:ns.length≤100000):Calls Tryz.prog 79 #[v] w (ziY w (zga ns)):=by
 obtain⟨m,hm⟩:∃m,ns.length=m:=⟨_,rfl⟩
 by_cases h0:1≤m∧m≤512
 ·obtain⟨g,off,c,rfl,hat⟩:=h.at_ (by omega)
  rw[hm]
  have q1:decide ((m:Int) < 1)=false:=by rw[decide_eq_false_iff_not];omega
  have q2:decide ((512:Int) < (m:Int))=false:=by rw[decide_eq_false_iff_not];omega
  obtain⟨ub,hub⟩:∃b,w.heap.size=b:=⟨_,rfl⟩
  obtain⟨W,hW⟩:∃W,w.alloc (.cells (madeCells #[.int .i64 0] m) 3)=W:=⟨_,rfl⟩
  have hmk:=fun w1=>VW w1 m m rfl (by omega); have X1:Ext w W:=by rw[←hW];exact xi
  have U1:W.heap[ub]?=some (.cells (madeCells #[.int .i64 0] m) 3):=by rw[←hW,←hub];exact heap_alloc_new _ _
  have I1:Hid (zar w W ub m ns 0 []):=zh ⟨X1,⟨_,jE.made U1 (by omega) (by omega),fun q hq=>by rw[List.getElem?_replicate_of_lt hq];simp⟩,fun n hn=>by simp at hn,fun j n hj=>by omega,by simp⟩; have HAT:=zh (fun w1 (e:Ext w w1) i n (hn:ns[i]?=some n)=>(show JX w1 g (off+i*6) n from by
   obtain⟨a1,a2,a3,a4,a5,a6,a7⟩:=hat i n hn
   exact⟨zy a1 a7 e,zy a2 a7 e,zy a3 a7 e,zy a4 a7 e,zy a5 a7 e,zy a6 a7 e,Nat.lt_of_lt_of_le a7 e.size⟩))
  have HKI:=zh (fun w1 (e:Ext w w1) n (hn:n∈ns)=>(h.kids n hn).ext e); have HM:=zh hm; clear h hat X1 U1 hm hl; go_in
  go_wp2_with fail; try simp only[hub,hW]
  clear hub hW hmk; go_loopw [4] (fun iv wr=>∃i:Nat,iv=.int .i64 i∧i≤m∧Hid (zar w wr ub m ns i [])) (fun iv _=>m - (intOf iv).toNat)
  case atStart=>exact⟨0,rfl,Nat.zero_le _,I1⟩
  case round=>
   clear I1
   obtain⟨i,rfl,hi,I⟩:=hrel
   by_cases hlt:i < m
   ·obtain⟨n,hn'⟩:∃n,ns[i]?=some n:=⟨_,List.getElem?_eq_getElem (by have:=HM.out;omega)⟩
    have HN:=zh hn'
    obtain⟨a1,a2,a3,a4,a5,a6,a7⟩:=HAT.out wr I.out.ext i n hn'
    have PW:=zh (zih n.k wr)
    obtain⟨lo,hlo⟩:∃lo,(qj n.k).1=lo:=⟨_,rfl⟩
    obtain⟨hi2,hhi⟩:∃hi,(qj n.k).2=hi:=⟨_,rfl⟩
    rw[hlo,hhi]at PW
    have HPF:=zh (And.intro hlo hhi); clear hn' hlo hhi; go_wp2_with fail; refine PW.out.mono ?_; rintro e w2 ⟨rfl,x2⟩; have I2:=zh (I.out.ext' x2); clear a1 a2 a3 a4 a5 a6 a7 x2 PW I; go_upto_region 8 with fail; go_cut [74] (fun nv wc=>∃nb:Bool,nv=.bool nb∧Hid (nb=false→0≤lo∧lo≤n.kids.length∧(n.kids.length:Int)≤hi2)∧Hid (zar w wc ub m ns i []))
    case first=>
     obtain⟨a1,a2,a3,a4,a5,a6,a7⟩:=HAT.out w2 I2.out.ext i n HN.out
     by_cases b1:lo < 0
     ·have d1:decide (lo < 0)=true:=decide_eq_true b1; go_wp2_with fail; go_meet
      exact⟨true,rfl,zh (fun h=>by cases h),I2⟩
     ·have d1:decide (lo < 0)=false:=decide_eq_false b1; by_cases b2:(n.kids.length:Int) < lo
      ·have d2:decide ((n.kids.length:Int) < lo)=true:=decide_eq_true b2; go_wp2_with fail; go_meet
       exact⟨true,rfl,zh (fun h=>by cases h),I2⟩
      ·have d2:decide ((n.kids.length:Int) < lo)=false:=decide_eq_false b2; by_cases b3:hi2 < (n.kids.length:Int)
       ·have d3:decide (hi2 < (n.kids.length:Int))=true:=decide_eq_true b3; go_wp2_with fail; go_meet
        exact⟨true,rfl,zh (fun h=>by cases h),I2⟩
       ·have d3:decide (hi2 < (n.kids.length:Int))=false:=decide_eq_false b3; have FIT:Hid (0≤lo∧lo≤n.kids.length∧(n.kids.length:Int)≤hi2):=zh (by omega); by_cases b4:n.k=2
        ·have d4:(n.k !=2)=false:=by rw[b4];rfl
         clear b4; go_wp2_with fail; go_meet
         exact⟨false,rfl,zh (fun _=>FIT.out),I2⟩
        ·have d4:(n.k !=2)=true:=by simpa using b4
         obtain⟨cr,heq⟩:=zfl n.c.a n.c.b n.c.c n.c.d
         clear b4; go_wp2_with fail; go_meet
         exact⟨_,rfl,zh (fun _=>FIT.out),I2⟩
    case rest=>
     obtain⟨nb,rfl,FIT,I3⟩:=hcut
     clear I2; cases nb with
     |true=>
      go_wp2_with fail; go_ret
      exact⟨2,rfl,fun h=>by simp at h,I3.out.ext⟩
     |false=>
      have FIT2:=zh (FIT.out rfl); have HKL:Hid (n.kids.length≤512):=zh (by
       have:=FIT2.out.2.2
       have:=HPF.out.2
       unfold qj at this; split at this
       ·have:(0:Int)=hi2:=this;omega
       ·split at this
        ·have:(512:Int)=hi2:=this;omega
        ·split at this
         ·have:(1:Int)=hi2:=this;omega
         ·have:(-1:Int)=hi2:=this;omega)
      clear FIT; go_wp2_with fail; go_loopw [7] (fun kv wq=>∃j:Nat,kv=.int .i64 j∧j≤n.kids.length∧Hid (zar w wq ub m ns i (n.kids.take j))∧Hid (∀k∈n.kids.take j,0≤k∧k < i)) (fun kv _=>n.kids.length - (intOf kv).toNat)
      case atStart=>exact⟨0,rfl,Nat.zero_le _,zh (by simpa using I3.out),zh (by simp)⟩
      case round=>
       clear I3
       obtain⟨j,rfl,hj,I,LW⟩:=hrel
       obtain⟨a1,a2,a3,a4,a5,a6,a7⟩:=HAT.out wr I.out.ext i n HN.out
       by_cases hjl:j < n.kids.length
       ·have KI:=HKI.out wr I.out.ext n (List.mem_of_getElem? HN.out)
        obtain⟨kg,ko,hkA,klt,kcc⟩:=KI.ints (by omega)
        obtain⟨x,hx⟩:∃x,n.kids.getD j 0=x:=⟨_,rfl⟩
        have k0:=kcc j hjl
        rw[hx]at k0
        have hj5:j < 512:=by have:=HKL.out;omega
        have HT:Hid (n.kids.take (j+1)=n.kids.take j++[x]):=zh (by rw[←hx];exact qu hjl)
        rw[hkA]at a6
        clear hx kcc KI hkA; by_cases bx:0≤x∧x < i
        ·obtain⟨q,rfl⟩:∃q:Nat,x=q:=⟨x.toNat,by omega⟩
         have d1:decide ((q:Int) < 0)=false:=by rw[decide_eq_false_iff_not];omega
         have d2:decide (i≤q)=false:=by rw[decide_eq_false_iff_not];omega
         have hqm:q < m:=by omega
         obtain⟨cq,hcq,u0,uf,ul,B⟩:=I.out.bump hqm
         have hcq2:cq≤1000000:=by
          rw[List.length_take]at hcq
          have:=HKL.out
          omega
         have e1:wrap64 ((cq:Int)+1)=(cq:Int)+1:=IntWalk.wrap64_in _ (by omega); have HB:=zh B; have HBX:=zh bx
         rw[←HT.out]at HB
         clear B hcq bx; go_wp2_with fail; go_roundw
         case rel=>exact⟨j+1,by go_num,by omega,HB,zh (fun k hk=>by
          rw[HT.out]at hk
          rcases List.mem_append.1 hk with hk|hk
          ·exact LW.out k hk
          ·rw[List.mem_singleton]at hk
           subst hk; exact HBX.out)⟩
         case measure=>simp[intOf];omega
        ·by_cases b1:x < 0
         ·have d1:decide (x < 0)=true:=decide_eq_true b1; clear bx b1; go_wp2_with fail; go_ret
          exact⟨2,rfl,fun h=>by simp at h,I.out.ext⟩
         ·have d1:decide (x < 0)=false:=decide_eq_false b1; have d2:decide ((i:Int)≤x)=true:=by rw[decide_eq_true_iff];omega
          clear bx b1; go_wp2_with fail; go_ret
          exact⟨2,rfl,fun h=>by simp at h,I.out.ext⟩
       ·obtain rfl:j=n.kids.length:=by omega
        have I4:Hid (zar w wr ub m ns (i+1) []):=zh (by
         have h1:=I.out; have h2:=LW.out
         rw[List.take_length]at h1 h2
         refine h1.next HN.out ?_ h2
         rw[HPF.out.1,HPF.out.2]
         exact FIT2.out)
        go_wp2_with fail; go_roundw
        case rel=>exact⟨i+1,by go_num,by omega,I4⟩
        case measure=>simp[intOf];omega
   ·obtain rfl:i=m:=by omega
    go_wp2_with fail; go_loopw [9] (fun iv wq=>∃j:Nat,iv=.int .i64 j∧j≤i∧Hid (zar w wq ub i ns i [])∧Hid (∀q,q < j→q+1 < i→zgI ns q=1)) (fun iv _=>i - (intOf iv).toNat)
    case atStart=>exact⟨0,rfl,Nat.zero_le _,I,zh (fun q h=>by omega)⟩
    case round=>
     clear I
     obtain⟨j,rfl,hj,I,ON⟩:=hrel
     by_cases hjl:j < i
     ·have e1:wrap64 ((i:Int) - 1)=(i:Int) - 1:=IntWalk.wrap64_in _ (by omega); by_cases hj2:j+1 < i
      ·have d1:decide ((j:Int) < (i:Int) - 1)=true:=by rw[decide_eq_true_iff];omega
       obtain⟨us,h1,h2⟩:=I.out.row
       have hx:=h2 j hjl
       obtain⟨cq,hcq⟩:∃c,((ns.take i).flatMap (fun x:Nod=>x.kids)++[]).count (j:Int)=c:=⟨_,rfl⟩
       rw[hcq]at hx
       have u0:=h1.get hx; have ul:=h1.lt; have HU:Hid (zgI ns j=cq):=zh (by
        rw[←hcq,List.append_nil,List.take_of_length_le (by rw[HM.out];exact Nat.le_refl _)]
        rfl)
       clear h1 h2 hx hcq; by_cases bq:cq=1
       ·have d2:((cq:Int) !=1)=false:=by subst bq;rfl
        have HU1:Hid (zgI ns j=1):=zh (HU.out.trans bq); clear bq HU; go_wp2_with fail; go_roundw
        case rel=>exact⟨j+1,by go_num,by omega,I,zh (fun q hq1 hq2=>by
         by_cases hqq:q=j
         ·subst hqq;exact HU1.out
         ·exact ON.out q (by omega) hq2)⟩
        case measure=>simp[intOf];omega
       ·have d2:((cq:Int) !=1)=true:=by simp;omega
        clear bq; go_wp2_with fail; go_ret
        exact⟨2,rfl,fun h=>by simp at h,I.out.ext⟩
      ·have d1:decide ((j:Int) < (i:Int) - 1)=false:=by rw[decide_eq_false_iff_not];omega
       go_wp2_with fail; go_roundw
       case rel=>exact⟨j+1,by go_num,by omega,I,zh (fun q hq1 hq2=>ON.out q (by omega) hq2)⟩
       case measure=>simp[intOf];omega
     ·obtain rfl:j=i:=by omega
      go_wp2_with fail; go_ret
      exact⟨0,rfl,fun _=>⟨by have:=HM.out;omega,by have:=HM.out;omega,fun n hn=>I.out.fit n (by rw[List.take_of_length_le (by have:=HM.out;omega)];exact hn),fun q n hn=>I.out.low q n (by have:=(List.getElem?_eq_some_iff.1 hn).1;have:=HM.out;omega) hn,fun q hq=>ON.out q (by have:=HM.out;omega) (by have:=HM.out;omega)⟩,I.out.ext⟩
 ·obtain⟨A,c,rfl,_⟩:=h.row
  rw[hm]
  clear h hm hl; by_cases h1:m < 1
  ·have q1:decide ((m:Int) < 1)=true:=by rw[decide_eq_true_iff];omega
   go_in
   go_wp2_with fail; go_ret
   exact⟨2,rfl,fun h=>by simp at h,xi⟩
  ·have q1:decide ((m:Int) < 1)=false:=by rw[decide_eq_false_iff_not];omega
   have q2:decide ((512:Int) < (m:Int))=true:=by rw[decide_eq_true_iff];omega
   go_in
   go_wp2_with fail; go_ret
   exact⟨2,rfl,fun h=>by simp at h,xi⟩
end Go.Proofs.YtmbelmngniddjaaGreat
