/- Rf: texts that the proof rests on, part 11. -/
import Derived.Test.YtmbelmngniddjaaGreatRf10
namespace Go.Proofs.YtmbelmngniddjaaGreat
open Go.RowKit
attribute [local go_sem] zF zB zI zJ zw zt zN zD zX zQ zK zP zO zL zT zR zS zG zM zC
section
variable {w w':World}{b base:Nat}{s:ByteArray}{at_:Nat}{er:Int}{v:Value}{ns:List Nod}
theorem RdS.set1 (h:RdS w b base s at_ er v ns)(n:Nat):RdS (w.setCell ⟨b,1,none⟩ (.int .i64 n)) b base s n er v ns∧RdT b v w v (w.setCell ⟨b,1,none⟩ (.int .i64 n)):=by
 have T:=zA.set1 (w:=w) b 1 (.int .i64 n)
 refine⟨⟨h.blk.move n,ye h.row (fun g hg=>T.block g (z8 h.row g hg) (fun he=>?_)),fun m hm=>(h.kids m hm).turn T (fun g cs hg hh=>h.ne g cs hg (.inl hh)),h.cls⟩,T.mono (fun k _ hk=>.inl hk),fun _ h=>.inl h⟩
 subst he
 obtain⟨cur,hcur⟩:=zZ h.row g hg
 have hb:=h.blk; unfold RDe at hb; exact zU hcur hb (by decide) rfl
end
def QG (w:World)(b base:Nat)(s:ByteArray)(at_:Nat)(v:Value)(ns:List Nod)(e:Ending)(w':World):Prop:=
 ∃(c at2:Nat) (er:Int),e=.returned (.int .u8 c)∧c < 256∧at2≤s.size∧RdS w' b base s at2 er v ns∧RdT b v w v w'∧(er=0→at_ < at2)
set_option maxRecDepth 100000 in
set_option maxHeartbeats 4000000 in
theorem zbG (b base:Nat)(s:ByteArray)(at_:Nat)(v:Value)(ns:List Nod)(w:World)(h:RdS w b base s at_ 0 v ns)(ha:at_≤s.size)(hs:s.size≤1000):
 Calls Tryz.prog 143 #[ptr b] w (QG w b base s at_ v ns):=by
 have H:=zh h; have MO:=zh (qE b s at_ 0 v w h.blk); clear h; by_cases hlt:at_ < s.size
 ·rw[decide_eq_true hlt]at MO
  simp only[decide_true,Bool.and_true]at MO
  go_in
  go_wp2_with fail; refine MO.out.mono ?_; rintro e w1 ⟨rfl,hx1⟩; have H1:=zh (H.out.ext hx1); have X1:=zh hx1; clear hx1 MO H
  obtain⟨x,hx⟩:∃x,s[at_]?=some x:=⟨_,getElem?_pos s at_ hlt⟩
  have hxl:=x.toNat_lt; have I0:=qS hx at_ rfl
  obtain⟨cc,hcc⟩:∃c,x.toNat=c:=⟨_,rfl⟩
  rw[hcc]at I0 hxl
  obtain⟨c0,c1,c2,c3⟩:=H1.out.blk.cells
  have lb:=H1.out.blk.lt; clear hx hcc; go_upto_region 4 with fail; refine zg (10) (zd [0,1,2,4,5,6] (zj [3,7,8,9] .fin)) (by kernel_rfl) (by kernel_rfl) ?_; (repeat first|refine yq ?_|refine yr ?_)
  refine zv ?_; have H2:=zh (H1.out.ext (w':=w1.drew) xi); have T2:Hid (RdT b v w v w1.drew):=zh ((RdT.of_ext X1.out).trans (RdT.of_ext xi))
  obtain⟨W2,hW2⟩:∃V,w1.drew=V:=⟨_,rfl⟩
  rw[hW2]at H2 T2 ⊢
  clear c0 c1 c2 c3 lb hW2 I0 H1 X1; by_cases a1:cc=110
  ·have b1:((cc:Int)==110)=true:=by subst a1;rfl
   obtain⟨c0,c1,c2,c3⟩:=H2.out.blk.cells
   have lb:=H2.out.blk.lt; have f1:=zi H2.out.blk 1; have M:=zh (H2.out.set1 (at_+1)); go_wp2_with fail; go_ret
   exact⟨10,at_+1,0,rfl,by omega,by omega,M.out.1,T2.out.trans M.out.2,fun _=>by omega⟩
  ·have b1:((cc:Int)==110)=false:=by simp;omega
   by_cases a2:cc=116
   ·have b2:((cc:Int)==116)=true:=by subst a2;rfl
    obtain⟨c0,c1,c2,c3⟩:=H2.out.blk.cells
    have lb:=H2.out.blk.lt; have f1:=zi H2.out.blk 1; have M:=zh (H2.out.set1 (at_+1)); go_wp2_with fail; go_ret
    exact⟨9,at_+1,0,rfl,by omega,by omega,M.out.1,T2.out.trans M.out.2,fun _=>by omega⟩
   ·have b2:((cc:Int)==116)=false:=by simp;omega
    by_cases a3:cc=114
    ·have b3:((cc:Int)==114)=true:=by subst a3;rfl
     obtain⟨c0,c1,c2,c3⟩:=H2.out.blk.cells
     have lb:=H2.out.blk.lt; have f1:=zi H2.out.blk 1; have M:=zh (H2.out.set1 (at_+1)); go_wp2_with fail; go_ret
     exact⟨13,at_+1,0,rfl,by omega,by omega,M.out.1,T2.out.trans M.out.2,fun _=>by omega⟩
    ·have b3:((cc:Int)==114)=false:=by simp;omega
     by_cases a4:cc=120
     ·have b4:((cc:Int)==120)=true:=by subst a4;rfl
      go_wp2_with fail; refine wp_loop_rounds 3 ?_
      rw[rounds_succ]
      obtain⟨c0,c1,c2,c3⟩:=H2.out.blk.cells
      have lb:=H2.out.blk.lt; by_cases g1:at_+1 < s.size
      ·have q1:decide (s.size≤at_+1)=false:=decide_eq_false (by omega); go_upto_region 16 with fail; refine zg (12) (zd [0,1,2,4,6,7,8] (zj [3,5,9,10,11] .fin)) (by kernel_rfl) (by kernel_rfl) ?_; (repeat first|refine yq ?_|refine yr ?_)
       refine zv ?_; have H1a:=zh (H2.out.ext (w':=W2.drew) xi); have T1a:Hid (RdT b v w v W2.drew):=zh (T2.out.trans (RdT.of_ext xi))
       obtain⟨W1a,hW1a⟩:∃V,W2.drew=V:=⟨_,rfl⟩
       rw[hW1a]at H1a T1a ⊢
       clear c0 c1 c2 c3 lb hW1a q1
       obtain⟨y1,hy1⟩:∃x,s[at_+1]?=some x:=⟨_,getElem?_pos s (at_+1) g1⟩
       have J1:=qS hy1 ((at_:Int)+1) (by omega)
       obtain⟨d1,hd1,hdd1⟩:∃d:Nat,y1.toNat=d∧d < 256:=⟨_,rfl,y1.toNat_lt⟩
       rw[hd1]at J1
       have HX1:=zh (fun V=>zjB (d1:Int) V (by omega) (by omega))
       obtain⟨c0,c1,c2,c3⟩:=H1a.out.blk.cells
       have lb:=H1a.out.blk.lt; clear hy1 hd1; go_upto_region 19 with fail; refine zg (13) (zd [0,1,2,4,5,6,8] (zj [3,7,9,10] (.step 11 (zd [12] .fin)))) (by kernel_rfl) (by kernel_rfl) ?_; (repeat first|refine yq ?_|refine yr ?_)
       refine zp fun next hn=>?_;simp only[pick,yp]; go_wp2_with fail
       refine(HX1.out _).mono ?_
       rintro e w1b ⟨⟨z1,rfl,hz1,hzz1⟩,hx1b⟩; have X1b:Hid (Ext W1a w1b):=zh ((xi:Ext W1a W1a.drew).trans hx1b); have H1b:=zh (H1a.out.ext X1b.out); have T1b:=zh (T1a.out.trans (RdT.of_ext X1b.out)); go_wp2_with fail; refine zk (fun _=>yZ X1b.out) (hn _ _ ?_); clear hn next hx1b c0 c1 c2 c3 lb J1; (repeat first|refine yq ?_|refine yr ?_)
       refine zv ?_; by_cases n1:z1 < 0
       ·have m1:decide (z1 < 0)=true:=decide_eq_true n1
        obtain⟨c0,c1,c2,c3⟩:=H1b.out.blk.cells
        have lb:=H1b.out.blk.lt; have FA:=zh (vV b base s at_ (at_+1) 0 7 v ns w1b H1b.out)
        rw[show((at_+1:Nat):Int)=(at_:Int)+1 by omega]at FA
        go_wp2_with fail; refine FA.out.mono ?_; rintro e wf ⟨rfl,hf,tf⟩; have HF:=zh hf; have TF:=zh (T1b.out.trans tf); clear hf tf c0 c1 c2 c3 lb FA; go_wp2_with fail; go_ret
        exact⟨0,(at_+1),7,rfl,by omega,by omega,by simpa using HF.out,TF.out,fun h=>by simp at h⟩
       ·have m1:decide (z1 < 0)=false:=decide_eq_false n1; go_wp2_with fail
        rw[rounds_succ]
        obtain⟨c0,c1,c2,c3⟩:=H1b.out.blk.cells
        have lb:=H1b.out.blk.lt; by_cases g2:at_+2 < s.size
        ·have q2:decide (s.size≤at_+2)=false:=decide_eq_false (by omega); go_upto_region 16 with fail; refine zg (12) (zd [0,1,2,4,6,7,8] (zj [3,5,9,10,11] .fin)) (by kernel_rfl) (by kernel_rfl) ?_; (repeat first|refine yq ?_|refine yr ?_)
         refine zv ?_; have H2a:=zh (H1b.out.ext (w':=w1b.drew) xi); have T2a:Hid (RdT b v w v w1b.drew):=zh (T1b.out.trans (RdT.of_ext xi))
         obtain⟨W2a,hW2a⟩:∃V,w1b.drew=V:=⟨_,rfl⟩
         rw[hW2a]at H2a T2a ⊢
         clear c0 c1 c2 c3 lb hW2a q2
         obtain⟨y2,hy2⟩:∃x,s[at_+2]?=some x:=⟨_,getElem?_pos s (at_+2) g2⟩
         have J2:=qS hy2 ((at_:Int)+2) (by omega)
         obtain⟨d2,hd2,hdd2⟩:∃d:Nat,y2.toNat=d∧d < 256:=⟨_,rfl,y2.toNat_lt⟩
         rw[hd2]at J2
         have HX2:=zh (fun V=>zjB (d2:Int) V (by omega) (by omega))
         obtain⟨c0,c1,c2,c3⟩:=H2a.out.blk.cells
         have lb:=H2a.out.blk.lt; clear hy2 hd2; go_upto_region 19 with fail; refine zg (13) (zd [0,1,2,4,5,6,8] (zj [3,7,9,10] (.step 11 (zd [12] .fin)))) (by kernel_rfl) (by kernel_rfl) ?_; (repeat first|refine yq ?_|refine yr ?_)
         refine zp fun next hn=>?_;simp only[pick,yp]; go_wp2_with fail
         refine(HX2.out _).mono ?_
         rintro e w2b ⟨⟨z2,rfl,hz2,hzz2⟩,hx2b⟩; have X2b:Hid (Ext W2a w2b):=zh ((xi:Ext W2a W2a.drew).trans hx2b); have H2b:=zh (H2a.out.ext X2b.out); have T2b:=zh (T2a.out.trans (RdT.of_ext X2b.out)); go_wp2_with fail; refine zk (fun _=>yZ X2b.out) (hn _ _ ?_); clear hn next hx2b c0 c1 c2 c3 lb J2; (repeat first|refine yq ?_|refine yr ?_)
         refine zv ?_; by_cases n2:z2 < 0
         ·have m2:decide (z2 < 0)=true:=decide_eq_true n2
          obtain⟨c0,c1,c2,c3⟩:=H2b.out.blk.cells
          have lb:=H2b.out.blk.lt; have FA:=zh (vV b base s at_ (at_+2) 0 7 v ns w2b H2b.out)
          rw[show((at_+2:Nat):Int)=(at_:Int)+2 by omega]at FA
          go_wp2_with fail; refine FA.out.mono ?_; rintro e wf ⟨rfl,hf,tf⟩; have HF:=zh hf; have TF:=zh (T2b.out.trans tf); clear hf tf c0 c1 c2 c3 lb FA; go_wp2_with fail; go_ret
          exact⟨0,(at_+2),7,rfl,by omega,by omega,by simpa using HF.out,TF.out,fun h=>by simp at h⟩
         ·have m2:decide (z2 < 0)=false:=decide_eq_false n2; go_wp2_with fail
          rw[rounds_succ]
          obtain⟨c0,c1,c2,c3⟩:=H2b.out.blk.cells
          have lb:=H2b.out.blk.lt; have f1:=zi H2b.out.blk 1; have M2:=zh (H2b.out.set1 (at_+2))
          obtain⟨vv,hvv⟩:∃n:Nat,16*z1+z2=(n:Int):=⟨(16*z1+z2).toNat,by omega⟩
          have hv2:vv < 256:=by omega
          have u8w:IntKind.u8.wrap (vv:Int)=(vv:Int):=by show(vv:Int) % 256=vv;omega
          rw[hvv]
          go_upto_region 25 with fail
          obtain⟨W3,hW3⟩:∃V,w2b.setCell ⟨b,1,none⟩ (.int .i64 ((at_:Int)+2))=V:=⟨_,rfl⟩
          have H3:Hid (RdS W3 b base s (at_+2) 0 v ns):=zh (by rw[←hW3];exact M2.out.1); have T3:Hid (RdT b v w v W3):=zh (by rw[←hW3];exact T2b.out.trans M2.out.2)
          rw[hW3]
          clear c0 c1 c2 c3 lb f1 hW3 M2 hvv
          obtain⟨c0,c1,c2,c3⟩:=H3.out.blk.cells
          have lb:=H3.out.blk.lt; have f1:=zi H3.out.blk 1; have M:=zh (H3.out.set1 ((at_+2)+1)); go_wp2_with fail; go_ret
          exact⟨vv,(at_+2)+1,0,rfl,by omega,by omega,M.out.1,T3.out.trans M.out.2,fun _=>by omega⟩
        ·have q2:decide (s.size≤at_+2)=true:=decide_eq_true (by omega); go_upto_region 16 with fail; refine zg (12) (zd [0,1,2,4,6,7,8] (zj [3,5,9,10,11] .fin)) (by kernel_rfl) (by kernel_rfl) ?_; (repeat first|refine yq ?_|refine yr ?_)
         refine zv ?_; have H2a:=zh (H1b.out.ext (w':=w1b.drew) xi); have T2a:Hid (RdT b v w v w1b.drew):=zh (T1b.out.trans (RdT.of_ext xi))
         obtain⟨W2a,hW2a⟩:∃V,w1b.drew=V:=⟨_,rfl⟩
         rw[hW2a]at H2a T2a ⊢
         clear c0 c1 c2 c3 lb hW2a; have FA:=zh (vV b base s at_ s.size 0 8 v ns W2a H2a.out)
         obtain⟨c0,c1,c2,c3⟩:=H2a.out.blk.cells
         have lb:=H2a.out.blk.lt; go_wp2_with fail; refine FA.out.mono ?_; rintro e wf ⟨rfl,hf,tf⟩; have HF:=zh hf; have TF:=zh (T2a.out.trans tf); clear hf tf c0 c1 c2 c3 lb FA; go_wp2_with fail; go_ret
         exact⟨0,s.size,8,rfl,by omega,by omega,by simpa using HF.out,TF.out,fun h=>by simp at h⟩
      ·have q1:decide (s.size≤at_+1)=true:=decide_eq_true (by omega); go_upto_region 16 with fail; refine zg (12) (zd [0,1,2,4,6,7,8] (zj [3,5,9,10,11] .fin)) (by kernel_rfl) (by kernel_rfl) ?_; (repeat first|refine yq ?_|refine yr ?_)
       refine zv ?_; have H1a:=zh (H2.out.ext (w':=W2.drew) xi); have T1a:Hid (RdT b v w v W2.drew):=zh (T2.out.trans (RdT.of_ext xi))
       obtain⟨W1a,hW1a⟩:∃V,W2.drew=V:=⟨_,rfl⟩
       rw[hW1a]at H1a T1a ⊢
       clear c0 c1 c2 c3 lb hW1a; have FA:=zh (vV b base s at_ s.size 0 8 v ns W1a H1a.out)
       obtain⟨c0,c1,c2,c3⟩:=H1a.out.blk.cells
       have lb:=H1a.out.blk.lt; go_wp2_with fail; refine FA.out.mono ?_; rintro e wf ⟨rfl,hf,tf⟩; have HF:=zh hf; have TF:=zh (T1a.out.trans tf); clear hf tf c0 c1 c2 c3 lb FA; go_wp2_with fail; go_ret
       exact⟨0,s.size,8,rfl,by omega,by omega,by simpa using HF.out,TF.out,fun h=>by simp at h⟩
     ·have b4:((cc:Int)==120)=false:=by simp;omega
      have LT:=zh (zfO (cc:Int) W2 (by omega) (by omega)); go_wp2_with fail; refine LT.out.mono ?_; rintro e w3 ⟨bl,rfl,hx3⟩; have H3:=zh (H2.out.ext hx3); have T3:=zh (T2.out.trans (RdT.of_ext hx3)); clear hx3 LT; cases bl with
      |true=>
       have FA:=zh (vV b base s at_ at_ 0 7 v ns w3 H3.out)
       obtain⟨c0,c1,c2,c3⟩:=H3.out.blk.cells
       have lb:=H3.out.blk.lt; go_wp2_with fail; refine FA.out.mono ?_; rintro e wf ⟨rfl,hf,tf⟩; have HF:=zh hf; have TF:=zh (T3.out.trans tf); clear hf tf c0 c1 c2 c3 lb FA; go_wp2_with fail; go_ret
       exact⟨0,at_,7,rfl,by omega,by omega,by simpa using HF.out,TF.out,fun h=>by simp at h⟩
      |false=>
       obtain⟨c0,c1,c2,c3⟩:=H3.out.blk.cells
       have lb:=H3.out.blk.lt; have f1:=zi H3.out.blk 1; have M:=zh (H3.out.set1 (at_+1)); go_wp2_with fail; go_ret
       exact⟨cc,at_+1,0,rfl,by omega,by omega,M.out.1,T3.out.trans M.out.2,fun _=>by omega⟩
 ·rw[decide_eq_false hlt]at MO
  simp only[decide_true,Bool.and_false]at MO
  go_in
  go_wp2_with fail; refine MO.out.mono ?_; rintro e w1 ⟨rfl,hx1⟩; have H1:=zh (H.out.ext hx1); have X1:=zh hx1; have FA:=zh (vV b base s at_ s.size 0 8 v ns w1 (H.out.ext hx1))
  obtain⟨c0,c1,c2,c3⟩:=(H.out.ext hx1).blk.cells
  have lb:=(H.out.ext hx1).blk.lt; clear hx1 MO H; go_wp2_with fail; refine FA.out.mono ?_; rintro e w2 ⟨rfl,h2,t2⟩; have H2:=zh h2; have T2:=zh (RdT.trans (RdT.of_ext X1.out) t2); clear h2 t2 c0 c1 c2 c3 lb FA; go_wp2_with fail; go_ret
  exact⟨0,_,_,rfl,by omega,Nat.le_refl _,by simpa using H2.out,T2.out,fun h=>by simp at h⟩
theorem QG.of {w w1:World}{b base:Nat}{s:ByteArray}{at_ a1:Nat}{v:Value}{ns:List Nod}{e:Ending}{w':World}(h:QG w1 b base s a1 v ns e w')(t:RdT b v w v w1)(ha:at_≤a1):QG w b base s at_ v ns e w':=by
 obtain⟨c,at2,er,h1,h2,h3,h4,h5,h6⟩:=h
 exact⟨c,at2,er,h1,h2,h3,h4,t.trans h5,fun h=>by have:=h6 h;omega⟩
set_option maxRecDepth 100000 in
set_option maxHeartbeats 2000000 in
theorem zjo (b base:Nat)(s:ByteArray)(at_:Nat)(v:Value)(ns:List Nod)(w:World)(h:RdS w b base s at_ 0 v ns)(ha:at_ < s.size)(hs:s.size≤1000):
 Calls Tryz.prog 144 #[ptr b] w (QG w b base s at_ v ns):=by
 have H:=zh h
 obtain⟨c0,c1,c2,c3⟩:=h.blk.cells
 have lb:=h.blk.lt; clear h
 obtain⟨x,hx⟩:∃x,s[at_]?=some x:=⟨_,getElem?_pos s at_ ha⟩
 have hxl:=x.toNat_lt; have I0:=qS hx at_ rfl
 obtain⟨cc,hcc⟩:∃c,x.toNat=c:=⟨_,rfl⟩
 rw[hcc]at I0 hxl
 clear hx hcc; go_in
 go_upto_region 1 with fail; refine zg (10) (zd [0,1,2,4,5,6] (zj [3,7,8,9] .fin)) (by kernel_rfl) (by kernel_rfl) ?_; (repeat first|refine yq ?_|refine yr ?_)
 refine zv ?_; have H2:=zh (H.out.ext (w':=w.drew) xi); have T2:Hid (RdT b v w v w.drew):=zh (RdT.of_ext xi)
 obtain⟨W2,hW2⟩:∃V,w.drew=V:=⟨_,rfl⟩
 rw[hW2]at H2 T2 ⊢
 clear c0 c1 c2 c3 lb hW2 I0
 obtain⟨c0,c1,c2,c3⟩:=H2.out.blk.cells
 have lb:=H2.out.blk.lt; have f1:=zi H2.out.blk 1; have M:=zh (H2.out.set1 (at_+1)); go_upto_region 3 with fail
 obtain⟨W3,hW3⟩:∃V,W2.setCell ⟨b,1,none⟩ (.int .i64 ((at_:Int)+1))=V:=⟨_,rfl⟩
 have H3:Hid (RdS W3 b base s (at_+1) 0 v ns):=zh (by rw[←hW3];exact M.out.1); have T3:Hid (RdT b v w v W3):=zh (by rw[←hW3];exact T2.out.trans M.out.2)
 rw[hW3]
 clear c0 c1 c2 c3 lb f1 hW3 M; by_cases a1:cc=92
 ·have b1:((cc:Int)==92)=true:=by subst a1;rfl
  have ES:=zh (zbG b base s (at_+1) v ns W3 H3.out (by omega) hs); go_wp2_with fail; refine ES.out.mono ?_; intro e w4 hr; have HR:=zh (hr.of T3.out (Nat.le_succ at_))
  obtain⟨c4,at4,er4,rfl,_⟩:=hr
  go_wp2_with fail; go_ret; exact HR.out
 ·have b1:((cc:Int)==92)=false:=by simp;omega
  go_wp2_with fail; go_ret
  exact⟨cc,at_+1,0,rfl,by omega,by omega,H3.out,T3.out,fun _=>by omega⟩
def zjS (w:World)(e:Ending)(w':World):Prop:=∃y:Cl,e=.returned y.V∧y.ok∧Ext w w'
def zkb (x:Cl):Cl:=⟨bits .xor .u64 IntKind.u64.max x.a,bits .xor .u64 IntKind.u64.max x.b,bits .xor .u64 IntKind.u64.max x.c,bits .xor .u64 IntKind.u64.max x.d⟩
theorem ziC (x:Cl):(zkb x).ok:=by
 unfold zkb Cl.ok; dsimp only
 exact⟨vm ..,vm ..,vm ..,vm ..⟩
set_option maxRecDepth 100000 in
set_option maxHeartbeats 2000000 in
theorem zfj (x:Cl)(w:World):Calls Tryz.prog 141 #[x.V] w (zjS w):=by
 obtain⟨a,b,c,d⟩:=x
 unfold Cl.V; dsimp only; have us:IntKind.u64.signed=false:=rfl; go_in
 go_wp2_with fail; refine bodyPost_ret (v:=.agg #[.int .u64 (bits .xor .u64 IntKind.u64.max a),.int .u64 (bits .xor .u64 IntKind.u64.max b),.int .u64 (bits .xor .u64 IntKind.u64.max c),.int .u64 (bits .xor .u64 IntKind.u64.max d)]) (by simp[results,Tryz.results141,go_sem, *]) rfl ⟨zkb ⟨a,b,c,d⟩,rfl,ziC _,xi⟩
set_option maxRecDepth 100000 in
set_option maxHeartbeats 2000000 in
theorem zeg (s:ByteArray)(w:World)(hs:s.size≤1000):Calls Tryz.prog 142 #[.string s] w (zjS w):=by
 obtain⟨W,hW⟩:∃W,((w.alloc (.cells #[.int .u64 0,.int .u64 0,.int .u64 0,.int .u64 0] 145)).alloc (.cells #[.int .u64 0,.int .u64 0,.int .u64 0,.int .u64 0] 145))=W:=⟨_,rfl⟩
 have B0:W.heap[w.heap.size]?=some (.cells (yW Cl.zero) 145):=by rw[←hW];exact(by simp only[zm,World.size_alloc];(repeat(split;(first|rfl|(exfalso;omega))));(try(first|(exfalso;omega)|simp_all)))
 have B1:W.heap[w.heap.size+1]?=some (.cells (yW Cl.zero) 145):=by rw[←hW];exact(by simp only[zm,World.size_alloc];(repeat(split;(first|rfl|(exfalso;omega))));(try(first|(exfalso;omega)|simp_all)))
 have X1:Hid (Ext w W):=zh (by rw[←hW];exact xi)
 obtain⟨g,hg⟩:∃g,w.heap.size=g:=⟨_,rfl⟩
 rw[hg]at B0 B1
 have HG:=zh hg; have HB0:=zh B0; have HB1:=zh B1; have HW:=zh hW; clear B0 B1 hW hg; go_in
 go_wp2_with fail; simp only[HW.out,HG.out]
 go_loopw [4] (fun i wr=>∃(k:Nat) (y:Cl),k≤s.size∧i=.int .i64 k∧Hid y.ok∧Hid (wr.heap[g]?=some (.cells (yW Cl.zero) 145))∧Hid (wr.heap[g+1]?=some (.cells (yW y) 145))∧Hid (Ext w wr)) (fun i _=>s.size - (intOf i).toNat)
 case atStart=>exact⟨0,Cl.zero,by omega,rfl,zh Cl.zero_ok,HB0,HB1,X1⟩
 case round=>
  obtain⟨k,y,hk,rfl,hy,h0,h1,hx⟩:=hrel
  clear HB0 HB1 X1; by_cases hlt:k < s.size
  ·obtain⟨x,hxx⟩:∃x,s[k]?=some x:=⟨_,getElem?_pos s k hlt⟩
   have hxl:=x.toNat_lt; have I0:=qS hxx k rfl
   obtain⟨cc,hcc⟩:∃c,x.toNat=c:=⟨_,rfl⟩
   rw[hcc]at I0 hxl
   have CW:=zh (fun V=>zb1 y cc V (by omega))
   obtain⟨z,hz⟩:∃z,zan y cc=z:=⟨_,rfl⟩
   have HZ:Hid z.ok:=zh (by rw[←hz];exact zgd hy.out cc)
   rw[hz]at CW
   unfold Cl.V at CW; have B1:=h1.out; unfold yW at B1; have b0:=cr 0 B1; have b1:=cr 1 B1; have b2:=cr 2 B1; have b3:=cr 3 B1; have bl:=za B1; simp at b0 b1 b2 b3
   clear hxx hcc hz B1; go_upto_region 5 with fail; refine zg (5) (zd [1,2,3] (zj [0] (.step 4 (.step 5 .fin)))) (by kernel_rfl) (by kernel_rfl) ?_; (repeat first|refine yq ?_|refine yr ?_)
   refine zp fun next hn=>?_;simp only[pick,yp]; go_wp2_with fail
   refine(CW.out _).mono ?_
   rintro e V ⟨rfl,hv⟩; have X9:Hid (Ext wr V):=zh ((xi:Ext wr wr.drew).trans hv); have HX:=zh (hx.out.trans X9.out); have C1:=zb h1.out X9.out; have C0:=zh (zb h0.out X9.out); unfold yW at C1; have HC1:=zh C1; go_wp2_with fail; refine zk (fun _=>yZ X9.out) (hn _ _ ?_); clear hn next hv b0 b1 b2 b3 bl I0; have c0:=cr 0 C1; have c1:=cr 1 C1; have c2:=cr 2 C1; have c3:=cr 3 C1; have cl:=za C1; have f1:=fun k=>zi C1 k; simp at c0 c1 c2 c3
   obtain⟨W2,hW2⟩:∃W2,yX V (g+1) (.int .u64 z.a) (.int .u64 z.b) (.int .u64 z.c) (.int .u64 z.d)=W2:=⟨_,rfl⟩
   have G1:Hid (W2.heap[g+1]?=some (.cells (yW z) 145)):=zh (by rw[←hW2];exact yE C1 _ _ _ _); have G0:Hid (W2.heap[g]?=some (.cells (yW Cl.zero) 145)):=zh (by rw[←hW2];exact(yg (S:=fun k=>k=g+1) rfl _ _ _ _).keep C0.out (by omega)); have X3:Hid (Ext w W2):=zh (by rw[←hW2];exact(yg (S:=fun k=>k=g+1) rfl _ _ _ _).ext HX.out (fun k hk=>by have:=HG.out;omega)); unfold yX y8 put2 at hW2; clear C1; (repeat first|refine yq ?_|refine yr ?_)
   refine zp fun next hn=>?_;simp only[pick,yp]; go_wp2_with fail; refine zk (fun h=>absurd rfl h) (hn _ _ ?_); clear hn next; refine zv ?_; try simp only[hW2]
   clear hW2 c0 c1 c2 c3 cl f1; go_wp2_with fail; go_roundw
   case rel=>exact⟨k+1,z,by omega,by go_num,HZ,G0,G1,X3⟩
   case measure=>simp[intOf];omega
  ·have B1:=h1.out; have B0:=h0.out; unfold yW at B1; unfold yW Cl.zero at B0; have b0:=cr 0 B1; have b1:=cr 1 B1; have b2:=cr 2 B1; have b3:=cr 3 B1; have bl:=za B1; have c0:=cr 0 B0; have c1:=cr 1 B0; have c2:=cr 2 B0; have c3:=cr 3 B0; have f1:=fun k=>zi B0 k
   obtain⟨W2,hW2⟩:∃W2,yX wr g (.int .u64 y.a) (.int .u64 y.b) (.int .u64 y.c) (.int .u64 y.d)=W2:=⟨_,rfl⟩
   have G1:=yE B0 (.int .u64 y.a) (.int .u64 y.b) (.int .u64 y.c) (.int .u64 y.d); have X3:Hid (Ext w W2):=zh (by rw[←hW2];exact(yg (S:=fun k=>k=g) rfl _ _ _ _).ext hx.out (fun k hk=>by have:=HG.out;omega))
   rw[hW2]at G1
   unfold yX y8 put2 at hW2; have g0:=cr 0 G1; have g1:=cr 1 G1; have g2:=cr 2 G1; have g3:=cr 3 G1; simp at b0 b1 b2 b3 c0 c1 c2 c3 g0 g1 g2 g3
   clear B0 B1 G1; go_wp2_with fail; exact bodyPost_ret (v:=.agg #[.int .u64 y.a,.int .u64 y.b,.int .u64 y.c,.int .u64 y.d]) (by simp[results,Tryz.results142,go_sem, *]) rfl ⟨y,rfl,hy.out,X3.out⟩
section
variable {w w':World}{b base:Nat}{s:ByteArray}{at_:Nat}{er:Int}{v v':Value}{ns:List Nod}
theorem RdS.neT (h:RdS w b base s at_ er v ns){g:Nat}{cs:Array Value}{T:TypeId}(hg:w.heap[g]?=some (.cells cs T))(h1:T≠189)(h2:T≠140):¬(g=b∨v.ownBlock=some g):=fun hh=>by
 rcases hh with rfl|hh
 ·have hb:=h.blk; unfold RDe at hb; exact zU hg hb h2 rfl
 ·obtain⟨cur,hcur⟩:=zZ h.row g hh
  exact zU hg hcur h1 rfl
theorem RdT.cls (t:RdT b v w v' w')(h:RdS w b base s at_ er v ns){g:Nat}{cs:Array Value}(hg:w.heap[g]?=some (.cells cs 145)):w'.heap[g]?=some (.cells cs 145):=t.1.keep hg (h.neT hg (by decide) (by decide))
end
section
variable {w w':World}{b base:Nat}{s:ByteArray}{at_:Nat}{er:Int}{v v':Value}{ns:List Nod}
theorem RdS.away {S:Nat→Prop}(h:RdS w b base s at_ er v ns)(t:zA S w w')(hS:∀k cs U,w.heap[k]?=some (.cells cs U)→(U=140∨U=189∨U=3)→¬S k):RdS w' b base s at_ er v ns:=
 ⟨by
   have hb:=h.blk; unfold RDe at hb ⊢; exact t.keep hb (hS _ _ _ hb (.inl rfl)),ye h.row (fun g hg=>by
   obtain⟨cur,hcur⟩:=zZ h.row g hg
   exact(t.keep hcur (hS _ _ _ hcur (.inr (.inl rfl)))).trans hcur.symm),fun n hn=>(h.kids n hn).turn t (fun g cs hg=>hS g cs _ hg (.inr (.inr rfl))),h.cls⟩
theorem RdS.cls4 (h:RdS w b base s at_ er v ns){g:Nat}{cs:Array Value}(hg:w.heap[g]?=some (.cells cs 145)){x0 x1 x2 x3:Value}:RdS (yX w g x0 x1 x2 x3) b base s at_ er v ns:=
 h.away (yg (S:=fun k=>k=g) rfl _ _ _ _) (fun k cs' U hk hU hkk=>by
  subst hkk
  rw[hg]at hk
  injection hk with hk; injection hk with _ hk; subst hk
  revert hU
  decide)
theorem RdT.cls4 {w0:World}(t:RdT b v w0 v' w){g:Nat}(hg:w0.heap.size≤g){x0 x1 x2 x3:Value}:RdT b v w0 v' (yX w g x0 x1 x2 x3):=
 ⟨t.1.andThen (yg (S:=fun k=>k=g) rfl x0 x1 x2 x3) (fun _ _ h=>h) (fun k hk hk2=>by omega),t.2⟩
end
def zjJ (w:World)(b base:Nat)(s:ByteArray)(at_:Nat)(v:Value)(ns:List Nod)(e:Ending)(w':World):Prop:=
 ∃(c:Cl) (at2:Nat) (er:Int),e=.returned c.V∧c.ok∧at2≤s.size∧RdS w' b base s at2 er v ns∧RdT b v w v w'∧(er=0→at_ < at2)
set_option maxRecDepth 100000 in
set_option maxHeartbeats 8000000 in
theorem zio (b base:Nat)(s:ByteArray)(at_:Nat)(v:Value)(ns:List Nod)(w:World)(h:RdS w b base s at_ 0 v ns)(ha:at_≤s.size)(hs:s.size≤1000):
 Calls Tryz.prog 140 #[ptr b] w (zjJ w b base s at_ v ns):=by
 obtain⟨W,hW⟩:∃W,((w.alloc (.cells #[.int .u64 0,.int .u64 0,.int .u64 0,.int .u64 0] 145)).alloc (.cells #[.int .u64 0,.int .u64 0,.int .u64 0,.int .u64 0] 145))=W:=⟨_,rfl⟩
 have Z0:Hid (W.heap[w.heap.size]?=some (.cells (yW Cl.zero) 145)):=zh (by rw[←hW];exact(by simp only[zm,World.size_alloc];(repeat(split;(first|rfl|(exfalso;omega))));(try(first|(exfalso;omega)|simp_all)))); have C0:Hid (W.heap[w.heap.size+1]?=some (.cells (yW Cl.zero) 145)):=zh (by rw[←hW];exact(by simp only[zm,World.size_alloc];(repeat(split;(first|rfl|(exfalso;omega))));(try(first|(exfalso;omega)|simp_all)))); have X1:Ext w W:=by rw[←hW];exact xi
 have H0:=zh (h.ext X1); have T0:Hid (RdT b v w v W):=zh (RdT.of_ext X1)
 obtain⟨g,hg⟩:∃g,w.heap.size=g:=⟨_,rfl⟩
 rw[hg]at Z0 C0
 have HG:=zh hg; have HW:=zh hW; clear h X1 hW hg; go_in
 go_upto_region 2 with fail; simp only[HW.out,HG.out]
 go_cut [4] (fun nv wc=>∃nb:Bool,nv=.bool nb∧Hid (nb=true→at_ < s.size)∧Hid (RdS wc b base s at_ 0 v ns)∧Hid (RdT b v w v wc)∧Hid (wc.heap[g]?=some (.cells (yW Cl.zero) 145))∧Hid (wc.heap[g+1]?=some (.cells (yW Cl.zero) 145)))
 case first=>
  by_cases hlt:at_ < s.size
  ·have mval:(decide ((0:Int)=0)&&decide (at_ < s.size))=true:=by simp[hlt]
   obtain⟨xA,hxA⟩:∃x,s[at_]?=some x:=⟨_,getElem?_pos s at_ hlt⟩
   have IA:=qS hxA (at_:Nat) rfl
   obtain⟨yA,hyA,hlA⟩:∃c:Nat,xA.toNat=c∧c < 256:=⟨_,rfl,xA.toNat_lt⟩
   rw[hyA]at IA
   clear hxA hyA; by_cases ya:yA=94
   ·have qa:((yA:Int)==94)=true:=by subst ya;rfl
    have MO:=zh (fun V (x:Ext W V)=>qE b s at_ 0 v V (H0.out.blk.ext x))
    obtain⟨c0,c1,c2,c3⟩:=H0.out.blk.cells
    have lb:=H0.out.blk.lt; go_upto_region 2 with fail; refine zg (15) (zd [0] (.step 1 (zd [2,3,4,5,7,8,9] (zj [6,10,11,12,13,14] .fin)))) (by kernel_rfl) (by kernel_rfl) ?_; (repeat first|refine yq ?_|refine yr ?_)
    refine zp fun next hn=>?_;simp only[pick,yp]; go_wp2_with fail
    refine(MO.out _ xi).mono ?_
    rintro e Vm ⟨rfl,xm⟩; have XM:Hid (Ext W Vm):=zh ((xi:Ext W W.drew).trans xm)
    rw[mval]
    clear xm; go_wp2_with fail; refine zk (fun _=>yZ XM.out) (hn _ _ ?_); clear hn next MO; (repeat first|refine yq ?_|refine yr ?_)
    refine zv ?_; have H0m:=zh (H0.out.ext XM.out); have T0m:Hid (RdT b v w v Vm):=zh (T0.out.trans (RdT.of_ext XM.out)); have Z0m:=zh (zb Z0.out XM.out); have C0m:=zh (zb C0.out XM.out); clear XM mval; clear c0 c1 c2 c3 lb; go_wp2_with fail; go_meet
    exact⟨true,rfl,zh (fun _=>hlt),H0m,T0m,Z0m,C0m⟩
   ·have qa:((yA:Int)==94)=false:=by simp;omega
    have MO:=zh (fun V (x:Ext W V)=>qE b s at_ 0 v V (H0.out.blk.ext x))
    obtain⟨c0,c1,c2,c3⟩:=H0.out.blk.cells
    have lb:=H0.out.blk.lt; go_upto_region 2 with fail; refine zg (15) (zd [0] (.step 1 (zd [2,3,4,5,7,8,9] (zj [6,10,11,12,13,14] .fin)))) (by kernel_rfl) (by kernel_rfl) ?_; (repeat first|refine yq ?_|refine yr ?_)
    refine zp fun next hn=>?_;simp only[pick,yp]; go_wp2_with fail
    refine(MO.out _ xi).mono ?_
    rintro e Vm ⟨rfl,xm⟩; have XM:Hid (Ext W Vm):=zh ((xi:Ext W W.drew).trans xm)
    rw[mval]
    clear xm; go_wp2_with fail; refine zk (fun _=>yZ XM.out) (hn _ _ ?_); clear hn next MO; (repeat first|refine yq ?_|refine yr ?_)
    refine zv ?_; have H0m:=zh (H0.out.ext XM.out); have T0m:Hid (RdT b v w v Vm):=zh (T0.out.trans (RdT.of_ext XM.out)); have Z0m:=zh (zb Z0.out XM.out); have C0m:=zh (zb C0.out XM.out); clear XM mval; clear c0 c1 c2 c3 lb; go_wp2_with fail; go_meet
    exact⟨false,rfl,zh (fun h=>by cases h),H0m,T0m,Z0m,C0m⟩
  ·have mval:(decide ((0:Int)=0)&&decide (at_ < s.size))=false:=by simp[hlt]
   have MO:=zh (fun V (x:Ext W V)=>qE b s at_ 0 v V (H0.out.blk.ext x))
   obtain⟨c0,c1,c2,c3⟩:=H0.out.blk.cells
   have lb:=H0.out.blk.lt; go_upto_region 2 with fail; refine zg (15) (zd [0] (.step 1 (zd [2,3,4,5,7,8,9] (zj [6,10,11,12,13,14] .fin)))) (by kernel_rfl) (by kernel_rfl) ?_; (repeat first|refine yq ?_|refine yr ?_)
   refine zp fun next hn=>?_;simp only[pick,yp]; go_wp2_with fail
   refine(MO.out _ xi).mono ?_
   rintro e Vm ⟨rfl,xm⟩; have XM:Hid (Ext W Vm):=zh ((xi:Ext W W.drew).trans xm)
   rw[mval]
   clear xm; go_wp2_with fail; refine zk (fun _=>yZ XM.out) (hn _ _ ?_); clear hn next MO; (repeat first|refine yq ?_|refine yr ?_)
   refine zv ?_; have H0m:=zh (H0.out.ext XM.out); have T0m:Hid (RdT b v w v Vm):=zh (T0.out.trans (RdT.of_ext XM.out)); have Z0m:=zh (zb Z0.out XM.out); have C0m:=zh (zb C0.out XM.out); clear XM mval; clear c0 c1 c2 c3 lb; go_wp2_with fail; go_meet
   exact⟨false,rfl,zh (fun h=>by cases h),H0m,T0m,Z0m,C0m⟩
 case rest=>
  obtain⟨nb,rfl,NB,H1,T1,Z1,C1⟩:=hcut
  clear H0 T0 Z0 C0; go_upto_if 23 with fail
  go_cut [] (fun wc=>∃a:Nat,a≤s.size∧at_≤a∧Hid (RdS wc b base s a 0 v ns)∧Hid (RdT b v w v wc)∧Hid (wc.heap[g]?=some (.cells (yW Cl.zero) 145))∧Hid (wc.heap[g+1]?=some (.cells (yW Cl.zero) 145)))
  case first=>
   cases nb with
   |false=>
    go_wp2_with fail; go_meet
    exact⟨at_,ha,Nat.le_refl _,H1,T1,Z1,C1⟩
   |true=>
    obtain⟨c0,c1,c2,c3⟩:=H1.out.blk.cells
    have lb:=H1.out.blk.lt; have f1:=zi H1.out.blk 1; have M:=zh (H1.out.set1 (at_+1)); have hlt:=NB.out rfl; have PT:Hid (zA (fun k=>k=b) wc (wc.setCell ⟨b,1,none⟩ (.int .i64 ((at_+1:Nat):Int)))):=zh (zA.set1 b 1 _); have hzb:Hid (g≠b):=zh (fun he=>H1.out.neT Z1.out (by decide) (by decide) (.inl he)); have hcb:Hid (g+1≠b):=zh (fun he=>H1.out.neT C1.out (by decide) (by decide) (.inl he)); go_wp2_with fail; go_meet
    exact⟨at_+1,by omega,by omega,zh M.out.1,zh (T1.out.trans M.out.2),zh (PT.out.keep Z1.out hzb.out),zh (PT.out.keep C1.out hcb.out)⟩
  case rest=>
   obtain⟨a0,ha0,hat,H2,T2,Z2,C2⟩:=hcut
   clear H1 T1 Z1 C1 NB; go_wp2_with fail; go_loopg [5] (s.size+1 - a0) (fun gh _ wr=>∃(a:Nat) (er:Int) (y:Cl),a≤s.size∧Hid (gh=if er=0 then s.size+1 - a else 0)∧Hid (er=0→at_≤a)∧Hid y.ok∧Hid (RdS wr b base s a er v ns)∧Hid (RdT b v w v wr)∧Hid (wr.heap[g]?=some (.cells (yW Cl.zero) 145))∧Hid (wr.heap[g+1]?=some (.cells (yW y) 145)))
   case atStart=>exact⟨a0,0,Cl.zero,ha0,zh (by simp),zh (fun _=>hat),zh Cl.zero_ok,H2,T2,Z2,C2⟩
   case round=>
    obtain⟨a,er,y,ha2',GHG,AT,YO,H3,T3,Z3,C3⟩:=hrel
    clear H2 T2 Z2 C2; by_cases e0:er=0
    ·subst e0; by_cases hlt:a < s.size
     ·obtain⟨xD,hxD⟩:∃x,s[a]?=some x:=⟨_,getElem?_pos s a hlt⟩
      have ID:=qS hxD (a:Nat) rfl
      obtain⟨yD,hyD,hlD⟩:∃c:Nat,xD.toNat=c∧c < 256:=⟨_,rfl,xD.toNat_lt⟩
      rw[hyD]at ID
      clear hxD hyD; by_cases yd:yD=93
      ·have qd:((yD:Int) !=93)=false:=by subst yd;rfl
       have mval:(decide ((0:Int)=0)&&decide (a < s.size))=true:=by simp[hlt]
       have MO:=zh (fun V (x:Ext wr V)=>qE b s a 0 v V (H3.out.blk.ext x))
       obtain⟨c0,c1,c2,c3⟩:=H3.out.blk.cells
       have lb:=H3.out.blk.lt; go_upto_region 5 with fail; refine zg (14) (zd [0] (.step 1 (zd [2,3,4,5,7,8,9] (zj [6,10,11,12,13] .fin)))) (by kernel_rfl) (by kernel_rfl) ?_; (repeat first|refine yq ?_|refine yr ?_)
       refine zp fun next hn=>?_;simp only[pick,yp]; go_wp2_with fail
       refine(MO.out _ xi).mono ?_
       rintro e Vm ⟨rfl,xm⟩; have XM:Hid (Ext wr Vm):=zh ((xi:Ext wr wr.drew).trans xm)
       rw[mval]
       clear xm; go_wp2_with fail; refine zk (fun _=>yZ XM.out) (hn _ _ ?_); clear hn next MO; (repeat first|refine yq ?_|refine yr ?_)
       refine zv ?_; have H3m:=zh (H3.out.ext XM.out); have T3m:Hid (RdT b v w v Vm):=zh (T3.out.trans (RdT.of_ext XM.out)); have Z3m:=zh (zb Z3.out XM.out); have C3m:=zh (zb C3.out XM.out); clear XM mval; clear c0 c1 c2 c3 lb; have MO2:=zh (qE b s a 0 v Vm H3m.out.blk)
       rw[show(decide ((0:Int)=0)&&decide (a < s.size))=true by simp[hlt]]at MO2
       go_wp2_with fail; refine MO2.out.mono ?_; rintro e V2 ⟨rfl,xm2⟩; have H5:=zh (H3m.out.ext xm2); have T5:=zh (T3m.out.trans (RdT.of_ext xm2)); have Z5:=zh (zb Z3m.out xm2); have C5:=zh (zb C3m.out xm2); clear xm2 MO2 H3m T3m Z3m C3m H3 T3 Z3 C3
       obtain⟨c0,c1,c2,c3⟩:=H5.out.blk.cells
       have lb:=H5.out.blk.lt; have f1:=zi H5.out.blk 1; have M:=zh (H5.out.set1 (a+1)); have PT:Hid (zA (fun k=>k=b) V2 (V2.setCell ⟨b,1,none⟩ (.int .i64 ((a+1:Nat):Int)))):=zh (zA.set1 b 1 _); have hzb:Hid (g≠b):=zh (fun he=>H5.out.neT Z5.out (by decide) (by decide) (.inl he)); have hcb:Hid (g+1≠b):=zh (fun he=>H5.out.neT C5.out (by decide) (by decide) (.inl he)); have Z6:=zh (PT.out.keep Z5.out hzb.out); have C6:=zh (PT.out.keep C5.out hcb.out); go_upto_region 19 with fail
       obtain⟨W6,hW6⟩:∃V,V2.setCell ⟨b,1,none⟩ (.int .i64 ((a:Int)+1))=V:=⟨_,rfl⟩
       have hW6':V2.setCell ⟨b,1,none⟩ (.int .i64 ((a+1:Nat):Int))=W6:=by rw[←hW6];rfl
       rw[hW6']at Z6 C6
       have H6:Hid (RdS W6 b base s (a+1) 0 v ns):=zh (by rw[←hW6'];exact M.out.1); have T6:Hid (RdT b v w v W6):=zh (by rw[←hW6'];exact T5.out.trans M.out.2); have hat2:=AT.out (by first|rfl|trivial)
       rw[hW6]
       clear hW6 hW6' M PT f1 c0 c1 c2 c3 lb; cases nb with
       |true=>
        have NT:=zh (fun V=>zfj y V); unfold Cl.V at NT; have B1:=C6.out; unfold yW at B1; have b0:=cr 0 B1; have b1:=cr 1 B1; have b2:=cr 2 B1; have b3:=cr 3 B1; have bl:=za B1; simp at b0 b1 b2 b3
        clear B1; go_wp2_with fail
        refine(NT.out _).mono ?_
        rintro e V7 ⟨y',rfl,hyo,x7⟩; unfold Cl.V; have H7:=zh (H6.out.ext x7); have T7:=zh (T6.out.trans (RdT.of_ext x7)); have Z7:=zh (zb Z6.out x7); have C7:=zh (zb C6.out x7); clear b0 b1 b2 b3 bl x7 NT; have B0:=Z7.out; unfold yW Cl.zero at B0; have d0:=cr 0 B0; have d1:=cr 1 B0; have d2:=cr 2 B0; have d3:=cr 3 B0; have f1:=fun k=>zi B0 k
        obtain⟨W9,hW9⟩:∃W2,yX V7 g (.int .u64 y'.a) (.int .u64 y'.b) (.int .u64 y'.c) (.int .u64 y'.d)=W2:=⟨_,rfl⟩
        have G1:W9.heap[g]?=some (.cells (yW y') 145):=by rw[←hW9];exact yE B0 _ _ _ _
        have GH:Hid (RdS W9 b base s (a+1) 0 v ns):=zh (by rw[←hW9];exact H7.out.cls4 B0); have GT:Hid (RdT b v w v W9):=zh (by rw[←hW9];exact T7.out.cls4 (by have:=HG.out;omega)); unfold yX y8 put2 at hW9; unfold yW at G1; have g0:=cr 0 G1; have g1:=cr 1 G1; have g2:=cr 2 G1; have g3:=cr 3 G1; simp at d0 d1 d2 d3 g0 g1 g2 g3
        clear B0 G1; go_wp2_with fail; exact bodyPost_ret (v:=.agg #[.int .u64 y'.a,.int .u64 y'.b,.int .u64 y'.c,.int .u64 y'.d]) (by simp[results,Tryz.results140,go_sem, *]) rfl ⟨y',(a+1),0,rfl,hyo,by omega,GH.out,GT.out,fun _=>by omega⟩
       |false=>
        have B1:=C6.out; have B0:=Z6.out; unfold yW at B1; unfold yW Cl.zero at B0; have b0:=cr 0 B1; have b1:=cr 1 B1; have b2:=cr 2 B1; have b3:=cr 3 B1; have d0:=cr 0 B0; have d1:=cr 1 B0; have d2:=cr 2 B0; have d3:=cr 3 B0; have bl:=za B1; have f1:=fun k=>zi B0 k
        obtain⟨W9,hW9⟩:∃W2,yX W6 g (.int .u64 y.a) (.int .u64 y.b) (.int .u64 y.c) (.int .u64 y.d)=W2:=⟨_,rfl⟩
        have G1:W9.heap[g]?=some (.cells (yW y) 145):=by rw[←hW9];exact yE B0 _ _ _ _
        have GH:Hid (RdS W9 b base s (a+1) 0 v ns):=zh (by rw[←hW9];exact H6.out.cls4 B0); have GT:Hid (RdT b v w v W9):=zh (by rw[←hW9];exact T6.out.cls4 (by have:=HG.out;omega)); unfold yX y8 put2 at hW9; unfold yW at G1; have g0:=cr 0 G1; have g1:=cr 1 G1; have g2:=cr 2 G1; have g3:=cr 3 G1; simp at b0 b1 b2 b3 d0 d1 d2 d3 g0 g1 g2 g3
        clear B0 B1 G1; go_wp2_with fail; exact bodyPost_ret (v:=.agg #[.int .u64 y.a,.int .u64 y.b,.int .u64 y.c,.int .u64 y.d]) (by simp[results,Tryz.results140,go_sem, *]) rfl ⟨y,(a+1),0,rfl,YO.out,by omega,GH.out,GT.out,fun _=>by omega⟩
      ·have mval:(decide ((0:Int)=0)&&decide (a < s.size))=true:=by simp[hlt]
       have MO:=zh (fun V (x:Ext wr V)=>qE b s a 0 v V (H3.out.blk.ext x))
       obtain⟨c0,c1,c2,c3⟩:=H3.out.blk.cells
       have lb:=H3.out.blk.lt; have qd:((yD:Int) !=93)=true:=by simp;omega
       go_upto_region 5 with fail; refine zg (14) (zd [0] (.step 1 (zd [2,3,4,5,7,8,9] (zj [6,10,11,12,13] .fin)))) (by kernel_rfl) (by kernel_rfl) ?_; (repeat first|refine yq ?_|refine yr ?_)
       refine zp fun next hn=>?_;simp only[pick,yp]; go_wp2_with fail
       refine(MO.out _ xi).mono ?_
       rintro e Vm ⟨rfl,xm⟩; have XM:Hid (Ext wr Vm):=zh ((xi:Ext wr wr.drew).trans xm)
       rw[mval]
       clear xm; go_wp2_with fail; refine zk (fun _=>yZ XM.out) (hn _ _ ?_); clear hn next MO; (repeat first|refine yq ?_|refine yr ?_)
       refine zv ?_; have H3m:=zh (H3.out.ext XM.out); have T3m:Hid (RdT b v w v Vm):=zh (T3.out.trans (RdT.of_ext XM.out)); have Z3m:=zh (zb Z3.out XM.out); have C3m:=zh (zb C3.out XM.out); clear XM mval; clear c0 c1 c2 c3 lb; have ON:=zh (zjo b base s a v ns Vm H3m.out hlt hs); go_wp2_with fail; refine ON.out.mono ?_; rintro e w4 ⟨y1,a1,er1,rfl,hy1,ha1,h4,t4,hlt1⟩; have H4:=zh h4; have T4:=zh (T3m.out.trans t4); have Z4:=zh (RdT.cls t4 H3m.out Z3m.out); have C4:=zh (RdT.cls t4 H3m.out C3m.out); clear h4 t4 ON H3m T3m Z3m C3m H3 T3 Z3 C3; have HLT1:=zh hlt1; clear hlt1; go_upto_region 8 with fail; go_cut [90] (fun dv wc=>∃d:Bool,dv=.bool d∧Hid (d=true→er1=0∧a1+1 < s.size)∧Hid (RdS wc b base s a1 er1 v ns)∧Hid (RdT b v w v wc)∧Hid (wc.heap[g]?=some (.cells (yW Cl.zero) 145))∧Hid (wc.heap[g+1]?=some (.cells (yW y) 145)))
       case first=>
        by_cases e1:er1=0
        ·subst e1; have qe:((0:Int)==0)=true:=rfl; by_cases h2:a1+1 < s.size
         ·have q0:decide ((a1:Int)+1 < (s.size:Int))=true:=decide_eq_true (by omega); have h2':a1 < s.size:=by omega
          obtain⟨xB,hxB⟩:∃x,s[a1]?=some x:=⟨_,getElem?_pos s a1 h2'⟩
          have IB:=qS hxB (a1:Nat) rfl
          obtain⟨yB,hyB,hlB⟩:∃c:Nat,xB.toNat=c∧c < 256:=⟨_,rfl,xB.toNat_lt⟩
          rw[hyB]at IB
          clear hxB hyB
          obtain⟨xC,hxC⟩:∃x,s[a1+1]?=some x:=⟨_,getElem?_pos s (a1+1) h2⟩
          have IC:=qS hxC ((a1:Int)+1) (by omega)
          obtain⟨y3,hy3,hl3⟩:∃c:Nat,xC.toNat=c∧c < 256:=⟨_,rfl,xC.toNat_lt⟩
          rw[hy3]at IC
          clear hxC hy3; by_cases yb:yB=45
          ·have q1:((yB:Int)==45)=true:=by subst yb;rfl
           by_cases yc:y3=93
           ·have q2:((y3:Int) !=93)=false:=by subst yc;rfl
            obtain⟨c0,c1,c2,c3⟩:=H4.out.blk.cells
            have lb:=H4.out.blk.lt; go_upto_region 8 with fail; refine zg (43) (zd [0,1,2] (zj [3,4,5,6,7,8,9,10,11,12,13,14,15,16,17,18,19,20,21,22,23,24,25,26,27,28,29,30,31,32,33,34,35,36,37,38,39,40,41,42] .fin)) (by kernel_rfl) (by kernel_rfl) ?_; (repeat first|refine yq ?_|refine yr ?_)
            refine zv ?_; have H4f:=zh (H4.out.ext (w':=w4.drew) xi); have T4f:Hid (RdT b v w v w4.drew):=zh (T4.out.trans (RdT.of_ext xi)); have Z4f:=zh (zb Z4.out (xi:Ext w4 w4.drew)); have C4f:=zh (zb C4.out (xi:Ext w4 w4.drew))
            obtain⟨w4f,hw4f⟩:∃V,w4.drew=V:=⟨_,rfl⟩
            rw[hw4f]at H4f T4f Z4f C4f ⊢
            clear hw4f; clear c0 c1 c2 c3 lb; go_wp2_with fail; go_meet
            exact⟨false,rfl,zh (fun h=>absurd h Bool.false_ne_true),H4f,T4f,Z4f,C4f⟩
           ·have q2:((y3:Int) !=93)=true:=by simp;omega
            obtain⟨c0,c1,c2,c3⟩:=H4.out.blk.cells
            have lb:=H4.out.blk.lt; go_upto_region 8 with fail; refine zg (43) (zd [0,1,2] (zj [3,4,5,6,7,8,9,10,11,12,13,14,15,16,17,18,19,20,21,22,23,24,25,26,27,28,29,30,31,32,33,34,35,36,37,38,39,40,41,42] .fin)) (by kernel_rfl) (by kernel_rfl) ?_; (repeat first|refine yq ?_|refine yr ?_)
            refine zv ?_; have H4f:=zh (H4.out.ext (w':=w4.drew) xi); have T4f:Hid (RdT b v w v w4.drew):=zh (T4.out.trans (RdT.of_ext xi)); have Z4f:=zh (zb Z4.out (xi:Ext w4 w4.drew)); have C4f:=zh (zb C4.out (xi:Ext w4 w4.drew))
            obtain⟨w4f,hw4f⟩:∃V,w4.drew=V:=⟨_,rfl⟩
            rw[hw4f]at H4f T4f Z4f C4f ⊢
            clear hw4f; clear c0 c1 c2 c3 lb; go_wp2_with fail; go_meet
            exact⟨true,rfl,zh (fun h=>⟨by first|rfl|trivial,h2⟩),H4f,T4f,Z4f,C4f⟩
          ·have q1:((yB:Int)==45)=false:=by simp;omega
           obtain⟨c0,c1,c2,c3⟩:=H4.out.blk.cells
           have lb:=H4.out.blk.lt; go_upto_region 8 with fail; refine zg (43) (zd [0,1,2] (zj [3,4,5,6,7,8,9,10,11,12,13,14,15,16,17,18,19,20,21,22,23,24,25,26,27,28,29,30,31,32,33,34,35,36,37,38,39,40,41,42] .fin)) (by kernel_rfl) (by kernel_rfl) ?_; (repeat first|refine yq ?_|refine yr ?_)
           refine zv ?_; have H4f:=zh (H4.out.ext (w':=w4.drew) xi); have T4f:Hid (RdT b v w v w4.drew):=zh (T4.out.trans (RdT.of_ext xi)); have Z4f:=zh (zb Z4.out (xi:Ext w4 w4.drew)); have C4f:=zh (zb C4.out (xi:Ext w4 w4.drew))
           obtain⟨w4f,hw4f⟩:∃V,w4.drew=V:=⟨_,rfl⟩
           rw[hw4f]at H4f T4f Z4f C4f ⊢
           clear hw4f; clear c0 c1 c2 c3 lb; go_wp2_with fail; go_meet
           exact⟨false,rfl,zh (fun h=>absurd h Bool.false_ne_true),H4f,T4f,Z4f,C4f⟩
         ·have q0:decide ((a1:Int)+1 < (s.size:Int))=false:=decide_eq_false (by omega)
          obtain⟨c0,c1,c2,c3⟩:=H4.out.blk.cells
          have lb:=H4.out.blk.lt; go_upto_region 8 with fail; refine zg (43) (zd [0,1,2] (zj [3,4,5,6,7,8,9,10,11,12,13,14,15,16,17,18,19,20,21,22,23,24,25,26,27,28,29,30,31,32,33,34,35,36,37,38,39,40,41,42] .fin)) (by kernel_rfl) (by kernel_rfl) ?_; (repeat first|refine yq ?_|refine yr ?_)
          refine zv ?_; have H4f:=zh (H4.out.ext (w':=w4.drew) xi); have T4f:Hid (RdT b v w v w4.drew):=zh (T4.out.trans (RdT.of_ext xi)); have Z4f:=zh (zb Z4.out (xi:Ext w4 w4.drew)); have C4f:=zh (zb C4.out (xi:Ext w4 w4.drew))
          obtain⟨w4f,hw4f⟩:∃V,w4.drew=V:=⟨_,rfl⟩
          rw[hw4f]at H4f T4f Z4f C4f ⊢
          clear hw4f; clear c0 c1 c2 c3 lb; go_wp2_with fail; go_meet
          exact⟨false,rfl,zh (fun h=>absurd h Bool.false_ne_true),H4f,T4f,Z4f,C4f⟩
        ·have qe:(er1==0)=false:=by simpa using e1
         obtain⟨c0,c1,c2,c3⟩:=H4.out.blk.cells
         have lb:=H4.out.blk.lt; go_upto_region 8 with fail; refine zg (43) (zd [0,1,2] (zj [3,4,5,6,7,8,9,10,11,12,13,14,15,16,17,18,19,20,21,22,23,24,25,26,27,28,29,30,31,32,33,34,35,36,37,38,39,40,41,42] .fin)) (by kernel_rfl) (by kernel_rfl) ?_; (repeat first|refine yq ?_|refine yr ?_)
         refine zv ?_; have H4f:=zh (H4.out.ext (w':=w4.drew) xi); have T4f:Hid (RdT b v w v w4.drew):=zh (T4.out.trans (RdT.of_ext xi)); have Z4f:=zh (zb Z4.out (xi:Ext w4 w4.drew)); have C4f:=zh (zb C4.out (xi:Ext w4 w4.drew))
         obtain⟨w4f,hw4f⟩:∃V,w4.drew=V:=⟨_,rfl⟩
         rw[hw4f]at H4f T4f Z4f C4f ⊢
         clear hw4f; clear c0 c1 c2 c3 lb; go_wp2_with fail; go_meet
         exact⟨false,rfl,zh (fun h=>absurd h Bool.false_ne_true),H4f,T4f,Z4f,C4f⟩
       case rest=>
        obtain⟨d,rfl,DD,H9,T9,Z9,C9⟩:=hcut
        clear H4 T4 Z4 C4; go_upto_if 90 with fail
        go_cut [6] (fun hv wc=>∃(hi2 a2:Nat) (er2:Int),hv=.int .u8 hi2∧hi2 < 256∧a2≤s.size∧Hid (er2=0→a < a2)∧Hid (RdS wc b base s a2 er2 v ns)∧Hid (RdT b v w v wc)∧Hid (wc.heap[g]?=some (.cells (yW Cl.zero) 145))∧Hid (wc.heap[g+1]?=some (.cells (yW y) 145)))
        case first=>
         cases d with
         |false=>
          go_wp2_with fail; go_meet
          exact⟨y1,a1,er1,rfl,by omega,ha1,HLT1,H9,T9,Z9,C9⟩
         |true=>
          obtain⟨e1,h2⟩:=DD.out rfl
          subst e1; have hlt4:=HLT1.out rfl
          obtain⟨c0,c1,c2,c3⟩:=H9.out.blk.cells
          have lb:=H9.out.blk.lt; have f1:=zi H9.out.blk 1; have M:=zh (H9.out.set1 (a1+1)); have PT:Hid (zA (fun k=>k=b) wc (wc.setCell ⟨b,1,none⟩ (.int .i64 ((a1+1:Nat):Int)))):=zh (zA.set1 b 1 _); have hzb:Hid (g≠b):=zh (fun he=>H9.out.neT Z9.out (by decide) (by decide) (.inl he)); have hcb:Hid (g+1≠b):=zh (fun he=>H9.out.neT C9.out (by decide) (by decide) (.inl he)); have Z5:=zh (PT.out.keep Z9.out hzb.out); have C5:=zh (PT.out.keep C9.out hcb.out); go_upto_region 10 with fail
          obtain⟨W5,hW5⟩:∃V,wc.setCell ⟨b,1,none⟩ (.int .i64 ((a1:Int)+1))=V:=⟨_,rfl⟩
          have hW5':wc.setCell ⟨b,1,none⟩ (.int .i64 ((a1+1:Nat):Int))=W5:=by rw[←hW5];rfl
          rw[hW5']at Z5 C5
          have H5:Hid (RdS W5 b base s (a1+1) 0 v ns):=zh (by rw[←hW5'];exact M.out.1); have T5:Hid (RdT b v w v W5):=zh (by rw[←hW5'];exact T9.out.trans M.out.2)
          rw[hW5]
          clear hW5 hW5' M PT f1 c0 c1 c2 c3 lb
          obtain⟨c0,c1,c2,c3⟩:=H5.out.blk.cells
          have lb:=H5.out.blk.lt; go_upto_region 11 with fail; clear c0 c1 c2 c3 lb; have ON:=zh (zjo b base s (a1+1) v ns W5 H5.out h2 hs); go_wp2_with fail; refine ON.out.mono ?_; rintro e w6 ⟨y2,a2,er2,rfl,hy2,ha2,h6,t6,hlt2⟩; have H6:=zh h6; have T6:=zh (T5.out.trans t6); have Z6:=zh (RdT.cls t6 H5.out Z5.out); have C6:=zh (RdT.cls t6 H5.out C5.out); clear h6 t6 ON
          obtain⟨c0,c1,c2,c3⟩:=H6.out.blk.cells
          have lb:=H6.out.blk.lt; by_cases e2:er2=0
          ·subst e2; have qe2:((0:Int)==0)=true:=rfl; have hlt3:=hlt2 (by first|rfl|trivial); by_cases hl:y2 < y1
           ·have ql:decide (y2 < y1)=true:=decide_eq_true hl; have FA:=zh (vV b base s a2 (a1+1) 0 7 v ns w6 H6.out)
            rw[show((a1+1:Nat):Int)=(a1:Int)+1 by omega]at FA
            go_wp2_with fail; refine FA.out.mono ?_; rintro e w7 ⟨rfl,h7,t7⟩; simp only[if_pos]at h7
            have H7:=zh h7; have T7:=zh (T6.out.trans t7); have Z7:=zh (RdT.cls t7 H6.out Z6.out); have C7:=zh (RdT.cls t7 H6.out C6.out); clear h7 t7 FA c0 c1 c2 c3 lb; go_wp2_with fail; go_meet
            exact⟨y2,a1+1,7,rfl,hy2,by omega,zh (fun h=>by simp at h),H7,T7,Z7,C7⟩
           ·have ql:decide (y2 < y1)=false:=decide_eq_false hl; go_wp2_with fail; go_meet
            exact⟨y2,a2,0,rfl,hy2,ha2,zh (fun _=>by omega),H6,T6,Z6,C6⟩
          ·have qe2:(er2==0)=false:=by simpa using e2
           go_wp2_with fail; go_meet
           exact⟨y2,a2,er2,rfl,hy2,ha2,zh (fun h=>absurd h e2),H6,T6,Z6,C6⟩
        case rest=>
         obtain⟨hi2,a2,er2,rfl,hh2,ha2,LT2,H8,T8,Z8,C8⟩:=hcut
         clear H9 T9 Z9 C9; have RG:=zh (fun V=>zek y1 hi2 V (by omega) (by omega))
         obtain⟨rr,hrr⟩:∃r,Za y1 (hi2+1 - y1)=r:=⟨_,rfl⟩
         rw[hrr]at RG
         obtain⟨zz,hzz⟩:∃z,JS y rr=z:=⟨_,rfl⟩
         have HZO:Hid zz.ok:=zh (by rw[←hzz];exact ze6 y rr); have UN:=zh (fun V=>zec y rr V)
         rw[hzz]at UN
         have B1:=C8.out; unfold yW at B1; have b0:=cr 0 B1; have b1:=cr 1 B1; have b2:=cr 2 B1; have b3:=cr 3 B1; have bl:=za B1; simp at b0 b1 b2 b3
         unfold Cl.V at RG UN; clear B1 hrr hzz; go_upto_region 14 with fail; refine zg (5) (zd [1,2] (zj [0] (.step 3 (.step 4 (.step 5 .fin))))) (by kernel_rfl) (by kernel_rfl) ?_; (repeat first|refine yq ?_|refine yr ?_)
         refine zp fun next hn=>?_;simp only[pick,yp]; go_wp2_with fail
         refine(RG.out _).mono ?_
         rintro e Vr ⟨rfl,xr⟩; have XR:Hid (Ext wc Vr):=zh ((xi:Ext wc wc.drew).trans xr); clear xr; go_wp2_with fail; refine zk (fun _=>yZ XR.out) (hn _ _ ?_); clear hn next; (repeat first|refine yq ?_|refine yr ?_)
         refine zp fun next hn=>?_;simp only[pick,yp]; go_wp2_with fail
         refine(UN.out _).mono ?_
         rintro e Vu ⟨rfl,xu⟩; have XU:Hid (Ext wc Vu):=zh (XR.out.trans xu); clear xu; go_wp2_with fail; refine zk (fun _=>yZ XU.out) (hn _ _ ?_); clear hn next b0 b1 b2 b3 bl; have CU:=zb C8.out XU.out; have ZU:=zh (zb Z8.out XU.out); unfold yW at CU; have f1:=fun k=>zi CU k; have cl:=za CU; have b0:=cr 0 CU; have b1:=cr 1 CU; have b2:=cr 2 CU; have b3:=cr 3 CU; simp at b0 b1 b2 b3
         obtain⟨W2,hW2⟩:∃W2,yX Vu (g+1) (.int .u64 zz.a) (.int .u64 zz.b) (.int .u64 zz.c) (.int .u64 zz.d)=W2:=⟨_,rfl⟩
         have G1:Hid (W2.heap[g+1]?=some (.cells (yW zz) 145)):=zh (by rw[←hW2];exact yE CU _ _ _ _); have G0:Hid (W2.heap[g]?=some (.cells (yW Cl.zero) 145)):=zh (by rw[←hW2];exact(yg (S:=fun k=>k=g+1) rfl _ _ _ _).keep ZU.out (by omega)); have GH:Hid (RdS W2 b base s a2 er2 v ns):=zh (by rw[←hW2];exact(H8.out.ext XU.out).cls4 CU); have GT:Hid (RdT b v w v W2):=zh (by rw[←hW2];exact(T8.out.trans (RdT.of_ext XU.out)).cls4 (by have:=HG.out;omega)); unfold yX y8 put2 at hW2; clear CU; (repeat first|refine yq ?_|refine yr ?_)
         refine zp fun next hn=>?_;simp only[pick,yp]; go_wp2_with fail; refine zk (fun h=>absurd rfl h) (hn _ _ ?_); clear hn next; refine zv ?_; try simp only[hW2]
         clear hW2 cl f1 b0 b1 b2 b3; go_wp2_with fail; go_roundg (if er2=0 then s.size+1 - a2 else 0)
         case measure=>
          have hg:=GHG.out; simp only[if_true,eq_self]at hg
          rw[hg]
          by_cases h:er2=0
          ·rw[if_pos h]
           have:=LT2.out h
           omega
          ·rw[if_neg h]
           omega
         case rel=>exact⟨a2,er2,zz,ha2,zh rfl,zh (fun h=>by have:=LT2.out h;have:=AT.out (by first|rfl|trivial);omega),HZO,GH,GT,G0,G1⟩
     ·skip
      have mval:(decide ((0:Int)=0)&&decide (a < s.size))=false:=by simp[hlt]
      have MO:=zh (fun V (x:Ext wr V)=>qE b s a 0 v V (H3.out.blk.ext x))
      obtain⟨c0,c1,c2,c3⟩:=H3.out.blk.cells
      have lb:=H3.out.blk.lt; go_upto_region 5 with fail; refine zg (14) (zd [0] (.step 1 (zd [2,3,4,5,7,8,9] (zj [6,10,11,12,13] .fin)))) (by kernel_rfl) (by kernel_rfl) ?_; (repeat first|refine yq ?_|refine yr ?_)
      refine zp fun next hn=>?_;simp only[pick,yp]; go_wp2_with fail
      refine(MO.out _ xi).mono ?_
      rintro e Vm ⟨rfl,xm⟩; have XM:Hid (Ext wr Vm):=zh ((xi:Ext wr wr.drew).trans xm)
      rw[mval]
      clear xm; go_wp2_with fail; refine zk (fun _=>yZ XM.out) (hn _ _ ?_); clear hn next MO; (repeat first|refine yq ?_|refine yr ?_)
      refine zv ?_; have H3m:=zh (H3.out.ext XM.out); have T3m:Hid (RdT b v w v Vm):=zh (T3.out.trans (RdT.of_ext XM.out)); have Z3m:=zh (zb Z3.out XM.out); have C3m:=zh (zb C3.out XM.out); clear XM mval; clear c0 c1 c2 c3 lb; have MO2:=zh (qE b s a 0 v Vm H3m.out.blk)
      rw[show(decide ((0:Int)=0)&&decide (a < s.size))=false from by simp[hlt]]at MO2
      go_wp2_with fail; refine MO2.out.mono ?_; rintro e V2 ⟨rfl,xm2⟩; have H5:=zh (H3m.out.ext xm2); have T5:=zh (T3m.out.trans (RdT.of_ext xm2)); have Z5:=zh (zb Z3m.out xm2); have C5:=zh (zb C3m.out xm2); clear xm2 MO2 H3m T3m Z3m C3m H3 T3 Z3 C3; have FA:=zh (vV b base s a s.size 0 8 v ns V2 H5.out)
      obtain⟨c0,c1,c2,c3⟩:=H5.out.blk.cells
      have lb:=H5.out.blk.lt; go_wp2_with fail; refine FA.out.mono ?_; rintro e V3 ⟨rfl,h6,t6⟩; have H6:=zh h6; have T6:=zh (T5.out.trans t6); have Z6:=zh (RdT.cls t6 H5.out Z5.out); have C6:=zh (RdT.cls t6 H5.out C5.out); clear h6 t6 FA c0 c1 c2 c3 lb; have B1:=C6.out; have B0:=Z6.out; unfold yW at B1; unfold yW Cl.zero at B0; have b0:=cr 0 B1; have b1:=cr 1 B1; have b2:=cr 2 B1; have b3:=cr 3 B1; have d0:=cr 0 B0; have d1:=cr 1 B0; have d2:=cr 2 B0; have d3:=cr 3 B0; have bl:=za B1; have f1:=fun k=>zi B0 k
      obtain⟨W9,hW9⟩:∃W2,yX V3 g (.int .u64 y.a) (.int .u64 y.b) (.int .u64 y.c) (.int .u64 y.d)=W2:=⟨_,rfl⟩
      have G1:W9.heap[g]?=some (.cells (yW y) 145):=by rw[←hW9];exact yE B0 _ _ _ _
      have GH:Hid (RdS W9 b base s s.size 8 v ns):=zh (by rw[←hW9];exact H6.out.cls4 B0); have GT:Hid (RdT b v w v W9):=zh (by rw[←hW9];exact T6.out.cls4 (by have:=HG.out;omega)); unfold yX y8 put2 at hW9; unfold yW at G1; have g0:=cr 0 G1; have g1:=cr 1 G1; have g2:=cr 2 G1; have g3:=cr 3 G1; simp at b0 b1 b2 b3 d0 d1 d2 d3 g0 g1 g2 g3
      clear B0 B1 G1; go_wp2_with fail; exact bodyPost_ret (v:=.agg #[.int .u64 y.a,.int .u64 y.b,.int .u64 y.c,.int .u64 y.d]) (by simp[results,Tryz.results140,go_sem, *]) rfl ⟨y,s.size,8,rfl,YO.out,by omega,GH.out,GT.out,fun h=>by simp at h⟩
    ·skip
     have mval:(decide (er=0)&&decide (a < s.size))=false:=by simp[e0]
     have MO:=zh (fun V (x:Ext wr V)=>qE b s a er v V (H3.out.blk.ext x))
     obtain⟨c0,c1,c2,c3⟩:=H3.out.blk.cells
     have lb:=H3.out.blk.lt; go_upto_region 5 with fail; refine zg (14) (zd [0] (.step 1 (zd [2,3,4,5,7,8,9] (zj [6,10,11,12,13] .fin)))) (by kernel_rfl) (by kernel_rfl) ?_; (repeat first|refine yq ?_|refine yr ?_)
     refine zp fun next hn=>?_;simp only[pick,yp]; go_wp2_with fail
     refine(MO.out _ xi).mono ?_
     rintro e Vm ⟨rfl,xm⟩; have XM:Hid (Ext wr Vm):=zh ((xi:Ext wr wr.drew).trans xm)
     rw[mval]
     clear xm; go_wp2_with fail; refine zk (fun _=>yZ XM.out) (hn _ _ ?_); clear hn next MO; (repeat first|refine yq ?_|refine yr ?_)
     refine zv ?_; have H3m:=zh (H3.out.ext XM.out); have T3m:Hid (RdT b v w v Vm):=zh (T3.out.trans (RdT.of_ext XM.out)); have Z3m:=zh (zb Z3.out XM.out); have C3m:=zh (zb C3.out XM.out); clear XM mval; clear c0 c1 c2 c3 lb; have MO2:=zh (qE b s a er v Vm H3m.out.blk)
     rw[show(decide (er=0)&&decide (a < s.size))=false from by simp[e0]]at MO2
     go_wp2_with fail; refine MO2.out.mono ?_; rintro e V2 ⟨rfl,xm2⟩; have H5:=zh (H3m.out.ext xm2); have T5:=zh (T3m.out.trans (RdT.of_ext xm2)); have Z5:=zh (zb Z3m.out xm2); have C5:=zh (zb C3m.out xm2); clear xm2 MO2 H3m T3m Z3m C3m H3 T3 Z3 C3; have FA:=zh (vV b base s a s.size er 8 v ns V2 H5.out)
     obtain⟨c0,c1,c2,c3⟩:=H5.out.blk.cells
     have lb:=H5.out.blk.lt; go_wp2_with fail; refine FA.out.mono ?_; rintro e V3 ⟨rfl,h6,t6⟩; simp only[if_neg e0]at h6
     have H6:=zh h6; have T6:=zh (T5.out.trans t6); have Z6:=zh (RdT.cls t6 H5.out Z5.out); have C6:=zh (RdT.cls t6 H5.out C5.out); clear h6 t6 FA c0 c1 c2 c3 lb; have B1:=C6.out; have B0:=Z6.out; unfold yW at B1; unfold yW Cl.zero at B0; have b0:=cr 0 B1; have b1:=cr 1 B1; have b2:=cr 2 B1; have b3:=cr 3 B1; have d0:=cr 0 B0; have d1:=cr 1 B0; have d2:=cr 2 B0; have d3:=cr 3 B0; have bl:=za B1; have f1:=fun k=>zi B0 k
     obtain⟨W9,hW9⟩:∃W2,yX V3 g (.int .u64 y.a) (.int .u64 y.b) (.int .u64 y.c) (.int .u64 y.d)=W2:=⟨_,rfl⟩
     have G1:W9.heap[g]?=some (.cells (yW y) 145):=by rw[←hW9];exact yE B0 _ _ _ _
     have GH:Hid (RdS W9 b base s a er v ns):=zh (by rw[←hW9];exact H6.out.cls4 B0); have GT:Hid (RdT b v w v W9):=zh (by rw[←hW9];exact T6.out.cls4 (by have:=HG.out;omega)); unfold yX y8 put2 at hW9; unfold yW at G1; have g0:=cr 0 G1; have g1:=cr 1 G1; have g2:=cr 2 G1; have g3:=cr 3 G1; simp at b0 b1 b2 b3 d0 d1 d2 d3 g0 g1 g2 g3
     clear B0 B1 G1; go_wp2_with fail; exact bodyPost_ret (v:=.agg #[.int .u64 y.a,.int .u64 y.b,.int .u64 y.c,.int .u64 y.d]) (by simp[results,Tryz.results140,go_sem, *]) rfl ⟨y,a,er,rfl,YO.out,by omega,GH.out,GT.out,fun h=>absurd h e0⟩
end Go.Proofs.YtmbelmngniddjaaGreat
