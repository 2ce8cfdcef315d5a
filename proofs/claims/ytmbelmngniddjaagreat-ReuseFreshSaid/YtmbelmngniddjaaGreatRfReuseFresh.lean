/- ReuseFresh: behind an edit all that can be taken is the fresh tree's of its symbol at its place in the new text. No condition. -/
import Derived.Test.YtmbelmngniddjaaGreatRf24
namespace Go.Proofs.YtmbelmngniddjaaGreat
open Go.ChangeShapes Go.WideShapes Go.ChangeAt Go.RowKit Go.Joins
set_option maxRecDepth 100000 in
theorem reuseFresh_lifted (os:Os)(started:os.Started)(H:Type)(enc:TypeId×Value→H):
 ReturnsInHanded {} Tryz.checked os 3 .any (Rows.reuseFreshSpec.pre6 enc Tryz.prog Tryz.f3 Rows.reuseFreshRow.domain false) (Rows.reuseFreshSpec.post enc Tryz.prog Tryz.f3 false true false false):=by
 refine zc0 (fn:=Tryz.f3) started (by kernel_rfl) Tryz.func3
  (ChangeSpec.witness6 (enc:=enc) (C:=Tryz.checked) false ⟨#[],#[.slice none 0 0,.agg #[.int .i64 0,.int .i64 0,.int .i64 0,.slice none 0 0],.string ByteArray.empty,.int .i64 0,.int .i64 0,.string ByteArray.empty],[]⟩ 8 (by kernel_rfl) (by kernel_rfl) (by kernel_rfl) (by kernel_rfl))
  rfl (by kernel_rfl) Tryz.underlying4 (of_decide_eq_true (by kernel_rfl)) ?_ ?_
 ·intro ds hl
  match ds,hl with
  |[d1,d2,d3,d4,d5,d6],_=>rfl
 ·intro W base args ds ps hval hA hsz; have hp:Tryz.f3.params.toList=[22,25,9,3,3,9]:=by kernel_rfl
  rw[hp]at hA hval hsz
  obtain⟨v0,vs0,d0,ds0,p0,q0,hargs,rfl,rfl,h0,r0⟩:=trodAll_cons hA
  obtain⟨v1,vs1,d1,ds1,p1,q1,rfl,rfl,rfl,h1,r1⟩:=trodAll_cons r0
  obtain⟨v2,vs2,d2,ds2,p2,q2,rfl,rfl,rfl,h2,r2⟩:=trodAll_cons r1
  obtain⟨v3,vs3,d3,ds3,p3,q3,rfl,rfl,rfl,h3,r3⟩:=trodAll_cons r2
  obtain⟨v4,vs4,d4,ds4,p4,q4,rfl,rfl,rfl,h4,r4⟩:=trodAll_cons r3
  obtain⟨v5,vs5,d5,ds5,p5,q5,rfl,rfl,rfl,h5,r5⟩:=trodAll_cons r4
  obtain⟨rfl,rfl,rfl⟩:=trodAll_nil r5
  obtain rfl:args=#[v0,v1,v2,v3,v4,v5]:=by cases args;simp_all
  obtain⟨rs0,hR0,rl0⟩:=zcf (hval 0 22 v0 rfl rfl) h0
  obtain⟨g1,rfl,hG1,_,_,_,hz1⟩:=zaj (hval 1 25 v1 rfl rfl) h1
  obtain⟨s2,rfl,bs2⟩:=JF (hval 2 9 v2 rfl rfl) h2
  obtain⟨n3,rfl,bd3⟩:=zbS (hval 3 3 v3 rfl rfl) h3
  obtain⟨n4,rfl,bd4⟩:=zbS (hval 4 3 v4 rfl rfl) h4
  obtain⟨s5,rfl,bs5⟩:=JF (hval 5 9 v5 rfl rfl) h5
  exact(QW v0 rs0 g1 s2 s5 n3 n4 W hR0 rl0 hG1 (fun p hp=>(hz1 p hp).2) bs2 bs5 bd3 bd4).mono fun e w' ⟨he,hx⟩=>⟨he,hx.below⟩
theorem reuseFresh_holds:Rows.ReuseFreshSaid:=
 OpenClaim.holds_of_wide 3 Tryz.f3 rfl rfl rfl rfl rfl rfl rfl ⟨rfl,rfl,rfl,rfl,rfl⟩ rfl rfl rfl rfl rfl (by kernel_rfl) Tryz.func3 (by kernel_rfl)
  (of_decide_eq_true (by kernel_rfl)) (by unfold Func.isWrapper;first|(rw[if_pos (by decide+kernel)];kernel_rfl)|(rw[if_neg (by decide+kernel)];exact⟨rfl,rfl⟩))
  (fun os started H enc _=>reuseFresh_lifted os started H enc)
#print axioms reuseFresh_holds
end Go.Proofs.YtmbelmngniddjaaGreat
