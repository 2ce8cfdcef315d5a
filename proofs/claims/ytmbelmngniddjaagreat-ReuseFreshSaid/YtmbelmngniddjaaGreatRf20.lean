/- Rf: texts that the proof rests on, part 20. -/
import Derived.Test.YtmbelmngniddjaaGreatRf19
import Derived.Test.YtmbelmngniddjaaGreatRows
namespace Go.Proofs.YtmbelmngniddjaaGreat
structure Nd where
 sym:Int
 kind:Int
 lo:Int
 inn:Int
 hi:Int
 look:Int
 kids:List Int
 met:Int
def YH (k:Int):Prop:=k≠1∧k≠2
instance (k:Int):Decidable (YH k):=inferInstanceAs (Decidable (_∧_))
def zf8 (k:Int):Prop:=k=3∨k=5∨k=6
instance (k:Int):Decidable (zf8 k):=inferInstanceAs (Decidable (_∨_))
def ZW (p:Nd):Prop:=1≤p.kind∧p.kind≤6∧0≤p.lo∧p.lo≤p.hi∧p.lo < p.look∧(zf8 p.kind→p.lo≤p.inn∧p.inn≤p.hi)∧(¬zf8 p.kind→p.inn=p.lo)∧(p.kind=4→p.lo=p.hi)∧(YH p.kind→p.kids.length=0)
instance (p:Nd):Decidable (ZW p):=inferInstanceAs (Decidable (_∧_))
inductive yP (l:List Nd):List Int→Nat→Bool→Nat→Prop
 |nil (n:Nat):yP l [] n true n
 |bad (k:Int) (ks:List Int) (n:Nat):(k≠(n:Int)∨l.length≤n)→yP l (k ::ks) n false n
 |sub (p:Nd) (ks:List Int) (n m:Nat):l[n]?=some p→yP l p.kids (n+1) false m→yP l ((n:Int) ::ks) n false m
 |cons (p:Nd) (ks:List Int) (n m:Nat) (ok:Bool) (e:Nat):l[n]?=some p→yP l p.kids (n+1) true m→yP l ks m ok e→yP l ((n:Int) ::ks) n ok e
theorem yw {α:Type}{l:List α}{n:Nat}{p:α}(h:l[n]?=some p):n < l.length:=(List.getElem?_eq_some_iff.1 h).1
theorem yP.le {l:List Nd}{ks:List Int}{n m:Nat}{ok:Bool}(h:yP l ks n ok m):n≤m∧(n≤l.length→m≤l.length):=by
 induction h with
 |nil n=>exact⟨Nat.le_refl _,id⟩
 |bad k ks n _=>exact⟨Nat.le_refl _,id⟩
 |sub p ks n m hp _ ih=>have:=yw hp;exact⟨by omega,fun _=>ih.2 (by omega)⟩
 |cons p ks n m ok e hp _ _ ih1 ih2=>have:=yw hp;exact⟨by omega,fun _=>ih2.2 (ih1.2 (by omega))⟩
theorem YR (l:List Nd):∀(d:Nat) (ks:List Int) (n:Nat),l.length - n≤d→∃ok m,yP l ks n ok m:=by
 intro d; induction d with
 |zero=>
  intro ks n hd; cases ks with
  |nil=>exact⟨_,_,.nil n⟩
  |cons k ks=>exact⟨_,_,.bad k ks n (.inr (by omega))⟩
 |succ d ih=>
  intro ks n hd; cases ks with
  |nil=>exact⟨_,_,.nil n⟩
  |cons k ks=>
   by_cases h:k≠(n:Int)∨l.length≤n
   ·exact⟨_,_,.bad k ks n h⟩
   ·have hk:k=(n:Int):=Decidable.byContradiction fun hc=>h (.inl hc); have hn:n < l.length:=Nat.lt_of_not_le fun hc=>h (.inr hc); subst hk
    obtain⟨p,hp⟩:∃p,l[n]?=some p:=⟨_,List.getElem?_eq_getElem hn⟩
    obtain⟨ok,m,h1⟩:=ih p.kids (n+1) (by omega)
    cases ok with
    |false=>exact⟨_,_,.sub p ks n m hp h1⟩
    |true=>
     obtain⟨ok,e,h2⟩:=ih ks m (by have:=h1.le.1;omega)
     exact⟨_,_,.cons p ks n m ok e hp h1 h2⟩
theorem yP.det {l:List Nd}{ks:List Int}{n m:Nat}{ok:Bool}(h:yP l ks n ok m):∀{ok':Bool} {m':Nat},yP l ks n ok' m'→ok'=ok∧m'=m:=by
 induction h with
 |nil n=>intro ok' m' h';cases h';exact⟨rfl,rfl⟩
 |bad k ks n hb=>
  intro ok' m' h'; cases h' with
  |bad _ _ _ _=>exact⟨rfl,rfl⟩
  |sub p _ _ _ hp _=>have:=yw hp;omega
  |cons p _ _ _ _ _ hp _ _=>have:=yw hp;omega
 |sub p ks n m hp h1 ih=>
  intro ok' m' h'; have hl:=yw hp; cases h' with
  |bad _ _ _ hb=>omega
  |sub p' _ _ _ hp' h1'=>rw[hp]at hp';cases hp';exact ih h1'
  |cons p' _ _ m1 _ _ hp' h1' _=>rw[hp]at hp';cases hp';have:=(ih h1').1;cases this
 |cons p ks n m ok e hp h1 h2 ih1 ih2=>
  intro ok' m' h'; have hl:=yw hp; cases h' with
  |bad _ _ _ hb=>omega
  |sub p' _ _ _ hp' h1'=>rw[hp]at hp';cases hp';have:=(ih1 h1').1;cases this
  |cons p' _ _ m1 _ _ hp' h1' h2'=>
   rw[hp]at hp';cases hp'
   obtain⟨_,rfl⟩:=ih1 h1'
   exact ih2 h2'
theorem yP.head {l:List Nd}{k:Int}{ks:List Int}{n m:Nat}{ok:Bool}(h:yP l (k ::ks) n ok m)(hk:k=(n:Int)){p:Nd}(hp:l[n]?=some p):
 (ok=false∧yP l p.kids (n+1) false m)∨∃m1,yP l p.kids (n+1) true m1∧yP l ks m1 ok m:=by
 have hl:=yw hp; cases h with
 |bad _ _ _ hb=>omega
 |sub p' _ _ _ hp' h1'=>rw[hp]at hp';cases hp';exact .inl ⟨rfl,h1'⟩
 |cons p' _ _ m1 _ _ hp' h1' h2'=>rw[hp]at hp';cases hp';exact .inr ⟨m1,h1',h2'⟩
theorem yP.stop {l:List Nd}{k:Int}{ks:List Int}{n m:Nat}{ok:Bool}(h:yP l (k ::ks) n ok m)(hb:k≠(n:Int)∨l.length≤n):ok=false∧m=n:=
 (yP.bad k ks n hb).det h
theorem yP.one {l:List Nd}{n m:Nat}{p:Nd}{ok:Bool}(hp:l[n]?=some p)(h:yP l p.kids (n+1) ok m):yP l [(n:Int)] n ok m:=by
 cases ok with
 |false=>exact .sub p _ n m hp h
 |true=>exact .cons p _ n m true m hp h (.nil m)
theorem yP.ofOne {l:List Nd}{n m:Nat}{p:Nd}{ok:Bool}(hp:l[n]?=some p)(h:yP l [(n:Int)] n ok m):yP l p.kids (n+1) ok m:=by
 rcases h.head rfl hp with⟨rfl,h1⟩|⟨m1,h1,h2⟩
 ·exact h1
 ·cases h2;exact h1
def kc (l:List Nd)(n m:Nat):Nat:=(((l.take m).drop n).map (fun p=>p.kids.length)).sum
theorem Yr (l:List Nd){a b c:Nat}(h1:a≤b)(h2:b≤c):kc l a c=kc l a b+kc l b c:=by
 unfold kc
 have:(l.take c).drop a=(l.take b).drop a++(l.take c).drop b:=by
  have e:l.take b=(l.take c).take b:=by rw[List.take_take,Nat.min_eq_left h2]
  rw[e]
  conv=>lhs;rw[←List.take_append_drop b (l.take c)]
  rw[List.drop_append]
  by_cases hb:b≤(l.take c).length
  ·have:a - ((l.take c).take b).length=0:=by rw[List.length_take];omega
   rw[this,List.drop_zero]
  ·have:(l.take c).drop b=[]:=List.drop_eq_nil_of_le (by omega)
   rw[this]
   simp
 rw[this,List.map_append,List.sum_append]
theorem zbD {l:List Nd}{n:Nat}{p:Nd}(hp:l[n]?=some p):kc l n (n+1)=p.kids.length:=by
 unfold kc; have hl:=yw hp
 rw[List.take_succ_eq_append_getElem hl,List.drop_append]
 have:(l.take n).drop n=[]:=List.drop_eq_nil_of_le (by rw[List.length_take];omega)
 rw[this]
 have h2:n - (l.take n).length=0:=by rw[List.length_take];omega
 rw[h2]
 have h3:l[n]=p:=by rw[List.getElem?_eq_getElem hl]at hp;injection hp
 simp[h3]
theorem zea (l:List Nd)(n:Nat):kc l n n=0:=by
 unfold kc
 rw[List.drop_eq_nil_of_le (by rw[List.length_take];omega)]
 rfl
theorem yP.count {l:List Nd}{ks:List Int}{n m:Nat}{ok:Bool}(h:yP l ks n ok m):(ok=true→kc l n m+ks.length=m - n)∧(ok=false→m - n+1≤kc l n m+ks.length):=by
 induction h with
 |nil n=>exact⟨fun _=>by rw[zea];simp,fun h=>by cases h⟩
 |bad k ks n _=>exact⟨fun h=>(by cases h),fun _=>by rw[List.length_cons];omega⟩
 |sub p ks n m hp h1 ih=>
  refine⟨fun h=>(by cases h),fun _=>?_⟩
  have:=ih.2 rfl
  have hle:=h1.le.1
  rw[Yr l (show n≤n+1 by omega) hle,zbD hp,List.length_cons]
  omega
 |cons p ks n m ok e hp h1 h2 ih1 ih2=>
  have a1:=ih1.1 rfl; have hle:=h1.le.1; have hle2:=h2.le.1; have hk:kc l n e=p.kids.length+kc l (n+1) m+kc l m e:=by
   rw[Yr l (show n≤n+1 by omega) (show n+1≤e by omega),zbD hp,Yr l hle hle2];omega
  rw[hk,List.length_cons]
  exact⟨fun h=>by have:=ih2.1 h;omega,fun h=>by have:=ih2.2 h;omega⟩
theorem yP.inside {l:List Nd}{ks:List Int}{n e:Nat}{ok:Bool}(h:yP l ks n ok e):ok=true→∀i,n≤i→i < e→∃p m,l[i]?=some p∧yP l p.kids (i+1) true m∧m≤e:=by
 induction h with
 |nil n=>intro _ i h1 h2;omega
 |bad k ks n _=>intro h;cases h
 |sub p ks n m hp h1 ih=>intro h;cases h
 |cons p ks n m ok e hp h1 h2 ih1 ih2=>
  intro hok i hi1 hi2; have hle2:=h2.le.1; rcases Nat.eq_or_lt_of_le hi1 with rfl|hlt
  ·exact⟨p,m,hp,h1,hle2⟩
  ·rcases Nat.lt_or_ge i m with hm|hm
   ·obtain⟨q,m',a,b,c⟩:=ih1 rfl i hlt hm
    exact⟨q,m',a,b,by omega⟩
   ·exact ih2 hok i hm hi2
theorem yP.kid {l:List Nd}{ks:List Int}{n e:Nat}{ok:Bool}(h:yP l ks n ok e):ok=true→∀k∈ks,∃i:Nat,k=(i:Int)∧n≤i∧i < e:=by
 induction h with
 |nil n=>intro _ k hk;cases hk
 |bad k ks n _=>intro h;cases h
 |sub p ks n m hp h1 ih=>intro h;cases h
 |cons p ks n m ok e hp h1 h2 ih1 ih2=>
  intro hok k hk; have hle:=h1.le.1; have hle2:=h2.le.1; rcases List.mem_cons.1 hk with rfl|hk
  ·exact⟨n,rfl,Nat.le_refl _,by omega⟩
  ·obtain⟨i,a,b,c⟩:=ih2 hok k hk
   exact⟨i,a,by omega,c⟩
theorem yP.append {l:List Nd}{ks ks':List Int}{n m e:Nat}{ok ok':Bool}(h:yP l ks n ok m):ok=true→yP l ks' m ok' e→yP l (ks++ks') n ok' e:=by
 induction h with
 |nil n=>intro _ h';exact h'
 |bad k ks n _=>intro h;cases h
 |sub p ks n m hp h1 ih=>intro h;cases h
 |cons p ks n m ok e hp h1 h2 ih1 ih2=>intro hok h';exact .cons p _ n m ok' _ hp h1 (ih2 hok h')
theorem yP.split {l:List Nd}{ks':List Int}{e:Nat}:∀(ks:List Int) {n:Nat},yP l (ks++ks') n true e→∃m,yP l ks n true m∧yP l ks' m true e
 |[],n,h=>⟨n,.nil n,h⟩
 |k ::ks,n,h=>by
  cases h with
  |cons p _ _ m _ _ hp h1 h2=>
   obtain⟨m',a,b⟩:=yP.split ks h2
   exact⟨m',.cons p ks n m true m' hp h1 a,b⟩
theorem yP.first {l:List Nd}{k:Int}{ks:List Int}{n e:Nat}(h:yP l (k ::ks) n true e):k=(n:Int)∧n < l.length:=by
 cases h with
 |cons p _ _ m _ _ hp _ _=>exact⟨rfl,yw hp⟩
def qo (l:List Nd)(hi:Int):Int→List Int→Bool
 |a,[]=>decide (a≤hi)
 |a,k ::ks=>match l[k.toNat]? with
  |some q=>decide (a≤q.lo)&&qo l hi q.hi ks
  |none=>false
structure xR (l:List Nd):Prop where
 bare:∀i p,l[i]?=some p→ZW p∧(0 < i→p.kind≠1)
 trek:yP l [0] 0 true l.length
 lies:∀p∈l,qo l p.hi p.lo p.kids=true
theorem xR.pos {l:List Nd}(h:xR l):0 < l.length:=h.trek.first.2
open Classical in
noncomputable def JH (l:List Nd):Int:=if l.length > 524288 then 3 else if xR l then 0 else 2
theorem xR.at {l:List Nd}(h:xR l){i:Nat}(hi:i < l.length):∃p m,l[i]?=some p∧yP l p.kids (i+1) true m∧m≤l.length:=
 h.trek.inside rfl i (Nat.zero_le _) hi
theorem yP.nest {l:List Nd}{ks:List Int}{n e:Nat}(h:yP l ks n true e){i:Nat}(hk:(i:Int)∈ks):∃p m,l[i]?=some p∧yP l p.kids (i+1) true m∧m≤e∧n≤i:=by
 obtain⟨i',hi,h1,h2⟩:=h.kid rfl _ hk
 have:i=i':=by omega
 subst this
 obtain⟨p,m,a,b,c⟩:=h.inside rfl i h1 h2
 exact⟨p,m,a,b,c,h1⟩
def Nd.by (f:Int→Int)(p:Nd):Nd:={p with kids:=p.kids.map f}
@[simp] theorem Nd.by_kids (f:Int→Int) (p:Nd):(p.by f).kids=p.kids.map f:=rfl
@[simp] theorem Nd.by_lo (f:Int→Int) (p:Nd):(p.by f).lo=p.lo:=rfl
@[simp] theorem Nd.by_hi (f:Int→Int) (p:Nd):(p.by f).hi=p.hi:=rfl
@[simp] theorem Nd.by_kind (f:Int→Int) (p:Nd):(p.by f).kind=p.kind:=rfl
@[simp] theorem Nd.by_sym (f:Int→Int) (p:Nd):(p.by f).sym=p.sym:=rfl
theorem Nd.by_id {f:Int→Int}{p:Nd}(h:∀k∈p.kids,f k=k):p.by f=p:=by
 simp only[Nd.by,List.map_congr_left h,List.map_id']
def zhC (d:Int)(l:List Nd):List Nd:=l.map (Nd.by (· +d))
def zi7 (l:List Nd)(i m:Nat):List Nd:=zhC (-(i:Int)) ((l.drop i).take (m - i))
structure YG (l:List Nd)(i m:Nat):Prop where
 lt:i < l.length
 trek:yP l [(i:Int)] i true m
 le:m≤l.length
theorem xR.part {l:List Nd}(h:xR l){i:Nat}(hi:i < l.length):∃m,YG l i m:=by
 obtain⟨p,m,a,b,c⟩:=h.at hi
 exact⟨m,hi,yP.one a b,c⟩
theorem YG.lt_end {l:List Nd}{i m:Nat}(h:YG l i m):i < m:=by
 obtain⟨p,m1,a,b,c,_⟩:=h.trek.nest (List.mem_singleton.2 rfl)
 have:=b.le.1
 omega
theorem YG.kid_in {l:List Nd}{i m:Nat}(h:YG l i m){j:Nat}(h1:i≤j)(h2:j < m){p:Nd}(hp:l[j]?=some p):∀k∈p.kids,∃c:Nat,k=(c:Int)∧j < c∧c < m:=by
 intro k hk
 obtain⟨q,m1,a,b,c⟩:=h.trek.inside rfl j h1 h2
 rw[hp]at a
 cases a
 obtain⟨c',e1,e2,e3⟩:=b.kid rfl k hk
 exact⟨c',e1,by omega,by omega⟩
theorem xR.kid_behind {l:List Nd}(T:xR l){j:Nat}{p:Nd}(hp:l[j]?=some p):∀k∈p.kids,∃c:Nat,k=(c:Int)∧j < c∧c < l.length:=by
 intro k hk
 obtain⟨q,m1,a,b,c⟩:=T.at (yw hp)
 rw[hp]at a
 cases a
 obtain⟨c',e1,e2,e3⟩:=b.kid rfl k hk
 exact⟨c',e1,by omega,by omega⟩
structure Ed where
 a:Int
 d:Int
 i:Int
 om:Int→Int
def stF (x:Int)(E:Ed):Int:=if x < E.a then x else if E.a+E.d≤x then x - E.d+E.i else E.a+E.i
def enF (x:Int)(E:Ed):Int:=if x≤E.a then x else if E.a+E.d≤x then x - E.d+E.i else E.a
def Jr (f t:Int)(E:Ed):Prop:=(0 < E.d∧E.a < t∧f < E.a+E.d)∨(0 < E.i∧f < E.a∧E.a < t)
instance (f t:Int)(E:Ed):Decidable (Jr f t E):=inferInstanceAs (Decidable (_∨_))
def jb (p:Nd):Int:=if p.kind=1 then -1 else p.lo
def loE (E:Ed)(p:Nd):Int:=if p.kind=1 then 0 else stF p.lo E
def hiE (E:Ed)(tO:Int)(p:Nd):Int:=if p.kind=1 then max 0 (max tO (p.hi - E.d+E.i))else max (loE E p) (max tO (enF p.hi E))
def ZB (E:Ed)(p:Nd):Int:=if p.kind=1 then 1 else if Jr (jb p) p.look E then max (max (loE E p+1) (enF p.look E)) (E.a+1)else max (loE E p+1) (enF p.look E)
def JO (E:Ed)(tO:Int)(p:Nd):Int:=if p.inn=p.lo then loE E p else min (max (loE E p) (stF p.inn E)) (hiE E tO p)
def zdQ (E:Ed)(p:Nd):Int:=if Jr (jb p) p.look E then E.om p.met else p.met
def ja (E:Ed)(tO:Int)(p:Nd):Nd:={sym:=p.sym,kind:=p.kind,lo:=loE E p,inn:=JO E tO p,hi:=hiE E tO p,look:=ZB E p,kids:=p.kids,met:=zdQ E p}
def Js (l:List Nd)(k:Int):Int:=((l[k.toNat]?).map (·.hi)).getD 0
def xY (l:List Nd)(ks:List Int):Int:=ks.foldl (fun t k=>max t (Js l k)) 0
def qH (E:Ed)(l out:List Nd):Prop:=out.length=l.length∧∀(j:Nat) (p:Nd),l[j]?=some p→out[j]?=some (ja E (xY out p.kids) p)
theorem ZI (f:Int→Int):∀(ks:List Int) (t:Int),t≤ks.foldl (fun t k=>max t (f k)) t∧(∀k∈ks,f k≤ks.foldl (fun t k=>max t (f k)) t)∧∀B,t≤B→(∀k∈ks,f k≤B)→ks.foldl (fun t k=>max t (f k)) t≤B
 |[],t=>⟨Int.le_refl _,fun k hk=>(by cases hk),fun B h _=>h⟩
 |k ::ks,t=>by
  obtain⟨h1,h2,h3⟩:=ZI f ks (max t (f k))
  rw[List.foldl_cons]
  refine⟨by omega,fun k' hk'=>?_,fun B hB hk'=>h3 B ?_ fun k'' hk''=>hk' k'' (List.mem_cons_of_mem _ hk'')⟩
  ·rcases List.mem_cons.1 hk' with rfl|hk'
   ·omega
   ·exact h2 k' hk'
  ·have:=hk' k (List.mem_cons_self ..)
   omega
theorem YF (l:List Nd)(ks:List Int):0≤xY l ks:=(ZI (Js l) ks 0).1
theorem zgg (l:List Nd){ks:List Int}{k:Int}(hk:k∈ks):Js l k≤xY l ks:=(ZI (Js l) ks 0).2.1 k hk
theorem VX (l:List Nd){ks:List Int}{B:Int}(h0:0≤B)(h:∀k∈ks,Js l k≤B):xY l ks≤B:=(ZI (Js l) ks 0).2.2 B h0 h
theorem za1 {l l':List Nd}{ks:List Int}(h:∀k∈ks,Js l k=Js l' k):xY l ks=xY l' ks:=by
 unfold xY
 suffices ∀t,ks.foldl (fun t k=>max t (Js l k)) t=ks.foldl (fun t k=>max t (Js l' k)) t from this 0
 induction ks with
 |nil=>intro t;rfl
 |cons k ks ih=>
  intro t
  rw[List.foldl_cons,List.foldl_cons,h k (List.mem_cons_self ..)]
  exact ih (fun k hk=>h k (List.mem_cons_of_mem _ hk)) _
theorem YT {E:Ed}(_ha:0≤E.a)(_hd:0≤E.d)(hi:0≤E.i){x y:Int}(h:x≤y):stF x E≤stF y E:=by
 unfold stF; split<;>split<;>first|omega|(split<;>first|omega|(split<;>omega))
theorem zbV {E:Ed}(_ha:0≤E.a)(hd:0≤E.d)(hi:0≤E.i)(x:Int):enF x E≤stF x E:=by
 unfold stF enF; split<;>split<;>first|omega|(split<;>first|omega|(split<;>omega))
theorem jS {E:Ed}(ha:0≤E.a)(hi:0≤E.i)(_hd:0≤E.d){x:Int}(h:0≤x):0≤stF x E:=by
 unfold stF; split<;>first|omega|(split<;>omega)
theorem ZN {l:List Nd}{hi:Int}(hb:∀q∈l,q.lo≤q.hi):∀(ks:List Int) (a:Int),qo l hi a ks=true→a≤hi∧∀k∈ks,∃q,l[k.toNat]?=some q∧a≤q.lo∧q.hi≤hi
 |[],a,h=>⟨by unfold qo at h;exact of_decide_eq_true h,fun k hk=>(by cases hk)⟩
 |k ::ks,a,h=>by
  unfold qo at h; cases hq:l[k.toNat]? with
  |none=>rw[hq]at h;cases h
  |some q=>
   rw[hq]at h
   simp only[Bool.and_eq_true,decide_eq_true_eq]at h
   obtain⟨h1,h2⟩:=ZN hb ks q.hi h.2
   have hqb:=hb q (List.mem_of_getElem? hq)
   refine⟨by omega,fun k' hk'=>?_⟩
   rcases List.mem_cons.1 hk' with rfl|hk'
   ·exact⟨q,hq,h.1,h1⟩
   ·obtain⟨q',a1,a2,a3⟩:=h2 k' hk'
    exact⟨q',a1,by omega,a3⟩
theorem Y7 {E:Ed}(ha:0≤E.a)(hd:0≤E.d)(hi0:0≤E.i){l out:List Nd}{hi hi':Int}:∀(ks:List Int) (a a':Int),a'≤stF a E→a'≤hi'→
 (∀k∈ks,∀q,l[k.toNat]?=some q→∃q',out[k.toNat]?=some q'∧q'.lo=stF q.lo E∧q'.hi≤stF q.hi E∧q'.hi≤hi')→qo l hi a ks=true→qo out hi' a' ks=true
 |[],a,a',_,h,_,_=>by unfold qo;exact decide_eq_true h
 |k ::ks,a,a',h1,h2,hc,h=>by
  unfold qo at h ⊢; cases hq:l[k.toNat]? with
  |none=>rw[hq]at h;cases h
  |some q=>
   rw[hq]at h
   simp only[Bool.and_eq_true,decide_eq_true_eq]at h
   obtain⟨q',g1,g2,g3,g4⟩:=hc k (List.mem_cons_self ..) q hq
   rw[g1]
   simp only[Bool.and_eq_true,decide_eq_true_eq]
   refine⟨?_,Y7 ha hd hi0 ks q.hi q'.hi g3 g4 (fun k hk=>hc k (List.mem_cons_of_mem _ hk)) h.2⟩
   have:=YT (E:=E) ha hd hi0 h.1
   omega
theorem yP.congr {l l':List Nd}{ks:List Int}{n m:Nat}{ok:Bool}(h:yP l ks n ok m)(hl:l'.length=l.length)(hc:∀(j:Nat) (p:Nd),l[j]?=some p→∃q,l'[j]?=some q∧q.kids=p.kids):yP l' ks n ok m:=by
 induction h with
 |nil n=>exact .nil n
 |bad k ks n hb=>exact .bad k ks n (by rw[hl];exact hb)
 |sub p ks n m hp h1 ih=>
  obtain⟨q,hq,hk⟩:=hc n p hp
  exact .sub q ks n m hq (by rw[hk];exact ih)
 |cons p ks n m ok e hp h1 h2 ih1 ih2=>
  obtain⟨q,hq,hk⟩:=hc n p hp
  exact .cons q ks n m ok e hq (by rw[hk];exact ih1) ih2
theorem xR.ord {l:List Nd}(T:xR l):∀q∈l,q.lo≤q.hi:=by
 intro q hq
 obtain⟨j,hj,rfl⟩:=List.getElem_of_mem hq
 have:=(T.bare j _ (List.getElem?_eq_getElem hj)).1
 unfold ZW at this; omega
section
variable {E:Ed}{l out:List Nd}
theorem Vq (T:xR l)(ha:0≤E.a)(hd:0≤E.d)(hi:0≤E.i)(h:qH E l out):∀(n j:Nat),l.length - j≤n→∀p q,l[j]?=some p→out[j]?=some q→p.kind≠1→q.lo=stF p.lo E∧q.hi≤stF p.hi E:=by
 intro n; induction n with
 |zero=>intro j hj p q hp;have:=yw hp;omega
 |succ n ih=>
  intro j hj p q hp hq hk; have e:=h.2 j p hp
  rw[hq]at e
  injection e with e; subst e; have hlo:loE E p=stF p.lo E:=by unfold loE;rw[if_neg hk]
  refine⟨hlo,?_⟩
  show hiE E _ p≤_; unfold hiE
  rw[if_neg hk,hlo]
  have hb:=(T.bare j p hp).1; have h1:stF p.lo E≤stF p.hi E:=YT ha hd hi (by unfold ZW at hb;omega); have h2:=zbV ha hd hi p.hi; have h0:0≤stF p.hi E:=jS ha hi hd (by unfold ZW at hb;omega); have h3:xY out p.kids≤stF p.hi E:=by
   refine VX out h0 fun k hk'=>?_
   obtain⟨c,rfl,c1,c2⟩:=T.kid_behind hp k hk'
   obtain⟨y,hy,y1,y2⟩:=(ZN T.ord p.kids p.lo (T.lies p (List.mem_of_getElem? hp))).2 _ hk'
   rw[Int.toNat_natCast]at hy
   have hk2:=(T.bare c y hy).2 (by omega); have hz:=h.2 c y hy
   have:=(ih c (by omega) y _ hy hz hk2).2
   simp only[Js,Int.toNat_natCast]
   rw[hz]
   have:=YT (E:=E) ha hd hi y2
   simp only[Option.map_some,Option.getD_some]
   omega
  omega
theorem zaw (T:xR l)(ha:0≤E.a)(hd:0≤E.d)(hi:0≤E.i)(h:qH E l out):xR out:=by
 have hget:∀(j:Nat) (q:Nd),out[j]?=some q→∃p,l[j]?=some p∧q=ja E (xY out p.kids) p:=by
  intro j q hq; have hj:=yw hq
  rw[h.1]at hj
  have e:=h.2 j _ (List.getElem?_eq_getElem hj)
  rw[hq]at e
  injection e with e
  exact⟨_,List.getElem?_eq_getElem hj,e⟩
 refine⟨?_,?_,?_⟩
 ·intro j q hq
  obtain⟨p,hp,rfl⟩:=hget j q hq
  obtain⟨b,r⟩:=T.bare j p hp
  refine⟨?_,r⟩
  have hto:=YF out p.kids; have hlo:0≤loE E p:=by
   unfold loE; split
   ·omega
   ·exact jS ha hi hd (by unfold ZW at b;omega)
  have hlh:loE E p≤hiE E (xY out p.kids) p:=by
   unfold hiE; split
   ·rename_i hk;unfold loE;rw[if_pos hk];omega
   ·omega
  have hlk:loE E p < ZB E p:=by
   unfold ZB; split
   ·rename_i hk;unfold loE;rw[if_pos hk];omega
   ·split<;>omega
  obtain⟨b1,b2,b3,b4,b5,b6,b7,b8,b9⟩:=b
  refine⟨b1,b2,hlo,hlh,hlk,fun _=>?_,fun ht=>?_,fun hk=>?_,b9⟩
  ·show loE E p≤JO E _ p∧JO E _ p≤hiE E _ p; unfold JO; split<;>omega
  ·show JO E _ p=loE E p; unfold JO
   rw[if_pos (b7 ht)]
  ·show loE E p=hiE E _ p; have hk':p.kind=4:=hk; have h9:p.kids.length=0:=b9 (show YH p.kind by unfold YH;omega); have h90:p.kids=[]:=List.eq_nil_of_length_eq_zero h9; have e8:=b8 hk'; unfold hiE
   rw[if_neg (by omega),h90]
   have:xY out []=0:=rfl
   rw[this]
   have h2:=zbV (E:=E) ha hd hi p.hi; have hl:loE E p=stF p.hi E:=by unfold loE;rw[if_neg (by omega),e8]
   omega
 ·rw[h.1]
  exact T.trek.congr h.1 fun j p hp=>⟨_,h.2 j p hp,rfl⟩
 ·intro q hq
  obtain⟨j,hj,hjq⟩:=List.getElem_of_mem hq
  obtain⟨p,hp,rfl⟩:=hget j q (by rw[List.getElem?_eq_getElem hj,hjq])
  obtain⟨b,r⟩:=T.bare j p hp
  have hl:=T.lies p (List.mem_of_getElem? hp); refine Y7 (E:=E) (l:=l) ha hd hi p.kids p.lo _ ?_ ?_ ?_ hl
  ·show loE E p≤_; unfold loE; split
   ·exact jS ha hi hd (by unfold ZW at b;omega)
   ·omega
  ·show loE E p≤hiE E _ p; unfold hiE; split
   ·rename_i hk;unfold loE;rw[if_pos hk];omega
   ·omega
  ·intro k hk y hy
   obtain⟨c,rfl,c1,c2⟩:=T.kid_behind hp k hk
   rw[Int.toNat_natCast]at hy ⊢
   have hz:=h.2 c y hy
   obtain⟨z1,z2⟩:=Vq T ha hd hi h _ c (Nat.le_refl _) y _ hy hz ((T.bare c y hy).2 (by omega))
   refine⟨_,hz,z1,z2,?_⟩
   have:=zgg out hk
   simp only[Js,Int.toNat_natCast]at this
   rw[hz]at this
   simp only[Option.map_some,Option.getD_some]at this
   refine Int.le_trans this ?_; show xY out p.kids≤hiE E _ p; unfold hiE; split<;>omega
end
theorem YG.det {l:List Nd}{i m m':Nat}(h:YG l i m)(h':YG l i m'):m'=m:=(h.trek.det h'.trek).2
theorem YG.last {l:List Nd}{i m:Nat}(h:YG l i m){p:Nd}(hp:l[i]?=some p){k:Int}(hk:p.kids.getLast?=some k):∃c:Nat,k=(c:Int)∧i < c∧YG l c m:=by
 have t:=yP.ofOne hp h.trek
 obtain⟨ks,e⟩:∃ks,p.kids=ks++[k]:=⟨p.kids.dropLast,by
  have hne:p.kids≠[]:=by intro h0;rw[h0]at hk;cases hk
  rw[List.getLast?_eq_some_getLast hne]at hk
  injection hk with hk
  rw[←hk]
  exact(List.dropLast_concat_getLast hne).symm⟩
 rw[e]at t
 obtain⟨m1,t1,t2⟩:=t.split ks
 obtain⟨rfl,hl⟩:=t2.first
 have:=t1.le.1
 exact⟨m1,rfl,by omega,hl,t2,h.le⟩
theorem YG.leaf {l:List Nd}{i m:Nat}(h:YG l i m){p:Nd}(hp:l[i]?=some p)(hk:p.kids=[]):m=i+1:=by
 have t:=yP.ofOne hp h.trek
 rw[hk]at t
 cases t; rfl
def ve (l:List Nd)(st:List Bool):Prop:=st.length=l.length∧∀(j:Nat) (p:Nd),l[j]?=some p→st[j]?=some (decide (p.met≠0)||p.kids.any fun k=>(st[k.toNat]?).getD false)
theorem Vo {ks:List Int}{f g:Int→Bool}(h:∀k∈ks,f k=g k):ks.any f=ks.any g:=by
 induction ks with
 |nil=>rfl
 |cons k ks ih=>rw[List.any_cons,List.any_cons,h k (List.mem_cons_self ..),ih fun k hk=>h k (List.mem_cons_of_mem _ hk)]
theorem ve.one {l:List Nd}{a b:List Bool}(T:xR l)(ha:ve l a)(hb:ve l b):a=b:=by
 have key:∀(n j:Nat),l.length - j≤n→a[j]?=b[j]?:=by
  intro n; induction n with
  |zero=>intro j hj;rw[List.getElem?_eq_none (by have:=ha.1;omega),List.getElem?_eq_none (by have:=hb.1;omega)]
  |succ n ih=>
   intro j hj; rcases Nat.lt_or_ge j l.length with hlt|hge
   ·obtain⟨p,hp⟩:∃p,l[j]?=some p:=⟨_,List.getElem?_eq_getElem hlt⟩
    rw[ha.2 j p hp,hb.2 j p hp]
    congr 2
    refine Vo fun k hk=>?_
    obtain⟨c,rfl,h1,h2⟩:=T.kid_behind hp k hk
    rw[Int.toNat_natCast,ih c (by omega)]
   ·rw[List.getElem?_eq_none (by have:=ha.1;omega),List.getElem?_eq_none (by have:=hb.1;omega)]
 exact List.ext_getElem? fun j=>key (l.length - j) j (Nat.le_refl _)
def jD (l:List Nd)(n m:Nat):Prop:=∀(j:Nat) (q:Nd),n≤j→j < m→l[j]?=some q→qo l q.hi q.lo q.kids=true
theorem jD.split {l:List Nd}{a b c:Nat}(h1:a≤b)(h2:b≤c):jD l a c↔jD l a b∧jD l b c:=by
 refine⟨fun h=>⟨fun j q hj hj2=>h j q hj (by omega),fun j q hj hj2=>h j q (by omega) hj2⟩,fun⟨h,h'⟩ j q hj hj2 hq=>?_⟩
 rcases Nat.lt_or_ge j b with hb|hb
 ·exact h j q hj hb hq
 ·exact h' j q hb hj2 hq
open Classical in
noncomputable def ZK (l:List Nd)(n m:Nat)(ok:Bool)(hi at':Int)(ks:List Int):Int:=
 if ok=true∧jD l n m∧qo l hi at' ks=true then(m:Int)else -1
theorem zgP {l:List Nd}{n m:Nat}{ok:Bool}{hi at':Int}(h:yP l [] n ok m):ZK l n m ok hi at' []=if at'≤hi then(n:Int)else -1:=by
 cases h; have h0:jD l n n:=fun j q h1 h2=>by omega
 have h1:qo l hi at' []=decide (at'≤hi):=by rw[qo]
 unfold ZK; by_cases hx:at'≤hi
 ·rw[if_pos hx,if_pos ⟨rfl,h0,by rw[h1];exact decide_eq_true hx⟩]
 ·rw[if_neg hx,if_neg (fun hc=>hx (of_decide_eq_true (h1▸hc.2.2)))]
theorem zf9 {l:List Nd}{n m:Nat}{ok:Bool}{hi at' k:Int}{ks:List Int}(h:yP l (k ::ks) n ok m)(hb:k≠(n:Int)∨l.length≤n):ZK l n m ok hi at' (k ::ks)=-1:=by
 obtain⟨rfl,_⟩:=h.stop hb
 unfold ZK; simp
theorem zcj {l:List Nd}{n m:Nat}{ok:Bool}{hi at':Int}{ks:List Int}{q:Nd}(hq:l[n]?=some q)(hb:q.lo < at'):ZK l n m ok hi at' ((n:Int) ::ks)=-1:=by
 unfold ZK
 rw[if_neg]
 rintro⟨_,_,h⟩
 unfold qo at h
 rw[Int.toNat_natCast,hq]at h
 simp only[Bool.and_eq_true,decide_eq_true_eq]at h
 omega
theorem zcX {l:List Nd}{n:Nat}{q:Nd}{hi at':Int}{ks:List Int}(hq:l[n]?=some q)(hb:at'≤q.lo):(qo l hi at' ((n:Int) ::ks)=true)↔qo l hi q.hi ks=true:=by
 have:qo l hi at' ((n:Int) ::ks)=(decide (at'≤q.lo)&&qo l hi q.hi ks):=by
  conv=>lhs;unfold qo
  rw[Int.toNat_natCast,hq]
 rw[this]
 simp[hb]
theorem Jy {l:List Nd}{n m m':Nat}{ok ok':Bool}{hi at':Int}{ks:List Int}{q:Nd}(hq:l[n]?=some q)(h:yP l ((n:Int) ::ks) n ok m)(h':yP l q.kids (n+1) ok' m')(he:ZK l (n+1) m' ok' q.hi q.lo q.kids < 0):ZK l n m ok hi at' ((n:Int) ::ks)=-1:=by
 unfold ZK at he ⊢
 rw[if_neg]
 rintro⟨h1,h2,h3⟩
 subst h1
 rw[if_pos]at he
 ·omega
 ·rcases h.head rfl hq with⟨hf,_⟩|⟨m1,t1,t2⟩
  ·cases hf
  ·obtain⟨rfl,rfl⟩:=t1.det h'
   have l1:=t1.le.1; have l2:=t2.le.1
   exact⟨rfl,fun j p hj hj2=>h2 j p (by omega) (by omega),h2 n q (Nat.le_refl _) (by omega) hq⟩
theorem za6 {l:List Nd}{n m m':Nat}{ok ok':Bool}{hi at':Int}{ks:List Int}{q:Nd}(hq:l[n]?=some q)(hb:at'≤q.lo)(h:yP l ((n:Int) ::ks) n ok m)(h':yP l q.kids (n+1) ok' m')(he:¬ZK l (n+1) m' ok' q.hi q.lo q.kids < 0):
 ZK l (n+1) m' ok' q.hi q.lo q.kids=(m':Int)∧n < m'∧yP l ks m' ok m∧ZK l n m ok hi at' ((n:Int) ::ks)=ZK l m' m ok hi q.hi ks:=by
 have l0:=h'.le.1; by_cases hc:ok'=true∧jD l (n+1) m'∧qo l q.hi q.lo q.kids=true
 ·have e1:ZK l (n+1) m' ok' q.hi q.lo q.kids=(m':Int):=if_pos hc
  obtain⟨rfl,c2,c3⟩:=hc
  rcases h.head rfl hq with⟨rfl,t1⟩|⟨m1,t1,t2⟩
  ·have:=(t1.det h').1;cases this
  ·obtain⟨_,rfl⟩:=t1.det h'
   refine⟨e1,by omega,t2,?_⟩
   have l2:=t2.le.1; have hin:jD l n m':=fun j p hj hj2 hp=>by
    rcases Nat.eq_or_lt_of_le hj with rfl|hlt
    ·rw[hq]at hp;cases hp;exact c3
    ·exact c2 j p hlt hj2 hp
   unfold ZK
   have:(ok=true∧jD l n m∧qo l hi at' ((n:Int) ::ks)=true)↔(ok=true∧jD l m' m∧qo l hi q.hi ks=true):=by
    rw[jD.split (by omega:n≤m') l2,zcX hq hb]
    exact⟨fun⟨a,⟨_,b⟩,c⟩=>⟨a,b,c⟩,fun⟨a,b,c⟩=>⟨a,⟨hin,b⟩,c⟩⟩
   by_cases hx:ok=true∧jD l m' m∧qo l hi q.hi ks=true
   ·rw[if_pos hx,if_pos (this.2 hx)]
   ·rw[if_neg hx,if_neg (fun hc=>hx (this.1 hc))]
 ·exfalso; apply he
  unfold ZK
  rw[if_neg hc]
  omega
theorem zgt {l:List Nd}{ok:Bool}{m:Nat}{p:Nd}(hp:l[0]?=some p)(ht:yP l p.kids 1 ok m):xR l↔(∀i q,l[i]?=some q→ZW q∧(0 < i→q.kind≠1))∧ZK l 1 m ok p.hi p.lo p.kids=(l.length:Int):=by
 have hl:=yw hp; constructor
 ·intro T
  refine⟨T.bare,?_⟩
  have t:=yP.ofOne (n:=0) hp T.trek
  obtain⟨rfl,rfl⟩:=t.det ht
  unfold ZK
  rw[if_pos ⟨rfl,fun j q _ _ hq=>T.lies q (List.mem_of_getElem? hq),T.lies p (List.mem_of_getElem? hp)⟩]
 ·rintro⟨h1,h2⟩
  unfold ZK at h2; split at h2
  ·rename_i hc
   obtain⟨rfl,c2,c3⟩:=hc
   have hm:m=l.length:=by omega
   subst hm
   refine⟨h1,yP.one (n:=0) hp ht,fun q hq=>?_⟩
   obtain⟨j,hj,rfl⟩:=List.getElem_of_mem hq
   rcases Nat.eq_zero_or_pos j with rfl|h0
   ·rw[List.getElem?_eq_getElem hj]at hp
    injection hp with hp
    rw[hp]
    exact c3
   ·exact c2 j _ h0 hj (List.getElem?_eq_getElem hj)
  ·omega
theorem zeJ {l:List Nd}(T:xR l){i m:Nat}{p:Nd}(hp:l[i]?=some p)(h:YG l i m){ok:Bool}{m':Nat}(ht:yP l p.kids (i+1) ok m'):ZK l (i+1) m' ok p.hi p.lo p.kids=(m:Int):=by
 obtain⟨rfl,rfl⟩:=(yP.ofOne hp h.trek).det ht
 unfold ZK
 rw[if_pos ⟨rfl,fun j q _ _ hq=>T.lies q (List.mem_of_getElem? hq),T.lies p (List.mem_of_getElem? hp)⟩]
end Go.Proofs.YtmbelmngniddjaaGreat
namespace Go.Proofs.YtmbelmngniddjaaGreat
open Go.RowKit
structure Prt where
 nd:Nd
 kA:Option Addr
 kc:Nat
def I64 (x:Int):Prop:=-9223372036854775808≤x∧x≤9223372036854775807
structure jF (w:World)(p:Prt):Prop where
 kids:xW w p.kA p.nd.kids
 cap:p.nd.kids.length≤p.kc
 top:p.kc≤9223372036854775807
 none:p.kA=none→p.kc=0
 sym:I64 p.nd.sym
 kind:I64 p.nd.kind
 lo:I64 p.nd.lo
 inn:I64 p.nd.inn
 hi:I64 p.nd.hi
 look:I64 p.nd.look
 met:0≤p.nd.met∧p.nd.met≤18446744073709551615
 ks:∀k∈p.nd.kids,I64 k
def yh (p:Prt):List Value:=[.int .i64 p.nd.sym,.int .i64 p.nd.kind,.int .i64 p.nd.lo,.int .i64 p.nd.inn,.int .i64 p.nd.hi,.int .i64 p.nd.look,.slice p.kA p.nd.kids.length p.kc,.int .u64 p.nd.met]
def j4 (w:World)(A:Option Addr)(ps:List Prt):Prop:=
 0 < ps.length→∃b off,A=some ⟨b,off,none⟩∧b < w.heap.size∧∀k p,ps[k]?=some p→
  w.cell? ⟨b,off+k*8,none⟩=some (.int .i64 p.nd.sym)∧w.cell? ⟨b,off+k*8+1,none⟩=some (.int .i64 p.nd.kind)∧
  w.cell? ⟨b,off+k*8+2,none⟩=some (.int .i64 p.nd.lo)∧w.cell? ⟨b,off+k*8+3,none⟩=some (.int .i64 p.nd.inn)∧
  w.cell? ⟨b,off+k*8+4,none⟩=some (.int .i64 p.nd.hi)∧w.cell? ⟨b,off+k*8+5,none⟩=some (.int .i64 p.nd.look)∧
  w.cell? ⟨b,off+k*8+6,none⟩=some (.slice p.kA p.nd.kids.length p.kc)∧w.cell? ⟨b,off+k*8+7,none⟩=some (.int .u64 p.nd.met)
def qy (w:World)(ps:List Prt):Prop:=∀p∈ps,jF w p
def nds (ps:List Prt):List Nd:=ps.map (·.nd)
theorem yJ {ps:List Prt}{k:Nat}{p:Prt}(h:ps[k]?=some p):(nds ps)[k]?=some p.nd:=by unfold nds;rw[List.getElem?_map,h];rfl
theorem ZE {ps:List Prt}{k:Nat}{q:Nd}(h:(nds ps)[k]?=some q):∃p,ps[k]?=some p∧p.nd=q:=by
 unfold nds at h
 rw[List.getElem?_map]at h
 cases hp:ps[k]? with
 |none=>rw[hp]at h;cases h
 |some p=>rw[hp]at h;exact⟨p,rfl,by injection h⟩
theorem zx (ps:List Prt):(nds ps).length=ps.length:=by unfold nds;rw[List.length_map]
theorem j4.nil {w:World}{A:Option Addr}:j4 w A []:=fun h=>by simp at h
theorem j4.below {w w':World}{A:Option Addr}{ps:List Prt}(h:j4 w A ps)(e:Below w.heap.size w w'):j4 w' A ps:=fun h0=>by
 obtain⟨b,off,hA,hb,hc⟩:=h h0
 refine⟨b,off,hA,by have:=e.size;omega,fun j p hj=>?_⟩
 obtain⟨a0,a1,a2,a3,a4,a5,a6,a7⟩:=hc j p hj
 exact⟨(e.cell (p:=⟨b,off+j*8,.none⟩) hb).trans a0,(e.cell (p:=⟨b,off+j*8+1,.none⟩) hb).trans a1,(e.cell (p:=⟨b,off+j*8+2,.none⟩) hb).trans a2,(e.cell (p:=⟨b,off+j*8+3,.none⟩) hb).trans a3,
  (e.cell (p:=⟨b,off+j*8+4,.none⟩) hb).trans a4,(e.cell (p:=⟨b,off+j*8+5,.none⟩) hb).trans a5,(e.cell (p:=⟨b,off+j*8+6,.none⟩) hb).trans a6,(e.cell (p:=⟨b,off+j*8+7,.none⟩) hb).trans a7⟩
theorem j4.ext {w w':World}{A:Option Addr}{ps:List Prt}(h:j4 w A ps)(e:Ext w w'):j4 w' A ps:=h.below e.below
theorem jF.below {w w':World}{p:Prt}(h:jF w p)(e:Below w.heap.size w w'):jF w' p:=⟨h.kids.below e,h.cap,h.top,h.none,h.sym,h.kind,h.lo,h.inn,h.hi,h.look,h.met,h.ks⟩
theorem jF.ext {w w':World}{p:Prt}(h:jF w p)(e:Ext w w'):jF w' p:=h.below e.below
theorem qy.ext {w w':World}{ps:List Prt}(h:qy w ps)(e:Ext w w'):qy w' ps:=fun p hp=>(h p hp).ext e
theorem qy.below {w w':World}{ps:List Prt}(h:qy w ps)(e:Below w.heap.size w w'):qy w' ps:=fun p hp=>(h p hp).below e
theorem qy.get {w:World}{ps:List Prt}(h:qy w ps){k:Nat}{p:Prt}(hp:ps[k]?=some p):jF w p:=h p (List.mem_of_getElem? hp)
end Go.Proofs.YtmbelmngniddjaaGreat
namespace Go.Proofs.YtmbelmngniddjaaGreat
structure Zb (E:Ed)(l:List Nd)(k:Nat)(out:List Nd):Prop where
 len:out.length=l.length
 ahead:∀(j:Nat) (p:Nd),l[j]?=some p→j < k→out[j]?=some p
 behind:∀(j:Nat) (p:Nd),l[j]?=some p→k≤j→out[j]?=some (ja E (xY out p.kids) p)
theorem Zb.first (E:Ed)(l:List Nd):Zb E l l.length l:=⟨rfl,fun _ _ h _=>h,fun _ _ h hj=>absurd (yw h) (Nat.not_lt.2 hj)⟩
theorem Zb.last {E:Ed}{l out:List Nd}(h:Zb E l 0 out):qH E l out:=⟨h.len,fun j p hp=>h.behind j p hp (Nat.zero_le _)⟩
theorem zdh {l out:List Nd}(T:xR l){k j:Nat}{p q:Nd}(hp:l[j]?=some p)(hj:k≤j):xY (out.set k q) p.kids=xY out p.kids:=
 za1 fun x hx=>by
  obtain⟨c,rfl,h1,h2⟩:=T.kid_behind hp x hx
  simp only[Js,Int.toNat_natCast]
  rw[List.getElem?_set_ne (by omega)]
theorem Zb.step {E:Ed}{l out:List Nd}(T:xR l){k:Nat}(h:Zb E l (k+1) out){p:Nd}(hp:l[k]?=some p):Zb E l k (out.set k (ja E (xY out p.kids) p)):=by
 have hk:=yw hp
 refine⟨by rw[List.length_set];exact h.len,fun j q hq hj=>?_,fun j q hq hj=>?_⟩
 ·rw[List.getElem?_set_ne (by omega)]
  exact h.ahead j q hq (by omega)
 ·rw[zdh T hq hj]
  rcases Nat.eq_or_lt_of_le hj with rfl|hj
  ·rw[hp]at hq
   injection hq with hq; subst hq
   rw[List.getElem?_set_self (by rw[h.len];exact hk)]
  ·rw[List.getElem?_set_ne (by omega)]
   exact h.behind j q hq hj
def ZY (x:Int):Prop:=-1073741824≤x∧x≤1073741824
structure zjY (p:Nd):Prop where
 lo:ZY p.lo
 inn:ZY p.inn
 hi:ZY p.hi
 look:ZY p.look
theorem zdK {a d i t:Int}{om:Int→Int}{p:Nd}(ha:ZY a)(hd:ZY d)(hi:ZY i)(hp:zjY p)(ht:0≤t∧t≤8589934592):
 (-8589934592≤loE ⟨a,d,i,om⟩ p∧loE ⟨a,d,i,om⟩ p≤8589934592)∧(-8589934592≤JO ⟨a,d,i,om⟩ t p∧JO ⟨a,d,i,om⟩ t p≤8589934592)∧
 (-8589934592≤hiE ⟨a,d,i,om⟩ t p∧hiE ⟨a,d,i,om⟩ t p≤8589934592)∧(-8589934593≤ZB ⟨a,d,i,om⟩ p∧ZB ⟨a,d,i,om⟩ p≤8589934593):=by
 obtain⟨h1,h2,h3,h4⟩:=hp
 unfold ZY at*; have st:∀x:Int,-1073741824≤x∧x≤1073741824→-4294967296≤stF x ⟨a,d,i,om⟩∧stF x ⟨a,d,i,om⟩≤4294967296:=fun x hx=>by
  unfold stF; dsimp only; split<;>(try split)<;>omega
 have en:∀x:Int,-1073741824≤x∧x≤1073741824→-4294967296≤enF x ⟨a,d,i,om⟩∧enF x ⟨a,d,i,om⟩≤4294967296:=fun x hx=>by
  unfold enF; dsimp only; split<;>(try split)<;>omega
 have s1:=st _ h1; have s2:=st _ h2; have e3:=en _ h3; have e4:=en _ h4; have b1:-4294967296≤loE ⟨a,d,i,om⟩ p∧loE ⟨a,d,i,om⟩ p≤4294967296:=by unfold loE;split<;>omega
 have b2:-4294967296≤hiE ⟨a,d,i,om⟩ t p∧hiE ⟨a,d,i,om⟩ t p≤8589934592:=by unfold hiE;dsimp only;split<;>omega
 refine⟨by omega,?_,by omega,?_⟩
 ·unfold JO; split<;>omega
 ·unfold ZB; dsimp only; split
  ·omega
  ·split<;>omega
end Go.Proofs.YtmbelmngniddjaaGreat
namespace Go.Proofs.YtmbelmngniddjaaGreat
open Go.RowKit
attribute [local go_sem] zF zB zI zJ zw zt zN zD zX zQ zK zP zO zL zT zR zS zG zM zC
def nd1 (p:Sh):Nd:=⟨p.sym,p.kind,p.lo,p.inn,p.hi,p.look,p.ks,0⟩
def Q9:Nat→List yi→List Int
 |_,[]=>[]
 |n,t ::ts=>(n:Int) ::Q9 (n+yu t) ts
def YD:Nat→List yi→List Sh
 |_,[]=>[]
 |n,t ::ts=>(yH t).map (yK n)++YD (n+yu t) ts
theorem JB:∀(ts:List yi) (d:DtP) (ks0:List Int) (r:List Sh),qq (shD d ks0 ::r) ts=shD d (ks0++Q9 (r.length+1) ts) ::(r++YD (r.length+1) ts)
 |[],d,ks0,r=>by simp[qq,Q9,YD]
 |t ::ts,d,ks0,r=>by
  simp only[qq]
  have e:q9 (shD d ks0 ::r) (yH t)=shD d (ks0++[((r.length+1:Nat):Int)]) ::(r++(yH t).map (yK (r.length+1))):=rfl
  rw[e,JB ts]
  have hl:(r++(yH t).map (yK (r.length+1))).length+1=r.length+1+yu t:=by
   rw[List.length_append,List.length_map,yT]
   omega
  rw[hl]
  simp only[Q9,YD,List.append_assoc,List.singleton_append]
theorem vL (d:DtP)(ts:List yi):yH (.node d ts)=shD d (Q9 1 ts) ::YD 1 ts:=by
 simp only[yH]
 rw[JB]
 simp
theorem zaS (a n:Nat)(q:Sh):yK a (yK n q)=yK (a+n) q:=by
 simp only[yK,List.map_map]
 congr 1
 refine List.map_congr_left fun k _=>?_; simp only[Function.comp]
 omega
def qG (l:List Nd)(a:Nat)(ps:List Sh):Prop:=∀(j:Nat) (q:Sh),ps[j]?=some q→l[a+j]?=some (nd1 (yK a q))
def zaA (l:List Nd)(a n:Nat)(ps:List Sh):Prop:=∀(j:Nat) (q:Sh),ps[j]?=some q→l[a+n+j]?=some (nd1 (yK a q))
theorem qG.kids {l:List Nd}{a:Nat}{d:DtP}{ts:List yi}(h:qG l a (yH (.node d ts))):l[a]?=some (nd1 (yK a (shD d (Q9 1 ts))))∧zaA l a 1 (YD 1 ts):=by
 rw[vL]at h
 refine⟨h 0 _ rfl,fun j q hq=>?_⟩
 have:=h (j+1) q (by simpa using hq)
 rw[show a+1+j=a+(j+1)from by omega]
 exact this
theorem zaA.head {l:List Nd}{a n:Nat}{t:yi}{ts:List yi}(h:zaA l a n (YD n (t ::ts))):qG l (a+n) (yH t)∧zaA l a (n+yu t) (YD (n+yu t) ts):=by
 simp only[YD]at h
 refine⟨fun j q hq=>?_,fun j q hq=>?_⟩
 ·have hl:=(List.getElem?_eq_some_iff.1 hq).1
  have:=h j (yK n q) (by rw[List.getElem?_append_left (by rw[List.length_map];exact hl),List.getElem?_map,hq];rfl)
  rw[zaS]at this
  exact this
 ·have:=h (yu t+j) q (by rw[List.getElem?_append_right (by rw[List.length_map,yT];omega),List.length_map,yT,Nat.add_sub_cancel_left];exact hq)
  rw[show a+(n+yu t)+j=a+n+(yu t+j)from by omega]
  exact this
mutual
theorem Qq {l:List Nd}:∀(t:yi) (a:Nat),qG l a (yH t)→yP l [(a:Int)] a true (a+yu t)
 | .node d ts,a,h=>by
  obtain⟨h1,h2⟩:=h.kids
  have h3:=zbX ts a 1 h2; refine yP.one h1 ?_; have e:(nd1 (yK a (shD d (Q9 1 ts)))).kids=(Q9 1 ts).map (· +(a:Int)):=rfl
  rw[e,yF,show a+(1+yL ts)=a+1+yL ts from by omega]
  exact h3
theorem zbX {l:List Nd}:∀(ts:List yi) (a n:Nat),zaA l a n (YD n ts)→yP l ((Q9 n ts).map (· +(a:Int))) (a+n) true (a+n+yL ts)
 |[],a,n,h=>by simp only[Q9,List.map_nil,yL,Nat.add_zero];exact .nil _
 |t ::ts,a,n,h=>by
  obtain⟨h1,h2⟩:=h.head
  have k1:=Qq t (a+n) h1; have k2:=zbX ts a (n+yu t) h2; simp only[Q9,List.map_cons,yL]
  rw[show(n:Int)+(a:Int)=((a+n:Nat):Int)from by omega]
  rw[show a+(n+yu t)=a+n+yu t from by omega]at k2
  have:=yP.append (ks:=[((a+n:Nat):Int)]) k1 rfl k2
  rw[show a+n+(yu t+yL ts)=a+n+yu t+yL ts from by omega]
  exact this
end
def ndR (t:yi):List Nd:=(yH t).map nd1
theorem Zl (t:yi):(ndR t).length=yu t:=by rw[ndR,List.length_map,yT]
theorem zcx (q:Sh):yK 0 q=q:=by
 simp only[yK]
 have:q.ks.map (· +((0:Nat):Int))=q.ks:=by
  conv=>rhs;rw[←List.map_id q.ks]
  exact List.map_congr_left fun k _=>by simp
 rw[this]
theorem zbL (t:yi):qG (ndR t) 0 (yH t):=fun j q hq=>by
 rw[Nat.zero_add,zcx,ndR,List.getElem?_map,hq]
 rfl
theorem zfQ (t:yi):yP (ndR t) [0] 0 true (ndR t).length:=by
 have:=Qq t 0 (zbL t)
 rw[Nat.zero_add]at this
 rw[Zl]
 exact this
mutual
theorem zhw {l:List Nd}:∀(t:yi) (a:Nat),qG l a (yH t)→∀i,i < yu t→∃u,InR u t∧qG l (a+i) (yH u)∧i+yu u≤yu t
 | .node d ts,a,h,i,hi=>by
  obtain⟨_,h2⟩:=h.kids
  rcases Nat.eq_zero_or_pos i with rfl|h0
  ·exact⟨_,.self,h,by omega⟩
  ·obtain⟨k,hk,u,hu,h3,h4⟩:=zdw ts a 1 h2 (i - 1) (by rw[yF]at hi;omega)
   refine⟨u,.kid hk hu,?_,by rw[yF];omega⟩
   rw[show a+i=a+1+(i - 1)from by omega]
   exact h3
theorem zdw {l:List Nd}:∀(ts:List yi) (a n:Nat),zaA l a n (YD n ts)→∀i,i < yL ts→∃k∈ts,∃u,InR u k∧qG l (a+n+i) (yH u)∧i+yu u≤yL ts
 |[],a,n,h,i,hi=>by simp[yL]at hi
 |t ::ts,a,n,h,i,hi=>by
  obtain⟨h1,h2⟩:=h.head
  simp only[yL]at hi ⊢
  by_cases hlt:i < yu t
  ·obtain⟨u,hu,h3,h4⟩:=zhw t (a+n) h1 i hlt
   exact⟨t,List.mem_cons_self ..,u,hu,h3,by omega⟩
  ·obtain⟨k,hk,u,hu,h3,h4⟩:=zdw ts a (n+yu t) h2 (i - yu t) (by omega)
   refine⟨k,List.mem_cons_of_mem _ hk,u,hu,?_,by omega⟩
   rw[show a+n+i=a+(n+yu t)+(i - yu t)from by omega]
   exact h3
end
theorem ziD (t:yi){i:Nat}(hi:i < yu t):∃u,InR u t∧qG (ndR t) i (yH u)∧i+yu u≤yu t∧YG (ndR t) i (i+yu u):=by
 obtain⟨u,h1,h2,h3⟩:=zhw t 0 (zbL t) i hi
 rw[Nat.zero_add]at h2
 exact⟨u,h1,h2,h3,⟨by rw[Zl];exact hi,Qq u i h2,by rw[Zl];exact h3⟩⟩
section
variable {E:Ed}{l out:List Nd}
theorem VR (T:xR l)(ha:0≤E.a)(hd:0≤E.d)(hi:0≤E.i)(h:qH E l out){j:Nat}{p:Nd}(hp:l[j]?=some p)(h0:0≤p.hi):xY out p.kids≤stF p.hi E:=by
 refine VX out (jS ha hi hd h0) fun k hk'=>?_
 obtain⟨c,rfl,c1,c2⟩:=T.kid_behind hp k hk'
 obtain⟨y,hy,y1,y2⟩:=(ZN T.ord p.kids p.lo (T.lies p (List.mem_of_getElem? hp))).2 _ hk'
 rw[Int.toNat_natCast]at hy
 have hz:=h.2 c y hy; have h2:=(Vq T ha hd hi h _ c (Nat.le_refl _) y _ hy hz ((T.bare c y hy).2 (by omega))).2; simp only[Js,Int.toNat_natCast]
 rw[hz]
 have:=YT (E:=E) ha hd hi y2
 simp only[Option.map_some,Option.getD_some]
 omega
theorem ZJ {p:Nd}(h:ZW p):0≤p.lo∧p.lo≤p.hi∧p.lo < p.look∧p.lo≤p.inn∧p.inn≤p.hi:=by
 unfold ZW at h
 obtain⟨h1,h2,h3,h4,h5,h6,h7,h8,h9⟩:=h
 by_cases ht:zf8 p.kind
 ·have:=h6 ht
  omega
 ·have:=h7 ht
  omega
theorem zaV (T:xR l)(ha:0≤E.a)(hd:0≤E.d)(hi:0≤E.i)(h:qH E l out){j:Nat}{p:Nd}(hp:l[j]?=some p)(hk:p.kind≠1)(h1:p.hi < E.a)(h2:p.look≤E.a):out[j]?=some p:=by
 rw[h.2 j p hp]
 obtain⟨b1,b2,b3,b4,b5⟩:=ZJ (T.bare j p hp).1
 have hto:=VR T ha hd hi h hp (by omega); have ho:jb p=p.lo:=by unfold jb;rw[if_neg hk]
 have hm:¬Jr (jb p) p.look E:=by rw[ho];unfold Jr;omega
 have e1:loE E p=p.lo:=by unfold loE stF;rw[if_neg hk,if_pos (by omega)]
 have e2:hiE E (xY out p.kids) p=p.hi:=by
  unfold hiE enF
  rw[if_neg hk,e1,if_pos (by omega)]
  unfold stF at hto
  rw[if_pos (by omega)]at hto
  omega
 have e3:ZB E p=p.look:=by
  unfold ZB enF
  rw[if_neg hk,if_neg hm,e1,if_pos (by omega)]
  omega
 have e4:JO E (xY out p.kids) p=p.inn:=by
  unfold JO stF
  rw[e1,e2,if_pos (show p.inn < E.a by omega)]
  split<;>omega
 have e5:zdQ E p=p.met:=by unfold zdQ;rw[if_neg hm]
 unfold ja
 rw[e1,e2,e3,e4,e5]
theorem J5 (T:xR l)(ha:0≤E.a)(hd:0≤E.d)(hi:0≤E.i)(h:qH E l out){j:Nat}{p:Nd}(hp:l[j]?=some p)(hk:p.kind≠1)(h1:E.a+E.d≤p.lo):out[j]?=some {p with lo:=p.lo+(E.i - E.d),inn:=p.inn+(E.i - E.d),hi:=p.hi+(E.i - E.d),look:=p.look+(E.i - E.d)}:=by
 rw[h.2 j p hp]
 obtain⟨b1,b2,b3,b4,b5⟩:=ZJ (T.bare j p hp).1
 have hto:=VR T ha hd hi h hp (by omega); have ho:jb p=p.lo:=by unfold jb;rw[if_neg hk]
 have hm:¬Jr (jb p) p.look E:=by rw[ho];unfold Jr;omega
 have e1:loE E p=p.lo+(E.i - E.d):=by
  unfold loE stF
  rw[if_neg hk,if_neg (by omega),if_pos h1]
  omega
 have e2:hiE E (xY out p.kids) p=p.hi+(E.i - E.d):=by
  unfold hiE enF
  rw[if_neg hk,e1]
  unfold stF at hto
  rw[if_neg (by omega),if_pos (by omega)]at hto
  split
  ·omega
  ·rw[if_pos (by omega)]
   omega
 have e3:ZB E p=p.look+(E.i - E.d):=by
  unfold ZB enF
  rw[if_neg hk,if_neg hm,e1,if_neg (by omega),if_pos (by omega)]
  omega
 have e4:JO E (xY out p.kids) p=p.inn+(E.i - E.d):=by
  unfold JO stF
  rw[e1,e2]
  split
  ·omega
  ·rw[if_neg (by omega),if_pos (by omega)]
   omega
 have e5:zdQ E p=p.met:=by unfold zdQ;rw[if_neg hm]
 unfold ja
 rw[e1,e2,e3,e4,e5]
def mvS (d:Int)(q:Sh):Sh:=⟨q.sym,q.kind,q.lo+d,q.inn+d,q.hi+d,q.look+d,q.ks⟩
theorem zd5 (T:xR l)(ha:0≤E.a)(hd:0≤E.d)(hi:0≤E.i)(h:qH E l out){i:Nat}{ps:List Sh}(hl:qG l i ps)(hq:∀q∈ps,q.kind≠1∧q.hi < E.a∧q.look≤E.a):qG out i ps:=fun j q hj=>by
 obtain⟨h1,h2,h3⟩:=hq q (List.mem_of_getElem? hj)
 exact zaV T ha hd hi h (hl j q hj) h1 h2 h3
theorem zcn (T:xR l)(ha:0≤E.a)(hd:0≤E.d)(hi:0≤E.i)(h:qH E l out){i:Nat}{ps:List Sh}(hl:qG l i ps)(hq:∀q∈ps,q.kind≠1∧E.a+E.d≤q.lo):qG out i (ps.map (mvS (E.i - E.d))):=fun j q hj=>by
 rw[List.getElem?_map]at hj
 cases hp:ps[j]? with
 |none=>rw[hp]at hj;cases hj
 |some p=>
  rw[hp]at hj
  injection hj with hj; subst hj
  obtain⟨h1,h2⟩:=hq p (List.mem_of_getElem? hp)
  exact J5 T ha hd hi h (hl j p hp) h1 h2
end
mutual
theorem VY (d:Int):∀t:yi,yu (t.mv d)=yu t
 | .node x ks=>by
  simp only[yi.mv,yu]
  rw[zbl d ks]
theorem zbl (d:Int):∀ks:List yi,yL (mvL d ks)=yL ks
 |[]=>by simp[mvL,yL]
 |t ::ts=>by
  simp only[mvL,yL]
  rw[VY d t,zbl d ts]
end
theorem zdO (d:Int):∀(ks:List yi) (n:Nat),Q9 n (mvL d ks)=Q9 n ks
 |[],n=>by simp[mvL,Q9]
 |t ::ts,n=>by
  simp only[mvL,Q9]
  rw[VY d t,zdO d ts]
mutual
theorem zdp (d:Int):∀t:yi,yH (t.mv d)=(yH t).map (mvS d)
 | .node x ks=>by
  simp only[yi.mv]
  rw[vL,vL,zdO,zeq d ks]
  rfl
theorem zeq (d:Int):∀(ks:List yi) (n:Nat),YD n (mvL d ks)=(YD n ks).map (mvS d)
 |[],n=>by simp[mvL,YD]
 |t ::ts,n=>by
  simp only[mvL,YD]
  rw[VY d t,zeq d ts,zdp d t,List.map_append,List.map_map,List.map_map]
  congr 1
end
structure TxA (s s':ByteArray)(a:Nat):Prop where
 le:a≤s.size
 le':a≤s'.size
 same:∀i,i < a→vj s' i=vj s i
structure TxB (s s':ByteArray)(b:Nat)(d:Int):Prop where
 le:b≤s.size
 size:(s'.size:Int)=s.size+d
 low:0≤(b:Int)+d
 same:∀i i':Nat,b≤i→i < s.size→(i':Int)=i+d→vj s' i'=vj s i
section
variable {nl rl kl:List Int}{kinds:Int}{s s':ByteArray}
theorem zgo:∀(f i st:Nat) (r t:Int),(i:Int)+1≤(mun nl rl s f i st r t).2.2:=by
 intro f; induction f with
 |zero=>intro i st r t;exact Int.le_refl _
 |succ f ih=>
  intro i st r t; unfold mun; split
  ·exact Int.le_refl _
  ·split
   ·exact Int.le_refl _
   ·split
    ·have:=ih (i+1) (nl.getD (256*st+vj s i) 0).toNat (rl.getD (nl.getD (256*st+vj s i) 0).toNat 0) ((i:Int)+1)
     omega
    ·have:=ih (i+1) (nl.getD (256*st+vj s i) 0).toNat r t
     omega
theorem zdn {a:Nat}(h:TxA s s' a):∀(f f' i st:Nat) (r t:Int),i≤s.size→s.size+1 - i≤f→s'.size+1 - i≤f'→(mun nl rl s f i st r t).2.2≤a→mun nl rl s' f' i st r t=mun nl rl s f i st r t:=by
 intro f; induction f with
 |zero=>intro f' i st r t h1 h2;omega
 |succ f ih=>
  intro f' i st r t h1 h2 h3 h4; have hk:=zgo (nl:=nl) (rl:=rl) (s:=s) (f+1) i st r t; have hle:=h.le; have hle':=h.le'; have hia:i < a:=by omega
  obtain⟨f',rfl⟩:∃g,f'=g+1:=⟨f' - 1,by omega⟩
  unfold mun at h4 ⊢
  rw[h.same i (by omega),if_neg (show ¬i=s'.size by omega)]
  rw[if_neg (show ¬i=s.size by omega)]at h4 ⊢
  split
  ·rfl
  ·rename_i hx
   rw[if_neg hx]at h4
   split
   ·rename_i hy
    rw[if_pos hy]at h4
    exact ih f' (i+1) _ _ _ (by omega) (by omega) (by omega) h4
   ·rename_i hy
    rw[if_neg hy]at h4
    exact ih f' (i+1) _ _ _ (by omega) (by omega) (by omega) h4
theorem zc8 {b:Nat}{d:Int}(h:TxB s s' b d):∀(f f' i i' st:Nat) (r t:Int),i≤s.size→b≤i→(i':Int)=i+d→s.size+1 - i≤f→s'.size+1 - i'≤f'→mun nl rl s' f' i' st r (t+d)=((mun nl rl s f i st r t).1,(mun nl rl s f i st r t).2.1+d,(mun nl rl s f i st r t).2.2+d):=by
 intro f; induction f with
 |zero=>intro f' i i' st r t h1 h2 h3 h4;omega
 |succ f ih=>
  intro f' i i' st r t h1 h2 h3 h4 h5; have hsz:=h.size
  obtain⟨f',rfl⟩:∃g,f'=g+1:=⟨f' - 1,by omega⟩
  unfold mun; by_cases hi:i=s.size
  ·rw[if_pos hi,if_pos (show i'=s'.size by omega)]
   refine Prod.ext rfl (Prod.ext rfl ?_)
   show(i':Int)+1=(i:Int)+1+d
   omega
  ·rw[if_neg hi,if_neg (show ¬i'=s'.size by omega),h.same i i' h2 (by omega) h3]
   split
   ·refine Prod.ext rfl (Prod.ext rfl ?_)
    show(i':Int)+1=(i:Int)+1+d
    omega
   ·split
    ·have:=ih f' (i+1) (i'+1) (nl.getD (256*st+vj s i) 0).toNat (rl.getD (nl.getD (256*st+vj s i) 0).toNat 0) ((i:Int)+1) (by omega) (by omega) (by omega) (by omega) (by omega)
     rw[show(i:Int)+1+d=(i':Int)+1 from by omega]at this
     exact this
    ·exact ih f' (i+1) (i'+1) _ _ _ (by omega) (by omega) (by omega) (by omega) (by omega)
theorem JV {b:Nat}{d:Int}(h:TxB s s' b d){p p':Nat}(hp:p≤s.size)(hb:b≤p)(he:(p':Int)=p+d):xT nl rl s' p'=((xT nl rl s p).1,(xT nl rl s p).2.1+d,(xT nl rl s p).2.2+d):=by
 unfold xT
 rw[show(p':Int)+1=(p:Int)+1+d from by omega]
 exact zc8 h _ _ p p' 0 (-1) _ hp hb he (Nat.le_refl _) (Nat.le_refl _)
theorem zhU (hO:v9 nl rl kl kinds):∀(f p:Nat) (ext:Int),p≤s.size→s.size+1 - p≤f→ext≤(nxt nl rl kl s f p ext).2.2.2∨(s.size:Int)+1≤(nxt nl rl kl s f p ext).2.2.2:=by
 intro f; induction f with
 |zero=>intro p ext h1 h2;omega
 |succ f ih=>
  intro p ext h1 h2; unfold nxt; split
  ·exact .inr (Int.le_refl _)
  ·rename_i hp; have hm:=jn (s:=s) (p:=p) hO (by omega)
   obtain⟨z,hz⟩:∃z,xT nl rl s p=z:=⟨_,rfl⟩
   rw[hz]at hm ⊢
   obtain⟨x,y,c⟩:=z
   obtain⟨m1,m2,m3,m4,m5,m6⟩:=hm
   dsimp only at m1 m2 m3 m4 m5 m6 ⊢; split
   ·left;dsimp only;omega
   ·split
    ·left;dsimp only;omega
    ·have:=ih y.toNat (max ext c) (by omega) (by omega)
     omega
theorem zdf (hO:v9 nl rl kl kinds){a:Nat}(h:TxA s s' a):∀(f f' p:Nat) (ext:Int),p≤s.size→s.size+1 - p≤f→s'.size+1 - p≤f'→(nxt nl rl kl s f p ext).2.2.2≤a→nxt nl rl kl s' f' p ext=nxt nl rl kl s f p ext:=by
 intro f; induction f with
 |zero=>intro f' p ext h1 h2;omega
 |succ f ih=>
  intro f' p ext h1 h2 h3 h4; have hle:=h.le; have hle':=h.le'; by_cases hp:p=s.size
  ·exfalso; unfold nxt at h4
   rw[if_pos hp]at h4
   dsimp only at h4; omega
  ·have hm:=jn (s:=s) (p:=p) hO (by omega); have hlk:(xT nl rl s p).2.2≤a:=by
    unfold nxt at h4
    rw[if_neg hp]at h4
    split at h4
    ·dsimp only at h4;omega
    ·split at h4
     ·dsimp only at h4;omega
     ·obtain⟨_,_,m3,m4,_,_⟩:=hm
      have:=zhU (s:=s) hO f (xT nl rl s p).2.1.toNat (max ext (xT nl rl s p).2.2) (by omega) (by omega)
      omega
   have hmm:xT nl rl s' p=xT nl rl s p:=by
    unfold xT at hlk ⊢; exact zdn h _ _ p 0 (-1) _ h1 (Nat.le_refl _) (Nat.le_refl _) hlk
   obtain⟨_,_,m3,m4,m5,_⟩:=hm
   obtain⟨f',rfl⟩:∃g,f'=g+1:=⟨f' - 1,by omega⟩
   unfold nxt at h4 ⊢
   rw[hmm,if_neg (show ¬p=s'.size by omega)]
   rw[if_neg hp]at h4 ⊢
   split
   ·rfl
   ·rename_i hx
    rw[if_neg hx]at h4
    split
    ·rfl
    ·rename_i hy
     rw[if_neg hy]at h4
     exact ih f' _ _ (by omega) (by omega) (by omega) h4
theorem zcG (hO:v9 nl rl kl kinds){a:Nat}(h:TxA s s' a){p:Nat}(hp:p≤s.size)(hl:(vI nl rl kl s p).2.2.2≤a):vI nl rl kl s' p=vI nl rl kl s p:=by
 unfold vI at hl ⊢; exact zdf hO h _ _ p 0 hp (Nat.le_refl _) (Nat.le_refl _) hl
theorem zcM (hO:v9 nl rl kl kinds){b:Nat}{d:Int}(h:TxB s s' b d):∀(f f' p p':Nat) (ext ext':Int),p≤s.size→b≤p→(p':Int)=p+d→(ext'=ext+d∨ext≤p∧ext'≤p')→s.size+1 - p≤f→s'.size+1 - p'≤f'→nxt nl rl kl s' f' p' ext'=zau d (nxt nl rl kl s f p ext):=by
 intro f; induction f with
 |zero=>intro f' p p' ext ext' h1 h2 h3 h4 h5;omega
 |succ f ih=>
  intro f' p p' ext ext' h1 h2 h3 h4 h5 h6; have hsz:=h.size
  obtain⟨f',rfl⟩:∃g,f'=g+1:=⟨f' - 1,by omega⟩
  unfold nxt; by_cases hp:p=s.size
  ·rw[if_pos hp,if_pos (show p'=s'.size by omega)]
   unfold zau; dsimp only
   rw[show(s'.size:Int)=s.size+d from hsz]
   refine Prod.ext rfl (Prod.ext rfl (Prod.ext rfl ?_))
   show(s.size:Int)+d+1=s.size+1+d
   omega
  ·have hm:=jn (s:=s) (p:=p) hO (by omega)
   rw[if_neg hp,if_neg (show ¬p'=s'.size by omega),JV h h1 h2 h3]
   obtain⟨z,hz⟩:∃z,xT nl rl s p=z:=⟨_,rfl⟩
   rw[hz]at hm ⊢
   obtain⟨x,y,c⟩:=z
   obtain⟨m1,m2,m3,m4,m5,m6⟩:=hm
   dsimp only at m1 m2 m3 m4 m5 m6 ⊢; have hmx:max (max ext' (c+d)) (y+d+1)=max (max ext c) (y+1)+d:=by omega
   split
   ·unfold zau
    rw[hmx]
    exact Prod.ext rfl (Prod.ext h3 (Prod.ext rfl rfl))
   ·split
    ·unfold zau
     rw[hmx]
     exact Prod.ext rfl (Prod.ext h3 (Prod.ext rfl rfl))
    ·exact ih f' y.toNat (y+d).toNat _ _ (by omega) (by omega) (by omega) (.inl (by omega)) (by omega) (by omega)
theorem zaL (hO:v9 nl rl kl kinds){b:Nat}{d:Int}(h:TxB s s' b d){p p':Nat}(hp:p≤s.size)(hb:b≤p)(he:(p':Int)=p+d):vI nl rl kl s' p'=zau d (vI nl rl kl s p):=by
 unfold vI; exact zcM hO h _ _ p p' 0 0 hp hb he (.inr ⟨by omega,by omega⟩) (Nat.le_refl _) (Nat.le_refl _)
end
def ziT (ps:List Sh)(d:DtP):Prop:=∃q∈ps,∃ks,q=shD d ks
theorem ziT.shift {ps:List Sh}{d:DtP}{n:Nat}(h:ziT ps d):ziT (ps.map (yK n)) d:=by
 obtain⟨q,hq,ks,rfl⟩:=h
 exact⟨_,List.mem_map_of_mem hq,_,rfl⟩
theorem zbu:∀{ts:List yi} {n:Nat} {k:yi},k∈ts→∀{d:DtP},ziT (yH k) d→ziT (YD n ts) d
 |[],n,k,h,d,_=>by cases h
 |t ::ts,n,k,h,d,hd=>by
  simp only[YD]
  rcases List.mem_cons.1 h with rfl|h
  ·obtain⟨q,hq,ks,he⟩:=hd.shift (n:=n)
   exact⟨q,List.mem_append_left _ hq,ks,he⟩
  ·obtain⟨q,hq,ks,he⟩:=zbu (n:=n+yu t) h hd
   exact⟨q,List.mem_append_right _ hq,ks,he⟩
theorem zfX {w t:yi}(h:InR w t):ziT (yH t) w.d:=by
 induction h with
 |self=>
  cases w with
  |node d ks=>
   rw[vL]
   exact⟨_,List.mem_cons_self ..,_,rfl⟩
 |kid hk _ ih=>
  rw[vL]
  obtain⟨q,hq,ks,he⟩:=zbu (n:=1) hk ih
  exact⟨q,List.mem_cons_of_mem _ hq,ks,he⟩
mutual
theorem Y0:∀(t:yi) (q:Sh),q∈yH t→∃w,InR w t∧∃ks,q=shD w.d ks
 | .node d ts,q,hq=>by
  rw[vL]at hq
  rcases List.mem_cons.1 hq with rfl|hq
  ·exact⟨_,.self,_,rfl⟩
  ·obtain⟨k,hk,w,hw,ks,he⟩:=zeb ts 1 q hq
   exact⟨w,.kid hk hw,ks,he⟩
theorem zeb:∀(ts:List yi) (n:Nat) (q:Sh),q∈YD n ts→∃k∈ts,∃w,InR w k∧∃ks,q=shD w.d ks
 |[],n,q,hq=>by simp[YD]at hq
 |t ::ts,n,q,hq=>by
  simp only[YD]at hq
  rcases List.mem_append.1 hq with hq|hq
  ·obtain⟨q',hq',rfl⟩:=List.mem_map.1 hq
   obtain⟨w,hw,ks,rfl⟩:=Y0 t q' hq'
   exact⟨t,List.mem_cons_self ..,w,hw,_,rfl⟩
  ·obtain⟨k,hk,w,hw,ks,he⟩:=zeb ts (n+yu t) q hq
   exact⟨k,List.mem_cons_of_mem _ hk,w,hw,ks,he⟩
end
mutual
theorem zjp {l:List Nd}(T:xR l):∀(t:yi) (a:Nat),qG l a (yH t)→∀q∈yH t,q.hi≤t.d.hi
 | .node d ts,a,h,q,hq=>by
  obtain⟨h1,h2⟩:=h.kids
  rw[vL]at hq
  rcases List.mem_cons.1 hq with rfl|hq
  ·exact Int.le_refl _
  ·refine zhn T ts a 1 h2 d.hi (fun k hk=>?_) q hq
   obtain⟨y,hy,_,hy2⟩:=(ZN T.ord _ _ (T.lies _ (List.mem_of_getElem? h1))).2 k hk
   exact⟨y,hy,hy2⟩
theorem zhn {l:List Nd}(T:xR l):∀(ts:List yi) (a n:Nat),zaA l a n (YD n ts)→∀(H:Int),(∀k∈(Q9 n ts).map (· +(a:Int)),∃y,l[k.toNat]?=some y∧y.hi≤H)→∀q∈YD n ts,q.hi≤H
 |[],a,n,h,H,hk,q,hq=>by simp[YD]at hq
 |t ::ts,a,n,h,H,hk,q,hq=>by
  obtain⟨h1,h2⟩:=h.head
  have hcat:YD n (t ::ts)=(yH t).map (yK n)++YD (n+yu t) ts:=by simp only[YD]
  rw[hcat]at hq
  have hoff:Q9 n (t ::ts)=(n:Int) ::Q9 (n+yu t) ts:=by simp only[Q9]
  rw[hoff]at hk
  rcases List.mem_append.1 hq with hq|hq
  ·obtain⟨q',hq',rfl⟩:=List.mem_map.1 hq
   have:=zjp T t (a+n) h1 q' hq'
   obtain⟨y,hy,hy2⟩:=hk ((n:Int)+a) (by simp)
   rw[show((n:Int)+(a:Int)).toNat=a+n from by omega]at hy
   cases t with
   |node d ks=>
    obtain⟨h3,_⟩:=h1.kids
    rw[h3]at hy
    injection hy with hy; subst hy; simp only[nd1,yK,shD]at hy2
    simp only[yi.d]at this
    simp only[yK]
    omega
  ·exact zhn T ts a (n+yu t) h2 H (fun k hk'=>hk k (by simp only[List.map_cons];exact List.mem_cons_of_mem _ hk')) q hq
end
theorem zcF {E:Ed}{l out:List Nd}(T:xR l)(ha:0≤E.a)(hd:E.d=0)(hi:E.i=0)(h:qH E l out){j:Nat}{p:Nd}(hp:l[j]?=some p)(hk:p.kind≠1):out[j]?=some p:=by
 rw[h.2 j p hp]
 obtain⟨b1,b2,b3,b4,b5⟩:=ZJ (T.bare j p hp).1
 have hto:=VR T ha (by omega) (by omega) h hp (by omega); have hm:¬Jr (jb p) p.look E:=by unfold Jr;omega
 have st:∀x,stF x E=x:=fun x=>by unfold stF;split<;>(try split)<;>omega
 have en:∀x,enF x E=x:=fun x=>by unfold enF;split<;>(try split)<;>omega
 rw[st]at hto
 have e1:loE E p=p.lo:=by unfold loE;rw[if_neg hk,st]
 have e2:hiE E (xY out p.kids) p=p.hi:=by unfold hiE;rw[if_neg hk,e1,en];omega
 have e3:ZB E p=p.look:=by unfold ZB;rw[if_neg hk,if_neg hm,e1,en];omega
 have e4:JO E (xY out p.kids) p=p.inn:=by
  unfold JO
  rw[e1,e2,st]
  split<;>omega
 have e5:zdQ E p=p.met:=by unfold zdQ;rw[if_neg hm]
 unfold ja
 rw[e1,e2,e3,e4,e5]
section
variable {D:vJ}{g:Gm}{s s':ByteArray}
theorem zeS {L:LxP}:∀(f p:Nat) (ks:List yi) (k:yi),k∈xJ L f p ks→k∈ks∨∃d,k=.node d []∧d.kind≠2:=by
 intro f; induction f with
 |zero=>intro p ks k h;exact .inl (by simpa[xJ]using h)
 |succ f ih=>
  intro p ks k h; unfold xJ at h; split at h
  ·rcases List.mem_append.1 h with h|h
   ·exact .inl h
   ·rw[List.mem_singleton]at h
    exact .inr ⟨_,h,by simp[xt]⟩
  ·rcases ih _ _ k h with h|h
   ·rcases List.mem_append.1 h with h|h
    ·exact .inl h
    ·rw[List.mem_singleton]at h
     exact .inr ⟨_,h,by simp[xt]⟩
   ·exact .inr h
theorem zaB (H:QL (qZ D g s)){f:Nat}{t0:yi}(ht:yG (qZ D g s) f 0 0 0 [] 0=some t0){w:yi}(hw:InR w (qF (qZ D g s) t0))(hk:w.d.kind=2):0≤w.d.sym - g.terms∧w.d.sym - g.terms < g.nons∧∃f lo:Nat,w.d.lo=lo∧lo≤s.size∧yG (qZ D g s) f (w.d.sym - g.terms) lo 0 [] lo=some w:=by
 have hnn:0 < g.nons:=by have:=H.gm.nons;show 0 < (qZ D g s).g.nons;omega
 obtain⟨_,h2,h3,h4⟩:=(xH H f).1 0 0 0 [] 0 t0 (by omega) hnn (Nat.zero_le _) (Nat.le_refl _) (fun _ h=>by cases h) ht
 have h3:t0.d.sym=g.terms+0:=h3; unfold qF at hw; rcases hw.cases' with rfl|⟨k,hkm,hwk⟩
 ·simp[yi.d]at hk
 ·rcases zeS _ _ _ _ hkm with hkm|⟨d,rfl,hd⟩
  ·rw[List.mem_singleton]at hkm
   subst hkm; cases k with
   |node d ks=>
    rcases hwk.cases' with rfl|⟨k2,hk2,hwk2⟩
    ·refine⟨by omega,by omega,f,0,h2,Nat.zero_le _,?_⟩
     rw[show(yi.node d ks).d.sym - g.terms=0 from by omega]
     exact ht
    ·exact(h4 k2 hk2 w hwk2).non hk
  ·rw[hwk.leaf]at hk
   exact absurd hk hd
theorem zcq (H:QL (qZ D g s))(hO:v9 D.nl D.rl D.kl D.kn){f:Nat}{t0:yi}(ht:yG (qZ D g s) f 0 0 0 [] 0=some t0){a b:Nat}{d:Int}(hab:a≤b)(hA:TxA s s' a)(hB:TxB s s' b d){E:Ed}(ea:E.a=a)(eb:E.a+E.d=b)(ed:E.i - E.d=d)(hd0:0≤E.d)(hi0:0≤E.i)(hom:E.om 0≠0)(hnop:E.d=0→E.i=0→s'=s)
 (T:xR (ndR (qF (qZ D g s) t0))) {out:List Nd} (hE:qH E (ndR (qF (qZ D g s) t0)) out) {i m:Nat} (hP:YG out i m) {q0:Nd} (hq0:out[i]?=some q0) (hk:q0.kind=2) (hmet:∀(j:Nat) (q:Nd),i≤j→j < m→out[j]?=some q→q.met=0):
 ∃(v:yi) (f p:Nat),qG out i (yH v)∧m=i+yu v∧v.d.lo=p∧p≤s'.size∧0≤v.d.sym - g.terms∧v.d.sym - g.terms < g.nons∧q0.sym=v.d.sym∧q0.lo=v.d.lo∧yG (qZ D g s') f (v.d.sym - g.terms) p 0 [] p=some v:=by
 obtain⟨t,htt⟩:∃t,qF (qZ D g s) t0=t:=⟨_,rfl⟩
 have hfp:=fun w hw hk=>zaB H ht (w:=w) hw hk
 rw[htt]at T hE hfp
 have ha0:0≤E.a:=by omega
 have hil:i < yu t:=by have:=hP.lt;rw[hE.1,Zl]at this;exact this
 obtain⟨u,hu,hL,hle,hPu⟩:=ziD t hil
 have hkid:∀(j:Nat) (p:Nd),(ndR t)[j]?=some p→∃q,out[j]?=some q∧q.kids=p.kids:=fun j p hp=>⟨_,hE.2 j p hp,rfl⟩; have hm:m=i+yu u:=(hPu.trek.congr hE.1 hkid).det hP.trek |>.2
 obtain⟨du,ksu⟩:=u
 obtain⟨hhead,_⟩:=hL.kids
 have hq1:=hE.2 i _ hhead
 rw[hq0]at hq1
 injection hq1 with hq1; have huk:du.kind=2:=by rw[hq1]at hk;exact hk
 obtain⟨n0,n1,fu,lo,hlo,hln,hloop⟩:=hfp _ hu huk
 have hlo:du.lo=lo:=hlo; have hd:∀(j:Nat) (q:Sh),(yH (.node du ksu))[j]?=some q→q.kind≠1∧¬Jr q.lo q.look E∧q.lo≤q.hi∧q.lo < q.look:=fun j q hj=>by
  have hp:=hL j q hj; have hb:=T.bare _ _ hp; have hi1:0 < i+j:=by
   rcases Nat.eq_zero_or_pos i with rfl|h0
   ·exfalso; have ht1:t=qF (qZ D g s) t0:=htt.symm
    have:(ndR t)[0]?=some (nd1 (shD ⟨-3,1,0,0,(qZ D g s).n,1⟩ (Q9 1 (xJ (qZ D g s) ((qZ D g s).n+1) t0.d.hi.toNat [t0])))):=by
     rw[ht1]
     unfold qF ndR
     rw[vL]
     rfl
    rw[this]at hhead
    injection hhead with hhead
    have:=congrArg Nd.kind hhead
    simp[nd1,yK,shD]at this
    omega
   ·omega
  have hk1:q.kind≠1:=hb.2 hi1; have hjl:=(List.getElem?_eq_some_iff.1 hj).1
  rw[yT]at hjl
  have ho:=hE.2 _ _ hp; have hmt:=hmet (i+j) _ (by omega) (by omega) ho
  refine⟨hk1,fun hM=>hom ?_,(ZJ hb.1).2.1,(ZJ hb.1).2.2.1⟩
  have hown:jb (nd1 (yK i q))=q.lo:=by unfold jb;rw[if_neg (show ¬(nd1 (yK i q)).kind=1 from hk1)];rfl
  have:zdQ E (nd1 (yK i q))=0:=hmt
  unfold zdQ at this
  rw[hown,if_pos (show Jr q.lo (nd1 (yK i q)).look E from hM)]at this
  exact this
 have hnew:∀w,InR w (.node du ksu)→w.d.kind≠1∧¬Jr w.d.lo w.d.look E∧w.d.lo≤w.d.hi∧w.d.lo < w.d.look:=fun w hw=>by
  obtain⟨q,hq,ks,rfl⟩:=zfX hw
  obtain⟨j,hj⟩:=List.mem_iff_getElem?.1 hq
  exact hd j _ hj
 have hsym:q0.sym=du.sym:=by rw[hq1];rfl
 have finish:∀(v:yi) (f p:Nat),qG out i (yH v)→yu v=yu (.node du ksu)→v.d.sym=du.sym→v.d.lo=p→p≤s'.size→yG (qZ D g s') f (v.d.sym - g.terms) p 0 [] p=some v→∃(v:yi) (f p:Nat),qG out i (yH v)∧m=i+yu v∧v.d.lo=p∧p≤s'.size∧0≤v.d.sym - g.terms∧v.d.sym - g.terms < g.nons∧q0.sym=v.d.sym∧q0.lo=v.d.lo∧yG (qZ D g s') f (v.d.sym - g.terms) p 0 [] p=some v:=fun v f p h1 h2 h3 h4 h5 h6=>by
  refine⟨v,f,p,h1,by rw[hm,h2],h4,h5,by rw[h3];exact n0,by rw[h3];exact n1,by rw[h3];exact hsym,?_,h6⟩
  obtain⟨dv,kv⟩:=v
  have:=h1.kids.1
  rw[hq0]at this
  injection this with this
  rw[this]
  rfl
 by_cases hno:E.d=0∧E.i=0
 ·have hss:=hnop hno.1 hno.2; subst hss; refine finish (.node du ksu) fu lo (fun j q hj=>zcF T ha0 hno.1 hno.2 hE (hL j q hj) (hd j q hj).1) rfl rfl hlo hln hloop
 ·have hunm:∀w,InR w (.node du ksu)→Unm a b w:=fun w hw=>by
   obtain⟨_,h2,h3,h4⟩:=hnew w hw
   unfold Jr at h2; unfold Unm; omega
  have hls:lo≤(qZ D g s).n:=hln; have hbn:b≤(qZ D g s).n:=hB.le; by_cases hla:lo < a
  ·obtain⟨h1,h2,h3,h4⟩:=(zcE (L':=qZ D g s') H rfl rfl rfl hab hbn (fun p hp hl=>zcG hO hA hp hl) fu).1 _ lo 0 [] lo _ hls hla hloop (hunm _ .self) (fun k hk u hu=>hunm u (.kid hk hu)) (fun k hk=>by cases hk)
   refine finish (.node du ksu) fu lo (zd5 T ha0 hd0 hi0 hE hL (fun q hq=>?_)) rfl rfl hlo (by have:=hA.le';omega) h1; have hh:=zjp T _ i hL q hq
   obtain⟨j,hj⟩:=List.mem_iff_getElem?.1 hq
   obtain⟨w,hw,ks,rfl⟩:=Y0 _ q hq
   have h2:du.hi < a:=h2; have hh:(shD w.d ks).hi≤du.hi:=hh
   refine⟨(hd j _ hj).1,by omega,?_⟩
   rcases hw.cases' with rfl|⟨k,hk2,hw2⟩
   ·simp only[yi.d]at h4 ⊢
    simp only[shD]
    omega
   ·have:=h3 k hk2 w hw2
    simp only[shD]
    omega
  ·have hbl:b≤lo:=by
    have:=hunm _ .self
    unfold Unm at this; have h4:=(hnew _ .self).2.2.2; simp only[yi.d]at this h4
    omega
   have hlow:=hB.low; have hsz:=hB.size
   obtain⟨lo',hlo'⟩:∃n:Nat,(n:Int)=lo+d:=⟨((lo:Int)+d).toNat,by omega⟩
   have h1:=(zaO (L':=qZ D g s') H rfl rfl rfl hlow (fun p p' hp hpn he=>zaL hO hB hpn hp he) fu).1 _ lo lo' 0 0 [] lo lo' _ hbl hls hlo' hlo' (.inr ⟨rfl,rfl⟩) n0 n1 hloop; have hkids:=((xH H fu).1 _ lo 0 [] lo _ n0 n1 hls (Nat.le_refl _) (fun _ h=>by cases h) hloop).2.2.2; have hall:∀w,InR w (.node du ksu)→(lo:Int)≤w.d.lo:=fun w hw=>by
    rcases hw.cases' with rfl|⟨k,hk2,hw2⟩
    ·exact Int.le_of_eq hlo.symm
    ·exact(hkids k hk2 w hw2).lo
   have hlies:=zcn T ha0 hd0 hi0 hE hL (fun q hq=>by
    obtain⟨j,hj⟩:=List.mem_iff_getElem?.1 hq
    obtain⟨w,hw,ks,rfl⟩:=Y0 _ q hq
    have:=hall w hw
    exact⟨(hd j _ hj).1,by simp only[shD];omega⟩)
   rw[ed,←zdp]at hlies
   refine finish _ fu lo' hlies (VY d _) (by rw[zjU];rfl) (by rw[zjU];show du.lo+d=lo';omega) (by have h5:lo≤s.size:=hln;omega) ?_
   rw[zjU]
   have hm0:mvL d []=[]:=by simp[mvL]
   rw[hm0]at h1
   exact h1
end
end Go.Proofs.YtmbelmngniddjaaGreat
namespace Go.Proofs.YtmbelmngniddjaaGreat
open Go.RowKit
attribute [local go_sem] zF zB zI zJ zw zt zN zD zX zQ zK zP zO zL zM zC
theorem zfR (k:Int)(w:World):Calls Tryz.prog 131 #[.int .i64 k] w fun e w'=>e=.returned (.bool (decide (YH k)))∧w=w':=by
 have H:decide (YH k)=((k !=1)&&(k !=2)):=by
  rw[Bool.eq_iff_iff,decide_eq_true_iff]
  unfold YH; simp
 replace H:=zh H
 go_in
 go_wp2
 all_goals go_ret
 all_goals exact⟨yx (by rw[H.out]<;>simp[*]),rfl⟩
theorem zee (k:Int)(w:World):Calls Tryz.prog 130 #[.int .i64 k] w fun e w'=>e=.returned (.bool (decide (zf8 k)))∧w=w':=by
 have H:decide (zf8 k)=(((k==3)||(k==5))||(k==6)):=by
  rw[Bool.eq_iff_iff,decide_eq_true_iff]
  unfold zf8; simp[or_assoc]
 replace H:=zh H
 go_in
 go_wp2
 all_goals go_ret
 all_goals exact⟨yx (by rw[H.out]<;>simp[*]),rfl⟩
theorem zdv (k:Int)(w:World):Calls Tryz.prog 100 #[.int .i64 k] w fun e w'=>e=.returned (.bool (decide (YH k)))∧w=w':=by
 have H:decide (YH k)=((k !=1)&&(k !=2)):=by
  rw[Bool.eq_iff_iff,decide_eq_true_iff]
  unfold YH; simp
 replace H:=zh H
 go_in
 go_wp2
 all_goals go_ret
 all_goals exact⟨yx (by rw[H.out]<;>simp[*]),rfl⟩
abbrev zf5 (p:Prt):Value:=.agg #[.int .i64 p.nd.sym,.int .i64 p.nd.kind,.int .i64 p.nd.lo,.int .i64 p.nd.inn,.int .i64 p.nd.hi,.int .i64 p.nd.look,.slice p.kA p.nd.kids.length p.kc,.int .u64 p.nd.met]
set_option maxHeartbeats 1000000 in
theorem YZ (p:Prt)(w:World):Calls Tryz.prog 107 #[zf5 p] w fun e w'=>e=.returned (.bool (decide (ZW p.nd)))∧Ext w w':=by
 obtain⟨⟨sym,kind,lo,inn,hi,look,kids,met⟩,kA,kc⟩:=p
 go_in
 go_wp2_with (first|(go_at_call 130;refine(zee _ _).mono ?_;rintro e w' ⟨rfl,rfl⟩)|(go_at_call 131;refine(zfR _ _).mono ?_;rintro e w' ⟨rfl,rfl⟩)|go_in)
 all_goals go_ret
 all_goals refine⟨yx ?_,(Ext.refl _).alloc _⟩
 all_goals(rw[Bool.eq_iff_iff,decide_eq_true_iff])
 all_goals grind [ZW,zf8,YH]
end Go.Proofs.YtmbelmngniddjaaGreat
namespace Go.Proofs.YtmbelmngniddjaaGreat
open Go.RowKit
attribute [local go_sem] zF zB zI zJ zw zt zN zD zX zQ zK zP zO zL zT zR zS zG zM zC
def zeE (n:Nat)(ks:List Int):Prop:=∀k∈ks,∃j:Nat,k=(j:Int)∧j < n
set_option maxRecDepth 100000 in
set_option maxHeartbeats 1000000 in
theorem zfL (A:Option Addr)(c:Nat)(ps:List Prt)(p:Prt)(w:World)(hP:j4 w A ps)(hl:ps.length≤9223372036854775807)(hp:jF w p)(hk:zeE ps.length p.nd.kids):
 Calls Tryz.prog 110 #[.slice A ps.length c,zf5 p] w fun e w'=>e=.returned (.bool (qo (nds ps) p.nd.hi p.nd.lo p.nd.kids))∧Ext w w':=by
 have HK:=zh hk; have HP:=zh hP; have HKI:=zh hp.kids; have hc1:=hp.cap; have hc2:=hp.top; clear hk hP hp
 obtain⟨⟨sym,kind,lo,inn,hi,look,kids,met⟩,kA,kc⟩:=p
 dsimp only at*; go_in
 go_wp2
 go_loop [5,13] (fun a i=>∃(j:Nat) (x:Int),j≤kids.length∧a=.int .i64 x∧i=.int .i64 j∧Hid (qo (nds ps) hi lo kids=qo (nds ps) hi x (kids.drop j))) (fun _ i=>kids.length - (intOf i).toNat)
 case atStart=>exact⟨0,lo,Nat.zero_le _,rfl,rfl,zh rfl⟩
 case round=>
  obtain⟨j,x,hj,rfl,rfl,he⟩:=hrel
  by_cases hlt:j < kids.length
  ·obtain⟨b,off,rfl,hb,hcell⟩:=HKI.out (by omega)
   have c1:=hcell j hlt
   obtain⟨i,hi1,hi2⟩:=HK.out (kids.getD j 0) (by rw[List.getD_eq_getElem?_getD,List.getElem?_eq_getElem hlt];exact List.getElem_mem hlt)
   rw[hi1]at c1
   obtain⟨q,hq⟩:∃q,ps[i]?=some q:=⟨_,List.getElem?_eq_getElem hi2⟩
   obtain⟨b2,off2,rfl,hb2,hcell2⟩:=HP.out (by omega)
   obtain⟨_,_,d2,_,d4,_⟩:=hcell2 i q hq
   have HS:Hid (qo (nds ps) hi x (kids.drop j)=(decide (x≤q.nd.lo)&&qo (nds ps) hi q.nd.hi (kids.drop (j+1)))):=by
    rw[List.drop_eq_getElem_cons hlt]
    have e:kids[j]=(i:Int):=by rw[←hi1,List.getD_eq_getElem?_getD,List.getElem?_eq_getElem hlt];rfl
    rw[e]
    simp only[qo,Int.toNat_natCast]
    rw[yJ hq]
    exact zh rfl
   have hbs:b≠w.heap.size:=by omega
   have hbs2:b2≠w.heap.size:=by omega
   clear hcell hcell2 hi1 hq; by_cases hx:x≤q.nd.lo
   ·go_wp2
    go_round
    case rel=>exact⟨j+1,q.nd.hi,by omega,rfl,by go_num,zh (by rw[he.out,HS.out,decide_eq_true hx,Bool.true_and])⟩
    case measure=>simp[intOf];omega
   ·go_wp2
    go_ret
    exact⟨yx (by rw[he.out,HS.out,decide_eq_false (by omega),Bool.false_and]),xi⟩
  ·obtain rfl:j=kids.length:=by omega
   go_wp2
   go_ret
   exact⟨yx (by rw[he.out,List.drop_eq_nil_of_le (Nat.le_refl _)];rfl),xi⟩
end Go.Proofs.YtmbelmngniddjaaGreat
