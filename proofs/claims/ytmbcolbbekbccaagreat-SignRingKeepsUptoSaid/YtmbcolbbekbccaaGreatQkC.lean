/- Parts of one proof. Conditions: as each theorem says. -/
import Derived.Test.YtmbcolbbekbccaaGreatQkB
open Bool renaming and_eq_true->aK,not_eq_true'->cL,not_eq_true->eL
open Int renaming natCast_nonneg->iH,tmod->eG
open List renaming cons_append->bN,drop_drop->eC,drop_take->iE,drop_zero->dZ,ext_getElem?->aX,getElem?_append_left->aF,getElem?_append_right->aH,getElem?_eq_some_iff->aC,length_append->aE,mem_append->cI,mem_of_getElem?->bJ,mem_singleton->aW,replicate->aO
open Nat renaming add_comm->fH,add_mul->bD,div_le_self->eW,le_of_lt->cW,le_refl->aJ,le_trans->aY,lt_of_lt_of_le->bE,lt_trans->bQ,mod_eq_of_lt->aP,mod_lt->aZ,mul_le_mul_right->cE,one_mul->cR,zero_mul->eI
open Option renaming bind_some->fD
namespace Go.Proofs.YtmbcolbbekbccaaGreat
open Go Go.RowKit
def bb:Nat:=41058363725152142129326129780047268409114441015993725554835256314039467401291
def fb:Fp:=cl bb
def onE(x y:Fp):Prop:=y*y=x*(x*x)-3*x+fb
abbrev Pt:Type:=Option (Fp×Fp)
def onP:Pt->Prop
 |none=>True|some (x,y)=>onE x y
def zmK(x1 y1 x2 y2:Fp):Fp:=if x1=x2/\y1=y2 then(3*(x1*x1)-3)*fi (y1+y1)else(y2-y1)*fi (x2-x1)
def aadd:Pt->Pt->Pt
 |none,q=>q|p,none=>p|some (x1,y1),some (x2,y2)=>if x1=x2/\y1 = - y2 then none else
  some (zmK x1 y1 x2 y2*zmK x1 y1 x2 y2-x1-x2,zmK x1 y1 x2 y2*(x1-(zmK x1 y1 x2 y2*zmK x1 y1 x2 y2-x1-x2))-y1)
def aneg:Pt->Pt
 |none=>none|some (x,y)=>some (x,- y)
theorem zdW(p:Pt):aadd p none=p:=by cases p<;>rfl
theorem zeZ(p:Pt):aadd none p=p:=by cases p<;>rfl
structure Sl (x1 y1 x2 y2 s:Fp):Prop where
 chord:s*(x2-x1)=y2-y1
 tang:2*y1*s+s*s*(x2-x1)=x1*x1+x1*x2+x2*x2-3
theorem ykL{x1 y1 x2 y2:Fp}(h1:onE x1 y1)(h2:onE x2 y2)(hx:x1=x2):y1=y2∨y1 = - y2:=by
 unfold onE at h1 h2;subst hx;have h3:(y1-y2)*(y1+y2)=0:=by grind
 rcases zrI h3 with h|h
 ·left;grind
 ·right;grind
theorem zzE{x1 y1 x2 y2:Fp}(h1:onE x1 y1)(h2:onE x2 y2)(hn:¬(x1=x2/\y1 = - y2)):Sl x1 y1 x2 y2 (zmK x1 y1 x2 y2):=by
 unfold zmK;by_cases hx:x1=x2
 ·have hy:y1=y2:=(ykL h1 h2 hx).resolve_right fun h=>hn ⟨hx,h⟩;subst hx;subst hy;rw[zH ⟨rfl,rfl⟩];have hz:y1+y1≠0:=fun h=>hn ⟨rfl,by grind⟩;have hi:=ydT hz;constructor
  ·grind
  ·grind
 ·rw[zG fun h=>hx h.1];have hd:x2-x1≠0:=fun h=>hx (by grind);have hi:=ydT hd;generalize fi (x2-x1)=i at hi;have hc:(y2-y1)*i*(x2-x1)=y2-y1:=by grind
  generalize (y2-y1)*i=s at hc;refine⟨hc,zlF hd ?_⟩;unfold onE at h1 h2;have e:y2=y1+s*(x2-x1):=by grind
  subst e
  grind
theorem zwE{x1 y1 x2 y2 s:Fp}(h1:onE x1 y1)(hs:Sl x1 y1 x2 y2 s):onE (s*s-x1-x2) (s*(x1-(s*s-x1-x2))-y1):=by
 have hk:=hs.tang;unfold onE at *
 grind
theorem zeB(x1 y1 x2 y2:Fp):aadd (some (x1,y1)) (some (x2,y2))=if x1=x2/\y1 = - y2 then none else
  some (zmK x1 y1 x2 y2*zmK x1 y1 x2 y2-x1-x2,zmK x1 y1 x2 y2*(x1-(zmK x1 y1 x2 y2*zmK x1 y1 x2 y2-x1-x2))-y1):=rfl
theorem zuV{p q:Pt}(hp:onP p)(hq:onP q):onP (aadd p q):=by
 match p,q with
 |none,q=>rw[zeZ];exact hq|some p,none=>rw[zdW];exact hp|some (x1,y1),some (x2,y2)=>
  rw[zeB];by_cases h:x1=x2/\y1 = - y2
  ·rw[zH h];trivial
  ·rw[zG h];exact zwE hp (zzE hp hq h)
theorem xcP{p:Pt}(hp:onP p):onP (aneg p):=by
 match p with
 |none=>trivial|some (x,y)=>
  show onE x (- y);have h:onE x y:=hp;unfold onE at *
  grind
theorem yoQ{x1 y1 x2 y2 s t:Fp}(hn:¬(x1=x2/\y1 = - y2))(h1:onE x1 y1)(h2:onE x2 y2)(hs:Sl x1 y1 x2 y2 s)(ht:Sl x1 y1 x2 y2 t):s=t:=by
 by_cases hx:x1=x2
 ·have hy:y1=y2:=(ykL h1 h2 hx).resolve_right fun h=>hn ⟨hx,h⟩;have hz:y1+y1≠0:=fun h=>hn ⟨hx,by grind⟩;have a:=hs.tang;have b:=ht.tang;subst hx;exact zlF hz (by grind)
 ·have hd:x2-x1≠0:=fun h=>hx (by grind);exact zlF hd (hs.chord.trans ht.chord.symm)
theorem zpQ{x1 y1 x2 y2 s:Fp}(hn:¬(x1=x2/\y1 = - y2))(h1:onE x1 y1)(h2:onE x2 y2)(hs:Sl x1 y1 x2 y2 s):aadd (some (x1,y1)) (some (x2,y2))=some (s*s-x1-x2,s*(x1-(s*s-x1-x2))-y1):=by rw[zeB,zG hn,yoQ hn h1 h2 (zzE h1 h2 hn) hs]
theorem ycV{x1 y1 x2 y2 s:Fp}(hs:Sl x1 y1 x2 y2 s):Sl x2 y2 x1 y1 s:=by
 have a:=hs.chord;have b:=hs.tang;constructor
 ·grind
 ·grind
theorem zsN{p q:Pt}(hp:onP p)(hq:onP q):aadd p q=aadd q p:=by
 match p,q with
 |none,q=>rw[zeZ,zdW]|some p,none=>rw[zeZ,zdW]|some (x1,y1),some (x2,y2)=>
  by_cases h:x1=x2/\y1 = - y2
  ·have h':x2=x1/\y2 = - y1:=⟨h.1.symm,by have:=h.2;grind⟩;rw[zeB,zH h,zeB,zH h']
  ·have h':¬(x2=x1/\y2 = - y1):=fun e=>h ⟨e.1.symm,by have:=e.2;grind⟩;have hs:=zzE hp hq h;rw[zpQ h hp hq hs,zpQ h' hq hp (ycV hs)];have hc:=hs.chord;generalize zmK x1 y1 x2 y2=s at hc;have e1:s*s-x1-x2=s*s-x2-x1:=by grind
   have e2:s*(x1-(s*s-x1-x2))-y1=s*(x2-(s*s-x2-x1))-y2:=by grind
   rw[e2,e1]
theorem bb_ne:fb*fb-4≠0:=fun h=>by
 have e:cl (bb*bb)=cl 4:=by have h1:cl (bb*bb)=fb*fb:=zyB _ _;have h2:cl 4=4:=rfl;rw[h1,h2];grind
 exact absurd (ygA.1 e) (by decide)
theorem xdL{x:Fp}(h:onE x 0)(ht:x*x+x*x+x*x-3=0):False:=by
 unfold onE at h;have h3:(3:Fp)≠0:=fun h=>by have:cl 3=cl 0:=h;exact absurd (yeI (by decide) (by decide) this) (by decide)
 have h1:x*x=1:=zlF h3 (by grind);refine bb_ne ?_;have h2:fb=2*x:=by grind
 rw[h2];grind
theorem zxJ{x1 y1 x2 y2 s:Fp}(h1:onE x1 y1)(hs:Sl x1 y1 x2 y2 s):¬(x1=x2/\y1 = - y2):=fun⟨hx,hy⟩=>by
 subst hx;have a:=hs.chord;have b:=hs.tang;have h0:y2=0:=zlF yvG (by grind);have h0':y1=0:=by grind
 subst h0';exact xdL h1 (by grind)
theorem ycK{p q:Pt}(hp:onP p)(hq:onP q):aadd (aneg p) (aadd p q)=q:=by
 match p,q with
 |none,q=>rw[zeZ];exact zeZ _|some (x,y),none=>rw[zdW];show aadd (some (x,- y)) (some (x,y))=none;rw[zeB,zH ⟨rfl,rfl⟩]
 |some (x1,y1),some (x2,y2)=>
  by_cases h:x1=x2/\y1 = - y2
  ·rw[zeB,zH h,zdW];show some (x1,- y1)=some (x2,y2);rw[h.1,h.2];congr 2;grind
  ·have hs:=zzE hp hq h;rw[zpQ h hp hq hs];have h3:=zwE hp hs;have h1:onE x1 y1:=hp;generalize zmK x1 y1 x2 y2=s at hs h3;have a:=hs.chord;have b:=hs.tang;have hm:Sl x1 (- y1) (s*s-x1-x2) (s*(x1-(s*s-x1-x2))-y1) (- s):=by
    constructor
    ·grind
    ·grind
   have hn1:onE x1 (- y1):=xcP (p:=some (x1,y1)) h1;show aadd (some (x1,- y1)) _=_;rw[zpQ (zxJ hn1 hm) hn1 h3 hm];have e1:- s * - s-x1-(s*s-x1-x2)=x2:=by grind
   have e2:- s*(x1-x2) - - y1=y2:=by grind
   rw[e1,e2]
theorem col_y{x1 y1 x2 y2 s:Fp}(cs:s*(x2-x1)=y2-y1):y2=y1+s*(x2-x1):=by grobner
theorem col_1{x1 y1 x2 x3 s:Fp}(ts:2*y1*s+s*s*(x2-x1)=x1*x1+x1*x2+x2*x2-3) (tt:2*(y1+s*(x2-x1))*s+s*s*(x3-x2)=x2*x2+x2*x3+x3*x3-3):(x1-x3)*(s*s-x1-x2-x3)=0:=by grobner
theorem col{x1 y1 x2 y2 x3 s:Fp}(cs:s*(x2-x1)=y2-y1)(ts:2*y1*s+s*s*(x2-x1)=x1*x1+x1*x2+x2*x2-3) (tt:2*y2*s+s*s*(x3-x2)=x2*x2+x2*x3+x3*x3-3):(x1-x3)*(s*s-x1-x2-x3)=0:=by rw[col_y cs]at tt;exact col_1 ts tt
theorem lin_0{a b:Fp}(h:a-b=0):b=a:=by grobner
theorem lin_1{a b c d:Fp}(h:a-b-c-d=0):a-b-c=d:=by grobner
theorem lin_2{a b c d:Fp}(h:a-b-c-d=0):a-c-d=b:=by grobner
theorem lin_3{a b c d:Fp}(h:a*(b-c)=d):a*(c-b) = - d:=by grobner
theorem col_3{x1 y1 x2 y2 x3 y3 s:Fp}(cs:s*(x2-x1)=y2-y1)(ct:s*(x3-x2)=y3-y2):s*(x1-x3)-y1 = - y3:=by grobner
theorem col_4{x1 y1 x2 y2 s:Fp}(cs:s*(x2-x1)=y2-y1):s*(x2-x1)-y2 = - y1:=by grobner
theorem col_5{x1 y1 x2 y2 y3 s:Fp}(cs:s*(x2-x1)=y2-y1)(ct:s*(x1-x2)=y3-y2):y3=y1:=by grobner
theorem yyC{x1 y1 x2 y2 X s:Fp}(cs:s*(x2-x1)=y2-y1):s*(x1-X)-y1=s*(x2-X)-y2:=by grobner
theorem neg2(a:Fp):a = - - a:=by grobner
theorem swap3(a b c:Fp):a-b-c=a-c-b:=by grobner
theorem neg3(a b c:Fp):a=b-c-(b-a-c):=by grobner
theorem neg_sub'(a b:Fp):- (a-b)=b-a:=by grobner
theorem neg4{x1 y1 x2 y2 s:Fp}(cs:s*(x2-x1)=y2-y1):y1=y2-s*(x2-x1):=by grobner
theorem neg5{e d a b:Fp}(he:e*d=a-b):a=b+e*d:=by grobner
theorem xbY{s t:Fp}(h:¬s=t):s-t≠0:=fun e=>h (by grobner)
theorem quo_1{a i d:Fp}(hi:i*d=1):a*i*d=a:=by grobner
theorem un_ts{x1 y1 x2 y2 s:Fp}(cs:s*(x2-x1)=y2-y1)(ts:2*y1*s+s*s*(x2-x1)=x1*x1+x1*x2+x2*x2-3):
  2*y2*s-s*s*(x2-x1)=x1*x1+x1*x2+x2*x2-3:=by grobner
theorem i4_1{x1 x2 y2 x3 s t:Fp}(ts:2*y2*s-s*s*(x2-x1)=x1*x1+x1*x2+x2*x2-3)(tt:2*y2*t+t*t*(x3-x2)=x2*x2+x2*x3+x3*x3-3):(x1-x3)*(x3-(s*s-x1-x2))=(s-t)*((s+t)*(x3-x2)+2*y2):=by grobner
theorem i4_2{e d a b c:Fp}(he:e*d=a)(h:a*b=d*c):e*b*d=c*d:=by grobner
theorem xdJ{x2 y2 x3 y3 X s t e:Fp}(ct:t*(x3-x2)=y3-y2)(i4:e*(x3-X)=(s+t)*(x3-x2)+2*y2):(e-s)*(x3-X)=y3-(s*(x2-X)-y2):=by grobner
theorem u_id(x2 y2 x3 X s t e:Fp):(e-s)*((y2+t*(x3-x2))+(s*(x2-X)-y2))-(X*X+X*x3+x3*x3-3) = (s*(e*(x3-X))-s*((s+t)*(x3-x2)+2*y2))-((x3-x2)*(e*(s-t))-(x3-x2)*((s*s-x2-X)-x3)) + ((2*y2*s-s*s*(x2-(s*s-x2-X)))-((s*s-x2-X)*(s*s-x2-X)+(s*s-x2-X)*x2+x2*x2-3)):=by grobner
theorem u_sub{a b c d e f g h:Fp}(hi:a-b=(c-d)-(e-f)+(g-h))(h1:c=d)(h2:e=f)(h3:g=h):a=b:=by
 subst h1;subst h2;subst h3
 grobner
theorem u_tang1{x1 x2 y2 x3 X s t e:Fp}(ts:2*y2*s-s*s*(x2-x1)=x1*x1+x1*x2+x2*x2-3)(hX:x1=s*s-x2-X) (i4:s*(e*(x3-X))=s*((s+t)*(x3-x2)+2*y2)) (he:(x3-x2)*(e*(s-t))=(x3-x2)*(x1-x3)):(e-s)*((y2+t*(x3-x2))+(s*(x2-X)-y2))=X*X+X*x3+x3*x3-3:=by subst hX;exact u_sub (u_id x2 y2 x3 X s t e) i4 he ts
theorem u_tang2{u X Y x3 y3 R:Fp}(c:u*(x3-X)=y3-Y)(h:u*(y3+Y)=R):2*Y*u+u*u*(x3-X)=R:=by grobner
theorem yuH{x1 y1 x2 y2 x3 y3 s t e:Fp}(hs:Sl x1 y1 x2 y2 s)(ht:Sl x2 y2 x3 y3 t)(hd:s-t≠0)(he:e*(s-t)=x1-x3):
  Sl (s*s-x1-x2) (s*(x2-(s*s-x1-x2))-y2) x3 y3 (e-s):=by
 have ts:=un_ts hs.chord hs.tang;have i4:=zlF hd (i4_2 he (i4_1 ts ht.tang));have c:=xdJ ht.chord i4;refine⟨c,u_tang2 c ?_⟩;rw[col_y ht.chord];exact u_tang1 ts (neg3 _ _ _) (congrArg (s * ·) i4) (congrArg ((x3-x2) * ·) he)
theorem asc_x{x1 x2 x3 s t e:Fp}(he:e*(s-t)=x1-x3):(e-s)*(e-s)-(s*s-x1-x2)-x3=(e-t)*(e-t)-x1-(t*t-x2-x3):=by grobner
theorem asc_y{x1 y1 x2 y2 x3 y3 s t e:Fp}(cs:y1=y2-s*(x2-x1))(ct:y3=y2+t*(x3-x2))(he:x1=x3+e*(s-t)):(e-s)*(x3-((e-s)*(e-s)-(s*s-x1-x2)-x3))-y3=(e-t)*(x1-((e-s)*(e-s)-(s*s-x1-x2)-x3))-y1:=by
 subst cs;subst ct;subst he
 grobner
theorem zuX{p q r:Pt}(hp:onP p)(hq:onP q)(hr:onP r):aadd (aadd p q) r=aadd p (aadd q r):=by
 match p,q,r with
 |none,q,r=>rw[zeZ,zeZ]|some p,none,r=>rw[zdW,zeZ]|some p,some q,none=>rw[zdW,zdW]|some (x1,y1),some (x2,y2),some (x3,y3)=>
  have h1:onE x1 y1:=hp;have h2:onE x2 y2:=hq;have h3:onE x3 y3:=hr;by_cases hpq:x1=x2/\y1 = - y2
  ·have e:some (x1,y1)=aneg (some (x2,y2)):=by rw[hpq.1,hpq.2];rfl
   rw[zeB x1 y1 x2 y2,zH hpq,zeZ,e,ycK hq hr]
  by_cases hqr:x2=x3/\y2 = - y3
  ·have e:some (x3,y3)=aneg (some (x2,y2)):=by rw[hqr.1,hqr.2];show _=some (x3,- - y3);congr 2;grind
   rw[zeB x2 y2 x3 y3,zH hqr,zdW,zsN (zuV hp hq) hr,e,zsN hp hq,ycK hq hp]
  have hs:=zzE h1 h2 hpq;have ht:=zzE h2 h3 hqr;rw[zpQ hpq h1 h2 hs,zpQ hqr h2 h3 ht];have h12:=zwE h1 hs;have h23:=zwE h2 ht;generalize zmK x1 y1 x2 y2=s at hs h12;generalize zmK x2 y2 x3 y3=t at ht h23;have cs:=hs.chord;have ts:=hs.tang;have ct:=ht.chord;have tt:=ht.tang;by_cases hst:s=t
  ·subst hst;have hz:=col cs ts tt;rcases zrI hz with h|h
   ·have ex:x3=x1:=lin_0 h;subst ex;have ey:y3=y1:=col_5 cs ct;subst ey;have e1:=swap3 (s*s) x3 x2;have e2:=yyC (X:=s*s-x2-x3) cs;rw[e1,e2]at h12 ⊢;exact zsN (p:=some _) (q:=some _) h12 h1
   ·have ex:s*s-x1-x2=x3:=lin_1 h;have ey:s*(x1-x3)-y1 = - y3:=col_3 cs ct;have ex':s*s-x2-x3=x1:=lin_2 h;have ey':s*(x2-x1)-y2 = - y1:=col_4 cs;rw[ex,ey,ex',ey',zeB,zH ⟨rfl,rfl⟩,zeB,zH ⟨rfl,neg2 _⟩]
  ·have hd:=xbY hst;have hi:=ydT hd;have he:=quo_1 (a:=x1-x3) hi;generalize (x1-x3)*fi (s-t)=e at he;have hd':t-s≠0:=xbY fun h=>hst h.symm;have he':e*(t-s)=x3-x1:=lin_3 he |>.trans (neg_sub' _ _);have e12:=yyC (X:=s*s-x1-x2) cs;have e23:=yyC (X:=t*t-x2-x3) ct;have hu:=yuH hs ht hd he;have hv:=ycV (yuH (ycV ht) (ycV hs) hd' he');rw[swap3 (t*t) x3 x2]at hv;rw[e12]at h12 ⊢;have hA:=zpQ (zxJ h12 hu) h12 h3 hu;have hB:=zpQ (zxJ h1 hv) h1 h23 hv;rw[hA,hB];have f0:=yyC (X:=(e-s)*(e-s)-(s*s-x1-x2)-x3) hu.chord;have f1:=asc_x (x2:=x2) he;have f2:=asc_y (y1:=y1) (y3:=y3) (neg4 cs) (col_y ct) (neg5 he);rw[f0,f2,f1]
theorem HP.name{w0 w:World}{L:List Ent}{k b A:Nat}{T:TypeId}{G:Prop}(H:HP w0 w L)(hk:lk L k=some (b,numL A,T))(h:∀x,x=A->HP w0 w (st L k (b,numL x,T))->G):G:=
 h A rfl (HP.recast H hk rfl)
def fm(a b:Nat):Nat:=a*b%modN 0
def fa(a b:Nat):Nat:=(a+b)%modN 0
def fs(a b:Nat):Nat:=(a+(modN 0-b%modN 0))%modN 0
theorem fm_def(a b:Nat):a*b%modN 0=fm a b:=rfl
theorem fa_def(a b:Nat):(a+b)%modN 0=fa a b:=rfl
theorem fs_def(a b:Nat):(a+(modN 0-b%modN 0))%modN 0=fs a b:=rfl
theorem ymC(a b:Nat):fm a b<PP:=aZ _ (zgU 0)
theorem xdH(a b:Nat):fa a b<PP:=aZ _ (zgU 0)
theorem fs_lt(a b:Nat):fs a b<PP:=aZ _ (zgU 0)
theorem zyJ:PP<zaC:=xbF.lt
theorem zeM(a b:Nat):fm a b<zaC:=bQ (ymC a b) zyJ
theorem zfT(a b:Nat):fa a b<zaC:=bQ (xdH a b) zyJ
theorem zeL(a b:Nat):fs a b<zaC:=bQ (fs_lt a b) zyJ
theorem zfU(a b:Nat):cl (fm a b)=cl a*cl b:=(zyT _).trans (zyB a b)
theorem yqP(a b:Nat):cl (fa a b)=cl a+cl b:=(zyT _).trans (yfM a b)
theorem ybI(a b:Nat):cl (fs a b)=cl a-cl b:=by
 have h:b%modN 0<=PP:=cW (aZ _ (zgU 0));have e:cl (fs a b)=cl a+cl (PP-b%modN 0):=(zyT _).trans (yfM a _);rw[e,yeX h,show cl (b%modN 0)=cl b from zyT b]
 grobner
theorem fa_0{a:Nat}(h:a<PP):fa a 0=a:=aP h
theorem fa_0'{a:Nat}:(fa a 0 != a)=false↔a<PP:=by
 constructor
 ·intro h;have h1:fa a 0=a:=by simpa using h
  rw[<-h1];exact xdH a 0
 ·intro h;rw[fa_0 h];simp
theorem cl_inv(a:Nat):cl (invV 0 a)=fi (cl a):=by
 unfold invV;by_cases h:a%modN 0=0
 ·rw[zH h];have:cl a=0:=ykG.2 h;rw[this,fi_0,cl_0]
 ·rw[zG h];have h2:=yhD (ycU 0) h;refine ytB ?_;rw[<-zyB];exact ygA.2 (h2.trans (aP (zoB 0)).symm)
abbrev ptL(x y:Nat)(i:Bool):LV:=numL x++(numL y++[.bool i])
abbrev ptV(x y:Nat)(i:Bool):Value:=.agg (ptL x y i).toArray
abbrev jcL(x y z:Nat):LV:=numL x++(numL y++numL z)
abbrev jcV(x y z:Nat):Value:=.agg (jcL x y z).toArray
def onB(x y:Nat)(i:Bool):Bool:=bif i then x==0&&y==0 else decide (x<PP)&&decide (y<PP)&&(fm y y==fa (fs (fm x (fm x x)) (fm 3 x)) bb)
theorem xeS{x y:Nat}:onB x y true=(x==0&&y==0):=rfl
theorem yyW{x y:Nat}(h:(fa x 0 != x)=true):onB x y false=false:=by
 have h1:¬x<PP:=fun hl=>by rw[(fa_0').2 hl]at h;cases h
 simp[onB,h1]
theorem yxT{x y:Nat}(h:(fa y 0 != y)=true):onB x y false=false:=by
 have h1:¬y<PP:=fun hl=>by rw[(fa_0').2 hl]at h;cases h
 simp[onB,h1]
theorem onB_in{x y:Nat}(hx:(fa x 0 != x)=false)(hy:(fa y 0 != y)=false):onB x y false=(fm y y==fa (fs (fm x (fm x x)) (fm 3 x)) bb):=by simp[onB,fa_0'.1 hx,fa_0'.1 hy]
theorem xbC{x y:Nat}(h:onB x y false=true):x<PP/\y<PP:=by simp[onB]at h;exact h.1
theorem onB_on{x y:Nat}(h:onB x y false=true):onE (cl x) (cl y):=by
 have h1:fm y y=fa (fs (fm x (fm x x)) (fm 3 x)) bb:=by simp[onB]at h;exact h.2
 have h2:=congrArg cl h1;rw[zfU,yqP,ybI,zfU,zfU,zfU]at h2;exact h2
theorem onB_of{x y:Nat}(hx:x<PP)(hy:y<PP)(h:onE (cl x) (cl y)):onB x y false=true:=by
 have h1:fm y y=fa (fs (fm x (fm x x)) (fm 3 x)) bb:=by refine yeI (ymC _ _) (xdH _ _) ?_;rw[zfU,yqP,ybI,zfU,zfU,zfU];exact h
 simp[onB,hx,hy,h1]
def jtwX(x y z:Nat):Nat:=fs (fm (fm 3 (fm (fs x (fm z z)) (fa x (fm z z)))) (fm 3 (fm (fs x (fm z z)) (fa x (fm z z))))) (fa (fm 4 (fm x (fm y y))) (fm 4 (fm x (fm y y))))
def jtwY(x y z:Nat):Nat:=fs (fm (fm 3 (fm (fs x (fm z z)) (fa x (fm z z)))) (fs (fm 4 (fm x (fm y y))) (jtwX x y z))) (fm 8 (fm (fm y y) (fm y y)))
def jtwZ(y z:Nat):Nat:=fm 2 (fm y z)
abbrev Tr:Type:=Nat×Nat×Nat
abbrev jcT(t:Tr):LV:=jcL t.1 t.2.1 t.2.2
def jtw(t:Tr):Tr:=(jtwX t.1 t.2.1 t.2.2,jtwY t.1 t.2.1 t.2.2,jtwZ t.2.1 t.2.2)
def jad2(p q:Tr)(u s h r:Nat):Tr:=
 if h=0 then(if r=0 then jtw p else(0,0,0)) else
 (fs (fs (fm r r) (fm h (fm h h))) (fa (fm u (fm h h)) (fm u (fm h h))),
  fs (fm r (fs (fm u (fm h h)) (fs (fs (fm r r) (fm h (fm h h))) (fa (fm u (fm h h)) (fm u (fm h h)))))) (fm s (fm h (fm h h))),
  fm h (fm p.2.2 q.2.2))
def jad(p q:Tr):Tr:=if p.2.2=0 then q else if q.2.2=0 then p else
 jad2 p q (fm p.1 (fm q.2.2 q.2.2)) (fm p.2.1 (fm (fm q.2.2 q.2.2) q.2.2))
  (fs (fm q.1 (fm p.2.2 p.2.2)) (fm p.1 (fm q.2.2 q.2.2))) (fs (fm q.2.1 (fm (fm p.2.2 p.2.2) p.2.2)) (fm p.2.1 (fm (fm q.2.2 q.2.2) q.2.2)))
def jend(t:Tr):Nat×Nat×Bool:=if t.2.2%modN 0=0 then(0,0,true) else
 (fm t.1 (fm (invV 0 t.2.2) (invV 0 t.2.2)),fm t.2.1 (fm (fm (invV 0 t.2.2) (invV 0 t.2.2)) (invV 0 t.2.2)),false)
def jof(x y:Nat)(i:Bool):Tr:=bif i then(0,0,0)else(x,y,1)
abbrev ptT(t:Nat×Nat×Bool):LV:=ptL t.1 t.2.1 t.2.2
def fn(a:Nat):Nat:=(modN 0-a%modN 0)%modN 0
theorem fn_lt(a:Nat):fn a<PP:=aZ _ (zgU 0)
theorem zfF(a:Nat):fn a<zaC:=bQ (fn_lt a) zyJ
theorem cl_fn(a:Nat):cl (fn a) = - cl a:=by have h:a%modN 0<=PP:=cW (aZ _ (zgU 0));have e:cl (fn a)=cl (PP-a%modN 0):=zyT _;rw[e,yeX h,show cl (a%modN 0)=cl a from zyT a]
abbrev Ap:Type:=Nat×Nat×Bool
def onT(t:Ap):Bool:=onB t.1 t.2.1 t.2.2
def cneg(t:Ap):Ap:=bif onT t then(t.1,fn t.2.1,t.2.2)else(0,0,false)
def cerr(t:Ap):Int:=bif onT t then 0 else 70
def cadd(p q:Ap):Ap:=bif onT p&&onT q then jend (jad (jof p.1 p.2.1 p.2.2) (jof q.1 q.2.1 q.2.2))else(0,0,false)
def ydD(p q:Ap):Int:=bif onT p&&onT q then 0 else 70
theorem jtw_0:jtw (0,0,0)=(0,0,0):=by kernel_rfl
def jmul(p:Tr)(n:Nat):Tr:=if h:n=0 then(0,0,0) else
 if n%2=1 then jad (jtw (jmul p (n/2))) p else jtw (jmul p (n/2))
termination_by n
decreasing_by all_goals exact Nat.div_lt_self (Nat.pos_of_ne_zero h) (by decide)
theorem yjT(p:Tr):jmul p 0=(0,0,0):=by rw[jmul];simp
theorem ypW{p:Tr}{n:Nat}(h:n%2=1):jmul p n=jad (jtw (jmul p (n/2))) p:=by rw[jmul,dif_neg (by omega),zH h]
theorem xbV{p:Tr}{n:Nat}(h:n%2≠1):jmul p n=jtw (jmul p (n/2)):=by
 by_cases h0:n=0
 ·subst h0;rw[yjT];exact jtw_0.symm
 ·rw[jmul,dif_neg h0,zG h]
theorem ykW(K:Nat){k:Nat}(hk:0<k):K/2^(k-1)/2=K/2^k:=by rw[Nat.div_div_eq_div_mul,<-Nat.pow_succ];congr 2;omega
theorem jmul_b1{p:Tr}{K k:Nat}(hk:0<k)(hb:K/2^(k-1)%2=1):jad (jtw (jmul p (K/2^k))) p=jmul p (K/2^(k-1)):=by rw[ypW hb,ykW K hk]
theorem jmul_b0{p:Tr}{K k:Nat}(hk:0<k)(hb:K/2^(k-1)%2≠1):jtw (jmul p (K/2^k))=jmul p (K/2^(k-1)):=by rw[xbV hb,ykW K hk]
theorem yzJ{p:Tr}{K:Nat}(hK:K<zaC):jmul p (K/2^256)=(0,0,0):=by rw[Nat.div_eq_of_lt (show K<2^256 from hK),yjT]
def cmul(k:Nat)(p:Ap):Ap:=bif onT p then jend (jmul (jof p.1 p.2.1 p.2.2) k)else(0,0,false)
def TL(t:Tr):Prop:=t.1<zaC/\t.2.1<zaC/\t.2.2<zaC
theorem TL_0:TL (0,0,0):=⟨zbY,zbY,zbY⟩
theorem zoV(t:Tr):TL (jtw t):=⟨zeL _ _,zeL _ _,zeM _ _⟩
theorem zsV{p q:Tr}(hp:TL p)(hq:TL q):TL (jad p q):=by
 unfold jad;split
 ·exact hq
 ·split
  ·exact hp
  ·unfold jad2;split
   ·split
    ·exact zoV _
    ·exact TL_0
   ·exact⟨zeL _ _,zeL _ _,zeM _ _⟩
theorem zpT{p:Tr}(hp:TL p)(n:Nat):TL (jmul p n):=by
 rw[jmul];split
 ·exact TL_0
 ·split
  ·exact zsV (zoV _) hp
  ·exact zoV _
theorem one_lt2:1<zaC:=by decide
theorem zvC{x y:Nat}{i:Bool}(hx:x<zaC)(hy:y<zaC):TL (jof x y i):=by
 cases i
 ·exact⟨hx,hy,one_lt2⟩
 ·exact TL_0
def AL(t:Ap):Prop:=t.1<zaC/\t.2.1<zaC
theorem AL_0(i:Bool):AL (0,0,i):=⟨zbY,zbY⟩
theorem ytP(t:Tr):AL (jend t):=by
 unfold jend;split
 ·exact AL_0 _
 ·exact⟨zeM _ _,zeM _ _⟩
theorem ziV(p q:Ap):AL (cadd p q):=by
 unfold cadd;cases onT p&&onT q
 ·exact AL_0 _
 ·exact ytP _
theorem zgG(k:Nat)(p:Ap):AL (cmul k p):=by
 unfold cmul;cases onT p
 ·exact AL_0 _
 ·exact ytP _
theorem zjQ{p:Ap}(hp:AL p):AL (cneg p):=by
 unfold cneg;cases onT p
 ·exact AL_0 _
 ·exact⟨hp.1,zfF _⟩
theorem zero_jc:([.int .u64 0,.int .u64 0,.int .u64 0,.int .u64 0,.int .u64 0,.int .u64 0,.int .u64 0,.int .u64 0,.int .u64 0,.int .u64 0,.int .u64 0,.int .u64 0]:LV)=jcT (0,0,0):=by show([.int .u64 0,.int .u64 0,.int .u64 0,.int .u64 0]++([.int .u64 0,.int .u64 0,.int .u64 0,.int .u64 0]++[.int .u64 0,.int .u64 0,.int .u64 0,.int .u64 0]):LV)=_;rw[zlO]
section
variable {P:Program}{T N B E T':TypeId}{fs0:Array Field}
theorem yyE (hu : P.underlying T = some (.struct fs0)) (hf : fs0.toList.map (fun f => (f.name, f.type, f.offset)) = [("X", N, 0), ("Y", N, 4), ("Inf", B, 8)]) (hst : P.stoodInHeld T = false) (hN:P.underlying N=some (.array 4 E)) (he:P.underlying E=some (.int .u64)) (hs:∀w,(sizeOf E).run P w = .ok 1 w) (ha:∀w,(isAgg E).run P w = .ok false w) (gN:∀w,(isAgg N).run P w = .ok true w) (sN:∀w,(sizeOf N).run P w = .ok 4 w) (hB:P.underlying B=some .bool) (gB:∀w,(isAgg B).run P w = .ok false w) {x y x' y':Nat} {i i':Bool} (hx:x<zaC) (hy:y<zaC) (hx':x'<zaC) (hy':y'<zaC) (d:Nat) (w:World):(Op.equalIn (d+3) T (ptV x y i) (ptV x' y' i')).run P w = .ok (x==x'&&(y==y'&&i==i')) w:=by
 obtain⟨f0,f1,f2,rfl⟩:∃f0 f1 f2,fs0 = #[f0,f1,f2]:=by
  match fs0 with
  |⟨[a,b,c]⟩=>exact⟨a,b,c,rfl⟩|⟨[]⟩=>simp at hf|⟨[_]⟩=>simp at hf|⟨[_,_]⟩=>simp at hf|⟨_::_::_::_::_⟩=>simp at hf
 simp only[List.map_cons,List.map_nil,List.cons.injEq,Prod.mk.injEq,and_true]at hf;obtain⟨⟨n0,t0,o0⟩,⟨n1,t1,o1⟩,⟨n2,t2,o2⟩⟩:=hf;have e1:=zrT hN he hs ha x x' hx hx' d;have e2:=zrT hN he hs ha y y' hy hy' d;have e3:∀w,(Op.equalIn (d+2) B (.bool i) (.bool i')).run P w = .ok (i==i') w:=fun w=>by simp[Op.equalIn,Go.underlying,hB]
 have p1:∀(a b:Nat) (k:Bool) w,(part N (ptL a b k).toArray 0).run P w = .ok (.agg (numL a).toArray) w:=fun a b k w=>by simp[part,gN,sN,numL]
 have p2:∀(a b:Nat) (k:Bool) w,(part N (ptL a b k).toArray 4).run P w = .ok (.agg (numL b).toArray) w:=fun a b k w=>by simp[part,gN,sN,numL]
 have p3:∀(a b:Nat) (k:Bool) w,(part B (ptL a b k).toArray 8).run P w = .ok (.bool k) w:=fun a b k w=>by simp[part,gB,numL]
 unfold Op.equalIn;simp only[Sem.run_bind,Go.underlying,run_program,Result.andThen_ok,hu,Sem.run_pure,hst,Bool.false_eq_true,if_false];simp[n0,n1,n2,t0,t1,t2,o0,o1,o2,p1,p2,p3,e1,e2,e3];cases h0:x==x'<;>cases h1:y==y'<;>cases h2:i==i'<;>simp_all
variable {e:Operand->Value}{dst:Option Tmp}{g:Option (Nat×Bool)}{ty:TypeId}{pos:String}{aft:Array Edge}{a b:Operand}{w:World}{t:Bool}
theorem r_eqpt (hu : P.underlying T = some (.struct fs0)) (hf : fs0.toList.map (fun f => (f.name, f.type, f.offset)) = [("X", N, 0), ("Y", N, 4), ("Inf", B, 8)]) (hst : P.stoodInHeld T = false) (hN:P.underlying N=some (.array 4 E)) (he:P.underlying E=some (.int .u64)) (hs:∀w,(sizeOf E).run P w = .ok 1 w) (ha:∀w,(isAgg E).run P w = .ok false w) (gN:∀w,(isAgg N).run P w = .ok true w) (sN:∀w,(sizeOf N).run P w = .ok 4 w) (hB:P.underlying B=some .bool) (gB:∀w,(isAgg B).run P w = .ok false w) (hg:P.eqGuardType P.depth T=false) {x y x' y':Nat} {i i':Bool} (h1:e a=ptV x y i) (h2:e b=ptV x' y' i') (hx:x<zaC) (hy:y<zaC) (hx':x'<zaC) (hy':y'<zaC) (h:(x==x'&&(y==y'&&i==i'))=t):(execOp e ⟨dst,.binOp .eql T a b T',ty,pos,aft,g⟩).run P w = .ok (.value (.bool t)) w:=by have key:(Op.equal T (ptV x y i) (ptV x' y' i')).run P w = .ok (x==x'&&(y==y'&&i==i')) w:=yyE hu hf hst hN he hs ha gN sN hB gB hx hy hx' hy' 9997 w;rw[<-h];simp only[execOp,h1,h2,eqGuard,binOp,Sem.run_bind];simp[hg,key]
end
theorem ynC{P:Program}{e:Operand->Value}{dst:Option Tmp}{g:Option (Nat×Bool)}{ty:TypeId}{pos:String}{aft:Array Edge}{w:World}{f:FuncId}{fs:List Operand}{first:LV}(h:fs.map e=first):(execOp e ⟨dst,.makeFunc (.func f) fs.toArray #[],ty,pos,aft,g⟩).run P w = .ok (.value (.func (.func f) first.toArray #[])) w:=by rw[<-h];simp[execOp,Instr.makeFunc]
theorem jtw_of{x y z zz yy m1 s1 x3 y3:Nat}(hzz:zz=fm z z)(hyy:yy=fm y y)(hm:m1=fm 3 (fm (fs x zz) (fa x zz)))(hs:s1=fm 4 (fm x yy)) (hx:x3=fs (fm m1 m1) (fa s1 s1)) (hy:y3=fs (fm m1 (fs s1 x3)) (fm 8 (fm yy yy))):jtw (x,y,z)=(x3,y3,fm 2 (fm y z)):=by subst hzz hyy hm hs hx hy;rfl
theorem jad_z1{p q:Tr}(h:(p.2.2==0)=true):jad p q=q:=by rw[jad,zH (by simpa using h)]
theorem jad_z2{p q:Tr}(h1:(p.2.2==0)=false)(h:(q.2.2==0)=true):jad p q=p:=by rw[jad,zG (by simpa using h1),zH (by simpa using h)]
theorem ynW{x y z a b c pz qz u v s1 t1 hd rd:Nat}(h1:(z==0)=false)(h2:(c==0)=false)(hpz:pz=fm z z)(hqz:qz=fm c c)(hu:u=fm x qz)(hv:v=fm a pz) (hs1:s1=fm y (fm qz c)) (ht1:t1=fm b (fm pz z)) (hhd:hd=fs v u) (hrd:rd=fs t1 s1):jad (x,y,z) (a,b,c)=jad2 (x,y,z) (a,b,c) u s1 hd rd:=by subst hpz hqz hu hv hs1 ht1 hhd hrd;rw[jad,zG (by simpa using h1),zG (by simpa using h2)]
theorem jad2_t{p q:Tr}{u s hd rd:Nat}(h:(hd==0)=true)(h1:(rd==0)=true):jad2 p q u s hd rd=jtw p:=by rw[jad2,zH (by simpa using h),zH (by simpa using h1)]
theorem jad2_0{p q:Tr}{u s hd rd:Nat}(h:(hd==0)=true)(h1:(rd==0)=false):jad2 p q u s hd rd=(0,0,0):=by rw[jad2,zH (by simpa using h),zG (by simpa using h1)]
theorem xfM{x y z a b c u s1 hd rd h2 h3 uh x3 y3:Nat}(h:(hd==0)=false)(hh2:h2=fm hd hd)(hh3:h3=fm hd h2)(huh:uh=fm u h2)(hx3:x3=fs (fs (fm rd rd) h3) (fa uh uh)) (hy3:y3=fs (fm rd (fs uh x3)) (fm s1 h3)):jad2 (x,y,z) (a,b,c) u s1 hd rd=(x3,y3,fm hd (fm z c)):=by subst hh2 hh3 huh hx3 hy3;rw[jad2,zG (by simpa using h)]
theorem invE_t{z:Nat}(h:(invE 0 z != 0)=true):z%modN 0=0:=by
 by_cases hz:z%modN 0=0
 ·exact hz
 ·rw[invE,zG hz]at h;exact absurd h (by decide)
theorem invE_f{z:Nat}(h:(invE 0 z != 0)=false):z%modN 0≠0:=by intro hz;rw[invE,zH hz]at h;exact absurd h (by decide)
theorem jend_t{x y z:Nat}(h:(invE 0 z != 0)=true):jend (x,y,z)=(0,0,true):=by rw[jend,zH (invE_t h)]
theorem jend_f{x y z:Nat}(h:(invE 0 z != 0)=false):jend (x,y,z)=(fm x (fm (invV 0 z) (invV 0 z)),fm y (fm (fm (invV 0 z) (invV 0 z)) (invV 0 z)),false):=by rw[jend,zG (invE_f h)]
theorem cneg_t{t:Ap}(h:onT t=true):cneg t=(t.1,fn t.2.1,t.2.2)/\cerr t=0:=by rw[cneg,cerr,h];exact⟨rfl,rfl⟩
theorem xcK{p q:Ap}(h:onT p=true)(h':onT q=true):cadd p q=jend (jad (jof p.1 p.2.1 p.2.2) (jof q.1 q.2.1 q.2.2))/\ydD p q=0:=by rw[cadd,ydD,h,h'];exact⟨rfl,rfl⟩
theorem xeO{p q:Ap}(h:onT p=false):cadd p q=(0,0,false)/\ydD p q=70:=by rw[cadd,ydD,h];exact⟨rfl,rfl⟩
theorem xfR{p q:Ap}(h:onT q=false):cadd p q=(0,0,false)/\ydD p q=70:=by rw[cadd,ydD,h,Bool.and_false];exact⟨rfl,rfl⟩
theorem xbX{k:Nat}{p:Ap}(h:onT p=true):cmul k p=jend (jmul (jof p.1 p.2.1 p.2.2) k)/\cerr p=0:=by rw[cmul,cerr,h];exact⟨rfl,rfl⟩
theorem cmul_f{k:Nat}{p:Ap}(h:onT p=false):cmul k p=(0,0,false)/\cerr p=70:=by rw[cmul,cerr,h];exact⟨rfl,rfl⟩
def cofX(l:Bs):Nat:=ofV 0 ((l.drop 1).take 32)
def cofY(l:Bs):Nat:=ofV 0 (l.drop 33)
def cofB(l:Bs):Bool:=l.length==65&&(l[0]? == some 4)&&(ofE 0 ((l.drop 1).take 32)==0&&(ofE 0 (l.drop 33)==0&&onB (cofX l) (cofY l) false))
def cofV(l:Bs):Ap:=bif l==[0]then(0,0,true)else bif cofB l then(cofX l,cofY l,false)else(0,0,false)
def GX:Nat:=48439561293906451759052585252797914202762949526041747995844080717082404635286
def GY:Nat:=36134250956749795798585127919587881956611106672985015071877198253568414405109
section
abbrev Mem:=Nat->Option Obj
def Mem.le(S T:Mem):Prop:=∀b o,S b=some o->T b=some o
theorem Mem.le_refl(S:Mem):Mem.le S S:=fun _ _ h=>h
theorem Mem.le_trans{S T U:Mem}(h:Mem.le S T)(k:Mem.le T U):Mem.le S U:=fun b o e=>k b o (h b o e)
def jm(n:Nat)(T:TypeId):Obj:=.mapIter none n #[T] 0
def vm(p a c:LV)(T:TypeId):Obj:=.pending ((p++a)++(p++c)).toArray T
def isJ:Obj->Bool
 |.mapIter none _ _ _=>true|.pending _ _=>true|_=>false
def Fits:Obj->Option Obj->Prop
 |.mapIter none n _ _,x=>∃c T,x=some (.cells c T (0,0))/\c.size=n|.mapIter (some a) n s k,x=>x=some (.mapIter (some a) n s k)|.pending l T,x=>∃a c:LV,l=(a++c).toArray/\a.length=c.length/\(x=some (.cells a.toArray T (0,0))∨x=some (.cells c.toArray T (0,0)))|.cells c T z,x=>x=some (.cells c T z)|o,x=>x=some o
def nj:Option Obj->Option Obj
 |some (.mapIter none _ _ _)=>none|some (.pending _ _)=>none|x=>x
theorem yvA{o:Obj}{x:Option Obj}(h:Fits o x)(hj:isJ o=false):x=some o:=by
 cases o with
 |pending=>cases hj
 |mapIter m n s k=>cases m with
  |none=>cases hj
  |some a=>exact h
 |_=>exact h
theorem ysM{o:Obj}(hj:isJ o=false):Fits o (some o):=by
 cases o with
 |pending=>cases hj
 |mapIter m n s k=>cases m with
  |none=>cases hj
  |some a=>rfl
 |_=>rfl
theorem ypN{o:Obj}{x:Option Obj}(h:Fits o x):∃y,x=some y:=by
 cases hj:isJ o with
 |false=>exact⟨_,yvA h hj⟩|true=>cases o with
  |pending=>obtain⟨_,_,_,_,h|h⟩:=h<;>exact⟨_,h⟩
  |mapIter m n s k=>cases m with
   |none=>obtain⟨c,T,h,_⟩:=h;exact⟨_,h⟩
   |some a=>exact⟨_,h⟩
  |_=>cases hj
theorem yzL{x:Option Obj}{o:Obj}(h:nj x=some o):x=some o/\isJ o=false:=by
 cases x with
 |none=>cases h
 |some y=>cases y with
  |pending=>cases h
  |mapIter m n s k=>cases m with
   |none=>cases h
   |some a=>cases h;exact⟨rfl,rfl⟩
  |_=>cases h;exact⟨rfl,rfl⟩
theorem yuA{o:Obj}(hj:isJ o=false):nj (some o)=some o:=by
 cases o with
 |pending=>cases hj
 |mapIter m n s k=>cases m with
  |none=>cases hj
  |some a=>rfl
 |_=>rfl
theorem yvB{p a c:LV}{T:TypeId}{x:Option Obj}(hl:a.length=c.length)(h:Fits (vm p a c T) x):x=some (.cells (p++a).toArray T (0,0))∨x=some (.cells (p++c).toArray T (0,0)):=by obtain⟨a',c',h1,h2,h3⟩:=h;have h1:=List.toArray_inj h1;have h4:=congrArg List.length h1;simp only[aE]at h4;obtain⟨rfl,rfl⟩:=List.append_inj h1 (by simp only[aE];omega);exact h3
theorem yqK{p a c:LV}{T:TypeId}{x:Option Obj}(hl:a.length=c.length)(h:x=some (.cells (p++a).toArray T (0,0))∨x=some (.cells (p++c).toArray T (0,0))):Fits (vm p a c T) x:=
 ⟨_,_,rfl,by simp[hl],h⟩
theorem zxI{x:Option Obj}{o:Obj}(h:nj x=some o):Fits o x:=by obtain⟨rfl,hj⟩:=yzL h;exact ysM hj
def Sub(S:Mem)(w:World):Prop:=∀b o,S b=some o->Fits o w.heap[b]?
theorem lt_of_heap{w:World}{b:Nat}{o:Obj}(h:w.heap[b]? = some o):b<w.heap.size:=zeO h
theorem Sub.lt{S:Mem}{w:World}(h:Sub S w){b:Nat}{o:Obj}(hb:S b=some o):b<w.heap.size:=by obtain⟨y,hy⟩:=ypN (h b o hb);exact lt_of_heap hy
theorem Sub.none{S:Mem}{w:World}(h:Sub S w){b:Nat}(hb:w.heap.size<=b):S b=none:=by
 cases e:S b with
 |none=>rfl|some o=>have:=h.lt e;omega
theorem Sub.ext{S:Mem}{w w':World}(h:Sub S w)(hx:Ext w w'):Sub S w':=fun b o e=>by rw[Below.block hx b (h.lt e)];exact h b o e
def gr(S:Mem)(w w':World):Mem:=fun b=>if b<w.heap.size then S b else nj w'.heap[b]?
theorem yiC{S:Mem}{w w':World}(h:Sub S w):Mem.le S (gr S w w'):=fun b o e=>by unfold gr;rw[zH (h.lt e)];exact e
theorem gr_sub{S:Mem}{w w':World}(h:Sub S w)(hx:Ext w w'):Sub (gr S w w') w':=fun b o e=>by
 unfold gr at e;split at e
 ·exact h.ext hx b o e
 ·exact zxI e
def gf(S:Mem)(W:World)(F:Nat->Bool)(w:World):Mem:=fun b=>if b<W.heap.size then S b else if F b=true then nj w.heap[b]? else none
theorem gf_sub{S:Mem}{W w:World}{F:Nat->Bool}(h:Sub S W)(hx:Ext W w):Sub (gf S W F w) w:=fun b o e=>by
 unfold gf at e;split at e
 ·exact h.ext hx b o e
 ·split at e
  ·exact zxI e
  ·cases e
theorem yvF{S:Mem}{W w:World}{F:Nat->Bool}(h:Sub S W):Mem.le S (gf S W F w):=fun b o e=>by unfold gf;rw[zH (h.lt e)];exact e
theorem gf_up{S:Mem}{W w:World}{F G:Nat->Bool}(hF:∀b,F b=true->G b=true):Mem.le (gf S W F w) (gf S W G w):=fun b o e=>by
 unfold gf at *;split at e
 ·rename_i h;rw[zH h];exact e
 ·rename_i h;split at e
  ·rename_i h2;rw[zG h,zH (hF b h2)];exact e
  ·cases e
theorem ybE{S:Mem}{W w:World}{F:Nat->Bool}{b:Nat}(h:W.heap.size<=b)(hF:F b=false):gf S W F w b=none:=by unfold gf;rw[zG (by omega),hF];rfl
abbrev byteT:TypeId:=5
def okfz(T:TypeId)(fz:Nat×Nat)(n:Nat):Prop:=fz=(0,0)∨(n<=fz.1/\T=byteT)
inductive R0 where
 |blk (b:Nat) (cs:LV) (T:TypeId)
 |obj (b:Nat) (o:Obj)
 |osl (v:Value) (n sz:Nat) (cs rs:LV) (T:TypeId)
inductive Res where
 /-- a block -/
 |blk (b:Nat) (cs:LV) (T:TypeId)
 /-- an object of another kind -/
 |obj (b:Nat) (o:Obj)
 /-- a slice from a block's head on, and what lies behind its end: n elements of sz cells; or the nil one -/
 |osl (v:Value) (n sz:Nat) (cs rs:LV) (T:TypeId)
 /-- many of them -/
 |many (rs:List R0)
def R0.up:R0->Res
 |.blk b cs T=>.blk b cs T|.obj b o=>.obj b o|.osl v n sz cs rs T=>.osl v n sz cs rs T
def vkey:Value->Option Nat
 |.slice (some a) _ _=>some a.block|_=>none
def R0.key:R0->Option Nat
 |.blk b _ _=>some b|.obj b _=>some b|.osl v _ _ _ _ _=>vkey v
def R0.holds(w:World):R0->Prop
 |.blk b cs T=>w.heap[b]? = some (.cells cs.toArray T (0,0))|.obj b o=>w.heap[b]? = some o|.osl v n sz cs rs T=>(v = .slice none 0 0/\n=0/\cs=[]/\rs=[]) ∨
   ∃b c fz,v=sl b 0 n c/\n<=c/\cs.length=n*sz/\c*sz<=(cs++rs).length/\w.heap[b]? = some (.cells (cs++rs).toArray T fz)/\okfz T fz (cs++rs).length
def R0.apart(rs:List R0):Prop:=rs.Pairwise fun p q=>∀b,p.key=some b->q.key≠some b
def Res.holds(w:World):Res->Prop
 |.blk b cs T=>w.heap[b]? = some (.cells cs.toArray T (0,0))|.obj b o=>w.heap[b]? = some o|.osl v n sz cs rs T=>(v = .slice none 0 0/\n=0/\cs=[]/\rs=[]) ∨
   ∃b c fz,v=sl b 0 n c/\n<=c/\cs.length=n*sz/\c*sz<=(cs++rs).length/\w.heap[b]? = some (.cells (cs++rs).toArray T fz)/\okfz T fz (cs++rs).length
 |.many rs=>(∀q∈rs,q.holds w)/\R0.apart rs
def Res.has:Res->Nat->Prop
 |.blk b _ _,i=>some b=some i|.obj b _,i=>some b=some i|.osl v _ _ _ _ _,i=>vkey v=some i|.many rs,i=>∃q∈rs,q.key=some i
def Res.keys:Res->List Nat
 |.blk b _ _=>[b]|.obj b _=>[b]|.osl v _ _ _ _ _=>match vkey v with
  |some b=>[b]|none=>[]
 |.many rs=>rs.filterMap R0.key
theorem Res.mem_keys{r:Res}{b:Nat}:b∈r.keys↔r.has b:=by
 cases r with
 |blk b' cs T=>simp only[Res.keys,Res.has,aW,Option.some.injEq];exact eq_comm|obj b' o=>simp only[Res.keys,Res.has,aW,Option.some.injEq];exact eq_comm|osl v n sz cs rs T=>
  simp only[Res.keys,Res.has];cases vkey v with
  |none=>simp|some c=>simp only[aW,Option.some.injEq];exact eq_comm
 |many rs=>simp only[Res.keys,Res.has,List.mem_filterMap]
theorem R0.key_lt{w:World}{r:R0}{b:Nat}(h:r.holds w)(hk:r.key=some b):b<w.heap.size:=by
 cases r with
 |blk b' cs T=>cases hk;exact lt_of_heap h
 |obj b' o=>cases hk;exact lt_of_heap h
 |osl v n sz cs rs T=>
  rcases h with⟨rfl,_⟩|⟨b',c,fz,rfl,_,_,_,hh,_⟩
  ·cases hk
  ·cases hk;exact lt_of_heap hh
theorem R0.holds_of{w w':World}{r:R0}(h:r.holds w)(hk:∀b,r.key=some b->w'.heap[b]? = w.heap[b]?):r.holds w':=by
 cases r with
 |blk b' cs T=>show w'.heap[b']? = _;rw[hk b' rfl];exact h
 |obj b' o=>show w'.heap[b']? = _;rw[hk b' rfl];exact h
 |osl v n sz cs rs T=>
  rcases h with h|⟨b',c,fz,rfl,h1,h2,h3,hh,hf⟩
  ·exact .inl h
  ·exact .inr ⟨b',c,fz,rfl,h1,h2,h3,by rw[hk b' rfl];exact hh,hf⟩
theorem Res.key_lt{w:World}{r:Res}{b:Nat}(h:r.holds w)(hk:r.has b):b<w.heap.size:=by
 cases r with
 |blk b' cs T=>cases hk;exact lt_of_heap h
 |obj b' o=>cases hk;exact lt_of_heap h
 |osl v n sz cs rs T=>
  rcases h with⟨rfl,_⟩|⟨b',c,fz,rfl,_,_,_,hh,_⟩
  ·cases hk
  ·cases hk;exact lt_of_heap hh
 |many rs=>obtain⟨q,hq,hk⟩:=hk;exact R0.key_lt (h.1 q hq) hk
theorem Res.holds_of{w w':World}{r:Res}(h:r.holds w)(hk:∀b,r.has b->w'.heap[b]? = w.heap[b]?):r.holds w':=by
 cases r with
 |blk b' cs T=>show w'.heap[b']? = _;rw[hk b' rfl];exact h
 |obj b' o=>show w'.heap[b']? = _;rw[hk b' rfl];exact h
 |osl v n sz cs rs T=>
  rcases h with h|⟨b',c,fz,rfl,h1,h2,h3,hh,hf⟩
  ·exact .inl h
  ·exact .inr ⟨b',c,fz,rfl,h1,h2,h3,by rw[hk b' rfl];exact hh,hf⟩
 |many rs=>exact⟨fun q hq=>R0.holds_of (h.1 q hq) fun b hb=>hk b ⟨q,hq,hb⟩,h.2⟩
theorem R0.up_has{q:R0}{b:Nat}:q.up.has b↔q.key=some b:=by cases q<;>exact Iff.rfl
structure Fr (X:List Nat) (w0 w:World):Prop where
 os:w.os=w0.os
 tape:w.tape=w0.tape
 output:w.output=w0.output
 size:w0.heap.size<=w.heap.size
 block:∀k,k<w0.heap.size->k∉X->w.heap[k]? = w0.heap[k]?
theorem Fr.refl(X:List Nat)(w:World):Fr X w w:=⟨rfl,rfl,rfl,aJ _,fun _ _ _=>rfl⟩
theorem Fr.ext{w0 w:World}(h:Fr [] w0 w):Ext w0 w:=⟨h.os,h.tape,h.output,h.size,fun k hk=>h.block k hk (by simp)⟩
theorem Fr.of{w0 w:World}(h:Ext w0 w):Fr [] w0 w:=⟨h.os,h.tape,h.output,h.size,fun k hk _=>h.block k hk⟩
structure Bas where
 S0:Mem
 X:List Nat
 w0:World
def lkR:List Res->Nat->Option Res
 |[],_=>none|e::_,0=>some e|_::l,k+1=>lkR l k
def stR:List Res->Nat->Res->List Res
 |[],_,_=>[]|_::l,0,e=>e::l|x::l,k+1,e=>x::stR l k e
def rmR:List Res->Nat->List Res
 |[],_=>[]|_::l,0=>l|x::l,k+1=>x::rmR l k
theorem zaX:∀(l:List Res) (k:Nat),lkR l k=l[k]?
 |[],_=>by simp[lkR]
 |_::_,0=>by simp[lkR]
 |_::l,k+1=>by simp[lkR,zaX l k]
theorem ziU{e:Res}:∀{l:List Res} {k:Nat} {x:Res},lkR l k=some x->lkR (stR l k e) k=some e
 |[],_,_,h=>by cases h
 |_::_,0,_,_=>rfl|_::l,k+1,_,h=>ziU (l:=l) (k:=k) h
theorem zcK{e:Res}:∀{l:List Res} {k j:Nat},j≠k->lkR (stR l k e) j=lkR l j
 |[],_,_,_=>rfl|_::_,0,0,h=>absurd rfl h|_::_,0,_+1,_=>rfl|_::_,_+1,0,_=>rfl|_::l,k+1,j+1,h=>zcK (l:=l) (by omega)
theorem zwX:∀{l:List Res} {k j:Nat},lkR (rmR l k) j=if j<k then lkR l j else lkR l (j+1)
 |[],_,_=>by simp[rmR,lkR]
 |_::l,0,j=>by simp[rmR,lkR]
 |_::l,k+1,0=>by simp[rmR,lkR]
 |_::l,k+1,j+1=>by simp[rmR,lkR,zwX (l:=l) (k:=k) (j:=j)]
structure HS (B:Bas) (S:Mem) (w:World) (L:List Res):Prop where
 fr:Fr B.X B.w0 w
 sub:Sub S w
 keep:∀b,b<B.w0.heap.size->(b∈B.X->B.S0 b≠none)->S b=B.S0 b
 own:∀k r,lkR L k=some r->r.holds w
 old:∀k r b,lkR L k=some r->r.has b->(B.w0.heap.size<=b∨b∈B.X)/\S b=none
 inj:∀i j r s b,lkR L i=some r->lkR L j=some s->r.has b->s.has b->i=j
theorem HS.start{S:Mem}{w:World}(h:Sub S w):HS ⟨S,[],w⟩ S w []:=
 ⟨Fr.refl _ _,h,fun _ _ _=>rfl,fun _ _ h=>by simp[lkR]at h,fun _ _ _ h=>by simp[lkR]at h,fun _ _ _ _ _ h=>by simp[lkR]at h⟩
theorem HS.toExt{S0 S:Mem}{w0 w:World}{L:List Res}(H:HS ⟨S0,[],w0⟩ S w L):Ext w0 w:=H.fr.ext
def cut(S:Mem):Mem:=fun b=>nj (S b)
theorem xcZ{S:Mem}:Mem.le (cut S) S:=fun _ _ e=>(yzL e).1
theorem ydU{S:Mem}{b:Nat}{o:Obj}(h:S b=some o)(hj:isJ o=false):cut S b=some o:=by unfold cut;rw[h];exact yuA hj
def NoJ(S:Mem):Prop:=∀b o,S b=some o->isJ o=false
theorem xeA{S:Mem}:NoJ (cut S):=fun _ _ e=>(yzL e).2
theorem HS.gr{S0 S:Mem}{w0 w:World}{L:List Res}(H:HS ⟨S0,[],w0⟩ S w L):Mem.le (cut S) (gr S0 w0 w):=fun b o e=>by
 obtain⟨e,hj⟩:=yzL e;unfold Go.Proofs.YtmbcolbbekbccaaGreat.gr;by_cases h:b<w0.heap.size
 ·rw[zH h];have h2:S b=S0 b:=H.keep b h (fun h=>nomatch h);rw[<-h2];exact e
 ·rw[zG h,yvA (H.sub b o e) hj];exact yuA hj
section
variable {B:Bas}{S S':Mem}{w w':World}{L:List Res}
theorem HS.res_lt(H:HS B S w L){k b:Nat}{r:Res}(hk:lkR L k=some r)(hb:r.has b):b<w.heap.size:=Res.key_lt (H.own k r hk) hb
theorem Fr.more{X:List Nat}{a b c:World}(h:Fr X a b)(k:Ext b c):Fr X a c:=
 ⟨k.os.trans h.os,k.tape.trans h.tape,k.output.trans h.output,aY h.size k.size,fun i hi hx=>(k.block i (bE hi h.size)).trans (h.block i hi hx)⟩
theorem HS.ext(H:HS B S w L)(hx:Ext w w'):HS B S w' L:=
 ⟨H.fr.more hx,H.sub.ext hx,H.keep,fun k r hk=>Res.holds_of (H.own k r hk) fun b hb=>hx.block b (H.res_lt hk hb),H.old,H.inj⟩
theorem HS.call(H:HS B S w L)(hx:Ext w w'):HS B (Go.Proofs.YtmbcolbbekbccaaGreat.gr S w w') w' L:=
 ⟨H.fr.more hx,gr_sub H.sub hx,fun b hb hx=>by
   unfold Go.Proofs.YtmbcolbbekbccaaGreat.gr;rw[zH (bE hb H.fr.size)];exact H.keep b hb hx,
  fun k r hk=>Res.holds_of (H.own k r hk) fun b hb=>hx.block b (H.res_lt hk hb),
  fun k r b hk hb=>⟨(H.old k r b hk hb).1,by unfold Go.Proofs.YtmbcolbbekbccaaGreat.gr;rw[zH (H.res_lt hk hb)];exact(H.old k r b hk hb).2⟩,H.inj⟩
theorem HS.callF{F:Nat->Bool}(H:HS B S w L)(hx:Ext w w'):HS B (Go.Proofs.YtmbcolbbekbccaaGreat.gf S w F w') w' L:=
 ⟨H.fr.more hx,gf_sub H.sub hx,fun b hb hx=>by
   unfold Go.Proofs.YtmbcolbbekbccaaGreat.gf;rw[zH (bE hb H.fr.size)];exact H.keep b hb hx,
  fun k r hk=>Res.holds_of (H.own k r hk) fun b hb=>hx.block b (H.res_lt hk hb),
  fun k r b hk hb=>⟨(H.old k r b hk hb).1,by unfold Go.Proofs.YtmbcolbbekbccaaGreat.gf;rw[zH (H.res_lt hk hb)];exact(H.old k r b hk hb).2⟩,H.inj⟩
theorem HS.drew(H:HS B S w L):HS B S w.drew L:=H.ext (Ext.drew w)
theorem HS.push(H:HS B S w L)(hx:Ext w w'){r:Res}(hr:r.holds w')(hn:∀b,r.has b->w.heap.size<=b):HS B S w' (r::L):=by
 have H':=H.ext hx;refine⟨H'.fr,H'.sub,H'.keep,?_,?_,?_⟩
 ·intro k s hk;cases k with
  |zero=>cases hk;exact hr
  |succ k=>exact H'.own k s hk
 ·intro k s b hk hb;cases k with
  |zero=>cases hk;exact⟨.inl (aY H.fr.size (hn b hb)),H.sub.none (hn b hb)⟩
  |succ k=>exact H.old k s b hk hb
 ·intro i j s t b hi hj h1 h2;cases i with
  |zero=>
   cases j with
   |zero=>rfl|succ j=>cases hi;have a1:=hn b h1;have a2:=H.res_lt hj h2;omega
  |succ i=>
   cases j with
   |zero=>cases hj;have a1:=hn b h2;have a2:=H.res_lt hi h1;omega
   |succ j=>rw[H.inj i j s t b hi hj h1 h2]
theorem HS.upd(H:HS B S w L){k:Nat}{r r':Res}(hk:lkR L k=some r)(hsz:w.heap.size<=w'.heap.size)(hos:w'.os=w.os)(htp:w'.tape=w.tape)(hop:w'.output=w.output) (hb:∀i,i<w.heap.size->¬r.has i->w'.heap[i]? = w.heap[i]?) (hr:r'.holds w') (hkey:∀b,r'.has b->r.has b∨w.heap.size<=b):HS B S w' (stR L k r'):=by
 refine⟨⟨hos.trans H.fr.os,htp.trans H.fr.tape,hop.trans H.fr.output,aY H.fr.size hsz,?_⟩,?_,H.keep,?_,?_,?_⟩
 ·intro i hi hx;rw[hb i (bE hi H.fr.size) (fun e=>?_)]
  ·exact H.fr.block i hi hx
  ·rcases(H.old k r i hk e).1 with h|h
   ·omega
   ·exact hx h
 ·intro b o e;rw[hb b (H.sub.lt e) (fun e2=>?_)]
  ·exact H.sub b o e
  ·rw[(H.old k r b hk e2).2]at e;cases e
 ·intro j s hj;by_cases hjk:j=k
  ·subst hjk;rw[ziU hk]at hj;cases hj;exact hr
  ·rw[zcK hjk]at hj;exact Res.holds_of (H.own j s hj) fun b hbs=>hb b (H.res_lt hj hbs) fun e=>hjk (H.inj j k s r b hj hk hbs e)
 ·intro j s b hj hbs;by_cases hjk:j=k
  ·subst hjk;rw[ziU hk]at hj;cases hj;rcases hkey b hbs with h|h
   ·exact H.old j r b hk h
   ·exact⟨.inl (aY H.fr.size h),H.sub.none h⟩
  ·rw[zcK hjk]at hj;exact H.old j s b hj hbs
 ·intro i j s t b hi hj h1 h2;by_cases hik:i=k
  ·by_cases hjk:j=k
   ·omega
   ·subst hik;rw[ziU hk]at hi;cases hi;rw[zcK hjk]at hj;rcases hkey b h1 with h|h
    ·exact absurd (H.inj j i t r b hj hk h2 h) hjk
    ·have:=H.res_lt hj h2;omega
  ·rw[zcK hik]at hi;by_cases hjk:j=k
   ·subst hjk;rw[ziU hk]at hj;cases hj;rcases hkey b h2 with h|h
    ·exact absurd (H.inj i j s r b hi hk h1 h) hik
    ·have:=H.res_lt hi h1;omega
   ·rw[zcK hjk]at hj;exact H.inj i j s t b hi hj h1 h2
theorem HS.rm(H:HS B S w L)(k:Nat):HS B S w (rmR L k):=by
 refine⟨H.fr,H.sub,H.keep,fun j r hj=>?_,fun j r b hj=>?_,fun i j r s b hi hj h1 h2=>?_⟩
 ·rw[zwX]at hj;split at hj
  ·exact H.own _ _ hj
  ·exact H.own _ _ hj
 ·rw[zwX]at hj;split at hj
  ·exact H.old _ _ _ hj
  ·exact H.old _ _ _ hj
 ·rw[zwX]at hi hj;split at hi<;>split at hj<;>have:=H.inj _ _ _ _ _ hi hj h1 h2<;>omega
def selR(L:List Res):List Nat->List Res
 |[]=>[]|j::js=>match lkR L j with
  |some r=>r::selR L js|none=>selR L js
def zvI(L:List Res):List Nat->Bool
 |[]=>true|j::js=>Nat.blt j L.length && !(js.any (Nat.beq j))&&zvI L js
theorem lkR_lt{l:List Res}{k:Nat}:k<l.length->∃r,lkR l k=some r:=fun h=>⟨l[k],by rw[zaX];simp[h]⟩
theorem znJ{L:List Res}:∀{js:List Nat},zvI L js=true->∀{i:Nat} {r:Res},lkR (selR L js) i=some r->∃j,js[i]? = some j/\lkR L j=some r
 |[],_,i,r,h=>by simp[selR,lkR]at h
 |j::js,hok,i,r,h=>by
  simp only[zvI,aK]at hok;have hj:j<L.length:=by have:=hok.1.1;rw[zhR]at this;simpa using this
  obtain⟨x,hx⟩:=lkR_lt hj;simp only[selR,hx]at h;cases i with
  |zero=>simp only[lkR,Option.some.injEq]at h;subst h;exact⟨j,rfl,hx⟩|succ i=>simp only[lkR]at h;obtain⟨j',h1,h2⟩:=znJ hok.2 h;exact⟨j',by simpa using h1,h2⟩
theorem zyK{L:List Res}:∀{js:List Nat},zvI L js=true->∀{i k j:Nat},js[i]? = some j->js[k]? = some j->i=k
 |[],_,i,k,j,h,_=>by simp at h
 |x::js,hok,i,k,j,hi,hk=>by
  simp only[zvI,aK,cL]at hok;have hx:∀y∈js,y≠x:=fun y hy e=>by have:=List.any_eq_false.1 hok.1.2 y hy;subst e;simp at this
  cases i with
  |zero=>
   cases k with
   |zero=>rfl|succ k=>simp at hi hk;subst hi;exact absurd rfl (hx _ (bJ hk))
  |succ i=>
   cases k with
   |zero=>simp at hi hk;subst hk;exact absurd rfl (hx _ (bJ hi))|succ k=>rw[zyK hok.2 (i:=i) (k:=k) (by simpa using hi) (by simpa using hk)]
theorem HS.sel(H:HS B S w L)(js:List Nat)(hok:zvI L js=true):HS B S w (selR L js):=by
 refine⟨H.fr,H.sub,H.keep,fun i r hi=>?_,fun i r b hi hb=>?_,fun i k r s b hi hk h1 h2=>?_⟩
 ·obtain⟨j,_,h⟩:=znJ hok hi;exact H.own j r h
 ·obtain⟨j,_,h⟩:=znJ hok hi;exact H.old j r b h hb
 ·obtain⟨j,e1,g1⟩:=znJ hok hi;obtain⟨j',e2,g2⟩:=znJ hok hk;obtain rfl:=H.inj j j' r s b g1 g2 h1 h2;exact zyK hok e1 e2
def zcC:List Res->List Nat
 |[]=>[]|r::l=>r.keys++zcC l
theorem zcV{b:Nat}:∀{l:List Res},b∈zcC l↔∃k r,lkR l k=some r/\r.has b
 |[]=>by simp[zcC,lkR]
 |x::l=>by
  have ih:=zcV (b:=b) (l:=l);unfold zcC;rw[cI,Res.mem_keys];constructor
  ·rintro(h|h)
   ·exact⟨0,x,rfl,h⟩
   ·obtain⟨k,r,h1,h2⟩:=ih.1 h;exact⟨k+1,r,h1,h2⟩
  ·rintro⟨k,r,h1,h2⟩;cases k with
   |zero=>simp only[lkR,Option.some.injEq]at h1;subst h1;exact .inl h2|succ k=>exact .inr (ih.2 ⟨k,r,h1,h2⟩)
theorem HS.keys_lt(H:HS B S w L){b:Nat}(h:w.heap.size<=b):∀c∈zcC L,c≠b:=fun c hc e=>by obtain⟨k,r,hk,hr⟩:=zcV.1 hc;have:=H.res_lt hk hr;omega
def mrkL(S:Mem)(n:Nat):List Nat:=(List.range n).filter fun b=>match S b with
 |some o=>isJ o|none=>false
theorem yaT{S:Mem}{n b:Nat}:b∈mrkL S n↔b<n/\∃o,S b=some o/\isJ o=true:=by unfold mrkL;rw[List.mem_filter,List.mem_range];cases S b<;>simp
def mayL(m:Bool)(S:Mem)(L:List Res)(w:World):List Nat:=bif m then zcC L++mrkL S w.heap.size else zcC L
theorem zqJ{m:Bool}{S:Mem}{L:List Res}{w:World}{b:Nat}(h:b∈mayL m S L w):b∈zcC L∨(m=true/\b<w.heap.size/\∃o,S b=some o/\isJ o=true):=by
 cases m with
 |false=>exact .inl h|true=>exact(cI.1 (show b∈zcC L++mrkL S w.heap.size from h)).imp id fun h=>⟨rfl,yaT.1 h⟩
theorem ydL{m:Bool}{S:Mem}{L:List Res}{w:World}{b:Nat}(h:b∈zcC L):b∈mayL m S L w:=by
 cases m with
 |false=>exact h|true=>exact List.mem_append_left _ h
def MB(m:Bool)(B:Bas):Prop:=m=true->∀b o,b<B.w0.heap.size->B.S0 b=some o->isJ o=true->b∈B.X
theorem MB.may{m:Bool}{S:Mem}{L:List Res}{w:World}:MB m ⟨S,Go.Proofs.YtmbcolbbekbccaaGreat.mayL m S L w,w⟩:=fun hm b o hb h hj=>by subst hm;exact List.mem_append_right _ (yaT.2 ⟨hb,o,h,hj⟩)
theorem HS.le{S0:Mem}{X:List Nat}{w0:World}(H:HS ⟨S0,X,w0⟩ S w L)(h:Sub S0 w0):Mem.le S0 S:=fun b o e=>by rw[H.keep b (h.lt e) (fun _=>by show S0 b≠none;rw[e];simp)];exact e
theorem HS.lendX(H:HS B S w L)(m:Bool):HS ⟨S,Go.Proofs.YtmbcolbbekbccaaGreat.mayL m S L w,w⟩ S w L:=
 ⟨Fr.refl _ _,H.sub,fun _ _ _=>rfl,H.own,fun k r b hk hb=>⟨.inr (ydL (zcV.2 ⟨k,r,hk,hb⟩)),(H.old k r b hk hb).2⟩,H.inj⟩
theorem HS.wide{S0:Mem}{X Y:List Nat}{w0:World}(h:∀b∈X,b∈Y)(H:HS ⟨S0,X,w0⟩ S w L):HS ⟨S0,Y,w0⟩ S w L:=
 ⟨⟨H.fr.os,H.fr.tape,H.fr.output,H.fr.size,fun k hk hx=>H.fr.block k hk fun e=>hx (h k e)⟩,H.sub,fun b hb hx=>H.keep b hb fun e=>hx (h b e),H.own,fun k r b hk hb=>⟨(H.old k r b hk hb).1.imp id fun e=>h b e,(H.old k r b hk hb).2⟩,H.inj⟩
theorem HS.adopt(H:HS B S w L){b:Nat}{l:LV}{T:TypeId}(hb:B.w0.heap.size<=b)(hS:S b=none)(hh:w.heap[b]? = some (.cells l.toArray T (0,0)))(hn:∀c∈zcC L,c≠b):HS B S w (.blk b l T::L):=by
 refine⟨H.fr,H.sub,H.keep,?_,?_,?_⟩
 ·intro k s hk;cases k with
  |zero=>cases hk;exact hh
  |succ k=>exact H.own k s hk
 ·intro k s c hk hc;cases k with
  |zero=>cases hk;cases hc;exact⟨.inl hb,hS⟩
  |succ k=>exact H.old k s c hk hc
 ·intro i j s t c hi hj h1 h2;cases i with
  |zero=>
   cases j with
   |zero=>rfl|succ j=>cases hi;cases h1;exact absurd rfl (hn b (zcV.2 ⟨j,t,hj,h2⟩))
  |succ i=>
   cases j with
   |zero=>cases hj;cases h2;exact absurd rfl (hn b (zcV.2 ⟨i,s,hi,h1⟩))
   |succ j=>rw[H.inj i j s t c hi hj h1 h2]
theorem HS.hand(H:HS B S w L)(js:List Nat)(hok:zvI L js=true):HS ⟨S,zcC (selR L js),w⟩ S w (selR L js):=by have h:=H.sel js hok;exact⟨Fr.refl _ _,h.sub,fun _ _ _=>rfl,h.own,fun k r b hk hb=>⟨.inr (zcV.2 ⟨k,r,hk,hb⟩),(h.old k r b hk hb).2⟩,h.inj⟩
theorem HS.frame{S':Mem}{N:List Res}(H:HS B S w L)(js ks:List Nat)(hok:zvI L (js++ks)=true)(H':HS ⟨S,zcC (selR L js),w⟩ S' w' N):HS B S' w' (N++selR L ks)/\Mem.le S S':=by
 have hokj:zvI L js=true:=by
  clear H';induction js with
  |nil=>rfl|cons j js ih=>simp only[bN,zvI,aK,cL,List.any_append,Bool.or_eq_false_iff]at hok ⊢;exact⟨⟨hok.1.1,hok.1.2.1⟩,ih hok.2⟩
 have hokk:zvI L ks=true:=by
  clear H' hokj;induction js with
  |nil=>exact hok|cons j js ih=>simp only[bN,zvI,aK]at hok;exact ih hok.2
 have apart:∀{i k j:Nat},js[i]? = some j->ks[k]? = some j->False:=fun {i k j} hi hk=>by
  have h1:(js++ks)[i]? = some j:=by rw[aF (aC.1 hi).1];exact hi
  have h2:(js++ks)[js.length+k]? = some j:=by rw[aH (by omega)];simpa using hk
  have:=zyK hok h1 h2;have:=(aC.1 hi).1;omega
 have hfr:=H'.fr;have nokey:∀b,S b≠none->b∉zcC (selR L js):=fun b hb hm=>by obtain⟨i,s,h1,h2⟩:=zcV.1 hm;obtain⟨j',_,h'⟩:=znJ hokj h1;exact hb (H.old j' s b h' h2).2
 have hle:Mem.le S S':=H'.le H.sub
 -- a resource that stays
 have stay:∀{k:Nat} {r:Res},lkR (selR L ks) k=some r->∃j,lkR L j=some r/\∀b,r.has b->b<w.heap.size/\b∉zcC (selR L js):=fun {k r} hk=>by obtain⟨j,e,h⟩:=znJ hokk hk;refine⟨j,h,fun b hb=>⟨H.res_lt h hb,fun hm=>?_⟩⟩;obtain⟨i,s,h1,h2⟩:=zcV.1 hm;obtain⟨j',e',h'⟩:=znJ hokj h1;obtain rfl:=H.inj j j' r s b h h' hb h2;exact apart e' e
 have gone:∀{b:Nat},b∈zcC (selR L js)->B.w0.heap.size<=b∨b∈B.X:=fun {b} hm=>by obtain⟨i,s,h1,h2⟩:=zcV.1 hm;obtain⟨j',_,h'⟩:=znJ hokj h1;exact(H.old j' s b h' h2).1
 have lkA:∀k,lkR (N++selR L ks) k=if k<N.length then lkR N k else lkR (selR L ks) (k-N.length):=fun k=>by rw[zaX,zaX,zaX,List.getElem?_append]
 refine⟨⟨⟨hfr.os.trans H.fr.os,hfr.tape.trans H.fr.tape,hfr.output.trans H.fr.output,aY H.fr.size hfr.size,fun i hi hx=>?_⟩,H'.sub,fun b hb hbx=>?_,fun k r hk=>?_,fun k r b hk hb=>?_,fun i j r s b hi hj h1 h2=>?_⟩,hle⟩
 ·rw[hfr.block i (bE hi H.fr.size) (fun hm=>?_)]
  ·exact H.fr.block i hi hx
  ·rcases gone hm with h|h
   ·omega
   ·exact hx h
 ·rw[<-H.keep b hb hbx];refine H'.keep b (bE hb H.fr.size) (fun hm=>?_);rcases gone hm with h|h
  ·omega
  ·have:=hbx h;show S b≠none
   rwa[H.keep b hb hbx]
 ·rw[lkA]at hk;split at hk
  ·exact H'.own k r hk
  ·obtain⟨j,h,hs⟩:=stay hk;exact Res.holds_of (H.own j r h) fun b hb=>hfr.block b (hs b hb).1 (hs b hb).2
 ·rw[lkA]at hk;split at hk
  ·have h:=H'.old k r b hk hb;refine⟨?_,h.2⟩;rcases h.1 with h1|h1
   ·exact .inl (aY H.fr.size h1)
   ·exact gone h1
  ·obtain⟨j,h,hs⟩:=stay hk;exact⟨(H.old j r b h hb).1,by rw[H'.keep b (hs b hb).1 (fun h=>absurd h (hs b hb).2)];exact(H.old j r b h hb).2⟩
 ·rw[lkA]at hi hj;split at hi<;>split at hj
  ·exact H'.inj i j r s b hi hj h1 h2
  ·obtain⟨j',h,hs⟩:=stay hj;rcases(H'.old i r b hi h1).1 with g|g
   ·have:=(hs b h2).1;have g':w.heap.size<=b:=g;omega
   ·exact absurd g (hs b h2).2
  ·obtain⟨j',h,hs⟩:=stay hi;rcases(H'.old j s b hj h2).1 with g|g
   ·have:=(hs b h1).1;have g':w.heap.size<=b:=g;omega
   ·exact absurd g (hs b h1).2
  ·have:=(H.sel ks hokk).inj _ _ r s b hi hj h1 h2;omega
theorem HS.fix(H:HS B S w L){k:Nat}{r:Res}(hk:lkR L k=some r){b:Nat}{o:Obj}(hb:r.has b)(ho:Fits o w.heap[b]?):∃S',Mem.le S S'/\S' b=some o/\HS B S' w (rmR L k):=by
 refine⟨fun i=>if i=b then some o else S i,fun i p e=>?_,by simp,?_⟩
 ·by_cases h:i=b
  ·subst h;rw[(H.old k r i hk hb).2]at e;cases e
  ·simp[h,e]
 ·have h':=H.rm k;have hold:=(H.old k r b hk hb).1;refine⟨h'.fr,fun i p e=>?_,fun i hi hx=>?_,h'.own,fun j s i hj hs=>?_,h'.inj⟩
  ·by_cases h:i=b
   ·subst h;simp at e;subst e;exact ho
   ·simp[h]at e;exact H.sub i p e
  ·have:i≠b:=fun e=>by
    subst e;have h2:=H.keep i hi hx;rw[(H.old k r i hk hb).2]at h2;rcases hold with h|h
    ·omega
    ·exact hx h h2.symm
   simp[this,H.keep i hi hx]
  ·have h1:=h'.old j s i hj hs;refine⟨h1.1,?_⟩;have:i≠b:=fun e=>by subst e;rw[zwX]at hj;split at hj<;>have:=H.inj _ _ _ _ _ hj hk hs hb<;>omega
   simp[this,h1.2]
end
def SlS(S:Mem)(v:Value)(n sz:Nat)(cs:LV):Prop:=
 ((∃a,v = .slice a 0 0)/\n=0/\cs=[])∨∃b o c ds T fz,v=sl b o n c/\n<=c/\S b=some (.cells ds.toArray T fz)/\o+n*sz<=ds.length/\piece ds o (n*sz)=cs
theorem SlS.mono{S T:Mem}{v:Value}{n sz:Nat}{cs:LV}(h:SlS S v n sz cs)(hl:Mem.le S T):SlS T v n sz cs:=by
 rcases h with h|⟨b,o,c,ds,E,fz,h1,h2,h3,h4,h5⟩
 ·exact .inl h
 ·exact .inr ⟨b,o,c,ds,E,fz,h1,h2,hl _ _ h3,h4,h5⟩
def SlW(w:World)(v:Value)(n sz:Nat)(cs:LV):Prop:=
 ((∃a,v = .slice a 0 0)/\n=0/\cs=[])∨∃b o c ds T fz,v=sl b o n c/\n<=c/\w.heap[b]? = some (.cells ds.toArray T fz)/\o+n*sz<=ds.length/\piece ds o (n*sz)=cs
theorem SlS.w{S:Mem}{w:World}{v:Value}{n sz:Nat}{cs:LV}(h:SlS S v n sz cs)(hs:Sub S w):SlW w v n sz cs:=by
 rcases h with h|⟨b,o,c,ds,E,fz,h1,h2,h3,h4,h5⟩
 ·exact .inl h
 ·exact .inr ⟨b,o,c,ds,E,fz,h1,h2,hs _ _ h3,h4,h5⟩
theorem zfO{l:LV}{o n:Nat}(h:o+n<=l.length):(piece l o n).length=n:=by rw[zaL];simp;omega
theorem SlW.len{w:World}{v:Value}{n sz:Nat}{cs:LV}(h:SlW w v n sz cs):cs.length=n*sz:=by
 rcases h with⟨_,rfl,rfl⟩|⟨b,o,c,ds,E,fz,h1,h2,h3,h4,rfl⟩
 ·simp
 ·exact zfO h4
theorem SlS.len{S:Mem}{v:Value}{n sz:Nat}{cs:LV}(h:SlS S v n sz cs):cs.length=n*sz:=by
 rcases h with⟨_,rfl,rfl⟩|⟨b,o,c,ds,E,fz,h1,h2,h3,h4,rfl⟩
 ·simp
 ·exact zfO h4
theorem Res.slW{w:World}{v:Value}{n sz:Nat}{cs rs:LV}{T:TypeId}(h:(Res.osl v n sz cs rs T).holds w):SlW w v n sz cs:=by
 rcases h with⟨h1,h2,h3,_⟩|⟨b,c,fz,rfl,h1,h2,h3,h4,_⟩
 ·exact .inl ⟨⟨_,h1⟩,h2,h3⟩
 ·refine .inr ⟨b,0,c,cs++rs,T,fz,rfl,h1,h4,by simp;omega,?_⟩;rw[zaL,dZ,<-h2,List.take_left'];rfl
theorem SlS.nil(S:Mem)(sz:Nat):SlS S (.slice none 0 0) 0 sz []:=.inl ⟨⟨_,rfl⟩,rfl,rfl⟩
theorem HS.slW{B:Bas}{S:Mem}{w:World}{L:List Res}(H:HS B S w L){k:Nat}{v:Value}{n sz:Nat}{cs rs:LV}{T:TypeId}(hk:lkR L k=some (.osl v n sz cs rs T)):SlW w v n sz cs:=Res.slW (H.own k _ hk)
theorem HS.fixS{B:Bas}{S:Mem}{w:World}{L:List Res}(H:HS B S w L){k:Nat}{v:Value}{n sz:Nat}{cs rs:LV}{T:TypeId}(hk:lkR L k=some (.osl v n sz cs rs T)):∃S',Mem.le S S'/\SlS S' v n sz cs/\HS B S' w (rmR L k):=by
 have hh:=H.own k _ hk;rcases hh with⟨h1,h2,h3,_⟩|⟨b,c,fz,rfl,h1,h2,h3,h4,_⟩
 ·exact⟨S,Mem.le_refl S,.inl ⟨⟨_,h1⟩,h2,h3⟩,H.rm k⟩
 ·obtain⟨S',hle,hb,H'⟩:=H.fix hk (b:=b) (o:=.cells (cs++rs).toArray T fz) rfl h4;refine⟨S',hle,.inr ⟨b,0,c,cs++rs,T,fz,rfl,h1,hb,by simp;omega,?_⟩,H'⟩;rw[zaL,dZ,<-h2,List.take_left'];rfl
theorem HS.jset{B:Bas}{S:Mem}{w w':World}{L:List Res}(H:HS B S w L)(hJ:NoJ B.S0){b n:Nat}{T:TypeId}(hb:S b=some (jm n T)){c:Array Value}{T':TypeId}(hc:c.size=n)(hw:w'.heap[b]? = some (.cells c T' (0,0)))(hsz:w.heap.size<=w'.heap.size)(hos:w'.os=w.os)(htp:w'.tape=w.tape)(hop:w'.output=w.output) (ho:∀i,i≠b->w'.heap[i]? = w.heap[i]?):HS B S w' L:=by
 refine⟨⟨hos.trans H.fr.os,htp.trans H.fr.tape,hop.trans H.fr.output,aY H.fr.size hsz,fun i hi hx=>?_⟩,fun i o e=>?_,H.keep,fun k r hk=>Res.holds_of (H.own k r hk) fun i hi=>ho i fun e=>?_,H.old,H.inj⟩
 ·rw[ho i (fun e=>?_)]
  ·exact H.fr.block i hi hx
  ·subst e;have:=hJ i _ ((H.keep i hi (fun h=>absurd h hx)).symm.trans hb);cases this
 ·by_cases e2:i=b
  ·subst e2;rw[hb]at e;cases e;exact⟨c,T',hw,hc⟩
  ·rw[ho i e2];exact H.sub i o e
 ·subst e;have:=(H.old k r i hk hi).2;rw[hb]at this;cases this
theorem HS.fixB{B:Bas}{S:Mem}{w:World}{L:List Res}(H:HS B S w L){k b:Nat}{cs:LV}{T:TypeId}(hk:lkR L k=some (.blk b cs T)):∃S',Mem.le S S'/\S' b=some (.cells cs.toArray T (0,0))/\HS B S' w (rmR L k):=
 H.fix hk (b:=b) (o:=.cells cs.toArray T (0,0)) rfl (H.own k _ hk)
def subN:Value->Nat->Nat->Nat->Value
 |.slice a _ c,sz,lo,hi=>.slice (if c=lo then a else a.map (·.add (lo*sz))) (hi-lo) (c-lo)|v,_,_,_=>v
theorem zgM(l:LV)(o n p m:Nat)(h:p+m<=n):piece (piece l o n) p m=piece l (o+p) m:=by simp only[zaL];rw[iE,List.take_take,eC];congr 1;omega
theorem SlS.sub{S:Mem}{v:Value}{n sz:Nat}{cs:LV}(h:SlS S v n sz cs){lo hi:Nat}(h1:lo<=hi)(h2:hi<=n):SlS S (subN v sz lo hi) (hi-lo) sz (piece cs (lo*sz) ((hi-lo)*sz)):=by
 rcases h with⟨⟨a,rfl⟩,rfl,rfl⟩|⟨b,o,c,ds,T,fz,rfl,h3,h4,h5,rfl⟩
 ·obtain rfl:hi=0:=by omega
  obtain rfl:lo=0:=by omega
  exact .inl ⟨⟨a,by simp[subN]⟩,rfl,by simp[piece]⟩
 ·have hm:lo*sz+(hi-lo)*sz<=n*sz:=by rw[<-bD];exact cE sz (by omega)
  by_cases hc:c=lo
  ·obtain rfl:hi=lo:=by omega
   refine .inr ⟨b,o,c-hi,ds,T,fz,?_,by omega,h4,by simp;omega,?_⟩
   ·simp[subN,sl,hc]
   ·simp[piece]
  ·refine .inr ⟨b,o+lo*sz,c-lo,ds,T,fz,?_,by omega,h4,by omega,?_⟩
   ·simp[subN,sl,hc,zbW]
   ·rw[zgM _ _ _ _ _ hm]
def CellAt(S:Mem)(b o:Nat)(c:LV):Prop:=∃ds T fz,S b=some (.cells ds.toArray T fz)/\o+c.length<=ds.length/\piece ds o c.length=c
theorem CellAt.mono{S T:Mem}{b o:Nat}{c:LV}(h:CellAt S b o c)(hl:Mem.le S T):CellAt T b o c:=by obtain⟨ds,E,fz,h1,h2⟩:=h;exact⟨ds,E,fz,hl _ _ h1,h2⟩
theorem SlS.at{S:Mem}{v:Value}{n sz i:Nat}{cs:LV}(h:SlS S v n sz cs)(hi:i<n):∃b o c,v=sl b o n c/\CellAt S b (o+i*sz) (piece cs (i*sz) sz):=by
 rcases h with⟨_,rfl,rfl⟩|⟨b,o,c,ds,T,fz,rfl,h3,h4,h5,rfl⟩
 ·omega
 ·have hm:i*sz+sz<=n*sz:=by have:=cE sz (show i+1<=n by omega);rw[bD,cR]at this;exact this
  have hl:(piece (piece ds o (n*sz)) (i*sz) sz).length=sz:=zfO (by rw[zfO h5];exact hm);refine⟨b,o,c,rfl,ds,T,fz,h4,by rw[hl];omega,?_⟩;rw[hl,zgM _ _ _ _ _ hm]
end
section
section
variable {α β γ σ:Type}
theorem bnd{o:Option α}{f:α->Option β}{r:β}(h:o.bind f=some r):∃x,o=some x/\f x=some r:=by
 cases o with
 |none=>cases h
 |some x=>exact⟨x,rfl,h⟩
theorem zjY{c:Bool}{a b r:α}(h:(bif c then a else b)=r)(hc:c=true):a=r:=by subst hc;exact h
theorem zkD{c:Bool}{a b r:α}(h:(bif c then a else b)=r)(hc:c=false):b=r:=by subst hc;exact h
def jnO(o:α⊕β)(f:α->Option γ)(g:β->Option γ):Option γ:=match o with
 |.inl a=>f a|.inr b=>g b
def jn(o:Option (α⊕β))(f:α->Option γ)(g:β->Option γ):Option γ:=o.bind fun o=>jnO o f g
theorem zyF{o:Option (α⊕β)}{f:α->Option γ}{g:β->Option γ}{r:γ}(h:jn o f g=some r):∃x,o=some x/\jnO x f g=some r:=bnd h
theorem jnO_l{a:α}{x:α⊕β}{f:α->Option γ}{g:β->Option γ}{r:Option γ}(h:jnO x f g=r)(hx:x = .inl a):f a=r:=by subst hx;exact h
def zpU(body:σ->Option (σ⊕β)):Nat->σ->Option β
 |0,_=>none|k+1,s=>jn (body s) (zpU body k) some
def FU:Nat:=1099511627776
def iter(body:σ->Option (σ⊕β))(s:σ):Option β:=zpU body FU s
theorem ziX{body:σ->Option (σ⊕β)}{k:Nat}{s s':σ}(h:body s=some (.inl s')):zpU body (k+1) s=zpU body k s':=by simp only[zpU,jn,h,fD,jnO]
theorem zkR{body:σ->Option (σ⊕β)}{k:Nat}{s:σ}{b:β}(h:body s=some (.inr b)):zpU body (k+1) s=some b:=by simp only[zpU,jn,h,fD,jnO]
theorem ydM{body:σ->Option (σ⊕β)}(I:σ->Prop)(m:σ->Nat)(G:β->Prop)(hr:∀s,I s->(∃s',body s=some (.inl s')/\I s'/\m s'<m s)∨∃b,body s=some (.inr b)/\G b):∀(k:Nat) (s:σ),I s->m s<k->∃b,zpU body k s=some b/\G b
 |0,_,_,h=>by omega
 |k+1,s,hI,hk=>by
  rcases hr s hI with⟨s',h1,h2,h3⟩|⟨b,h1,h2⟩
  ·rw[ziX h1];exact ydM I m G hr k s' h2 (by omega)
  ·exact⟨b,zkR h1,h2⟩
theorem yxO{body:σ->Option (σ⊕β)}(I:σ->Prop)(m:σ->Nat)(G:β->Prop)(s:σ)(h0:I s)(hm:m s<1099511627776)(hr:∀s,I s->(∃s',body s=some (.inl s')/\I s'/\m s'<m s)∨∃b,body s=some (.inr b)/\G b):∃b,iter body s=some b/\G b:=ydM I m G hr FU s h0 hm
def idx(l:List α)(i:Int):Option α:=bif decide (i<0)then none else l[i.toNat]?
theorem zaP{l:List α}{i:Int}{x:α}(h:idx l i=some x):i=(i.toNat:Int)/\l[i.toNat]? = some x:=by
 unfold idx at h;by_cases hi:i<0
 ·simp[hi]at h
 ·simp only[hi,decide_false,zF]at h;exact⟨by omega,h⟩
theorem idx_nat{l:List α}(i:Nat):idx l (i:Int)=l[i]?:=by
 have h:¬((i:Int)<0):=by omega
 simp only[idx,h,decide_false,zF,Int.toNat_natCast]
theorem zjX{l:List α}{i:Int}{x:α}(h:idx l i=some x):i.toNat<l.length:=(aC.1 (zaP h).2).1
def sub3(l:List α)(lo hi:Int):Option (List α):=bif decide (0<=lo)&&decide (lo<=hi)&&decide (hi<=(l.length:Int))then some ((l.take hi.toNat).drop lo.toNat)else none
theorem zkU{l r:List α}{lo hi:Int}(h:sub3 l lo hi=some r):lo=(lo.toNat:Int)/\hi=(hi.toNat:Int)/\lo.toNat<=hi.toNat/\hi.toNat<=l.length/\(l.take hi.toNat).drop lo.toNat=r:=by
 unfold sub3 at h;by_cases hc:decide (0<=lo)&&decide (lo<=hi)&&decide (hi<=(l.length:Int))
 ·rw[hc]at h;simp only[aK,zD]at hc;simp only[zE,Option.some.injEq]at h;exact⟨by omega,by omega,by omega,by omega,h⟩
 ·simp only[eL]at hc;rw[hc]at h;cases h
def subL(l:List α)(lo:Int):Option (List α):=bif decide (0<=lo)&&decide (lo<=(l.length:Int))then some (l.drop lo.toNat)else none
theorem zfR{l r:List α}{lo:Int}(h:subL l lo=some r):lo=(lo.toNat:Int)/\lo.toNat<=l.length/\l.drop lo.toNat=r:=by
 unfold subL at h;by_cases hc:decide (0<=lo)&&decide (lo<=(l.length:Int))
 ·rw[hc]at h;simp only[aK,zD]at hc;simp only[zE,Option.some.injEq]at h;exact⟨by omega,by omega,h⟩
 ·simp only[eL]at hc;rw[hc]at h;cases h
def subH(l:List α)(hi:Int):Option (List α):=bif decide (0<=hi)&&decide (hi<=(l.length:Int))then some (l.take hi.toNat)else none
theorem zdP{l r:List α}{hi:Int}(h:subH l hi=some r):hi=(hi.toNat:Int)/\hi.toNat<=l.length/\l.take hi.toNat=r:=by
 unfold subH at h;by_cases hc:decide (0<=hi)&&decide (hi<=(l.length:Int))
 ·rw[hc]at h;simp only[aK,zD]at hc;simp only[zE,Option.some.injEq]at h;exact⟨by omega,by omega,h⟩
 ·simp only[eL]at hc;rw[hc]at h;cases h
theorem yiR{l:List α}{n:Nat}(h:n<=l.length):subL l (n:Int)=some (l.drop n):=by unfold subL;rw[show(decide (0<=(n:Int))&&decide ((n:Int)<=(l.length:Int)))=true by simp;omega];rfl
theorem zxB{l:List α}{n:Nat}(h:n<=l.length):subH l (n:Int)=some (l.take n):=by unfold subH;rw[show(decide (0<=(n:Int))&&decide ((n:Int)<=(l.length:Int)))=true by simp;omega];rfl
theorem xeX{l:List α}{n m:Nat}(h:n<=m)(h2:m<=l.length):sub3 l (n:Int) (m:Int)=some ((l.take m).drop n):=by unfold sub3;rw[show(decide (0<=(n:Int))&&decide ((n:Int)<=(m:Int))&&decide ((m:Int)<=(l.length:Int)))=true by simp;omega];rfl
def LIM:Nat:=68719476736
def app(a b:List α):Option (List α):=bif decide (a.length+b.length<=LIM)then some (a++b)else none
theorem zcQ{a b r:List α}(h:app a b=some r):a.length+b.length<=68719476736/\a++b=r:=by
 unfold app at h;by_cases hc:a.length+b.length<=LIM
 ·simp only[hc,decide_true,zE,Option.some.injEq]at h;exact⟨hc,h⟩
 ·simp only[hc,decide_false,zF]at h;cases h
theorem zhD{a b:List α}(h:a.length+b.length<=68719476736):app a b=some (a++b):=by have h':a.length+b.length<=LIM:=h;simp only[app,h',decide_true,zE]
def mkL(n:Int)(z:α):Option (List α):=bif decide (0<=n)&&decide (n<=(LIM:Int))then some (aO n.toNat z)else none
theorem yyP{n:Int}{z:α}{r:List α}(h:mkL n z=some r):0<=n/\n<=68719476736/\aO n.toNat z=r:=by
 unfold mkL at h;by_cases hc:decide (0<=n)&&decide (n<=(LIM:Int))
 ·rw[hc]at h;simp only[aK,zD]at hc;simp only[zE,Option.some.injEq]at h;exact⟨hc.1,hc.2,h⟩
 ·simp only[eL]at hc;rw[hc]at h;cases h
def setL(l:List α)(i:Int)(x:α):Option (List α):=bif decide (0<=i)&&decide (i<(l.length:Int))then some (l.set i.toNat x)else none
theorem zlB{l r:List α}{i:Int}{x:α}(h:setL l i x=some r):i=(i.toNat:Int)/\i.toNat<l.length/\l.set i.toNat x=r:=by
 unfold setL at h;by_cases hc:decide (0<=i)&&decide (i<(l.length:Int))
 ·rw[hc]at h;simp only[aK,zD]at hc;simp only[zE,Option.some.injEq]at h;exact⟨by omega,by omega,h⟩
 ·simp only[eL]at hc;rw[hc]at h;cases h
def chk(c:Bool):Option Unit:=bif c then some ()else none
theorem zcP{c:Bool}{u:Unit}(h:chk c=some u):c=true:=by cases c with
 |true=>rfl|false=>cases h
end
abbrev w64(x:Int):Int:=IntKind.i64.wrap x
def i8(x:Int):UInt8:=UInt8.ofNat (x%256).toNat
def i16(x:Int):UInt16:=UInt16.ofNat (x%65536).toNat
def i32(x:Int):UInt32:=UInt32.ofNat (x%4294967296).toNat
def i64(x:Int):UInt64:=UInt64.ofNat (x%18446744073709551616).toNat
theorem yhL(x:Int):IntKind.u8.wrap x=((i8 x).toNat:Int):=by
 have e:IntKind.u8.wrap x=x%256:=by simp[IntKind.wrap,IntKind.signed,IntKind.bits]
 rw[e];simp[i8];omega
theorem yyR(x:Int):IntKind.u16.wrap x=((i16 x).toNat:Int):=by
 have e:IntKind.u16.wrap x=x%65536:=by simp[IntKind.wrap,IntKind.signed,IntKind.bits]
 rw[e];simp[i16];omega
theorem zfW(x:Int):IntKind.u32.wrap x=((i32 x).toNat:Int):=by
 have e:IntKind.u32.wrap x=x%4294967296:=by simp[IntKind.wrap,IntKind.signed,IntKind.bits]
 rw[e];simp[i32];omega
theorem zdT(x:Int):IntKind.u64.wrap x=((i64 x).toNat:Int):=by
 have e:IntKind.u64.wrap x=x%18446744073709551616:=by simp[IntKind.wrap,IntKind.signed,IntKind.bits]
 rw[e];simp[i64];omega
theorem xfI{x:Int}(h:0<=x)(h2:x<256):((i8 x).toNat:Int)=x:=by simp[i8];omega
theorem ytA{x:Int}(h:0<=x)(h2:x<4294967296):((i32 x).toNat:Int)=x:=by simp[i32];omega
theorem ypT{x:Int}(h:0<=x)(h2:x<18446744073709551616):((i64 x).toNat:Int)=x:=by simp[i64];omega
theorem i8_nat(b:UInt8):i8 (b.toNat:Int)=b:=by apply UInt8.toNat.inj;have:=xfI (x:=(b.toNat:Int)) (by omega) (by have:=b.toNat_lt;omega);omega
theorem i8_rem(a:UInt8)(b:Int)(h:0<=b):eG (a.toNat:Int) b=((i8 (eG (a.toNat:Int) b)).toNat:Int):=by
 have h1:=a.toNat_lt;have h2:0<=eG (a.toNat:Int) b:=Int.tmod_nonneg _ (by omega);have h3:eG (a.toNat:Int) b<=(a.toNat:Int):=by obtain⟨n,rfl⟩:=Int.eq_ofNat_of_zero_le h;rw[<-Int.ofNat_tmod];have:=Nat.mod_le a.toNat n;omega
 rw[xfI h2 (by omega)]
theorem i8_and(a b:UInt8):bits .and .u8 (a.toNat:Int) (b.toNat:Int)=((a&&&b).toNat:Int):=andN rfl a.toNat_lt b.toNat_lt
theorem i8_or(a b:UInt8):bits .or .u8 (a.toNat:Int) (b.toNat:Int)=((a|||b).toNat:Int):=orN rfl a.toNat_lt b.toNat_lt
theorem ykQ(a b:UInt8):bits .xor .u8 (a.toNat:Int) (b.toNat:Int)=((a^^^b).toNat:Int):=xorN rfl a.toNat_lt b.toNat_lt
theorem ztU(a b:UInt32):bits .and .u32 (a.toNat:Int) (b.toNat:Int)=((a&&&b).toNat:Int):=andN rfl a.toNat_lt b.toNat_lt
theorem xcF(a b:UInt32):bits .or .u32 (a.toNat:Int) (b.toNat:Int)=((a|||b).toNat:Int):=orN rfl a.toNat_lt b.toNat_lt
theorem zjC(a b:UInt32):bits .xor .u32 (a.toNat:Int) (b.toNat:Int)=((a^^^b).toNat:Int):=xorN rfl a.toNat_lt b.toNat_lt
theorem zwU(a b:UInt64):bits .and .u64 (a.toNat:Int) (b.toNat:Int)=((a&&&b).toNat:Int):=andN rfl a.toNat_lt b.toNat_lt
theorem xbG(a b:UInt64):bits .or .u64 (a.toNat:Int) (b.toNat:Int)=((a|||b).toNat:Int):=orN rfl a.toNat_lt b.toNat_lt
theorem xfD(a b:UInt64):bits .xor .u64 (a.toNat:Int) (b.toNat:Int)=((a^^^b).toNat:Int):=xorN rfl a.toNat_lt b.toNat_lt
theorem xdA(a:UInt8):w64 (a.toNat:Int)=(a.toNat:Int):=by have:=a.toNat_lt;exact wr64 (by omega) (by omega)
def shlI(k:IntKind)(a b:Int):Int:=k.wrap (a*2^(min b.toNat k.bits))
def shrI(k:IntKind)(a b:Int):Int:=a.fdiv (2^(min b.toNat k.bits))
theorem ycC{a:Nat}(k:Nat):(a:Int).fdiv (2^k)=((a/2^k:Nat):Int):=by rw[show((2:Int)^k)=((2^k:Nat):Int) by rw[Int.natCast_pow];rfl];exact(Int.ofNat_fdiv a (2^k)).symm
theorem i8_shr(a:UInt8)(b:Int):Int.fdiv (a.toNat:Int) (2^(min b.toNat IntKind.u8.bits))=((i8 (shrI .u8 (a.toNat:Int) b)).toNat:Int):=by have h1:=a.toNat_lt;unfold shrI;rw[ycC,xfI (iH _) (by have:=eW a.toNat (2^(min b.toNat IntKind.u8.bits));omega)]
theorem i8_shl(a:UInt8)(b:Int):IntKind.u8.wrap ((a.toNat:Int)*2^(min b.toNat IntKind.u8.bits))=((i8 (shlI .u8 (a.toNat:Int) b)).toNat:Int):=by have e:shlI .u8 (a.toNat:Int) b=IntKind.u8.wrap ((a.toNat:Int)*2^(min b.toNat IntKind.u8.bits)):=rfl;rw[<-e,e,yhL,i8_nat]
theorem ydE(a:UInt32)(b:Int):Int.fdiv (a.toNat:Int) (2^(min b.toNat IntKind.u32.bits))=((i32 (shrI .u32 (a.toNat:Int) b)).toNat:Int):=by have h1:=a.toNat_lt;unfold shrI;rw[ycC,ytA (iH _) (by have:=eW a.toNat (2^(min b.toNat IntKind.u32.bits));omega)]
theorem zsE(a:UInt64)(b:Int):Int.fdiv (a.toNat:Int) (2^(min b.toNat IntKind.u64.bits))=((i64 (shrI .u64 (a.toNat:Int) b)).toNat:Int):=by have h1:=a.toNat_lt;unfold shrI;rw[ycC,ypT (iH _) (by have:=eW a.toNat (2^(min b.toNat IntKind.u64.bits));omega)]
theorem i32_nat(b:UInt32):i32 (b.toNat:Int)=b:=by apply UInt32.toNat.inj;have:=ytA (x:=(b.toNat:Int)) (by omega) (by have:=b.toNat_lt;omega);omega
theorem i64_nat(b:UInt64):i64 (b.toNat:Int)=b:=by apply UInt64.toNat.inj;have:=ypT (x:=(b.toNat:Int)) (by omega) (by have:=b.toNat_lt;omega);omega
theorem ysJ(a:UInt32)(b:Int):IntKind.u32.wrap ((a.toNat:Int)*2^(min b.toNat IntKind.u32.bits))=((i32 (shlI .u32 (a.toNat:Int) b)).toNat:Int):=by have e:shlI .u32 (a.toNat:Int) b=IntKind.u32.wrap ((a.toNat:Int)*2^(min b.toNat IntKind.u32.bits)):=rfl;rw[<-e,e,zfW,i32_nat]
theorem yoW(a:UInt64)(b:Int):IntKind.u64.wrap ((a.toNat:Int)*2^(min b.toNat IntKind.u64.bits))=((i64 (shlI .u64 (a.toNat:Int) b)).toNat:Int):=by have e:shlI .u64 (a.toNat:Int) b=IntKind.u64.wrap ((a.toNat:Int)*2^(min b.toNat IntKind.u64.bits)):=rfl;rw[<-e,e,zdT,i64_nat]
theorem not_true{b:Bool}(h:b=true):(!b)=false:=by rw[h];rfl
theorem not_false{b:Bool}(h:b=false):(!b)=true:=by rw[h];rfl
class Rp (α:Type) where
 sz:Nat
 rep:Mem->LV->α->Prop
 len:∀{S c x},rep S c x->c.length=sz
 mono:∀{S T c x},rep S c x->Mem.le S T->rep T c x
 one:∀{S c x},rep S c x->∀v∈c,v.oneCell'=true
def RL{α:Type}[Rp α](S:Mem):LV->List α->Prop
 |cs,[]=>cs=[]|cs,x::xs=>∃c d,cs=c++d/\Rp.rep S c x/\RL S d xs
section
variable {α β:Type}[Rp α][Rp β]{S T:Mem}
theorem RL.mono:∀{xs:List α} {cs:LV},RL S cs xs->Mem.le S T->RL T cs xs
 |[],_,h,_=>h|_::_,_,⟨c,d,e,h1,h2⟩,hl=>⟨c,d,e,Rp.mono h1 hl,RL.mono h2 hl⟩
theorem RL.len:∀{xs:List α} {cs:LV},RL S cs xs->cs.length=xs.length*Rp.sz α
 |[],_,h=>by rw[show _=[]from h];simp
 |x::xs,_,⟨c,d,e,h1,h2⟩=>by rw[e,aE,Rp.len h1,RL.len h2,List.length_cons,bD];omega
theorem RL.one:∀{xs:List α} {cs:LV},RL S cs xs->∀v∈cs,v.oneCell'=true
 |[],_,h,v,hv=>by rw[show _=[]from h]at hv;cases hv
 |x::xs,_,⟨c,d,e,h1,h2⟩,v,hv=>by
  rw[e]at hv;rcases cI.1 hv with h|h
  ·exact Rp.one h1 v h
  ·exact RL.one h2 v h
theorem RL.nil:RL S [] ([]:List α):=rfl
theorem RL.cons{c d:LV}{x:α}{xs:List α}(h1:Rp.rep S c x)(h2:RL S d xs):RL S (c++d) (x::xs):=⟨c,d,rfl,h1,h2⟩
theorem RL.append:∀{xs:List α} {cs ds:LV} {ys:List α},RL S cs xs->RL S ds ys->RL S (cs++ds) (xs++ys)
 |[],cs,_,_,h,k=>by rw[show cs=[]from h];exact k
 |x::xs,_,ds,ys,⟨c,d,e,h1,h2⟩,k=>by rw[e,List.append_assoc];exact⟨c,d++ds,rfl,h1,RL.append h2 k⟩
theorem RL.get:∀{xs:List α} {cs:LV} {i:Nat} {x:α},RL S cs xs->xs[i]? = some x->Rp.rep S (piece cs (i*Rp.sz α) (Rp.sz α)) x
 |[],_,_,_,_,h=>by simp at h
 |y::xs,_,0,x,⟨c,d,e,h1,h2⟩,h=>by simp at h;subst h;rw[e,zaL,eI,dZ,<-Rp.len h1,List.take_left];exact h1
 |y::xs,_,i+1,x,⟨c,d,e,h1,h2⟩,h=>by have ih:=RL.get h2 (i:=i) (by simpa using h);rw[e,zaL,bD,cR,fH,<-Rp.len h1,<-eC,List.drop_left,Rp.len h1,<-zaL];exact ih
theorem RL.take:∀{xs:List α} {cs:LV} (n:Nat),RL S cs xs->RL S (cs.take (n*Rp.sz α)) (xs.take n)
 |[],cs,n,h=>by rw[show cs=[]from h];simp[RL]
 |x::xs,_,0,_=>by simp[RL]
 |x::xs,_,n+1,⟨c,d,e,h1,h2⟩=>by refine⟨c,d.take (n*Rp.sz α),?_,h1,RL.take n h2⟩;rw[e,bD,cR,fH,<-Rp.len h1,List.take_length_add_append]
theorem RL.drop:∀{xs:List α} {cs:LV} (n:Nat),RL S cs xs->RL S (cs.drop (n*Rp.sz α)) (xs.drop n)
 |[],cs,n,h=>by rw[show cs=[]from h];simp[RL]
 |x::xs,cs,0,h=>by simpa using h
 |x::xs,_,n+1,⟨c,d,e,h1,h2⟩=>by have ih:=RL.drop n h2;rw[e,bD,cR,fH,<-Rp.len h1,List.drop_length_add_append,Rp.len h1];exact ih
theorem RL.sub{xs:List α}{cs:LV}{lo hi:Nat}(h:RL S cs xs)(_h1:lo<=hi):RL S (piece cs (lo*Rp.sz α) ((hi-lo)*Rp.sz α)) ((xs.take hi).drop lo):=by have:=RL.drop lo (RL.take hi h);rw[iE]at this;rw[zaL,Nat.sub_mul];exact this
theorem RL.set:∀{xs:List α} {cs c:LV} {i:Nat} {x:α},RL S cs xs->Rp.rep S c x->i<xs.length->RL S (lay cs (i*Rp.sz α) c) (xs.set i x)
 |[],_,_,_,_,_,_,h=>by simp at h
 |y::xs,_,c',0,x,⟨c,d,e,h1,h2⟩,hx,_=>by
  refine⟨c',d,?_,hx,h2⟩;have hl:c.length=c'.length:=by rw[Rp.len h1,Rp.len hx]
  rw[e,eI];apply aX;intro j;rw[zcY];by_cases hj:j<c'.length
  ·rw[zH (by simp;omega),aF hj];simp
  ·rw[zG (by omega),aH (by omega),aH (by omega),hl]
 |y::xs,_,c',i+1,x,⟨c,d,e,h1,h2⟩,hx,hi=>by
  refine⟨c,lay d (i*Rp.sz α) c',?_,h1,RL.set h2 hx (by simpa using hi)⟩;rw[e];apply aX;intro j;have hs:(i+1)*Rp.sz α=c.length+i*Rp.sz α:=by rw[bD,cR,Rp.len h1];omega
  rw[zcY,hs];by_cases hj:j<c.length
  ·rw[zG (by omega),aF hj,aF hj]
  ·rw[aH (by omega),aH (by omega),zcY,aE];by_cases hc:i*Rp.sz α<=j-c.length/\j-c.length<i*Rp.sz α+c'.length/\j-c.length<d.length
   ·rw[zH (by omega),zH hc];congr 1;omega
   ·rw[zG (by omega),zG hc]
theorem RL.replicate{c:LV}{x:α}(h:Rp.rep S c x):∀n,RL S (aO n c).flatten (aO n x)
 |0=>rfl|n+1=>⟨c,_,by simp[List.replicate_succ],h,RL.replicate h n⟩
def RdS{α:Type}[Rp α](S:Mem)(v:Value)(xs:List α):Prop:=∃cs,SlS S v xs.length (Rp.sz α) cs/\RL S cs xs
theorem RdS.mono{v:Value}{xs:List α}(h:RdS S v xs)(hl:Mem.le S T):RdS T v xs:=by obtain⟨cs,h1,h2⟩:=h;exact⟨cs,h1.mono hl,h2.mono hl⟩
theorem RdS.nil:RdS S (.slice none 0 0) ([]:List α):=⟨[],SlS.nil S _,rfl⟩
theorem RdS.sub{v:Value}{xs:List α}(h:RdS S v xs){lo hi:Nat}(h1:lo<=hi)(h2:hi<=xs.length):RdS S (subN v (Rp.sz α) lo hi) ((xs.take hi).drop lo):=by
 obtain⟨cs,k1,k2⟩:=h;refine⟨_,?_,k2.sub h1⟩;have hl:((xs.take hi).drop lo).length=hi-lo:=by simp;omega
 rw[hl];exact k1.sub h1 h2
theorem RdS.subLH{v:Value}{xs r:List α}{lo hi:Int}{sz:Nat}(h:RdS S v xs)(e:sub3 xs lo hi=some r)(hs:Rp.sz α=sz:=by rfl):RdS S (subN v sz lo.toNat hi.toNat) r:=by obtain⟨_,_,h1,h2,h3⟩:=zkU e;subst hs;rw[<-h3];exact h.sub h1 h2
theorem RdS.subL{v:Value}{xs r:List α}{lo:Int}{sz:Nat}(h:RdS S v xs)(e:Go.Proofs.YtmbcolbbekbccaaGreat.subL xs lo=some r)(hs:Rp.sz α=sz:=by rfl):RdS S (subN v sz lo.toNat xs.length) r:=by obtain⟨_,h1,h3⟩:=zfR e;subst hs;have:=h.sub h1 (aJ _);rw[List.take_length,h3]at this;exact this
theorem RdS.subH{v:Value}{xs r:List α}{hi:Int}{sz:Nat}(h:RdS S v xs)(e:Go.Proofs.YtmbcolbbekbccaaGreat.subH xs hi=some r)(hs:Rp.sz α=sz:=by rfl):RdS S (subN v sz 0 hi.toNat) r:=by obtain⟨_,h1,h3⟩:=zdP e;subst hs;have:=h.sub (Nat.zero_le _) h1;rw[dZ,h3]at this;exact this
theorem yoD{cs c:LV}{xs r:List α}{i:Int}{x:α}{sz:Nat}(h:RL S cs xs)(hx:Rp.rep S c x)(e:setL xs i x=some r)(hs:Rp.sz α=sz:=by rfl):RL S (lay cs (i.toNat*sz) c) r:=by obtain⟨_,h1,h2⟩:=zlB e;subst hs;rw[<-h2];exact h.set hx h1
theorem RdS.get{v:Value}{xs:List α}{i:Nat}{x:α}(h:RdS S v xs)(hx:xs[i]? = some x):∃b o n c cs,v=sl b o n c/\i<n/\CellAt S b (o+i*Rp.sz α) cs/\Rp.rep S cs x:=by obtain⟨ds,k1,k2⟩:=h;have hi:=(aC.1 hx).1;obtain⟨b,o,c,e,hc⟩:=k1.at hi;exact⟨b,o,_,c,_,e,hi,hc,k2.get hx⟩
theorem RdS.oneCell{v:Value}{xs:List α}(h:RdS S v xs):v.oneCell'=true:=by obtain⟨cs,k1,_⟩:=h;rcases k1 with⟨⟨_,rfl⟩,_⟩|⟨b,o,c,ds,T,fz,rfl,_⟩<;>rfl
theorem RdS.cells{v:Value}{xs:List α}(h:RdS S v xs):v.cells.toList=[v]:=by obtain⟨cs,k1,_⟩:=h;rcases k1 with⟨⟨_,rfl⟩,_⟩|⟨b,o,c,ds,T,fz,rfl,_⟩<;>rfl
end
section
variable {α β:Type}[Rp α][Rp β]{S:Mem}
instance (priority:=low) instRpList:Rp (List α) where
 sz:=1
 rep S c xs:=∃v,c=[v]/\RdS S v xs
 len:=fun⟨_,e,_⟩=>by rw[e];rfl
 mono:=fun⟨v,e,h⟩ hl=>⟨v,e,h.mono hl⟩
 one:=fun⟨v,e,h⟩ u hu=>by rw[e,aW]at hu;rw[hu];exact h.oneCell
instance yuR:Rp Bs where
 sz:=1
 rep _ c x:=c=[str x]
 len:=fun e=>by rw[e];rfl
 mono:=fun e _=>e
 one:=fun e u hu=>by rw[e,aW]at hu;rw[hu];rfl
instance instRpInt:Rp Int where
 sz:=1
 rep _ c x:=c=[.int .i64 x]
 len:=fun e=>by rw[e];rfl
 mono:=fun e _=>e
 one:=fun e u hu=>by rw[e,aW]at hu;rw[hu];rfl
instance instRpU8:Rp UInt8 where
 sz:=1
 rep _ c x:=c=[.int .u8 (x.toNat:Int)]
 len:=fun e=>by rw[e];rfl
 mono:=fun e _=>e
 one:=fun e u hu=>by rw[e,aW]at hu;rw[hu];rfl
instance instRpU32:Rp UInt32 where
 sz:=1
 rep _ c x:=c=[.int .u32 (x.toNat:Int)]
 len:=fun e=>by rw[e];rfl
 mono:=fun e _=>e
 one:=fun e u hu=>by rw[e,aW]at hu;rw[hu];rfl
instance instRpU64:Rp UInt64 where
 sz:=1
 rep _ c x:=c=[.int .u64 (x.toNat:Int)]
 len:=fun e=>by rw[e];rfl
 mono:=fun e _=>e
 one:=fun e u hu=>by rw[e,aW]at hu;rw[hu];rfl
instance ymD:Rp Bool where
 sz:=1
 rep _ c x:=c=[.bool x]
 len:=fun e=>by rw[e];rfl
 mono:=fun e _=>e
 one:=fun e u hu=>by rw[e,aW]at hu;rw[hu];rfl
instance ynF:Rp Unit where
 sz:=0
 rep _ c _:=c=[]
 len:=fun e=>by rw[e];rfl
 mono:=fun e _=>e
 one:=fun e u hu=>by rw[e]at hu;cases hu
instance ymN:Rp (α×β) where
 sz:=Rp.sz α+Rp.sz β
 rep S c x:=∃c1 c2,c=c1++c2/\Rp.rep S c1 x.1/\Rp.rep S c2 x.2
 len:=fun⟨c1,c2,e,h1,h2⟩=>by rw[e,aE,Rp.len h1,Rp.len h2]
 mono:=fun⟨c1,c2,e,h1,h2⟩ hl=>⟨c1,c2,e,Rp.mono h1 hl,Rp.mono h2 hl⟩
 one:=fun⟨c1,c2,e,h1,h2⟩ u hu=>by
  rw[e]at hu;rcases cI.1 hu with h|h
  ·exact Rp.one h1 u h
  ·exact Rp.one h2 u h
theorem rpU8{x:UInt8}:Rp.rep S [.int .u8 (x.toNat:Int)] x:=rfl
theorem ywE{x:UInt8}{c:LV}(h:c=[.int .u8 (x.toNat:Int)]):Rp.rep S c x:=h
theorem xaL{x:UInt64}:Rp.rep S [.int .u64 (x.toNat:Int)] x:=rfl
theorem rpB{x:Bool}:Rp.rep S [.bool x] x:=rfl
theorem rpT{x:Bs}:Rp.rep S [str x] x:=rfl
theorem rpP{c1 c2:LV}{x:α}{y:β}(h1:Rp.rep S c1 x)(h2:Rp.rep S c2 y):Rp.rep S (c1++c2) (x,y):=⟨c1,c2,rfl,h1,h2⟩
theorem rpL{v:Value}{xs:List α}(h:RdS S v xs):Rp.rep (α:=List α) (self:=instRpList) S [v] xs:=⟨v,rfl,h⟩
theorem elU8{c:LV}{x:UInt8}(h:Rp.rep S c x):c=[.int .u8 (x.toNat:Int)]:=h
theorem xaE{c:LV}{x:UInt64}(h:Rp.rep S c x):c=[.int .u64 (x.toNat:Int)]:=h
theorem elB{c:LV}{x:Bool}(h:Rp.rep S c x):c=[.bool x]:=h
theorem elT{c:LV}{x:Bs}(h:Rp.rep S c x):c=[str x]:=h
theorem elP{c:LV}{x:α×β}(h:Rp.rep S c x):∃c1 c2,c=c1++c2/\Rp.rep S c1 x.1/\Rp.rep S c2 x.2:=h
theorem elL{c:LV}{xs:List α}(h:Rp.rep (α:=List α) (self:=instRpList) S c xs):∃v,c=[v]/\RdS S v xs:=h
theorem RL.is_u8s:∀{xs:Bs} {cs:LV},RL S cs xs->cs=u8s xs
 |[],_,h=>h|x::xs,_,⟨c,d,e,h1,h2⟩=>by rw[e,elU8 h1,RL.is_u8s h2];rfl
theorem RL.of_u8s:∀(xs:Bs),RL S (u8s xs) xs
 |[]=>rfl|x::xs=>⟨_,_,rfl,rpU8,RL.of_u8s xs⟩
end
end
section
variable {P:Program}{ops:Array Oper}{Q:Exit->Act->World->Prop}{rest:List Oper}{n:Nat}{m:FM}{w:World}{d:Nat}{ty:TypeId}{pos:String}{aft:Array Edge}{x:Operand}{nh:Nat}{Φ:zfD}{W:World}{vs:Nat->Gv}{Fin:Act->Prop}{i:Nat}
theorem mvT{l:Bs}(hx:evO n m x=str l)(hr:wpList P ops Q rest (fr n ((d,str l)::m)) w):wpList P ops Q (⟨some d,.move x,ty,pos,aft,none⟩::rest) (fr n m) w:=p_mv hx hr
theorem asT{l:Bs}(hx:evO n m x=str l)(hr:wpList P ops Q rest (fr n ((d,str l)::m)) w):wpList P ops Q (⟨some d,.assign x,ty,pos,aft,none⟩::rest) (fr n m) w:=p_as hx hr
theorem hsn{B:Bas}{S:Mem}{w:World}{L L':List Res}(H:HS B S w L)(e:L=L':=by ((try dsimp only[stR,rmR,selR,lkR])<;>exact rfl)):HS B S w L':=e▸H
theorem zhT{α:Type}{P:Program}{Q:Exit->Act->World->Prop}{n:Nat}{m:FM}{w:World}{c:Operand}{x y:Code}{t:Bool}{a b r:α}(h:(bif t then a else b)=r)(hc:evO n m c = .bool t)(ht:a=r->t=true->x.wp P Q (fr n m) w)(hf:b=r->t=false->y.wp P Q (fr n m) w):(Code.cond c x y).wp P Q (fr n m) w:=
 zcF hc (fun e=>ht (zjY h e) e) fun e=>hf (zkD h e) e
theorem bn{α β:Type}{o:Option α}{f:α->Option β}{r:β}{G:Prop}(h:o.bind f=some r)(k:∀x,o=some x->f x=some r->G):G:=by obtain⟨x,h1,h2⟩:=bnd h;exact k x h1 h2
theorem HS.xe{B:Bas}{S:Mem}{w:World}{L:List Res}{v:Value}{Ψ:Ending->World->Prop}(H:HS B S w L)(k:∀w',HS B S w' L->Ψ (.returned v) w'):∀e w',(e = .returned v/\Ext w w')->Ψ e w':=by rintro _ w' ⟨rfl,hx⟩;exact k w' (H.ext hx)
theorem HS.yv{α:Type}[Rp α]{B:Bas}{S:Mem}{w:World}{L:List Res}{x:α}{Ψ:Ending->World->Prop}(H:HS B S w L)(k:∀w' v S',Mem.le S S'->HS B S' w' L->Rp.rep S' [v] x->Ψ (.returned v) w'):∀e w',(Ext w w'/\∃v,e = .returned v/\Rp.rep (Go.Proofs.YtmbcolbbekbccaaGreat.gr S w w') [v] x)->Ψ e w':=by rintro _ w' ⟨hx,v,rfl,g⟩;exact k w' v _ (yiC H.sub) (H.call hx) g
end
end Go.Proofs.YtmbcolbbekbccaaGreat
