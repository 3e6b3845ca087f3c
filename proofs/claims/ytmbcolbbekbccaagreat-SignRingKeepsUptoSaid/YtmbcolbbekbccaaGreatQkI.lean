/- Parts of one proof. Conditions: as each theorem says. -/
import Derived.Test.YtmbcolbbekbccaaGreatQkH
open Array renaming getElem?_eq_getElem->cP,getElem?_eq_some_iff->bF
open Bool renaming and_eq_true->aK,not_eq_true'->cL,not_true->dM,or_eq_true->cJ,true_and->dK
open List renaming all_eq_true->bH,contains_eq_mem->bW,eq_nil_iff_forall_not_mem->fK,flatMap_cons->jI,length_append->aE,map_cons->bS,mem_cons->aT,mem_cons_of_mem->aS,mem_cons_self->bC,mem_filter->dA,mem_map->eH,mem_range->bU,range->bR
open Nat renaming add_comm->fH,add_mod->eS,add_mul->bD,add_zero->cQ,beq->aG,div_add_mod->dQ,eq_of_beq_eq_true->aB,le_of_lt->cW,le_refl->aJ,lt_trans->bQ,mod_eq_of_lt->aP,mod_lt->aZ,mul_add->dC,mul_assoc->dD,mul_comm->cA,mul_mod->cS,mul_one->bY,ne_of_beq_eq_false->iT,one_mul->cR,pow_succ->cK,pow_zero->eP,zero_add->aQ
open Option renaming bind->aA
namespace Go.Proofs.YtmbcolbbekbccaaGreat
open Go Go.RowKit
section
def force{α:Type}(n:Nat)(k:Nat->α):α:=Nat.rec (k 0) (fun m _=>k (m+1)) n
theorem force_eq{α:Type}(n:Nat)(k:Nat->α):force n k=k n:=by cases n<;>rfl
def stT{α:Type}(t:Tr)(k:Tr->α):α:=force t.1 fun a=>force t.2.1 fun b=>force t.2.2 fun c=>k (a,b,c)
theorem ydJ{α:Type}(t:Tr)(k:Tr->α):stT t k=k t:=by unfold stT;rw[force_eq,force_eq,force_eq]
def jgo(g:Tr)(e:Nat):Nat->Tr->Tr
 |0,t=>t|f+1,t=>stT (jtw t) fun s=>bif aG (e/2^f%2) 1 then stT (jad s g) (jgo g e f)else jgo g e f s
theorem yqN(e f m:Nat):2^f*(m+m+e/2^f%2)+e%2^f=2^(f+1)*m+e%2^(f+1):=by rw[Nat.mod_pow_succ,dC,cK,dD,Nat.two_mul,Nat.add_assoc];congr 1;exact fH _ _
theorem yuD{g:Tr}{P:Pt}{e:Nat}(hg:Rep g P)(hP:onP P)(zg:ZL g):∀(f:Nat) (t:Tr) (m:Nat),Rep t (smul m P)->ZL t->Rep (jgo g e f t) (smul (2^f*m+e%2^f) P)
 |0,t,m,h,_=>by
  have:2^0*m+e%2^0=m:=by rw[eP,cR,Nat.mod_one,cQ]
  rw[this];exact h
 |f+1,t,m,h,z=>by
  have h2:=yrP h (zjR hP _);rw[<-zfK hP]at h2;rw[jgo,ydJ,<-yqN];cases hb:aG (e/2^f%2) 1
  ·have h0:e/2^f%2=0:=by have:=iT hb;omega
   rw[h0,cQ];exact yuD hg hP zg f _ _ h2 (ygD _)
  ·have h1:e/2^f%2=1:=aB hb;rw[h1];show Rep (stT (jad (jtw t) g) (jgo g e f)) _;rw[ydJ];exact yuD hg hP zg f _ _ (ygU h2 hg (zjR hP _) hP (ygD _) zg) (ZL_jad (ygD _) zg)
def PG:Pt:=ofA GG
theorem zqX:onP PG:=zpF xbA
theorem PG_ne:PG≠none:=fun h=>by cases h
theorem go_NG:(aG (jgo (GX,GY,1) (modN 1) 256 (0,0,0)).2.2 0)=true:=by kernel_rfl
theorem rep_G:Rep (GX,GY,1) PG:=ylU (p:=GG)
theorem ZL_G:ZL (GX,GY,1):=yjF (x:=GX) (y:=GY) (i:=false)
theorem rep_0(P:Pt):Rep (0,0,0) (smul 0 P):=cl_0
theorem yzW{t:Tr}{P:Pt}(h:Rep t P)(h0:t.2.2=0):P=none:=by
 match P with
 |none=>rfl|some (x,y)=>exact absurd (by rw[h0];exact cl_0) h.1
theorem rep_go0{g:Tr}{P:Pt}{e f:Nat}(hg:Rep g P)(hP:onP P)(zg:ZL g)(he:e<2^f):Rep (jgo g e f (0,0,0)) (smul e P):=by have h:=yuD (e:=e) hg hP zg f (0,0,0) 0 (rep_0 _) ZL_0;rw[Nat.mul_zero,aQ,aP he]at h;exact h
attribute [local irreducible] jgo
theorem go_0{g:Tr}{P:Pt}{e f:Nat}(hg:Rep g P)(hP:onP P)(zg:ZL g)(he:e<2^f)(h:aG (jgo g e f (0,0,0)).2.2 0=true):smul e P=none:=
 yzW (rep_go0 hg hP zg he) (aB h)
theorem N_lt:modN 1<2^256:=(zaV 1).lt
theorem ygL:smul (modN 1) PG=none:=by
 refine go_0 (g:=(GX,GY,1)) (f:=256) ?_ ?_ ?_ ?_ ?_
 ·exact rep_G
 ·exact zqX
 ·exact ZL_G
 ·exact N_lt
 ·exact go_NG
theorem yoT{k:Nat}(h0:0<k)(hk:k<modN 1):smul k PG≠none:=fun h=>by
 have hi:=ybA (m:=1) (A:=k) (by rw[aP hk];omega);have e:=dQ (k*invV 1 k) (modN 1);rw[hi]at e;have h1:smul (k*invV 1 k) PG=none:=by rw[cA,znV zqX,h,zpL]
 rw[<-e,zfK zqX,cA,znV zqX,ygL,zpL,ytK]at h1;exact PG_ne h1
def q3(s t:Tr):Tr:=
 ((s.1*t.1+(PP-bb)*(s.2.1*t.2.2+s.2.2*t.2.1))%PP,
  (s.1*t.2.1+s.2.1*t.1+3*(s.2.1*t.2.2+s.2.2*t.2.1)+(PP-bb)*(s.2.2*t.2.2))%PP,
  (s.1*t.2.2+s.2.1*t.2.1+s.2.2*t.1+3*(s.2.2*t.2.2))%PP)
def evq(s:Tr)(x:Fp):Fp:=cl s.1+cl s.2.1*x+cl s.2.2*(x*x)
theorem bb_le:bb<=PP:=by decide
theorem q3_id(a0 a1 a2 b0 b1 b2 x b:Fp)(hx:x*(x*x)-3*x+b=0):(a0*b0 + -b*(a1*b2+a2*b1))+(a0*b1+a1*b0+3*(a1*b2+a2*b1) + -b*(a2*b2))*x+(a0*b2+a1*b1+a2*b0+3*(a2*b2))*(x*x) = (a0+a1*x+a2*(x*x))*(b0+b1*x+b2*(x*x)):=by grobner
theorem q3_ev{x:Fp}(hx:x*(x*x)-3*x+fb=0)(s t:Tr):evq (q3 s t) x=evq s x*evq t x:=by unfold evq q3;simp only[zyT,yfM,zyB,yeX bb_le,cl_3];exact q3_id _ _ _ _ _ _ _ _ hx
def qgo(e:Nat):Nat->Tr->Tr
 |0,t=>t|f+1,t=>stT (q3 t t) fun s=>bif aG (e/2^f%2) 1 then stT (q3 s (0,1,0)) (qgo e f)else qgo e f s
theorem ev_X(x:Fp):evq (0,1,0) x=x:=by show cl 0+cl 1*x+cl 0*(x*x)=x;rw[cl_0,cl_1];grobner
theorem lin_a(a x:Fp):a+0*x+0*(x*x)=a:=by grobner
theorem ev_1(x:Fp):evq (1,0,0) x=1:=by show cl 1+cl 0*x+cl 0*(x*x)=1;rw[cl_0,cl_1];exact lin_a _ _
theorem ev_go{x:Fp}{e:Nat}(hx:x*(x*x)-3*x+fb=0):∀(f:Nat) (t:Tr) (m:Nat),evq t x=cl (x.val^m)->evq (qgo e f t) x=cl (x.val^(2^f*m+e%2^f))
 |0,t,m,h=>by
  have:2^0*m+e%2^0=m:=by rw[eP,cR,Nat.mod_one,cQ]
  rw[this];exact h
 |f+1,t,m,h=>by
  have h2:evq (q3 t t) x=cl (x.val^(m+m)):=by rw[q3_ev hx,h,Nat.pow_add,zyB]
  rw[qgo,ydJ,<-yqN];cases hb:aG (e/2^f%2) 1
  ·have h0:e/2^f%2=0:=by have:=iT hb;omega
   rw[h0,cQ];exact ev_go hx f _ _ h2
  ·have h1:e/2^f%2=1:=aB hb;rw[h1];show evq (stT (q3 (q3 t t) (0,1,0)) (qgo e f)) x=_;rw[ydJ];refine ev_go hx f _ _ ?_;rw[q3_ev hx,h2,ev_X,cK,zyB,ycY]
def qU:Tr:=(76626890310466861426869089647039036757962535851890885406097439786770458211455,74462945259064871768191128030512052509059297803194871526163573358218695456204,34768139465301476436978405170953382516735956999154666452188405812258086013549)
def qR:Tr:=qgo PP 256 (1,0,0)
def qG:Tr:=(qR.1,qR.2.1+(PP-1),qR.2.2)
def teq(a b:Tr):Bool:=aG a.1 b.1&&aG a.2.1 b.2.1&&aG a.2.2 b.2.2
theorem teq_eq{a b:Tr}(h:teq a b=true):a=b:=by unfold teq at h;simp only[aK]at h;exact Prod.ext (aB h.1.1) (Prod.ext (aB h.1.2) (aB h.2))
theorem qU_1:teq (stT qR fun r=>q3 qU (r.1,r.2.1+(PP-1),r.2.2)) (1,0,0)=true:=by kernel_rfl
theorem qU_G:q3 qU qG=(1,0,0):=by have h:=teq_eq qU_1;rw[ydJ]at h;exact h
theorem ytN:1<=PP:=by decide
theorem ev_lin(a b c x:Fp)(h:a+b*x+c*(x*x)=x):a+(b + -1)*x+c*(x*x)=0:=by grobner
theorem ev_sub{r:Tr}{x:Fp}(e:evq r x=x):evq (r.1,r.2.1+(PP-1),r.2.2) x=0:=by unfold evq at e;show cl r.1+cl (r.2.1+(PP-1))*x+cl r.2.2*(x*x)=0;rw[yfM,yeX ytN,cl_1];exact ev_lin _ _ _ _ e
theorem ev_P{x:Fp}{e f:Nat}(hx:x*(x*x)-3*x+fb=0)(he:e<2^f):evq (qgo e f (1,0,0)) x=cl (x.val^e):=by have h:=ev_go (e:=e) hx f (1,0,0) 0 (by rw[ev_1,eP,cl_1]);rw[Nat.mul_zero,aQ,aP he]at h;exact h
attribute [local irreducible] qgo
theorem no_root{x:Fp}(hx:x*(x*x)-3*x+fb=0):False:=by
 have h1:cl (x.val^PP)=x:=by have:cl (x.val^PP)=cl x.val:=ygA.2 (ymA.fermat _);rw[this,ycY]
 have h:evq qR x=x:=(ev_P (f:=256) hx zyJ).trans h1;have h2:evq qG x=0:=ev_sub h;have h3:=q3_ev hx qU qG;rw[qU_G,h2,ev_1,mul_0']at h3;exact xbI h3
theorem on_0{x:Fp}(h:onE x 0):x*(x*x)-3*x+fb=0:=by unfold onE at h;grobner
theorem yyG{P:Pt}(h:onP P)(h2:aadd P P=none):P=none:=by
 match P with
 |none=>rfl|some (x,y)=>
  rw[zeB]at h2;by_cases hy:y = - y
  ·have hon:onE x y:=h;rw[dbl0 hy]at hon;exact(no_root (on_0 hon)).elim
  ·rw[zG fun e=>hy e.2]at h2;cases h2
theorem xaW:∀(m:Nat) (f:Nat->Nat),(∀i,i<m+1->f i<m)->∃i j,i<j/\j<m+1/\f i=f j
 |0,f,h=>absurd (h 0 (by omega)) (by omega)|m+1,f,h=>by
  by_cases hex:∃i,i<m+1/\f i=f (m+1)
  ·obtain⟨i,hi,he⟩:=hex;exact⟨i,m+1,hi,by omega,he⟩
  have hne:∀i,i<m+1->f i≠f (m+1):=fun i hi he=>hex ⟨i,hi,he⟩
  obtain⟨i,j,hij,hj,he⟩:=xaW m (fun i=>if f i=m then f (m+1)else f i) (fun i hi=>by
   have h1:=h i (by omega);have h2:=h (m+1) (by omega);have h3:=hne i hi
   split<;>omega)
  have hi':=hne i (by omega);have hj':=hne j hj;refine⟨i,j,hij,by omega,?_⟩;split at he<;>split at he<;>omega
def code:Pt->Nat
 |none=>2*PP|some (x,y)=>2*x.val+y.val%2
theorem xeE(P:Pt):code P<2*PP+1:=by
 match P with
 |none=>show 2*PP<_;omega
 |some (x,y)=>show 2*x.val+y.val%2<_;have:=x.isLt;omega
theorem xeC{y:Fp}(h:y≠0):(-y).val=PP-y.val:=by
 have hy:y.val≠0:=fun e=>h (Fin.ext e);have h1:- y=cl (PP-y.val):=by rw[yeX (cW y.isLt),ycY]
 rw[h1,zoK,aP];have:=y.isLt;omega
theorem PP_odd:PP%2=1:=by decide
theorem code_inj{P Q:Pt}(hP:onP P)(hQ:onP Q)(h:code P=code Q):P=Q:=by
 match P,Q with
 |none,none=>rfl|none,some (x,y)=>have h:2*PP=2*x.val+y.val%2:=h;have:=x.isLt;omega|some (x,y),none=>have h:2*x.val+y.val%2=2*PP:=h;have:=x.isLt;omega|some (x,y),some (u,v)=>
  have h:2*x.val+y.val%2=2*u.val+v.val%2:=h;have hx:x=u:=Fin.ext (by omega);rcases ykL (y1:=y) (y2:=v) hP hQ hx with e|e
  ·rw[hx,e]
  ·by_cases hv:v=0
   ·rw[hx,e,hv,neg_0]
   ·have h1:=xeC hv;rw[<-e]at h1;have:=v.isLt;have:=PP_odd;omega
theorem ydF{P Q R:Pt}(hP:onP P)(hQ:onP Q)(hR:onP R)(h:aadd P Q=aadd P R):Q=R:=by rw[<-ycK hP hQ,h,ycK hP hR]
theorem N_big:2*PP+2<=3*modN 1:=by decide
theorem N_odd:modN 1%2=1:=by decide
theorem ycA(c:Nat):smul (modN 1*c) PG=none:=by rw[cA,znV zqX,ygL,zpL]
theorem half_c(N c:Nat)(h:N%2=1)(hN:0<N):∃d e,d+d=c+N*c/\d+e=N*(d+1):=by
 have hM:(N+1)/2+(N+1)/2=N+1:=by omega
 generalize (N+1)/2=M at hM;refine⟨c*M,N*(c*M+1)-c*M,?_,?_⟩
 ·rw[<-dC,hM,dC,bY,fH,cA]
 ·generalize c*M=d;have:d<=N*(d+1):=Nat.le_trans (Nat.le_succ d) (Nat.le_mul_of_pos_left _ hN);omega
theorem yxW(N c d e:Nat)(hd:d+d=c+N*c)(he:d+e=N*(d+1)):c+(e+e)+N*c=N*(d+1+(d+1)):=by rw[dC];omega
theorem cyc2{Q:Pt}(hQ:onP Q){c:Nat}(h:aadd Q Q=smul c PG):∃d,Q=smul d PG:=by
 obtain⟨d,e,hd,he⟩:=half_c (modN 1) c N_odd (zgU 1);have oe:=zjR zqX e;have od:=zjR zqX d;have hD:aadd (aadd Q (smul e PG)) (aadd Q (smul e PG))=none:=by
  rw[zuX hQ oe (zuV hQ oe),<-zuX oe hQ oe,zsN oe hQ,zuX hQ oe oe,<-zuX hQ hQ (zuV oe oe),h,<-zfK zqX,<-zfK zqX];have e1:=yxW (modN 1) c d e hd he;have h2:smul (c+(e+e)+modN 1*c) PG=none:=by rw[e1,ycA]
  rw[zfK zqX,ycA,zdW]at h2;exact h2
 have h0:=yyG (zuV hQ oe) hD;refine⟨d,?_⟩;have h1:aadd (aadd Q (smul e PG)) (smul d PG)=smul d PG:=by rw[h0,zeZ]
 rw[zuX hQ oe od,<-zfK zqX,fH e d,he,ycA,zdW]at h1;exact h1
theorem cyc{Q:Pt}(hQ:onP Q):∃c,Q=smul c PG:=by
 have hN:=zgU 1;obtain⟨i,j,hij,hj,he⟩:=xaW (2*PP+1) (fun i=>code (aadd (smul (i/modN 1) Q) (smul (i%modN 1) PG))) (fun i _=>xeE _);have hj3:j<3*modN 1:=Nat.lt_of_lt_of_le hj N_big;have og:=fun k=>zjR zqX k;have oq:=fun k=>zjR hQ k;have h:=code_inj (zuV (oq _) (og _)) (zuV (oq _) (og _)) he;have hr:=aZ i hN;have hs:=aZ j hN;have ei:=dQ i (modN 1);have ej:=dQ j (modN 1);have hab:i/modN 1<=j/modN 1:=Nat.div_le_div_right (cW hij);have hb:j/modN 1<3:=(Nat.div_lt_iff_lt_mul hN).2 hj3;generalize i/modN 1=a at *;generalize j/modN 1=b at *;generalize i%modN 1=r at *;generalize j%modN 1=s at *;by_cases hEq:a=b
 ·subst hEq;have h1:=ydF (oq a) (og r) (og s) h;have hrs:r<s:=by omega
  have e:s=r+(s-r):=by omega
  rw[e,zfK zqX]at h1;have h2:=ydF (og r) (og (s-r)) (show onP none from trivial) (by rw[<-h1,zdW]);exact absurd h2 (yoT (by omega) (by omega))
 ·have e:b=a+(b-a):=by omega
  rw[e,zfK hQ,zuX (oq a) (oq _) (og s)]at h;have h1:=ydF (oq a) (og r) (zuV (oq _) (og s)) h;have h2:smul (r+(modN 1-s)) PG=smul (b-a) Q:=by rw[zfK zqX,h1,zuX (oq _) (og s) (og _),<-zfK zqX,show s+(modN 1-s)=modN 1 by omega,ygL,zdW]
  have hd:b-a=1∨b-a=2:=by omega
  rcases hd with hd|hd
  ·rw[hd,ytK]at h2;exact⟨_,h2.symm⟩
  ·rw[hd]at h2;refine cyc2 hQ (c:=r+(modN 1-s)) ?_;rw[h2];show _=aadd (smul 1 Q) Q;rw[ytK]
theorem smul_N{Q:Pt}(hQ:onP Q):smul (modN 1) Q=none:=by obtain⟨c,rfl⟩:=cyc hQ;rw[<-znV zqX,ycA]
theorem ykD{Q:Pt}(hQ:onP Q)(k:Nat):smul (k%modN 1) Q=smul k Q:=by
 have e:=dQ k (modN 1);have h:smul (modN 1*(k/modN 1)+k%modN 1) Q=smul (k%modN 1) Q:=by rw[zfK hQ,cA,znV hQ,smul_N hQ,zpL,zeZ]
 rw[<-h,e]
theorem yjC{p:Ap}(hp:onT p=true)(a b:Nat):cadd (cmul a p) (cmul b p)=cmul ((a+b)%modN 1) p:=by rw[ylF (zuC hp a) (zuC hp b),zkF hp,zkF hp,zkF hp,zyW,zyW,ykD (zpF hp),zfK (zpF hp)]
theorem yzH{p:Ap}(hp:onT p=true)(a b:Nat):cmul (a*b%modN 1) p=cmul a (cmul b p):=by rw[zkF (zuC hp b),zkF hp,zkF hp,zyW,ykD (zpF hp),znV (zpF hp)]
end
def nn:Nat:=modN 1
theorem yeG:0<nn:=zgU 1
def gx(k:Nat):Nat:=(cmul k GG).1
theorem md(a:Nat):a%nn%nn=a%nn:=Nat.mod_mod _ _
theorem mdm{a b c d:Nat}(h1:a%nn=b%nn)(h2:c%nn=d%nn):a*c%nn=b*d%nn:=by rw[cS,h1,h2,<-cS]
theorem mda{a b c d:Nat}(h1:a%nn=b%nn)(h2:c%nn=d%nn):(a+c)%nn=(b+d)%nn:=by rw[eS,h1,h2,<-eS]
def th(d k e:Nat):Nat:=(e+gx k%nn*d%nn)%nn*invV 1 k%nn
theorem th_k{d k e:Nat}(hk:k%nn≠0):th d k e*k%nn=(e+gx k%nn*d)%nn:=by have h1:k*invV 1 k%nn=1:=ybA (m:=1) hk;have h2:th d k e*k%nn=((e+gx k%nn*d)*invV 1 k)*k%nn:=mdm (by rw[th,md];exact mdm (by rw[md];exact mda rfl (md _)) rfl) rfl;rw[h2,dD,cA (invV 1 k),cS,h1,bY,md]
theorem vk{d e r i:Nat}:(e*i%nn+r*i%nn*d%nn)%nn=(e+r*d)*i%nn:=by
 have:(e+r*d)*i=e*i+r*i*d:=by rw[bD,dD r d i,cA d i,dD]
 rw[this];exact mda (md _) (by rw[md];exact mdm (md _) rfl)
theorem yeB:onT GG=true:=xbA
theorem yeS{d e r i:Nat}:cadd (cmul (e*i%nn) GG) (cmul (r*i%nn) (cmul d GG))=cmul ((e+r*d)*i%nn) GG:=by rw[<-yzH yeB,yjC yeB];exact congrArg (fun z=>cmul z GG) vk
theorem fits_pt{d k e:Nat}(hk:k<nn)(hk0:k%nn≠0)(ht:th d k e%nn≠0):
  cadd (cmul (e*invV 1 (th d k e)%nn) GG) (cmul (gx k%nn*invV 1 (th d k e)%nn) (cmul d GG))=cmul k GG:=by
 rw[yeS];have h1:th d k e*invV 1 (th d k e)%nn=1:=ybA (m:=1) ht;have h2:(e+gx k%nn*d)*invV 1 (th d k e)%nn=k:=by have:(e+gx k%nn*d)*invV 1 (th d k e)%nn=th d k e*k*invV 1 (th d k e)%nn:=mdm (th_k hk0).symm rfl;rw[this,Nat.mul_right_comm,cS,h1,cR,md,aP hk]
 rw[h2]
theorem aneg_of{P Q:Pt}(hP:onP P)(hQ:onP Q)(h:aadd P Q=none):Q=aneg P:=
 ydF hP hQ (xcP hP) (h.trans ywA.symm)
theorem opp_x{k m:Nat}(h:(k+m)%nn=0):cmul m GG=cneg (cmul k GG):=by
 have hk:=zuC yeB k;have hm:=zuC yeB m;have h0:cadd (cmul k GG) (cmul m GG)=(0,0,true):=by rw[yjC yeB,show(k+m)%modN 1=0 from h,zkF yeB];rfl
 rw[ylF hk hm]at h0;have h1:aadd (ofA (cmul k GG)) (ofA (cmul m GG))=none:=toA_inj (h0.trans rfl);rw[yxK hk,<-aneg_of (zpF hk) (zpF hm) h1,xdV hm]
theorem cneg_x{p:Ap}(hp:onT p=true):(cneg p).1=p.1/\(cneg p).2.2=p.2.2:=by unfold cneg;rw[hp];exact⟨rfl,rfl⟩
theorem xdT{d k e t':Nat}(hk0:k%nn≠0)(ht':t'%nn≠0)(hs:(th d k e+t')%nn=0):
  cadd (cmul (e*invV 1 t'%nn) GG) (cmul (gx k%nn*invV 1 t'%nn) (cmul d GG))=cneg (cmul k GG):=by
 rw[yeS];refine opp_x ?_;have h1:t'*invV 1 t'%nn=1:=ybA (m:=1) ht';have h2:(k+(e+gx k%nn*d)*invV 1 t'%nn)%nn=(k*(t'*invV 1 t')+th d k e*k*invV 1 t')%nn:=
  mda (by rw[cS,h1,bY,md]) (by rw[md];exact mdm (th_k hk0).symm rfl)
 rw[h2];have h3:k*(t'*invV 1 t')+th d k e*k*invV 1 t'=(th d k e+t')*(k*invV 1 t'):=by rw[bD,<-dD k,cA k t',dD t',fH,dD (th d k e)]
 rw[h3,cS,hs,Nat.zero_mul,Nat.zero_mod]
theorem yrC{k:Nat}(h0:0<k)(hk:k<nn):(cmul k GG).2.2=false:=by
 have h:=yoT h0 hk;rw[zkF yeB];cases e:smul k PG with
 |none=>exact absurd e h|some q=>rw[show ofA GG=PG from rfl,e];rfl
theorem yaJ:nn<zaC:=(zaV 1).2
theorem tvbeq{A B:Nat}(hA:A<zaC)(hB:B<zaC):(tv A==tv B)=(A==B):=by rw[xbH,zpJ hA,zpJ hB]
theorem yzE{A B:Nat}(hA:A<zaC)(hB:B<zaC):(tv A != tv B)=(A != B):=by rw[bne,tvbeq hA hB];rfl
theorem zkP(a:Nat):a%nn<zaC:=bQ (aZ _ yeG) yaJ
theorem yzT{a b:Nat}(ha:a<zaC)(hb:b<zaC):zfI 1 (tv a) (tv b)=some (tv ((a+b)%nn)):=by unfold zfI;rw[zpJ ha,zpJ hb];rfl
theorem yvD:zbQ=some (tv 0):=rfl
def zoR(a:Nat):Bool:=a != 0&&decide (a<nn)
theorem yiK{a:Nat}(ha:a<zaC):zfH (tv a)=some (zoR a):=by
 unfold zfH;rw[yvD,zaB,yzE ha zbY,zoR];cases h:a != 0 with
 |false=>rfl|true=>
  simp only[zE,zaB,dK];rw[yzT ha zbY,zaB,tvbeq (zkP _) ha,cQ];congr 1;by_cases hl:a<nn
  ·rw[aP hl,zA hl];simp
  ·rw[decide_eq_false hl,beq_eq_false_iff_ne];have:=aZ a yeG;omega
theorem zjL{a:Nat}:zoR a=true↔a≠0/\a<nn:=by simp[zoR]
theorem base_p:zhX=some (ptW GG):=rfl
theorem ynV{t:Ap}(h:AL t):apT (ptW t)=t:=xfF h.1 h.2
theorem yhS{k:Nat}(hk:k<zaC):zaZ (tv k)=some (ptW (cmul k GG)):=by unfold zaZ zhW;rw[base_p,zaB,zpJ hk,ynV ztT,zaB]
theorem xaK{a b:Nat}(ha:a<zaC)(hb:b<zaC):zfL 1 (tv a) (tv b)=some (tv (a*b%nn)):=by unfold zfL;rw[zpJ ha,zpJ hb];rfl
theorem inv_p{a:Nat}(ha:a<zaC):zjE 1 (tv a)=some (tv (invV 1 a),invE 1 a):=by unfold zjE;rw[zpJ ha]
theorem of_p{l:Bs}(h:l.length<=68719476736):zhZ 1 l=some (tv (ofV 1 l),ofE 1 l):=by unfold zhZ;rw[zkX (zA (by unfold LIM;exact h))];rfl
def eF(s:Bs):Nat:=bval (shaF s)%nn
theorem sum_p{s:Bs}(h:s.length<=68719470000):zkJ s=some (tv (eF s)):=by unfold zkJ zdC;rw[ycP h,zaB,zkX (zA (by rw[zvV];decide))];rfl
def verP(p:Ap)(e r t:Nat):Ap:=cadd (cmul (e*invV 1 t%nn) GG) (cmul (r*invV 1 t%nn) p)
def verB(p:Ap)(e:Nat)(a b:Bs):Bool:=(ofOK 1 a&&ofOK 1 b)&&(zoR (bval a)&&(zoR (bval b)&&(!(verP p e (bval a) (bval b)).2.2&&(verP p e (bval a) (bval b)).1%nn==bval a)))
theorem eF_lt(s:Bs):eF s<zaC:=zkP _
theorem ypV{p:Ap}(hp:AL p){s sig:Bs}(hs:s.length<=68719470000)(_hg:sig.length<=68719470000):
  zeN (ptW p) s sig=some (decide (sig.length=64)&&(!p.2.2&&(onT p&&verB p (eF s) (sig.take 32) (sig.drop 32)))):=by
 unfold zeN;by_cases h64:¬sig.length=64
 ·rw[zoI (by rw[bne_iff_ne];omega),zaB,decide_eq_false h64];rfl
 have h64:=Decidable.not_not.1 h64;rw[zpA (by rw[h64];rfl),zaB,zA h64,show(ptW p).2.2=p.2.2 from rfl];cases p22:p.2.2 with
 |true=>rfl|false=>
  simp only[zF,Bool.not_false,dK];rw[show zqE (ptW p)=some (onT p) by unfold zqE;rw[ynV hp],zaB,zaB];cases hon:onT p with
  |false=>rfl|true=>
   simp only[dM,zF,dK];rw[show(32:Int)=((32:Nat):Int)from rfl,zxB (by omega),zaB,of_p (by rw[List.length_take];omega),zaB,yiR (by omega),zaB,of_p (by rw[List.length_drop];omega),zaB];generalize sig.take 32=a;generalize sig.drop 32=b;unfold verB;have hE:∀l,(ofE 1 l != 0) = !ofOK 1 l:=fun l=>by unfold ofE;cases ofOK 1 l<;>rfl
   simp only[hE];cases ha:ofOK 1 a with
   |false=>rfl|true=>
    cases hb:ofOK 1 b with
    |false=>rfl|true=>
     have va:ofV 1 a=bval a:=by unfold ofV;rw[ha];rfl
     have vb:ofV 1 b=bval b:=by unfold ofV;rw[hb];rfl
     have la:bval a<nn:=by have:=yfX 1 a;rwa[va]at this
     have lb:bval b<nn:=by have:=yfX 1 b;rwa[vb]at this
     have ga:bval a<zaC:=bQ la yaJ;have gb:bval b<zaC:=bQ lb yaJ;simp only[dM,zF,va,vb,Bool.and_self,dK];rw[yiK ga,zaB,zaB];cases hfa:zoR (bval a) with
     |false=>rfl|true=>
      simp only[dM,zF,dK];rw[yiK gb,zaB,zaB];cases hfb:zoR (bval b) with
      |false=>rfl|true=>
       simp only[dM,zF,dK];have gi:invV 1 (bval b)<zaC:=zlW _ _;rw[inv_p gb,zaB,sum_p hs,zaB,xaK (eF_lt s) gi,zaB,yhS (zkP _),zaB,xaK ga gi,zaB];rw[show zhW (tv (bval a*invV 1 (bval b)%nn)) (ptW p)=some (ptW (cmul (bval a*invV 1 (bval b)%nn) p),cerr p) by unfold zhW;rw[zpJ (zkP _),ynV hp],zaB];rw[show znU (ptW (cmul (eF s*invV 1 (bval b)%nn) GG)) (ptW (cmul (bval a*invV 1 (bval b)%nn) p))=some (ptW (verP p (eF s) (bval a) (bval b)),ydD (cmul (eF s*invV 1 (bval b)%nn) GG) (cmul (bval a*invV 1 (bval b)%nn) p)) by unfold znU;rw[ynV (zgG _ _),ynV (zgG _ _)];rfl,zaB];have gv:AL (verP p (eF s) (bval a) (bval b)):=ziV _ _;generalize verP p (eF s) (bval a) (bval b)=V at gv ⊢;rw[show(ptW V).2.2=V.2.2 from rfl];cases V.2.2 with
       |true=>rfl|false=>simp only[Bool.not_false,zE,dK];rw[yvD,zaB,show(ptW V).1=tv V.1 from rfl,yzT gv.1 zbY,zaB,tvbeq (zkP _) ga,cQ]
theorem yoE{v k m:Bs}(hv:v.length<=1000000)(hk:k.length<=1000000)(hm:m.length<=1000000):zbP (v,k) m=some (macF (macF k (v++m)) v,macF k (v++m)):=by unfold zbP;rw[zhD (by show v.length+m.length<=_;omega),zaB,zrW (by show k.length<=_;omega) (by rw[aE];show v.length+m.length<=_;omega),zaB,zrW (by rw[zdB];decide) (by show v.length<=_;omega),zaB]
def ytX(x0 y2:Qw)(y13:Qw×Int):Option (Unit⊕(Bs×Int)):=aA (bif(y13.2==0)then(aA (zbQ) fun y14=>some (((y13.1:Qw) != (y14:Qw))))else(some (false))) (fun t3=>bif t3 then(aA (zaZ y13.1) fun y15=>aA (zbQ) fun y16=>aA (zfI 1 y15.1 y16) fun y17=>aA (zjE 1 y13.1) fun y18=>aA (zfL 1 y17 x0) fun y19=>aA (zfI 1 y2 y19) fun y20=>aA (zfL 1 y20 y18.1) fun y21=>aA (aA (zbQ) fun y22=>bif((y17:Qw) != (y22:Qw))then(aA (zbQ) fun y23=>some (((y21:Qw) != (y23:Qw))))else(some (false))) (fun t4=>bif t4 then(aA (zbL y17) fun y24=>aA (zbL y21) fun y25=>aA (app y24 y25) fun y26=>some (.inr ((y26,0))))else(some (.inl (())))))else(some (.inl (()))))
def sigF(d k e:Nat):Bs:=be 32 (gx k%nn)++be 32 (th d k e)
def okB(d k e:Nat):Bool:=k != 0&&(gx k%nn != 0&&th d k e != 0)
theorem xbP(d k e:Nat):th d k e<zaC:=zkP _
theorem yxQ{d e:Nat}(hd:d<zaC)(he:e<zaC)(l:Bs):
  ytX (tv d) (tv e) (tv (ofV 1 l),ofE 1 l)=some (bif ofOK 1 l&&okB d (bval l) e then .inr (sigF d (bval l) e,0)else .inl ()):=by
 unfold ytX;cases ho:ofOK 1 l with
 |false=>
  have:ofE 1 l=60:=by unfold ofE;rw[ho];rfl
  rw[this];rfl
 |true=>
  have h1:ofE 1 l=0:=by unfold ofE;rw[ho];rfl
  have h2:ofV 1 l=bval l:=by unfold ofV;rw[ho];rfl
  have hk:bval l<nn:=by have:=yfX 1 l;rwa[h2]at this
  have hk2:bval l<zaC:=bQ hk yaJ;rw[h1,h2];generalize bval l=k at hk hk2;simp only[show((0:Int)==0)=true from rfl,zE,yvD,zaB,yzE hk2 zbY,dK];unfold okB;cases k != 0 with
  |false=>rfl|true=>
   simp only[zE,dK];have gxl:(ptW (cmul k GG)).1=tv (gx k):=rfl;have gl:gx k<zaC:=(zgG k GG).1;rw[yhS hk2,zaB,gxl,yzT gl zbY,zaB,inv_p hk2,zaB,cQ,xaK (zkP _) hd,zaB,yzT he (zkP _),zaB,xaK (zkP _) (zlW _ _),zaB];rw[yzE (zkP _) zbY,show(e+gx k%nn*d%nn)%nn*invV 1 k%nn=th d k e from rfl,yzE (xbP d k e) zbY];cases gx k%nn != 0 with
   |false=>rfl|true=>
    simp only[zE,zaB,dK];cases th d k e != 0 with
    |false=>rfl|true=>simp only[zE];rw[show zbL (tv (gx k%nn))=some (be 32 (gx k%nn)) by unfold zbL;rw[zpJ (zkP _)],zaB,show zbL (tv (th d k e))=some (be 32 (th d k e)) by unfold zbL;rw[zpJ (xbP d k e)],zaB,zhD (by rw[zgP,zgP];decide),zaB];rfl
abbrev Tp:Type:=Bs×Bs
def yiI(t:Tp)(m:Bs):Tp:=(macF (macF t.2 (t.1++m)) t.1,macF t.2 (t.1++m))
def nextF8(t:Tp):Tp:=yiI (macF t.2 t.1,t.2) [0]
def zvJ(t:Tp):Nat->Tp
 |0=>t|i+1=>nextF8 (zvJ t i)
def nonF(t:Tp)(i:Nat):Bs:=macF (zvJ t i).2 (zvJ t i).1
def hitB(d e:Nat)(t:Tp)(i:Nat):Bool:=ofOK 1 (nonF t i)&&okB d (bval (nonF t i)) e
def tryF(d e:Nat)(t:Tp):Nat->Nat->Option Bs
 |_,0=>none|i,n+1=>bif hitB d e t i then some (sigF d (bval (nonF t i)) e)else tryF d e t (i+1) n
theorem ytL{t:Tp}(h1:t.1.length=32)(h2:t.2.length=32):∀i,(zvJ t i).1.length=32/\(zvJ t i).2.length=32
 |0=>⟨h1,h2⟩|i+1=>⟨by show(macF _ _).length=32;exact zdB _ _,by show(macF _ _).length=32;exact zdB _ _⟩
theorem b0_eq(x0 y2:Qw)(s:Int×Bs×Bs):zgJ x0 y2 s=bif decide (s.1<16)then(aA (zdV s.2.2 s.2.1) fun y12=>aA (zhZ 1 y12) fun y13=>jn (ytX x0 y2 y13) (fun _=>aA (zbP (y12,s.2.2) ([0]:Bs)) fun y27=>some (.inl ((w64 (s.1+1)),y27.1,y27.2))) (fun e=>some (.inr (.inl (e)))))else(some (.inr (.inr ((s.2.1,s.2.2))))):=rfl
theorem b0_ok{d e:Nat}(hd:d<zaC)(he:e<zaC){t:Tp}(h1:t.1.length=32)(h2:t.2.length=32){i:Nat}(hi:i<16):
  zgJ (tv d) (tv e) ((i:Int),zvJ t i)=bif hitB d e t i then some (.inr (.inl (sigF d (bval (nonF t i)) e,0)))else some (.inl (((i+1:Nat):Int),zvJ t (i+1))):=by
 obtain⟨l1,l2⟩:=ytL h1 h2 i;rw[b0_eq];simp only[];rw[ziR (by omega),zrW (by omega) (by omega),zaB,of_p (by rw[zdB];decide),zaB,yxQ hd he];show _=bif ofOK 1 (nonF t i)&&okB d (bval (nonF t i)) e then _ else _;rw[show macF (zvJ t i).2 (zvJ t i).1=nonF t i from rfl];cases ofOK 1 (nonF t i)&&okB d (bval (nonF t i)) e with
 |true=>rfl|false=>simp only[zF];rw[jn_l,yoE (by rw[nonF,zdB];decide) (by omega) (by decide),zaB,zpV (by omega) (by omega)];rfl
theorem yjP{d e:Nat}(hd:d<zaC)(he:e<zaC){t:Tp}(h1:t.1.length=32)(h2:t.2.length=32):∀n i k:Nat,i+n=16->n<k ->∃q,zpU (zgJ (tv d) (tv e)) k ((i:Int),zvJ t i)=some (match tryF d e t i n with|some s=>.inl (s,0)|none=>.inr q)
 |0,i,k+1,hi,_=>by refine⟨((zvJ t i).1,(zvJ t i).2),?_⟩;rw[tryF];exact zkR (by rw[b0_eq,zjF (by show ¬((i:Int)<16);omega)])
 |n+1,i,k+1,hi,hk=>by
  have hb:=b0_ok hd he h1 h2 (i:=i) (by omega);rw[tryF];cases hh:hitB d e t i with
  |true=>rw[hh]at hb;exact⟨([],[]),zkR hb⟩|false=>rw[hh]at hb;obtain⟨q,hq⟩:=yjP hd he h1 h2 n (i+1) k (by omega) (by omega);exact⟨q,by rw[ziX hb];exact hq⟩
def yfE(d e:Nat):Tp:=yiI (yiI (Lib.repeatL [1] 32,Lib.repeatL [0] 32) ([0]++(be 32 d++be 32 e))) ([1]++(be 32 d++be 32 e))
theorem ydK(t:Tp)(m:Bs):(yiI t m).1.length=32/\(yiI t m).2.length=32:=⟨zdB _ _,zdB _ _⟩
theorem xbL{t:Tp}{m:Bs}(h1:t.1.length<=1000000)(h2:t.2.length<=1000000)(hm:m.length<=1000000):zbP t m=some (yiI t m):=yoE h1 h2 hm
theorem yqS(d e:Nat):(yfE d e).1.length=32/\(yfE d e).2.length=32:=by unfold yfE;exact ydK _ _
def endF(o:Option Bs):Bs×Int:=match o with
 |some g=>(g,0)|none=>([],81)
theorem loop_ok{d e:Nat}(hd:d<zaC)(he:e<zaC){t:Tp}(h1:t.1.length=32)(h2:t.2.length=32):
  jn (aA (iter (zgJ (tv d) (tv e)) ((0,t.1,t.2))) (fun e=>jnO e (fun e1=>some (.inr (e1))) (fun e2=>some (.inl (e2))))) (fun _=>some ((([]:Bs),(81:Int)))) (fun e=>some (e))=some (endF (tryF d e t 0 16)):=by
 obtain⟨q,hq⟩:=yjP hd he h1 h2 16 0 FU rfl (by decide);have:iter (zgJ (tv d) (tv e)) ((0,t.1,t.2))=some (match tryF d e t 0 16 with|some s=>.inl (s,0)|none=>.inr q):=hq;rw[this,zaB];cases tryF d e t 0 16<;>rfl
theorem init_ok{d e:Nat}:(aA (app (be 32 d) (be 32 e)) fun y5=>aA (zcG ([1]:Bs) 32) fun y6=>aA (zcG ([0]:Bs) 32) fun y7=>aA (app ([0]:Bs) y5) fun y8=>aA (zbP (y6,y7) y8) fun y9=>aA (app ([1]:Bs) y5) fun y10=>zbP (y9.1,y9.2) y10)=some (yfE d e):=by
 have lb:∀a,(be 32 a).length=32:=zgP 32;have lx:∀c:UInt8,([c]++(be 32 d++be 32 e)).length=65:=fun c=>by simp[lb]
 rw[zhD (by rw[lb,lb];decide),zaB,show zcG [1] 32=some (Lib.repeatL [1] 32)from rfl,zaB,show zcG [0] 32=some (Lib.repeatL [0] 32)from rfl,zaB];rw[zhD (by rw[<-aE,lx];decide),zaB,xbL (by decide) (by decide) (by rw[lx];decide),zaB,zhD (by rw[<-aE,lx];decide),zaB];have l0:=ydK (Lib.repeatL [1] 32,Lib.repeatL [0] 32) ([0]++(be 32 d++be 32 e));unfold yfE;generalize yiI (Lib.repeatL [1] 32,Lib.repeatL [0] 32) ([0]++(be 32 d++be 32 e))=T at l0;exact xbL (t:=T) (by rw[l0.1];decide) (by rw[l0.2];decide) (by rw[lx];decide)
theorem sign_eq(x0:Qw)(x1:Bs):zgK x0 x1=aA (zfH x0) fun y1=>bif(!y1)then(some ((([]:Bs),80)))else(aA (zkJ x1) fun y2=>aA (zbL x0) fun y3=>aA (zbL y2) fun y4=>aA (aA (app y3 y4) fun y5=>aA (zcG ([1]:Bs) 32) fun y6=>aA (zcG ([0]:Bs) 32) fun y7=>aA (app ([0]:Bs) y5) fun y8=>aA (zbP (y6,y7) y8) fun y9=>aA (app ([1]:Bs) y5) fun y10=>zbP (y9.1,y9.2) y10) fun y11=>jn (aA (iter (zgJ x0 y2) ((0,y11.1,y11.2))) (fun e=>jnO e (fun e1=>some (.inr (e1))) (fun e2=>some (.inl (e2))))) (fun t1=>some ((([]:Bs),81))) (fun e=>some (e))):=by unfold zgK;simp only[Option.bind_assoc]
theorem ylH{d e:Nat}{t:Tp}:∀{n i:Nat} {s:Bs},tryF d e t i n=some s->∃k,k<nn/\okB d k e=true/\s=sigF d k e
 |0,i,s,h=>by cases h
 |n+1,i,s,h=>by
  rw[tryF]at h;cases hh:hitB d e t i with
  |false=>rw[hh]at h;exact ylH h|true=>
   rw[hh]at h;unfold hitB at hh;rw[aK]at hh;have h2:ofV 1 (nonF t i)=bval (nonF t i):=by simp only[ofV,hh.1,zE]
   have h3:=yfX 1 (nonF t i);rw[h2]at h3;simp only[zE,Option.some.injEq]at h;subst h;exact⟨_,h3,hh.2,rfl⟩
theorem xfB{d:Nat}(hd:d<zaC){s:Bs}(hs:s.length<=68719470000):
  zgK (tv d) s=some (bif zoR d then endF (tryF d (eF s) (yfE d (eF s)) 0 16)else([],80)):=by
 have he:=eF_lt s;have hl:=yqS d (eF s);rw[sign_eq,yiK hd,zaB];cases hf:zoR d with
 |false=>rfl|true=>rw[dM,zF,zE,sum_p hs,zaB,show zbL (tv d)=some (be 32 d) by unfold zbL;rw[zpJ hd],zaB,show zbL (tv (eF s))=some (be 32 (eF s)) by unfold zbL;rw[zpJ he],zaB,init_ok,zaB];exact loop_ok hd he hl.1 hl.2
section
variable {P:Program}{ops:Array Oper}{n:Nat}{Φ:zfD}{w0:World}
def allDone(ops:Array Oper)(n t:Nat):Bool:=match ops[t]? with
 |some o=>(bR n).all fun i=>(anc ops t (zcW o)).contains i
 |none=>true
end
def rmE(pos:Nat->Nat)(e:Edge):Edge:={ e with on:=pos e.on }
def rmO(pos:Nat->Nat)(o:Oper):Oper:={ o with after:=(o.after.toList.map (rmE pos)).toArray,guard:=o.guard.map fun p=>(pos p.1,p.2) }
structure PermS (ops ops':Array Oper) (pos inv:Nat->Nat):Prop where
 size:ops'.size=ops.size
 lt:∀i:Nat,i<ops.size->pos i<ops.size
 li:∀i,i<ops.size->inv (pos i)=i
 lt':∀j,j<ops.size->inv j<ops.size
 ri:∀j,j<ops.size->pos (inv j)=j
 at_:∀(i:Nat) (o:Oper),ops[i]? = some o->ops'[pos i]? = some (rmO pos o)
 edge:∀(i:Nat) (o:Oper),ops[i]? = some o->∀e∈o.after,e.on<ops.size
 guard:∀(i:Nat) (o:Oper),ops[i]? = some o->∀p,o.guard=some p->p.1<ops.size
section
variable {P:Program}{ops ops':Array Oper}{pos inv:Nat->Nat}{Q:Exit->Act->World->Prop}
theorem PermS.yield(S:PermS ops ops' pos inv){tmps:Array Value}{j:Nat}(hj:j<ops.size):yielded ops' tmps (pos j)=yielded ops tmps j:=by have h:=S.at_ j ops[j] (cP hj);unfold yielded;rw[h,cP hj];rfl
theorem PermS.want(S:PermS ops ops' pos inv){i:Nat}{o:Oper}{tmps:Array Value}(ho:ops[i]? = some o):Region.wanted (rmO pos o) (yielded ops' tmps)=Region.wanted o (yielded ops tmps):=by
 cases hg:o.guard with
 |none=>rw[show Region.wanted o (yielded ops tmps)=true by simp only[Region.wanted,hg]];simp only[Region.wanted,rmO,hg,Option.map_none]|some p=>obtain⟨g,b⟩:=p;have h:=S.yield (tmps:=tmps) (S.guard i o ho _ hg);simp only[Region.wanted,rmO,hg,Option.map_some]at h ⊢;rw[h]
theorem PermS.ready(S:PermS ops ops' pos inv){L L':Array Bool}(hs:L.size=ops.size)(hs':L'.size=ops.size)(hL:∀i,i<ops.size->L'.getD (pos i) false=L.getD i false){i:Nat}(hi:i<ops.size):
  pos i∈Region.ready .any ops' L'↔i∈Region.ready .any ops L:=by
 have hp:=S.lt i hi;have h1:L'.getD (pos i) true=L.getD i true:=by have:=hL i hi;simp only[Array.getD,hs,hs',hi,hp,dif_pos]at this ⊢;exact this
 constructor
 ·intro h;obtain⟨g1,o',ho',hd⟩:=mem_ready.1 h;have ho:=cP hi;have e:=S.at_ i _ ho;rw[e]at ho';cases ho';refine mem_ready.2 ⟨by rw[<-h1];exact g1,_,ho,fun e he hb=>?_⟩;have:=hd (rmE pos e) (List.mem_toArray.2 (eH.2 ⟨e,Array.mem_def.1 he,rfl⟩)) hb;rw[<-hL e.on (S.edge i _ ho e he)];exact this
 ·intro h;obtain⟨g1,o,ho,hd⟩:=mem_ready.1 h;refine mem_ready.2 ⟨by rw[h1];exact g1,_,S.at_ i o ho,fun e' he' hb=>?_⟩;obtain⟨e,he,rfl⟩:=eH.1 (List.mem_toArray.1 he');have he:=Array.mem_def.2 he;have:=hd e he hb;show L'.getD (pos e.on) false=true;rw[hL e.on (S.edge i o ho e he)];exact this
theorem ymO(S:PermS ops ops' pos inv):∀(m:Nat) (L L':Array Bool) (a:Act) (w:World),L.size=ops.size->L'.size=ops.size->(∀i,i<ops.size->L'.getD (pos i) false=L.getD i false)->wpAny P .any ops' Q m L' a w->wpAny P .any ops Q m L a w:=by
 have nil:∀{L L':Array Bool},L.size=ops.size->L'.size=ops.size->(∀i,i<ops.size->L'.getD (pos i) false=L.getD i false)->(Region.ready .any ops L=[]↔Region.ready .any ops' L'=[]):=fun {L L'} hs hs' hL=>by
  rw[fK,fK];constructor
  ·intro h j hj;have hjn:j<ops.size:=by obtain⟨_,o,ho,_⟩:=mem_ready.1 hj;have:=(bF.1 ho).1;rw[S.size]at this;exact this
   refine h (inv j) ((S.ready hs hs' hL (S.lt' j hjn)).1 ?_);rw[S.ri j hjn];exact hj
  ·intro h i hi;have hin:i<ops.size:=by obtain⟨_,o,ho,_⟩:=mem_ready.1 hi;exact(bF.1 ho).1
   exact h (pos i) ((S.ready hs hs' hL hin).2 hi)
 intro m;induction m with
 |zero=>intro L L' a w hs hs' hL h;exact⟨(nil hs hs' hL).2 h.1,h.2⟩|succ m ih=>
  intro L L' a w hs hs' hL h;refine⟨fun h0=>h.1 ((nil hs hs' hL).1 h0),fun i hi=>?_⟩;obtain⟨_,o,ho,_⟩:=mem_ready.1 hi;have hin:=(bF.1 ho).1;have h2:=h.2 (pos i) ((S.ready hs hs' hL hin).2 hi)
  have hL2:∀k,k<ops.size->(L'.setIfInBounds (pos i) true).getD (pos k) false=(L.setIfInBounds i true).getD k false:=fun k hk=>by
   by_cases hki:k=i
   ·subst hki;simp[Array.getD,hs,hs',hin,S.lt k hin]
   ·have hpk:pos i≠pos k:=fun e=>hki (by rw[<-S.li k hk,<-S.li i hin,e]);rw[getD_set_ne false hpk,getD_set_ne false (Ne.symm hki)];exact hL k hk
  have hK:∀a w,wpAny P .any ops' Q m (L'.setIfInBounds (pos i) true) a w->wpAny P .any ops Q m (L.setIfInBounds i true) a w:=fun a w=>ih _ _ a w (by simp[hs]) (by simp[hs']) hL2;refine wpOp_mono hK ?_;unfold wpOp at h2 ⊢;rw[S.at_ i o ho]at h2;rw[ho];simp only at h2 ⊢;rw[S.want ho]at h2;exact h2
theorem RegAny.perm{l l':List Oper}{a:Act}{w:World}(S:PermS l.toArray l'.toArray pos inv)(h:RegAny P l' Q a w):RegAny P l Q a w:=by unfold RegAny at h ⊢;rw[S.size]at h;refine ymO S _ _ _ _ _ (by simp) (by simp) (fun i hi=>?_) h;rw[getD_replicate_false,getD_replicate_false]
end
inductive SK where
 |pu|la|rv|mn
abbrev Sch:=List (SK×Nat)
def dslk(ops:Array Oper)(j:Nat):Option Tmp:=match ops[j]? with
 |some o=>o.dst|none=>none
def zgA(ops:Array Oper)(i:Nat):List Nat:=match ops[i]? with
 |some o=>zcW o|none=>[]
def ykK(ops:Array Oper)(i:Nat):List Tmp:=match ops[i]? with
 |some o=>o.looksAt ops|none=>[]
def ancB(ops:Array Oper)(i j:Nat):Bool:=(anc ops ops.size (zgA ops i)).contains j
def pairB(ops:Array Oper)(late mains:List Nat)(i j:Nat):Bool:=match dslk ops j with
 |none=>true|some d=>(j==i||dslk ops i != some d)&&(!(ykK ops i).contains d||(j != i&&((ancB ops i j&&(!late.contains j||mains.contains i))||(mains.contains j&&ancB ops j i))))
def yzZ(ops:Array Oper)(late mains:List Nat):Bool:=
 Region.noSelect ops&&(bR ops.size).all (fun i=>(zgA ops i).all (fun j=>decide (j<i))&&(bR ops.size).all (pairB ops late mains i))&&late.all (fun i=>!mains.contains i)
def zlS:Sch->Option Nat
 |(.rv,_)::s=>zlS s|(.mn,m)::_=>some m|_=>none
def schB(ops:Array Oper)(late mains:List Nat):Sch->List Nat->List Nat->Bool->Bool
 |[],D,U,_=>U.isEmpty&&(bR ops.size).all D.contains|(.pu,i)::s,D,U,f=>!f&&decide (i<ops.size) && !D.contains i && !late.contains i && !mains.contains i&&(zgA ops i).all D.contains&&schB ops late mains s (i::D) U f|(.la,i)::s,D,U,f=>!f&&decide (i<ops.size) && !D.contains i&&late.contains i&&(zgA ops i).all D.contains&&schB ops late mains s (i::D) (i::U) f|(.rv,i)::s,D,U,_=>U.contains i&&(match zlS s with
  |some m=>ancB ops m i|none=>(bR ops.size).all D.contains&&s.all fun p=>match p.1 with
   |.rv=>true|_=>false)&&schB ops late mains s D (U.filter fun u=>u != i) true
 |(.mn,i)::s,D,U,_=>decide (i<ops.size) && !D.contains i&&mains.contains i&&(zgA ops i).all D.contains&&(bR ops.size).all (fun j=>D.contains j||j==i||(zgA ops j).any fun d=>!D.contains d) &&
   U.all (fun u=>match dslk ops u with
    |some d=>!(ykK ops i).contains d|none=>true)&&schB ops late mains s (i::D) U false
section
variable {P:Program}{ops:Array Oper}{Q:Exit->Act->World->Prop}{Dsc:Nat->Value->Nat->Obj->Prop}{late mains:List Nat}
def updD(Dsc:Nat->Value->Nat->Obj->Prop)(i:Nat)(D:Value->Nat->Obj->Prop):Nat->Value->Nat->Obj->Prop:=fun t=>if t=i then D else Dsc t
def updJ(Jp:Nat->World->Prop)(i:Nat)(J:World->Prop):Nat->World->Prop:=fun t=>if t=i then J else Jp t
def yiM(ops:Array Oper)(i:Nat)(Pn:List Nat):List Nat:=Pn.filter fun j=>!ancB ops i j
def wpS(P:Program)(ops:Array Oper)(Q:Exit->Act->World->Prop):Sch->(Dsc:Nat->Value->Nat->Obj->Prop)->(Jp:Nat->World->Prop)->(Pn:List Nat)->(G:World->Prop)->(Kp:Nat->Prop)->Act->Prop
 |[],_,_,_,G,_,b=>∀w,G w->Q .normal b w|(.pu,i)::s,Dsc,Jp,Pn,G,Kp,b=>∃(o:Oper) (c:Value) (J:World->Prop),ops[i]? = some o/\((Region.wanted o (yielded ops b.tmps)=true/\∀w,J w->(execOp b.eval o).run P w = .ok (.value c) w)∨(Region.wanted o (yielded ops b.tmps)=false/\c=undef))/\(∀w,G w->J w)/\wpS P ops Q s Dsc (updJ Jp i J) (i::Pn) G Kp (b.put o.dst c)|(.la,i)::s,Dsc,Jp,Pn,G,Kp,b=>∃(o:Oper) (D:Value->Nat->Obj->Prop),ops[i]? = some o/\Region.wanted o (yielded ops b.tmps)=true/\(∀w,∃v k x w',(execOp b.eval o).run P w = .ok (.value v) w'/\Ext w w'/\w.heap.size<=k/\w'.heap[k]? = some x/\D v k x)/\wpS P ops Q s (updD Dsc i D) Jp Pn G Kp b|(.rv,i)::s,Dsc,Jp,Pn,G,Kp,b=>∃o,ops[i]? = some o/\∀v k x,Dsc i v k x->¬Kp k->(∃w,G w/\w.heap[k]? = some x)->∃(G':World->Prop) (Kp':Nat->Prop),(∀w,G w->w.heap[k]? = some x->G' w)/\(∀j∈Pn,∀w,G' w->Jp j w)/\(∀u u',G' u->Ext u u'->G' u')/\(∀u,G' u->∀k,Kp' k->k<u.heap.size)/\(∀b,Kp' b->Kp b∨b=k)/\wpS P ops Q s Dsc Jp Pn G' Kp' (b.put o.dst v)|(.mn,i)::s,Dsc,Jp,Pn,G,Kp,b=>∃o,ops[i]? = some o/\∀w,G w->(Region.wanted o (yielded ops b.tmps)=true/\outcome P (fun v w'=>∃(G':World->Prop) (Kp':Nat->Prop),(∀j∈yiM ops i Pn,∀u,G' u->Jp j u)/\(∀u u',G' u->Ext u u'->G' u')/\(∀u,G' u->∀k,Kp' k->k<u.heap.size)/\G' w'/\(∀k,Kp' k->Kp k∨w.heap.size<=k)/\(∀k,k<w.heap.size->¬Kp k->w'.heap[k]? = w.heap[k]?)/\wpS P ops Q s Dsc Jp (yiM ops i Pn) G' Kp' (b.put o.dst v)) ((execOp b.eval o).run P w))∨(Region.wanted o (yielded ops b.tmps)=false/\wpS P ops Q s Dsc Jp (yiM ops i Pn) G Kp (b.put o.dst undef))
def OpenAt(late mains:List Nat)(D U:List Nat)(L:Array Bool)(i:Nat):Prop:=i∈D/\((i∈U/\L.getD i false=true)∨(i∉mains/\i∉late/\L.getD i false=false))
structure SInv (P:Program) (ops:Array Oper) (Dsc:Nat->Value->Nat->Obj->Prop) (late mains:List Nat) (Jp:Nat->World->Prop) (Pn:List Nat) (G:World->Prop) (Kp:Nat->Prop) (D U:List Nat) (L:Array Bool) (a b:Act) (w:World) (V:Nat->Value) (bk:Nat->Nat) (ob:Nat->Obj):Prop where
 size:L.size=ops.size
 sub:∀i,L.getD i false=true->i∈D
 lt:∀i∈D,i<ops.size
 dcl:∀i∈D,∀j∈zgA ops i,j∈D
 lcl:∀i,L.getD i false=true->∀j∈zgA ops i,L.getD j false=true
 mdone:∀i∈D,i∈mains->L.getD i false=true
 udone:∀i∈D,i∈late->i∉U->L.getD i false=true
 uD:∀i∈U,i∈D/\i∈late
 pp:∀i∈D,i∉mains->i∉late->L.getD i false=false->∀o,ops[i]? = some o->∃c,((Region.wanted o (yielded ops b.tmps)=true/\∀w,Jp i w->(execOp b.eval o).run P w = .ok (.value c) w)∨(Region.wanted o (yielded ops b.tmps)=false/\c=undef))/\∀s,o.dst=some s->b.tmps[s]? = (a.tmps[s]?).map fun _=>c
 lu:∀i∈U,L.getD i false=false->∀o,ops[i]? = some o->Region.wanted o (yielded ops b.tmps)=true/\∀w,∃v k x w',(execOp b.eval o).run P w = .ok (.value v) w'/\Ext w w'/\w.heap.size<=k/\w'.heap[k]? = some x/\Dsc i v k x
 lf:∀i∈U,L.getD i false=true->Dsc i (V i) (bk i) (ob i)/\w.heap[bk i]? = some (ob i)/\¬Kp (bk i)/\∀o s,ops[i]? = some o->o.dst=some s->a.tmps[s]? = (b.tmps[s]?).map fun _=>V i
 lj:∀i∈U,∀j∈U,L.getD i false=true->L.getD j false=true->bk i=bk j->i=j
 other:∀s,(∀i o,OpenAt late mains D U L i->ops[i]? = some o->o.dst≠some s)->a.tmps[s]? = b.tmps[s]?
 defers:a.defers=b.defers
 gw:G w
 pn:∀i∈D,i∉mains->i∉late->L.getD i false=false->i∈Pn
 gj:∀j∈Pn,∀u,G u->Jp j u
 gx:∀u u',G u->Ext u u'->G u'
 gk:∀u,G u->∀k,Kp k->k<u.heap.size
structure zsZ (ops:Array Oper) (late mains:List Nat):Prop where
 sel:Region.noSelect ops=true
 deps:∀i,i<ops.size->∀j∈zgA ops i,j<i
 dst:∀(i j:Nat) (oi oj:Oper) (d:Tmp),ops[i]? = some oi->ops[j]? = some oj->oj.dst=some d->j≠i->oi.dst≠some d
 look:∀(i j:Nat) (oi oj:Oper) (d:Tmp),ops[i]? = some oi->ops[j]? = some oj->oj.dst=some d->d∈oi.looksAt ops->j≠i/\((ancB ops i j=true/\(j∈late->i∈mains))∨(j∈mains/\ancB ops j i=true))
 dis:∀i∈late,i∉mains
theorem xeW(h:yzZ ops late mains=true):zsZ ops late mains:=by
 unfold yzZ at h;simp only[aK,bH,bU,zD]at h;obtain⟨⟨h1,h2⟩,h3⟩:=h;have hsz:∀{i:Nat} {o:Oper},ops[i]? = some o->i<ops.size:=fun h=>(bF.1 h).1;refine⟨h1,fun i hi=>(h2 i hi).1,fun i j oi oj d hi hj hd hne=>?_,fun i j oi oj d hi hj hd hl=>?_,fun i hi hm=>?_⟩
 ·have:=(h2 i (hsz hi)).2 j (hsz hj);unfold pairB dslk at this;simp only[hi,hj,hd,aK,cJ,beq_iff_eq,hne,false_or,bne_iff_ne]at this;exact this.1
 ·have:=(h2 i (hsz hi)).2 j (hsz hj);unfold pairB dslk ykK at this;simp only[hi,hj,hd,aK,cJ,cL,bW,decide_eq_false_iff_not,bne_iff_ne,zD]at this;rcases this.2 with h|⟨h,h4⟩
  ·exact absurd hl h
  ·refine⟨h,h4.imp (fun h=>⟨h.1,fun hh=>h.2.resolve_left (fun k=>k hh)⟩) id⟩
 ·have:=h3 i hi;simp only[cL,bW,decide_eq_false_iff_not]at this;exact this hm
theorem zsF{i:Nat}{o:Oper}(h:ops[i]? = some o):zgA ops i=zcW o:=by unfold zgA;rw[h]
theorem zqF{L:Array Bool}(hl:∀i,L.getD i false=true->∀j∈zgA ops i,L.getD j false=true){i j:Nat}(hd:∀k∈zgA ops i,L.getD k false=true)(h:ancB ops i j=true):L.getD j false=true:=by unfold ancB at h;simp only[bW,zD]at h;exact yaV (p:=fun q=>L.getD q false=true) (N:=ops.size) (fun q oq _ hq hoq r hr=>hl q hq r (by rw[zsF hoq];exact hr)) ops.size _ (aJ _) hd j h
theorem anc_D{D:List Nat}(hl:∀i∈D,∀j∈zgA ops i,j∈D){i j:Nat}(hi:i∈D)(h:ancB ops i j=true):j∈D:=by unfold ancB at h;simp only[bW,zD]at h;exact yaV (p:=fun q=>q∈D) (N:=ops.size) (fun q oq _ hq hoq r hr=>hl q hq r (by rw[zsF hoq];exact hr)) ops.size _ (aJ _) (hl i hi) j h
theorem SInv.agree{Jp:Nat->World->Prop}{Pn:List Nat}{G:World->Prop}{Kp:Nat->Prop}{D U:List Nat}{L:Array Bool}{a b:Act}{w:World}{V:Nat->Value}{bk:Nat->Nat}{ob:Nat->Obj}(I:SInv P ops Dsc late mains Jp Pn G Kp D U L a b w V bk ob)(S:zsZ ops late mains){i:Nat}{o:Oper}(ho:ops[i]? = some o) (hd:∀k∈zgA ops i,L.getD k false=true) (hu:i∈mains->∀u∈U,∀d,dslk ops u=some d->d∉o.looksAt ops):∀t∈o.looksAt ops,a.tmps[t]? = b.tmps[t]?:=fun t ht=>I.other t fun j oj hj hoj hdj=>by
 obtain⟨hne,h⟩:=S.look i j o oj t ho hoj hdj ht;have hlate:j∈U->i∈mains->False:=fun hjU him=>hu him j hjU t (by unfold dslk;rw[hoj];exact hdj) ht;rcases h with⟨h1,h2⟩|⟨h1,_⟩
 ·have hl:=zqF I.lcl hd h1;rcases hj.2 with⟨hjU,_⟩|⟨_,_,h3⟩
  ·exact hlate hjU (h2 (I.uD j hjU).2)
  ·rw[hl]at h3;cases h3
 ·rcases hj.2 with⟨hjU,_⟩|⟨h3,_⟩
  ·exact S.dis j (I.uD j hjU).2 h1
  ·exact h3 h1
theorem SInv.ran{Jp:Nat->World->Prop}{Pn:List Nat}{G:World->Prop}{Kp:Nat->Prop}{D U:List Nat}{L:Array Bool}{a b:Act}{w:World}{V:Nat->Value}{bk:Nat->Nat}{ob:Nat->Obj}(I:SInv P ops Dsc late mains Jp Pn G Kp D U L a b w V bk ob)(S:zsZ ops late mains){i:Nat}{o:Oper}(ho:ops[i]? = some o) (hd:∀k∈zgA ops i,L.getD k false=true) (hu:i∈mains->∀u∈U,∀d,dslk ops u=some d->d∉o.looksAt ops):execOp a.eval o=execOp b.eval o/\Region.wanted o (yielded ops a.tmps)=Region.wanted o (yielded ops b.tmps):=
 zpY (fun cs c=>Region.noSelect_spec S.sel i o cs c ho) (I.agree S ho hd hu)
theorem zeC{L:Array Bool}{j:Nat}(hj:j<L.size)(k:Nat):(L.setIfInBounds j true).getD k false=true↔L.getD k false=true∨k=j:=by
 by_cases hkj:k=j
 ·subst hkj;simp[hj]
 ·rw[getD_set_ne false (Ne.symm hkj)];simp[hkj]
theorem zsU{L:Array Bool}{j:Nat}(hj:j<L.size){k:Nat}(h:(L.setIfInBounds j true).getD k false=false):L.getD k false=false/\k≠j:=by have:=mt (zeC hj k).2 (by rw[h];simp);simp only[not_or]at this;exact⟨by simpa using this.1,this.2⟩
section
variable {Jp:Nat->World->Prop}{Pn:List Nat}{G:World->Prop}{Kp:Nat->Prop}{D U:List Nat}{L:Array Bool}{a b:Act}{w:World}{V:Nat->Value}{bk:Nat->Nat}{ob:Nat->Obj}{i:Nat}{o:Oper}
theorem znO(S:zsZ ops late mains){j:Nat}{oj:Oper}(hoj:ops[j]? = some oj){v:Value}(h:∀d,o.dst=some d->d∉oj.looksAt ops):execOp (b.put o.dst v).eval oj=execOp b.eval oj/\Region.wanted oj (yielded ops (b.put o.dst v).tmps)=Region.wanted oj (yielded ops b.tmps):=
 zpY (fun cs c=>Region.noSelect_spec S.sel j oj cs c hoj) fun t ht=>by rw[zcO,zG fun e=>h t e ht]
theorem SInv.pu(I:SInv P ops Dsc late mains Jp Pn G Kp D U L a b w V bk ob)(S:zsZ ops late mains)(ho:ops[i]? = some o)(hi:i∉D)(h1:i∉late)(h2:i∉mains)(hd:∀k∈zgA ops i,k∈D){c:Value}{J:World->Prop} (hc:(Region.wanted o (yielded ops b.tmps)=true/\∀w,J w->(execOp b.eval o).run P w = .ok (.value c) w)∨(Region.wanted o (yielded ops b.tmps)=false/\c=undef)) (hJ:∀w,G w->J w):SInv P ops Dsc late mains (updJ Jp i J) (i::Pn) G Kp (i::D) U L a (b.put o.dst c) w V bk ob:=by
 have hsz:i<ops.size:=(bF.1 ho).1;have hnl:L.getD i false=false:=by
  cases h:L.getD i false with
  |false=>rfl|true=>exact absurd (I.sub i h) hi
 have mem:∀{k},k∈i::D->k≠i->k∈D:=fun h hn=>(aT.1 h).resolve_left hn
 have far:∀{j oj},j∈D->ops[j]? = some oj->∀d,o.dst=some d->d∉oj.looksAt ops:=fun {j oj} hj hoj d hdd hl=>by
  obtain⟨_,h|⟨h,_⟩⟩:=S.look j i oj o d hoj ho hdd hl
  ·exact hi (anc_D I.dcl hj h.1)
  ·exact h2 h
 refine { I with sub:=fun k hk=>aS _ (I.sub k hk),lt:=fun k hk=>?_,dcl:=fun k hk j hj=>?_,mdone:=fun k hk hm=>?_,udone:=fun k hk hm hu=>?_,uD:=fun k hk=>⟨aS _ (I.uD k hk).1,(I.uD k hk).2⟩,pp:=fun k hk hm hl hn ok hok=>?_,lu:=fun k hk hn ok hok=>?_,lf:=fun k hk hl=>?_,other:=fun s hs=>?_,defers:=?_,pn:=fun k hk hm hl hn=>?_,gj:=fun k hk u hu=>?_ }
 ·rcases aT.1 hk with rfl|hk
  ·exact hsz
  ·exact I.lt k hk
 ·rcases aT.1 hk with rfl|hk
  ·exact aS _ (hd j hj)
  ·exact aS _ (I.dcl k hk j hj)
 ·exact I.mdone k (mem hk fun e=>h2 (e▸hm)) hm
 ·exact I.udone k (mem hk fun e=>h1 (e▸hm)) hm hu
 ·by_cases e:k=i
  ·subst e;have:ok=o:=osi (hok.symm.trans ho);subst this;have hself:∀d,ok.dst=some d->d∉ok.looksAt ops:=fun d hdd hll=>(S.look k k ok ok d ho ho hdd hll).1 rfl;obtain⟨e1,e2⟩:=znO (b:=b) (v:=c) S ho hself;refine⟨c,by rw[e1,e2,show updJ Jp k J k=J by unfold updJ;rw[zH rfl]];exact hc,fun s hs=>?_⟩;rw[zcO,zH hs];rw[<-I.other s fun j oj hj hoj hdj=>?_];by_cases hji:j=k
   ·subst hji;exact absurd hj.1 hi
   ·exact S.dst j k oj ok s hoj ho hs (Ne.symm hji) hdj
  ·obtain⟨c',g1,g2⟩:=I.pp k (mem hk e) hm hl hn ok hok;obtain⟨e1,e2⟩:=znO (b:=b) (v:=c) S hok (far (mem hk e) hok);refine⟨c',by rw[e1,e2,show updJ Jp i J k=Jp k by unfold updJ;rw[zG e]];exact g1,fun s hs=>?_⟩;rw[zcO,zG (S.dst i k o ok s ho hok hs e)];exact g2 s hs
 ·obtain⟨e1,e2⟩:=znO (b:=b) (v:=c) S hok (far (I.uD k hk).1 hok);rw[e1,e2];exact I.lu k hk hn ok hok
 ·obtain⟨g1,g2,g3,g4⟩:=I.lf k hk hl;refine⟨g1,g2,g3,fun ok s hok hs=>?_⟩;have e:k≠i:=fun e=>hi (e▸(I.uD k hk).1);rw[zcO,zG (S.dst i k o ok s ho hok hs e)];exact g4 ok s hok hs
 ·by_cases hds:o.dst=some s
  ·exact absurd hds (hs i o ⟨bC,.inr ⟨h2,h1,hnl⟩⟩ ho)
  ·rw[zcO,zG hds];exact I.other s fun j oj hj hoj=>hs j oj ⟨aS _ hj.1,hj.2⟩ hoj
 ·rw[I.defers];cases o.dst<;>rfl
 ·by_cases e:k=i
  ·subst e;exact bC
  ·exact aS _ (I.pn k (mem hk e) hm hl hn)
 ·by_cases e:k=i
  ·subst e;rw[show updJ Jp k J k=J by unfold updJ;rw[zH rfl]];exact hJ u hu
  ·rw[show updJ Jp i J k=Jp k by unfold updJ;rw[zG e]];exact I.gj k ((aT.1 hk).resolve_left e) u hu
theorem SInv.la(I:SInv P ops Dsc late mains Jp Pn G Kp D U L a b w V bk ob)(ho:ops[i]? = some o)(hi:i∉D)(h1:i∈late)(h2:i∉mains)(hd:∀k∈zgA ops i,k∈D) {Di:Value->Nat->Obj->Prop} (hc:Region.wanted o (yielded ops b.tmps)=true/\∀w,∃v k x w',(execOp b.eval o).run P w = .ok (.value v) w'/\Ext w w'/\w.heap.size<=k/\w'.heap[k]? = some x/\Di v k x):SInv P ops (updD Dsc i Di) late mains Jp Pn G Kp (i::D) (i::U) L a b w V bk ob:=by
 have oth:∀{k},k∈U->updD Dsc i Di k=Dsc k:=fun {k} hk=>by have:k≠i:=fun e=>hi (e▸(I.uD k hk).1);unfold updD;rw[zG this]
 have hsz:i<ops.size:=(bF.1 ho).1;have hnl:L.getD i false=false:=by
  cases h:L.getD i false with
  |false=>rfl|true=>exact absurd (I.sub i h) hi
 have hlist:∀{k},k∈i::U->L.getD k false=true->k∈U:=fun {k} hk hl=>by
  rcases aT.1 hk with rfl|hk
  ·rw[hnl]at hl;cases hl
  ·exact hk
 refine { I with sub:=fun k hk=>aS _ (I.sub k hk),lt:=fun k hk=>?_,dcl:=fun k hk j hj=>?_,mdone:=fun k hk hm=>?_,udone:=fun k hk hm hu=>?_,uD:=fun k hk=>?_,pp:=fun k hk hm hl hn ok hok=>?_,lu:=fun k hk hn ok hok=>?_,lf:=fun k hk hl=>(by rw[oth (hlist hk hl)];exact I.lf k (hlist hk hl) hl),lj:=fun k hk j hj g1 g2=>I.lj k (hlist hk g1) j (hlist hj g2) g1 g2,other:=fun s hs=>?_,pn:=fun k hk hm hl hn=>?_ }
 ·rcases aT.1 hk with rfl|hk
  ·exact hsz
  ·exact I.lt k hk
 ·rcases aT.1 hk with rfl|hk
  ·exact aS _ (hd j hj)
  ·exact aS _ (I.dcl k hk j hj)
 ·rcases aT.1 hk with rfl|hk
  ·exact absurd hm h2
  ·exact I.mdone k hk hm
 ·rcases aT.1 hk with rfl|hk
  ·exact absurd bC hu
  ·exact I.udone k hk hm fun h=>hu (aS _ h)
 ·rcases aT.1 hk with rfl|hk
  ·exact⟨bC,h1⟩
  ·exact⟨aS _ (I.uD k hk).1,(I.uD k hk).2⟩
 ·rcases aT.1 hk with rfl|hk
  ·exact absurd h1 hl
  ·exact I.pp k hk hm hl hn ok hok
 ·rcases aT.1 hk with rfl|hk
  ·have:ok=o:=osi (hok.symm.trans ho);subst this;rw[show updD Dsc k Di k=Di by unfold updD;rw[zH rfl]];exact hc
  ·rw[oth hk];exact I.lu k hk hn ok hok
 ·refine I.other s fun j oj hj hoj=>hs j oj ⟨aS _ hj.1,hj.2.imp (fun h=>⟨aS _ h.1,h.2⟩) id⟩ hoj
 ·rcases aT.1 hk with rfl|hk
  ·exact absurd h1 hl
  ·exact I.pn k hk hm hl hn
theorem SInv.nolook(_I:SInv P ops Dsc late mains Jp Pn G Kp D U L a b w V bk ob)(S:zsZ ops late mains)(ho:ops[i]? = some o)(hi:i∈late){k:Nat}{ok:Oper}(hok:ops[k]? = some ok)(hk:k∉mains):∀d,o.dst=some d->d∉ok.looksAt ops:=fun d hd hl=>by
 obtain⟨_,h|h⟩:=S.look k i ok o d hok ho hd hl
 ·exact hk (h.2 hi)
 ·exact S.dis i hi h.1
theorem SInv.exP(I:SInv P ops Dsc late mains Jp Pn G Kp D U L a b w V bk ob)(S:zsZ ops late mains)(ho:ops[i]? = some o)(hi:i∈D)(h1:i∉late)(hd:∀k∈zgA ops i,L.getD k false=true){c:Value} (hc:∀s,o.dst=some s->b.tmps[s]? = (a.tmps[s]?).map fun _=>c):SInv P ops Dsc late mains Jp Pn G Kp D U (L.setIfInBounds i true) (a.put o.dst c) b w V bk ob:=by
 have hsz:i<L.size:=by rw[I.size];exact(bF.1 ho).1
 have up:∀{k},L.getD k false=true->(L.setIfInBounds i true).getD k false=true:=fun h=>(zeC hsz _).2 (.inl h);have dn:∀{k},k∈U->(L.setIfInBounds i true).getD k false=true->L.getD k false=true:=fun {k} hk h=>((zeC hsz _).1 h).resolve_right fun e=>h1 (e▸(I.uD k hk).2);refine { I with size:=by simp[I.size],sub:=fun k hk=>?_,lcl:=fun k hk j hj=>?_,mdone:=fun k hk hm=>up (I.mdone k hk hm),udone:=fun k hk hm hu=>up (I.udone k hk hm hu),pp:=fun k hk hm hl hn ok hok=>?_,lu:=fun k hk hn ok hok=>I.lu k hk (zsU hsz hn).1 ok hok,lf:=fun k hk hl=>?_,lj:=fun k hk j hj g1 g2=>I.lj k hk j hj (dn hk g1) (dn hj g2),other:=fun s hs=>?_,defers:=?_,pn:=fun k hk hm hl hn=>I.pn k hk hm hl (zsU hsz hn).1 }
 ·rcases(zeC hsz k).1 hk with h|rfl
  ·exact I.sub k h
  ·exact hi
 ·rcases(zeC hsz k).1 hk with h|rfl
  ·exact up (I.lcl k h j hj)
  ·exact up (hd j hj)
 ·obtain⟨hn,hne⟩:=zsU hsz hn;obtain⟨c',g1,g2⟩:=I.pp k hk hm hl hn ok hok;refine⟨c',g1,fun s hs=>?_⟩;rw[zcO,zG (S.dst i k o ok s ho hok hs hne)];exact g2 s hs
 ·obtain⟨g1,g2,g3,g4⟩:=I.lf k hk (dn hk hl);refine⟨g1,g2,g3,fun ok s hok hs=>?_⟩;rw[zcO,zG (S.dst i k o ok s ho hok hs fun e=>h1 (e▸(I.uD k hk).2))];exact g4 ok s hok hs
 ·rw[zcO];by_cases hds:o.dst=some s
  ·rw[zH hds];exact(hc s hds).symm
  ·rw[zG hds];refine I.other s fun j oj hj hoj hdj=>?_;by_cases hji:j=i
   ·subst hji;exact hds (by rw[<-osi (hoj.symm.trans ho)];exact hdj)
   ·refine hs j oj ⟨hj.1,hj.2.imp (fun h=>⟨h.1,up h.2⟩) fun h=>⟨h.1,h.2.1,?_⟩⟩ hoj hdj;rw[getD_set_ne false (Ne.symm hji)];exact h.2.2
 ·rw[<-I.defers];cases o.dst<;>rfl
theorem SInv.exL(I:SInv P ops Dsc late mains Jp Pn G Kp D U L a b w V bk ob)(S:zsZ ops late mains)(ho:ops[i]? = some o)(hi:i∈U)(hn:L.getD i false=false)(hd:∀k∈zgA ops i,L.getD k false=true){v:Value}{k:Nat}{x:Obj}{w':World} (hx:Ext w w') (hk:w.heap.size<=k) (hh:w'.heap[k]? = some x) (hD:Dsc i v k x):SInv P ops Dsc late mains Jp Pn G Kp D U (L.setIfInBounds i true) (a.put o.dst v) b w' (fun t=>if t=i then v else V t) (fun t=>if t=i then k else bk t) (fun t=>if t=i then x else ob t):=by
 have hsz:i<L.size:=by rw[I.size];exact(bF.1 ho).1
 have hil:=(I.uD i hi).2;have up:∀{k},L.getD k false=true->(L.setIfInBounds i true).getD k false=true:=fun h=>(zeC hsz _).2 (.inl h);have lt:∀{t},t∈U->L.getD t false=true->bk t<w.heap.size:=fun {t} ht hl=>(bF.1 (I.lf t ht hl).2.1).1;refine { I with size:=by simp[I.size],sub:=fun k hk=>?_,lcl:=fun k hk j hj=>?_,mdone:=fun k hk hm=>up (I.mdone k hk hm),udone:=fun k hk hm hu=>up (I.udone k hk hm hu),pp:=fun t ht hm hl hn ok hok=>?_,lu:=fun k hk hn ok hok=>I.lu k hk (zsU hsz hn).1 ok hok,lf:=fun t ht hl=>?_,lj:=fun t ht j hj g1 g2 e=>?_,other:=fun s hs=>?_,defers:=?_,gw:=I.gx _ _ I.gw hx,pn:=fun k hk hm hl hn=>I.pn k hk hm hl (zsU hsz hn).1 }
 ·rcases(zeC hsz k).1 hk with h|rfl
  ·exact I.sub k h
  ·exact(I.uD k hi).1
 ·rcases(zeC hsz k).1 hk with h|rfl
  ·exact up (I.lcl k h j hj)
  ·exact up (hd j hj)
 ·obtain⟨hn,hne⟩:=zsU hsz hn;obtain⟨c',g1,g2⟩:=I.pp t ht hm hl hn ok hok;refine⟨c',g1,fun s hs=>?_⟩;rw[zcO,zG (S.dst i t o ok s ho hok hs hne)];exact g2 s hs
 ·by_cases e:t=i
  ·subst e;simp only[if_true];refine⟨hD,hh,fun hK=>absurd (I.gk w I.gw k hK) (by omega),fun ok s hok hs=>?_⟩;have:ok=o:=osi (hok.symm.trans ho);subst this;rw[zcO,zH hs,I.other s fun j oj hj hoj hdj=>?_];by_cases hjt:j=t
   ·subst hjt;rcases hj.2 with⟨_,h⟩|⟨_,h,_⟩
    ·rw[hn]at h;cases h
    ·exact h hil
   ·exact S.dst j t oj ok s hoj hok hs (Ne.symm hjt) hdj
  ·simp only[zG e];have hl':L.getD t false=true:=((zeC hsz _).1 hl).resolve_right e;obtain⟨g1,g2,g3,g4⟩:=I.lf t ht hl';refine⟨g1,by rw[hx.block _ (lt ht hl')];exact g2,g3,fun ok s hok hs=>?_⟩;rw[zcO,zG (S.dst i t o ok s ho hok hs e)];exact g4 ok s hok hs
 ·by_cases e1:t=i
  ·by_cases e2:j=i
   ·rw[e1,e2]
   ·have hl':L.getD j false=true:=((zeC hsz _).1 g2).resolve_right e2;have:=lt hj hl';simp only[e1,if_true,zG e2]at e;omega
  ·have hl':L.getD t false=true:=((zeC hsz _).1 g1).resolve_right e1;by_cases e2:j=i
   ·have:=lt ht hl';simp only[e2,if_true,zG e1]at e;omega
   ·simp only[zG e1,zG e2]at e;exact I.lj t ht j hj hl' (((zeC hsz _).1 g2).resolve_right e2) e
 ·have hds:o.dst≠some s:=hs i o ⟨(I.uD i hi).1,.inl ⟨hi,(zeC hsz i).2 (.inr rfl)⟩⟩ ho;rw[zcO,zG hds];refine I.other s fun j oj hj hoj hdj=>?_;by_cases hji:j=i
  ·subst hji;exact hds (by rw[<-osi (hoj.symm.trans ho)];exact hdj)
  ·refine hs j oj ⟨hj.1,hj.2.imp (fun h=>⟨h.1,up h.2⟩) fun h=>⟨h.1,h.2.1,?_⟩⟩ hoj hdj;rw[getD_set_ne false (Ne.symm hji)];exact h.2.2
 ·rw[<-I.defers];cases o.dst<;>rfl
theorem SInv.rv(I:SInv P ops Dsc late mains Jp Pn G Kp D U L a b w V bk ob)(S:zsZ ops late mains)(ho:ops[i]? = some o)(hi:i∈U)(hl:L.getD i false=true){G':World->Prop}{Kp':Nat->Prop} (g1:∀w,G w->w.heap[bk i]? = some (ob i)->G' w) (g2:∀j∈Pn,∀w,G' w->Jp j w) (g3:∀u u',G' u->Ext u u'->G' u') (g4:∀u,G' u->∀k,Kp' k->k<u.heap.size) (g5:∀c,Kp' c->Kp c∨c=bk i):
  SInv P ops Dsc late mains Jp Pn G' Kp' D (U.filter fun u=>u != i) L a (b.put o.dst (V i)) w V bk ob:=by
 have mem:∀{k},k∈U.filter (fun u=>u != i)->k∈U/\k≠i:=fun h=>by simpa using dA.1 h
 have hil:=(I.uD i hi).2;refine { I with udone:=fun k hk hm hu=>?_,uD:=fun k hk=>I.uD k (mem hk).1,pp:=fun k hk hm hlk hn ok hok=>?_,lu:=fun k hk hn ok hok=>?_,lf:=fun k hk hlk=>?_,lj:=fun k hk j hj=>I.lj k (mem hk).1 j (mem hj).1,other:=fun s hs=>?_,defers:=?_,gw:=g1 w I.gw (I.lf i hi hl).2.1,gj:=g2,gx:=g3,gk:=g4 }
 ·by_cases e:k=i
  ·subst e;exact hl
  ·exact I.udone k hk hm fun h=>hu (dA.2 ⟨h,by simp[e]⟩)
 ·have hne:k≠i:=fun e=>hlk (e▸hil);obtain⟨c',h1,h2⟩:=I.pp k hk hm hlk hn ok hok;obtain⟨e1,e2⟩:=znO (b:=b) (v:=V i) S hok (I.nolook S ho hil hok hm);refine⟨c',by rw[e1,e2];exact h1,fun s hs=>?_⟩;rw[zcO,zG (S.dst i k o ok s ho hok hs hne)];exact h2 s hs
 ·obtain⟨hk,hne⟩:=mem hk;obtain⟨e1,e2⟩:=znO (b:=b) (v:=V i) S hok (I.nolook S ho hil hok (S.dis k (I.uD k hk).2));rw[e1,e2];exact I.lu k hk hn ok hok
 ·obtain⟨hk,hne⟩:=mem hk;obtain⟨h1,h2,h3,h4⟩:=I.lf k hk hlk;refine⟨h1,h2,fun hK=>?_,fun ok s hok hs=>?_⟩
  ·rcases g5 _ hK with h|h
   ·exact h3 h
   ·exact hne (I.lj k hk i hi hlk hl h)
  ·rw[zcO,zG (S.dst i k o ok s ho hok hs hne)];exact h4 ok s hok hs
 ·by_cases hds:o.dst=some s
  ·rw[zcO,zH hds];exact(I.lf i hi hl).2.2.2 o s ho hds
  ·rw[zcO,zG hds];refine I.other s fun j oj hj hoj hdj=>?_;by_cases hji:j=i
   ·subst hji;exact hds (by rw[<-osi (hoj.symm.trans ho)];exact hdj)
   ·exact hs j oj ⟨hj.1,hj.2.imp (fun h=>⟨dA.2 ⟨h.1,by simp[hji]⟩,h.2⟩) id⟩ hoj hdj
 ·rw[I.defers];cases o.dst<;>rfl
theorem SInv.exM(I:SInv P ops Dsc late mains Jp Pn G Kp D U L a b w V bk ob)(S:zsZ ops late mains)(ho:ops[i]? = some o)(hi:i∉D)(hm:i∈mains)(hd:∀k∈zgA ops i,L.getD k false=true){v:Value}{w':World}{G':World->Prop}{Kp':Nat->Prop} (g1:∀j∈yiM ops i Pn,∀u,G' u->Jp j u) (g2:∀u u',G' u->Ext u u'->G' u') (g3:∀u,G' u->∀k,Kp' k->k<u.heap.size) (g4:G' w') (g5:∀k,Kp' k->Kp k∨w.heap.size<=k) (g6:∀k,k<w.heap.size->¬Kp k->w'.heap[k]? = w.heap[k]?):
  SInv P ops Dsc late mains Jp (yiM ops i Pn) G' Kp' (i::D) U (L.setIfInBounds i true) (a.put o.dst v) (b.put o.dst v) w' V bk ob:=by
 have hsz:i<L.size:=by rw[I.size];exact(bF.1 ho).1
 have hnl:i∉late:=fun h=>S.dis i h hm;have up:∀{k},L.getD k false=true->(L.setIfInBounds i true).getD k false=true:=fun h=>(zeC hsz _).2 (.inl h);have dn:∀{k},k∈U->(L.setIfInBounds i true).getD k false=true->L.getD k false=true:=fun {k} hk h=>((zeC hsz _).1 h).resolve_right fun e=>hnl (e▸(I.uD k hk).2);have mem:∀{k},k∈i::D->k≠i->k∈D:=fun h hn=>(aT.1 h).resolve_left hn
 have far:∀{k ok},k∈D->L.getD k false=false->ops[k]? = some ok->∀d,o.dst=some d->d∉ok.looksAt ops:=fun {k ok} hk hn hok d hdd hl=>by
  obtain⟨_,h|h⟩:=S.look k i ok o d hok ho hdd hl
  ·exact hi (anc_D I.dcl hk h.1)
  ·have:=zqF I.lcl hd h.2;rw[hn]at this;cases this
 have ne:∀{k},k∈D->k≠i:=fun hk e=>hi (e▸hk);refine { size:=by simp[I.size],sub:=fun k hk=>?_,lt:=fun k hk=>?_,dcl:=fun k hk j hj=>?_,lcl:=fun k hk j hj=>?_,mdone:=fun k hk hm=>?_,udone:=fun k hk hm hu=>?_,uD:=fun k hk=>⟨aS _ (I.uD k hk).1,(I.uD k hk).2⟩,pp:=fun k hk hm hl hn ok hok=>?_,lu:=fun k hk hn ok hok=>?_,lf:=fun k hk hl=>?_,lj:=fun k hk j hj h1 h2=>I.lj k hk j hj (dn hk h1) (dn hj h2),other:=fun s hs=>?_,defers:=?_,gw:=g4,pn:=fun k hk hm hl hn=>?_,gj:=g1,gx:=g2,gk:=g3 }
 ·rcases(zeC hsz k).1 hk with h|rfl
  ·exact aS _ (I.sub k h)
  ·exact bC
 ·rcases aT.1 hk with rfl|hk
  ·rw[<-I.size];exact hsz
  ·exact I.lt k hk
 ·rcases aT.1 hk with rfl|hk
  ·exact aS _ (I.sub j (hd j hj))
  ·exact aS _ (I.dcl k hk j hj)
 ·rcases(zeC hsz k).1 hk with h|rfl
  ·exact up (I.lcl k h j hj)
  ·exact up (hd j hj)
 ·by_cases e:k=i
  ·subst e;exact(zeC hsz k).2 (.inr rfl)
  ·exact up (I.mdone k (mem hk e) hm)
 ·have e:k≠i:=fun e=>hnl (e▸hm);exact up (I.udone k (mem hk e) hm hu)
 ·obtain⟨hn,hne⟩:=zsU hsz hn;have hkD:=mem hk hne;obtain⟨c',h1,h2⟩:=I.pp k hkD hm hl hn ok hok;obtain⟨e1,e2⟩:=znO (b:=b) (v:=v) S hok (far hkD hn hok);refine⟨c',by rw[e1,e2];exact h1,fun s hs=>?_⟩;rw[zcO,zcO,zG (S.dst i k o ok s ho hok hs hne),zG (S.dst i k o ok s ho hok hs hne)];exact h2 s hs
 ·obtain⟨hn,hne⟩:=zsU hsz hn;obtain⟨e1,e2⟩:=znO (b:=b) (v:=v) S hok (far (I.uD k hk).1 hn hok);rw[e1,e2];obtain⟨h1,h2⟩:=I.lu k hk hn ok hok;exact⟨h1,h2⟩
 ·obtain⟨h1,h2,h3,h4⟩:=I.lf k hk (dn hk hl);have hlt:=(bF.1 h2).1;refine⟨h1,by rw[g6 _ hlt h3];exact h2,fun hK=>?_,fun ok s hok hs=>?_⟩
  ·rcases g5 _ hK with h|h
   ·exact h3 h
   ·omega
  ·have hne:=ne (I.uD k hk).1;rw[zcO,zcO,zG (S.dst i k o ok s ho hok hs hne),zG (S.dst i k o ok s ho hok hs hne)];exact h4 ok s hok hs
 ·have base:(∀j oj,j≠i->OpenAt late mains D U L j->ops[j]? = some oj->oj.dst≠some s)->a.tmps[s]? = b.tmps[s]?:=fun h=>I.other s fun j oj hj hoj=>h j oj (ne hj.1) hj hoj;rw[zcO,zcO];by_cases hds:o.dst=some s
  ·rw[zH hds,zH hds,base fun j oj hji hj hoj hdj=>S.dst j i oj o s hoj ho hds (Ne.symm hji) hdj]
  ·rw[zG hds,zG hds];refine base fun j oj hji hj hoj=>hs j oj ⟨aS _ hj.1,hj.2.imp (fun h=>⟨h.1,up h.2⟩) fun h=>⟨h.1,h.2.1,?_⟩⟩ hoj;rw[getD_set_ne false (Ne.symm hji)];exact h.2.2
 ·have:=I.defers;cases o.dst<;>exact this
 ·obtain⟨hn,hne⟩:=zsU hsz hn;refine dA.2 ⟨I.pn k (mem hk hne) hm hl hn,?_⟩;cases h:ancB ops i k with
  |false=>rfl|true=>have:=zqF I.lcl hd h;rw[hn]at this;cases this
theorem SInv.same(I:SInv P ops Dsc late mains Jp Pn G Kp D [] L a b w V bk ob)(h:∀i,i<ops.size->L.getD i false=true):a=b:=by
 have h1:a.tmps=b.tmps:=Array.ext_getElem? fun s=>I.other s fun j oj hj _=>by
  rcases hj.2 with⟨h1,_⟩|⟨_,_,h2⟩
  ·cases h1
  ·rw[h j (I.lt j hj.1)]at h2;cases h2
 have h2:=I.defers;cases a;cases b;simp only at h1 h2;rw[h1,h2]
end
section
variable {Jp:Nat->World->Prop}{Pn:List Nat}{G:World->Prop}{Kp:Nat->Prop}{U:List Nat}{L:Array Bool}{a b:Act}{w:World}{V:Nat->Value}{bk:Nat->Nat}{ob:Nat->Obj}
theorem xcM{D:List Nat}:∀{rest:Sch} {U:List Nat} {f:Bool},schB ops late mains rest D U f=true->(∀i s,rest≠(.pu,i)::s)->(∀i s,rest≠(.la,i)::s) ->(∀m,zlS rest=some m->m∈mains/\m∉D/\m<ops.size/\∀j,j<ops.size->j∈D∨j=m∨∃d∈zgA ops j,d∉D)/\(zlS rest=none->∀j,j<ops.size->j∈D)
 |[],_,_,h,_,_=>by simp only[schB,aK,bH,bU,bW,zD]at h;exact⟨fun m hm=>(by cases hm),fun _=>h.2⟩
 |(.pu,i)::s,_,_,_,h1,_=>absurd rfl (h1 i s)|(.la,i)::s,_,_,_,_,h2=>absurd rfl (h2 i s)|(.mn,i)::s,_,_,h,_,_=>by
  simp only[schB,aK,bH,bU,bW,zD,cJ,cL,decide_eq_false_iff_not,List.any_eq_true,beq_iff_eq]at h;refine⟨fun m hm=>?_,fun hm=>(by cases hm)⟩;cases hm;refine⟨h.1.1.1.1.2,h.1.1.1.1.1.2,h.1.1.1.1.1.1,fun j hj=>?_⟩;rcases h.1.1.2 j hj with(h1|h1)|h1
  ·exact .inl h1
  ·exact .inr (.inl h1)
  ·exact .inr (.inr h1)
 |(.rv,i)::s,_,_,h,_,_=>by simp only[schB,aK]at h;have hs:=h.2;have:=xcM (rest:=s) hs (fun i s' e=>by subst e;simp[schB]at hs) (fun i s' e=>by subst e;simp[schB]at hs);exact⟨fun m hm=>this.1 m hm,fun hm=>this.2 hm⟩
theorem xbJ{D:List Nat}(S:zsZ ops late mains){m:Nat}:∀{rest:Sch} {U:List Nat} {f:Bool} {G:World->Prop} {Kp:Nat->Prop} {b:Act},SInv P ops Dsc late mains Jp Pn G Kp D U L a b w V bk ob->schB ops late mains rest D U f=true->wpS P ops Q rest Dsc Jp Pn G Kp b->zlS rest=some m->(∀k∈zgA ops m,L.getD k false=true) ->∃s f' U' G' Kp' b',SInv P ops Dsc late mains Jp Pn G' Kp' D U' L a b' w V bk ob/\schB ops late mains ((.mn,m)::s) D U' f'=true/\wpS P ops Q ((.mn,m)::s) Dsc Jp Pn G' Kp' b'
 |[],_,_,_,_,_,_,_,_,hm,_=>by cases hm
 |(.pu,i)::s,_,_,_,_,_,_,_,_,hm,_=>by cases hm
 |(.la,i)::s,_,_,_,_,_,_,_,_,hm,_=>by cases hm
 |(.mn,i)::s,U,f,G,Kp,b,I,h,hw,hm,_=>by cases hm;exact⟨s,f,U,G,Kp,b,I,h,hw⟩
 |(.rv,i)::s,U,f,G,Kp,b,I,h,hw,hm,hd=>by have hm':zlS s=some m:=hm;simp only[schB,hm',aK,bW,zD]at h;obtain⟨⟨hU,hanc⟩,hs⟩:=h;have hl:=zqF I.lcl hd hanc;obtain⟨o,ho,hw⟩:=hw;obtain⟨h1,h2,h3,_⟩:=I.lf i hU hl;obtain⟨G',Kp',g1,g2,g3,g4,g5,hw⟩:=hw _ _ _ h1 h3 ⟨w,I.gw,h2⟩;exact xbJ S (I.rv S ho hU hl g1 g2 g3 g4 g5) hs hw hm' hd
theorem xcB{D:List Nat}(S:zsZ ops late mains)(hall:∀i,i<ops.size->L.getD i false=true):∀{rest:Sch} {U:List Nat} {f:Bool} {G:World->Prop} {Kp:Nat->Prop} {b:Act},SInv P ops Dsc late mains Jp Pn G Kp D U L a b w V bk ob->schB ops late mains rest D U f=true->wpS P ops Q rest Dsc Jp Pn G Kp b->zlS rest=none->(∀p∈rest,p.1 = .rv)->Q .normal a w
 |[],U,f,G,Kp,b,I,h,hw,_,_=>by simp only[schB,aK,List.isEmpty_iff]at h;obtain⟨rfl,_⟩:=h;rw[I.same hall];exact hw w I.gw
 |(.pu,i)::s,_,_,_,_,_,_,_,_,_,hr=>by cases hr _ bC
 |(.la,i)::s,_,_,_,_,_,_,_,_,_,hr=>by cases hr _ bC
 |(.mn,i)::s,_,_,_,_,_,_,_,_,hm,_=>by cases hm
 |(.rv,i)::s,U,f,G,Kp,b,I,h,hw,hm,hr=>by have hm':zlS s=none:=hm;simp only[schB,hm',aK,bW,zD]at h;obtain⟨⟨hU,_⟩,hs⟩:=h;have hl:=hall i (I.lt i (I.uD i hU).1);obtain⟨o,ho,hw⟩:=hw;obtain⟨h1,h2,h3,_⟩:=I.lf i hU hl;obtain⟨G',Kp',g1,g2,g3,g4,g5,hw⟩:=hw _ _ _ h1 h3 ⟨w,I.gw,h2⟩;exact xcB S hall (I.rv S ho hU hl g1 g2 g3 g4 g5) hs hw hm' fun p hp=>hr p (aS _ hp)
theorem ytD{D:List Nat}:∀{rest:Sch} {U:List Nat} {f:Bool},schB ops late mains rest D U f=true->(∀i s,rest≠(.pu,i)::s)->(∀i s,rest≠(.la,i)::s)->zlS rest=none->∀p∈rest,p.1 = .rv
 |[],_,_,_,_,_,_,p,hp=>by cases hp
 |(.pu,i)::s,_,_,_,h1,_,_,_,_=>absurd rfl (h1 i s)|(.la,i)::s,_,_,_,_,h2,_,_,_=>absurd rfl (h2 i s)|(.mn,i)::s,_,_,_,_,_,hm,_,_=>by cases hm
 |(.rv,i)::s,_,_,h,_,_,hm,p,hp=>by
  have hm':zlS s=none:=hm;simp only[schB,hm',aK]at h;rcases aT.1 hp with rfl|hp
  ·rfl
  ·have hs:=h.2;exact ytD (rest:=s) hs (fun i s' e=>by subst e;simp[schB]at hs) (fun i s' e=>by subst e;simp[schB]at hs) hm' p hp
end
theorem zxN(S:zsZ ops late mains){m:Nat}(ihm:∀m',m'<m->∀(rest:Sch) (Dsc:Nat->Value->Nat->Obj->Prop) (D U:List Nat) (f:Bool) (Jp:Nat->World->Prop) (Pn:List Nat) (G:World->Prop) (Kp:Nat->Prop) (L:Array Bool) (a b:Act) (w:World) (V:Nat->Value) (bk:Nat->Nat) (ob:Nat->Obj),zeD ops.size L=m'->SInv P ops Dsc late mains Jp Pn G Kp D U L a b w V bk ob->schB ops late mains rest D U f=true->wpS P ops Q rest Dsc Jp Pn G Kp b->wpAny P .any ops Q m' L a w) {rest:Sch} {D U:List Nat} {f:Bool} {Jp:Nat->World->Prop} {Pn:List Nat} {G:World->Prop} {Kp:Nat->Prop} {L:Array Bool} {a b:Act} {w:World} {V:Nat->Value} {bk:Nat->Nat} {ob:Nat->Obj} (hm:zeD ops.size L=m) (I:SInv P ops Dsc late mains Jp Pn G Kp D U L a b w V bk ob) (hb:schB ops late mains rest D U f=true) (hw:wpS P ops Q rest Dsc Jp Pn G Kp b) (h1:∀i s,rest≠(.pu,i)::s) (h2:∀i s,rest≠(.la,i)::s):wpAny P .any ops Q m L a w:=by
 have hsat:=xcM hb h1 h2;have ltsz:∀{j},j∈Region.ready .any ops L->j<ops.size:=fun hj=>by obtain⟨_,o,ho,_⟩:=mem_ready.1 hj;exact(bF.1 ho).1
 have unl:∀{j},j∈Region.ready .any ops L->L.getD j false=false:=fun {j} hj=>by have hs:=ltsz hj;obtain⟨hu,_⟩:=mem_ready.1 hj;rw[ziA (by rw[I.size];exact hs)]at hu;exact hu
 cases m with
 |zero=>
  have hall:=zkI hm;have hn:zlS rest=none:=by
   cases h:zlS rest with
   |none=>rfl|some k=>obtain⟨_,g1,g2,_⟩:=hsat.1 k h;exact absurd (I.sub k (hall k g2)) g1
  refine⟨?_,xcB S hall I hb hw hn (ytD hb h1 h2 hn)⟩;rw[fK];intro j hj;have:=hall j (ltsz hj);rw[unl hj]at this;cases this
 |succ m=>
  have hex:∃i,i<ops.size/\L.getD i false=false:=by
   have:¬zeD ops.size L=0:=by omega
   unfold zeD at this;rw[List.countP_eq_zero]at this;have h2:∃i,¬(i∈bR ops.size->¬((!L.getD i false)=true)):=Classical.not_forall.1 this;obtain⟨i,h⟩:=h2;by_cases hi:i<ops.size
   ·refine⟨i,hi,?_⟩;cases hp:L.getD i false with
    |false=>rfl|true=>exact absurd (fun _=>by rw[hp];simp) h
   ·exact absurd (fun hmem=>absurd (bU.1 hmem) hi) h
  have hne:Region.ready .any ops L≠[]:=by obtain⟨i,hi,hu,hleast⟩:=zmO _ hex;have hoi:ops[i]? = some ops[i]:=cP hi;have:i∈Region.ready .any ops L:=mem_ready.2 ⟨by rw[ziA (by rw[I.size];exact hi)];exact hu,_,hoi,fun e he hb=>hleast _ (S.deps i hi _ (by rw[zsF hoi];exact zkL.2 ⟨e,he,hb,rfl⟩))⟩;intro h0;rw[h0]at this;cases this
  refine⟨fun h0=>absurd h0 hne,fun j hj=>?_⟩;have hjs:=ltsz hj;have hju:=unl hj;obtain⟨_,oj,hoj,hdone⟩:=mem_ready.1 hj;have hdep:∀k∈zgA ops j,L.getD k false=true:=fun k hk=>by rw[zsF hoj]at hk;obtain⟨e,he,hb,hon⟩:=zkL.1 hk;rw[<-hon];exact hdone e he hb
  have hcount:=zoT hjs (by rw[I.size];exact hjs) hju;have hjD:j∈D∨zlS rest=some j:=by
   cases h:zlS rest with
   |none=>exact .inl (hsat.2 h j hjs)|some k=>
    rcases(hsat.1 k h).2.2.2 j hjs with h3|h3|⟨d,h3,h4⟩
    ·exact .inl h3
    ·exact .inr (by rw[h3])
    ·exact absurd (I.sub d (hdep d h3)) h4
  unfold wpOp;simp only[hoj];rcases hjD with hjD|hjm
  ·by_cases hjl:j∈late
   ·have hjU:j∈U:=Classical.byContradiction fun h=>by have:=I.udone j hjD hjl h;rw[hju]at this;cases this
    obtain⟨hwd,hrun⟩:=I.lu j hjU hju oj hoj;obtain⟨v,k,x,w',g1,g2,g3,g4,g5⟩:=hrun w;obtain⟨he,hwt⟩:=I.ran S hoj hdep (fun h=>absurd h (S.dis j hjl));rw[zH (by rw[hwt];exact hwd)];refine .inl ?_;unfold Oper.wp;rw[he,g1];exact ihm m (by omega) rest Dsc D U f Jp Pn G Kp _ _ b w' _ _ _ (by omega) (I.exL S hoj hjU hju hdep g2 g3 g4 g5) hb hw
   ·by_cases hjm:j∈mains
    ·have:=I.mdone j hjD hjm;rw[hju]at this;cases this
    ·obtain⟨c,hc,hs⟩:=I.pp j hjD hjm hjl hju oj hoj;obtain⟨he,hwt⟩:=I.ran S hoj hdep (fun h=>absurd h hjm);have next:=ihm m (by omega) rest Dsc D U f Jp Pn G Kp _ _ b w _ _ _ (by omega) (I.exP S hoj hjD hjl hdep hs) hb hw
     rcases hc with⟨hwd,hrun⟩|⟨hwd,rfl⟩
     ·rw[zH (by rw[hwt];exact hwd)];refine .inl ?_;unfold Oper.wp;rw[he,hrun w (I.gj j (I.pn j hjD hjm hjl hju) w I.gw)];exact next
     ·rw[zG (by rw[hwt,hwd];simp)];exact next
  ·obtain⟨s,f',U',G',Kp',b',I',hb',hw'⟩:=xbJ S I hb hw hjm hdep;obtain⟨o,ho,hw'⟩:=hw';have:o=oj:=osi (ho.symm.trans hoj);subst this;simp only[schB,aK,bH,bU,bW,zD,cL,decide_eq_false_iff_not]at hb';obtain⟨⟨⟨⟨⟨⟨hb1,hb2⟩,hb3⟩,hb4⟩,hb5⟩,hb6⟩,hb7⟩:=hb'
   obtain⟨he,hwt⟩:=I'.ran S hoj hdep (fun _ u hu d hd hl=>by
    have:=hb6 u hu;rw[hd]at this;simp only[cL,decide_eq_false_iff_not]at this
    exact this (by unfold ykK;rw[hoj];exact hl))
   rcases hw' w I'.gw with⟨hwd,hout⟩|⟨hwd,hrest⟩
   ·rw[zH (by rw[hwt];exact hwd)];refine .inl ?_;rw[<-he]at hout;exact zqP hout fun v w' ⟨G2,K2,g1,g2,g3,g4,g5,g6,hws⟩=>ihm m (by omega) s Dsc (j::D) U' false Jp _ G2 K2 _ _ _ w' _ _ _ (by omega) (I'.exM S hoj hb2 hb3 hdep g1 g2 g3 g4 g5 g6) hb7 hws
   ·rw[zG (by rw[hwt,hwd];simp)];exact ihm m (by omega) s Dsc (j::D) U' false Jp _ G' Kp' _ _ _ w _ _ _ (by omega) (I'.exM S hoj hb2 hb3 hdep (fun t ht=>I'.gj t (dA.1 ht).1) I'.gx I'.gk I'.gw (fun _ h=>.inl h) (fun _ _ _=>rfl)) hb7 hrest
theorem ynE(S:zsZ ops late mains)(m:Nat):∀(rest:Sch) (Dsc:Nat->Value->Nat->Obj->Prop) (D U:List Nat) (f:Bool) (Jp:Nat->World->Prop) (Pn:List Nat) (G:World->Prop) (Kp:Nat->Prop) (L:Array Bool) (a b:Act) (w:World) (V:Nat->Value) (bk:Nat->Nat) (ob:Nat->Obj),zeD ops.size L=m->SInv P ops Dsc late mains Jp Pn G Kp D U L a b w V bk ob->schB ops late mains rest D U f=true->wpS P ops Q rest Dsc Jp Pn G Kp b ->
  wpAny P .any ops Q m L a w:=by
 induction m using Nat.strongRecOn with
 |_ m ihm=>
  intro rest;induction rest with
  |nil=>intro Dsc D U f Jp Pn G Kp L a b w V bk ob hm I hb hw;exact zxN S ihm hm I hb hw (fun _ _ e=>by cases e) (fun _ _ e=>by cases e)|cons p s ihs=>
   intro Dsc D U f Jp Pn G Kp L a b w V bk ob hm I hb hw;obtain⟨k,i⟩:=p;cases k with
   |pu=>obtain⟨o,c,J,ho,hc,hJ,hw⟩:=hw;simp only[schB,aK,bH,bW,zD,cL,decide_eq_false_iff_not]at hb;obtain⟨⟨⟨⟨⟨⟨h1,h2⟩,h3⟩,h4⟩,h5⟩,h6⟩,h7⟩:=hb;exact ihs _ _ _ _ _ _ _ _ _ _ _ _ _ _ _ hm (I.pu S ho h3 h4 h5 h6 hc hJ) h7 hw
   |la=>obtain⟨o,Di,ho,hwd,hc,hw⟩:=hw;simp only[schB,aK,bH,bW,zD,cL,decide_eq_false_iff_not]at hb;obtain⟨⟨⟨⟨⟨h1,h2⟩,h3⟩,h4⟩,h6⟩,h7⟩:=hb;exact ihs _ _ _ _ _ _ _ _ _ _ _ _ _ _ _ hm (I.la ho h3 h4 (S.dis i h4) h6 ⟨hwd,hc⟩) h7 hw
   |rv=>exact zxN S ihm hm I hb hw (fun _ _ e=>by cases e) (fun _ _ e=>by cases e)|mn=>exact zxN S ihm hm I hb hw (fun _ _ e=>by cases e) (fun _ _ e=>by cases e)
theorem yuF{l:List Oper}{a:Act}{w:World}{rest:Sch}{Jp:Nat->World->Prop}{G:World->Prop}{Kp:Nat->Prop}(hs:yzZ l.toArray late mains=true)(hb:schB l.toArray late mains rest [] [] false=true)(hw:wpS P l.toArray (OnlyNormal Q) rest Dsc Jp [] G Kp a) (h1:G w.drew) (h3:∀u u',G u->Ext u u'->G u') (h4:∀u,G u->∀k,Kp k->k<u.heap.size):RegAny P l Q a w:=by
 unfold RegAny;have hf:∀j,(Array.replicate l.toArray.size false).getD j false=false:=fun j=>getD_replicate_false _ _;refine ynE (xeW hs) _ rest Dsc [] [] false Jp [] G Kp _ a a _ (fun _=>undef) (fun _=>0) (fun _=>default) ?_ ?_ hb hw
 ·unfold zeD;rw[List.countP_eq_length.2 (fun j _=>by rw[hf];rfl)];simp
 ·exact { size:=(by simp),sub:=fun i hi=>(by rw[hf]at hi;cases hi),lt:=fun i hi=>(by cases hi),dcl:=fun i hi=>(by cases hi),lcl:=fun i hi=>(by rw[hf]at hi;cases hi),mdone:=fun i hi=>(by cases hi),udone:=fun i hi=>(by cases hi),uD:=fun i hi=>(by cases hi),pp:=fun i hi=>(by cases hi),lu:=fun i hi=>(by cases hi),lf:=fun i hi=>(by cases hi),lj:=fun i hi=>(by cases hi),other:=fun s _=>rfl,defers:=rfl,gw:=h1,pn:=fun i hi=>(by cases hi),gj:=fun i hi=>(by cases hi),gx:=h3,gk:=h4 }
end
end Go.Proofs.YtmbcolbbekbccaaGreat
namespace Go.Proofs.YtmbcolbbekbccaaGreat.Am
open Go Go.RowKit
inductive Ty where
 |i (k:IntKind)|b|s|er|sl (e:Ty)|pr (a c:Ty)|un|mp (a c:Ty)
 /-- a slice of which only the length is known -/
 |jk (T:TypeId)
 /-- a pointer to what is only read any more -/
 |pt (t:Ty)
 /-- a pointer to a marked block: what stands at its head, and what may stand behind that -/
 |pm (T:TypeId) (t g:Ty)
def den:Ty->Type
 |.i k=>match k with
  |.u8=>UInt8 | .u16=>UInt16 | .u32=>UInt32 | .u64=>UInt64|.i8=>Int | .i16=>Int | .i32=>Int | .i64=>Int
 |.b=>Bool|.s=>Bs|.er=>Bool|.sl e=>List (den e)|.pr a c=>den a×den c|.un=>Unit|.mp a c=>List (den a×den c)|.jk _=>Nat|.pt t=>den t|.pm _ t g=>den t×den g
def ikEq(a c:IntKind):Option (PLift (a=c)):=match a,c with
 |.i8,.i8=>some ⟨rfl⟩ | .i16,.i16=>some ⟨rfl⟩ | .i32,.i32=>some ⟨rfl⟩ | .i64,.i64=>some ⟨rfl⟩|.u8,.u8=>some ⟨rfl⟩ | .u16,.u16=>some ⟨rfl⟩ | .u32,.u32=>some ⟨rfl⟩ | .u64,.u64=>some ⟨rfl⟩|_,_=>none
def tyEq:(a c:Ty)->Option (PLift (a=c))
 |.i k,.i k'=>match ikEq k k' with
  |some ⟨h⟩=>some ⟨by rw[h]⟩|none=>none
 |.b,.b=>some ⟨rfl⟩|.s,.s=>some ⟨rfl⟩|.un,.un=>some ⟨rfl⟩|.er,.er=>some ⟨rfl⟩|.jk T,.jk T'=>match decEq T T' with
  |.isTrue h=>some ⟨by rw[h]⟩|.isFalse _=>none
 |.sl a,.sl c=>match tyEq a c with
  |some ⟨h⟩=>some ⟨by rw[h]⟩|none=>none
 |.pt a,.pt c=>match tyEq a c with
  |some ⟨h⟩=>some ⟨by rw[h]⟩|none=>none
 |.pm T a x,.pm T' c y=>match decEq T T',tyEq a c,tyEq x y with
  |.isTrue e,some ⟨h⟩,some ⟨k⟩=>some ⟨by rw[e,h,k]⟩|_,_,_=>none
 |.pr a x,.pr c y=>match tyEq a c,tyEq x y with
  |some ⟨h⟩,some ⟨k⟩=>some ⟨by rw[h,k]⟩|_,_=>none
 |.mp a x,.mp c y=>match tyEq a c,tyEq x y with
  |some ⟨h⟩,some ⟨k⟩=>some ⟨by rw[h,k]⟩|_,_=>none
 |_,_=>none
def ziC{a c:Ty}(h:a=c)(x:den a):den c:=h▸x
def tsz:Ty->Nat
 |.pr a c=>tsz a+tsz c|.un=>0|_=>1
def one:Ty->Bool
 |.pr _ _=>false|.un=>false|_=>true
def toI:(k:IntKind)->den (.i k)->Int
 |.u8,x=>((x:UInt8).toNat:Int)|.u16,x=>((x:UInt16).toNat:Int)|.u32,x=>((x:UInt32).toNat:Int)|.u64,x=>((x:UInt64).toNat:Int)|.i8,x=>x|.i16,x=>x|.i32,x=>x|.i64,x=>x
def ofI:(k:IntKind)->Int->den (.i k)
 |.u8,x=>i8 x|.u16,x=>i16 x|.u32,x=>i32 x|.u64,x=>i64 x|.i8,x=>IntKind.i8.wrap x|.i16,x=>IntKind.i16.wrap x|.i32,x=>IntKind.i32.wrap x|.i64,x=>w64 x
def exI:(k:IntKind)->Int->den (.i k)
 |.u8,x=>i8 x|.u16,x=>i16 x|.u32,x=>i32 x|.u64,x=>i64 x|.i8,x=>x|.i16,x=>x|.i32,x=>x|.i64,x=>x
def bitD(op:BinOp):(k:IntKind)->den (.i k)->den (.i k)->Option (den (.i k))
 |.u8,x,y=>match op with
  |.and=>some (@HAnd.hAnd UInt8 UInt8 UInt8 _ x y)|.or=>some (@HOr.hOr UInt8 UInt8 UInt8 _ x y)|.xor=>some (@HXor.hXor UInt8 UInt8 UInt8 _ x y)|_=>none
 |.u16,_,_=>none|.u32,x,y=>match op with
  |.and=>some (@HAnd.hAnd UInt32 UInt32 UInt32 _ x y)|.or=>some (@HOr.hOr UInt32 UInt32 UInt32 _ x y)|.xor=>some (@HXor.hXor UInt32 UInt32 UInt32 _ x y)|_=>none
 |.u64,x,y=>match op with
  |.and=>some (@HAnd.hAnd UInt64 UInt64 UInt64 _ x y)|.or=>some (@HOr.hOr UInt64 UInt64 UInt64 _ x y)|.xor=>some (@HXor.hXor UInt64 UInt64 UInt64 _ x y)|_=>none
 |.i8,x,y=>bits? op .i8 x y|.i16,x,y=>bits? op .i16 x y|.i32,x,y=>bits? op .i32 x y|.i64,x,y=>bits? op .i64 x y
where bits? (op:BinOp) (k:IntKind) (x y:Int):Option Int:=match op with
 |.and=>some (bits .and k x y)|.or=>some (bits .or k x y)|.xor=>some (bits .xor k x y)|.andNot=>some (bits .andNot k x y)|_=>none
abbrev zcM:List Ty->Type
 |[]=>Unit|[t]=>den t|t::t'::l=>den t×zcM (t'::l)
inductive Sh where
 |h (t:Ty)
 |own (id:Nat)
 |ptr (id off:Nat)
 |nilp
 |nils
 |mpr (id:Nat)
 /-- a slice without room behind its end -/
 |hc (e:Ty)
 /-- a pointer to what is only read -/
 |hr (t:Ty)
 |fn (f:Nat) (a c:List Sh)
 |ag (l:List Sh)
 /-- a list of pointers to the members of a family -/
 |fs (id:Nat)
 /-- this number -/
 |kn (k:IntKind) (n:Int)
inductive FC where
 |h (t:Ty)|mpr (id:Nat)
inductive FSh where
 |blk (T:TypeId) (l:List FC)|mp (K V:Ty)
inductive OSh where
 |blk (T:TypeId) (l:List Sh)
 |osl (e:Ty) (T:TypeId)
 /-- kp: no new key came since -/
 |mp (kp:Bool) (K V:Ty)
 /-- a range over object k, a map -/
 |it (k:Nat) (kp:Bool) (K:Ty)
 |is
 /-- an own slice whose first ones may be gone -/
 |qu (e:Ty) (T:TypeId)
 /-- a family: its list's type, its members' blocks -/
 |fam (T:TypeId) (os:List FSh)
 |dead
structure Shp where
 sl:List (Nat×Sh)
 hp:List OSh
def Sh.tysB:Sh->List Ty
 |.h t=>[t]|.hc e=>[.sl e]|.hr t=>[t]|_=>[]
def Sh.tysC:Sh->List Ty
 |.fn _ a c=>a.flatMap Sh.tysB++c.flatMap Sh.tysB|x=>x.tysB
def Sh.tys:Sh->List Ty
 |.ag l=>l.flatMap Sh.tysC|x=>x.tysC
def prT:List Ty->Ty
 |[]=>.un|[t]=>t|t::t'::l=>.pr t (prT (t'::l))
def toP:(l:List Ty)->den (prT l)->zcM l
 |[],_=>()|[_],x=>x|_::t'::l,x=>(x.1,toP (t'::l) x.2)
def ofP:(l:List Ty)->zcM l->den (prT l)
 |[],_=>()|[_],x=>x|_::t'::l,x=>(x.1,ofP (t'::l) x.2)
theorem yqF:∀(l:List Ty) (x:zcM l),toP l (ofP l x)=x
 |[],_=>rfl|[_],_=>rfl|_::t'::l,x=>by show(x.1,toP (t'::l) (ofP (t'::l) x.2))=x;rw[yqF (t'::l) x.2]
def FC.up:FC->Sh
 |.h t=>.h t|.mpr k=>.mpr k
def FSh.up:FSh->OSh
 |.blk T l=>.blk T (l.map FC.up)|.mp K V=>.mp false K V
def FC.tys:FC->List Ty
 |.h t=>[t]|.mpr _=>[]
def FSh.tys:FSh->List Ty
 |.blk _ l=>l.flatMap FC.tys|.mp K V=>[.mp K V]
def fT(os:List FSh):Ty:=prT (os.flatMap FSh.tys)
def OSh.tys:OSh->List Ty
 |.blk _ l=>l.flatMap Sh.tysC|.osl e _=>[.sl e]|.mp _ K V=>[.mp K V]|.it _ _ K=>[.sl K]|.is=>[.s,.i .i64]|.qu e _=>[.sl e]|.fam _ os=>[.sl (fT os)]|.dead=>[]
def Shp.tys(s:Shp):List Ty:=s.sl.flatMap (fun p=>p.2.tys)++s.hp.flatMap OSh.tys
def sF(os:List FSh):Shp:=⟨[(0,.ptr 0 0)],os.map FSh.up⟩
theorem FC.up_tys(c:FC):c.up.tysC=c.tys:=by cases c<;>rfl
theorem FC.ups_tys:∀l:List FC,(l.map FC.up).flatMap Sh.tysC=l.flatMap FC.tys
 |[]=>rfl|c::l=>by simp only[bS,jI,FC.up_tys,FC.ups_tys l]
theorem FSh.up_tys(o:FSh):o.up.tys=o.tys:=by
 cases o with
 |blk T l=>exact FC.ups_tys l|mp K V=>rfl
theorem FSh.ups_tys:∀os:List FSh,(os.map FSh.up).flatMap OSh.tys=os.flatMap FSh.tys
 |[]=>rfl|o::os=>by simp only[bS,jI,FSh.up_tys,FSh.ups_tys os]
theorem xbW(os:List FSh):(sF os).tys=os.flatMap FSh.tys:=FSh.ups_tys os
def toS(os:List FSh)(x:den (fT os)):zcM (sF os).tys:=cast (by rw[xbW]) (toP (os.flatMap FSh.tys) x)
inductive SV where
 |v (t:Ty) (x:den t)
 |nils|nilp|nilm|nilf|undef
 /-- what was not done -/
 |skp
 /-- a slice of no elements and no room -/
 |emp
 /-- a slice that has no room behind its end -/
 |cl (e:Ty) (xs:List (den e))
 /-- a slice that is not nil -/
 |nn (e:Ty) (xs:List (den e))
 /-- of a slice the first n; behind them lies what is left of it -/
 |rm (e:Ty) (n:Nat) (xs:List (den e))
 |mpr (id:Nat)
 |ptr (id off:Nat)
 |rp (t:Ty) (x:den t) (off:Nat)
 |own (id ver:Nat)
 |ep (id ver:Nat) (i:Int) (off:Nat)
 |fn (f:Nat) (a c:List SV)
 |ag (l:List SV)
 |tup (l:List SV)
 /-- a list of pointers to a family's members, a cell of it, a pointer to a member -/
 |fs (id ver:Nat)
 |fe (id ver:Nat) (i:Int)
 |fp (id:Nat) (i:Int) (off:Nat)
 /-- a pointer into a slice of which only the length is known -/
 |jp
inductive AO where
 |blk (T:TypeId) (cs:List SV)
 |osl (ver:Nat) (e:Ty) (T:TypeId) (xs:List (den e))
 |mp (gen:Nat) (K V:Ty) (es:List (den K×den V))
 /-- a range over a map: what came last, what is still to come -/
 |it (mid gen:Nat) (K:Ty) (cur:Option (den K)) (left:List (den K))
 /-- a range over a text -/
 |is (l:Bs) (p:Nat)
 /-- an own slice whose first ones may be gone -/
 |qu (ver:Nat) (e:Ty) (T:TypeId) (xs:List (den e))
 /-- a family; member i is out -/
 |fam (ver:Nat) (T:TypeId) (os:List FSh) (ks:List (den (fT os)))
 |famO (ver:Nat) (T:TypeId) (os:List FSh) (ks:List (den (fT os))) (i:Int)
 |dead
structure St where
 sl:List (Nat×SV)
 hp:List AO
def lkS:List (Nat×SV)->Nat->SV
 |[],_=>.undef|(d,x)::m,t=>bif aG d t then x else lkS m t
def atN{α:Type}:List α->Nat->Option α
 |[],_=>none|x::_,0=>some x|_::l,n+1=>atN l n
def setN{α:Type}:List α->Nat->α->List α
 |[],_,_=>[]|_::l,0,y=>y::l|x::l,n+1,y=>x::setN l n y
def St.put(σ:St)(d:Nat)(x:SV):St:=⟨(d,x)::σ.sl,σ.hp⟩
def cellsOf:(t:Ty)->den t->List SV
 |.pr a c,x=>cellsOf a x.1++cellsOf c x.2|.un,_=>[]|.i k,x=>[.v (.i k) x]|.b,x=>[.v .b x]|.s,x=>[.v .s x]|.er,x=>[.v .er x]|.sl e,x=>[.v (.sl e) x]|.mp a c,x=>[.v (.mp a c) x]|.jk T,x=>[.v (.jk T) x]|.pt t,x=>[.v (.pt t) x]|.pm T t g,x=>[.v (.pm T t g) x]
def svOf(t:Ty)(x:den t):SV:=bif one t then .v t x else .ag (cellsOf t x)
def pc(l:List SV)(o n:Nat):List SV:=(l.drop o).take n
def layS:List SV->Nat->List SV->List SV
 |l,_,[]=>l|[],_,_=>[]|_::l,0,x::xs=>x::layS l 0 xs|y::l,o+1,xs=>y::layS l o xs
inductive TD where
 |int (k:IntKind)|b|s|sl (E:TypeId)|st (fs:List (TypeId×Nat))|pt (E:TypeId)|ar (n:Nat) (E:TypeId)|map (K V:TypeId)|fn|ifc|ot
structure TI where
 td:TD
 sz:Nat
 z:List SV
 ty:Ty
 nb:Nat
def TI.agg(t:TI):Bool:=match t.td with
 |.st _=>true|.ar _ _=>true|_=>false
def svAt(f:TI)(l:List SV):Option SV:=bif aG l.length f.sz&&(Nat.blt 0 f.sz||f.agg)then(bif f.agg then some (.ag l)else match l with
 |[x]=>some x|_=>none)else none
abbrev TE:=List (Nat×TI)
def tyAt:TE->Nat->Option TI
 |[],_=>none|(d,x)::m,t=>bif aG d t then some x else tyAt m t
def zhC(hp:List AO):(t:Ty)->SV->Option (den t)
 |t,.v t' x=>match tyEq t' t with
  |some ⟨h⟩=>some (ziC h x)|none=>none
 |.jk _,.nils=>some (show Nat from 0)|.jk _,.emp=>some (show Nat from 0)|.sl e,.nils=>some ([]:List (den e))|.sl e,.emp=>some ([]:List (den e))|.sl e,.cl e' xs=>match tyEq e' e with
  |some ⟨h⟩=>some (ziC (by rw[h]:Ty.sl e'=Ty.sl e) xs)|none=>none
 |.sl e,.nn e' xs=>match tyEq e' e with
  |some ⟨h⟩=>some (ziC (by rw[h]:Ty.sl e'=Ty.sl e) xs)|none=>none
 |.sl e,.rm e' n xs=>match tyEq e' e with
  |some ⟨h⟩=>some (ziC (by rw[h]:Ty.sl e'=Ty.sl e) (show den (.sl e')from List.take n xs))|none=>none
 |.sl e,.own id ver=>match atN hp id with
  |some (.osl ver' e' _ xs)=>bif aG ver ver' then(match tyEq e' e with
   |some ⟨h⟩=>some (ziC (by rw[h]:Ty.sl e'=Ty.sl e) xs)|none=>none)else none
  |_=>none
 |_,_=>none
def zdR(hp:List AO):(t:Ty)->List SV->Option (den t)
 |.pr a c,l=>match zdR hp a (l.take (tsz a)),zdR hp c (l.drop (tsz a)) with
  |some x,some y=>some (x,y)|_,_=>none
 |.un,l=>match l with
  |[]=>some ()|_=>none
 |t,l=>match l with
  |[x]=>zhC hp t x|_=>none
def ofSV(hp:List AO)(t:Ty):SV->Option (den t)
 |.ag l=>bif one t then none else zdR hp t l
 |x=>bif one t then zhC hp t x else none
def cellL:SV->List SV
 |.ag l=>l|x=>[x]
def ygY:Value->Option SV
 |.bool x=>some (.v .b x)|.int k n=>bif decide (toI k (ofI k n)=n)then some (.v (.i k) (ofI k n))else none
 |.string x=>some (.v .s x.data.toList)|.slice none 0 0=>some .nils|.pointer none=>some .nilp|.map none=>some .nilm|.nilFunc=>some .nilf|.nilIface=>some (.v .er false)|_=>none
def ev(σ:St):Operand->Option SV
 |.tmp t=>some (lkS σ.sl t)|.const c=>ygY c|.func f=>some (.fn f [] [])|.global _=>none
end Go.Proofs.YtmbcolbbekbccaaGreat.Am
