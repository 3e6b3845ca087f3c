/- Parts of one proof. Conditions: as each theorem says. -/
import Derived.Stop.LaidErr
import Derived.Test.YtopanhneegpgcaaGreatDoorQyQ
open Bool renaming and_self->gG,false_or->dB,not_false->cX,not_true->aK,or_false->eA
open Int renaming reduceBEq->gI,tdiv->fR,tmod->dX,toNat_natCast->bY
open List renaming append_assoc->aU,append_nil->bJ,cons_append->bS,drop_eq_getElem_cons->bA,drop_length->bT,drop_zero->bQ,foldl_cons->dN,getElem?_eq_getElem->aH,getElem?_eq_none->cB,getElem_map->cG,getElem_mem->bC,length->cZ,length_append->aD,length_cons->aQ,length_drop->bL,length_map->aE,length_set->bW,length_singleton->eE,length_take->bX,map_append->cC,map_cons->bF,map_map->cW,mem_append->bH,mem_cons->aN,mem_cons_self->aO,mem_map->aY,mem_singleton->aZ,nil_append->bP,nodup_append->dZ,pairwise_map->bZ,takeWhile_append_dropWhile->cP,takeWhile_cons->eC,takeWhile_sublist->fS
open Nat renaming le_refl->aL,le_trans->bB,zero_add->aV,zero_le->bG
open Option renaming bind->aR,map_some->aX
open Go.Proofs.Tryz renaming prog->aA
open Go.Lib renaming decDigits->db
open Go.Op renaming bytesLess->j9
open Go.Proofs.Tryz renaming func10->O5
namespace Go.Proofs.YtopanhneegpgcaaGreatDoor.Am
open Go Go.RowKit
theorem tk{s:PS}(h:o7 s)(e:se s){a b:L8}(f:a.length<=1048576)(g:b.length<=1048576):BM X' (P1 s) a b=some (nI a b s):=by
 unfold BM zqJ nI;rw[DW f,p'];cases c:ia a with
 |false=>rfl|true=>
  rw[DW g];cases d:ia b with
  |false=>rfl|true=>
   simp only[aK,zH,p',eA];rw[Cn h e c,p'];cases s9 s a with
   |false=>rfl|true=>simp only[aK,zH,dB];rw[Cn h e d,p'];cases s9 s b<;>rfl
theorem HM{d:Type}{l:List d}{p:d->Bool}{body:Int->Option (Int⊕(Bool⊕Unit))}(k:l.length<=1048576) (e:∀(i:Nat) (b:i<l.length),body (i:Int)=bif p l[i]then some (.inr (.inl true))else some (.inl (((i+1:Nat):Int)))) (g:body (l.length:Int)=some (.inr (.inr ()))):iter body (0:Int)=some (bif l.any p then .inl true else .inr ()):=by
 have key:∀(f i:Nat),f+i=l.length->∀n,f<n->X9 body n (i:Int)=some (bif(l.drop i).any p then .inl true else .inr ()):=by
  intro f;induction f with
  |zero=>
   intro i b n h;obtain⟨n,rfl⟩:∃m,n=m+1:=⟨n-1,by omega⟩;have b:i=l.length:=by omega
   subst b;rw[Ba g,bT];rfl
  |succ f j=>
   intro i b n h;obtain⟨n,rfl⟩:∃m,n=m+1:=⟨n-1,by omega⟩;have a:i<l.length:=by omega
   have c:=e i a;rw[bA a,List.any_cons];cases hp:p l[i] with
   |true=>rw[hp]at c;rw[Ba c];rfl|false=>rw[hp]at c;rw[sb c,j (i+1) (by omega) n (by omega),dB]
 exact key l.length 0 (by omega) FU (by unfold FU;omega)
theorem Bu(M:MM)(x:L8×L8):(M.map (·.1)).any (fun m=>m.1==x.1&&m.2==x.2)=J' W8 M x:=by
 induction M with
 |nil=>rfl|cons p M a=>rw[bF,List.any_cons,a];rfl
theorem xeJ{s:PS}(d:s.2.2.2.2.length<=1048576)(a b:L8):yI X' (P1 s) a b=some (J' W8 s.2.2.2.2 (a,b)):=by
 have e:=DO s;unfold yI
 rw[HM (l:=Y1 s) (p:=fun m=>m.1==a&&m.2==b) (by omega) (fun i c=>by
  unfold zkA;rw[show(P1 s).2.2.2.2=Y1 s from rfl,X5 (by omega),Y6 rfl c];simp only[p'];rw[Y7 (by omega)]
  cases (Y1 s)[i].1==a<;>cases (Y1 s)[i].2==b<;>rfl) (by
  unfold zkA
  rw[show(P1 s).2.2.2.2=Y1 s from rfl,l6 (by omega)]),p',show(Y1 s).any (fun m=>m.1==a&&m.2==b)=J' W8 s.2.2.2.2 (a,b)from Bu s.2.2.2.2 (a,b)]
 cases J' W8 s.2.2.2.2 (a,b)<;>rfl
theorem uk(x:L8×L8):∀M:MM,(ab V9 M x ()).map (·.1)=(M.map (·.1)).take ((M.map (·.1)).takeWhile fun y=>V9 y x).length++[x]++(M.map (·.1)).drop ((M.map (·.1)).takeWhile fun y=>V9 y x).length
 |[]=>rfl|(k,u)::M=>by
  rw[bF,eC];unfold ab;cases a:V9 k x with
  |true=>rw[zF,bF,uk x M];rfl|false=>rfl
theorem Cu{x:L8×L8}{M:kG}(l:M.length<=1048576)(U:List Us)(G:List u6)(R:List Ro)(C:List Cl):
  iter (fun y:Int×List Us×List u6×List Ro×List Cl×kG=>vO X' x.1 x.2 y.1 y.2.1 y.2.2.1 y.2.2.2.1 y.2.2.2.2.1 y.2.2.2.2.2) ((0:Int),U,G,R,C,M)=some (((M.takeWhile fun y=>V9 y x).length:Int),U,G,R,C,M):=by
 have key:∀(f i:Nat),f+i=M.length->∀g,f<g->X9 (fun y:Int×List Us×List u6×List Ro×List Cl×kG=>vO X' x.1 x.2 y.1 y.2.1 y.2.2.1 y.2.2.2.1 y.2.2.2.2.1 y.2.2.2.2.2) g ((i:Int),U,G,R,C,M)=some (((i+((M.drop i).takeWhile fun y=>V9 y x).length:Nat):Int),U,G,R,C,M):=by
  intro f;induction f with
  |zero=>
   intro i d g j;obtain⟨g,rfl⟩:∃m,g=m+1:=⟨g-1,by omega⟩;have d:i=M.length:=by omega
   subst d;refine Ba ?_;simp only;unfold vO;rw[l6 (by omega),bT];rfl
  |succ f k=>
   intro i d g j;obtain⟨g,rfl⟩:∃m,g=m+1:=⟨g-1,by omega⟩;have a:i<M.length:=by omega
   have c:vO X' x.1 x.2 (i:Int) U G R C M=bif V9 M[i] x then some (.inl (((i+1:Nat):Int),U,G,R,C,M))else some (.inr ((i:Int),U,G,R,C,M)):=by unfold vO;rw[X5 (by omega),Y6 rfl a,tM,Y7 (by omega)];simp only[p'];cases j9 M[i].1 x.1<;>cases (M[i].1==x.1)<;>cases j9 M[i].2 x.2<;>rfl
   rw[bA a,eC];cases e:V9 M[i] x with
   |true=>rw[e]at c;rw[sb (s':=(((i+1:Nat):Int),U,G,R,C,M)) c,k (i+1) (by omega) g (by omega)];simp only[if_true,aQ];congr 3;omega|false=>rw[e]at c;rw[Ba (b:=((i:Int),U,G,R,C,M)) c];simp
 have h:=key M.length 0 (by omega) FU (by unfold FU;omega);rw[bQ,aV]at h;exact h
theorem Du{s:PS}(h:o7 s)(w:Vq s){a b:L8}(f:a.length<=1048576)(g:b.length<=1048576):EY X' a b (n3 s) (n1 s) (X1 s) (U1 s) (Y1 s)=some ((RH a b s).1,P1 (RH a b s).2):=by
 have i:=Tj w;have j:=DO s;have l:=w.mL;unfold EY RH;rw[show BM X' (n3 s,n1 s,X1 s,U1 s,Y1 s) a b=_ from tk h i f g,p'];unfold nI;cases !ia a || !ia b with
 |true=>rfl|false=>
  cases !s9 s a || !s9 s b with
  |true=>rfl|false=>
   simp only[zH,bne_self_eq_false];rw[show yI X' (n3 s,n1 s,X1 s,U1 s,Y1 s) a b=_ from xeJ (by omega) a b,p'];cases k:J' W8 s.2.2.2.2 (a,b) with
   |true=>rfl|false=>
    rw[j];simp only[zH];by_cases c:64<=s.2.2.2.2.length
    ·rw[X5 (show(s.2.2.2.2.length:Int)≥64 by omega),zA c];rfl
    ·have d:=uk (a,b) s.2.2.2.2;rw[show s.2.2.2.2.map (·.1)=Y1 s from rfl]at d;have e:((Y1 s).takeWhile fun y=>V9 y (a,b)).length<=(Y1 s).length:=(fS _).length_le;rw[l6 (show ¬(s.2.2.2.2.length:Int)≥64 by omega),zB c,zH,show iter _ ((0:Int),n3 s,n1 s,X1 s,U1 s,Y1 s)=_ from Cu (x:=(a,b)) (by omega) (n3 s) (n1 s) (X1 s) (U1 s),p'];simp only;rw[lN e,p',Pe e,p',mh _ (by rw[bX];omega),p',O7 (by rw[bX];simp;omega),p',O7 (by simp only[aD,bX,bL,eE];omega),p',<-d];rw[show Y0 W8 V9 s.2.2.2.2 (a,b) ()=ab V9 s.2.2.2.2 (a,b) ()from by unfold Y0;rw[k];rfl];rfl
theorem rA{s:PS}(h:o7 s)(w:Vq s){a b:L8}(f:a.length<=1048576)(n:b.length<=1048576):GY X' a b (n3 s) (n1 s) (X1 s) (U1 s) (Y1 s)=some ((SH a b s).1,P1 (SH a b s).2):=by
 have o:=Tj w;have p:=DO s;have q:=w.mL;unfold GY SH;rw[show BM X' (n3 s,n1 s,X1 s,U1 s,Y1 s) a b=_ from tk h o f n,p'];unfold nI;cases !ia a || !ia b with
 |true=>rfl|false=>
  cases !s9 s a || !s9 s b with
  |true=>rfl|false=>
   simp only[zH,bne_self_eq_false];rw[show yI X' (n3 s,n1 s,X1 s,U1 s,Y1 s) a b=_ from xeJ (by omega) a b,p'];cases r:J' W8 s.2.2.2.2 (a,b) with
   |false=>rfl|true=>
    simp only[aK,zH]
    rw[show iter _ ((0:Int),n3 s,n1 s,X1 s,U1 s,Y1 s,([]:kG))=_ from EM (l:=Y1 s) (F:=fun c:kG=>(n3 s,n1 s,X1 s,U1 s,Y1 s,c)) (F':=fun c:kG=>(n3 s,n1 s,X1 s,U1 s,Y1 s,c)) (g:=fun m=>bif !(m.1==a&&m.2==b)then [m]else []) (body:=fun x:Int×List Us×List u6×List Ro×List Cl×kG×kG=>FY X' a b x.1 x.2.1 x.2.2.1 x.2.2.2.1 x.2.2.2.2.1 x.2.2.2.2.2.1 x.2.2.2.2.2.2) (by omega) (fun m _=>by cases !(m.1==a&&m.2==b)<;>simp) (fun i k c f=>by
     simp only;unfold FY zoU;rw[X5 (by omega),Y6 rfl k,p',p',Y7 (by omega)];unfold bne;have d:=Y6 (l:=Y1 s) (j:=(i:Int)) rfl k;cases (Y1 s)[i].1==a with
     |false=>simp only[cX,zF,p',Bool.false_and];rw[d,p',O7 (by simp;omega),p']|true=>
      simp only[aK,zH,p',Bool.true_and];cases (Y1 s)[i].2==b with
      |true=>simp only[aK,zH,bJ]|false=>
       simp only[cX,zF]
       rw[d,p',O7 (by simp;omega),p']) (fun c=>by
     simp only;unfold FY
     rw[l6 (by omega)]),p',ET]
    have e:(l5 W8 s.2.2.2.2 (a,b)).map (·.1)=(Y1 s).filter fun m=>!(m.1==a&&m.2==b):=by rw[yy.Zd h.mR];unfold Y1;rw[List.filter_map];rfl
    rw[show P1 (s.1,s.2.1,s.2.2.1,s.2.2.2.1,l5 W8 s.2.2.2.2 (a,b))=(n3 s,n1 s,X1 s,U1 s,(l5 W8 s.2.2.2.2 (a,b)).map (·.1))from rfl,e]
theorem yzF{s:PS}(h:o7 s)(b:se s)(n:L8):fv X' (P1 s) n=some (match W0 j' s.2.1 n with
  |some g=>(Q8 (n,g),true)|none=>((([]:L8),([]:kH),([]:kH),([]:kH),(0:Int)),false)):=by
 rcases yuP h b n with⟨g,c,e⟩|⟨a,e⟩
 ·rw[e,kS.get_mem h.gR c];rfl
 ·rw[e,kS.Qm a]
theorem xeG{B:Int}(hB:B<=1099511627776){s:PS}(h:M0 B s){k:Nat}(hk:k<3){n x:L8}(u:n.length<=1048576)(v:x.length<=1048576):tY X' n (k:Int) x (n3 s) (n1 s) (X1 s) (U1 s) (Y1 s)=some ((Hq k n x s).1,P1 (Hq k n x s).2):=by
 have hp:=h.pre hB;have w:=h.whole;have d:=Tj w;unfold tY zpY Hq;rw[Wm u,p'];cases U6 n with
 |false=>rfl|true=>
  rw[Wm v];cases U6 x with
  |false=>rfl|true=>
   simp only[aK,zH,p',eA];rw[uM,yzF hp d];cases y:W0 j' s.2.1 n with
   |none=>rfl|some g=>
    have b:=kS.get_some y;obtain⟨_,z,G⟩:=h.gn n g b;have A:g.2<=1099511627776:=by omega
    have q:(Q3 k g).length<=1048576:=bB (h.Z4 b hk) (by decide);rw[aX,p'];unfold zpW;simp only[aK,zH];rw[xdC hp d hk,p'];cases k9 k s x with
    |false=>rfl|true=>
     simp only[aK,zH,p'];rw[show Xg X' (Q8 (n,g)) (k:Int)=_ from FT hk (n,g),p',oI _ _ q,p'];cases C:(Q3 k g).contains x with
     |true=>rfl|false=>
      simp only[zH];have fin:∀t,t=(n3 s,n1 s,X1 s,U1 s,Y1 s,Q8 (n,g))->(aR (Xg X' t.2.2.2.2.2 (k:Int)) fun e=>aR (qM X' e x) fun f=>aR (iv X' t.2.2.2.2.2 (k:Int) f) fun i=>aR (AM X' i t.1 t.2.1 t.2.2.1 t.2.2.2.1 t.2.2.2.2.1) fun a=>some ((0:Int),a.1,a.2.2.2.2,a.2.1,a.2.2.1,a.2.2.2.1))=some ((0:Int),P1 (s.1,Y0 j' O' s.2.1 n (xj k g (uj x (Q3 k g))),s.2.2)):=fun t D=>by subst D;simp only;rw[show Xg X' (Q8 (n,g)) (k:Int)=_ from FT hk (n,g),p',yxV _ q,p',show uc (Q3 k (n,g).2) x=uj x (Q3 k g)from by unfold uc;rw[C];rfl,show iv X' (Q8 (n,g)) (k:Int) _=_ from yyX (p:=(n,g)) hk z A _,p',rk hp d,p'];rfl
      unfold zqF;by_cases r:k=1
      ·subst r;obtain⟨l,E,H,F⟩:=jr hp d (fun k g j=>w.gl k g j 1 (by decide)) w.gL x;have c:l.contains n=true↔Reach s.2.1 x n:=by rw[List.contains_iff_mem,F]
       rw[show((((1:Nat):Int))==1)=true from rfl,zF];rw[show nO X' x (P1 s).1 (P1 s).2.1 (P1 s).2.2.1 (P1 s).2.2.2.1 (P1 s).2.2.2.2=_ from Sj x,E,aX,p'];simp only;rw[oI _ _ (by omega),p'];cases m:l.contains n with
       |true=>rw[zJ ⟨rfl,c.1 m⟩];rfl|false=>
        have o:¬Reach s.2.1 x n:=fun h=>by rw[c.2 h]at m;cases m
        rw[zI (fun h=>o h.2)];simp only[zH,p'];exact fin (n3 s,n1 s,X1 s,U1 s,Y1 s,Q8 (n,g)) rfl
      ·rw[show((k:Int)==1)=false from by simp;omega,zH,p',zI (fun h=>r h.1)];exact fin (n3 s,n1 s,X1 s,U1 s,Y1 s,Q8 (n,g)) rfl
theorem xdX{B:Int}(hB:B<=1099511627776){s:PS}(h:M0 B s){k:Nat}(hk:k<3){n x:L8}(d:n.length<=1048576)(e:x.length<=1048576):uY X' n (k:Int) x (n3 s) (n1 s) (X1 s) (U1 s) (Y1 s)=some ((Iq k n x s).1,P1 (Iq k n x s).2):=by
 have hp:=h.pre hB;have w:=h.whole;have b:=Tj w;unfold uY zpV Iq;rw[Wm d,p'];cases U6 n with
 |false=>rfl|true=>
  rw[Wm e];cases U6 x with
  |false=>rfl|true=>
   simp only[aK,zH,p',eA];rw[uM,yzF hp b];cases f:W0 j' s.2.1 n with
   |none=>rfl|some g=>
    have a:=kS.get_some f;obtain⟨_,i,l⟩:=h.gn n g a;have j:g.2<=1099511627776:=by omega
    have c:(Q3 k g).length<=1048576:=bB (h.Z4 a hk) (by decide);rw[aX,p'];unfold zqE;simp only[aK,zH];rw[xdC hp b hk,p'];cases k9 k s x with
    |false=>rfl|true=>
     simp only[aK,zH];rw[show Xg X' (Q8 (n,g)) (k:Int)=_ from FT hk (n,g),p',oI _ _ c,p'];cases m:(Q3 k g).contains x with
     |false=>rfl|true=>simp only[aK,zH,p'];rw[show Xg X' (Q8 (n,g)) (k:Int)=_ from FT hk (n,g),p',lA _ c,p',show iv X' (Q8 (n,g)) (k:Int) _=_ from yyX (p:=(n,g)) hk i j _,p',show AM X' _ (P1 s).1 (P1 s).2.1 (P1 s).2.2.1 (P1 s).2.2.2.1 (P1 s).2.2.2.2=_ from rk hp b _,p'];rfl
def NY(o:Yu):Prop:=o.2.2.1.length<=1048576/\o.2.2.2.1.length<=1048576/\(o.2.2.2.2.2.1.1.length<=1048576/\Sm o.2.2.2.2.2.1.2)/\o.2.2.2.2.2.2.1.length<=1048576/\o.2.2.2.2.2.2.2.1.length<=1048576/\Sm o.2.2.2.2.2.2.2.2.1/\Sm o.2.2.2.2.2.2.2.2.2.1
theorem jv{c:Bool}{a b:Option (Int×uI)}{x y:Int×PS}(h:a=some (x.1,P1 x.2))(k:b=some (y.1,P1 y.2)):(bif c then a else b)=some ((bif c then x else y).1,P1 (bif c then x else y).2):=by cases c<;>assumption
theorem sA{B:Int}(hB:B<=1099511627776){s:PS}(h:M0 B s){o:Yu}(l:NY o):vT X' o (n3 s) (n1 s) (X1 s) (U1 s) (Y1 s)=some ((UA o s).1,P1 (UA o s).2):=by
 have hp:=h.pre hB;have w:=h.whole;obtain⟨a,b,⟨m,n⟩,p,q,r,t⟩:=l;unfold vT UA;refine jv (by rw[Xz hp w a b];rfl) (jv (by rw[Yz hB h a b];rfl) (jv (by rw[Zz hB h _ a];rfl) (jv (by rw[xu hB h a];rfl) (jv (by rw[kA hp w a];rfl) (jv (by rw[yu hB h a];rfl) ?_)))));unfold zvW;by_cases g:o.2.1=6
 ·simp only[g,gI,zF,p'];rw[show o6 ((2:Int) != 0)=some ()from rfl,p',show P0 (fR (P0 ((6:Int)-6)) 2)=((0:Nat):Int)from by decide,xeG hB h (by decide) a b];rfl
 by_cases i:o.2.1=7
 ·unfold uT;simp only[i,gI,zF,zH,p'];rw[show o6 ((2:Int) != 0)=some ()from rfl,p',show P0 (fR (P0 ((7:Int)-7)) 2)=((0:Nat):Int)from by decide,xdX hB h (by decide) a b];rfl
 by_cases j:o.2.1=8
 ·simp only[j,gI,zF,zH,p'];rw[show o6 ((2:Int) != 0)=some ()from rfl,p',show P0 (fR (P0 ((8:Int)-6)) 2)=((1:Nat):Int)from by decide,xeG hB h (by decide) a b];rfl
 by_cases k:o.2.1=9
 ·unfold uT;simp only[k,gI,zF,zH,p'];rw[show o6 ((2:Int) != 0)=some ()from rfl,p',show P0 (fR (P0 ((9:Int)-7)) 2)=((1:Nat):Int)from by decide,xdX hB h (by decide) a b];rfl
 by_cases c:o.2.1=10
 ·simp only[c,gI,zF,zH,p'];rw[show o6 ((2:Int) != 0)=some ()from rfl,p',show P0 (fR (P0 ((10:Int)-6)) 2)=((2:Nat):Int)from by decide,xeG hB h (by decide) a b];rfl
 by_cases d:o.2.1=11
 ·unfold uT;simp only[d,gI,zF,zH,p'];rw[show o6 ((2:Int) != 0)=some ()from rfl,p',show P0 (fR (P0 ((11:Int)-7)) 2)=((2:Nat):Int)from by decide,xdX hB h (by decide) a b];rfl
 have u:(o.2.1==6)=false:=by simpa using g
 have v:(o.2.1==7)=false:=by simpa using i
 have x:(o.2.1==8)=false:=by simpa using j
 have y:(o.2.1==9)=false:=by simpa using k
 have e:(o.2.1==10)=false:=by simpa using c
 have f:(o.2.1==11)=false:=by simpa using d
 unfold uT;simp only[u,v,x,y,e,f,zH,p'];exact jv (by rw[pA hp w m n];rfl) (jv (by rw[zu hB h a];rfl) (jv (by rw[qA hp w p q r t];rfl) (jv (by rw[Au hB h a];rfl) (jv (by rw[Du hp w a b];rfl) (jv (by rw[rA hp w a b];rfl) rfl)))))
theorem UF{s:PS}(h:o7 s)(f:se s)(x:L8):oO X' (P1 s) x=some (r6 j' s.2.2.1 x zR,J' j' s.2.2.1 x):=by
 unfold oO;rw[jT h f,p'];simp only;cases b:J' j' s.2.2.1 x with
 |false=>
  rw[kc]at b;rw[pb];cases c:W0 j' s.2.2.1 x with
  |none=>rfl|some r=>rw[c]at b;cases b
 |true=>
  rw[aK,zH];have a:=kI (YA h.rR) (x:=x);rw[ZA,b]at a;generalize y7 x (s.2.2.1.map (·.1))=j at a ⊢;by_cases d:j<s.2.2.1.length
  ·rw[aH (show j<(s.2.2.1.map (·.1)).length by rw[aE];exact d),cG]at a;have e:(s.2.2.1[j]).1=x:=by have:=a.symm;simpa using this
   have g:(x,(s.2.2.1[j]).2)∈s.2.2.1:=by rw[<-e];exact bC d
   have c:(P1 s).2.2.1=X1 s:=rfl;rw[c,Y6 rfl (show j<(X1 s).length by unfold X1;rw[aE];exact d),p'];rw[pb,kS.get_mem h.rR g];unfold X1;rw[cG];rfl
  ·rw[cB (by rw[aE];omega)]at a;cases a
theorem Eu{s:PS}(h:o7 s)(d:se s)(x:L8):wT X' x (n3 s) (n1 s) (X1 s) (U1 s) (Y1 s)=some (r6 j' s.2.2.2.1 x zC,J' j' s.2.2.2.1 x,P1 s):=by
 unfold wT;rw[show WA X' (n3 s,n1 s,X1 s,U1 s,Y1 s) x=_ from QX h d x,p'];simp only;cases b:J' j' s.2.2.2.1 x with
 |false=>
  rw[kc]at b;rw[pb];cases f:W0 j' s.2.2.2.1 x with
  |none=>rfl|some r=>rw[f]at b;cases b
 |true=>
  rw[aK,zH];have a:=kI (YA h.cR) (x:=x);rw[ZA,b]at a;generalize y7 x (s.2.2.2.1.map (·.1))=j at a ⊢;by_cases c:j<s.2.2.2.1.length
  ·rw[aH (show j<(s.2.2.2.1.map (·.1)).length by rw[aE];exact c),cG]at a;have e:(s.2.2.2.1[j]).1=x:=by have:=a.symm;simpa using this
   have g:(x,(s.2.2.2.1[j]).2)∈s.2.2.2.1:=by rw[<-e];exact bC c
   rw[Y6 rfl (show j<(U1 s).length by unfold U1;rw[aE];exact c),p'];rw[pb,kS.get_mem h.cR g];unfold U1;rw[cG];rfl
  ·rw[cB (by rw[aE];omega)]at a;cases a
def VF(s:PS)(p:L8):Bool:=bif !ia p then false else bif p.head? == some 99 then J' j' s.2.2.2.1 (p.drop 2)else(r6 j' s.1 (p.drop 2) zU).2.2.1
theorem Vn(s:PS)(p:L8):sL X' p s.1 s.2.1 s.2.2.1 s.2.2.2.1 s.2.2.2.2=some (VF s p,s):=by
 unfold sL VF;rw[pj,p'];cases hp:ia p with
 |false=>rfl|true=>simp only[aK,zH];rw[xaA hp s];unfold s9;obtain⟨c,l,rfl,a,_⟩:=GH hp;rw[show idx (c::58::l) (0:Int)=some c from rfl,p',show T4 (c::58::l) (2:Int)=some l from by rw[show(2:Int)=((2:Nat):Int)from rfl,Pe (by simp)];rfl];rcases a with rfl|rfl<;>rfl
theorem xfG{s:PS}(h:o7 s)(b:se s){p:L8}(a:p.length<=1048576):SF X' (P1 s) p=some (VF s p):=by
 unfold SF VF;cases hp:ia p with
 |false=>rw[show tI X' (P1 s) p=some false from by unfold tI;rw[DW a,hp];rfl];rfl|true=>
  rw[Cn h b hp,p'];obtain⟨c,l,rfl,d,_⟩:=GH hp;rw[show idx (c::58::l) (0:Int)=some c from rfl,p',show T4 (c::58::l) (2:Int)=some l from by rw[show(2:Int)=((2:Nat):Int)from rfl,Pe (by simp)];rfl];rcases d with rfl|rfl
  ·rw[show s9 s (117::58::l)=J' j' s.1 l from rfl];simp only[aK,zH];rw[show(((117:UInt8).toNat:Int)==((99:UInt8).toNat:Int))=false from rfl,zH,p',LY h b,p'];rw[show(bif((117::58::l:L8).head? == some 99)then J' j' s.2.2.2.1 ((117::58::l).drop 2)else(r6 j' s.1 ((117::58::l).drop 2) zU).2.2.1)=(r6 j' s.1 l zU).2.2.1 from rfl];rw[kc,pb];cases W0 j' s.1 l<;>rfl
  ·rw[show s9 s (99::58::l)=J' j' s.2.2.2.1 l from rfl];simp only[aK,zH];rw[show(bif((99::58::l:L8).head? == some 99)then J' j' s.2.2.2.1 ((99::58::l).drop 2)else(r6 j' s.1 ((99::58::l).drop 2) zU).2.2.1)=J' j' s.2.2.2.1 l from rfl];cases J' j' s.2.2.2.1 l<;>rfl
theorem yzI{l:kH}(h:l.length<=1048576):wH X' l=some l:=by unfold wH;rw[mh _ (by omega),p']
theorem uA{B:Int}(hB:B<=1099511627776){s:PS}(h:M0 B s){x:L8}(t:x.length<=1048570):xT X' x (n3 s) (n1 s) (X1 s) (U1 s) (Y1 s) s.1 s.2.1 s.2.2.1 s.2.2.2.1 s.2.2.2.2=some (true,n3 s,n1 s,X1 s,U1 s,Y1 s,s):=by
 have hp:=h.pre hB;have w:=h.whole;have a:=Tj w;have m:(r6 j' s.2.2.1 x zR).2.length<=1048576:=by
  rw[pb];cases c:W0 j' s.2.2.1 x with
  |none=>exact bG _|some r=>exact bB (UL (h.ro x r (kS.get_some c)).2) (by decide)
 have zc:(r6 j' s.2.2.2.1 x zC).2.2.1.length<=1048576/\(r6 j' s.2.2.2.1 x zC).2.2.2.1.length<=1048576:=by
  rw[pb];cases c:W0 j' s.2.2.2.1 x with
  |none=>exact⟨bG _,bG _⟩|some r=>have:=rX (h.cl x r (kS.get_some c)).2;exact⟨bB this.1 (by decide),bB this.2 (by decide)⟩
 obtain⟨g,b,d,e,f,i,j⟩:∃(g:u6) (b:Bool),HY X' x s.1 s.2.1 s.2.2.1 s.2.2.2.1 s.2.2.2.2=some (g,b,s)/\fv X' (P1 s) x=some (g,b)/\g.2.1.length<=1048576/\g.2.2.1.length<=1048576/\g.2.2.2.1.length<=1048576:=by
  rw[yzF hp a];unfold HY;simp only;rw[kc,pb];cases c:W0 j' s.2.1 x with
  |none=>exact⟨_,_,rfl,rfl,bG _,bG _,bG _⟩|some g=>have k:=kS.get_some c;have n:(Q3 0 g).length<=1048576:=hp.sz x g k 0 (by decide);have o:(Q3 1 g).length<=1048576:=hp.sz x g k 1 (by decide);have q:(Q3 2 g).length<=1048576:=hp.sz x g k 2 (by decide);refine⟨Q8 (x,g),true,?_,rfl,n,o,q⟩;simp only[Option.isSome_some,Option.getD_some,aK,zH];unfold HR;rw[yzI (l:=g.1.1) n,p',yzI (l:=g.1.2.1) o,p',yzI (l:=g.1.2.2) q,p',p'];rfl
 unfold xT ztM;simp only[p'];rw[show kB X' (n3 s,n1 s,X1 s,U1 s,Y1 s) x=_ from LY hp a x,p',d,p',uM,e,aX,p'];unfold ztJ;simp only;rw[nX m,p',p'];simp only;rw[show pO X' x (P1 s).1 (P1 s).2.1 (P1 s).2.2.1 (P1 s).2.2.2.1 (P1 s).2.2.2.2=_ from ur x,UF hp a,aX,p'];unfold zrA;simp only;rw[oX zc.1 zc.2,p',p'];rw[show wT X' x (P1 s).1 (P1 s).2.1 (P1 s).2.2.1 (P1 s).2.2.2.1 (P1 s).2.2.2.2=_ from Eu hp a x,p'];unfold zvT;simp only[beq_self_eq_true,decide_true,gG,aK,zH,bne_self_eq_false];rw[Vj f i j,p',aK,zH,Wj m,p',aK,zH,Xj zc.1 zc.2,p',aK,zH,p'];simp only;rw[O7 (by simp;omega),p',Vn,p',p'];simp only;rw[show SF X' ((P1 s).1,(P1 s).2.1,(P1 s).2.2.1,(P1 s).2.2.2.1,(P1 s).2.2.2.2) _=_ from xfG hp a (p:=[117,58]++x) (by simp;omega),p',beq_self_eq_true,zF,O7 (by simp;omega),p',Vn,p',p'];simp only;rw[show SF X' ((P1 s).1,(P1 s).2.1,(P1 s).2.2.1,(P1 s).2.2.2.1,(P1 s).2.2.2.2) _=_ from xfG hp a (p:=[99,58]++x) (by simp;omega),p',beq_self_eq_true,zF,Vn,p'];rw[show SF X' ((P1 s).1,(P1 s).2.1,(P1 s).2.2.1,(P1 s).2.2.2.1,(P1 s).2.2.2.2) _=_ from xfG hp a (p:=x) (by omega),p',beq_self_eq_true,zF,nz h,p'];simp only;rw[show sM X' x (P1 s).1 (P1 s).2.1 (P1 s).2.2.1 (P1 s).2.2.2.1 (P1 s).2.2.2.2=_ from Kz hp w x,p'];simp only;rw[RF (Oz w _),p'];rfl
theorem vA{n:Nat}(h:n<256):i8 ((n:Nat):Int)=UInt8.ofNat n:=by unfold i8;congr 1;omega
theorem Fu{m:Nat}(h:¬m<10):db m=db (m/10)++[UInt8.ofNat (48+m%10)]:=by rw[yyL,zI h]
theorem OY(u:Nat)(i:u<9223372036854775808):CL X' (u:Int)=some (db u):=by
 unfold CL;have j:=tV 19 u (by decide) (by omega)
 have hI:T (iter (fun x=>zsA X' x.1 x.2) ((u:Int),([]:Bs))) fun r=>∃d:Nat,d<10/\r.1=(d:Int)/\UInt8.ofNat (48+d)::r.2=db u:=by
  refine T.iter (fun x=>∃m:Nat,x.1=(m:Int)/\m<9223372036854775808/\db m++x.2=db u) (fun x=>(db x.1.toNat).length) _ (fun x k=>?_) ⟨u,rfl,i,by simp⟩ (by simp only[bY];omega);obtain⟨v,s⟩:=x;obtain⟨m,e,p,a⟩:=k;simp only at e a;subst e;unfold zsA;by_cases g:(m:Int)>9
  ·have b:P0 ((48:Int)+dX (m:Int) 10)=((48+m%10:Nat):Int):=by
    have:dX (m:Int) 10=((m%10:Nat):Int):=by rw[Int.tmod_eq_emod_of_nonneg (by omega)];omega
    rw[this,oe (by omega) (by omega)];omega
   have c:P0 (fR (m:Int) 10)=((m/10:Nat):Int):=by
    have:fR (m:Int) 10=((m/10:Nat):Int):=by rw[Int.tdiv_eq_ediv_of_nonneg (by omega)];omega
    rw[this,oe (by omega) (by omega)]
   have l:s.length<=19:=by have:=congrArg cZ a;rw[aD]at this;omega
   have f:=Fu (m:=m) (by omega);rw[X5 g,zA (show(0:Int)<10 by decide),dm rfl,p',b,c,O7 (by simp;omega),p',show((10:Int) != 0)=true from rfl,dm rfl,p',vA (by omega)];refine T.ok ⟨⟨m/10,rfl,by omega,?_⟩,?_⟩
   ·simp only[];rw[f,aU]at a;exact a
   ·simp only[bY];rw[f,aD];simp
  ·rw[l6 g];refine T.ok ⟨m,by omega,rfl,?_⟩;rw[yyL,zJ (by omega)]at a;exact a
 obtain⟨r,n,d,q,o,h⟩:=hI;rw[n,p',o,oe (by omega) (by omega),show(48:Int)+(d:Int)=((48+d:Nat):Int) by omega,vA (by omega)];have:r.2.length<=19:=by have:=congrArg cZ h;rw[aQ]at this;omega
 rw[O7 (by simp;omega),p'];exact congrArg some h
theorem wA(l:kH)(d:(pa l).length<=100000000)(e:l.length<=1048576):BH X' l=some (pa l):=by
 unfold BH
 have hI:iter (fun x=>CW X' l x.1 x.2) ((0:Int),([]:Bs))=some (pa l):=by
  refine Ki (fun k=>((k:Int),pa (l.take k))) l.length (by omega) _ (fun k b=>?_) ?_
  ·have c:pa l=pa (l.take k)++(db l[k].length++58::(l[k]++pa (l.drop (k+1)))):=by
    conv=>lhs;rw[<-List.take_append_drop k l,jS]
    rw[bA b];rfl
   have a:=congrArg cZ c;simp only[aD,aQ]at a;unfold CW;rw[X5 (show(k:Int)<(l.length:Int) by omega),Y6 rfl b,p',p',OY _ (by omega),p',O7 (by simp;omega),p',O7 (by simp;omega),p',O7 (by simp;omega),p',Y7 (by omega),List.take_succ_eq_append_getElem b,jS];simp only[pa,aU,bJ,bS,bP]
  ·unfold CW;rw[l6 (by omega),List.take_length]
 rw[hI,p']
theorem IT{h c X Y:Type}{l:List h}{F:c->X}{F':c->Y}{g:c->h->c}{sz:c->Nat}{body:Int×X->Option ((Int×X)⊕Y)}(r:l.length<=1048576)(j:∀a x,sz (g a x)<=sz a+1)(a0:c)(s:sz a0+l.length<=1048576) (k:∀(i:Nat) (e:i<l.length) (b:c),sz b<=1048576->body ((i:Int),F b)=some (.inl (((i+1:Nat):Int),F (g b l[i])))) (o:∀b,body ((l.length:Int),F b)=some (.inr (F' b))):iter body ((0:Int),F a0)=some (F' (l.foldl g a0)):=by
 have key:∀(f i:Nat) (b:c),f+i=l.length->sz b+f<=1048576->∀n,f<n->X9 body n ((i:Int),F b)=some (F' ((l.drop i).foldl g b)):=by
  intro f;induction f with
  |zero=>
   intro i b e _ n p;obtain⟨n,rfl⟩:∃m,n=m+1:=⟨n-1,by omega⟩;have e:i=l.length:=by omega
   subst e;rw[Ba (o b),bT,List.foldl_nil]
  |succ f q=>
   intro i b e t n p;obtain⟨n,rfl⟩:∃m,n=m+1:=⟨n-1,by omega⟩;have d:i<l.length:=by omega
   have u:=j b l[i];rw[sb (k i d b (by omega)),q (i+1) _ (by omega) (by omega) n (by omega),bA d,dN]
 have:=key l.length 0 a0 (by omega) (by omega) FU (by unfold FU;omega);rw[bQ]at this;exact this
theorem JT{b c:Type}(f:b->c):∀(l:List b) (a:List c),l.foldl (fun a x=>a++[f x]) a=a++l.map f
 |[],a=>by simp
 |x::l,a=>by rw[dN,JT f l,bF,aU];rfl
theorem KT(b:Bool):DM X' b=some (uf b):=by cases b<;>rfl
theorem EO{l:kH}(h:l.length<=1048576):TF X' l=some (W7 l):=by unfold TF;rw[OY _ (by omega),p',O7 (by simp;omega),p'];rfl
theorem PY{ts:kH}(h:ts.length<=1024/\∀t∈ts,t.length<=1024):BH X' ts=some (pa ts):=by have:=ytI ts h.2;exact wA ts (by omega) (by omega)
def gb(x:L8×L8)(l:kG):kG:=l.takeWhile (fun y=>O' y.1 x.1)++x::l.dropWhile (fun y=>O' y.1 x.1)
theorem xdL(x:L8×L8)(l:kG):(gb x l).Perm (x::l):=by unfold gb;refine List.perm_middle.trans (List.Perm.cons x ?_);rw[cP]
theorem Gu(x:L8×L8)(l:kG):(gb x l).map (·.1)=uj x.1 (l.map (·.1)):=by unfold gb uj;rw[cC,bF,List.takeWhile_map,List.dropWhile_map];rfl
theorem xA{l:kG}(x:L8×L8)(r:l.length<=1048576):IY X' l x=some (gb x l):=by
 have e:(l.takeWhile fun y=>O' y.1 x.1).length<=l.length:=(fS _).length_le
 have key:∀(f i:Nat),f+i=l.length->∀g,f<g->X9 (fun y:Int×L8×L8=>yT X' l y.1 y.2.1 y.2.2) g ((i:Int),x)=some (((i+((l.drop i).takeWhile fun y=>O' y.1 x.1).length:Nat):Int),x):=by
  intro f;induction f with
  |zero=>
   intro i d g k;obtain⟨g,rfl⟩:∃m,g=m+1:=⟨g-1,by omega⟩;have d:i=l.length:=by omega
   subst d;refine Ba ?_;simp only;unfold yT;rw[l6 (by omega),bT];rfl
  |succ f n=>
   intro i d g k;obtain⟨g,rfl⟩:∃m,g=m+1:=⟨g-1,by omega⟩;have a:i<l.length:=by omega
   have c:yT X' l (i:Int) x.1 x.2=bif O' l[i].1 x.1 then some (.inl (((i+1:Nat):Int),x))else some (.inr ((i:Int),x)):=by unfold yT;rw[X5 (by omega),Y6 rfl a,p',Y7 (by omega)];rfl
   rw[bA a,eC];cases h:O' l[i].1 x.1 with
   |true=>rw[h]at c;rw[sb (s':=(((i+1:Nat):Int),x)) c,n (i+1) (by omega) g (by omega)];simp only[if_true,aQ];congr 3;omega|false=>rw[h]at c;rw[Ba (b:=((i:Int),x)) c];simp
 have j:=key l.length 0 (by omega) FU (by unfold FU;omega);rw[bQ,aV]at j
 have o:l.take (l.takeWhile fun y=>O' y.1 x.1).length=l.takeWhile fun y=>O' y.1 x.1:=by
  conv=>lhs;arg 2;rw[<-cP (p:=fun y:L8×L8=>O' y.1 x.1) (l:=l)]
  exact List.take_left' rfl
 have q:l.drop (l.takeWhile fun y=>O' y.1 x.1).length=l.dropWhile fun y=>O' y.1 x.1:=by
  conv=>lhs;arg 2;rw[<-cP (p:=fun y:L8×L8=>O' y.1 x.1) (l:=l)]
  exact List.drop_left' rfl
 unfold IY;rw[show iter _ ((0:Int),x)=_ from j,p'];simp only;rw[lN e,p',Pe e,p',mh _ (by rw[bX];omega),p',O7 (by rw[bX];simp;omega),p',O7 (by simp only[aD,bX,bL,eE];omega),p',o,q,aU];rfl
theorem vk:∀(ms l:kG),j8 (l.map (·.1))->((l++ms).map (·.1)).Nodup->j8 ((ms.foldl (fun a x=>gb x a) l).map (·.1))/\(ms.foldl (fun a x=>gb x a) l).Perm (l++ms)
 |[],l,h,_=>⟨h,by simp⟩|x::ms,l,h,c=>by
  have d:x.1∉l.map (·.1):=fun e=>by rw[cC]at c;exact(dZ.1 c).2.2 x.1 e x.1 (by simp) rfl
  have hp:=xdL x l;have b:(gb x l++ms).Perm (l++x::ms):=(hp.append_right ms).trans (List.perm_middle.symm);obtain⟨f,g⟩:=vk ms (gb x l) (by rw[Gu];exact yzX h d) ((b.map (·.1)).nodup_iff.2 c);exact⟨f,g.trans b⟩
theorem yA{a b:UInt8}(h:a<b)(x y:L8):O' (a::x) (b::y)=true:=by show j9 (a::x) (b::y)=true;rw[bytesLess_eq,zE];exact List.Lex.rel h
def Hd(p:UInt8->Prop)(l:kG):Prop:=∀x∈l,∃c r,x.1=c::r/\p c
theorem Wn{a b:UInt8->Prop}{l m:kG}(f:j8 (l.map (·.1)))(g:j8 (m.map (·.1)))(h:Hd a l)(i:Hd b m)(e:∀x y,a x->b y->x<y):j8 ((l++m).map (·.1)):=by rw[cC];refine List.pairwise_append.2 ⟨f,g,fun x j y k=>?_⟩;obtain⟨p,hp,rfl⟩:=aY.1 j;obtain⟨q,n,rfl⟩:=aY.1 k;obtain⟨c,r,o,s⟩:=h p hp;obtain⟨d,t,u,v⟩:=i q n;rw[o,u];exact yA (e _ _ s v) _ _
theorem Zg{γ d:Type}{es:List (L8×γ)}(e:Ri O' es){t:L8×γ->d}{row:d->L8×L8}{pre:L8}(hk:∀p∈es,(row (t p)).1=pre++p.1):j8 (((es.map t).map row).map (·.1)):=by rw[cW,cW];refine bZ.2 (List.Pairwise.imp_of_mem (fun {a b} f g c=>?_) e);show O' (row (t a)).1 (row (t b)).1=true;rw[hk a f,hk b g,kr];exact c
theorem AA{B:Int}{s:PS}(h:M0 B s):((((Y1 s).map sa).foldl (fun a x=>gb x a) ((U1 s).map y9++(n1 s).map ra))++(X1 s).map Ja)++(n3 s).map Ka=pI s:=by
 have f:=ae h;have D:j8 (((U1 s).map y9).map (·.1)):=Zg (t:=fun p:L8×Cl=>p.2) (pre:=[99,108,105,101,110,116,47]) h.cR fun p hp=>by show _++p.2.1=_;rw[(h.cl p.1 p.2 hp).1]
 have E:j8 (((n1 s).map ra).map (·.1)):=Zg (t:=fun p:L8×Gr=>(p.1,p.2.1.1,p.2.1.2.1,p.2.1.2.2,p.2.2)) (pre:=[103,114,111,117,112,47]) h.gR fun p hp=>rfl;have j:j8 (((X1 s).map Ja).map (·.1)):=Zg (t:=fun p:L8×Ro=>p.2) (pre:=[114,111,108,101,47]) h.rR fun p hp=>by show _++p.2.1=_;rw[(h.ro p.1 p.2 hp).1]
 have F:j8 (((n3 s).map Ka).map (·.1)):=Zg (t:=fun p:L8×Us=>p.2) (pre:=[117,115,101,114,47]) h.uR fun p hp=>by show _++p.2.1=_;rw[(h.us p.1 p.2 hp).1]
 have G:Hd (fun c=>c<114) ((U1 s).map y9):=fun x d=>by obtain⟨y,_,rfl⟩:=aY.1 d;exact⟨99,_,rfl,by decide⟩
 have l:Hd (fun c=>c=99) ((U1 s).map y9):=fun x d=>by obtain⟨y,_,rfl⟩:=aY.1 d;exact⟨99,_,rfl,rfl⟩
 have v:Hd (fun c=>c=103) ((n1 s).map ra):=fun x d=>by obtain⟨y,_,rfl⟩:=aY.1 d;exact⟨103,_,rfl,rfl⟩
 have H:Hd (fun c=>c=109) ((Y1 s).map sa):=fun x d=>by obtain⟨y,_,rfl⟩:=aY.1 d;exact⟨109,_,rfl,rfl⟩
 have w:Hd (fun c=>c=114) ((X1 s).map Ja):=fun x d=>by obtain⟨y,_,rfl⟩:=aY.1 d;exact⟨114,_,rfl,rfl⟩
 have I:Hd (fun c=>c=117) ((n3 s).map Ka):=fun x d=>by obtain⟨y,_,rfl⟩:=aY.1 d;exact⟨117,_,rfl,rfl⟩
 have J:j8 (((U1 s).map y9++(n1 s).map ra).map (·.1)):=Wn D E l v fun x y d g=>by subst d;subst g;decide
 have z:Lj s=(((U1 s).map y9++(n1 s).map ra)++(Y1 s).map sa)++((X1 s).map Ja++(n3 s).map Ka):=by unfold Lj;simp only[aU]
 have K:((((U1 s).map y9++(n1 s).map ra)++(Y1 s).map sa).map (·.1)).Nodup:=by rw[z,cC]at f;exact(dZ.1 f).1
 obtain⟨A,m⟩:=vk _ _ J K;generalize T:((Y1 s).map sa).foldl (fun a x=>gb x a) ((U1 s).map y9++(n1 s).map ra)=L at A m ⊢
 have C:Hd (fun c=>c<114) L:=fun x d=>by
  have hm:=m.mem_iff.1 d;rcases bH.1 hm with hm|hm
  ·rcases bH.1 hm with hm|hm
   ·exact G x hm
   ·obtain⟨c,r,e,rfl⟩:=v x hm;exact⟨_,r,e,by decide⟩
  ·obtain⟨c,r,e,rfl⟩:=H x hm;exact⟨_,r,e,by decide⟩
 have M:j8 ((L++(X1 s).map Ja).map (·.1)):=Wn A j C w fun x y d g=>by subst g;exact d
 have d4:Hd (fun c=>c<117) (L++(X1 s).map Ja):=fun x d=>by
  rcases bH.1 d with hm|hm
  ·obtain⟨c,r,e,k⟩:=C x hm;exact⟨_,r,e,UInt8.lt_trans k (by decide)⟩
  ·obtain⟨c,r,e,rfl⟩:=w x hm;exact⟨_,r,e,by decide⟩
 have N:j8 (((L++(X1 s).map Ja)++(n3 s).map Ka).map (·.1)):=Wn M F d4 I fun x y d g=>by subst g;exact d
 have i:(Lj s).Perm ((L++(X1 s).map Ja)++(n3 s).map Ka):=by rw[z,aU L];exact(m.append_right _).symm
 have n:((L++(X1 s).map Ja)++(n3 s).map Ka).Pairwise fun x y=>O' x.1 y.1=true:=bZ.1 N;refine(JK (R:=fun x y:L8×L8=>De x.1 y.1=true) (fun a O b P Q S=>?_) ((jh _ _).trans i) (WD (fun a b=>yV a.1 b.1) (fun a b c=>AV a.1 b.1 c.1) _) (n.imp fun {a b} o=>?_)).symm
 ·have e:a.1=b.1:=List.le_antisymm (YG.1 Q) (YG.1 S);have q:a∈Lj s:=(jh _ _).mem_iff.1 O;have u:b∈Lj s:=(jh _ _).mem_iff.1 P;exact Oi.Dc f q u e
 ·show(!(j9 b.1 a.1))=true;cases g:j9 b.1 a.1 with
  |false=>rfl|true=>have:=kS.tr o (show O' b.1 a.1=true from g);rw[kS.Vu]at this;cases this
abbrev D6:Type:=List Us×List u6×List Ro×List Cl×kG×kG
theorem CA{B:Int}(hB:B<=1099511627776){s:PS}(h:M0 B s):zT X' (n3 s) (n1 s) (X1 s) (U1 s) (Y1 s)=some (n3 s,n1 s,X1 s,U1 s,Y1 s,pI s):=by
 have lu:=nA s;have U:=oA s;have V:=Tn s;have W:=Un s;have X:=DO s;have Y:=h.uL;have Z:=h.gL;have br:=h.rL;have bc:=h.cL;have bm:=h.mL;let F:kG->D6:=fun b=>(n3 s,n1 s,X1 s,U1 s,Y1 s,b);have st1:∀{H:Type} (f:H->L8×L8) (a:kG) (x:H),(a++[f x]).length<=a.length+1:=fun f a x=>by simp
 unfold zT
 rw[show iter _ ((0:Int),n3 s,n1 s,X1 s,U1 s,Y1 s,([]:kG))=_ from IT (l:=U1 s) (F:=F) (F':=F) (g:=fun a x=>a++[y9 x]) (sz:=cZ) (body:=fun x:Int×D6=>wO X' x.1 x.2.1 x.2.2.1 x.2.2.2.1 x.2.2.2.2.1 x.2.2.2.2.2.1 x.2.2.2.2.2.2) (by omega) (st1 y9) [] (by simp;omega) (fun i d b A=>by
  obtain⟨c,I⟩:∃c,(U1 s)[i]=c:=⟨_,rfl⟩;have p:=Sq h _ (bC d);rw[I]at p;obtain⟨t1,t2,t3,t4⟩:=wz p;obtain⟨o,y,D,E⟩:=yuQ p;have J:=(qI D).2.2;have P:=(qI E).2.2;have q7:=ph o;show wO X' (i:Int) (n3 s) (n1 s) (X1 s) (U1 s) (Y1 s) b=_;unfold wO;rw[X5 (by omega),Y6 rfl d,p',I,KT,p',KT,p',O7 (by simp only[EF];omega),p',KT,p',O7 (by simp only[aD,EF];omega),p',KT,p',O7 (by simp only[aD,EF];omega),p',EO (by omega),p',O7 (by simp;omega),p',O7 (by simp;omega),p',EO (by omega),p',O7 (by simp;omega),p'];rw[show [c.2.1,uf c.2.2.2.2.1++uf c.2.2.2.2.2.1++uf c.2.2.2.2.2.2.1++uf c.2.2.2.2.2.2.2]++W7 c.2.2.1++W7 c.2.2.2.1=DF c from aU _ _ _,PY ⟨t1,t2⟩,p',O7 (by simp;omega),p',Y7 (by omega)]
  rfl) (fun b=>by
  show wO X' ((U1 s).length:Int) (n3 s) (n1 s) (X1 s) (U1 s) (Y1 s) b=_;unfold wO
  rw[l6 (by omega)]),p',JT,bP]
 rw[show iter _ ((0:Int),F ((U1 s).map y9))=_ from IT (l:=n1 s) (F:=F) (F':=F) (g:=fun a x=>a++[ra x]) (sz:=cZ) (body:=fun x:Int×D6=>xO X' x.1 x.2.1 x.2.2.1 x.2.2.2.1 x.2.2.2.2.1 x.2.2.2.2.2.1 x.2.2.2.2.2.2) (by omega) (st1 ra) ((U1 s).map y9) (by rw[aE];omega) (fun i d b A=>by
  obtain⟨g,K⟩:∃g,(n1 s)[i]=g:=⟨_,rfl⟩;have q:=rI hB h _ (bC d);rw[K]at q;obtain⟨t1,t2⟩:=xz q;obtain⟨o,⟨y,_⟩,⟨D,_⟩,⟨E,_⟩,J,P⟩:=q;obtain⟨n,C⟩:∃n:Nat,g.2.2.2.2=(n:Int):=⟨g.2.2.2.2.toNat,by omega⟩;show xO X' (i:Int) (n3 s) (n1 s) (X1 s) (U1 s) (Y1 s) b=_;unfold xO;have z:∀l:kH,(W7 l).length=l.length+1:=fun l=>rfl;rw[X5 (by omega),Y6 rfl d,p',K,C,OY n (by omega),p',EO (by omega),p',O7 (by simp only[z,eE];omega),p',EO (by omega),p',O7 (by simp only[z,aD,eE];omega),p',EO (by omega),p',O7 (by simp only[z,aD,eE];omega),p',O7 (by simp;omega),p'];have e:[db n]++W7 g.2.1++W7 g.2.2.1++W7 g.2.2.2.1=cv g:=by unfold cv;rw[C,bY];simp only[aU]
  rw[e,PY ⟨t1,t2⟩,p',O7 (by simp;omega),p',Y7 (by omega)]
  rfl) (fun b=>by
  show xO X' ((n1 s).length:Int) (n3 s) (n1 s) (X1 s) (U1 s) (Y1 s) b=_;unfold xO
  rw[l6 (by omega)]),p',JT]
 have Q:∀x a,(gb x a).length<=a.length+1:=fun x a=>by rw[(xdL x a).length_eq];simp
 rw[show iter _ ((0:Int),F ((U1 s).map y9++(n1 s).map ra))=_ from IT (l:=Y1 s) (F:=F) (F':=F) (g:=fun a m=>gb (sa m) a) (sz:=cZ) (body:=fun x:Int×D6=>yO X' x.1 x.2.1 x.2.2.1 x.2.2.2.1 x.2.2.2.2.1 x.2.2.2.2.2.1 x.2.2.2.2.2.2) (by omega) (fun a x=>Q _ _) ((U1 s).map y9++(n1 s).map ra) (by rw[aD,aE,aE];omega) (fun i d b A=>by
  obtain⟨m,M⟩:∃m,(Y1 s)[i]=m:=⟨_,rfl⟩;have v:=wX h _ (bC d);rw[M]at v;have o:=IS v.1;have y:=IS v.2;show yO X' (i:Int) (n3 s) (n1 s) (X1 s) (U1 s) (Y1 s) b=_;unfold yO;rw[X5 (by omega),Y6 rfl d,p',M,O7 (by simp;omega),p',O7 (by simp;omega),p',p',O7 (by simp;omega),p',xA _ A,p',Y7 (by omega)]
  rfl) (fun b=>by
  show yO X' ((Y1 s).length:Int) (n3 s) (n1 s) (X1 s) (U1 s) (Y1 s) b=_;unfold yO
  rw[l6 (by omega)]),p']
 have R:(Y1 s).foldl (fun a m=>gb (sa m) a) ((U1 s).map y9++(n1 s).map ra)=((Y1 s).map sa).foldl (fun a x=>gb x a) ((U1 s).map y9++(n1 s).map ra):=by rw[List.foldl_map]
 rw[R];have j:=AA h;have S:(((Y1 s).map sa).foldl (fun a x=>gb x a) ((U1 s).map y9++(n1 s).map ra)).length<=1000:=by have G:=congrArg cZ j;have T:(pI s).length=(Lj s).length:=(jh _ _).length_eq;rw[T]at G;unfold Lj at G;simp only[aD,aE]at G;omega
 generalize ((Y1 s).map sa).foldl (fun a x=>gb x a) ((U1 s).map y9++(n1 s).map ra)=L at S j ⊢
 rw[show iter _ ((0:Int),F L)=_ from IT (l:=X1 s) (F:=F) (F':=F) (g:=fun a x=>a++[Ja x]) (sz:=cZ) (body:=fun x:Int×D6=>zO X' x.1 x.2.1 x.2.2.1 x.2.2.2.1 x.2.2.2.2.1 x.2.2.2.2.2.1 x.2.2.2.2.2.2) (by omega) (st1 Ja) L (by omega) (fun i d b A=>by
  obtain⟨r,N⟩:∃r,(X1 s)[i]=r:=⟨_,rfl⟩;have w:=Rq h _ (bC d);rw[N]at w;have o:=qI (Y4 w);have y:=ph (Z3 w);have l1:=kM (l:=r.2) (by omega) fun t k=>zn (o.1 t k);show zO X' (i:Int) (n3 s) (n1 s) (X1 s) (U1 s) (Y1 s) b=_;unfold zO;rw[X5 (by omega),Y6 rfl d,p',N,O7 (by simp;omega),p',p',EO (by omega),p',PY ⟨by omega,l1.2⟩,p',O7 (by simp;omega),p',Y7 (by omega)]
  rfl) (fun b=>by
  show zO X' ((X1 s).length:Int) (n3 s) (n1 s) (X1 s) (U1 s) (Y1 s) b=_;unfold zO
  rw[l6 (by omega)]),p',JT]
 rw[show iter _ ((0:Int),F (L++(X1 s).map Ja))=_ from IT (l:=n3 s) (F:=F) (F':=F) (g:=fun a x=>a++[Ka x]) (sz:=cZ) (body:=fun x:Int×D6=>BO X' x.1 x.2.1 x.2.2.1 x.2.2.2.1 x.2.2.2.2.1 x.2.2.2.2.2.1 x.2.2.2.2.2.2) (by omega) (st1 Ka) (L++(X1 s).map Ja) (by rw[aD,aE];omega) (fun i d b A=>by
  obtain⟨u,O⟩:∃u,(n3 s)[i]=u:=⟨_,rfl⟩;obtain⟨o,y,D,E⟩:=Tq h _ (bC d);rw[O]at o y D E;have J:=ph o;obtain⟨n,C⟩:∃n:Nat,u.2.2.2=(n:Int):=⟨u.2.2.2.toNat,by omega⟩
  have k:∀t∈[u.2.1,uf u.2.2.1,db n],t.length<=1024:=fun t k=>by
   rcases aN.1 k with rfl|k
   ·exact yn y
   ·rcases aN.1 k with rfl|k
    ·rw[EF];decide
    ·rw[aZ.1 k];exact uX (by omega)
  show BO X' (i:Int) (n3 s) (n1 s) (X1 s) (U1 s) (Y1 s) b=_;unfold BO;rw[X5 (by omega),Y6 rfl d,p',O,O7 (by simp;omega),p',KT,p',C,OY n (by omega),p',PY ⟨by simp,k⟩,p',O7 (by simp;omega),p',Y7 (by omega)];have e:Ka u=([117,115,101,114,47]++u.1,pa [u.2.1,uf u.2.2.1,db n]):=by unfold Ka txU;rw[C,bY]
  rw[e]) (fun b=>by
  show BO X' ((n3 s).length:Int) (n3 s) (n1 s) (X1 s) (U1 s) (Y1 s) b=_;unfold BO
  rw[l6 (by omega)]),p',JT,j]
theorem IM{o:Yu}{k:Nat}(h:l9 Zu o<=k)(hk:k<=1048576):NY o/\o.2.2.1.length<=1048564:=by
 have e:l9 Zu o=1+(1+(o.2.2.1.length+1+(o.2.2.2.1.length+1+(1+((o.2.2.2.2.2.1.1.length+1+l9 (.sl .s) o.2.2.2.2.2.1.2)+(o.2.2.2.2.2.2.1.length+1+(o.2.2.2.2.2.2.2.1.length+1+(l9 (.sl .s) o.2.2.2.2.2.2.2.2.1+(l9 (.sl .s) o.2.2.2.2.2.2.2.2.2.1+(1+(1+(1+1)))))))))))):=rfl;have sm:∀l:kH,l9 (.sl .s) l<=1048576->Sm l:=fun l b=>by have c:l.length+1<=l9 (.sl .s) l:=XN (e:=.s) rfl _;refine⟨by omega,fun t a=>?_⟩;have d:l9 .s t<=l9 (.sl .s) l:=Ng (e:=.s) a;have f:l9 .s t=t.length+1:=rfl;omega
 rw[e]at h;exact⟨⟨by omega,by omega,⟨by omega,sm _ (by omega)⟩,by omega,by omega,sm _ (by omega),sm _ (by omega)⟩,by omega⟩
theorem XF(n:Int){m:Nat}(c:0<m)(d:m<=1073741824):T (SX X' n (m:Int)) fun r=>0<=r/\r<(m:Int):=by unfold SX;rw[zA (show(0:Int)<(m:Int) by omega),show o6 true=some ()from rfl,p'];have a:=Int.tmod_lt_of_pos n (show(0:Int)<(m:Int) by omega);have e:=Int.lt_tmod_of_pos n (show(0:Int)<(m:Int) by omega);refine T.IE (fun b=>T.ok ?_) fun b=>T.ok ⟨by omega,a⟩;rw[oe (by omega) (by omega)];omega
theorem Xn{a:Type}{l:List a}{k:Nat}(x:a)(h:k<l.length):Da l (k:Int) x=some (l.set k x):=by unfold Da;rw[zA (show(0:Int)<=(k:Int) by omega),zA (show(k:Int)<(l.length:Int) by omega)];simp
theorem nB{a:Type}{l:List a}{k:Nat}{x:a}(h:k<l.length)(e:x=l[k]):Da l (k:Int) x=some l:=by rw[Xn x h,e,List.set_getElem_self]
def dd(l:List PS):List uI:=l.map P1
theorem ah(l:List PS):(dd l).length=l.length:=aE ..
theorem zf{l:List PS}{k:Nat}(hk:k<(dd l).length):(dd l)[k]=P1 (l[k]'(by rw[<-ah];exact hk)):=cG ..
theorem ck{a:Type}{k m:Nat}(h:k<m){f:Unit->Option a}:(o6 (decide ((0:Int)<=(k:Int))&&decide ((k:Int)<(m:Int)))).bind f=f ():=by rw[zA (show(0:Int)<=(k:Int) by omega),zA (show(k:Int)<(m:Int) by omega),gG];rfl
def wk(B:Nat)(l:List PS):Prop:=∀p∈l,M0 (B:Int) p
theorem wk.more{B:Nat}{l:List PS}(h:wk B l):wk (B+1) l:=fun p hp=>(h p hp).mono (by omega)
theorem DA{a:List Yu}(A:∀o∈a,kz o/\NY o/\o.2.2.1.length<=1048564){k:Nat}(hk:k<a.length)(B:a.length<=1048576){l:List PS}(s:wk (k+1) l)(m:0<l.length)(C:l.length<=k+1):∃n:List PS,AT X' a (k:Int) l (dd l)=some (.inl (((k+1:Nat):Int),n,dd n))/\wk (k+2) n/\0<n.length/\n.length<=k+2:=by
 obtain⟨u,v,D⟩:=A _ (bC hk);obtain⟨r,E,F,G⟩:=XF a[k].1 m (by omega);obtain⟨j,rfl⟩:∃j:Nat,r=j:=⟨r.toNat,by omega⟩;have e:j<l.length:=by omega
 have d:j<(dd l).length:=by rw[ah];exact e
 unfold AT;rw[X5 (by omega),Y6 rfl hk,p',E,p'];cases H:a[k].2.1==18 with
 |true=>
  refine⟨l++[l[j]],?_,fun p hp=>?_,by simp,by simp;omega⟩
  ·rw[zF,ck e,ck e,Y6 rfl e,p',show zrT X' l[j].1 l[j].2.1 l[j].2.2.1 l[j].2.2.2.1 l[j].2.2.2.2=some (l[j].1,l[j].2.1,l[j].2.2.1,l[j].2.2.2.1,l[j].2.2.2.2,l[j])from rfl,p'];simp only;rw[nB e rfl,p',O7 (by simp;omega),p',ck d,ck d,Y6 rfl d,p',show zkL X' (dd l)[j].1 (dd l)[j].2.1 (dd l)[j].2.2.1 (dd l)[j].2.2.2.1 (dd l)[j].2.2.2.2=some ((dd l)[j].1,(dd l)[j].2.1,(dd l)[j].2.2.1,(dd l)[j].2.2.2.1,(dd l)[j].2.2.2.2,(dd l)[j])from rfl,p'];simp only;rw[nB d rfl,p',O7 (by rw[ah];simp;omega),p',Y7 (by omega),zf d];unfold dd;rw[cC];rfl
  ·rcases bH.1 hp with hp|hp
   ·exact s.more p hp
   ·rw[aZ.1 hp];exact s.more _ (bC e)
 |false=>
  have hB:((k+1:Nat):Int)<=1099511627776:=by omega
  have hp:=s _ (bC e);have f:=lz (by omega) hp a[k];have w:((k+1:Nat):Int)+1<=1099511627776:=by omega
  have y:=xF hB hp u;have q:=sA hB hp v;generalize I:(UA a[k] l[j]).2=t at f y q;have g:∀(x:PS) (h:j<(l.set j x).length),(l.set j x)[j]=x:=fun x h=>by simp
  have i:∀(x:uI) (h:j<((dd l).set j x).length),((dd l).set j x)[j]=x:=fun x h=>by simp
  have b:j<(l.set j t).length:=by rw[bW];exact e
  have c:j<((dd l).set j (P1 t)).length:=by rw[bW];exact d
  refine⟨l.set j t,?_,fun p z=>?_,by rw[bW];exact m,by rw[bW];omega⟩
  ·have J:UA a[k] l[j]=((UA a[k] l[j]).1,t):=by rw[<-I]
   rw[J]at y;rw[zH,ck e,ck e,ck d,ck d,Y6 rfl e,p',y,p'];simp only;rw[Xn _ e,p',Y6 rfl d,p',zf d,show vT X' a[k] (P1 l[j]).1 (P1 l[j]).2.1 (P1 l[j]).2.2.1 (P1 l[j]).2.2.2.1 (P1 l[j]).2.2.2.2=_ from q,p'];simp only;rw[Xn _ d,p',bne_self_eq_false,zH,ck b,ck b,ck c,ck c,Y6 rfl b,p',Y6 rfl c,p',g t b,i (P1 t) c];rw[show xT X' a[k].2.2.1 (P1 t).1 (P1 t).2.1 (P1 t).2.2.1 (P1 t).2.2.2.1 (P1 t).2.2.2.2 t.1 t.2.1 t.2.2.1 t.2.2.2.1 t.2.2.2.2=_ from uA w f (by omega),p'];simp only;rw[show Da ((dd l).set j (P1 t)) (j:Int) (n3 t,n1 t,X1 t,U1 t,Y1 t)=some ((dd l).set j (P1 t))from nB c (i (P1 t) c).symm,p',nB b (g t b).symm,p',aK,zH,ck b,ck b,ck c,ck c,Y6 rfl b,p',g t b];rw[show XE X' a[k].2.2.1 a[k].2.2.2.1 t.1 t.2.1 t.2.2.1 t.2.2.2.1 t.2.2.2.2=some (J' W8 t.2.2.2.2 (a[k].2.2.1,a[k].2.2.2.1),t)from rfl,p'];simp only;rw[nB b (g t b).symm,p',Y6 rfl c,p',i (P1 t) c,xeJ (by have:=f.mL;omega),p',nB c (i (P1 t) c).symm,p',bne_self_eq_false,zH,Y7 (by omega)];unfold dd;rw[List.map_set]
  ·rcases List.mem_or_eq_of_mem_set z with z|rfl
   ·exact s.more p z
   ·exact f
theorem EA{B:Nat}(hB:B<=1048577){l:List PS}(c:wk B l){k:Nat}(hk:k<l.length)(d:l.length<=1048577):BT X' (k:Int) l (dd l)=some (.inl (((k+1:Nat):Int),l,dd l)):=by
 have a:k<(dd l).length:=by rw[ah];exact hk
 have hp:=c _ (bC hk);have b:(B:Int)<=1099511627776:=by omega
 unfold BT;rw[X5 (by omega),ck hk,ck hk,ck a,ck a,Y6 rfl hk,p',Y6 rfl a,p',zf a];rw[show XS X' (P1 l[k]).1 (P1 l[k]).2.1 (P1 l[k]).2.2.1 (P1 l[k]).2.2.2.1 (P1 l[k]).2.2.2.2 l[k].1 l[k].2.1 l[k].2.2.1 l[k].2.2.2.1 l[k].2.2.2.2=_ from Pz (hp.pre b) hp.whole,p'];simp only;rw[nB a (by rw[zf a];rfl),p',nB hk rfl,p',aK,zH,ck hk,ck hk,ck a,ck a,Y6 rfl hk,p',FF b hp,p'];simp only;rw[nB hk rfl,p',Y6 rfl a,p',zf a];rw[show zT X' (P1 l[k]).1 (P1 l[k]).2.1 (P1 l[k]).2.2.1 (P1 l[k]).2.2.2.1 (P1 l[k]).2.2.2.2=_ from CA b hp,p'];simp only;rw[nB a (by rw[zf a];rfl),p',ku _ (mu hp),p',aK,zH,Y7 (by omega)]
theorem JM(a:List Yu)(r:a.length<=1048576)(s:∀o∈a,kz o/\NY o/\o.2.2.1.length<=1048564):JY X' a=some true:=by
 have main:∀(f k:Nat) (l:List PS),f+k=a.length->wk (k+1) l->0<l.length->l.length<=k+1->∀n,f<n->∃d:List PS,X9 (fun x:Int×List PS×List uI=>AT X' a x.1 x.2.1 x.2.2) n ((k:Int),l,dd l)=some (.inr (d,dd d))/\wk (a.length+1) d/\d.length<=a.length+1:=by
  intro f;induction f with
  |zero=>
   intro k l b e hp c n g;obtain⟨n,rfl⟩:∃m,n=m+1:=⟨n-1,by omega⟩;have b:k=a.length:=by omega
   subst b;refine⟨l,Ba ?_,e,c⟩;simp only;unfold AT;rw[l6 (by omega)]
  |succ f h=>intro k l b e hp c n g;obtain⟨n,rfl⟩:∃m,n=m+1:=⟨n-1,by omega⟩;obtain⟨l1,i,j,q,t⟩:=DA s (show k<a.length by omega) r e hp c;obtain⟨l2,u,v,w⟩:=h (k+1) l1 (by omega) j q t n (by omega);exact⟨l2,(sb i).trans u,v,w⟩
 obtain⟨l,i,j,q⟩:=main a.length 0 [s0] (by omega) (fun p hp=>by rw[aZ.1 hp];exact UE) (by simp) (by simp) FU (by unfold FU;omega);unfold JY;rw[dM,p',show iter _ ((0:Int),[s0],([(([]:List Us),([]:List u6),([]:List Ro),([]:List Cl),([]:kG))]:List uI))=_ from i,p'];simp only
 have fin:∀(f k:Nat),f+k=l.length->∀n,f<n->X9 (fun x:Int×List PS×List uI=>BT X' x.1 x.2.1 x.2.2) n ((k:Int),l,dd l)=some (.inr ()):=by
  intro f;induction f with
  |zero=>
   intro k b n g;obtain⟨n,rfl⟩:∃m,n=m+1:=⟨n-1,by omega⟩;have b:k=l.length:=by omega
   subst b;refine Ba ?_;simp only;unfold BT;rw[l6 (by omega)]
  |succ f h=>intro k b n g;obtain⟨n,rfl⟩:∃m,n=m+1:=⟨n-1,by omega⟩;exact(sb (EA (by omega) j (show k<l.length by omega) (by omega))).trans (h (k+1) (by omega) n (by omega))
 rw[show iter _ ((0:Int),l,dd l)=_ from fin l.length 0 (by omega) FU (by unfold FU;omega),p'];rfl
theorem ud(v0:List Yu)(hk:l9 (.sl Zu) v0<=1048576):JY X' v0=some true:=by obtain⟨b,c⟩:=ZL (v:=v0) (k:=1048576) hk (aL _);exact JM v0 c fun o a=>⟨b o a,IM (bB (Ng (e:=Zu) a) hk) (aL _)⟩
end Go.Proofs.YtopanhneegpgcaaGreatDoor.Am
namespace Go.Proofs.YtopanhneegpgcaaGreatDoor
open Go Go.RowKit
section
open Go Go.RowKit Go.ChangeShapes Go.WideShapes Go.ChangeAt
attribute [local irreducible] Value.okWide
theorem YF{W:World}(h:W.ShapedOpen aA)(j:laidMet aA Rows.peopleDoesUptoRow.laid W):∃G:List (Nat×Obj),Am.kb G/\Am.GS G (Re W):=by
 obtain⟨m,a⟩:=Tryz.nv.s1_3 W h;have a:W.cell? ⟨0,0,none⟩=some (.int .i64 m):=a;have l:∃c E b,W.heap[0]? = some (.cells c E b)/\c[0]? = some (.int .i64 m):=by
  unfold World.cell? at a;split at a
  ·rename_i c E b i;simp only[Option.isSome_none,zI (show ¬(false=true) by decide)]at a;exact⟨c,E,b,i,a⟩
  ·cases a
 obtain⟨c,E,b,o,q⟩:=l;have d := Lib.tabIs_of_head (P := aA) (k := .u64) (zs := Lib.pow10Tab) (g := 3) (t := 298) (e := 249) (n := 20) (by kernel_rfl) (by kernel_rfl) (by kernel_rfl) (by kernel_rfl) (by kernel_rfl) (by kernel_rfl) (show laidMet aA (("internal/strconv.uint64pow10", Lib.tabData .u64 Lib.pow10Tab) :: _) W from j.tail.tail);have r:∃T f,W.heap[3]? = some (.cells Yk.toArray T f):=by
  unfold Lib.TabIs World.var? at d;rw [show Tryz.prog.globalNamed "internal/strconv.uint64pow10" = some 3 by kernel_rfl, Option.bind_some] at d;split at d
  ·rename_i u T f i;cases d;exact⟨T,f,i⟩
  ·cases d
 obtain⟨T,f,s⟩:=r;refine⟨[(0,.cells c E b),(3,.cells Yk.toArray T f)],⟨fun S hS=>⟨⟨c,E,b,m,hS _ (aO ..),q⟩,T,f,hS _ (List.mem_cons_of_mem _ (aO ..))⟩⟩,fun p hp=>?_⟩;rcases aN.1 hp with rfl|hp
 ·exact o
 ·rcases aN.1 hp with rfl|hp
  ·exact s
  ·cases hp
theorem ynD(H:Type)(enc:TypeId×Value->H)(W:World)(b:Nat)(args:Array Value)(ds gs:List (DataW H))(before:List MemPlace) (a:∀(j:Nat) t v,Tryz.f10.params[j]? = some t->args[j]? = some v->Value.okWide aA W .any b t v) (r:DataW.Whole enc aA Tryz.f10.params.toList Rows.peopleDoesSpec.vars false W args.toList ds gs before) (hk:Rows.uptoSmall H (ds++gs)=true) (c:W.ShapedOpen aA) (x:laidMet aA Rows.peopleDoesUptoRow.laid W):Calls aA 10 args W fun e s=>∃v,e = .returned v/\Rows.peopleDoesSpec.post enc aA Tryz.f10 false true false false W args v s:=by
 have d:=r;obtain⟨p,q,f,y,rfl,_,_⟩:=r;have u:DataW.TrodAll enc aA W 0 (fun _=>true) true Tryz.f10.params.toList args.toList ds p:=f;rw[Tryz.params10]at u a;obtain⟨g,z,d0,A,p0,F,h,rfl,rfl,t0,C⟩:=trodAll_cons u;obtain⟨rfl,rfl,rfl⟩:=trodAll_nil C;obtain rfl:args = #[g]:=by cases args;simp_all
 obtain⟨rfl,rfl⟩:=trodVars_none y;obtain⟨i,D,I⟩:=Am.AF (t:=(.sl Am.Zu)) (show Am.vz aA 45 (.sl Am.Zu)=true by kernel_rfl) (a 0 45 g rfl rfl) t0;simp only[bJ,Rows.uptoSmall,zE,Rows.uptoBulkAll]at hk;obtain⟨G,J,k⟩:=YF c x;refine((Am.yrZ (tabs:=G) (o:=Am.X')).ok (Re W) W [g] (i) true k (Xk W) (.cons (Am.BF D) .nil) (Am.ud i (by omega))).mono fun e s ⟨E,v,w,l,_⟩=>?_;have l:[v]=[Value.bool true]:=l;rw[(List.cons.inj l).1]at w;subst w;refine⟨_,rfl,oz (B:=4) (n:=1) (by kernel_rfl) rfl (by kernel_rfl) (by kernel_rfl) (by kernel_rfl) (by kernel_rfl) (fun ds m=>?_) d E⟩
 match ds,m with
 |[i],_=>exact⟨rfl,rfl,rfl⟩
theorem FA:ownKnob Tryz.prog.godebug=none:=by kernel_rfl
def FO:DataW Unit->LV
 |.lit (.int k n)=>[.int k n]|.agg l=>go l|_=>[]
where go:List (DataW Unit)->LV
 |[]=>[]|d::l=>FO d++go l
def KM(l:LV):Obj->Obj
 |.cells _ t frozen=>.cells l.toArray t frozen|o=>o
noncomputable def yuD(os:Os):World:={ World.holding aA os ⟨#[],#[],[]⟩with heap:=(((((((((World.holding aA os ⟨#[],#[],[]⟩).heap).modify 6 (KM (FO Rows.laid_math_bits_deBruijn32tab))).modify 7 (KM (FO Rows.laid_math_bits_deBruijn64tab))).modify 3 (KM (FO Rows.laid_internal_strconv_uint64pow10))).modify 5 (KM (FO Rows.laid_unicode_utf8_acceptRanges))).modify 2 (KM [.iface 312 (.pointer (some ⟨(World.holding aA os ⟨#[],#[],[]⟩).heap.size+0,0,none⟩))])).modify 1 (KM [.iface 312 (.pointer (some ⟨(World.holding aA os ⟨#[],#[],[]⟩).heap.size+1,0,none⟩))])).modify 4 (KM (FO Go.Pinned.utf8First))) ++ #[.cells #[.string ⟨#[118,97,108,117,101,32,111,117,116,32,111,102,32,114,97,110,103,101]⟩] 314,.cells #[.string ⟨#[105,110,118,97,108,105,100,32,115,121,110,116,97,120]⟩] 314] }
theorem ymL(os:Os):laidMet aA Rows.peopleDoesUptoRow.laid ((yuD os).forCall (fun _ _=>0) ⟨#[],#[.slice none 0 0],[]⟩).memory:=
 laidMet_of_run' 8 (by kernel_rfl) (by kernel_rfl)
theorem yrA(os:Os){H:Type}(enc:TypeId×Value->H):∃places,DataW.whole enc aA ((yuD os).forCall (fun _ _=>0) ⟨#[],#[.slice none 0 0],[]⟩).memory Tryz.f10.params.toList Rows.peopleDoesSpec.vars false (#[.slice none 0 0]:Array Value).toList 8=some ([.nil],[],places):=
 ⟨[],by kernel_rfl⟩
set_option maxRecDepth 100000 in
theorem ypH(os:Os)(started:os.Started)(H:Type)(enc:TypeId×Value->H)(F:Stop.Interp):
  ReturnsInHanded {} Tryz.checked os 10 .any ((Rows.OpenSpec.upto Rows.peopleDoesSpec).preRow enc aA Tryz.f10 Rows.peopleDoesUptoRow.domain false Rows.peopleDoesUptoRow.laid) (((Rows.OpenSpec.upto Rows.peopleDoesSpec).at F).post enc aA Tryz.f10 false true false false):=by
 obtain⟨places,f⟩:=yrA os enc
 refine returnsInHanded_of_row (C:=Tryz.checked) (s:=Rows.OpenSpec.upto Rows.peopleDoesSpec) FA started (by kernel_rfl) O5
  (witness_row_at (enc:=enc) (C:=Tryz.checked) false (yuD os) #[.slice none 0 0] rfl (by kernel_rfl) (by kernel_rfl) (by kernel_rfl)
   (OpenSpec.preRow_of_cond 8 f (by kernel_rfl) (fun k g=>by cases g;kernel_rfl) (by kernel_rfl) (ymL os))) ?_
 intro W b c h gs before d i _ a _ j e _;exact ynD H enc W b c h gs before d i (a _ rfl) e j
set_option maxRecDepth 100000 in
set_option maxHeartbeats 40000000 in
theorem yqS:joinedFacts Tryz.pinned.checked.prog 10 Tryz.f10 (Rows.OpenSpec.upto Rows.peopleDoesSpec).bare Rows.peopleDoesUptoRow=true:=by
 simp only[joinedFacts,Bool.and_eq_true]
 repeat' refine And.intro ?_ ?_
 all_goals (as_aux_lemma=>kernel_rfl)
theorem yvO:Rows.PeopleDoesUptoSaid:=
 OpenClaim.holds_of_cond 10 Tryz.f10 rfl rfl rfl rfl rfl rfl rfl ⟨rfl,rfl,rfl,rfl,rfl⟩ rfl rfl rfl rfl rfl (by kernel_rfl) O5 yqS
  (zD (by kernel_rfl)) (by unfold Func.isWrapper;first|(rw[zJ (by decide +kernel)];kernel_rfl)|(rw[zI (by decide +kernel)];exact⟨rfl,rfl⟩))
  (fun os started H b _ F=>by rw[OpenClaim.pre_eq_preRow];exact ypH os started H b F)
theorem yqU (f : FuncId) (fn : Func) (hf : Tryz.pinned.checked.prog.funcNamed "seneschal/seneschallaw12.PeopleDoes" = some f) (b : Tryz.pinned.checked.prog.funcs[f]? = some fn) :
  true=Tryz.pinned.checked.prog.looks []/\∀(j:Nat) t,fn.params[j]? = some t->Tryz.pinned.checked.prog.wantsStandIn t=false:=by
 obtain rfl : f = 10 := ka ((show Tryz.prog.funcNamed "seneschal/seneschallaw12.PeopleDoes" = some 10 by kernel_rfl).symm.trans hf) |>.symm;obtain rfl:fn=Tryz.f10:=(ka (Tryz.func10.symm.trans b)).symm;refine⟨by kernel_rfl,fun j t c=>?_⟩;rw[Tryz.params10]at c;have d:t∈[45]:=by simpa using Array.mem_of_getElem? c
 have a:([45].all fun u=>!Tryz.prog.wantsStandIn u)=true:=by kernel_rfl
 exact(show Tryz.prog.wantsStandIn t=false by simpa using List.all_eq_true.1 a t d)
theorem peopleDoes_said : Rows.PeopleDoesUptoCardSaid :=
 Claim7.holds_tied_plain_at .later [] _ _ _ _ yvO (fun _ h=>by cases h) (by as_aux_lemma=>kernel_rfl) (fun _ h=>by cases h) peopleDoesUpto_row_tie rfl ⟨rfl,rfl⟩ (by as_aux_lemma=>kernel_rfl) rfl yqU (by as_aux_lemma=>kernel_rfl)
end
end Go.Proofs.YtopanhneegpgcaaGreatDoor
