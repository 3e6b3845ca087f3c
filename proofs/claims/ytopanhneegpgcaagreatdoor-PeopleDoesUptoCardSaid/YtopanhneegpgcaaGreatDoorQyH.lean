/- Parts of one proof. Conditions: as each theorem says. -/
import Derived.Test.YtopanhneegpgcaaGreatDoorQyG
open Bool renaming and_eq_true->aI,false_or->dB,or_eq_false_iff->cV,or_false->eA
open List renaming all_cons->cT,append_assoc->aU,append_nil->bJ,cons_append->bS,ext_getElem?->bN,getElem?_append_left->aF,getElem?_append_right->aG,getElem?_cons_succ->cD,getElem?_eq_getElem->aH,getElem?_eq_some_iff->aC,getElem?_map->cF,getElem?_of_mem->gU,getElem?_set_ne->aS,getElem?_set_self->aP,getElem?_toArray->eD,getElem_mem->bC,length_append->aD,length_cons->aQ,length_map->aE,length_set->bW,map_cons->bF,map_nil->eN,mem_append->bH,mem_append_left->eH,mem_append_right->gT,mem_cons->aN,mem_cons_of_mem->aM,mem_cons_self->aO,mem_map->aY,mem_of_getElem?->bO,mem_singleton->aZ,nodup_cons->eL,pairwise_append->dT,perm_append_singleton->dW,set_append_left->fE,set_append_right->eS,set_cons_zero->fP,set_set->iB
open Nat renaming beq->aJ,beq_refl->eJ,ble_eq->gF,blt->cY,eq_of_beq_eq_true->aB,le_of_ble_eq_true->bK,le_of_not_lt->fH,le_refl->aL,sub_self->eK,zero_add->aV,zero_le->bG
open Option renaming map_some->aX
open Go.Region renaming wanted->p9
namespace Go.Proofs.YtopanhneegpgcaaGreatDoor.Am
open Go Go.RowKit
def Cd(I:List Nat):Nat->List Q0->List Q0
 |_,[]=>[]|i,r::l=>(bif j0 I i then Bd else r)::Cd I (i+1) l
def jb(I:List Nat):Nat->List EI->List EI
 |_,[]=>[]|i,e::l=>(bif j0 I i then .dead else e)::jb I (i+1) l
theorem Hp(I:List Nat):∀(l:List Q0) (i j:Nat),(Cd I i l)[j]? = (l[j]?).map fun r=>bif j0 I (i+j)then Bd else r
 |[],_,_=>by simp[Cd]
 |r::l,i,0=>by simp[Cd]
 |r::l,i,j+1=>by simp only[Cd,cD,Hp I l (i+1) j];rw[show i+1+j=i+(j+1) by omega]
theorem WG(I:List Nat):∀(l:List EI) (i j:Nat),(jb I i l)[j]? = (l[j]?).map fun r=>bif j0 I (i+j)then EI.dead else r
 |[],_,_=>by simp[jb]
 |r::l,i,0=>by simp[jb]
 |r::l,i,j+1=>by simp only[jb,cD,WG I l (i+1) j];rw[show i+1+j=i+(j+1) by omega]
theorem ZU(I:List Nat):∀(l:List AO) (i j:Nat),(Io I i l)[j]? = (l[j]?).map fun r=>bif j0 I (i+j)then AO.dead else r
 |[],_,_=>by simp[Io]
 |r::l,i,0=>by simp[Io]
 |r::l,i,j+1=>by simp only[Io,cD,ZU I l (i+1) j];rw[show i+1+j=i+(j+1) by omega]
theorem jV(I:List Nat):∀(l:List Q0) (i:Nat),(Cd I i l).length=l.length
 |[],_=>rfl|_::l,i=>by simp only[Cd,aQ,jV I l]
theorem mK(I:List Nat):∀(l:List EI) (i:Nat),(jb I i l).length=l.length
 |[],_=>rfl|_::l,i=>by simp only[jb,aQ,mK I l]
theorem cx(I:List Nat):∀(l:List AO) (i:Nat),(Io I i l).length=l.length
 |[],_=>rfl|_::l,i=>by simp only[Io,aQ,cx I l]
theorem kV(I:List Nat)(E:List EI):V4 E (jb I 0 E):=fun i a h=>by
 refine⟨_,by rw[WG,h];rfl,?_⟩;rw[aV];cases j0 I i with
 |false=>exact a.le_refl|true=>
  show a.le .dead;cases a with
  |N'=>exact .inr rfl|H'=>exact .inr (.inl rfl)|mp=>exact .inl rfl|U4=>exact .inr (.inl rfl)|dead=>rfl
section
variable {B:r9}{S S':Mem}{w w':World}{L A:List Q0}
theorem HS.part(H:HS B S w L)(h:∀i r,Y3 A i=some r->r=Bd∨Y3 L i=some r):HS B S w A:=by
 refine⟨H.fr,H.sub,H.keep,fun k r a=>?_,fun k r b a e=>?_,fun i j r s b c d f l=>?_⟩
 ·rcases h k r a with rfl|h
  ·exact .inl ⟨rfl,rfl,rfl,rfl⟩
  ·exact H.own k r h
 ·rcases h k r a with rfl|h
  ·cases e
  ·exact H.old k r b h e
 ·rcases h i r c with rfl|c
  ·cases f
  ·rcases h j s d with rfl|d
   ·cases l
   ·exact H.inj i j r s b c d f l
end
end Go.Proofs.YtopanhneegpgcaaGreatDoor.Am
namespace Go.Proofs.YtopanhneegpgcaaGreatDoor
open Go Go.RowKit
def Q0.parts:Q0->List R0
 |.N' b a T=>[.N' b a T]|.obj b o=>[.obj b o]|.H' v n sz a c T=>[.H' v n sz a c T]|.many c=>c
def Ip:R0:=.H' (.slice none 0 0) 0 0 [] [] 0
theorem R0.ct(q:R0):R0.apart [q]:=List.pairwise_singleton _ _
theorem Q0.ga{w:World}{r:Q0}:r.holds w↔(∀q∈r.parts,q.holds w)/\R0.apart r.parts:=by
 cases r with
 |many a=>exact Iff.rfl|_=>simp only[Q0.parts,aZ,forall_eq];exact⟨fun h=>⟨h,R0.ct _⟩,fun h=>h.1⟩
theorem Q0.e8{r:Q0}{b:Nat}:r.has b↔∃q∈r.parts,q.key=some b:=by
 cases r with
 |many a=>exact Iff.rfl|_=>simp only[Q0.parts,aZ,exists_eq_left];exact Iff.rfl
theorem R0.Wd(q:R0):q.up.parts=[q]:=by cases q<;>rfl
theorem R0.Yl{p q:R0}(h:∀b,p.key=some b->q.key≠some b):∀b,q.key=some b->p.key≠some b:=fun b a c=>h b c a
theorem R0.U9{l a:List R0}(h:l.Perm a)(k:R0.apart l):R0.apart a:=h.pairwise k fun b=>R0.Yl b
theorem R0.Xd{q:R0}{l:List R0}(c:q.key=none)(h:R0.apart l):R0.apart (q::l):=List.pairwise_cons.2 ⟨fun _ _ b a=>(by rw[c]at a;cases a),h⟩
end Go.Proofs.YtopanhneegpgcaaGreatDoor
namespace Go.Proofs.YtopanhneegpgcaaGreatDoor.Am
open Go Go.RowKit
section
variable {B:r9}{S:Mem}{w:World}{L:List Q0}{r:Q0}
theorem HS.two(H:HS B S w L){i j:Nat}{r s r' s':Q0}(hi:L[i]? = some r)(hj:L[j]? = some s)(Y:i≠j) (h1:∀q∈r'.parts++s'.parts,q=Ip∨q∈r.parts++s.parts) (h2:R0.apart (r.parts++s.parts)->R0.apart (r'.parts++s'.parts)):HS B S w ((L.set i r').set j s'):=by
 have C:Y3 L i=some r:=by rw[N7];exact hi
 have F:Y3 L j=some s:=by rw[N7];exact hj
 have hr:=Q0.ga.1 (H.own i r C);have hs:=Q0.ga.1 (H.own j s F);have Z:R0.apart (r.parts++s.parts):=dT.2 ⟨hr.2,hs.2,fun p hp q M b l t=>Y (H.inj i j r s b C F (Q0.e8.2 ⟨p,hp,l⟩) (Q0.e8.2 ⟨q,M,t⟩))⟩;have u:=dT.1 (h2 Z)
 have I:∀q∈r'.parts++s'.parts,q.holds w:=fun q M=>by
  rcases h1 q M with rfl|h
  ·exact .inl ⟨rfl,rfl,rfl,rfl⟩
  ·rcases bH.1 h with h|h
   ·exact hr.1 q h
   ·exact hs.1 q h
 have v:∀q∈r'.parts++s'.parts,∀b,q.key=some b->r.has b∨s.has b:=fun q M b G=>by
  rcases h1 q M with rfl|h
  ·cases G
  ·rcases bH.1 h with h|h
   ·exact .inl (Q0.e8.2 ⟨q,h,G⟩)
   ·exact .inr (Q0.e8.2 ⟨q,h,G⟩)
 have hli:=(aC.1 hi).1;have hlj:=(aC.1 hj).1
 have at_:∀{k q},Y3 ((L.set i r').set j s') k=some q->(k=j/\q=s')∨(k=i/\q=r')∨(k≠i/\k≠j/\Y3 L k=some q):=fun {k q} f=>by
  rw[N7]at f;by_cases J:j=k
  ·subst J;rw[aP (by simpa using hlj)]at f;cases f;exact .inl ⟨rfl,rfl⟩
  ·rw[aS J]at f;by_cases K:i=k
   ·subst K;rw[aP hli]at f;cases f;exact .inr (.inl ⟨rfl,rfl⟩)
   ·rw[aS K]at f;exact .inr (.inr ⟨Ne.symm K,Ne.symm J,by rw[N7];exact f⟩)
 have e:∀{k q b},((k=j/\q=s')∨(k=i/\q=r'))->q.has b->r.has b∨s.has b:=fun {k q b} f G=>by
  obtain⟨p,hp,N⟩:=Q0.e8.1 G;rcases f with⟨_,rfl⟩|⟨_,rfl⟩
  ·exact v p (gT _ hp) b N
  ·exact v p (eH _ hp) b N
 have d:∀{k q b},k≠i->k≠j->Y3 L k=some q->q.has b->(r.has b∨s.has b)->False:=fun {k q b} l t R U O=>by
  rcases O with O|O
  ·exact l (H.inj k i q r b R C U O)
  ·exact t (H.inj k j q s b R F U O)
 refine⟨H.fr,H.sub,H.keep,fun k q f=>?_,fun k q b f G=>?_,fun a c q p b ha hc l t=>?_⟩
 ·rcases at_ f with⟨rfl,rfl⟩|⟨rfl,rfl⟩|⟨_,_,h⟩
  ·exact Q0.ga.2 ⟨fun p hp=>I p (gT _ hp),u.2.1⟩
  ·exact Q0.ga.2 ⟨fun p hp=>I p (eH _ hp),u.1⟩
  ·exact H.own k q h
 ·have old:r.has b∨s.has b->(B.w0.heap.size<=b∨b∈B.X)/\S b=none:=fun h=>by
   rcases h with h|h
   ·exact H.old i r b C h
   ·exact H.old j s b F h
  rcases at_ f with h|h|⟨_,_,h⟩
  ·exact old (e (.inl h) G)
  ·exact old (e (.inr h) G)
  ·exact H.old k q b h G
 ·have z:∀{b},r'.has b->s'.has b->False:=fun {b} R U=>by obtain⟨x,hx,hxb⟩:=Q0.e8.1 R;obtain⟨y,hy,hyb⟩:=Q0.e8.1 U;exact u.2.2 x hx y hy b hxb hyb
  rcases at_ ha with⟨rfl,rfl⟩|⟨rfl,rfl⟩|⟨g1,g2,g3⟩
  ·rcases at_ hc with⟨rfl,rfl⟩|⟨rfl,rfl⟩|⟨f1,f2,f3⟩
   ·rfl
   ·exact(z t l).elim
   ·exact(d f1 f2 f3 t (e (k:=a) (.inl ⟨rfl,rfl⟩) l)).elim
  ·rcases at_ hc with⟨rfl,rfl⟩|⟨rfl,rfl⟩|⟨f1,f2,f3⟩
   ·exact(z l t).elim
   ·rfl
   ·exact(d f1 f2 f3 t (e (k:=a) (.inr ⟨rfl,rfl⟩) l)).elim
  ·rcases at_ hc with h|h|⟨f1,f2,f3⟩
   ·exact(d g1 g2 g3 l (e (k:=c) (.inl h) t)).elim
   ·exact(d g1 g2 g3 l (e (k:=c) (.inr h) t)).elim
   ·exact H.inj a c q p b g3 f3 l t
theorem HS.dx(H:HS B S w L):HS B S w (L++[Bd]):=HS.part H fun i r a=>by
 rw[N7]at a ⊢;by_cases h:i<L.length
 ·rw[aF h]at a;exact .inr a
 ·rw[aG (by omega)]at a;cases b:i-L.length with
  |zero=>rw[b]at a;cases a;exact .inl rfl
  |succ k=>rw[b]at a;cases a
theorem HS.split(H:HS B S w L){i:Nat}{A A':List R0}{q:R0}(b:L[i]? = some (.many A))(hp:A.Perm (q::A')):HS B S w (L.set i (.many A')++[q.up]):=by
 have c:=(aC.1 b).1;have h:=HS.two (HS.dx H) (i:=i) (j:=L.length) (r:=.many A) (s:=Bd) (r':=.many A') (s':=q.up) (by rw[aF c];exact b) (by simp) (by omega) (fun p a=>?_) fun d=>?_
 ·rw[fE _ _ c,eS _ _ (by simp)]at h;simpa using h
 ·rw[R0.Wd]at a;right;refine eH _ ?_;rcases bH.1 a with h|h
  ·exact hp.mem_iff.2 (aM _ h)
  ·rw[aZ.1 h];exact hp.mem_iff.2 aO
 ·rw[R0.Wd];have e:R0.apart A:=(dT.1 d).1;exact R0.U9 (hp.trans (dW q A').symm) e
theorem HS.join(H:HS B S w L){i j:Nat}{A A' D:List R0}{s:Q0}(c:L[i]? = some (.many A))(d:L[j]? = some s)(a:i≠j)(hp:(A++s.parts).Perm (A'++D)):HS B S w ((L.set i (.many A')).set j Bd):=by
 refine HS.two H c d a (fun p b=>?_) fun e=>?_
 ·rcases bH.1 b with h|h
  ·exact .inr (hp.mem_iff.2 (eH _ h))
  ·exact .inl (aZ.1 h)
 ·have f:R0.apart A':=(dT.1 (R0.U9 hp e)).1;exact R0.U9 (dW Ip A').symm (R0.Xd rfl f)
theorem HS.drop(H:HS B S w (L++[r])):HS B S w L:=HS.part H fun k q a=>.inr (by
 rw[N7]at a ⊢;rw[aF (aC.1 a).1]
 exact a)
theorem HS.nK(H:HS B S w L){i:Nat}{r:Q0}(b:L[i]? = some r):HS B S w (L.set i (.many r.parts)):=by have c:=(aC.1 b).1;have h:=HS.two (HS.dx H) (i:=i) (j:=L.length) (r:=r) (s:=Bd) (r':=.many r.parts) (s':=Bd) (by rw[aF c];exact b) (by simp) (by omega) (fun p a=>.inr a) fun d=>d;rw[fE _ _ c,eS _ _ (by simp)]at h;simp only[bW,eK,fP]at h;exact HS.drop h
end
section
variable {β:Type}{τ:TE}{Γ:CT}{n:Nat}{P:Program}{B:r9}{S:Mem}{E:List EI}{L:List Q0}{σ:St}{m:FM}{w:World}{V:Nat->Value}
theorem HS.splits{i:Nat}{A':List R0}:∀{rs A:List R0} {L:List Q0},HS B S w L->L[i]? = some (.many A)->A.Perm (rs++A')->HS B S w (L.set i (.many A')++rs.map R0.up)
 |[],A,L,H,a,hp=>by
  have h:=HS.two (HS.dx H) (i:=i) (j:=L.length) (r:=.many A) (s:=Bd) (r':=.many A') (s':=Bd) (by rw[aF (aC.1 a).1];exact a) (by simp) (by have:=(aC.1 a).1;omega) (fun p c=>?_) fun f=>?_
  ·rw[fE _ _ (aC.1 a).1,eS _ _ (by simp)]at h;refine HS.part h fun k r b=>.inr ?_;rw[N7]at b ⊢;rw[eN,bJ]at b;rw[aF (by have:=(aC.1 b).1;exact this)];exact b
  ·rcases bH.1 c with h|h
   ·exact .inr (eH _ (hp.mem_iff.2 h))
   ·exact .inl (aZ.1 h)
  ·have l:R0.apart A:=(dT.1 f).1;exact R0.U9 (dW Ip A').symm (R0.Xd rfl (R0.U9 hp l))
 |q::rs,A,L,H,a,hp=>by have h:=HS.split H a (q:=q) (A':=rs++A') hp;have d:=(aC.1 a).1;have e:=HS.splits (i:=i) (A':=A') (rs:=rs) (A:=rs++A') h (by rw[aF (by simpa using d),aP d]) (List.Perm.refl _);rw[fE _ _ (by simpa using d),iB,aU]at e;exact e
theorem HS.fx{i:Nat}{A':List R0}:∀{js:List Nat} {rs A:List R0} {L:List Q0},HS B S w L->L[i]? = some (.many A)->js.length=rs.length->js.Nodup->i∉js->(∀(k j:Nat) (q:R0),js[k]? = some j->rs[k]? = some q->L[j]? = some q.up)->A'.Perm (A++rs)->HS B S w (Cd js 0 (L.set i (.many A')))
 |[],[],A,L,H,p,_,_,_,_,hp=>by
  have h:=HS.splits (i:=i) (rs:=[]) (A':=A') H p (by simpa using hp.symm);rw[eN,bJ]at h;have:Cd [] 0 (L.set i (.many A'))=L.set i (.many A'):=by refine bN fun k=>?_;rw[Hp];simp[j0]
  rw[this];exact h
 |j::js,q::rs,A,L,H,p,f,t,u,s,hp=>by
  have b:i≠j:=fun e=>u (e▸aO);have h:=HS.join H p (s 0 j q rfl rfl) b (A':=A++[q]) (D:=[]) (by rw[R0.Wd,bJ]);have c:=(aC.1 p).1;rw[eL]at t
  have v:=HS.fx (i:=i) (A':=A') (js:=js) (rs:=rs) (A:=A++[q]) h (by rw[aS (Ne.symm b),aP c]) (by simpa using f) t.2 (fun h=>u (aM _ h)) (fun k C F z v=>by
   have l:=bO z;rw[aS (fun e=>t.1 (by rw[e];exact l)),aS (fun e=>u (by rw[e];exact aM _ l))]
   exact s (k+1) C F (by simpa using z) (by simpa using v)) (by rw[aU];exact hp)
  have:Cd (j::js) 0 (L.set i (.many A'))=Cd js 0 (((L.set i (.many (A++[q]))).set j Bd).set i (.many A')):=by
   refine bN fun k=>?_;rw[Hp,Hp,aV];by_cases a:i=k
   ·subst a;rw[aP c,aP (by simpa using c)];simp only[aX,j0];cases x:aJ j i with
    |true=>exact absurd (aB x).symm b|false=>rfl
   ·rw[aS a,aS a];by_cases d:j=k
    ·subst d;have y:=(aC.1 (s 0 j q rfl rfl)).1;rw[aP (by simpa using y),s 0 j q rfl rfl];simp only[aX,j0,eJ,Bool.true_or,zF];cases j0 js j<;>rfl
    ·rw[aS d,aS a];congr 1;funext r;have:j0 (j::js) k=j0 js k:=by
      simp only[j0];cases x:aJ j k with
      |true=>exact absurd (aB x) d|false=>rfl
     rw[this]
  rw[this];exact v
 |[],_::_,_,_,_,_,f,_,_,_,_=>by cases f
 |_::_,[],_,_,_,_,f,_,_,_,_=>by cases f
theorem yvX(o:X3)(os:List X3)(l:List SV):∃a p,w8 (o::os) l=a::w8 os p/\∀b e T (xs:List (den e)),a = .H' b e T xs->b=0:=by
 cases o with
 |N' T s=>exact⟨_,_,rfl,fun _ _ _ _ h=>by cases h⟩|dead=>exact⟨_,l,rfl,fun _ _ _ _ h=>by cases h⟩|H' e T=>
  cases l with
  |nil=>exact⟨_,[],rfl,fun _ _ _ _ h=>by cases h⟩|cons x l=>
   cases x with
   |v t y=>
    cases t with
    |sl d=>exact⟨_,l,rfl,fun b e T xs h=>by split at h<;>first|(cases h;done)|(cases h;rfl)⟩|_=>exact⟨_,_,rfl,fun _ _ _ _ h=>by cases h⟩
   |_=>exact⟨_,_,rfl,fun _ _ _ _ h=>by cases h⟩
 |U4 T f=>
  cases l with
  |nil=>exact⟨_,[],rfl,fun _ _ _ _ h=>by cases h⟩|cons x l=>
   cases x with
   |v t y=>
    cases t with
    |sl d=>exact⟨_,l,rfl,fun b e T xs h=>by split at h<;>cases h⟩|_=>exact⟨_,_,rfl,fun _ _ _ _ h=>by cases h⟩
   |_=>exact⟨_,_,rfl,fun _ _ _ _ h=>by cases h⟩
 |qu e T=>
  cases l with
  |nil=>exact⟨_,[],rfl,fun _ _ _ _ h=>by cases h⟩|cons x l=>
   cases x with
   |v t y=>
    cases t with
    |sl d=>exact⟨_,l,rfl,fun b e T xs h=>by split at h<;>cases h⟩|_=>exact⟨_,_,rfl,fun _ _ _ _ h=>by cases h⟩
   |_=>exact⟨_,_,rfl,fun _ _ _ _ h=>by cases h⟩
 |mp kp K V=>
  cases l with
  |nil=>exact⟨_,[],rfl,fun _ _ _ _ h=>by cases h⟩|cons x l=>
   cases x with
   |v t y=>
    cases t with
    |mp a c=>exact⟨_,l,rfl,fun b e T xs h=>by split at h<;>cases h⟩|_=>exact⟨_,_,rfl,fun _ _ _ _ h=>by cases h⟩
   |_=>exact⟨_,_,rfl,fun _ _ _ _ h=>by cases h⟩
 |is=>
  cases l with
  |nil=>exact⟨_,[],rfl,fun _ _ _ _ h=>by cases h⟩|cons x l=>
   cases x with
   |v t y=>
    cases t with
    |s=>
     cases l with
     |nil=>exact⟨_,_,rfl,fun _ _ _ _ h=>by cases h⟩|cons q l=>
      cases q with
      |v t2 u=>
       cases t2 with
       |i k=>cases k<;>exact⟨_,_,rfl,fun _ _ _ _ h=>by cases h⟩
       |_=>exact⟨_,_,rfl,fun _ _ _ _ h=>by cases h⟩
      |_=>exact⟨_,_,rfl,fun _ _ _ _ h=>by cases h⟩
    |_=>exact⟨_,_,rfl,fun _ _ _ _ h=>by cases h⟩
   |_=>exact⟨_,_,rfl,fun _ _ _ _ h=>by cases h⟩
 |it j kp K=>
  cases l with
  |nil=>exact⟨_,[],rfl,fun _ _ _ _ h=>by cases h⟩|cons x l=>
   cases x with
   |v t y=>
    cases t with
    |sl a=>exact⟨_,l,rfl,fun b e T xs h=>by split at h<;>cases h⟩|_=>exact⟨_,_,rfl,fun _ _ _ _ h=>by cases h⟩
   |_=>exact⟨_,_,rfl,fun _ _ _ _ h=>by cases h⟩
theorem lV:∀(os:List X3) (l:List SV),(w8 os l).length=os.length
 |[],l=>by cases l<;>rfl
 |o::os,l=>by obtain⟨a,b,h,_⟩:=yvX o os l;rw[h,aQ,aQ,lV os]
def Ye:AO->Prop
 |.N' _ _=>True|.mp _ _ _ _=>True|.dead=>True|_=>False
theorem kx(o:x6)(os:List X3)(l:List SV):∃a b,w8 (o.up::os) l=a::w8 os b/\Ye a:=by
 cases o with
 |N' T s=>exact⟨_,_,rfl,trivial⟩|mp K V=>
  cases l with
  |nil=>exact⟨_,[],rfl,trivial⟩|cons x l=>
   cases x with
   |v t y=>
    cases t with
    |mp a c=>exact⟨_,l,rfl,by split<;>trivial⟩|_=>exact⟨_,_,rfl,trivial⟩
   |_=>exact⟨_,_,rfl,trivial⟩
theorem DQ:∀{f:List x6} {l:List SV} {o:AO},o∈w8 (f.map x6.up) l->Ye o
 |[],_,_,h=>by cases h
 |s::f,l,o,h=>by
  obtain⟨a,d,b,c⟩:=kx s (f.map x6.up) l;rw[bF,b]at h;rcases aN.1 h with rfl|h
  ·exact c
  ·exact DQ h
theorem Ac.ren{F a:Nat->Nat}{c d:List EI}{S:Mem}{o:AO}{r:Q0}{e:EI}(i:ug F a c d)(hk:Ye o)(h:Ac S c o r e):OR S d (ul F a o) r e:=by
 cases o with
 |N' T s=>obtain⟨b,j,l,p,q⟩:=h;exact⟨b,j,l,p,q.map (f:=bd F a) fun _ _=>BQ i⟩
 |mp=>exact h|dead=>exact h|_=>exact hk.elim
theorem Ac.EQ{E:List EI}{S:Mem}{o:AO}{r:Q0}{e:EI}(hk:Ye o)(h:Ac S E o r e):∀r v a,e≠.U4 r v a:=fun r v a b=>by
 subst b;cases o with
 |N'=>obtain⟨_,_,_,h,_⟩:=h;cases h
 |mp=>obtain⟨_,_,_,_,h,_⟩:=h;cases h
 |dead=>cases h.2
 |_=>exact hk.elim
theorem yyS{a:Type}:∀{ms:List (List a)} {j:Nat} {rs:List a},ms[j]? = some rs->ms.flatten.Perm (rs++(ms.set j []).flatten)
 |[],j,rs,h=>by simp at h
 |m::ms,0,rs,h=>by simp at h;subst h;simp
 |m::ms,j+1,rs,h=>by have b:=yyS (ms:=ms) (j:=j) (rs:=rs) (by simpa using h);simp only[List.flatten_cons,List.set_cons_succ];exact(b.append_left m).trans ((List.perm_append_comm_assoc m rs _))
theorem lx(R:l3 B S E L σ V w){t:Nat}{k:St->Option β}{r:β}(h:tU σ t k=some r):∃U E1 L1 id i,z7 σ.sl t = .fp id i 0/\k U=some r/\V4 E E1/\l3 B S E1 L1 U V w/\VR S E1 (.fp id i 0) (V t)/\VR S E1 (.ptr σ.hp.length 0) (V t)/\∀j,j≠id->j<L.length->Y3 L1 j=Y3 L j:=by
 unfold tU at h;split at h
 ·rename_i id i hs;split at h
  ·rename_i v0 T0 f ks hc;obtain⟨F,hq⟩:=r7 h;obtain⟨x,hx,hk⟩:=x9 hq;rw[Fa]at hc;obtain⟨r0,e0,g1,g2,v,rs,ms,bs,rfl,rfl,g3⟩:=R.obj id _ hc;have G:=R.sl t;rw[hs]at G;have X:=G;obtain⟨_,e1,h5,h6⟩:=G;rw[g2]at h5;cases h5;obtain⟨hi0,b,I,hv⟩:=h6 _ _ _ rfl;obtain⟨hi,Y⟩:=qG hx;obtain⟨rs1,b1,k1,k2,k3⟩:=g3.mem _ _ Y (by simp);rw[I]at k2;cases k2;obtain⟨l,m1,m2,m3,m4⟩:=k3;have J:(w8 (f.map x6.up) (rc _ (IC f x))).length=f.length:=by rw[lV,aE]
   have q:id<L.length:=(aC.1 g1).1;have u:id<E.length:=(aC.1 g2).1;have hidH:id<σ.hp.length:=by rw[<-R.lE];exact u
   have H:=HS.splits R.hs (i:=id) (rs:=rs1) (A':=.H' v ks.length 1 (bs.map Q7) rs T0::(ms.set i.toNat []).flatten) g1
    ((List.Perm.cons _ (yyS k1)).trans List.perm_middle.symm)
   have K:ug (fun j=>σ.hp.length+j) (fun _=>0) l (E++l):=fun j e' d=>by
    refine⟨e',by show(E++l)[σ.hp.length+j]? = _;rw[aG (by rw[R.lE];omega),R.lE,show σ.hp.length+j-σ.hp.length=j by omega];exact d,fun b I=>I,fun r v s I=>⟨bG _,fun h0=>by rw[I,<-h0]⟩,fun g b ck es I=>⟨g,I⟩,?_⟩;have Z:j<(w8 (f.map x6.up) (rc _ (IC f x))).length:=by rw[J,<-m3];exact(aC.1 d).1
    obtain⟨r1,e1,O,z,M⟩:=m4 j _ (aH Z);rw[d]at z;cases z;exact M.EQ (DQ (bC Z))
   have hE:V4 E (E++l):=V4.push E l;have hp:VR S (E++l) (.ptr σ.hp.length 0) (V t):=by
    have C:0<l.length:=by
     rw[m3];cases f with
     |nil=>cases F
     |cons=>simp
    exact⟨b,hv,l[0],by rw[aG (by rw[R.lE];exact aL _),R.lE,eK];exact aH C,fun b' hb'=>m1 b' (by rw[aH C,hb'])⟩
   refine⟨_,E++l,_,id,i,hs,hk,hE,⟨H,?_,?_,fun j o c=>?_,fun t'=>?_⟩,X.mono (Mem.le_refl S) hE,hp,fun j d hl=>by rw[N7,N7,aF (by simpa using hl),aS (Ne.symm d)]⟩
   ·simp[me,R.lL,J,m2]
   ·simp[me,R.lE,J,m3]
   ·have c:(O6 σ.hp id (.wa v0 T0 f ks i)++(w8 (f.map x6.up) (rc _ (IC f x))).map (ul (fun j=>σ.hp.length+j) fun _=>0))[j]? = some o:=c;rw[me]at c;by_cases d:j<σ.hp.length
    ·rw[aF (by simpa using d)]at c;by_cases N:id=j
     ·subst N;rw[aP d]at c;cases c;refine⟨_,_,by rw[aF (by simpa using q),aP q],by rw[aF u];exact g2,hi0,(aC.1 Y).1,v,rs,ms.set i.toNat [],bs,rfl,rfl,⟨by simpa using g3.l1,g3.l2,fun a y ha hne=>?_,fun a ha=>?_⟩⟩
      ·have hne':i.toNat≠a:=fun e=>hne (by rw[e]);obtain⟨rs2,b2,O,z,M⟩:=g3.mem a y ha (by simp);exact⟨rs2,b2,by rw[aS hne'];exact O,z,M⟩
      ·cases ha;exact aP (aC.1 k1).1
     ·rw[aS N]at c;obtain⟨r2,e2,O,z,M⟩:=R.obj j o c;exact⟨r2,e2,by rw[aF (by rw[bW,R.lL];exact d),aS N];exact O,by rw[aF (by rw[R.lE];exact d)];exact z,M.mono (Mem.le_refl S) hE⟩
    ·rw[aG (by simpa using fH d),bW,cF]at c;cases p:(w8 (f.map x6.up) (rc _ (IC f x)))[j-σ.hp.length]? with
     |none=>rw[p]at c;cases c
     |some o'=>
      rw[p]at c;cases c;obtain⟨r2,e2,O,z,M⟩:=m4 _ _ p;refine⟨r2.up,e2,?_,?_,Ac.ren K (DQ (bO p)) M⟩
      ·rw[aG (by rw[bW,R.lL];omega),bW,R.lL,cF,O];rfl
      ·rw[aG (by rw[R.lE];omega),R.lE];exact z
   ·show VR S (E++l) (bif aJ t t' then .ptr σ.hp.length 0 else z7 σ.sl t') _;cases ht:aJ t t' with
    |true=>rw[<-aB ht];exact hp|false=>exact(R.sl t').mono (Mem.le_refl S) hE
  ·cases h
 ·cases h
theorem Zl:∀(n b k:Nat),(je b n)[k]? = if k<n then some (b+k)else none
 |0,b,k=>by simp[je]
 |n+1,b,0=>by simp[je]
 |n+1,b,k+1=>by
  rw[je,cD,Zl n (b+1) k];by_cases h:k<n
  ·rw[zJ h,zJ (by omega)];congr 1;omega
  ·rw[zI h,zI (by omega)]
theorem yg:∀(n b:Nat),(je b n).length=n
 |0,_=>rfl|n+1,b=>by rw[je,aQ,yg n]
theorem FQ:∀{n b j:Nat},j∈je b n->∃k,k<n/\j=b+k
 |0,_,_,h=>by cases h
 |n+1,b,j,h=>by
  rcases aN.1 h with rfl|h
  ·exact⟨0,by omega,rfl⟩
  ·obtain⟨k,a,c⟩:=FQ h;exact⟨k+1,by omega,by omega⟩
theorem xaR:∀(n b:Nat),(je b n).Nodup
 |0,_=>List.nodup_nil|n+1,b=>eL.2 ⟨fun h=>by obtain⟨k,_,a⟩:=FQ h;omega,xaR n (b+1)⟩
theorem vi:∀{l:List Nat} {j:Nat},j0 l j=true->j∈l
 |[],_,h=>by cases h
 |x::l,j,h=>by
  unfold j0 at h;cases a:aJ x j with
  |true=>rw[aB a];exact aO|false=>rw[a]at h;exact aM _ (vi h)
theorem xfF{l:List Nat}{j:Nat}(h:j∉l):j0 l j=false:=by
 cases a:j0 l j with
 |false=>rfl|true=>exact absurd (vi a) h
theorem Ac.up{E:List EI}{S:Mem}{o:AO}{r:Q0}{e:EI}(hk:Ye o)(h:OR S E o r e):∃q:R0,r=q.up/\Ac S E o q.up e:=by
 cases o with
 |N' T f=>obtain⟨b,c,rfl,a,d⟩:=h;exact⟨.N' b c T,rfl,b,c,rfl,a,d⟩
 |mp g K V i=>obtain⟨b,Q',ck,rfl,a⟩:=h;exact⟨.obj b (.map (List.toArray Q') ck),rfl,b,Q',ck,rfl,a⟩
 |dead=>obtain⟨rfl,a⟩:=h;exact⟨Ip,rfl,rfl,a⟩
 |_=>exact hk.elim
theorem ox:∀{ls:List Q0},(∀r∈ls,∃q:R0,r=q.up)->∃rs:List R0,ls=rs.map R0.up
 |[],_=>⟨[],rfl⟩|r::ls,h=>by obtain⟨q,rfl⟩:=h r aO;obtain⟨rs,rfl⟩:=ox (ls:=ls) fun r a=>h r (aM _ a);exact⟨q::rs,rfl⟩
theorem px(L:List Q0):∀{os:List X3} {ids:List Nat} {k id:Nat} {o:X3} {r:Q0},os[k]? = some o->live o=true->ids[k]? = some id->L[id]? = some r->(ib L os ids)[k]? = some r
 |[],_,_,_,_,_,h,_,_,_=>by simp at h
 |_::_,[],_,_,_,_,_,_,h,_=>by simp at h
 |o::os,i::ids,0,id,e,r,a,c,b,d=>by simp at a b;subst a;subst b;simp only[ib,List.getElem?_cons_zero,c,zF,N7,d]
 |o::os,i::ids,k+1,id,e,r,a,c,b,d=>by simp only[ib,cD];exact px L (by simpa using a) c (by simpa using b) d
theorem Lp(L:List Q0):∀(os:List X3) (ids:List Nat),os.length=ids.length->(ib L os ids).length=ids.length
 |[],[],_=>rfl|_::os,_::ids,h=>by simp[ib,Lp L os ids (by simpa using h)]
theorem mV(o:x6):live o.up=true:=by cases o<;>rfl
theorem Mp{o:x6}{a:AO}(h:GD o.up a=true):Ye a:=by cases o<;>cases a<;>first|trivial|cases h
theorem JD(f:List x6)(x:b8 (sF f).o8):IC f (qN f x)=x:=by unfold IC qN;rw[Eo,cast_cast,cast_eq]
theorem jg.first{S:Mem}{f:List x6}{x:den (fT f)}{rs:List R0}{b:Nat}(hf:tw f=true)(h:jg S f x rs b):∃us T',R0.N' b us T'∈rs:=by
 obtain⟨q,d,t,u,i⟩:=h;cases f with
 |nil=>cases hf
 |cons s f=>
  cases s with
  |mp=>cases hf
  |N' T l=>
   obtain⟨r,e,j,p,v,us,a,rfl,y⟩:=i 0 (.N' T _) rfl;have c:=d _ p;rw[c]at a;refine⟨us,T,?_⟩;have:r = .N' b us T:=by cases r<;>simp only[R0.up,Q0.N'.injEq,reduceCtorEq]at a;obtain⟨rfl,rfl,rfl⟩:=a;rfl
   rw[<-this];exact bO j
theorem xaQ{f:List x6}{x:b8 (sF f).o8}{ρ:List Nat}{u:Value}(R:l3 B S E L σ V w)(s:f.length=ρ.length){s0:SV}(hs:VR S E s0 u)(Y:(sF f).Zc ρ ⟨[(0,s0)],σ.hp⟩=some x):∃rs:List R0,rs.length=f.length/\(∀b,u=Q7 b->jg S f (qN f x) rs b)/\(∀(k j:Nat) (q:R0),ρ[k]? = some j->rs[k]? = some q->L[j]? = some q.up)/\Wf (f.map x6.up) ρ=true /\(∀(k j:Nat) (o:x6),f[k]? = some o->ρ[k]? = some j->∃d,σ.hp[j]? = some d/\GD o.up d=true):=by
 have H:(sF f).hp.length=ρ.length:=by show(f.map x6.up).length=_;rw[aE];exact s
 have RB:l3 B S E L ⟨[(0,s0)],σ.hp⟩ (fun t=>if t=0 then u else undef) w:=⟨R.hs,R.lL,R.lE,R.obj,fun t=>by
  show VR S E (bif aJ 0 t then s0 else .undef) _;cases t with
  |zero=>exact hs|succ t=>trivial⟩
 have I:=OU RB H Y;obtain⟨J,q,c⟩:=yzY Y;have J:Wf (f.map x6.up) ρ=true:=J;have c:Hb ρ σ.hp (f.map x6.up) ρ=some q:=c;have kind:∀(k j:Nat) (o:x6),f[k]? = some o->ρ[k]? = some j->∃d,σ.hp[j]? = some d/\GD o.up d=true:=fun k j o C F=>
  ypN c (by rw[cF,C];rfl) (mV o) F
 have Zb:((sF f).put x).hp=w8 (f.map x6.up) (rc _ x):=rfl;have K:(w8 (f.map x6.up) (rc _ x)).length=f.length:=by rw[lV,aE]
 have v:(ib L (f.map x6.up) ρ).length=f.length:=by rw[Lp _ _ _ (by rw[aE];exact s),s]
 have M:(tc E (f.map x6.up) ρ).length=f.length:=by rw[xeH _ _ _ (by rw[aE];exact s),s]
 obtain⟨rs,h⟩:∃rs:List R0,ib L (f.map x6.up) ρ=rs.map R0.up:=ox fun r hr=>by
  obtain⟨k,Z⟩:=gU hr;have y:k<(w8 (f.map x6.up) (rc _ x)).length:=by rw[K,<-v];exact(aC.1 Z).1
  obtain⟨G,e1,a,q2,N⟩:=I.obj k _ (by rw[Zb];exact aH y);have a:(ib L (f.map x6.up) ρ)[k]? = some G:=a;rw[Z]at a;cases a;obtain⟨q,c,_⟩:=Ac.up (DQ (bC y)) N;exact⟨q,c⟩
 have l:rs.length=f.length:=by rw[<-v,h,aE]
 refine⟨rs,l,fun b hb=>⟨tc E (f.map x6.up) ρ,fun b' O=>?_,l,M,fun i o U=>?_⟩,fun k j q C F=>?_,J,kind⟩
 ·obtain⟨b4,p,e,k2,k3⟩:VR S (tc E (f.map x6.up) ρ) (.ptr 0 0) u:=I.sl 0;rw[hb]at p;have X:b=b4:=by unfold Q7 at p;injection p with p;injection p with p;injection p
  rw[O]at k2;rw[X];exact k3 b' (ka k2).symm
 ·rw[JD]at U;obtain⟨G,e1,a,q2,N⟩:=I.obj i o U;have a:(ib L (f.map x6.up) ρ)[i]? = some G:=a;obtain⟨q,rfl,q4⟩:=Ac.up (DQ (bO U)) N;rw[h,cF]at a;cases c:rs[i]? with
  |none=>rw[c]at a;cases a
  |some q'=>rw[c]at a;have:q'.up=q.up:=ka a;exact⟨q',e1,rfl,q2,by rw[this];exact q4⟩
 ·have z:k<f.length:=by rw[<-l];exact(aC.1 F).1
  obtain⟨d,h3,_⟩:=kind k j _ (aH z) C;obtain⟨G,_,a,_,_⟩:=R.obj j d h3;have:=px L (os:=f.map x6.up) (ids:=ρ) (by rw[cF,aH z];rfl) (mV _) C a;rw[h,cF,F]at this;rw[a,<-this];rfl
theorem qx(R:l3 B S E L σ V w){t id c:Nat}{i0:Int}{k:St->Option β}{r:β}(hV1:VR S E (.fp id i0 0) (V t))(hV2:VR S E (.ptr c 0) (V t))(h:uU σ t id i0 c k=some r):∃σ' S' E' L',k σ'=some r/\Mem.le S S'/\V4 E E'/\l3 B S' E' L' σ' V w/\∀j,j≠id->j<c->j0 (uw σ id c) j=false->Y3 L' j=Y3 L j:=by
 unfold uU at h
 ·obtain⟨S1,E1,L1,C,F,z,hF1⟩:=KU (uw σ id c) R;generalize x5 σ (uw σ id c)=d at *;unfold XP at h;split at h
  ·rename_i v0 T f ks i hc;obtain⟨l,hq⟩:=r7 h;clear h;split at hq
   ·rename_i x Y;obtain⟨r',hset,hk⟩:=x9 hq;obtain⟨hi,hil,p⟩:=Sr hset;rw[Fa]at hc;obtain⟨r0,e0,g1,g2,hi0,hi1,v,cr,ms,Z,rfl,rfl,g3⟩:=z.obj id _ hc;have hV1':=hV1.mono C F;have hV2':=hV2.mono C F;obtain⟨rs,hrl,hmem,hat,hd,q⟩:=xaQ z (yg f.length c).symm hV2' Y;obtain⟨_,e1,h5,h6⟩:=hV1';rw[g2]at h5;cases h5;obtain⟨hj0,b,hb,hv⟩:=h6 _ _ _ rfl;have hv:V t=Q7 b:=hv;have hm:=hmem b hv
    -- the member that was out is this one
    have hii:i.toNat=i0.toNat:=Classical.byContradiction fun hne=>by
     have hlt:i0.toNat<ks.length:=by rw[<-g3.l2];exact(aC.1 hb).1
     obtain⟨N,b2,q1,q2,q3⟩:=g3.mem i0.toNat _ (aH hlt) (fun h=>hne (ka h));rw[hb]at q2;cases q2;obtain⟨us2,T2,q4⟩:=q3.first l;obtain⟨us3,T3,q5⟩:=hm.first l;obtain⟨s,q6⟩:=gU q5;have hkl:s<f.length:=by rw[<-hrl];exact(aC.1 q6).1
     have hup:(je c f.length)[s]? = some (c+s):=by rw[Zl,zJ hkl]
     have q7:=hat s (c+s) _ hup q6;have:=z.hs.inj id (c+s) _ _ b (by rw[N7];exact g1) (by rw[N7];exact q7) (Q0.e8.2 ⟨_,aM _ (List.mem_flatten.2 ⟨N,bO q1,q4⟩),rfl⟩) (R0.PI.2 rfl);obtain⟨ao,q8,q9⟩:=q s (c+s) _ (aH hkl) hup;rw[<-this,hc]at q8;cases q8;exact Mp q9
    rw[<-hii]at hb;have hnot:id∉je c f.length:=fun hmm=>by obtain⟨s,h1,h2⟩:=FQ hmm;obtain⟨ao,q8,q9⟩:=q s id _ (aH h1) (by rw[Zl,zJ h1,h2]);rw[hc]at q8;cases q8;exact Mp q9
    have hms:ms[i.toNat]? = some []:=g3.no _ rfl;have O:i.toNat<ms.length:=(aC.1 hms).1;have U:(R0.H' v ks.length 1 (Z.map Q7) cr T::(ms.set i.toNat rs).flatten).Perm ((R0.H' v ks.length 1 (Z.map Q7) cr T::ms.flatten)++rs):=by
     have h1:=yyS (ms:=ms.set i.toNat rs) (j:=i.toNat) (rs:=rs) (aP O);rw[iB]at h1;have h2:ms.set i.toNat []=ms:=by
      refine bN fun a=>?_;by_cases Y:i.toNat=a
      ·subst Y;rw[aP O,hms]
      ·rw[aS Y]
     rw[h2]at h1;exact(List.Perm.cons _ (h1.trans List.perm_append_comm))
    have H:=HS.fx (i:=id) (js:=je c f.length) (rs:=rs) z.hs g1 (by rw[yg,hrl]) (xaR _ _) hnot hat U;have hidL:id<L1.length:=(aC.1 g1).1;have hidH:id<d.hp.length:=(aC.1 hc).1;have G:=kV (je c f.length) E1;refine⟨_,S1,jb (je c f.length) 0 E1,_,hk,C,F.trans G,⟨H,?_,?_,fun j o u=>?_,fun t'=>?_⟩,fun j hj hjb hnn=>?_⟩
    ·simp[jV,cx,me,z.lL]
    ·simp[mK,cx,me,z.lE]
    ·have u:(Io (je c f.length) 0 (O6 d.hp id (.U4 v0 T f r')))[j]? = some o:=u;rw[ZU,me,aV]at u;cases M:j0 (je c f.length) j with
     |true=>
      cases e:(d.hp.set id (.U4 v0 T f r'))[j]? with
      |none=>rw[e]at u;cases u
      |some o2=>
       rw[e,aX,M]at u;cases u;have hjl:j<d.hp.length:=by have:=(aC.1 e).1;simpa using this
       refine⟨Bd,.dead,?_,?_,rfl,rfl⟩
       ·rw[Hp,aH (by rw[bW,z.lL];exact hjl),aX,aV,M];rfl
       ·rw[WG,aH (by rw[z.lE];exact hjl),aX,aV,M];rfl
     |false=>
      have I:(d.hp.set id (.U4 v0 T f r'))[j]? = some o:=by
       cases e:(d.hp.set id (.U4 v0 T f r'))[j]? with
       |none=>rw[e]at u;cases u
       |some o2=>rw[e,aX,M]at u;exact u
      by_cases X:id=j
      ·subst X;rw[aP hidH]at I;cases I;have hL3:(Cd (je c f.length) 0 (L1.set id (.many (.H' v ks.length 1 (Z.map Q7) cr T::(ms.set i.toNat rs).flatten))))[id]? = some (.many (.H' v r'.length 1 (Z.map Q7) cr T::(ms.set i.toNat rs).flatten)):=by rw[Hp,aP hidL,aX,aV,M,<-p,bW];rfl
       have hE3':(jb (je c f.length) 0 E1)[id]? = some (.U4 v0 v Z):=by rw[WG,g2,aX,aV,M];rfl
       refine⟨_,_,hL3,hE3',v,cr,ms.set i.toNat rs,Z,rfl,rfl,?_⟩
       ·refine⟨by rw[bW,g3.l1,<-p,bW],by rw[g3.l2,<-p,bW],fun a y J _=>?_,fun a Y=>by cases Y⟩;by_cases K:i.toNat=a
        ·subst K;rw[<-p,aP hil]at J;cases J;exact⟨rs,b,aP O,hb,hm⟩
        ·rw[<-p,aS K]at J;obtain⟨N,b2,q1,q2,q3⟩:=g3.mem a y J (fun h=>K (ka h));exact⟨N,b2,by rw[aS K];exact q1,q2,q3⟩
      ·rw[aS X]at I;obtain⟨r2,e2,q1,q2,q3⟩:=z.obj j o I;exact⟨r2,e2,by rw[Hp,aS X,q1,aX,aV,M];rfl,by rw[WG,q2,aX,aV,M];rfl,q3.mono (Mem.le_refl S1) G⟩
    ·show VR S1 _ (bif aJ t t' then .fp id i0 0 else z7 d.sl t') _;cases ht:aJ t t' with
     |true=>rw[<-aB ht];exact hV1.mono C (F.trans G)|false=>exact(z.sl t').mono (Mem.le_refl S1) G
    ·rw[<-hF1 j hnn,N7,Hp,aV,aS (Ne.symm hj),xfF (fun hm=>by obtain⟨s,_,h2⟩:=FQ hm;omega),N7];cases L1[j]? <;> rfl
   ·cases hq
  ·cases h
end
section
variable {β:Type}{τ:TE}{Γ:CT}{n:Nat}{P:Program}{B:r9}{S:Mem}{E:List EI}{L:List Q0}{σ:St}{m:FM}{w:World}{dst:Option Tmp}{g:Option (Nat×Bool)}{ty:TypeId}{pos:String}{aft:Array Edge}{T:TypeId}{k:SV->St->Option β}{r:β}
theorem l3.kill{V:Nat->Value}(R:l3 B S E L σ V w)(I:List Nat):l3 B S (jb I 0 E) (Cd I 0 L) ⟨σ.sl,Io I 0 σ.hp⟩ V w:=by
 refine⟨HS.part R.hs fun i r a=>?_,by rw[jV,cx];exact R.lL,by rw[mK,cx];exact R.lE,fun j q b=>?_,fun t=>(R.sl t).mono (Mem.le_refl S) (kV I E)⟩
 ·rw[N7,Hp,aV]at a;cases c:L[i]? with
  |none=>rw[c]at a;cases a
  |some u=>
   rw[c]at a;simp only[aX,Option.some.injEq]at a;cases f:j0 I i with
   |true=>rw[f]at a;exact .inl a.symm|false=>rw[f]at a;right;rw[N7,c,<-a];rfl
 ·rw[ZU,aV]at b;cases d:σ.hp[j]? with
  |none=>rw[d]at b;cases b
  |some h=>
   obtain⟨r,e,l,p,s⟩:=R.obj j h d;rw[d]at b;refine⟨_,_,by rw[Hp,l];rfl,by rw[WG,p];rfl,?_⟩;rw[aV];simp only[aX,Option.some.injEq]at b;cases a:j0 I j with
   |true=>rw[a]at b;subst b;exact⟨rfl,rfl⟩|false=>rw[a]at b;subst b;exact s.mono (Mem.le_refl S) (kV I E)
theorem Rel.kill(R:Rel n B S E L σ m w)(I:List Nat):Rel n B S (jb I 0 E) (Cd I 0 L) ⟨σ.sl,Io I 0 σ.hp⟩ m w:=l3.kill R I
theorem wi{o:Op}(a:P3 P τ)(b:X6 P Γ B):∀{ts:List Nat} {σ:St} {S:Mem} {E:List EI} {L:List Q0} {k:SV->St->Option β},Rel n B S E L σ m w->Pd τ Γ o T ts σ k=some r ->
  outcome P (j6 n B S E m k r) ((execOp (o0 n m) ⟨dst,o,ty,pos,aft,g⟩).run P w)
 |[],σ,S,E,L,k,R,h=>xg a b R h|t::ts,σ,S,E,L,k,R,h=>by
  unfold Pd at h;split at h
  ·rename_i id i s u;obtain⟨y,Y,Z,z,i',c,C,F,G,d,e,_⟩:=lx R h;rw[u]at c;cases c;refine Qu (wi a b G C) ?_;rintro v w' ⟨x,H,S2,E2,L2,I,f,j,J,K⟩;obtain⟨l,M,N,O,U,p,q,X,_⟩:=qx J (d.mono f j) (e.mono f j) I;exact⟨x,l,M,N,O,U,Mem.le_trans f p,F.trans (j.trans q),X,K.mono p q⟩
  ·cases h
theorem dt{T1 E0:TypeId}{fe:TI}{f:List x6}{i:Nat}{x:Operand}(R:Rel n B S E L σ m w)(hT:P.underlying T1=some (.slice E0))(hE:l4 P E0 fe)(hs:Yb fe=true)(hz:fe.sz=1)(hx:VR S E (.ptr i 0) (o0 n m x))(h:Al E0 f i σ k=some r):
  outcome P (j6 n B S E m k r) ((execOp (o0 n m) ⟨dst,.buildSlice T1 1 #[(0,x)],ty,pos,aft,g⟩).run P w):=by
 unfold Al at h;obtain⟨S1,Z,L1,hS1,hE1,u⟩:=fh ((sF f).need 0 ⟨[(0,.ptr i 0)],σ.hp⟩) R;generalize x5 σ ((sF f).need 0 ⟨[(0,.ptr i 0)],σ.hp⟩)=d at *;unfold Jo at h;split at h
 ·rename_i y Y;have hx1:=hx.mono hS1 hE1;have s:f.length=((sF f).Td 0 ⟨[(0,.ptr i 0)],d.hp⟩).length:=by have:=zQ d.hp.length (cw d.hp 0 (sF f).hp (FG 0 0++(sF f).sl.flatMap fun p=>p.2.V3 (z7 [(0,SV.ptr i 0)] p.1))) (sF f).hp 0;rw[show f.length=(sF f).hp.length from(aE ..).symm];exact this
  generalize (sF f).Td 0 ⟨[(0,.ptr i 0)],d.hp⟩=C at *;obtain⟨rs,hrl,hmem,hat,hd,O⟩:=xaQ u s hx1 Y;obtain⟨b,hb,_⟩:=hx1;have hb:o0 n m x=Q7 b:=hb;have U:=YU hT hE hs;rw[hz]at U;obtain⟨z0,hz0⟩:∃z0,fe.z.map zc=[z0]:=by
   have hl:=U.len;cases hzl:fe.z.map zc with
   |nil=>rw[hzl]at hl;cases hl
   |cons a l=>cases l with
    |nil=>exact⟨a,rfl⟩|cons=>rw[hzl]at hl;simp at hl
  obtain⟨w',v,hrun,H⟩:=Gh (e:=o0 n m) (N:=1) (ps:=[(0,x)]) (vals:=[(0,o0 n m x)]) (l:=[Q7 b]) (dst:=dst) (ty:=ty) (pos:=pos) (aft:=aft) (g:=g) U u.hs rfl (by rw[hz0,hb];rfl) (by rfl) rfl;rw[hrun];have H1:=HS.nK (HS.snoc H) (i:=L1.length) (r:=.H' v 1 1 [Q7 b] [] E0) (by simp)
  have K:∀j∈C,j<d.hp.length:=fun j G=>by
   obtain⟨kk,hk⟩:=gU G;have hkf:kk<f.length:=by rw[s];exact(aC.1 hk).1
   obtain⟨ao,q8,_⟩:=O kk j _ (aH hkf) hk;exact(aC.1 q8).1
  have M:L1.length∉C:=fun G=>by have:=K _ G;rw[u.lL]at this;omega
  have hnd:C.Nodup:=List.pairwise_iff_getElem.2 fun a c Y hc hac he=>by
   have hcf:c<f.length:=by rw[s];exact hc
   have haf:a<f.length:=by rw[s];exact Y
   have:=NU hd (k:=a) (k':=c) (o:=(f[a]).up) (o':=(f[c]).up) (id:=C[c]) (by rw[cF,aH haf];rfl) (mV _) (by rw[aH Y,he]) (by rw[cF,aH hcf];rfl) (mV _) (aH hc);omega
  have H2:=HS.fx (i:=L1.length) (js:=C) (rs:=rs) (A:=[.H' v 1 1 [Q7 b] [] E0]) (A':=.H' v 1 1 [Q7 b] [] E0::rs) H1 (by rw[aP (by simp)];rfl) (by rw[hrl,s]) hnd M (fun kk j q h1 h2=>by
   have hjl:=K j (bO h1);rw[aS (by rw[u.lL];omega),aF (by rw[u.lL];exact hjl)]
   exact hat kk j q h1 h2) (List.Perm.refl _)
  rw[iB,eS _ _ (aL _),eK,fP]at H2;have X:V4 Z (jb C 0 Z++[.U4 0 v [b]]):=(kV C Z).trans (V4.push _ _);have hgN:(jb C 0 Z++[EI.U4 0 v [b]])[d.hp.length]? = some (.U4 0 v [b]):=by rw[aG (by rw[mK,u.lE];exact aL _),mK,u.lE,eK];rfl
  have hone:v.oneCell'=true:=by rcases H.own 0 _ rfl with⟨hv,_⟩|⟨_,_,_,hv,_⟩<;>rw[hv]<;>rfl
  refine⟨_,_,S1,_,_,h,hS1,hE1.trans X,⟨H2,?_,?_,fun j o F=>?_,fun t=>(u.sl t).mono (Mem.le_refl S1) X⟩,⟨hone,_,hgN,fun r1 v1 b1 hq=>by cases hq;exact⟨aL _,fun _=>rfl⟩⟩⟩
  ·simp[jV,cx,u.lL]
  ·simp[mK,cx,u.lE]
  ·have F:(Io C 0 d.hp++[AO.U4 0 E0 f [qN f y]])[j]? = some o:=F;by_cases G:j<d.hp.length
   ·rw[aF (by rw[cx];exact G),ZU,aV,aH G]at F;obtain⟨r2,e2,q1,q2,q3⟩:=u.obj j _ (aH G);have I:(Cd C 0 (L1++[.many (.H' v 1 1 [Q7 b] [] E0::rs)]))[j]? = some (bif j0 C j then Bd else r2):=by rw[Hp,aF (by rw[u.lL];exact G),q1,aV];rfl
    have J:(jb C 0 Z++[EI.U4 0 v [b]])[j]? = some (bif j0 C j then .dead else e2):=by rw[aF (by rw[mK,u.lE];exact G),WG,q2,aV];rfl
    cases hh:j0 C j with
    |true=>rw[hh]at F I J;cases F;exact⟨_,_,I,J,rfl,rfl⟩
    |false=>rw[hh]at F I J;have F:d.hp[j]=o:=ka F;rw[F]at q3;exact⟨_,_,I,J,q3.mono (Mem.le_refl S1) X⟩
   ·have hj2:j=d.hp.length:=by have:=(aC.1 F).1;simp[cx]at this;omega
    subst hj2;rw[aG (by rw[cx];exact aL _),cx,eK]at F;cases F;refine⟨_,_,by rw[Hp,aG (by rw[u.lL];exact aL _),u.lL,eK,aV,xfF (by rw[<-u.lL];exact M)];rfl,hgN,v,[],[rs],[b],by simp,rfl,rfl,rfl,fun a y' hay _=>?_,fun a Y=>by cases Y⟩;cases a with
    |zero=>cases hay;exact⟨rs,b,rfl,rfl,hmem b hb⟩
    |succ a=>cases hay
 ·cases h
theorem et{T1 E0:TypeId}{fe:TI}{x y:Operand}{id C p J:Nat}(R:Rel n B S E L σ m w)(hT:P.underlying T1=some (.slice E0))(hE:l4 P E0 fe)(hs:Yb fe=true)(hz:fe.sz=1)(hx:VR S E (.fs id C) (o0 n m x))(hy:VR S E (.fs p J) (o0 n m y))(h:Bl E0 id C p J σ k=some r):
  outcome P (j6 n B S E m k r) ((execOp (o0 n m) ⟨dst,.call ⟨.builtin .append,#[x,y],#[T1,T1]⟩,ty,pos,aft,g⟩).run P w):=by
 unfold Bl at h;split at h
 ·rename_i v1 T f Z v2 T2 f2 l hc hc2;obtain⟨hb,hq⟩:=r7 h;clear h;have G:id≠p:=fun e=>by have:=Z3 (Z3 hb);rw[e,eJ]at this;cases this
  have e1:=aB (Z3 (Y4 (Z3 hb)));have e2:=aB (Y4 (Y4 (Z3 hb)));have e3:=aB (Z3 (Y4 hb));have e4:=aB (Y4 (Y4 hb));subst e1;subst e2;subst e3;subst e4;split at hq
  ·rename_i hf _;subst hf;obtain⟨r',ha,hk⟩:=x9 hq;rw[Fa]at hc hc2;obtain⟨r0,e0,g1,g2,u1,cr1,F,d,rfl,rfl,O⟩:=R.obj id _ hc;obtain⟨r0,e0,p1,p2,u2,U,K,c,rfl,rfl,p3⟩:=R.obj p _ hc2;obtain⟨_,e1,h5,h6⟩:=hx;rw[g2]at h5;cases h5;have hu1:=(h6 _ _ _ rfl).2 rfl;obtain⟨_,e1,h5,h6⟩:=hy;rw[p2]at h5;cases h5;have hu2:=(h6 _ _ _ rfl).2 rfl;obtain⟨hbd,H⟩:=Rr ha;have H:Z++l=r':=H;have hTn:=YU hT hE hs;rw[hz]at hTn;have z:=(aC.1 g1).1;have hid2L:=(aC.1 p1).1;have hidE:=(aC.1 g2).1;have hid2E:=(aC.1 p2).1;have hidH:=(aC.1 hc).1;have hid2H:=(aC.1 hc2).1;have H1:=HS.split R.hs g1 (q:=.H' u1 Z.length 1 (d.map Q7) cr1 T2) (A':=F.flatten) (List.Perm.refl _);have hw2:Oe w u2 l.length 1 (c.map Q7):=Q0.Iv (v:=u2) (n:=l.length) (sz:=1) (cs:=c.map Q7) (rs:=U) (T:=T2) ((R.hs.own p (.many (.H' u2 l.length 1 (c.map Q7) U T2::K.flatten)) (by rw[N7];exact p1)).1 _ aO)
   obtain⟨w',v',I,hrun,H2⟩:=Pv (e:=o0 n m) (k:=L.length) (dst:=dst) (ty:=ty) (pos:=pos) (aft:=aft) (g:=g) hTn H1 hu1 (by rw[N7,aG (by simp)];simp;rfl) hu2 hw2 (fun u hu=>by
    obtain⟨b,_,rfl⟩:=aY.1 hu;rfl) hbd
   rw[hrun];rw[gp,eS _ _ (by simp),bW,eK,fP]at H2
   have H3:=HS.join (A':=.H' v' (Z.length+l.length) 1 (d.map Q7++c.map Q7) I T2::F.flatten) (D:=[]) H2 (i:=id) (j:=L.length) (A:=F.flatten) (s:=.H' v' (Z.length+l.length) 1 (d.map Q7++c.map Q7) I T2) (by rw[aF (by simpa using z),aP z]) (by rw[aG (by simp)];simp) (by omega)
    (by rw[bJ];exact(dW _ _))
   rw[fE _ _ (by simpa using z),iB,eS _ _ (by simp)]at H3;simp only[bW,eK,fP]at H3;have H4:=HS.drop H3
   have H5:=HS.join (A':=.H' v' (Z.length+l.length) 1 (d.map Q7++c.map Q7) I T2::(F++K).flatten) (D:=[.H' u2 l.length 1 (c.map Q7) U T2]) H4 (i:=id) (j:=p) (aP z) (by rw[aS G];exact p1) G (by
    show(R0.H' v' (Z.length+l.length) 1 (d.map Q7++c.map Q7) I T2::F.flatten++(R0.H' u2 l.length 1 (c.map Q7) U T2::K.flatten)).Perm _;rw[List.flatten_append,bS,bS,aU]
    exact List.Perm.cons _ (List.Perm.append_left _ (dW _ _).symm))
   rw[iB]at H5;have hone:v'.oneCell'=true:=by rcases(H5.own id (.many (.H' v' (Z.length+l.length) 1 (d.map Q7++c.map Q7) I T2::(F++K).flatten)) (by rw[N7,aS (Ne.symm G),aP z])).1 _ aO with⟨hv,_⟩|⟨_,_,_,hv,_⟩<;>rw[hv]<;>rfl
   have hE1:V4 E (E.set id (.U4 (C+1) v' (d++c))):=V4.set g2 (.inr (.inr ⟨_,_,c,rfl,Nat.lt_succ_self _⟩));have hE2:V4 (E.set id (.U4 (C+1) v' (d++c))) ((E.set id (.U4 (C+1) v' (d++c))).set p .dead):=V4.set (e:=.U4 J u2 c) (e':=.dead) (by rw[aS G];exact p2) (.inr (.inl rfl));have hE3:=hE1.trans hE2;have hgE:((E.set id (.U4 (C+1) v' (d++c))).set p .dead)[id]? = some (.U4 (C+1) v' (d++c)):=by rw[aS (Ne.symm G),aP hidE]
   refine⟨_,_,S,_,_,hk,Mem.le_refl S,hE3,⟨H5,?_,?_,fun j o N=>?_,fun t=>(R.sl t).mono (Mem.le_refl S) hE3⟩,⟨hone,_,hgE,fun r1 w1 b1 hq=>by cases hq;exact⟨aL _,fun _=>rfl⟩⟩⟩
   ·simp[me,R.lL]
   ·simp[me,R.lE]
   ·have N:(O6 (O6 σ.hp p .dead) id (.U4 (C+1) T2 f2 r'))[j]? = some o:=N;rw[me,me]at N;by_cases hj:id=j
    ·subst hj;rw[aP (by simpa using hidH)]at N;cases N;refine⟨_,_,by rw[aS (Ne.symm G),aP z],hgE,v',I,F++K,d++c,?_,rfl,?_⟩
     ·rw[<-H,aD,List.map_append]
     ·refine⟨by rw[<-H,aD,aD,O.l1,p3.l1],by rw[<-H,aD,aD,O.l2,p3.l2],fun a y M _=>?_,fun a ha=>by cases ha⟩;rw[<-H]at M;by_cases X:a<Z.length
      ·rw[aF X]at M;obtain⟨rs2,b2,q1,q2,q3⟩:=O.mem a y M (by simp);exact⟨rs2,b2,by rw[aF (by rw[O.l1];exact X)];exact q1,by rw[aF (by rw[O.l2];exact X)];exact q2,q3⟩
      ·rw[aG (fH X)]at M;obtain⟨rs2,b2,q1,q2,q3⟩:=p3.mem _ y M (by simp);exact⟨rs2,b2,by rw[aG (by rw[O.l1];omega),O.l1];exact q1,by rw[aG (by rw[O.l2];omega),O.l2];exact q2,q3⟩
    ·rw[aS hj]at N;by_cases Y:p=j
     ·subst Y;rw[aP hid2H]at N;cases N;exact⟨Bd,.dead,aP (by simpa using hid2L),aP (by simpa using hid2E),rfl,rfl⟩
     ·rw[aS Y]at N;obtain⟨r2,e2,q1,q2,q3⟩:=R.obj j o N;exact⟨r2,e2,by rw[aS Y,aS hj];exact q1,by rw[aS Y,aS hj];exact q2,q3.mono (Mem.le_refl S) hE3⟩
  ·cases hq
 ·cases h
theorem tx{o:Op}(a:P3 P τ)(b:X6 P Γ B)(R:Rel n B S E L σ m w)(h:AJ τ Γ σ o T k=some r):
  outcome P (j6 n B S E m k r) ((execOp (o0 n m) ⟨dst,o,ty,pos,aft,g⟩).run P w):=by
 unfold AJ at h;split at h
 ·rename_i x y s T2;split at h
  ·rename_i t u v z z4 id C F q e j G;split at h
   ·rename_i fe c;obtain⟨d,l⟩:=r7 h;clear h;have p:=aB (Y4 d);subst p;exact et R ((a _ _ e).sl rfl) (a _ _ c) (Z3 (Z3 d)) (aB (Y4 (Z3 d))) (p7 R j) (p7 R G) l
   ·cases h
  ·exact xg a b R h
 ·rename_i s H x;split at h
  ·rename_i t u v z z4 i e j;split at h
   ·rename_i f fe I c;obtain⟨d,l⟩:=r7 h;clear h;have p:=aB (Y4 d);subst p;exact dt R ((a _ _ e).sl rfl) (a _ _ c) (Z3 (Z3 d)) (aB (Y4 (Z3 d))) (p7 R j) l
   ·cases h
  ·exact xg a b R h
 ·exact wi a b R h
 ·exact xg a b R h
end
theorem Np:∀(l:List Nat) (t:Nat),j0 l t=l.contains t
 |[],_=>rfl|x::l,t=>by
  rw[j0,Np l t,List.contains_cons,Hu];congr 1;by_cases h:x=t
  ·subst h;simp
  ·have a:¬t=x:=fun e=>h e.symm;simp[h,a]
def p8(D:List Nat)(m a:FM):Prop:=∀t,j0 D t=false->look a t=look m t
theorem p8.refl(D:List Nat)(m:FM):p8 D m m:=fun _ _=>rfl
theorem p8.trans{D:List Nat}{a b c:FM}(h:p8 D a b)(k:p8 D b c):p8 D a c:=fun t d=>(k t d).trans (h t d)
theorem p8.put{D:List Nat}{m:FM}{d:Nat}{v:Value}(h:j0 D d=true):p8 D m ((d,v)::m):=fun t a=>by
 show(bif aJ d t then v else look m t)=_;cases b:aJ d t with
 |true=>rw[aB b]at h;rw[h]at a;cases a
 |false=>rfl
theorem ux(a b:List Nat)(t:Nat):j0 (a++b) t=(j0 a t||j0 b t):=by
 induction a with
 |nil=>rfl|cons x a c=>simp only[bS,j0,c,Bool.or_assoc]
theorem p8.l{a b:List Nat}{m c:FM}(h:p8 a m c):p8 (a++b) m c:=fun t d=>h t (by rw[ux,cV]at d;exact d.1)
theorem p8.r{a b:List Nat}{m c:FM}(h:p8 b m c):p8 (a++b) m c:=fun t d=>h t (by rw[ux,cV]at d;exact d.2)
theorem yoY{o:Oper}{l:List Oper}{t:Nat}(h:j0 (ke l) t=true):j0 (ke (o::l)) t=true:=by
 unfold ke;cases o.dst with
 |none=>exact h|some d=>simp[j0,h]
theorem ypF{o:Oper}{l:List Oper}{d:Nat}(h:o.dst=some d):j0 (ke (o::l)) d=true:=by unfold ke;rw[h];simp[j0]
theorem p8.mono{D a:List Nat}{m b:FM}(h:p8 D m b)(d:∀t,j0 D t=true->j0 a t=true):p8 a m b:=fun t c=>h t (by
 cases e:j0 D t with
 |true=>rw[d t e]at c;cases c
 |false=>rfl)
section
variable {n:Nat}{m:FM}{o:Oper}
theorem GQ(a:o.guard=none){y:Nat->Option Bool}:p9 o y=true:=by simp only[p9,a]
theorem xi{all:List Oper}{j d:Nat}{t:Bool}(h:Ve all j=some d)(a:o0 n m (.tmp d) = .bool t):yielded all.toArray (fr n m).tmps j=some t:=by
 rw[ywM,yv];unfold Ve at h;split at h
 ·rename_i o b;refine ZI ?_ h a;rw[Hf,<-Fa];exact b
 ·cases h
theorem yi{all:List Oper}{j d:Nat}(h:Ve all j=some d)(b:o0 n m (.tmp d)=undef):yielded all.toArray (fr n m).tmps j=none:=by
 rw[ywM,yv];unfold Ve at h;split at h
 ·rename_i o c;have a:dG all j=some o:=by rw[Hf,<-Fa];exact c
  unfold PO;rw[a];obtain⟨dst,_,_,_,_,_⟩:=o;simp only at h;subst h;simp only[jZ,b];rfl
 ·cases h
theorem xbN{j:Nat}{b:Bool}{y:Nat->Option Bool}(a:o.guard=some (j,b))(c:y j=none):p9 o y=false:=by simp only[p9,a,c];cases b<;>rfl
theorem ytF{j:Nat}{b t:Bool}{y:Nat->Option Bool}(a:o.guard=some (j,b))(c:y j=some t):p9 o y=(t==b):=by simp only[p9,a,c];cases t<;>cases b<;>rfl
end
section
variable {β:Type}{τ:TE}{Γ:CT}{n:Nat}{P:Program}{B:r9}{S:Mem}{E:List EI}{L:List Q0}{σ:St}{m:FM}{w:World}{ops:Array Oper}{Q:Exit->Act->World->Prop}{rest:List Oper}{o:Oper}
theorem vx{a:Value->World->Prop}(b:p9 o (yielded ops (fr n m).tmps)=true)(h:outcome P a ((execOp (o0 n m) o).run P w))(c:∀v w',a v w'->wpList P ops Q rest ((fr n m).put o.dst v) w'):
  wpList P ops Q (o::rest) (fr n m) w:=by
 unfold wpList;rw[zJ b];exact .inl (NT (by rw[fo];exact h) c)
theorem KD(a:p9 o (yielded ops (fr n m).tmps)=false)(h:wpList P ops Q rest ((fr n m).put o.dst undef) w):wpList P ops Q (o::rest) (fr n m) w:=by unfold wpList;rw[zI (by rw[a];simp)];exact h
theorem oK(R:Rel n B S E L σ m w){d:Option Nat}{x:SV}{v:Value}{k:St->Option β}{r:β}(c:VR S E x v)(h:Jb n d x σ k=some r):∃a b,k a=some r/\Rel n B S E L a b w/\(fr n m).put d v=fr n b/\∀D,(∀t,d=some t->j0 D t=true)->p8 D m b:=by
 cases d with
 |none=>exact⟨σ,m,h,R,yuH _ _ _,fun D _=>p8.refl D m⟩|some d=>obtain⟨e,h⟩:=r7 h;exact⟨_,_,h,R.put c e,ZF _ _ _ _,fun D f=>p8.put (f d rfl)⟩
theorem HQ(e:P3 P τ)(f:X6 P Γ B){all:List Oper}{k:St->Option β}{r:β}{S0:Mem}{E0:List EI}{m0:FM}{D:List Nat}(G:∀i S' E' U H w',k i=some r->Mem.le S0 S'->V4 E0 E'->p8 D m0 H->Rel n B S' E' U i H w'->Q .normal (fr n H) w'):∀(l:List Oper) {σ:St} {S:Mem} {E:List EI} {L:List Q0} {m:FM} {w:World},(∀t,j0 (ke l) t=true->j0 D t=true)->Mem.le S0 S->V4 E0 E->p8 D m0 m->Rel n B S E L σ m w->steps n τ Γ all l σ k=some r->wpList P all.toArray Q l (fr n m) w
 |[],σ,S,E,L,m,w,_,hS,u,y,R,h=>G _ _ _ _ _ _ h hS u y R|o::l,σ,S,E,L,m,w,X,hS,u,y,R,h=>by
  have p:∀t,j0 (ke l) t=true->j0 D t=true:=fun t h=>X t (yoY h);have s:∀t,o.dst=some t->j0 D t=true:=fun t h=>X t (ypF h);have a:∀{σ:St},Rel n B S E L σ m w->p9 o (yielded all.toArray (fr n m).tmps)=true->(AJ τ Γ σ o.op o.type fun x σ=>Jb n o.dst x σ fun σ=>steps n τ Γ all l σ k)=some r->wpList P all.toArray Q (o::l) (fr n m) w:=fun {σ} R c h=>by obtain⟨dst,op,ty,pos,aft,g⟩:=o;refine vx c (tx e f R h) ?_;rintro v w' ⟨x,i,S',E',U,Z,h2,h3,R',h4⟩;obtain⟨I,m2,J,K,M,N⟩:=oK R' h4 Z;show wpList P all.toArray Q l ((fr n m).put dst v) w';rw[M];exact HQ e f G l p (Mem.le_trans hS h2) (u.trans h3) (y.trans (N D s)) K J
  have skip:∀{σ:St},Rel n B S E L σ m w->p9 o (yielded all.toArray (fr n m).tmps)=false->(Jb n o.dst .eh σ fun σ=>steps n τ Γ all l σ k)=some r->wpList P all.toArray Q (o::l) (fr n m) w:=fun {σ} R c h=>by obtain⟨I,m2,J,K,M,N⟩:=oK R (v:=undef) (x:=.eh) rfl h;refine KD c ?_;rw[M];exact HQ e f G l p hS u (y.trans (N D s)) K J
  unfold steps at h;split at h
  ·rename_i z;exact a R (GQ z) h
  ·rename_i j b z;split at h
   ·rename_i d Y;split at h
    ·rename_i t O;have C:o0 n m (.tmp d) = .bool t:=vB (by have:=R.sl d;rw[O]at this;exact this);have c:=ytF (o:=o) z (xi (m:=m) (n:=n) Y C);have F:∀q:Bool,t=q->Rel n B S E L (σ.put d (.v .b q)) m w:=fun q hq=>R.re (by rw[C,hq];exact bV q);cases t with
     |true=>
      cases b with
      |true=>exact a (F true rfl) c h|false=>exact skip (F true rfl) c h
     |false=>
      cases b with
      |true=>exact skip (F false rfl) c h|false=>exact a (F false rfl) c h
    ·rename_i O;have C:o0 n m (.tmp d)=undef:=by have:=R.sl d;rw[O]at this;exact this
     exact skip R (xbN z (yi (m:=m) (n:=n) Y C)) h
    ·cases h
   ·cases h
end
section
variable {S:Mem}{E:List EI}
end
section
variable {β:Type}{τ:TE}{Γ:CT}{n nh:Nat}{P:Program}{B:r9}{S:Mem}{E:List EI}{L:List Q0}{σ:St}{m:FM}{W:World}{ops:Array Oper}{all:List Oper}{Φ:Oa}{vs:Nat->Gv}{D:List (Nat×Nat)}
def Inv(n:Nat)(S:Mem)(E:List EI)(W:World)(Φ:Oa)(vs:Nat->Gv)(sl:List (Nat×SV))(D:List (Nat×Nat))(m:FM):Prop:=∀t,match Ko D t with
 |none=>VR S E (z7 sl t) (o0 n m (.tmp t))|some j=>qb Φ j=true/\∀w',Ld Φ vs w' j->VR (gf S W (vs j).f w') E (z7 sl t) (o0 n m (.tmp t))
theorem Pp:∀(D:List (Nat×Nat)) (d t:Nat),Ko (bg D d) t=if d=t then none else Ko D t
 |[],d,t=>by simp[bg,Ko]
 |(x,j)::D,d,t=>by
  have b:=Pp D d t;unfold bg;cases a:aJ x d with
  |true=>
   have:=aB a;subst this;simp only[zF,b,Ko];by_cases h:x=t
   ·simp[h]
   ·rw[zI h,zI h];have:aJ x t=false:=by rw[Hu];simp[h]
    rw[this];rfl
  |false=>
   simp only[zH,Ko,b];cases c:aJ x t with
   |true=>
    have f:=aB c;subst f;have i:d≠x:=fun e=>by subst e;rw[Hu]at a;simp at a
    simp[i]
   |false=>rfl
theorem xeV(Z8:List Nat):∀(D:List (Nat×Nat)) (sl:List (Nat×SV)) (t:Nat),z7 (Dl Z8 D sl) t = .undef∨(z7 (Dl Z8 D sl) t=z7 sl t/\∀j,Ko D t=some j->j0 Z8 j=true)
 |[],sl,t=>.inr ⟨rfl,fun j h=>by cases h⟩|(d,j)::D,sl,t=>by
  unfold Dl;cases f:j0 Z8 j with
  |true=>
   rcases xeV Z8 D sl t with h|⟨b,c⟩
   ·exact .inl h
   ·refine .inr ⟨b,fun e h=>?_⟩;unfold Ko at h;cases a:aJ d t with
    |true=>rw[a]at h;cases h;exact f
    |false=>rw[a]at h;exact c e h
  |false=>
   simp only[zH,z7];cases a:aJ d t with
   |true=>exact .inl rfl|false=>
    rcases xeV Z8 D sl t with h|⟨b,c⟩
    ·exact .inl h
    ·refine .inr ⟨b,fun e h=>?_⟩;unfold Ko at h;rw[a]at h;exact c e h
theorem Inv.rel{Z8:List Nat}{w:World}(p:HS B S W L)(q:L.length=σ.hp.length)(s:E.length=σ.hp.length)(u:∀(i:Nat) o,σ.hp[i]? = some o->∃r e,L[i]? = some r/\E[i]? = some e/\OR S E o r e) (hI:Inv n S E W Φ vs σ.sl D m) (v:Ext W w) (x:de Φ vs w Z8):Rel n B (gf S W (rC Φ vs Z8) w) E L ⟨Dl Z8 D σ.sl,σ.hp⟩ m w:=by
 have a:Mem.le S (gf S W (rC Φ vs Z8) w):=oG p.sub;refine⟨p.Pd v,q,s,fun i o h=>?_,fun t=>?_⟩
 ·obtain⟨r,e,b,c,d⟩:=u i o h;exact⟨r,e,b,c,d.mono a (V4.refl E)⟩
 ·show VR _ E (z7 (Dl Z8 D σ.sl) t) _;rcases xeV Z8 D σ.sl t with h|⟨b,c⟩
  ·rw[h];trivial
  ·rw[b];have:=hI t;cases f:Ko D t with
   |none=>rw[f]at this;exact this.mono a (V4.refl E)|some j=>rw[f]at this;obtain⟨d,y⟩:=this;have l:=c j f;rw[Np]at l;exact(y w (ywP x j l)).mono (Ov l d) (V4.refl E)
theorem Inv.put{d:Nat}{x:SV}{v:Value}(hI:Inv n S E W Φ vs σ.sl D m)(a:cY d n=true)(b:VR S E x v):Inv n S E W Φ vs (σ.put d x).sl (bg D d) ((d,v)::m):=fun t=>by
 have:=hI t;rw[Pp];show match (if d=t then none else Ko D t) with
  |none=>VR S E (bif aJ d t then x else z7 σ.sl t) (bif cY t n then(bif aJ d t then v else look m t)else undef)|some j=>qb Φ j=true/\∀w',Ld Φ vs w' j->VR (gf S W (vs j).f w') E (bif aJ d t then x else z7 σ.sl t) (bif cY t n then(bif aJ d t then v else look m t)else undef)
 by_cases h:d=t
 ·subst h;rw[zJ rfl];simp only[eJ,zF,a];exact b
 ·rw[zI h];have c:aJ d t=false:=by rw[Hu];simp[h]
  simp only[c,zH];exact this
theorem Inv.re{d:Nat}{x:SV}(hI:Inv n S E W Φ vs σ.sl D m)(a:Ko D d=none)(b:VR S E x (o0 n m (.tmp d))):Inv n S E W Φ vs (σ.put d x).sl D m:=fun t=>by
 have:=hI t;show match Ko D t with
  |none=>VR S E (bif aJ d t then x else z7 σ.sl t) _|some j=>qb Φ j=true/\∀w',Ld Φ vs w' j->VR (gf S W (vs j).f w') E (bif aJ d t then x else z7 σ.sl t) _
 cases c:aJ d t with
 |true=>have:=aB c;subst this;rw[a];exact b|false=>exact this
end
section
variable {β:Type}{τ:TE}{σ:St}{k:SV->Option β}
end
section
variable {β:Type}{τ:TE}{Γ:CT}{n nh:Nat}{P:Program}{B:r9}{S:Mem}{E:List EI}{L:List Q0}{σ:St}{m:FM}{W:World}{ops:Array Oper}{all:List Oper}{Φ:Oa}{vs:Nat->Gv}{D:List (Nat×Nat)}
theorem zi{S':Mem}{E':List EI}{x:SV}{u:Value}(hp:xG x=true)(h:VR S E x u)(hS:Mem.le S S'):VR S' E' x u:=by
 cases x with
 |v t x=>exact(Q9 t).mono h hS|Y'=>exact h|v7=>exact h|ye=>have h:VB S E .ye u:=h;exact(⟨h.1.mono hS,h.2⟩:VB S' E' .ye u)|cl e a=>have h:VB S E (.cl e a) u:=h;exact(⟨h.1.mono hS,h.2⟩:VB S' E' (.cl e a) u)|rp t x c=>obtain⟨b,o,d,e,f,i⟩:=h;exact⟨b,o,d,e,f.mono hS,(Q9 t).mono i hS⟩
 |_=>cases hp
theorem HS.frame{B:r9}{S S':Mem}{w w':World}{L f:List Q0}(H:HS B S w L)(l:HS B S' w' f)(hS:Mem.le S S'){I:List Nat}(hf:∀i,j0 I i=false->i<L.length->Y3 f i=Y3 L i):HS B S w' (Cd I 0 L):=by
 have key:∀i q,Y3 (Cd I 0 L) i=some q->q=Bd∨(Y3 L i=some q/\Y3 f i=some q):=fun i q h=>by
  rw[N7,Hp,aV]at h;cases c:L[i]? with
  |none=>rw[c]at h;cases h
  |some r=>
   rw[c]at h;simp only[aX,Option.some.injEq]at h;cases a:j0 I i with
   |true=>rw[a]at h;exact .inl h.symm|false=>
    rw[a]at h;have h:r=q:=h;subst h;have d:Y3 L i=some r:=by rw[N7];exact c
    exact .inr ⟨d,by rw[hf i a (aC.1 c).1];exact d⟩
 refine⟨l.fr,fun b o e=>l.sub b o (hS b o e),H.keep,fun i q h=>?_,fun i q b h p=>?_,fun i j q s b a v t u=>?_⟩
 ·rcases key i q h with rfl|⟨_,h⟩
  ·exact .inl ⟨rfl,rfl,rfl,rfl⟩
  ·exact l.own i q h
 ·rcases key i q h with rfl|⟨h,_⟩
  ·cases p
  ·exact H.old i q b h p
 ·rcases key i q a with rfl|⟨x,_⟩
  ·cases t
  ·rcases key j s v with rfl|⟨d,_⟩
   ·cases u
   ·exact H.inj i j q s b x d t u
theorem Qp{S:Mem}{E:List EI}{I:List Nat}{x:SV}{u:Value}(l:Rh I x=true)(h:VC S (jb I 0 E) x u):VC S E x u:=by
 have at_:∀{id e},(!(j0 I id))=true->(jb I 0 E)[id]? = some e->E[id]? = some e:=fun {id e} p c=>by
  have p:j0 I id=false:=by cases s:j0 I id with
   |true=>rw[s]at p;cases p
   |false=>rfl
  rw[WG,aV,p]at c;cases q:E[id]? with
  |none=>rw[q]at c;cases c
  |some t=>rw[q]at c;have c:t=e:=ka c;subst c;rfl
 unfold Rh at l;split at l
 ·rename_i id d;obtain⟨b,f,e,c,j⟩:=(show VB S (jb I 0 E) (.ptr id d) u from h);exact(⟨b,f,e,at_ l c,j⟩:VB S E (.ptr id d) u)
 ·rename_i id a;obtain⟨f,e,c,j⟩:=(show VB S (jb I 0 E) (.own id a) u from h);exact(⟨f,e,at_ l c,j⟩:VB S E (.own id a) u)
 ·rename_i id;obtain⟨f,e,c,j⟩:=(show VB S (jb I 0 E) (.mpr id) u from h);exact(⟨f,e,at_ l c,j⟩:VB S E (.mpr id) u)
 ·rename_i id a i d;obtain⟨f,e,c,j⟩:=(show VB S (jb I 0 E) (.ep id a i d) u from h);exact(⟨f,e,at_ l c,j⟩:VB S E (.ep id a i d) u)
 ·rename_i id a;obtain⟨f,e,c,j⟩:=(show VB S (jb I 0 E) (.fs id a) u from h);exact(⟨f,e,at_ l c,j⟩:VB S E (.fs id a) u)
 ·rename_i id a i;obtain⟨f,e,c,j⟩:=(show VB S (jb I 0 E) (.fe id a i) u from h);exact(⟨f,e,at_ l c,j⟩:VB S E (.fe id a i) u)
 ·rename_i id i d;obtain⟨f,e,c,j⟩:=(show VB S (jb I 0 E) (.fp id i d) u from h);exact(⟨f,e,at_ l c,j⟩:VB S E (.fp id i d) u)
 ·exact((zi l (VR.ig h) (Mem.le_refl S)).b (by cases x<;>first|rfl|cases l)).b (by cases x<;>first|rfl|cases l)
theorem ft{I:List Nat}{x:SV}(h:Rh I x=true):Xf x=true:=by cases x<;>first|rfl|cases h
theorem Sp{S:Mem}{E:List EI}{I:List Nat}{x:SV}{u:Value}(a:Rh I x=true)(h:VB S (jb I 0 E) x u):VB S E x u:=(Qp a h.c).b (ft a)
theorem Ai{S:Mem}{E:List EI}{I:List Nat}:∀{l:List SV} {us:LV},l.all (Rh I)=true->A2 (VB S (jb I 0 E)) l us->A2 (VB S E) l us
 |_,_,_,.nil=>.nil|_,_,hp,.cons a t=>by simp only[cT,aI]at hp;exact .cons (Sp hp.1 a) (Ai hp.2 t)
theorem LD{S:Mem}{E:List EI}{I:List Nat}{x:SV}{u:Value}(a:ww I x=true)(h:VA (VB S (jb I 0 E)) x u):VA (VB S E) x u:=by
 unfold ww at a;split at a
 ·obtain⟨d,e,f⟩:=h;exact⟨d,e,Ai a f⟩
 ·rename_i i;have c:oa x=true:=by cases x<;>first|rfl|exact absurd rfl (i _)
  exact VA.of (Sp a (h.b c)) c
theorem yyT{S:Mem}{E:List EI}{I:List Nat}:∀{l:List SV} {us:LV},l.all (ww I)=true->A2 (VA (VB S (jb I 0 E))) l us->A2 (VA (VB S E)) l us
 |_,_,_,.nil=>.nil|_,_,hp,.cons a t=>by simp only[cT,aI]at hp;exact .cons (LD hp.1 a) (yyT hp.2 t)
theorem wx{S:Mem}{E:List EI}{I:List Nat}{x:SV}{u:Value}(a:nQ I x=true)(h:VC S (jb I 0 E) x u):VC S E x u:=by
 unfold nQ at a;split at a
 ·obtain⟨b,ws,c,d,e⟩:=h;rw[aI]at a;exact⟨b,ws,c,yyT a.1 d,yyT a.2 e⟩
 ·exact Qp a h
theorem Tp{S:Mem}{E:List EI}{I:List Nat}:∀{l:List SV} {us:LV},l.all (nQ I)=true->A2 (VC S (jb I 0 E)) l us->A2 (VC S E) l us
 |_,_,_,.nil=>.nil|_,_,hp,.cons a t=>by simp only[cT,aI]at hp;exact .cons (wx hp.1 a) (Tp hp.2 t)
theorem xx{S:Mem}{E:List EI}{I:List Nat}{x:SV}{u:Value}(a:oQ I x=true)(h:VA (VC S (jb I 0 E)) x u):VA (VC S E) x u:=by
 unfold oQ at a;split at a
 ·rename_i l;obtain⟨d,e,f⟩:=h;exact⟨d,e,Tp a f⟩
 ·rename_i i;have c:oa x=true:=by cases x<;>first|rfl|exact absurd rfl (i _)
  exact VA.of (wx a (h.b c)) c
theorem Up{S:Mem}{E:List EI}{I:List Nat}:∀{l:List SV} {us:LV},l.all (oQ I)=true->A2 (VA (VC S (jb I 0 E))) l us->A2 (VA (VC S E)) l us
 |_,_,_,.nil=>.nil|_,_,hp,.cons a t=>by simp only[cT,aI]at hp;exact .cons (xx hp.1 a) (Up hp.2 t)
theorem pK{S:Mem}{E:List EI}{I:List Nat}{x:SV}{u:Value}(a:okF I x=true)(h:VR S (jb I 0 E) x u):VR S E x u:=by
 unfold okF at a;split at a
 ·rename_i l;obtain⟨c,d,e⟩:=(show ∃c,u = .tuple c.toArray/\A2 (VA (VC S (jb I 0 E))) l c from h);exact(⟨c,d,Up a e⟩:VR S E (.Bb l) u)
 ·rename_i f;have i:Ib x=true:=by cases x<;>first|rfl|exact absurd rfl (f _)|cases a
  exact VR.of (xx a (h.b i))
theorem ua.twoF{o:Oper}{I:List Nat}{k:SV->St->Option β}{r:β}{w:World}(R:Rel n B S E L σ m w)(h:ua P S E (o0 n m) o (fun x=>k x σ) r (fun w'=>HS B S w' L)):outcome P (Z5 n B S E L I m k r) ((execOp (o0 n m) o).run P w):=by obtain⟨z,u,a,b,c⟩:=h;rw[c w R.hs];exact⟨z,σ,S,E,L,a,Mem.le_refl _,V4.refl _,R,b,fun _ _ _=>rfl⟩
theorem yx{o:Op}{T:TypeId}{k:SV->St->Option β}(h:(RC o||Lo o)=true):yl τ Γ σ o T k=Ph τ σ o fun x=>k x σ:=by
 cases o with
 |call c=>
  unfold RC Lo at h;simp only[dB]at h;split at h
  all_goals first
   |(rename_i e;cases e;done)
   |cases h
   |skip
  all_goals (rename_i e;cases e;rfl)
 |_=>first|rfl|cases h
theorem qK{T:TypeId}{f:TI}{a x:Operand}{I:List Nat}{id c:Nat}{t:TypeId}{cs:List SV}{i:SV}{k:SV->St->Option β}{r:β}{w:World}{dst:Option Tmp}{g:Option (Nat×Bool)}{ty:TypeId}{pos:String}{aft:Array Edge}(C:j0 I id=true)(F:l4 P T f)(R:Rel n B S E L σ m w)(G:VR S E (.ptr id c) (o0 n m a))(H:VR S E i (o0 n m x))(J:V5 σ.hp id=some (.N' t cs)) (l:(aJ (ea i).length f.sz&&Nat.ble (c+f.sz) cs.length&&Ib i)=true) (h:k .undef ⟨σ.sl,O6 σ.hp id (.N' t (Sd cs c (ea i)))⟩=some r):
  outcome P (Z5 n B S E L I m k r) ((execOp (o0 n m) ⟨dst,.store T a x,ty,pos,aft,g⟩).run P w):=by
 obtain⟨Y,Z,K,u,b,us,rfl,rfl,v⟩:=R.P6 J;obtain⟨b1,M,e1,y,N⟩:=G;rw[u]at y;cases y;cases N _ rfl;obtain⟨p,O⟩:=BU (H.b (Y4 l));have U:=aB (Z3 (Z3 l));have X:=bK (Y4 (Z3 l));obtain⟨w',q,s⟩:=YT (g:=g) (ty:=ty) (pos:=pos) (aft:=aft) (P:=P) F.l0 R.hs M K rfl O (by rw[<-p.len,U]) (VC.ns p) (by rw[<-v.len,gF];exact X);have d:(execOp (o0 n m) ⟨dst,.store T a x,ty,pos,aft,g⟩).run P w = .ok .skip w':=q;rw[d];refine⟨_,_,S,E,_,h,Mem.le_refl _,V4.refl _,R.Ts u s ⟨b,_,rfl,rfl,uQ c v p⟩,trivial,fun j z _=>uo fun e=>?_⟩;subst e;rw[C]at z;cases z
theorem MD{o:Op}{T:TypeId}{I:List Nat}{k:SV->St->Option β}{r:β}{w:World}{dst:Option Tmp}{g:Option (Nat×Bool)}{pos:String}{aft:Array Edge}(d:P3 P τ)(R:Rel n B S E L σ m w)(b:wU I σ o=true)(h:yl τ Γ σ o T k=some r):
  outcome P (Z5 n B S E L I m k r) ((execOp (o0 n m) ⟨dst,o,T,pos,aft,g⟩).run P w):=by
 have pure:(RC o||Lo o)=true->outcome P (Z5 n B S E L I m k r) ((execOp (o0 n m) ⟨dst,o,T,pos,aft,g⟩).run P w):=fun hp=>by rw[yx hp]at h;exact ua.twoF R (pg d R h)
 cases o with
 |store v a x=>
  simp only[yl]at h;simp only[wU]at b;cases c:ev σ a with
  |none=>rw[c]at b;cases b
  |some j=>
   rw[c]at b h;cases j with
   |ptr id l=>
    split at h
    ·rename_i f p i y q e s;cases e;split at h
     ·rename_i z C t;obtain⟨u,h⟩:=r7 h;exact qK b (d _ _ q) R (p7 R c) (p7 R s) t u h
     ·cases h
    ·cases h
   |_=>cases b
 |_=>exact pure b
theorem ywH{x:Operand}{ash:List Operand}{at_:Array TypeId}{f:Nat}{xs:List SV}{I:List Nat}{k:SV->St->Option β}{r:β}{w:World}{dst:Option Tmp}{g:Option (Nat×Bool)}{ty:TypeId}{pos:String}{aft:Array Edge}(R:Rel n B S E L σ m w)(j:kw σ x ash=some (f,xs)):∀{l:List SC},(∀c∈l,SU P B f c)->xU I σ x ash xs k l=some r ->
  outcome P (Z5 n B S E L I m k r) ((execOp (o0 n m) ⟨dst,.call ⟨.value x,ash.toArray,at_⟩,ty,pos,aft,g⟩).run P w)
 |[],_,h=>by cases h
 |c::l,p,h=>by
  unfold xU at h;cases a:(aJ xs.length c.I.sl.length&&(cg (c.I.need 0 ⟨Q5 0 xs,σ.hp⟩)&&Th I c.I.hp (c.I.Td 0 ⟨Q5 0 xs,σ.hp⟩))&&(c.I.Zc (c.I.Td 0 ⟨Q5 0 xs,σ.hp⟩) ⟨Q5 0 xs,σ.hp⟩).isSome) with
  |false=>rw[a]at h;exact ywH (at_:=at_) R j (fun q b=>p q (aM _ b)) h|true=>rw[a]at h;refine Qu (Sl R j (p c aO) (Z3 (Y4 (Z3 a))) h) ?_;rintro v w' ⟨x,d,S',s,t,u,y,z,C,F,G⟩;refine⟨x,d,S',s,t,u,y,z,C,F,fun i H e=>?_⟩;rw[N7,N7,G i e (xaK H 0 (Y4 (Y4 (Z3 a))))]
theorem Bi{o:Op}{T:TypeId}{I:List Nat}{k:SV->St->Option β}{r:β}{w:World}{dst:Option Tmp}{g:Option (Nat×Bool)}{pos:String}{aft:Array Edge}(a:P3 P τ)(b:X6 P Γ B)(R:Rel n B S E L σ m w)(h:TC τ Γ I σ o T k=some r):
  outcome P (Z5 n B S E L I m k r) ((execOp (o0 n m) ⟨dst,o,T,pos,aft,g⟩).run P w):=by
 unfold TC at h;cases d:wU I σ o with
 |true=>rw[d]at h;exact MD a R d h|false=>
  rw[d]at h;simp only[zH]at h;split at h
  ·rename_i x ash at_;split at h
   ·rename_i f j e;exact ywH (ash:=ash.toList) (at_:=at_) R e (fun c i=>b.sc f c i) h
   ·cases h
  ·cases h
theorem Ci{f:Nat->Bool}:∀{n:Nat},Uh n f=true->∀i,i<n->f i=true
 |n+1,h,i,a=>by
  unfold Uh at h;by_cases e:i=n
  ·subst e;exact Z3 h
  ·exact Ci (Y4 h) i (by omega)
theorem nV{t:Nat}:∀{l:List Oper},j0 (ke l) t=true↔∃o∈l,o.dst=some t
 |[]=>by simp[ke,j0]
 |o::l=>by
  have a:=nV (t:=t) (l:=l);unfold ke;cases b:o.dst with
  |none=>simp[a,b]|some d=>simp only[j0,Bool.or_eq_true,a,Hu,zE,aN,exists_eq_or_imp,b,Option.some.injEq]
end
section
variable {B:r9}{S S':Mem}{w w':World}{L A:List Q0}
theorem HS.home(H:HS B S w L)(a:HS ⟨S,U5 L,w⟩ S' w' A):HS B S' w' A:=
 HS.back H a (fun _ h=>h) (fun i _ b=>.inr (.inl ⟨i,b⟩)) a.inj
theorem HS.cons(H:HS B S w L){r:Q0}(e:r.holds w)(f:∀b,r.has b->B.w0.heap.size<=b/\S b=none/\b∉U5 L):HS B S w (r::L):=by
 have a:∀{i q b},Y3 L i=some q->q.has b->r.has b->False:=fun {i q b} c u e=>(f b e).2.2 (Dh.2 ⟨i,q,c,u⟩);refine⟨H.fr,H.sub,H.keep,fun k q d=>?_,fun k q b d h=>?_,fun i j q s b c l p t=>?_⟩
 ·cases k with
  |zero=>cases d;exact e
  |succ k=>exact H.own k q d
 ·cases k with
  |zero=>cases d;exact⟨.inl (f b h).1,(f b h).2.1⟩
  |succ k=>exact H.old k q b d h
 ·cases i with
  |zero=>
   cases j with
   |zero=>rfl|succ j=>cases c;exact(a l t p).elim
  |succ i=>
   cases j with
   |zero=>cases l;exact(a c p t).elim
   |succ j=>rw[H.inj i j q s b c l p t]
end
theorem oV{W:List Nat}{i:Nat}(h:j0 W i=false):∀{l:List Nat},Vd W l=true->j0 l i=false
 |[],_=>rfl|x::l,a=>by
  unfold Vd at a;unfold j0;rw[oV h (Y4 a),eA];cases b:aJ x i with
  |false=>rfl|true=>rw[aB b,h]at a;cases (Z3 a)
section
variable {β:Type}{τ:TE}{Γ:CT}{n:Nat}{P:Program}{B:r9}{S:Mem}{E:List EI}{L:List Q0}{σ:St}{m:FM}{w:World}
theorem X6.Vw(h:X6 P Γ B)(H:HS B S w L):X6 P Γ ⟨S,U5 L,w⟩:=by have at_:∀{l p},At ⟨S,U5 L,w⟩ l p->At B l p:=fun⟨q,s,e,t⟩=>⟨q,s,e,HS.home H t⟩;exact⟨fun f c b=>⟨(h.pc f c b).fn,fun S w i a y j=>(h.pc f c b).ok S w i a y (at_ j)⟩,fun f c b=>⟨(h.sc f c b).fn,fun S w i E L a d j=>(h.sc f c b).ok S w i E L a d (at_ j)⟩⟩
theorem ND{o:Op}{W:List Nat}{k:SV->Option β}{r:β}{dst:Option Tmp}{ty:TypeId}{pos:String}{aft:Array Edge}{g:Option (Nat×Bool)}(b:P3 P τ)(R:Rel n B S E L σ m w)(h:CJ τ W σ o k=some r):
  ua P S E (o0 n m) ⟨dst,o,ty,pos,aft,g⟩ k r (fun w=>HS B S w (Cd W 0 L)):=by
 unfold CJ at h;cases e:LG o with
 |true=>rw[e]at h;simp only[zF]at h;exact XJ b (fun x a f=>p7 R f) h|false=>rw[e]at h;simp only[zH]at h;obtain⟨z,u,c,i,j⟩:=pg (dst:=dst) (ty:=ty) (pos:=pos) (aft:=aft) (g:=g) b (R.kill W) h;obtain⟨d,c⟩:=r7 c;exact⟨z,u,c,pK d i,j⟩
def Oc(S:Mem)(E:List EI):AO->Value->Nat->Obj->Prop
 |.N' T a,v,k,x=>v = .pointer (some ⟨k,0,none⟩)/\∃d:LV,x = .cells d.toArray T (0,0)/\A2 (VC S E) a d|.H' c e T b,v,k,x=>c=0/\v=sl k 0 b.length b.length/\∃a:LV,x = .cells a.toArray T (0,0)/\a.length=b.length*l0 e/\RL S a b|_,_,_,_=>False
theorem Oc.mono{S':Mem}{E':List EI}(hS:Mem.le S S')(f:V4 E E'){o:AO}{v:Value}{k:Nat}{x:Obj}(h:Oc S E o v k x):Oc S' E' o v k x:=by
 cases o with
 |N' T d=>obtain⟨a,i,b,c⟩:=h;exact⟨a,i,b,c.imp fun _ _=>VC.mono hS f⟩
 |H' j e T q=>obtain⟨l,a,d,b,c,p⟩:=h;exact⟨l,a,d,b,c,p.mono hS⟩
 |_=>exact h.elim
theorem Oc.pG(R:Rel n B S E L σ m w){o:AO}{v:Value}{k:Nat}{x:Obj}(h:Oc S E o v k x)(j:k∉U5 L)(l:S k=none)(p:B.w0.heap.size<=k):∃r e,(∀b,r.has b->k=b)/\(∀w',w'.heap[k]? = some x->r.holds w') /\(∀w',HS B S w' L->w'.heap[k]? = some x->Rel n B S (E++[e]) (L++[r]) ⟨σ.sl,σ.hp++[o]⟩ m w')/\VR S (E++[e]) (aoV σ.hp.length o) v:=by
 cases o with
 |N' T i=>
  obtain⟨rfl,q,rfl,t⟩:=h;refine⟨.N' k q T,.N' k,fun b c=>(by cases c;rfl),fun w' f=>f,fun w' H f=>?_,?_⟩
  ·exact(R.to H).snoc (HS.cons H f fun b c=>by cases c;exact⟨p,l,j⟩) ⟨k,q,rfl,rfl,t.imp fun _ _=>VC.mono (Mem.le_refl _) (V4.push E _)⟩
  ·exact⟨k,rfl,.N' k,(by rw[<-R.lE];simp:(E++[EI.N' k])[σ.hp.length]? = some (EI.N' k)),fun C c=>by cases c;rfl⟩
 |H' u e T a=>
  obtain⟨rfl,rfl,i,rfl,s,y⟩:=h;have d:∀w',w'.heap[k]? = some (Obj.cells i.toArray T (0,0))->(Q0.H' (sl k 0 a.length a.length) a.length (l0 e) i [] T).holds w':=fun w' f=>.inr ⟨k,a.length,(0,0),rfl,aL _,s,by rw[bJ];exact Nat.le_of_eq s.symm,by rw[bJ];exact f,.inl rfl⟩;refine⟨.H' (sl k 0 a.length a.length) a.length (l0 e) i [] T,.H' 0 (sl k 0 a.length a.length) (l0 e),fun b c=>(by cases c;rfl),d,fun w' H f=>?_,?_⟩
  ·exact(R.to H).snoc (e:=.H' 0 (sl k 0 a.length a.length) (l0 e)) (o:=.H' 0 e T a) (HS.cons H (d w' f) fun b c=>by cases c;exact⟨p,l,j⟩) ⟨_,_,i,[],rfl,rfl,y,.inl rfl⟩
  ·exact⟨rfl,.H' 0 (sl k 0 a.length a.length) (l0 e),(by rw[<-R.lE];simp:(E++[EI.H' 0 (sl k 0 a.length a.length) (l0 e)])[σ.hp.length]? = some (EI.H' 0 (sl k 0 a.length a.length) (l0 e))),fun F v' G z=>by cases z;exact⟨aL _,fun _=>rfl⟩⟩
 |_=>exact h.elim
theorem zx{o:Op}{C:AO}{dst:Option Tmp}{ty:TypeId}{pos:String}{aft:Array Edge}{g:Option (Nat×Bool)}(b:P3 P τ)(R:Rel n B S E L σ m w)(h:xw τ σ o=some C)(a:World):∃v k x w',(execOp (o0 n m) ⟨dst,o,ty,pos,aft,g⟩).run P a = .ok (.value v) w'/\Ext a w'/\a.heap.size<=k/\w'.heap[k]? = some x/\Oc S E C v k x:=by
 unfold xw at h;split at h
 ·rename_i T;split at h
  ·rename_i f l;obtain⟨c,h⟩:=r7 h;cases h;have p:=b _ _ l;have q:(zV f).cells.toList=f.z.map zc:=by
    rw[p.cells (by
     cases H:f.agg with
     |true=>exact .inl rfl|false=>rw[H]at c;exact .inr (aB c))]
   refine⟨_,a.heap.size,_,a.alloc (.cells (f.z.map zc).toArray T),by simp[execOp,yvY p.zero,<-q],Ext.alloc a _,aL _,Od a _,rfl,_,rfl,PG p.z⟩
  ·cases h
 ·rename_i T N e;split at h
  ·rename_i O U X Y z4 l;split at h
   ·rename_i f F;obtain⟨c,h⟩:=r7 h;split at h
    ·rename_i Z s;cases h;obtain⟨e⟩:=e;have c:=Z3 c;have t:=aB (Y4 (Z3 c));have t:N=e.length:=t;subst t;have j:=aB (Y4 (Z3 (Z3 c)));have u:=xN ((b _ _ l).sl rfl) (b _ _ F) (Z3 (Z3 (Z3 c))) j;have I:=b _ _ F;obtain⟨J,y,G,K⟩:=Ul R j (pre:=[]) (i:=0) (zl:=f.z.map zc) (N:=e.length) s (by simp) (by rw[aE,I.zl]) (by simp);simp only[List.nil_append]at y;rw[j]at y;have M:=bK (Y4 c);have d:=ysL (P:=P) (w:=a) (dst:=dst) (ty:=ty) (pos:=pos) (aft:=aft) (g:=g) u rfl y (by rw[gF,<-j];omega);refine⟨_,a.heap.size,_,_,d,Ext.alloc a _,aL _,Od a _,rfl,by rw[K],J,rfl,?_,G⟩;rw[G.len];congr 1;exact gd f.ty
    ·cases h
   ·cases h
  ·cases h
 ·cases h
section
variable {k:SV->St->Option β}{r:β}{dst:Option Tmp}{ty:TypeId}{pos:String}{aft:Array Edge}{g:Option (Nat×Bool)}
theorem Vp{W:List Nat}{i:Nat}:∀{l:List Nat},Vd W l=true->j0 W i=false->j0 l i=false
 |[],_,_=>rfl|x::l,h,a=>by
  unfold Vd at h;unfold j0;rw[Vp (Y4 h) a];cases b:aJ x i with
  |false=>rfl|true=>rw[aB b,a]at h;cases h
theorem rK{x:Operand}{ash:List Operand}{at_:Array TypeId}{I:List Nat}(C:X6 P Γ B)(R:Rel n B S E L σ m w)(h:IZ Γ I σ x ash k=some (some r)):
  outcome P (Z5 n B S E L I m k r) ((execOp (o0 n m) ⟨dst,.call ⟨.value x,ash.toArray,at_⟩,ty,pos,aft,g⟩).run P w):=by
 unfold IZ at h;split at h
 ·rename_i f U p;split at h
  ·rename_i c X;have j:=C.pc _ _ X;obtain⟨_,_,q,b,d,F⟩:=ZJ R p;cases hs:c.rts.any bw with
   |true=>
    rw[hs]at h;simp only[zF]at h;obtain⟨hI,h⟩:=r7 h;obtain⟨z,Y,N,Z,h2,s,hF⟩:=KU (U.flatMap owns) R;split at h
    ·rename_i f' xs' G;split at h
     ·rename_i a H;have h:=ka h;obtain⟨y,J,h⟩:=x9 h;obtain⟨first,cap,O,t,K,hA⟩:=ZJ s G;have l:=XU (Mem.le_refl z) Pu H hA;refine XM j.fn b (by simpa using d) ?_;have:O=q:=by rw[b]at t;cases t;rw[<-d,<-K]
      subst this;exact(j.ok z w O a y ⟨z,N,Mem.le_refl _,s.hs⟩ s.hs.sub l J).mono fun e w' ⟨p,v,M,u⟩=>⟨v,M,_,_,gr z w w',Y,N,h,Mem.le_trans Z (nG s.hs.sub),h2,s.call p,RU u.1 u.2,fun i hi _=>hF i (Vp hI hi)⟩
     ·cases h
    ·cases h
   |false=>
    rw[hs]at h;simp only[zH]at h;split at h
    ·rename_i a H;have h:=ka h;obtain⟨y,J,h⟩:=x9 h;refine XM j.fn b (by simpa using d) ?_;have l:=XU R.hs.sub R.Uw H F;exact(j.ok (Re w) w q a y ⟨S,L,R.hs.sub,R.hs⟩ (Xk w) l J).mono fun e w' ⟨p,v,M,u⟩=>⟨v,M,_,_,gr S w w',E,L,h,nG R.hs.sub,V4.refl E,R.call p,RU (xbK hs u.1) u.2,fun _ _ _=>rfl⟩
    ·cases h
  ·cases h
 ·cases h
theorem Ax{o:Op}{T:TypeId}{I:List Nat}(a:P3 P τ)(R:Rel n B S E L σ m w)(d:Mo I σ o=true)(h:yl τ Γ σ o T k=some r):
  outcome P (Z5 n B S E L I m k r) ((execOp (o0 n m) ⟨dst,o,ty,pos,aft,g⟩).run P w):=by
 unfold Mo at d;split at d
 ·rename_i M;simp only[yl]at h;split at h
  ·rename_i f j;obtain⟨c,h⟩:=r7 h;have l:=a _ _ j;have p:(zV f).cells.toList=f.z.map zc:=by
    rw[l.cells (by
     cases O:f.agg with
     |true=>exact .inl rfl|false=>rw[O]at c;exact .inr (aB c))]
   obtain⟨w',b,U,X⟩:=vZ (dst:=dst) (ty:=ty) (pos:=pos) (aft:=aft) (g:=g) (e:=o0 n m) R.hs l.zero p;rw[U];exact(xfS R X (PG l.z) h).sub fun _ _ _=>rfl
  ·cases h
 ·rename_i M N q;simp only[yl,xl]at h;split at h
  ·rename_i H z1 z2 z3 z4 j;split at h
   ·rename_i f Y;obtain⟨c,J⟩:=r7 h;clear h;have h:=J;clear J;split at h
    ·rename_i ys s;obtain⟨q⟩:=q;obtain⟨S1,E1,L1,t,u,K,v⟩:=KU (Ad σ (q.map (·.2))) R;refine Qu (xaF (dst:=dst) (g:=g) (ty:=ty) (pos:=pos) (aft:=aft) K ((a _ _ j).sl rfl) (a _ _ Y) (Z3 (Z3 (Z3 c))) (aB (Y4 (Z3 (Z3 c)))) (aB (Y4 (Z3 c))) (bK (Y4 c)) s h) fun _ _ hp=>?_;obtain⟨x,C,S',H,Z,k1,k2,k3,k4,k5,k6⟩:=hp;exact⟨x,C,S',H,Z,k1,Mem.le_trans t k2,u.trans k3,k4,k5,fun i F G=>(k6 i rfl (by rw[K.lL,PU,<-R.lL];exact G)).trans (v i (oV F d))⟩
    ·cases h
   ·cases h
  ·cases h
 ·rename_i x y T1 T2;simp only[yl]at h;exact Qu (xdM (Γ:=Γ) a R h) fun _ _ hp=>hp.sub fun i F _=>oV F d
 ·cases d
theorem V4.len{E E':List EI}(h:V4 E E'){b:Nat}(c:b<=E.length):b<=E'.length:=by
 cases b with
 |zero=>exact bG _|succ b=>obtain⟨a,d,_⟩:=h b _ (aH c);exact(aC.1 d).1
theorem Wp:∀{l:List Nat} {j:Nat},j∈l->j0 l j=true
 |x::l,j,h=>by
  unfold j0;rcases aN.1 h with rfl|h
  ·rw[eJ];rfl
  ·rw[Wp h,Bool.or_true]
theorem Xp{W:List Nat}{b j:Nat}(a:j0 W j=false)(c:j<b):∀{l:List Nat},UC W b l=true->j0 l j=false
 |[],_=>rfl|x::l,h=>by
  unfold UC at h;unfold j0;rw[Xp a c (Y4 h),eA];cases d:aJ x j with
  |false=>rfl|true=>have h:=Z3 h;rw[aB d,a,dB]at h;have:=bK h;omega
theorem xbI{x:Operand}{ash:Array Operand}{b:Array TypeId}{T:TypeId}(c:P3 P τ)(a:X6 P Γ B):∀{ts I:List Nat} {σ:St} {S:Mem} {E:List EI} {L:List Q0} {k:SV->St->Option β},Rel n B S E L σ m w->pQ τ Γ x ash b T ts I σ k=some r ->
  outcome P (Z5 n B S E L I m k r) ((execOp (o0 n m) ⟨dst,.call ⟨.value x,ash,b⟩,T,pos,aft,g⟩).run P w)
 |[],I,σ,S,E,L,k,R,h=>by
  simp only[pQ,KG]at h;split at h
  ·rename_i r' O;obtain⟨ash⟩:=ash;exact rK a R (by rw[O,h])
  ·exact Bi c a R h
 |t::ts,I,σ,S,E,L,k,R,h=>by
  unfold pQ at h;split at h
  ·rename_i id i U X;obtain⟨hid,Y⟩:=r7 h;clear h;obtain⟨Z,E1,L1,id',i',d,hk,H,q,s,u,hF⟩:=lx R Y;rw[X]at d;cases d;refine Qu (xbI c a q hk) ?_;rintro v w' ⟨x,σ2,S2,E2,L2,h1,y,z,R2,h4,h5⟩;obtain⟨C,F⟩:=r7 h1;obtain⟨G,S3,E3,L3,k1,J,K,k4,k5⟩:=qx R2 (s.mono y z) (u.mono y z) F;have M:σ.hp.length<=L1.length:=by rw[q.lL,<-q.lE,<-R.lE];exact V4.len H (aL _)
   refine⟨x,G,S3,E3,L3,k1,Mem.le_trans y J,H.trans (z.trans K),k4,h4.mono J K,fun j f N=>?_⟩;have l:j≠id:=fun e=>by rw[e,hid]at f;cases f
   have p:j<σ.hp.length:=by rw[<-R.lL];exact N
   rw[k5 j l p (Xp f p C),h5 j (xfF fun hm=>?_) (by omega),hF j l N];rcases bH.1 hm with hm|hm
   ·obtain⟨kk,_,e⟩:=FQ hm;omega
   ·rw[Wp hm]at f;cases f
  ·cases h
theorem OD{o:Op}{T:TypeId}{I:List Nat}(a:P3 P τ)(b:X6 P Γ B)(R:Rel n B S E L σ m w)(h:BJ τ Γ I σ o T k=some r):
  outcome P (Z5 n B S E L I m k r) ((execOp (o0 n m) ⟨dst,o,T,pos,aft,g⟩).run P w):=by
 unfold BJ at h;cases c:Uh σ.hp.length (j0 I) with
 |true=>rw[c]at h;refine Qu (tx (T:=T) a b R h) fun v w' ⟨x,d,S',j,l,p,q,s,t,u⟩=>⟨x,d,S',j,l,p,q,s,t,u,fun i f y=>?_⟩;rw[Ci c i (by rw[<-R.lL];exact y)]at f;cases f
 |false=>
 rw[c]at h;cases e:Mo I σ o with
 |true=>rw[e]at h;exact Ax (T:=T) a R e h|false=>
  rw[e]at h;simp only[zH]at h;split at h
  ·exact xbI a b R h
  ·exact Bi a b R h
end
theorem xcU{r:β}{all:List Oper}{o:Oper}{c skip:St->Option β}(R:Rel n B S E L σ m w)(h:fg all σ o.guard c skip=some r):(∃a,Rel n B S E L a m w/\p9 o (yielded all.toArray (fr n m).tmps)=true/\c a=some r)∨(∃a,Rel n B S E L a m w/\p9 o (yielded all.toArray (fr n m).tmps)=false/\skip a=some r):=by
 unfold fg at h;split at h
 ·rename_i e;exact .inl ⟨σ,R,GQ e,h⟩
 ·rename_i j b e;split at h
  ·rename_i d s;split at h
   ·rename_i t p;have f:o0 n m (.tmp d) = .bool t:=vB (by have:=R.sl d;rw[p]at this;exact this);have i:=ytF (o:=o) e (xi (m:=m) (n:=n) s f);have l:∀q:Bool,t=q->Rel n B S E L (σ.put d (.v .b q)) m w:=fun q u=>R.re (by rw[f,u];exact bV q);cases t with
    |true=>
     cases b with
     |true=>exact .inl ⟨_,l true rfl,i,h⟩|false=>exact .inr ⟨_,l true rfl,i,h⟩
    |false=>
     cases b with
     |true=>exact .inr ⟨_,l false rfl,i,h⟩|false=>exact .inl ⟨_,l false rfl,i,h⟩
   ·rename_i p;have f:o0 n m (.tmp d)=undef:=by have:=R.sl d;rw[p]at this;exact this
    exact .inr ⟨_,R,xbN e (yi (m:=m) (n:=n) s f),h⟩
   ·cases h
  ·cases h
theorem HS.shrink{S':Mem}{e w':World}{f A:List Q0}(H:HS B S e f)(hS:Mem.le S S')(a:HS B S' w' A):HS B S w' A:=by
 refine⟨a.fr,fun b o c=>a.sub b o (hS b o c),H.keep,a.own,fun k r b d c=>⟨(a.old k r b d c).1,?_⟩,a.inj⟩;cases h:S b with
 |none=>rfl|some o=>have:=hS b o h;rw[(a.old k r b d c).2]at this;cases this
theorem HS.toJ{b:List Q0}{W:List Nat}(d:∀i,j0 W i=false->i<b.length->Y3 L i=Y3 b i)(H:HS B S w L):HS B S w (Cd W 0 b):=
 HS.part H fun i r a=>by
  rw[N7,Hp,aV]at a;cases c:b[i]? with
  |none=>rw[c]at a;cases a
  |some f=>
   rw[c]at a;simp only[aX,Option.some.injEq]at a;cases e:j0 W i with
   |true=>rw[e]at a;exact .inl a.symm|false=>rw[e]at a;right;rw[d i e (aC.1 c).1,N7,c,<-a];rfl
def Ru(B:r9)(S:Mem)(L:List Q0)(Jp:Nat->World->Prop)(p:Nat×List Nat):Prop:=
 ∃b a c,HS B b c a/\Mem.le b S/\a.length<=L.length/\(∀i,j0 p.2 i=false->i<a.length->Y3 L i=Y3 a i)/\Jp p.1=fun w=>HS B b w (Cd p.2 0 a)
theorem Ru.j{Jp:Nat->World->Prop}{p:Nat×List Nat}(h:Ru B S L Jp p){u:World}(a:HS B S u L):Jp p.1 u:=by obtain⟨f,i,l,b,c,q,d,e⟩:=h;rw[e];exact HS.shrink b c (HS.toJ d a)
theorem Ru.next{Jp:Nat->World->Prop}{p:Nat×List Nat}{S':Mem}{a:List Q0}(h:Ru B S L Jp p)(hS:Mem.le S S')(d:L.length<=a.length)(hf:∀i,j0 p.2 i=false->i<L.length->Y3 a i=Y3 L i):Ru B S' a Jp p:=by obtain⟨e,f,j,l,q,s,t,u⟩:=h;exact⟨e,f,j,l,Mem.le_trans q hS,Nat.le_trans s d,fun i c b=>by rw[hf i c (by omega),t i c b],u⟩
theorem Fi{i:Nat}:∀{pn:List (Nat×List Nat)},No i pn=true->∀p∈pn,p.1≠i
 |[],_,p,hp=>by cases hp
 |q::l,h,p,hp=>by
  unfold No at h;rcases aN.1 hp with rfl|hp
  ·intro e;have:=Z3 h;rw[e,eJ]at this;cases this
  ·exact Fi (Y4 h) p hp
theorem Yp{ops:Array Oper}{i:Nat}{W:List Nat}:∀{pn:List (Nat×List Nat)},WC ops i W pn=true->∀p∈pn,ub ops i p.1=false->Vd p.2 W=true
 |[],_,p,hp,_=>by cases hp
 |q::l,h,p,hp,a=>by
  unfold WC at h;rcases aN.1 hp with rfl|hp
  ·have:=Z3 h;rw[a]at this;exact this
  ·exact Yp (Y4 h) p hp a
theorem ywL{ops:Array Oper}{i:Nat}:∀(pn:List (Nat×List Nat)),qJ ops i (pn.map (·.1))=(MG ops i pn).map (·.1)
 |[]=>rfl|q::l=>by have a:=ywL (ops:=ops) (i:=i) l;unfold qJ MG at a ⊢;simp only[bF,List.filter_cons];cases ub ops i q.1<;>simp[a]
theorem Bx{W V:List Nat}{i:Nat}(h:Vd V W=true)(a:j0 V i=false):j0 W i=false:=oV a h
theorem HS.kp{b:World}(H:HS B S b L):∀k,(k∈U5 L∨S k≠none∨k<B.w0.heap.size)->k<b.heap.size:=fun k h=>by
 rcases h with h|h|h
 ·obtain⟨i,r,c,d⟩:=Dh.1 h;exact H.a8 c d
 ·exact Nat.lt_of_not_le fun a=>h (H.sub.none a)
 ·exact Nat.lt_of_lt_of_le h H.fr.size
theorem jt{Jp:Nat->World->Prop}{i:Nat}{J:World->Prop}:wb Jp i J i=J:=by unfold wb;rw[zJ rfl]
theorem PD{Jp:Nat->World->Prop}{i j:Nat}{J:World->Prop}(h:j≠i):wb Jp i J j=Jp j:=by unfold wb;rw[zI h]
theorem Ru.Gb{Jp:Nat->World->Prop}{p:Nat×List Nat}{i:Nat}{J:World->Prop}(h:Ru B S L Jp p)(a:p.1≠i):Ru B S L (wb Jp i J) p:=by obtain⟨b,c,d,e,f,j,l,q⟩:=h;exact⟨b,c,d,e,f,j,l,by rw[PD a];exact q⟩
theorem sK{all:List Oper}{S0:Mem}{E0:List EI}{m0:FM}{D:List Nat}{k:St->Option β}{r:β}{Q:Exit->Act->World->Prop}(c:P3 P τ)(C:X6 P Γ B)(Y:∀t,j0 (ke all) t=true->j0 D t=true) (hQ:∀F S' E' L' m' w',k F=some r->Mem.le S0 S'->V4 E0 E'->p8 D m0 m'->Rel n B S' E' L' F m' w'->Q .normal (fr n m') w'):∀(s:El) (H:List (Nat×AO)) (pn:List (Nat×List Nat)) {σ:St} {S:Mem} {E:List EI} {L:List Q0} {m:FM} {w:World} {Dsc:Nat->Value->Nat->Obj->Prop} {Jp:Nat->World->Prop},Mem.le S0 S->V4 E0 E->p8 D m0 m->(∀p∈pn,Ru B S L Jp p)->Rel n B S E L σ m w->(∀i ao,yU H i=some ao->∃S1 E1,Mem.le S1 S/\V4 E1 E/\Dsc i=Oc S1 E1 ao)->ed n τ Γ all.toArray all s H pn σ k=some r ->
  wpS P all.toArray Q (Vh s) Dsc Jp (pn.map (·.1)) (fun w=>HS B S w L) (fun b=>b∈U5 L∨S b≠none∨b<B.w0.heap.size) (fr n m)
 |[],H,pn,σ,S,E,L,m,w,Dsc,Jp,hS,J,K,d,R,hp,h=>fun M Z=>hQ _ _ _ _ _ _ h hS J K (R.to Z)
 |(.pu,i,W)::s,H,pn,σ,S,E,L,m,w,Dsc,Jp,hS,J,K,d,R,hp,h=>by
  simp only[ed]at h;split at h
  ·rename_i o X;obtain⟨hnew,h⟩:=r7 h;have l:all.toArray[i]? = some o:=by rw[eD,<-Fa];exact X
   have G:∀t,o.dst=some t->j0 D t=true:=fun t ht=>Y t (nV.2 ⟨o,bO (by rw[<-Fa];exact X),ht⟩)
   have a:∀p∈(i,W)::pn,Ru B S L (wb Jp i fun w=>HS B S w (Cd W 0 L)) p:=fun p hp=>by
    rcases aN.1 hp with rfl|hp
    ·exact⟨S,L,w,R.hs,Mem.le_refl _,aL _,fun _ _ _=>rfl,jt⟩
    ·exact(d p hp).Gb (Fi hnew p hp)
   have hG:∀u,HS B S u L->HS B S u (Cd W 0 L):=fun u hu=>HS.toJ (fun _ _ _=>rfl) hu;rcases xcU R h with⟨F,N,Z,h⟩|⟨F,N,Z,h⟩
   ·obtain⟨dst,op,ty,pos,aft,g⟩:=o;obtain⟨z,u,h1,h2,h3⟩:=ND (dst:=dst) (ty:=ty) (pos:=pos) (aft:=aft) (g:=g) c N h;obtain⟨σ2,m2,h5,f,h6,h7⟩:=oK N h2 h1;refine⟨_,u,fun w=>HS B S w (Cd W 0 L),l,.inl ⟨Z,fun M I=>by rw[fo];exact h3 M I⟩,hG,?_⟩;show wpS P all.toArray Q (Vh s) Dsc _ _ _ _ ((fr n m).put dst u);rw[h6];exact sK c C Y hQ s H ((i,W)::pn) hS J (K.trans (h7 D G)) a f hp h5
   ·obtain⟨σ2,m2,h5,f,h6,h7⟩:=oK N (v:=undef) (x:=.eh) rfl h;refine⟨o,undef,fun w=>HS B S w (Cd W 0 L),l,.inr ⟨Z,rfl⟩,hG,?_⟩;rw[h6];exact sK c C Y hQ s H ((i,W)::pn) hS J (K.trans (h7 D G)) a f hp h5
  ·cases h
 |(.la,i,W)::s,H,pn,σ,S,E,L,m,w,Dsc,Jp,hS,J,K,d,R,hp,h=>by
  simp only[ed]at h;split at h
  ·rename_i o X;have l:all.toArray[i]? = some o:=by rw[eD,<-Fa];exact X
   split at h
   ·rename_i ao hg hl;refine⟨o,Oc S E ao,l,GQ hg,fun M=>?_,?_⟩
    ·obtain⟨dst,op,ty,pos,aft,g⟩:=o;rw[fo];exact zx c R hl M
    ·refine sK c C Y hQ s ((i,ao)::H) pn hS J K d R (fun j bo y=>?_) h;unfold yU at y;unfold al;cases O:aJ i j with
     |true=>rw[O]at y;cases y;rw[zJ (aB O).symm];exact⟨S,E,Mem.le_refl _,V4.refl _,rfl⟩
     |false=>rw[O]at y;rw[zI fun e=>by rw[e,eJ]at O;cases O];exact hp j bo y
   ·cases h
  ·cases h
 |(.rv,i,W)::s,H,pn,σ,S,E,L,m,w,Dsc,Jp,hS,J,K,d,R,hp,h=>by
  simp only[ed]at h;split at h
  ·rename_i o ao X hpi;have l:all.toArray[i]? = some o:=by rw[eD,<-Fa];exact X
   have G:∀t,o.dst=some t->j0 D t=true:=fun t ht=>Y t (nV.2 ⟨o,bO (by rw[<-Fa];exact X),ht⟩);obtain⟨S1,E1,g1,g2,g3⟩:=hp i ao hpi;refine⟨o,l,fun v kk x hD1 hK ⟨w2,hw2,hx2⟩=>?_⟩;rw[g3]at hD1;have hD1:=hD1.mono g1 g2;have hk1:kk∉U5 L:=fun h=>hK (.inl h);have hk2:S kk=none:=Classical.byContradiction fun h=>hK (.inr (.inl h));have hk3:B.w0.heap.size<=kk:=fH fun h=>hK (.inr (.inr h));obtain⟨q,e,a1,a2,a3,a4⟩:=hD1.pG R hk1 hk2 hk3;have f:=a3 w2 hw2 hx2;obtain⟨σ3,m3,h5,R3,h6,h7⟩:=oK f a4 h;have a:∀p∈pn,Ru B S (L++[q]) Jp p:=fun p hp=>(d p hp).next (Mem.le_refl _) (by rw[aD];omega) fun j _ y=>UU y;refine⟨fun w=>HS B S w (L++[q]),fun b=>b∈U5 (L++[q])∨S b≠none∨b<B.w0.heap.size,fun M h1 h2=>(a3 M h1 h2).hs,fun j y M h1=>?_,fun u u' h1 h2=>h1.ext h2,fun u h1=>HS.kp h1,fun b h1=>?_,?_⟩
   ·obtain⟨p,hp1,rfl⟩:=aY.1 y;exact(a p hp1).j h1
   ·rcases h1 with h1|h1
    ·obtain⟨t,q',t1,t2⟩:=Dh.1 h1;rw[N7]at t1;by_cases ht:t<L.length
     ·rw[aF ht]at t1;exact .inl (.inl (Dh.2 ⟨t,q',by rw[N7];exact t1,t2⟩))
     ·have:t=L.length:=by have:=(aC.1 t1).1;simp at this;omega
      subst this;simp at t1;subst t1;exact .inr (a1 _ t2).symm
    ·exact .inl (.inr h1)
   ·rw[h6]
    exact sK c C Y hQ s H pn hS (J.trans (V4.push E _)) (K.trans (h7 D G)) a R3 (fun j bo y=>by
     obtain⟨S2,E2,t1,t2,t3⟩:=hp j bo y
     exact⟨S2,E2,t1,t2.trans (V4.push E _),t3⟩) h5
  ·cases h
 |(.mn,i,W)::s,H,pn,σ,S,E,L,m,w,Dsc,Jp,hS,J,K,d,R,hp,h=>by
  simp only[ed]at h;split at h
  ·rename_i o X;obtain⟨hok,h⟩:=r7 h;have l:all.toArray[i]? = some o:=by rw[eD,<-Fa];exact X
   have G:∀t,o.dst=some t->j0 D t=true:=fun t ht=>Y t (nV.2 ⟨o,bO (by rw[<-Fa];exact X),ht⟩);have U:∀p∈MG all.toArray i pn,p∈pn/\ub all.toArray i p.1=false:=fun p hp=>by have:=List.mem_filter.1 hp;exact⟨this.1,by simpa using this.2⟩
   refine⟨o,l,fun M I=>?_⟩;rw[ywL];rcases xcU (R.to I) h with⟨F,N,Z,h⟩|⟨F,N,Z,h⟩
   ·left;refine⟨Z,?_⟩;obtain⟨dst,op,ty,pos,aft,g⟩:=o;rw[fo];have RL:Rel n ⟨S,U5 L,M⟩ S E L F m M:=⟨HS.Vw I,N.lL,N.lE,N.obj,N.sl⟩;refine Qu (OD c (C.Vw I) RL h) ?_;rintro v w' ⟨x,σ2,S',E',L',h1,h2,h3,f,h4,h5⟩;have Hh:=HS.home I f.hs;have RB:Rel n B S' E' L' σ2 m w':=⟨Hh,f.lL,f.lE,f.obj,f.sl⟩;obtain⟨σ3,m3,h6,R3,h7,h8⟩:=oK RB h4 h1;have hlen:L.length<=L'.length:=by rw[f.lL,<-f.lE,R.lL,<-R.lE];exact V4.len h3 (aL _)
    have a:∀p∈MG all.toArray i pn,Ru B S' L' Jp p:=fun p hp=>by obtain⟨t1,t2⟩:=U p hp;exact(d p t1).next h2 hlen fun j y hlt=>h5 j (Bx (Yp hok p t1 t2) y) hlt
    refine⟨fun u=>HS B S' u L',fun b=>b∈U5 L'∨S' b≠none∨b<B.w0.heap.size,fun j y u hu=>?_,fun u u' t1 t2=>t1.ext t2,fun u t1=>HS.kp t1,Hh,fun b t1=>?_,fun b t1 t2=>f.hs.fr.block b t1 fun t3=>t2 (.inl t3),?_⟩
    ·obtain⟨p,hp1,rfl⟩:=aY.1 y;exact(a p hp1).j hu
    ·rcases t1 with t1|t1|t1
     ·obtain⟨t,q',t2,t3⟩:=Dh.1 t1;rcases(f.hs.old t q' b t2 t3).1 with t4|t4
      ·exact .inr t4
      ·exact .inl (.inl t4)
     ·by_cases hlt:b<M.heap.size
      ·by_cases hX:b∈U5 L
       ·exact .inl (.inl hX)
       ·have:=f.hs.keep b hlt hX;rw[this]at t1;exact .inl (.inr (.inl t1))
      ·exact .inr (fH hlt)
     ·exact .inl (.inr (.inr t1))
    ·show wpS P all.toArray Q (Vh s) Dsc _ _ _ _ ((fr n m).put dst v);rw[h7]
     exact sK c C Y hQ s H (MG all.toArray i pn) (Mem.le_trans hS h2) (J.trans h3) (K.trans (h8 D G)) a R3 (fun j bo y=>by
      obtain⟨S2,E2,t1,t2,t3⟩:=hp j bo y
      exact⟨S2,E2,Mem.le_trans t1 h2,t2.trans h3,t3⟩) h6
   ·right;refine⟨Z,?_⟩;obtain⟨σ2,m2,h5,f,h6,h7⟩:=oK N (v:=undef) (x:=.eh) rfl h;rw[h6];exact sK c C Y hQ s H (MG all.toArray i pn) hS J (K.trans (h7 D G)) (fun p hp=>d p (U p hp).1) f hp h5
  ·cases h
theorem nt{l:List Oper}{k:St->Option β}{r:β}{Q:Exit->Act->World->Prop}{s:El}(c:P3 P τ)(d:X6 P Γ B)(R:Rel n B S E L σ m w)(h:Fl n τ Γ s l.toArray σ k=some r) (j:∀a S' E' e b w',k a=some r->Mem.le S S'->V4 E E'->p8 (ke l) m b->Rel n B S' E' e a b w'->Q .normal (fr n b) w'):b9 P l Q (fr n m) w:=by unfold Fl at h;obtain⟨f,h⟩:=r7 h;have q:=sK (Q:=j5 Q) (S0:=S) (E0:=E) (m0:=m) (D:=ke l) (Dsc:=fun _ _ _ _=>False) (Jp:=fun _ _=>True) c d (fun _ h=>h) (fun a S' E' e b w' t v x y z=>OT (j a S' E' e b w' t v x y z)) s [] [] (Mem.le_refl _) (V4.refl _) (p8.refl _ _) (fun p hp=>by cases hp) R (fun i I C=>by cases C) h;exact Yr (Z3 f) (Y4 f) q R.hs.drew (fun u J F G=>F.ext G) (fun u H=>HS.kp H)
theorem qt{id:Nat}{l:List Oper}{w:World}{k:St->Option β}{r:β}{Q:Exit->Act->World->Prop}(e:P.follows .mixedOrders=true)(b:P3 P τ)(c:X6 P Γ B)(R:Rel n B S E L σ m w){η:HT}(h:Gl n τ Γ η id l.toArray σ k=some r) (f:∀a S' E' i d w',k a=some r->Mem.le S S'->V4 E E'->p8 (ke l) m d->Rel n B S' E' i a d w'->Q .normal (fr n d) w'):(Code.region id l.toArray true).wp P Q (fr n m) w:=by
 refine b9.wp e ?_;unfold Gl at h;split at h
 ·exact nt b c R h f
 ·cases h
end
end Go.Proofs.YtopanhneegpgcaaGreatDoor.Am
