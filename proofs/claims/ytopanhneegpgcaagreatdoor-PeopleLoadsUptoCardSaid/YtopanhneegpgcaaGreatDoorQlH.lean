/- Parts of one proof. Conditions: as each theorem says. -/
import Derived.Test.YtopanhneegpgcaaGreatDoorQlG
open Array renaming getElem?_eq_some_iff->aP,mapM_eq_mapM_toList->fD
open Bool renaming and_eq_true->aF,or_eq_false_iff->cW
open List renaming all_cons->cI,any_eq_true->dK,append_nil->bK,cons_append->bG,ext_getElem?->bS,getElem?_append_left->aH,getElem?_cons_succ->cJ,getElem?_eq_getElem->aO,getElem?_eq_some_iff->aD,getElem?_set_ne->bN,getElem?_set_self->bB,getElem?_toArray->dU,length_append->aC,length_cons->aN,mem_append->bD,mem_append_left->fG,mem_append_right->iW,mem_cons->aK,mem_cons_of_mem->aL,mem_cons_self->aM,mem_filter->cH,mem_iff_getElem->dY,mem_map->aR,mem_of_getElem?->cA,mem_singleton->aT,pairwise_append->dH,pairwise_iff_getElem->bW,perm_append_singleton->gA
open Nat renaming beq->aG,beq_refl->fB,ble->cK,ble_eq->gD,blt->cV,eq_of_beq_eq_true->aB,le_of_ble_eq_true->bJ,le_refl->aI,lt_or_gt_of_ne->jF,zero_add->aV,zero_le->aZ
open Option renaming map_some->bO
namespace Go.Proofs.YtopanhneegpgcaaGreatDoor.Am
open Go Go.RowKit
def zyN(I:List Nat):Nat->List Res->List Res
 |_,[]=>[]|i,r::l=>(bif hasN I i then ybA else r)::zyN I (i+1) l
def zoV(I:List Nat):Nat->List EI->List EI
 |_,[]=>[]|i,e::l=>(bif hasN I i then .dead else e)::zoV I (i+1) l
theorem ydE(I:List Nat):∀(l:List Res) (i j:Nat),(zyN I i l)[j]? = (l[j]?).map fun r=>bif hasN I (i+j)then ybA else r
 |[],_,_=>by simp[zyN]
 |r::l,i,0=>by simp[zyN]
 |r::l,i,j+1=>by simp only[zyN,cJ,ydE I l (i+1) j];rw[show i+1+j=i+(j+1) by omega]
theorem ygO(I:List Nat):∀(l:List EI) (i j:Nat),(zoV I i l)[j]? = (l[j]?).map fun r=>bif hasN I (i+j)then EI.dead else r
 |[],_,_=>by simp[zoV]
 |r::l,i,0=>by simp[zoV]
 |r::l,i,j+1=>by simp only[zoV,cJ,ygO I l (i+1) j];rw[show i+1+j=i+(j+1) by omega]
theorem ytU(I:List Nat):∀(l:List AO) (i j:Nat),(yjS I i l)[j]? = (l[j]?).map fun r=>bif hasN I (i+j)then AO.dead else r
 |[],_,_=>by simp[yjS]
 |r::l,i,0=>by simp[yjS]
 |r::l,i,j+1=>by simp only[yjS,cJ,ytU I l (i+1) j];rw[show i+1+j=i+(j+1) by omega]
theorem ypW(I:List Nat):∀(l:List Res) (i:Nat),(zyN I i l).length=l.length
 |[],_=>rfl|_::l,i=>by simp only[zyN,aN,ypW I l]
theorem yqM(I:List Nat):∀(l:List EI) (i:Nat),(zoV I i l).length=l.length
 |[],_=>rfl|_::l,i=>by simp only[zoV,aN,yqM I l]
theorem ygY(I:List Nat):∀(l:List AO) (i:Nat),(yjS I i l).length=l.length
 |[],_=>rfl|_::l,i=>by simp only[yjS,aN,ygY I l]
theorem ywA(I:List Nat)(E:List EI):ELe E (zoV I 0 E):=fun i a h=>by
 refine⟨_,by rw[ygO,h];rfl,?_⟩;rw[aV];cases hasN I i with
 |false=>exact a.le_refl|true=>
  show a.le .dead;cases a with
  |blk=>exact .inr rfl|osl=>exact .inr (.inl rfl)|mp=>exact .inl rfl|fam=>exact .inr (.inl rfl)|dead=>rfl
section
variable {B:Bas}{S S':Mem}{w w':World}{L A:List Res}
theorem HS.part(H:HS B S w L)(h:∀i r,lkR A i=some r->r=ybA∨lkR L i=some r):HS B S w A:=by
 refine⟨H.fr,H.sub,H.keep,fun k r hk=>?_,fun k r b hk hb=>?_,fun i j r s b hi hj h1 h2=>?_⟩
 ·rcases h k r hk with rfl|h
  ·exact .inl ⟨rfl,rfl,rfl,rfl⟩
  ·exact H.own k r h
 ·rcases h k r hk with rfl|h
  ·cases hb
  ·exact H.old k r b h hb
 ·rcases h i r hi with rfl|hi
  ·cases h1
  ·rcases h j s hj with rfl|hj
   ·cases h2
   ·exact H.inj i j r s b hi hj h1 h2
end
end Go.Proofs.YtopanhneegpgcaaGreatDoor.Am
namespace Go.Proofs.YtopanhneegpgcaaGreatDoor
open Go Go.RowKit
def Res.parts:Res->List R0
 |.blk b cs T=>[.blk b cs T]|.obj b o=>[.obj b o]|.osl v n sz cs rs T=>[.osl v n sz cs rs T]|.many rs=>rs
def dead0:R0:=.osl (.slice none 0 0) 0 0 [] [] 0
theorem R0.apart_one(q:R0):R0.apart [q]:=List.pairwise_singleton _ _
theorem Res.holds_parts{w:World}{r:Res}:r.holds w↔(∀q∈r.parts,q.holds w)/\R0.apart r.parts:=by
 cases r with
 |many rs=>exact Iff.rfl|_=>simp only[Res.parts,aT,forall_eq];exact⟨fun h=>⟨h,R0.apart_one _⟩,fun h=>h.1⟩
theorem Res.has_parts{r:Res}{b:Nat}:r.has b↔∃q∈r.parts,q.key=some b:=by
 cases r with
 |many rs=>exact Iff.rfl|_=>simp only[Res.parts,aT,exists_eq_left];exact Iff.rfl
theorem R0.up_parts(q:R0):q.up.parts=[q]:=by cases q<;>rfl
theorem R0.apart_symm{p q:R0}(h:∀b,p.key=some b->q.key≠some b):∀b,q.key=some b->p.key≠some b:=fun b h1 h2=>h b h2 h1
theorem R0.apart_perm{l l':List R0}(h:l.Perm l')(k:R0.apart l):R0.apart l':=h.pairwise k fun hh=>R0.apart_symm hh
theorem R0.apart_cons{q:R0}{l:List R0}(hq:q.key=none)(h:R0.apart l):R0.apart (q::l):=List.pairwise_cons.2 ⟨fun _ _ b hb=>(by rw[hq]at hb;cases hb),h⟩
end Go.Proofs.YtopanhneegpgcaaGreatDoor
namespace Go.Proofs.YtopanhneegpgcaaGreatDoor.Am
open Go Go.RowKit
section
variable {B:Bas}{S:Mem}{w:World}{L:List Res}{r:Res}
theorem HS.two(H:HS B S w L){i j:Nat}{r s r' s':Res}(hi:L[i]? = some r)(hj:L[j]? = some s)(hij:i≠j) (h1:∀q∈r'.parts++s'.parts,q=dead0∨q∈r.parts++s.parts) (h2:R0.apart (r.parts++s.parts)->R0.apart (r'.parts++s'.parts)):HS B S w ((L.set i r').set j s'):=by
 have hi':lkR L i=some r:=by rw[zbZ];exact hi
 have hj':lkR L j=some s:=by rw[zbZ];exact hj
 have hr:=Res.holds_parts.1 (H.own i r hi');have hs:=Res.holds_parts.1 (H.own j s hj');have hap:R0.apart (r.parts++s.parts):=dH.2 ⟨hr.2,hs.2,fun p hp q hq b h3 h4=>hij (H.inj i j r s b hi' hj' (Res.has_parts.2 ⟨p,hp,h3⟩) (Res.has_parts.2 ⟨q,hq,h4⟩))⟩;have hap':=dH.1 (h2 hap)
 have hold:∀q∈r'.parts++s'.parts,q.holds w:=fun q hq=>by
  rcases h1 q hq with rfl|h
  ·exact .inl ⟨rfl,rfl,rfl,rfl⟩
  ·rcases bD.1 h with h|h
   ·exact hr.1 q h
   ·exact hs.1 q h
 have whose:∀q∈r'.parts++s'.parts,∀b,q.key=some b->r.has b∨s.has b:=fun q hq b hb=>by
  rcases h1 q hq with rfl|h
  ·cases hb
  ·rcases bD.1 h with h|h
   ·exact .inl (Res.has_parts.2 ⟨q,h,hb⟩)
   ·exact .inr (Res.has_parts.2 ⟨q,h,hb⟩)
 have hli:=(aD.1 hi).1;have hlj:=(aD.1 hj).1
 have at_:∀{k q},lkR ((L.set i r').set j s') k=some q->(k=j/\q=s')∨(k=i/\q=r')∨(k≠i/\k≠j/\lkR L k=some q):=fun {k q} hk=>by
  rw[zbZ]at hk;by_cases hkj:j=k
  ·subst hkj;rw[bB (by simpa using hlj)]at hk;cases hk;exact .inl ⟨rfl,rfl⟩
  ·rw[bN hkj]at hk;by_cases hki:i=k
   ·subst hki;rw[bB hli]at hk;cases hk;exact .inr (.inl ⟨rfl,rfl⟩)
   ·rw[bN hki]at hk;exact .inr (.inr ⟨Ne.symm hki,Ne.symm hkj,by rw[zbZ];exact hk⟩)
 have mine:∀{k q b},((k=j/\q=s')∨(k=i/\q=r'))->q.has b->r.has b∨s.has b:=fun {k q b} hk hb=>by
  obtain⟨p,hp,hpb⟩:=Res.has_parts.1 hb;rcases hk with⟨_,rfl⟩|⟨_,rfl⟩
  ·exact whose p (iW _ hp) b hpb
  ·exact whose p (fG _ hp) b hpb
 have notmine:∀{k q b},k≠i->k≠j->lkR L k=some q->q.has b->(r.has b∨s.has b)->False:=fun {k q b} h3 h4 h5 h6 h7=>by
  rcases h7 with h7|h7
  ·exact h3 (H.inj k i q r b h5 hi' h6 h7)
  ·exact h4 (H.inj k j q s b h5 hj' h6 h7)
 refine⟨H.fr,H.sub,H.keep,fun k q hk=>?_,fun k q b hk hb=>?_,fun a c q p b ha hc h3 h4=>?_⟩
 ·rcases at_ hk with⟨rfl,rfl⟩|⟨rfl,rfl⟩|⟨_,_,h⟩
  ·exact Res.holds_parts.2 ⟨fun p hp=>hold p (iW _ hp),hap'.2.1⟩
  ·exact Res.holds_parts.2 ⟨fun p hp=>hold p (fG _ hp),hap'.1⟩
  ·exact H.own k q h
 ·have old:r.has b∨s.has b->(B.w0.heap.size<=b∨b∈B.X)/\S b=none:=fun h=>by
   rcases h with h|h
   ·exact H.old i r b hi' h
   ·exact H.old j s b hj' h
  rcases at_ hk with h|h|⟨_,_,h⟩
  ·exact old (mine (.inl h) hb)
  ·exact old (mine (.inr h) hb)
  ·exact H.old k q b h hb
 ·have cross:∀{b},r'.has b->s'.has b->False:=fun {b} h5 h6=>by obtain⟨x,hx,hxb⟩:=Res.has_parts.1 h5;obtain⟨y,hy,hyb⟩:=Res.has_parts.1 h6;exact hap'.2.2 x hx y hy b hxb hyb
  rcases at_ ha with⟨rfl,rfl⟩|⟨rfl,rfl⟩|⟨g1,g2,g3⟩
  ·rcases at_ hc with⟨rfl,rfl⟩|⟨rfl,rfl⟩|⟨f1,f2,f3⟩
   ·rfl
   ·exact(cross h4 h3).elim
   ·exact(notmine f1 f2 f3 h4 (mine (k:=a) (.inl ⟨rfl,rfl⟩) h3)).elim
  ·rcases at_ hc with⟨rfl,rfl⟩|⟨rfl,rfl⟩|⟨f1,f2,f3⟩
   ·exact(cross h3 h4).elim
   ·rfl
   ·exact(notmine f1 f2 f3 h4 (mine (k:=a) (.inr ⟨rfl,rfl⟩) h3)).elim
  ·rcases at_ hc with h|h|⟨f1,f2,f3⟩
   ·exact(notmine g1 g2 g3 h3 (mine (k:=c) (.inl h) h4)).elim
   ·exact(notmine g1 g2 g3 h3 (mine (k:=c) (.inr h) h4)).elim
   ·exact H.inj a c q p b g3 f3 h3 h4
theorem HS.snocD(H:HS B S w L):HS B S w (L++[ybA]):=HS.part H fun i r hi=>by
 rw[zbZ]at hi ⊢;by_cases h:i<L.length
 ·rw[aH h]at hi;exact .inr hi
 ·rw[List.getElem?_append_right (by omega)]at hi;cases hk:i-L.length with
  |zero=>rw[hk]at hi;cases hi;exact .inl rfl
  |succ k=>rw[hk]at hi;cases hi
theorem HS.split(H:HS B S w L){i:Nat}{A A':List R0}{q:R0}(hi:L[i]? = some (.many A))(hp:A.Perm (q::A')):HS B S w (L.set i (.many A')++[q.up]):=by
 have hl:=(aD.1 hi).1;have h:=HS.two (HS.snocD H) (i:=i) (j:=L.length) (r:=.many A) (s:=ybA) (r':=.many A') (s':=q.up) (by rw[aH hl];exact hi) (by simp) (by omega) (fun p hp'=>?_) fun ha=>?_
 ·rw[List.set_append_left _ _ hl,List.set_append_right _ _ (by simp)]at h;simpa using h
 ·rw[R0.up_parts]at hp';right;refine fG _ ?_;rcases bD.1 hp' with h|h
  ·exact hp.mem_iff.2 (aL _ h)
  ·rw[aT.1 h];exact hp.mem_iff.2 aM
 ·rw[R0.up_parts];have h1:R0.apart A:=(dH.1 ha).1;exact R0.apart_perm (hp.trans (gA q A').symm) h1
theorem HS.join(H:HS B S w L){i j:Nat}{A A' D:List R0}{s:Res}(hi:L[i]? = some (.many A))(hj:L[j]? = some s)(hij:i≠j)(hp:(A++s.parts).Perm (A'++D)):HS B S w ((L.set i (.many A')).set j ybA):=by
 refine HS.two H hi hj hij (fun p hp'=>?_) fun ha=>?_
 ·rcases bD.1 hp' with h|h
  ·exact .inr (hp.mem_iff.2 (fG _ h))
  ·exact .inl (aT.1 h)
 ·have h1:R0.apart A':=(dH.1 (R0.apart_perm hp ha)).1;exact R0.apart_perm (gA dead0 A').symm (R0.apart_cons rfl h1)
theorem HS.drop(H:HS B S w (L++[r])):HS B S w L:=HS.part H fun k q hk=>.inr (by
 rw[zbZ]at hk ⊢;rw[aH (aD.1 hk).1]
 exact hk)
end
section
variable {β:Type}{τ:TE}{Γ:CT}{n:Nat}{P:Program}{B:Bas}{S:Mem}{E:List EI}{L:List Res}{σ:St}{m:FM}{w:World}{V:Nat->Value}
theorem ykO(o:OSh)(os:List OSh)(l:List SV):∃a l',ziJ (o::os) l=a::ziJ os l'/\∀ver e T (xs:List (den e)),a = .osl ver e T xs->ver=0:=by
 cases o with
 |blk T s=>exact⟨_,_,rfl,fun _ _ _ _ h=>by cases h⟩|dead=>exact⟨_,l,rfl,fun _ _ _ _ h=>by cases h⟩|osl e T=>
  cases l with
  |nil=>exact⟨_,[],rfl,fun _ _ _ _ h=>by cases h⟩|cons x l=>
   cases x with
   |v t y=>
    cases t with
    |sl e'=>exact⟨_,l,rfl,fun ver e T xs h=>by split at h<;>first|(cases h;done)|(cases h;rfl)⟩|_=>exact⟨_,_,rfl,fun _ _ _ _ h=>by cases h⟩
   |_=>exact⟨_,_,rfl,fun _ _ _ _ h=>by cases h⟩
 |fam T f=>
  cases l with
  |nil=>exact⟨_,[],rfl,fun _ _ _ _ h=>by cases h⟩|cons x l=>
   cases x with
   |v t y=>
    cases t with
    |sl e'=>exact⟨_,l,rfl,fun ver e T xs h=>by split at h<;>cases h⟩|_=>exact⟨_,_,rfl,fun _ _ _ _ h=>by cases h⟩
   |_=>exact⟨_,_,rfl,fun _ _ _ _ h=>by cases h⟩
 |qu e T=>
  cases l with
  |nil=>exact⟨_,[],rfl,fun _ _ _ _ h=>by cases h⟩|cons x l=>
   cases x with
   |v t y=>
    cases t with
    |sl e'=>exact⟨_,l,rfl,fun ver e T xs h=>by split at h<;>cases h⟩|_=>exact⟨_,_,rfl,fun _ _ _ _ h=>by cases h⟩
   |_=>exact⟨_,_,rfl,fun _ _ _ _ h=>by cases h⟩
 |mp kp K V=>
  cases l with
  |nil=>exact⟨_,[],rfl,fun _ _ _ _ h=>by cases h⟩|cons x l=>
   cases x with
   |v t y=>
    cases t with
    |mp a c=>exact⟨_,l,rfl,fun ver e T xs h=>by split at h<;>cases h⟩|_=>exact⟨_,_,rfl,fun _ _ _ _ h=>by cases h⟩
   |_=>exact⟨_,_,rfl,fun _ _ _ _ h=>by cases h⟩
 |is=>
  cases l with
  |nil=>exact⟨_,[],rfl,fun _ _ _ _ h=>by cases h⟩|cons x l=>
   cases x with
   |v t y=>
    cases t with
    |s=>
     cases l with
     |nil=>exact⟨_,_,rfl,fun _ _ _ _ h=>by cases h⟩|cons x2 l=>
      cases x2 with
      |v t2 y2=>
       cases t2 with
       |i k=>cases k<;>exact⟨_,_,rfl,fun _ _ _ _ h=>by cases h⟩
       |_=>exact⟨_,_,rfl,fun _ _ _ _ h=>by cases h⟩
      |_=>exact⟨_,_,rfl,fun _ _ _ _ h=>by cases h⟩
    |_=>exact⟨_,_,rfl,fun _ _ _ _ h=>by cases h⟩
   |_=>exact⟨_,_,rfl,fun _ _ _ _ h=>by cases h⟩
 |it j kp K=>
  cases l with
  |nil=>exact⟨_,[],rfl,fun _ _ _ _ h=>by cases h⟩|cons x l=>
   cases x with
   |v t y=>
    cases t with
    |sl a=>exact⟨_,l,rfl,fun ver e T xs h=>by split at h<;>cases h⟩|_=>exact⟨_,_,rfl,fun _ _ _ _ h=>by cases h⟩
   |_=>exact⟨_,_,rfl,fun _ _ _ _ h=>by cases h⟩
theorem yqO:∀(os:List OSh) (l:List SV),(ziJ os l).length=os.length
 |[],l=>by cases l<;>rfl
 |o::os,l=>by obtain⟨a,l',h,_⟩:=ykO o os l;rw[h,aN,aN,yqO os]
def mKind:AO->Prop
 |.blk _ _=>True|.mp _ _ _ _=>True|.dead=>True|_=>False
theorem OR0.up{E:List EI}{S:Mem}{o:AO}{r:Res}{e:EI}(hk:mKind o)(h:OR S E o r e):∃q:R0,r=q.up/\OR0 S E o q.up e:=by
 cases o with
 |blk T cs=>obtain⟨b,us,rfl,h2,h3⟩:=h;exact⟨.blk b us T,rfl,b,us,rfl,h2,h3⟩
 |mp g K V es=>obtain⟨b,ents,ck,rfl,h2⟩:=h;exact⟨.obj b (.map (List.toArray ents) ck),rfl,b,ents,ck,rfl,h2⟩
 |dead=>obtain⟨rfl,h2⟩:=h;exact⟨dead0,rfl,rfl,h2⟩
 |_=>exact hk.elim
theorem Mem1.first{S:Mem}{f:List FSh}{x:den (fT f)}{rs:List R0}{b:Nat}(hf:rootB f=true)(h:Mem1 S f x rs b):∃us T',R0.blk b us T'∈rs:=by
 obtain⟨Ei,h1,h2,h3,h4⟩:=h;cases f with
 |nil=>cases hf
 |cons s f=>
  cases s with
  |mp=>cases hf
  |blk T l=>
   obtain⟨r,e,k1,k2,b',us,k4,rfl,k6⟩:=h4 0 (.blk T _) rfl;have hbb:=h1 _ k2;rw[hbb]at k4;refine⟨us,T,?_⟩;have:r = .blk b us T:=by cases r<;>simp only[R0.up,Res.blk.injEq,reduceCtorEq]at k4;obtain⟨rfl,rfl,rfl⟩:=k4;rfl
   rw[<-this];exact cA k1
end
section
variable {β:Type}{τ:TE}{Γ:CT}{n:Nat}{P:Program}{B:Bas}{S:Mem}{E:List EI}{L:List Res}{σ:St}{m:FM}{w:World}{dst:Option Tmp}{g:Option (Nat×Bool)}{ty:TypeId}{pos:String}{aft:Array Edge}{T:TypeId}{k:SV->St->Option β}{r:β}
theorem RelV.kill{V:Nat->Value}(R:RelV B S E L σ V w)(I:List Nat):RelV B S (zoV I 0 E) (zyN I 0 L) ⟨σ.sl,yjS I 0 σ.hp⟩ V w:=by
 refine⟨HS.part R.hs fun i r hi=>?_,by rw[ypW,ygY];exact R.lL,by rw[yqM,ygY];exact R.lE,fun j q hq=>?_,fun t=>(R.sl t).mono (Mem.le_refl S) (ywA I E)⟩
 ·rw[zbZ,ydE,aV]at hi;cases hl:L[i]? with
  |none=>rw[hl]at hi;cases hi
  |some r'=>
   rw[hl]at hi;simp only[bO,Option.some.injEq]at hi;cases hh:hasN I i with
   |true=>rw[hh]at hi;exact .inl hi.symm|false=>rw[hh]at hi;right;rw[zbZ,hl,<-hi];rfl
 ·rw[ytU,aV]at hq;cases hj:σ.hp[j]? with
  |none=>rw[hj]at hq;cases hq
  |some q'=>
   obtain⟨r,e,h1,h2,h3⟩:=R.obj j q' hj;rw[hj]at hq;refine⟨_,_,by rw[ydE,h1];rfl,by rw[ygO,h2];rfl,?_⟩;rw[aV];simp only[bO,Option.some.injEq]at hq;cases hi:hasN I j with
   |true=>rw[hi]at hq;subst hq;exact⟨rfl,rfl⟩|false=>rw[hi]at hq;subst hq;exact h3.mono (Mem.le_refl S) (ywA I E)
theorem Rel.kill(R:Rel n B S E L σ m w)(I:List Nat):Rel n B S (zoV I 0 E) (zyN I 0 L) ⟨σ.sl,yjS I 0 σ.hp⟩ m w:=RelV.kill R I
theorem opF_ok{o:Op}(hτ:TEok P τ)(hΓ:CTok P Γ B)(R:Rel n B S E L σ m w)(h:opF τ Γ σ o T k=some r):
  outcome P (Post2 n B S E m k r) ((execOp (evO n m) ⟨dst,o,ty,pos,aft,g⟩).run P w):=by
 exact op2_ok hτ hΓ R h
end
theorem yyW:∀(l:List Nat) (t:Nat),hasN l t=l.contains t
 |[],_=>rfl|x::l,t=>by
  rw[hasN,yyW l t,List.contains_cons,zsN];congr 1;by_cases h:x=t
  ·subst h;simp
  ·have h2:¬t=x:=fun e=>h e.symm;simp[h,h2]
def Agr(D:List Nat)(m m':FM):Prop:=∀t,hasN D t=false->look m' t=look m t
theorem Agr.refl(D:List Nat)(m:FM):Agr D m m:=fun _ _=>rfl
theorem Agr.trans{D:List Nat}{a b c:FM}(h:Agr D a b)(k:Agr D b c):Agr D a c:=fun t ht=>(k t ht).trans (h t ht)
theorem Agr.put{D:List Nat}{m:FM}{d:Nat}{v:Value}(h:hasN D d=true):Agr D m ((d,v)::m):=fun t ht=>by
 show(bif aG d t then v else look m t)=_;cases hb:aG d t with
 |true=>rw[aB hb]at h;rw[h]at ht;cases ht
 |false=>rfl
theorem zoK(a b:List Nat)(t:Nat):hasN (a++b) t=(hasN a t||hasN b t):=by
 induction a with
 |nil=>rfl|cons x a ih=>simp only[bG,hasN,ih,Bool.or_assoc]
theorem Agr.l{a b:List Nat}{m m':FM}(h:Agr a m m'):Agr (a++b) m m':=fun t ht=>h t (by rw[zoK,cW]at ht;exact ht.1)
theorem Agr.r{a b:List Nat}{m m':FM}(h:Agr b m m'):Agr (a++b) m m':=fun t ht=>h t (by rw[zoK,cW]at ht;exact ht.2)
theorem yeA{o:Oper}{l:List Oper}{t:Nat}(h:hasN (zuE l) t=true):hasN (zuE (o::l)) t=true:=by
 unfold zuE;cases o.dst with
 |none=>exact h|some d=>simp[hasN,h]
theorem yeE{o:Oper}{l:List Oper}{d:Nat}(h:o.dst=some d):hasN (zuE (o::l)) d=true:=by unfold zuE;rw[h];simp[hasN]
theorem Agr.mono{D D':List Nat}{m m':FM}(h:Agr D m m')(hd:∀t,hasN D t=true->hasN D' t=true):Agr D' m m':=fun t ht=>h t (by
 cases hb:hasN D t with
 |true=>rw[hd t hb]at ht;cases ht
 |false=>rfl)
section
variable {n:Nat}{m:FM}{o:Oper}
theorem ztX(hg:o.guard=none){y:Nat->Option Bool}:Region.wanted o y=true:=by simp only[Region.wanted,hg]
theorem ytX{all:List Oper}{j d:Nat}{t:Bool}(h:yxW all j=some d)(hv:evO n m (.tmp d) = .bool t):yielded all.toArray (fr n m).tmps j=some t:=by
 rw[ykU,gvl_eq];unfold yxW at h;split at h
 ·rename_i o ho;refine gvl_at ?_ h hv;rw[yvH,<-zfR];exact ho
 ·cases h
theorem ytM{all:List Oper}{j d:Nat}(h:yxW all j=some d)(hv:evO n m (.tmp d)=undef):yielded all.toArray (fr n m).tmps j=none:=by
 rw[ykU,gvl_eq];unfold yxW at h;split at h
 ·rename_i o ho;have ho2:lko all j=some o:=by rw[yvH,<-zfR];exact ho
  unfold gvl;rw[ho2];obtain⟨dst,_,_,_,_,_⟩:=o;simp only at h;subst h;simp only[gvo,hv];rfl
 ·cases h
theorem yqS{j:Nat}{b:Bool}{y:Nat->Option Bool}(hg:o.guard=some (j,b))(hy:y j=none):Region.wanted o y=false:=by simp only[Region.wanted,hg,hy];cases b<;>rfl
theorem yjC{j:Nat}{b t:Bool}{y:Nat->Option Bool}(hg:o.guard=some (j,b))(hy:y j=some t):Region.wanted o y=(t==b):=by simp only[Region.wanted,hg,hy];cases t<;>cases b<;>rfl
end
section
variable {β:Type}{τ:TE}{Γ:CT}{n:Nat}{P:Program}{B:Bas}{S:Mem}{E:List EI}{L:List Res}{σ:St}{m:FM}{w:World}{ops:Array Oper}{Q:Exit->Act->World->Prop}{rest:List Oper}{o:Oper}
theorem wl_do{Rv:Value->World->Prop}(hg:Region.wanted o (yielded ops (fr n m).tmps)=true)(h:outcome P Rv ((execOp (evO n m) o).run P w))(hK:∀v w',Rv v w'->wpList P ops Q rest ((fr n m).put o.dst v) w'):
  wpList P ops Q (o::rest) (fr n m) w:=by
 unfold wpList;rw[zI hg];exact .inl (yaQ (by rw[zpJ];exact h) hK)
theorem wl_skip(hg:Region.wanted o (yielded ops (fr n m).tmps)=false)(h:wpList P ops Q rest ((fr n m).put o.dst undef) w):wpList P ops Q (o::rest) (fr n m) w:=by unfold wpList;rw[zH (by rw[hg];simp)];exact h
theorem ybY(R:Rel n B S E L σ m w){d:Option Nat}{x:SV}{v:Value}{k:St->Option β}{r:β}(hx:VR S E x v)(h:putD n d x σ k=some r):∃σ' m',k σ'=some r/\Rel n B S E L σ' m' w/\(fr n m).put d v=fr n m'/\∀D,(∀t,d=some t->hasN D t=true)->Agr D m m':=by
 cases d with
 |none=>exact⟨σ,m,h,R,yiZ _ _ _,fun D _=>Agr.refl D m⟩|some d=>obtain⟨hd,h⟩:=zaG h;exact⟨_,_,h,R.put hx hd,yfA _ _ _ _,fun D hD=>Agr.put (hD d rfl)⟩
theorem ycM(hτ:TEok P τ)(hΓ:CTok P Γ B){all:List Oper}{k:St->Option β}{r:β}{S0:Mem}{E0:List EI}{m0:FM}{D:List Nat}(hQ:∀σ' S' E' L' m' w',k σ'=some r->Mem.le S0 S'->ELe E0 E'->Agr D m0 m'->Rel n B S' E' L' σ' m' w'->Q .normal (fr n m') w'):∀(l:List Oper) {σ:St} {S:Mem} {E:List EI} {L:List Res} {m:FM} {w:World},(∀t,hasN (zuE l) t=true->hasN D t=true)->Mem.le S0 S->ELe E0 E->Agr D m0 m->Rel n B S E L σ m w->steps n τ Γ all l σ k=some r->wpList P all.toArray Q l (fr n m) w
 |[],σ,S,E,L,m,w,_,hS,hE,hA,R,h=>hQ _ _ _ _ _ _ h hS hE hA R|o::l,σ,S,E,L,m,w,hD,hS,hE,hA,R,h=>by
  have hD':∀t,hasN (zuE l) t=true->hasN D t=true:=fun t h=>hD t (yeA h);have hd':∀t,o.dst=some t->hasN D t=true:=fun t h=>hD t (yeE h);have doIt:∀{σ:St},Rel n B S E L σ m w->Region.wanted o (yielded all.toArray (fr n m).tmps)=true->(opF τ Γ σ o.op o.type fun x σ=>putD n o.dst x σ fun σ=>steps n τ Γ all l σ k)=some r->wpList P all.toArray Q (o::l) (fr n m) w:=fun {σ} R hw h=>by obtain⟨dst,op,ty,pos,aft,g⟩:=o;refine wl_do hw (opF_ok hτ hΓ R h) ?_;rintro v w' ⟨x,σ',S',E',L',h1,h2,h3,R',h4⟩;obtain⟨σ2,m2,h5,R2,h6,h7⟩:=ybY R' h4 h1;show wpList P all.toArray Q l ((fr n m).put dst v) w';rw[h6];exact ycM hτ hΓ hQ l hD' (Mem.le_trans hS h2) (hE.trans h3) (hA.trans (h7 D hd')) R2 h5
  have skip:∀{σ:St},Rel n B S E L σ m w->Region.wanted o (yielded all.toArray (fr n m).tmps)=false->(putD n o.dst .skp σ fun σ=>steps n τ Γ all l σ k)=some r->wpList P all.toArray Q (o::l) (fr n m) w:=fun {σ} R hw h=>by obtain⟨σ2,m2,h5,R2,h6,h7⟩:=ybY R (v:=undef) (x:=.skp) rfl h;refine wl_skip hw ?_;rw[h6];exact ycM hτ hΓ hQ l hD' hS hE (hA.trans (h7 D hd')) R2 h5
  unfold steps at h;split at h
  ·rename_i hg;exact doIt R (ztX hg) h
  ·rename_i j b hg;split at h
   ·rename_i d hd;split at h
    ·rename_i t ht;have hv:evO n m (.tmp d) = .bool t:=vB (by have:=R.sl d;rw[ht]at this;exact this);have hw:=yjC (o:=o) hg (ytX (m:=m) (n:=n) hd hv);have Rt:∀q:Bool,t=q->Rel n B S E L (σ.put d (.v .b q)) m w:=fun q hq=>R.re (by rw[hv,hq];exact bV q);cases t with
     |true=>
      cases b with
      |true=>exact doIt (Rt true rfl) hw h|false=>exact skip (Rt true rfl) hw h
     |false=>
      cases b with
      |true=>exact skip (Rt false rfl) hw h|false=>exact doIt (Rt false rfl) hw h
    ·rename_i ht;have hv:evO n m (.tmp d)=undef:=by have:=R.sl d;rw[ht]at this;exact this
     exact skip R (yqS hg (ytM (m:=m) (n:=n) hd hv)) h
    ·cases h
   ·cases h
end
section
variable {S:Mem}{E:List EI}
end
section
variable {β:Type}{τ:TE}{Γ:CT}{n nh:Nat}{P:Program}{B:Bas}{S:Mem}{E:List EI}{L:List Res}{σ:St}{m:FM}{W:World}{ops:Array Oper}{all:List Oper}{Φ:zkV}{vs:Nat->Gv}{D:List (Nat×Nat)}
def Inv(n:Nat)(S:Mem)(E:List EI)(W:World)(Φ:zkV)(vs:Nat->Gv)(sl:List (Nat×SV))(D:List (Nat×Nat))(m:FM):Prop:=∀t,match lkD D t with
 |none=>VR S E (lkS sl t) (evO n m (.tmp t))|some j=>relK Φ j=true/\∀w',zlZ Φ vs w' j->VR (gf S W (vs j).f w') E (lkS sl t) (evO n m (.tmp t))
theorem yzO:∀(D:List (Nat×Nat)) (d t:Nat),lkD (delD D d) t=if d=t then none else lkD D t
 |[],d,t=>by simp[delD,lkD]
 |(x,j)::D,d,t=>by
  have ih:=yzO D d t;unfold delD;cases hx:aG x d with
  |true=>
   have:=aB hx;subst this;simp only[zE,ih,lkD];by_cases h:x=t
   ·simp[h]
   ·rw[zH h,zH h];have:aG x t=false:=by rw[zsN];simp[h]
    rw[this];rfl
  |false=>
   simp only[zF,lkD,ih];cases hy:aG x t with
   |true=>
    have h1:=aB hy;subst h1;have h2:d≠x:=fun e=>by subst e;rw[zsN]at hx;simp at hx
    simp[h2]
   |false=>rfl
theorem ytE(deps:List Nat):∀(D:List (Nat×Nat)) (sl:List (Nat×SV)) (t:Nat),lkS (mask deps D sl) t = .undef∨(lkS (mask deps D sl) t=lkS sl t/\∀j,lkD D t=some j->hasN deps j=true)
 |[],sl,t=>.inr ⟨rfl,fun j h=>by cases h⟩|(d,j)::D,sl,t=>by
  unfold mask;cases hj:hasN deps j with
  |true=>
   rcases ytE deps D sl t with h|⟨h1,h2⟩
   ·exact .inl h
   ·refine .inr ⟨h1,fun j' h=>?_⟩;unfold lkD at h;cases hd:aG d t with
    |true=>rw[hd]at h;cases h;exact hj
    |false=>rw[hd]at h;exact h2 j' h
  |false=>
   simp only[zF,lkS];cases hd:aG d t with
   |true=>exact .inl rfl|false=>
    rcases ytE deps D sl t with h|⟨h1,h2⟩
    ·exact .inl h
    ·refine .inr ⟨h1,fun j' h=>?_⟩;unfold lkD at h;rw[hd]at h;exact h2 j' h
theorem Inv.rel{deps:List Nat}{w:World}(hH:HS B S W L)(hl:L.length=σ.hp.length)(hE:E.length=σ.hp.length)(ho:∀(i:Nat) o,σ.hp[i]? = some o->∃r e,L[i]? = some r/\E[i]? = some e/\OR S E o r e) (hI:Inv n S E W Φ vs σ.sl D m) (hx:Ext W w) (hF:zmL Φ vs w deps):Rel n B (gf S W (depF Φ vs deps) w) E L ⟨mask deps D σ.sl,σ.hp⟩ m w:=by
 have hle:Mem.le S (gf S W (depF Φ vs deps) w):=gf_le hH.sub;refine⟨hH.callF hx,hl,hE,fun i o h=>?_,fun t=>?_⟩
 ·obtain⟨r,e,h1,h2,h3⟩:=ho i o h;exact⟨r,e,h1,h2,h3.mono hle (ELe.refl E)⟩
 ·show VR _ E (lkS (mask deps D σ.sl) t) _;rcases ytE deps D σ.sl t with h|⟨h1,h2⟩
  ·rw[h];trivial
  ·rw[h1];have:=hI t;cases hd:lkD D t with
   |none=>rw[hd]at this;exact this.mono hle (ELe.refl E)|some j=>rw[hd]at this;obtain⟨h3,h4⟩:=this;have h5:=h2 j hd;rw[yyW]at h5;exact(h4 w (ylG hF j h5)).mono (dep_le h5 h3) (ELe.refl E)
theorem Inv.put{d:Nat}{x:SV}{v:Value}(hI:Inv n S E W Φ vs σ.sl D m)(hd:cV d n=true)(hx:VR S E x v):Inv n S E W Φ vs (σ.put d x).sl (delD D d) ((d,v)::m):=fun t=>by
 have:=hI t;rw[yzO];show match (if d=t then none else lkD D t) with
  |none=>VR S E (bif aG d t then x else lkS σ.sl t) (bif cV t n then(bif aG d t then v else look m t)else undef)|some j=>relK Φ j=true/\∀w',zlZ Φ vs w' j->VR (gf S W (vs j).f w') E (bif aG d t then x else lkS σ.sl t) (bif cV t n then(bif aG d t then v else look m t)else undef)
 by_cases h:d=t
 ·subst h;rw[zI rfl];simp only[fB,zE,hd];exact hx
 ·rw[zH h];have hb:aG d t=false:=by rw[zsN];simp[h]
  simp only[hb,zF];exact this
theorem Inv.re{d:Nat}{x:SV}(hI:Inv n S E W Φ vs σ.sl D m)(hd:lkD D d=none)(hx:VR S E x (evO n m (.tmp d))):Inv n S E W Φ vs (σ.put d x).sl D m:=fun t=>by
 have:=hI t;show match lkD D t with
  |none=>VR S E (bif aG d t then x else lkS σ.sl t) _|some j=>relK Φ j=true/\∀w',zlZ Φ vs w' j->VR (gf S W (vs j).f w') E (bif aG d t then x else lkS σ.sl t) _
 cases hb:aG d t with
 |true=>have:=aB hb;subst this;rw[hd];exact hx|false=>exact this
end
section
variable {β:Type}{τ:TE}{σ:St}{k:SV->Option β}
end
section
variable {β:Type}{τ:TE}{Γ:CT}{n nh:Nat}{P:Program}{B:Bas}{S:Mem}{E:List EI}{L:List Res}{σ:St}{m:FM}{W:World}{ops:Array Oper}{all:List Oper}{Φ:zkV}{vs:Nat->Gv}{D:List (Nat×Nat)}
theorem yuG{S':Mem}{E':List EI}{x:SV}{u:Value}(hp:yfD x=true)(h:VR S E x u)(hS:Mem.le S S'):VR S' E' x u:=by
 cases x with
 |v t x=>exact(rpD t).mono h hS|nils=>exact h|nilp=>exact h|emp=>have h:VB S E .emp u:=h;exact(⟨h.1.mono hS,h.2⟩:VB S' E' .emp u)|cl e xs=>have h:VB S E (.cl e xs) u:=h;exact(⟨h.1.mono hS,h.2⟩:VB S' E' (.cl e xs) u)|rm e n xs=>have h:VB S E (.rm e n xs) u:=h;obtain⟨v,h1,h2⟩:=h;exact(⟨v,h1.mono hS,h2⟩:VB S' E' (.rm e n xs) u)
 |rp t x off=>obtain⟨b,o,us,e,h1,h2⟩:=h;exact⟨b,o,us,e,h1.mono hS,(rpD t).mono h2 hS⟩
 |_=>cases hp
theorem HS.frame{B:Bas}{S S':Mem}{w w':World}{L L':List Res}(H:HS B S w L)(H':HS B S' w' L')(hS:Mem.le S S'){I:List Nat}(hf:∀i,hasN I i=false->i<L.length->lkR L' i=lkR L i):HS B S w' (zyN I 0 L):=by
 have key:∀i q,lkR (zyN I 0 L) i=some q->q=ybA∨(lkR L i=some q/\lkR L' i=some q):=fun i q h=>by
  rw[zbZ,ydE,aV]at h;cases hl:L[i]? with
  |none=>rw[hl]at h;cases h
  |some r=>
   rw[hl]at h;simp only[bO,Option.some.injEq]at h;cases hi:hasN I i with
   |true=>rw[hi]at h;exact .inl h.symm|false=>
    rw[hi]at h;have h:r=q:=h;subst h;have h2:lkR L i=some r:=by rw[zbZ];exact hl
    exact .inr ⟨h2,by rw[hf i hi (aD.1 hl).1];exact h2⟩
 refine⟨H'.fr,fun b o e=>H'.sub b o (hS b o e),H.keep,fun i q h=>?_,fun i q b h hb=>?_,fun i j q s b hi hj hq hs=>?_⟩
 ·rcases key i q h with rfl|⟨_,h⟩
  ·exact .inl ⟨rfl,rfl,rfl,rfl⟩
  ·exact H'.own i q h
 ·rcases key i q h with rfl|⟨h,_⟩
  ·cases hb
  ·exact H.old i q b h hb
 ·rcases key i q hi with rfl|⟨h1,_⟩
  ·cases hq
  ·rcases key j s hj with rfl|⟨h2,_⟩
   ·cases hs
   ·exact H.inj i j q s b h1 h2 hq hs
theorem xeE{S:Mem}{E:List EI}{I:List Nat}{x:SV}{u:Value}(hx:okC0 I x=true)(h:VC S (zoV I 0 E) x u):VC S E x u:=by
 have at_:∀{id e},(!(hasN I id))=true->(zoV I 0 E)[id]? = some e->E[id]? = some e:=fun {id e} hi h1=>by
  have hi:hasN I id=false:=by cases hh:hasN I id with
   |true=>rw[hh]at hi;cases hi
   |false=>rfl
  rw[ygO,aV,hi]at h1;cases hE:E[id]? with
  |none=>rw[hE]at h1;cases h1
  |some e'=>rw[hE]at h1;have h1:e'=e:=osi h1;subst h1;rfl
 unfold okC0 at hx;split at hx
 ·rename_i id off;obtain⟨b,hu,e,h1,h2⟩:=(show VB S (zoV I 0 E) (.ptr id off) u from h);exact(⟨b,hu,e,at_ hx h1,h2⟩:VB S E (.ptr id off) u)
 ·rename_i id ver;obtain⟨hu,e,h1,h2⟩:=(show VB S (zoV I 0 E) (.own id ver) u from h);exact(⟨hu,e,at_ hx h1,h2⟩:VB S E (.own id ver) u)
 ·rename_i id;obtain⟨hu,e,h1,h2⟩:=(show VB S (zoV I 0 E) (.mpr id) u from h);exact(⟨hu,e,at_ hx h1,h2⟩:VB S E (.mpr id) u)
 ·rename_i id ver i off;obtain⟨hu,e,h1,h2⟩:=(show VB S (zoV I 0 E) (.ep id ver i off) u from h);exact(⟨hu,e,at_ hx h1,h2⟩:VB S E (.ep id ver i off) u)
 ·rename_i id ver;obtain⟨hu,e,h1,h2⟩:=(show VB S (zoV I 0 E) (.fs id ver) u from h);exact(⟨hu,e,at_ hx h1,h2⟩:VB S E (.fs id ver) u)
 ·rename_i id ver i;obtain⟨hu,e,h1,h2⟩:=(show VB S (zoV I 0 E) (.fe id ver i) u from h);exact(⟨hu,e,at_ hx h1,h2⟩:VB S E (.fe id ver i) u)
 ·rename_i id i off;obtain⟨hu,e,h1,h2⟩:=(show VB S (zoV I 0 E) (.fp id i off) u from h);exact(⟨hu,e,at_ hx h1,h2⟩:VB S E (.fp id i off) u)
 ·exact((yuG hx (VR.ofC h) (Mem.le_refl S)).b (by cases x<;>first|rfl|cases hx)).b (by cases x<;>first|rfl|cases hx)
theorem yzS{I:List Nat}{x:SV}(h:okC0 I x=true):nofn x=true:=by cases x<;>first|rfl|cases h
theorem xbM{S:Mem}{E:List EI}{I:List Nat}{x:SV}{u:Value}(hx:okC0 I x=true)(h:VB S (zoV I 0 E) x u):VB S E x u:=(xeE hx h.c).b (yzS hx)
theorem yuA{S:Mem}{E:List EI}{I:List Nat}:∀{l:List SV} {us:LV},l.all (okC0 I)=true->A2 (VB S (zoV I 0 E)) l us->A2 (VB S E) l us
 |_,_,_,.nil=>.nil|_,_,hp,.cons a t=>by simp only[cI,aF]at hp;exact .cons (xbM hp.1 a) (yuA hp.2 t)
theorem VA_okA0{S:Mem}{E:List EI}{I:List Nat}{x:SV}{u:Value}(hx:okA0 I x=true)(h:VA (VB S (zoV I 0 E)) x u):VA (VB S E) x u:=by
 unfold okA0 at hx;split at hx
 ·obtain⟨us,h1,h2⟩:=h;exact⟨us,h1,yuA hx h2⟩
 ·rename_i hn;have hg:noag x=true:=by cases x<;>first|rfl|exact absurd rfl (hn _)
  exact VA.of (xbM hx (h.b hg)) hg
theorem ymE{S:Mem}{E:List EI}{I:List Nat}:∀{l:List SV} {us:LV},l.all (okA0 I)=true->A2 (VA (VB S (zoV I 0 E))) l us->A2 (VA (VB S E)) l us
 |_,_,_,.nil=>.nil|_,_,hp,.cons a t=>by simp only[cI,aF]at hp;exact .cons (VA_okA0 hp.1 a) (ymE hp.2 t)
theorem VC_okC{S:Mem}{E:List EI}{I:List Nat}{x:SV}{u:Value}(hx:okC I x=true)(h:VC S (zoV I 0 E) x u):VC S E x u:=by
 unfold okC at hx;split at hx
 ·obtain⟨us,ws,hu,h1,h2⟩:=h;rw[aF]at hx;exact⟨us,ws,hu,ymE hx.1 h1,ymE hx.2 h2⟩
 ·exact xeE hx h
theorem xeZ{S:Mem}{E:List EI}{I:List Nat}:∀{l:List SV} {us:LV},l.all (okC I)=true->A2 (VC S (zoV I 0 E)) l us->A2 (VC S E) l us
 |_,_,_,.nil=>.nil|_,_,hp,.cons a t=>by simp only[cI,aF]at hp;exact .cons (VC_okC hp.1 a) (xeZ hp.2 t)
theorem VA_okA{S:Mem}{E:List EI}{I:List Nat}{x:SV}{u:Value}(hx:okA I x=true)(h:VA (VC S (zoV I 0 E)) x u):VA (VC S E) x u:=by
 unfold okA at hx;split at hx
 ·rename_i l;obtain⟨us,h1,h2⟩:=h;exact⟨us,h1,xeZ hx h2⟩
 ·rename_i hn;have hg:noag x=true:=by cases x<;>first|rfl|exact absurd rfl (hn _)
  exact VA.of (VC_okC hx (h.b hg)) hg
theorem xcZ{S:Mem}{E:List EI}{I:List Nat}:∀{l:List SV} {us:LV},l.all (okA I)=true->A2 (VA (VC S (zoV I 0 E))) l us->A2 (VA (VC S E)) l us
 |_,_,_,.nil=>.nil|_,_,hp,.cons a t=>by simp only[cI,aF]at hp;exact .cons (VA_okA hp.1 a) (xcZ hp.2 t)
theorem VR_okF{S:Mem}{E:List EI}{I:List Nat}{x:SV}{u:Value}(hx:okF I x=true)(h:VR S (zoV I 0 E) x u):VR S E x u:=by
 unfold okF at hx;split at hx
 ·rename_i l;obtain⟨us,h1,h2⟩:=(show ∃us,u = .tuple us.toArray/\A2 (VA (VC S (zoV I 0 E))) l us from h);exact(⟨us,h1,xcZ hx h2⟩:VR S E (.tup l) u)
 ·rename_i hn;have hu:notu x=true:=by cases x<;>first|rfl|exact absurd rfl (hn _)|cases hx
  exact VR.of (VA_okA hx (h.b hu))
theorem Ok1.twoF{o:Oper}{I:List Nat}{k:SV->St->Option β}{r:β}{w:World}(R:Rel n B S E L σ m w)(h:Ok1 P S E (evO n m) o (fun x=>k x σ) r (fun w'=>HS B S w' L)):outcome P (Post2F n B S E L I m k r) ((execOp (evO n m) o).run P w):=by obtain⟨z,u,h1,h2,h3⟩:=h;rw[h3 w R.hs];exact⟨z,σ,S,E,L,h1,Mem.le_refl _,ELe.refl _,R,h2,fun _ _ _=>rfl⟩
theorem op2_pure{o:Op}{T:TypeId}{k:SV->St->Option β}(h:(mvOp o||memOp o)=true):op2 τ Γ σ o T k=op1 τ σ o fun x=>k x σ:=by
 cases o with
 |call c=>
  unfold mvOp memOp at h;simp only[Bool.false_or]at h;split at h
  all_goals first
   |(rename_i e;cases e;done)
   |cases h
   |skip
  all_goals (rename_i e;cases e;rfl)
 |_=>first|rfl|cases h
theorem storeF{T:TypeId}{f:TI}{a x:Operand}{I:List Nat}{id off:Nat}{B':TypeId}{cs:List SV}{sv:SV}{k:SV->St->Option β}{r:β}{w:World}{dst:Option Tmp}{g:Option (Nat×Bool)}{ty:TypeId}{pos:String}{aft:Array Edge}(hi:hasN I id=true)(hT:TIok P T f)(R:Rel n B S E L σ m w)(ha:VR S E (.ptr id off) (evO n m a))(hx:VR S E sv (evO n m x))(hc:atN σ.hp id=some (.blk B' cs)) (hb:(aG (cellL sv).length f.sz&&cK (off+f.sz) cs.length&&notu sv)=true) (h:k .undef ⟨σ.sl,setN σ.hp id (.blk B' (layS cs off (cellL sv)))⟩=some r):
  outcome P (Post2F n B S E L I m k r) ((execOp (evO n m) ⟨dst,.store T a x,ty,pos,aft,g⟩).run P w):=by
 obtain⟨r0,e0,h1,h2,b,us,rfl,rfl,h3⟩:=R.objN hc;obtain⟨b1,hu,e1,h4,h5⟩:=ha;rw[h2]at h4;cases h4;cases h5 _ rfl;obtain⟨h6,h7⟩:=ygM (hx.b (zbR hb));have h8:=aB (zbH (zbH hb));have h9:=bJ (zbR (zbH hb));obtain⟨w',h10,h11⟩:=ynR (g:=g) (ty:=ty) (pos:=pos) (aft:=aft) (P:=P) hT.tsz R.hs hu h1 rfl h7 (by rw[<-h6.len,h8]) (VC.ones h6) (by rw[<-h3.len,gD];exact h9);have h10':(execOp (evO n m) ⟨dst,.store T a x,ty,pos,aft,g⟩).run P w = .ok .skip w':=h10;rw[h10'];refine⟨_,_,S,E,_,h,Mem.le_refl _,ELe.refl _,R.upd1 h2 h11 ⟨b,_,rfl,rfl,yhP off h3 h6⟩,trivial,fun j hj _=>zdU fun e=>?_⟩;subst e;rw[hi]at hj;cases hj
theorem op2P_ok{o:Op}{T:TypeId}{I:List Nat}{k:SV->St->Option β}{r:β}{w:World}{dst:Option Tmp}{g:Option (Nat×Bool)}{pos:String}{aft:Array Edge}(hτ:TEok P τ)(R:Rel n B S E L σ m w)(ho:okP I σ o=true)(h:op2 τ Γ σ o T k=some r):
  outcome P (Post2F n B S E L I m k r) ((execOp (evO n m) ⟨dst,o,T,pos,aft,g⟩).run P w):=by
 have pure:(mvOp o||memOp o)=true->outcome P (Post2F n B S E L I m k r) ((execOp (evO n m) ⟨dst,o,T,pos,aft,g⟩).run P w):=fun hp=>by rw[op2_pure hp]at h;exact Ok1.twoF R (ywJ hτ R h)
 cases o with
 |store T' a x=>
  simp only[op2]at h;simp only[okP]at ho;cases hea:ev σ a with
  |none=>rw[hea]at ho;cases ho
  |some sa=>
   rw[hea]at ho h;cases sa with
   |ptr id off=>
    split at h
    ·rename_i f id' off' sv hT ha' hx;cases ha';split at h
     ·rename_i B' cs hc;obtain⟨hb,h⟩:=zaG h;exact storeF ho (hτ _ _ hT) R (zcT R hea) (zcT R hx) hc hb h
     ·cases h
    ·cases h
   |_=>cases ho
 |_=>exact pure ho
theorem ykJ{x:Operand}{ash:List Operand}{at_:Array TypeId}{f:Nat}{xs:List SV}{I:List Nat}{k:SV->St->Option β}{r:β}{w:World}{dst:Option Tmp}{g:Option (Nat×Bool)}{ty:TypeId}{pos:String}{aft:Array Edge}(R:Rel n B S E L σ m w)(hx:zyS σ x ash=some (f,xs)):∀{l:List SC},(∀c∈l,SCB P B f c)->ylP I σ x ash xs k l=some r ->
  outcome P (Post2F n B S E L I m k r) ((execOp (evO n m) ⟨dst,.call ⟨.value x,ash.toArray,at_⟩,ty,pos,aft,g⟩).run P w)
 |[],_,h=>by cases h
 |c::l,hc,h=>by
  unfold ylP at h;cases hb:(aG xs.length c.I.sl.length&&(yvS (c.I.need 0 ⟨argS 0 xs,σ.hp⟩)&&xdX I c.I.hp (c.I.rho 0 ⟨argS 0 xs,σ.hp⟩))&&(c.I.get1 (c.I.rho 0 ⟨argS 0 xs,σ.hp⟩) ⟨argS 0 xs,σ.hp⟩).isSome) with
  |false=>rw[hb]at h;exact ykJ (at_:=at_) R hx (fun c' hc'=>hc c' (aL _ hc')) h|true=>rw[hb]at h;refine ziV (yxZ R hx (hc c aM) (zbH (zbR (zbH hb))) h) ?_;rintro v w' ⟨x,σ',S',E',L',h1,h2,h3,h4,h5,h6⟩;refine⟨x,σ',S',E',L',h1,h2,h3,h4,h5,fun i hi hlt=>?_⟩;rw[zbZ,zbZ,h6 i hlt (yqN hi 0 (zbR (zbR (zbH hb))))]
theorem ywF{o:Op}{T:TypeId}{I:List Nat}{k:SV->St->Option β}{r:β}{w:World}{dst:Option Tmp}{g:Option (Nat×Bool)}{pos:String}{aft:Array Edge}(hτ:TEok P τ)(hΓ:CTok P Γ B)(R:Rel n B S E L σ m w)(h:op2P τ Γ I σ o T k=some r):
  outcome P (Post2F n B S E L I m k r) ((execOp (evO n m) ⟨dst,o,T,pos,aft,g⟩).run P w):=by
 unfold op2P at h;cases ho:okP I σ o with
 |true=>rw[ho]at h;exact op2P_ok hτ R ho h|false=>
  rw[ho]at h;simp only[zF]at h;split at h
  ·rename_i x ash at_;split at h
   ·rename_i f xs hx;exact ykJ (ash:=ash.toList) (at_:=at_) R hx (fun c hc=>hΓ.sc f c hc) h
   ·cases h
  ·cases h
theorem yuV{f:Nat->Bool}:∀{n:Nat},yzD n f=true->∀i,i<n->f i=true
 |n+1,h,i,hi=>by
  unfold yzD at h;by_cases e:i=n
  ·subst e;exact zbH h
  ·exact yuV (zbR h) i (by omega)
theorem ydL{t:Nat}:∀{l:List Oper},hasN (zuE l) t=true↔∃o∈l,o.dst=some t
 |[]=>by simp[zuE,hasN]
 |o::l=>by
  have ih:=ydL (t:=t) (l:=l);unfold zuE;cases hd:o.dst with
  |none=>simp[ih,hd]|some d=>simp only[hasN,Bool.or_eq_true,ih,zsN,zD,aK,exists_eq_or_imp,hd,Option.some.injEq]
end
section
variable {B:Bas}{S S':Mem}{w w':World}{L A:List Res}
theorem HS.home(H:HS B S w L)(H':HS ⟨S,zcD L,w⟩ S' w' A):HS B S' w' A:=
 HS.back H H' (fun _ h=>h) (fun i _ hi=>.inr (.inl ⟨i,hi⟩)) H'.inj
theorem HS.cons(H:HS B S w L){r:Res}(hr:r.holds w)(hn:∀b,r.has b->B.w0.heap.size<=b/\S b=none/\b∉zcD L):HS B S w (r::L):=by
 have away:∀{i q b},lkR L i=some q->q.has b->r.has b->False:=fun {i q b} hi hq hr=>(hn b hr).2.2 (zgD.2 ⟨i,q,hi,hq⟩);refine⟨H.fr,H.sub,H.keep,fun k q hk=>?_,fun k q b hk hb=>?_,fun i j q s b hi hj h1 h2=>?_⟩
 ·cases k with
  |zero=>cases hk;exact hr
  |succ k=>exact H.own k q hk
 ·cases k with
  |zero=>cases hk;exact⟨.inl (hn b hb).1,(hn b hb).2.1⟩
  |succ k=>exact H.old k q b hk hb
 ·cases i with
  |zero=>
   cases j with
   |zero=>rfl|succ j=>cases hi;exact(away hj h2 h1).elim
  |succ i=>
   cases j with
   |zero=>cases hj;exact(away hi h1 h2).elim
   |succ j=>rw[H.inj i j q s b hi hj h1 h2]
end
theorem ynF{W:List Nat}{i:Nat}(h:hasN W i=false):∀{l:List Nat},allN W l=true->hasN l i=false
 |[],_=>rfl|x::l,hl=>by
  unfold allN at hl;unfold hasN;rw[ynF h (zbR hl),Bool.or_false];cases hb:aG x i with
  |false=>rfl|true=>rw[aB hb,h]at hl;cases (zbH hl)
section
variable {β:Type}{τ:TE}{Γ:CT}{n:Nat}{P:Program}{B:Bas}{S:Mem}{E:List EI}{L:List Res}{σ:St}{m:FM}{w:World}
theorem CTok.lend(h:CTok P Γ B)(H:HS B S w L):CTok P Γ ⟨S,zcD L,w⟩:=by have at_:∀{S1 w1},At ⟨S,zcD L,w⟩ S1 w1->At B S1 w1:=fun⟨S2,L2,hle,H2⟩=>⟨S2,L2,hle,HS.home H H2⟩;exact⟨fun f c hc=>⟨(h.pc f c hc).fn,fun S w us a y hA=>(h.pc f c hc).ok S w us a y (at_ hA)⟩,fun f c hc=>⟨(h.sc f c hc).fn,fun S w us E L a d hA=>(h.sc f c hc).ok S w us E L a d (at_ hA)⟩⟩
theorem fopK_ok{o:Op}{W:List Nat}{k:SV->Option β}{r:β}{dst:Option Tmp}{ty:TypeId}{pos:String}{aft:Array Edge}{g:Option (Nat×Bool)}(hτ:TEok P τ)(R:Rel n B S E L σ m w)(h:fopS τ W σ o k=some r):
  Ok1 P S E (evO n m) ⟨dst,o,ty,pos,aft,g⟩ k r (fun w=>HS B S w (zyN W 0 L)):=by
 unfold fopS at h;cases hm:mvOp0 o with
 |true=>rw[hm]at h;simp only[zE]at h;exact op0_ok hτ (fun x a hx=>zcT R hx) h|false=>rw[hm]at h;simp only[zF]at h;obtain⟨z,u,h1,h2,h3⟩:=ywJ (dst:=dst) (ty:=ty) (pos:=pos) (aft:=aft) (g:=g) hτ (R.kill W) h;obtain⟨hok,h1⟩:=zaG h1;exact⟨z,u,h1,VR_okF hok h2,h3⟩
def LateD(S:Mem)(E:List EI):AO->Value->Nat->Obj->Prop
 |.blk T cs,v,k,x=>v = .pointer (some ⟨k,0,none⟩)/\∃us:LV,x = .cells us.toArray T (0,0)/\A2 (VC S E) cs us|.osl ver e T xs,v,k,x=>ver=0/\v=sl k 0 xs.length xs.length/\∃cs:LV,x = .cells cs.toArray T (0,0)/\cs.length=xs.length*tsz e/\RL S cs xs|_,_,_,_=>False
theorem LateD.mono{S':Mem}{E':List EI}(hS:Mem.le S S')(hE:ELe E E'){o:AO}{v:Value}{k:Nat}{x:Obj}(h:LateD S E o v k x):LateD S' E' o v k x:=by
 cases o with
 |blk T cs=>obtain⟨h1,us,h2,h3⟩:=h;exact⟨h1,us,h2,h3.imp fun _ _=>VC.mono hS hE⟩
 |osl ver e T xs=>obtain⟨h0,h1,cs,h2,h3,h4⟩:=h;exact⟨h0,h1,cs,h2,h3,h4.mono hS⟩
 |_=>exact h.elim
theorem LateD.adopt(R:Rel n B S E L σ m w){o:AO}{v:Value}{k:Nat}{x:Obj}(h:LateD S E o v k x)(h1:k∉zcD L)(h2:S k=none)(h3:B.w0.heap.size<=k):∃r e,(∀b,r.has b->k=b)/\(∀w',w'.heap[k]? = some x->r.holds w') /\(∀w',HS B S w' L->w'.heap[k]? = some x->Rel n B S (E++[e]) (L++[r]) ⟨σ.sl,σ.hp++[o]⟩ m w')/\VR S (E++[e]) (aoV σ.hp.length o) v:=by
 cases o with
 |blk T cs=>
  obtain⟨rfl,us,rfl,hu⟩:=h;refine⟨.blk k us T,.blk k,fun b hb=>(by cases hb;rfl),fun w' hw=>hw,fun w' H hw=>?_,?_⟩
  ·exact(R.to H).snoc (HS.cons H hw fun b hb=>by cases hb;exact⟨h3,h2,h1⟩) ⟨k,us,rfl,rfl,hu.imp fun _ _=>VC.mono (Mem.le_refl _) (ELe.push E _)⟩
  ·exact⟨k,rfl,.blk k,(by rw[<-R.lE];simp:(E++[EI.blk k])[σ.hp.length]? = some (EI.blk k)),fun b' hb=>by cases hb;rfl⟩
 |osl ver e T xs=>
  obtain⟨rfl,rfl,cs,rfl,hl,hr⟩:=h;have hold:∀w',w'.heap[k]? = some (Obj.cells cs.toArray T (0,0))->(Res.osl (sl k 0 xs.length xs.length) xs.length (tsz e) cs [] T).holds w':=fun w' hw=>.inr ⟨k,xs.length,(0,0),rfl,aI _,hl,by rw[bK];exact Nat.le_of_eq hl.symm,by rw[bK];exact hw,.inl rfl⟩;refine⟨.osl (sl k 0 xs.length xs.length) xs.length (tsz e) cs [] T,.osl 0 (sl k 0 xs.length xs.length) (tsz e),fun b hb=>(by cases hb;rfl),hold,fun w' H hw=>?_,?_⟩
  ·exact(R.to H).snoc (e:=.osl 0 (sl k 0 xs.length xs.length) (tsz e)) (o:=.osl 0 e T xs) (HS.cons H (hold w' hw) fun b hb=>by cases hb;exact⟨h3,h2,h1⟩) ⟨_,_,cs,[],rfl,rfl,hr,.inl rfl⟩
  ·exact⟨rfl,.osl 0 (sl k 0 xs.length xs.length) (tsz e),(by rw[<-R.lE];simp:(E++[EI.osl 0 (sl k 0 xs.length xs.length) (tsz e)])[σ.hp.length]? = some (EI.osl 0 (sl k 0 xs.length xs.length) (tsz e))),fun r' v' s' hq=>by cases hq;exact⟨aI _,fun _=>rfl⟩⟩
 |_=>exact h.elim
theorem lateO_ok{o:Op}{ao:AO}{dst:Option Tmp}{ty:TypeId}{pos:String}{aft:Array Edge}{g:Option (Nat×Bool)}(hτ:TEok P τ)(R:Rel n B S E L σ m w)(h:lateO τ σ o=some ao)(w1:World):∃v k x w',(execOp (evO n m) ⟨dst,o,ty,pos,aft,g⟩).run P w1 = .ok (.value v) w'/\Ext w1 w'/\w1.heap.size<=k/\w'.heap[k]? = some x/\LateD S E ao v k x:=by
 unfold lateO at h;split at h
 ·rename_i T;split at h
  ·rename_i f hT;obtain⟨hb,h⟩:=zaG h;cases h;have hF:=hτ _ _ hT;have hcs:(zV f).cells.toList=f.z.map zc:=by
    rw[hF.cells (by
     cases ha:f.agg with
     |true=>exact .inl rfl|false=>rw[ha]at hb;exact .inr (aB hb))]
   refine⟨_,w1.heap.size,_,w1.alloc (.cells (f.z.map zc).toArray T),by simp[execOp,ykN hF.zero,<-hcs],Ext.alloc w1 _,aI _,zaQ w1 _,rfl,_,rfl,yeU hF.z⟩
  ·cases h
 ·rename_i T N ps;split at h
  ·rename_i E' z1 z2 z3 z4 hT;split at h
   ·rename_i f hf;obtain⟨hb,h⟩:=zaG h;split at h
    ·rename_i ys hys;cases h;obtain⟨ps⟩:=ps;have hb:=zbH hb;have hN:=aB (zbR (zbH hb));have hN:N=ps.length:=hN;subst hN;have hz:=aB (zbR (zbH (zbH hb)));have hTn:=yeQ ((hτ _ _ hT).sl rfl) (hτ _ _ hf) (zbH (zbH (zbH hb))) hz;have hE:=hτ _ _ hf;obtain⟨us,h1,h2,h3⟩:=xbA R hz (pre:=[]) (i:=0) (zl:=f.z.map zc) (N:=ps.length) hys (by simp) (by rw[List.length_map,hE.zl]) (by simp);simp only[List.nil_append]at h1;rw[hz]at h1;have hle:=bJ (zbR hb);have hrun:=yiO (P:=P) (w:=w1) (dst:=dst) (ty:=ty) (pos:=pos) (aft:=aft) (g:=g) hTn rfl h1 (by rw[gD,<-hz];omega);refine⟨_,w1.heap.size,_,_,hrun,Ext.alloc w1 _,aI _,zaQ w1 _,rfl,by rw[h3],us,rfl,?_,h2⟩;rw[h2.len];congr 1;exact zpS f.ty
    ·cases h
   ·cases h
  ·cases h
 ·cases h
section
variable {k:SV->St->Option β}{r:β}{dst:Option Tmp}{ty:TypeId}{pos:String}{aft:Array Edge}{g:Option (Nat×Bool)}
theorem xcK{W:List Nat}{i:Nat}:∀{l:List Nat},allN W l=true->hasN W i=false->hasN l i=false
 |[],_,_=>rfl|x::l,h,hi=>by
  unfold allN at h;unfold hasN;rw[xcK (zbR h) hi];cases hb:aG x i with
  |false=>rfl|true=>rw[aB hb,hi]at h;cases h
theorem pcK_ok{x:Operand}{ash:List Operand}{at_:Array TypeId}{I:List Nat}(hΓ:CTok P Γ B)(R:Rel n B S E L σ m w)(h:pcK Γ I σ x ash k=some (some r)):
  outcome P (Post2F n B S E L I m k r) ((execOp (evO n m) ⟨dst,.call ⟨.value x,ash.toArray,at_⟩,ty,pos,aft,g⟩).run P w):=by
 unfold pcK at h;split at h
 ·rename_i f xs hx;split at h
  ·rename_i c hc;have hc':=hΓ.pc _ _ hc;obtain⟨_,_,us0,hev0,hus0,hA0⟩:=ztO R hx;cases hs:c.rts.any yiY with
   |true=>
    rw[hs]at h;simp only[zE]at h;obtain⟨hI,h⟩:=zaG h;obtain⟨S1,E1,L1,h1,h2,R1,hF⟩:=ymK (xs.flatMap owns) R;split at h
    ·rename_i f' xs' hx';split at h
     ·rename_i a ha;have h:=osi h;obtain⟨y,hy,h⟩:=bnd h;obtain⟨first,cap,us,hev,hus,hA⟩:=ztO R1 hx';have hA2:=ygC (Mem.le_refl S1) zkG ha hA;refine zoD hc'.fn hev0 (by simpa using hus0) ?_;have:us=us0:=by rw[hev0]at hev;cases hev;rw[<-hus0,<-hus]
      subst this;exact(hc'.ok S1 w us a y ⟨S1,L1,Mem.le_refl _,R1.hs⟩ R1.hs.sub hA2 hy).mono fun e w' ⟨hx,v,he,hr⟩=>⟨v,he,_,_,gr S1 w w',E1,L1,h,Mem.le_trans h1 (ypO R1.hs.sub),h2,R1.call hx,yfZ hr.1 hr.2,fun i hi _=>hF i (xcK hI hi)⟩
     ·cases h
    ·cases h
   |false=>
    rw[hs]at h;simp only[zF]at h;split at h
    ·rename_i a ha;have h:=osi h;obtain⟨y,hy,h⟩:=bnd h;refine zoD hc'.fn hev0 (by simpa using hus0) ?_;have hA2:=ygC R.hs.sub R.own_ok ha hA0;exact(hc'.ok (zwE w) w us0 a y ⟨S,L,R.hs.sub,R.hs⟩ (subMem w) hA2 hy).mono fun e w' ⟨hx,v,he,hr⟩=>⟨v,he,_,_,gr S w w',E,L,h,ypO R.hs.sub,ELe.refl E,R.call hx,yfZ (ypU hs hr.1) hr.2,fun _ _ _=>rfl⟩
    ·cases h
  ·cases h
 ·cases h
theorem newOk_ok{o:Op}{T:TypeId}{I:List Nat}(hτ:TEok P τ)(R:Rel n B S E L σ m w)(ho:newOk I σ o=true)(h:op2 τ Γ σ o T k=some r):
  outcome P (Post2F n B S E L I m k r) ((execOp (evO n m) ⟨dst,o,ty,pos,aft,g⟩).run P w):=by
 unfold newOk at ho;split at ho
 ·rename_i T';simp only[op2]at h;split at h
  ·rename_i f hT;obtain⟨hb,h⟩:=zaG h;have hF:=hτ _ _ hT;have hcs:(zV f).cells.toList=f.z.map zc:=by
    rw[hF.cells (by
     cases ha:f.agg with
     |true=>exact .inl rfl|false=>rw[ha]at hb;exact .inr (aB hb))]
   obtain⟨w',b,h1,h2⟩:=ysS (dst:=dst) (ty:=ty) (pos:=pos) (aft:=aft) (g:=g) (e:=evO n m) R.hs hF.zero hcs;rw[h1];exact(ysY R h2 (yeU hF.z) h).sub fun _ _ _=>rfl
  ·cases h
 ·rename_i T' N ps;simp only[op2,op2b]at h;split at h
  ·rename_i E' z1 z2 z3 z4 hT;split at h
   ·rename_i f hf;obtain⟨hb,hq⟩:=zaG h;clear h;have h:=hq;clear hq;split at h
    ·rename_i ys hys;obtain⟨ps⟩:=ps;obtain⟨S1,E1,L1,hS1,hE1,R1,hL1⟩:=ymK (ztH σ (ps.map (·.2))) R;refine ziV (yoF (dst:=dst) (g:=g) (ty:=ty) (pos:=pos) (aft:=aft) R1 ((hτ _ _ hT).sl rfl) (hτ _ _ hf) (zbH (zbH (zbH hb))) (aB (zbR (zbH (zbH hb)))) (aB (zbR (zbH hb))) (bJ (zbR hb)) hys h) fun _ _ hp=>?_;obtain⟨x,σ',S',E',L',k1,k2,k3,k4,k5,k6⟩:=hp;exact⟨x,σ',S',E',L',k1,Mem.le_trans hS1 k2,hE1.trans k3,k4,k5,fun i hi hlt=>(k6 i rfl (by rw[R1.lL,ygP,<-R.lL];exact hlt)).trans (hL1 i (ynF hi ho))⟩
    ·cases h
   ·cases h
  ·cases h
 ·rename_i x y T1 T2;simp only[op2]at h;exact ziV (ypH (Γ:=Γ) hτ R h) fun _ _ hp=>hp.sub fun i hi _=>ynF hi ho
 ·cases ho
theorem ELe.len{E E':List EI}(h:ELe E E'){b:Nat}(hb:b<=E.length):b<=E'.length:=by
 cases b with
 |zero=>exact aZ _|succ b=>obtain⟨a,h1,_⟩:=h b _ (aO hb);exact(aD.1 h1).1
theorem op2K_ok{o:Op}{T:TypeId}{I:List Nat}(hτ:TEok P τ)(hΓ:CTok P Γ B)(R:Rel n B S E L σ m w)(h:op2K τ Γ I σ o T k=some r):
  outcome P (Post2F n B S E L I m k r) ((execOp (evO n m) ⟨dst,o,T,pos,aft,g⟩).run P w):=by
 unfold op2K at h;cases hu:yzD σ.hp.length (hasN I) with
 |true=>rw[hu]at h;refine ziV (opF_ok (T:=T) hτ hΓ R h) fun v w' ⟨x,σ',S',E',L',h1,h2,h3,h4,h5⟩=>⟨x,σ',S',E',L',h1,h2,h3,h4,h5,fun i hi hl=>?_⟩;rw[yuV hu i (by rw[<-R.lL];exact hl)]at hi;cases hi
 |false=>
 rw[hu]at h;cases ho:newOk I σ o with
 |true=>rw[ho]at h;exact newOk_ok (T:=T) hτ R ho h|false=>
  rw[ho]at h;simp only[zF]at h;split at h
  ·rename_i x ash as_;simp only[callK]at h;split at h
   ·rename_i r' hr;obtain⟨ash⟩:=ash;exact pcK_ok hΓ R (by rw[hr,h])
   ·exact ywF hτ hΓ R h
  ·exact ywF hτ hΓ R h
end
theorem yqX{r:β}{all:List Oper}{o:Oper}{doIt skip:St->Option β}(R:Rel n B S E L σ m w)(h:yvY all σ o.guard doIt skip=some r):(∃σ',Rel n B S E L σ' m w/\Region.wanted o (yielded all.toArray (fr n m).tmps)=true/\doIt σ'=some r)∨(∃σ',Rel n B S E L σ' m w/\Region.wanted o (yielded all.toArray (fr n m).tmps)=false/\skip σ'=some r):=by
 unfold yvY at h;split at h
 ·rename_i hg;exact .inl ⟨σ,R,ztX hg,h⟩
 ·rename_i j b hg;split at h
  ·rename_i d hd;split at h
   ·rename_i t ht;have hv:evO n m (.tmp d) = .bool t:=vB (by have:=R.sl d;rw[ht]at this;exact this);have hw:=yjC (o:=o) hg (ytX (m:=m) (n:=n) hd hv);have Rt:∀q:Bool,t=q->Rel n B S E L (σ.put d (.v .b q)) m w:=fun q hq=>R.re (by rw[hv,hq];exact bV q);cases t with
    |true=>
     cases b with
     |true=>exact .inl ⟨_,Rt true rfl,hw,h⟩|false=>exact .inr ⟨_,Rt true rfl,hw,h⟩
    |false=>
     cases b with
     |true=>exact .inr ⟨_,Rt false rfl,hw,h⟩|false=>exact .inl ⟨_,Rt false rfl,hw,h⟩
   ·rename_i ht;have hv:evO n m (.tmp d)=undef:=by have:=R.sl d;rw[ht]at this;exact this
    exact .inr ⟨_,R,yqS hg (ytM (m:=m) (n:=n) hd hv),h⟩
   ·cases h
  ·cases h
theorem HS.shrink{S':Mem}{w1 w':World}{L1 A:List Res}(H:HS B S w1 L1)(hS:Mem.le S S')(H':HS B S' w' A):HS B S w' A:=by
 refine⟨H'.fr,fun b o hb=>H'.sub b o (hS b o hb),H.keep,H'.own,fun k r b hk hb=>⟨(H'.old k r b hk hb).1,?_⟩,H'.inj⟩;cases h:S b with
 |none=>rfl|some o=>have:=hS b o h;rw[(H'.old k r b hk hb).2]at this;cases this
theorem HS.toJ{L0:List Res}{W:List Nat}(hfr:∀i,hasN W i=false->i<L0.length->lkR L i=lkR L0 i)(H:HS B S w L):HS B S w (zyN W 0 L0):=
 HS.part H fun i r hi=>by
  rw[zbZ,ydE,aV]at hi;cases hl:L0[i]? with
  |none=>rw[hl]at hi;cases hi
  |some r'=>
   rw[hl]at hi;simp only[bO,Option.some.injEq]at hi;cases hh:hasN W i with
   |true=>rw[hh]at hi;exact .inl hi.symm|false=>rw[hh]at hi;right;rw[hfr i hh (aD.1 hl).1,zbZ,hl,<-hi];rfl
def PnI(B:Bas)(S:Mem)(L:List Res)(Jp:Nat->World->Prop)(p:Nat×List Nat):Prop:=
 ∃S1 L1 w1,HS B S1 w1 L1/\Mem.le S1 S/\L1.length<=L.length/\(∀i,hasN p.2 i=false->i<L1.length->lkR L i=lkR L1 i)/\Jp p.1=fun w=>HS B S1 w (zyN p.2 0 L1)
theorem PnI.j{Jp:Nat->World->Prop}{p:Nat×List Nat}(h:PnI B S L Jp p){u:World}(hu:HS B S u L):Jp p.1 u:=by obtain⟨S1,L1,w1,h1,h2,h3,h4,h5⟩:=h;rw[h5];exact HS.shrink h1 h2 (HS.toJ h4 hu)
theorem PnI.next{Jp:Nat->World->Prop}{p:Nat×List Nat}{S':Mem}{L':List Res}(h:PnI B S L Jp p)(hS:Mem.le S S')(hl:L.length<=L'.length)(hf:∀i,hasN p.2 i=false->i<L.length->lkR L' i=lkR L i):PnI B S' L' Jp p:=by obtain⟨S1,L1,w1,h1,h2,h3,h4,h5⟩:=h;exact⟨S1,L1,w1,h1,Mem.le_trans h2 hS,Nat.le_trans h3 hl,fun i hi hlt=>by rw[hf i hi (by omega),h4 i hi hlt],h5⟩
theorem yuB{i:Nat}:∀{pn:List (Nat×List Nat)},pnNew i pn=true->∀p∈pn,p.1≠i
 |[],_,p,hp=>by cases hp
 |q::l,h,p,hp=>by
  unfold pnNew at h;rcases aK.1 hp with rfl|hp
  ·intro e;have:=zbH h;rw[e,fB]at this;cases this
  ·exact yuB (zbR h) p hp
theorem xeY{ops:Array Oper}{i:Nat}{W:List Nat}:∀{pn:List (Nat×List Nat)},pnOk ops i W pn=true->∀p∈pn,ancB ops i p.1=false->allN p.2 W=true
 |[],_,p,hp,_=>by cases hp
 |q::l,h,p,hp,ha=>by
  unfold pnOk at h;rcases aK.1 hp with rfl|hp
  ·have:=zbH h;rw[ha]at this;exact this
  ·exact xeY (zbR h) p hp ha
theorem ykG{ops:Array Oper}{i:Nat}:∀(pn:List (Nat×List Nat)),ytG ops i (pn.map (·.1))=(yeW ops i pn).map (·.1)
 |[]=>rfl|q::l=>by have ih:=ykG (ops:=ops) (i:=i) l;unfold ytG yeW at ih ⊢;simp only[List.map_cons,List.filter_cons];cases ancB ops i q.1<;>simp[ih]
theorem allN_not{W V:List Nat}{i:Nat}(h:allN V W=true)(hi:hasN V i=false):hasN W i=false:=ynF hi h
theorem HS.kp{w1:World}(H:HS B S w1 L):∀k,(k∈zcD L∨S k≠none∨k<B.w0.heap.size)->k<w1.heap.size:=fun k h=>by
 rcases h with h|h|h
 ·obtain⟨i,r,h1,h2⟩:=zgD.1 h;exact H.res_lt h1 h2
 ·exact Nat.lt_of_not_le fun hle=>h (H.sub.none hle)
 ·exact Nat.lt_of_lt_of_le h H.fr.size
theorem xbP{Jp:Nat->World->Prop}{i:Nat}{J:World->Prop}:updJ Jp i J i=J:=by unfold updJ;rw[zI rfl]
theorem updJ_ne{Jp:Nat->World->Prop}{i j:Nat}{J:World->Prop}(h:j≠i):updJ Jp i J j=Jp j:=by unfold updJ;rw[zH h]
theorem PnI.upd{Jp:Nat->World->Prop}{p:Nat×List Nat}{i:Nat}{J:World->Prop}(h:PnI B S L Jp p)(hi:p.1≠i):PnI B S L (updJ Jp i J) p:=by obtain⟨S1,L1,w1,h1,h2,h3,h4,h5⟩:=h;exact⟨S1,L1,w1,h1,h2,h3,h4,by rw[updJ_ne hi];exact h5⟩
theorem ybS{all:List Oper}{S0:Mem}{E0:List EI}{m0:FM}{D:List Nat}{k:St->Option β}{r:β}{Q:Exit->Act->World->Prop}(hτ:TEok P τ)(hΓ:CTok P Γ B)(hD:∀t,hasN (zuE all) t=true->hasN D t=true) (hQ:∀σ' S' E' L' m' w',k σ'=some r->Mem.le S0 S'->ELe E0 E'->Agr D m0 m'->Rel n B S' E' L' σ' m' w'->Q .normal (fr n m') w'):∀(s:SchW) (pd:List (Nat×AO)) (pn:List (Nat×List Nat)) {σ:St} {S:Mem} {E:List EI} {L:List Res} {m:FM} {w:World} {Dsc:Nat->Value->Nat->Obj->Prop} {Jp:Nat->World->Prop},Mem.le S0 S->ELe E0 E->Agr D m0 m->(∀p∈pn,PnI B S L Jp p)->Rel n B S E L σ m w->(∀i ao,lkP pd i=some ao->∃S1 E1,Mem.le S1 S/\ELe E1 E/\Dsc i=LateD S1 E1 ao)->schS n τ Γ all.toArray all s pd pn σ k=some r ->
  wpS P all.toArray Q (xfB s) Dsc Jp (pn.map (·.1)) (fun w=>HS B S w L) (fun b=>b∈zcD L∨S b≠none∨b<B.w0.heap.size) (fr n m)
 |[],pd,pn,σ,S,E,L,m,w,Dsc,Jp,hS,hE,hA,hpn,R,hp,h=>fun w1 hw=>hQ _ _ _ _ _ _ h hS hE hA (R.to hw)
 |(.pu,i,W)::s,pd,pn,σ,S,E,L,m,w,Dsc,Jp,hS,hE,hA,hpn,R,hp,h=>by
  simp only[schS]at h;split at h
  ·rename_i o ho;obtain⟨hnew,h⟩:=zaG h;have hoi:all.toArray[i]? = some o:=by rw[dU,<-zfR];exact ho
   have hdd:∀t,o.dst=some t->hasN D t=true:=fun t ht=>hD t (ydL.2 ⟨o,cA (by rw[<-zfR];exact ho),ht⟩)
   have hpn':∀p∈(i,W)::pn,PnI B S L (updJ Jp i fun w=>HS B S w (zyN W 0 L)) p:=fun p hp=>by
    rcases aK.1 hp with rfl|hp
    ·exact⟨S,L,w,R.hs,Mem.le_refl _,aI _,fun _ _ _=>rfl,xbP⟩
    ·exact(hpn p hp).upd (yuB hnew p hp)
   have hG:∀u,HS B S u L->HS B S u (zyN W 0 L):=fun u hu=>HS.toJ (fun _ _ _=>rfl) hu;rcases yqX R h with⟨σ',R',hw,h⟩|⟨σ',R',hw,h⟩
   ·obtain⟨dst,op,ty,pos,aft,g⟩:=o;obtain⟨z,u,h1,h2,h3⟩:=fopK_ok (dst:=dst) (ty:=ty) (pos:=pos) (aft:=aft) (g:=g) hτ R' h;obtain⟨σ2,m2,h5,R2,h6,h7⟩:=ybY R' h2 h1;refine⟨_,u,fun w=>HS B S w (zyN W 0 L),hoi,.inl ⟨hw,fun w1 hw1=>by rw[zpJ];exact h3 w1 hw1⟩,hG,?_⟩;show wpS P all.toArray Q (xfB s) Dsc _ _ _ _ ((fr n m).put dst u);rw[h6];exact ybS hτ hΓ hD hQ s pd ((i,W)::pn) hS hE (hA.trans (h7 D hdd)) hpn' R2 hp h5
   ·obtain⟨σ2,m2,h5,R2,h6,h7⟩:=ybY R' (v:=undef) (x:=.skp) rfl h;refine⟨o,undef,fun w=>HS B S w (zyN W 0 L),hoi,.inr ⟨hw,rfl⟩,hG,?_⟩;rw[h6];exact ybS hτ hΓ hD hQ s pd ((i,W)::pn) hS hE (hA.trans (h7 D hdd)) hpn' R2 hp h5
  ·cases h
 |(.la,i,W)::s,pd,pn,σ,S,E,L,m,w,Dsc,Jp,hS,hE,hA,hpn,R,hp,h=>by
  simp only[schS]at h;split at h
  ·rename_i o ho;have hoi:all.toArray[i]? = some o:=by rw[dU,<-zfR];exact ho
   split at h
   ·rename_i ao hg hl;refine⟨o,LateD S E ao,hoi,ztX hg,fun w1=>?_,?_⟩
    ·obtain⟨dst,op,ty,pos,aft,g⟩:=o;rw[zpJ];exact lateO_ok hτ R hl w1
    ·refine ybS hτ hΓ hD hQ s ((i,ao)::pd) pn hS hE hA hpn R (fun j bo hj=>?_) h;unfold lkP at hj;unfold updD;cases hij:aG i j with
     |true=>rw[hij]at hj;cases hj;rw[zI (aB hij).symm];exact⟨S,E,Mem.le_refl _,ELe.refl _,rfl⟩
     |false=>rw[hij]at hj;rw[zH fun e=>by rw[e,fB]at hij;cases hij];exact hp j bo hj
   ·cases h
  ·cases h
 |(.rv,i,W)::s,pd,pn,σ,S,E,L,m,w,Dsc,Jp,hS,hE,hA,hpn,R,hp,h=>by
  simp only[schS]at h;split at h
  ·rename_i o ao ho hpi;have hoi:all.toArray[i]? = some o:=by rw[dU,<-zfR];exact ho
   have hdd:∀t,o.dst=some t->hasN D t=true:=fun t ht=>hD t (ydL.2 ⟨o,cA (by rw[<-zfR];exact ho),ht⟩);obtain⟨S1,E1,g1,g2,g3⟩:=hp i ao hpi;refine⟨o,hoi,fun v kk x hD1 hK ⟨w2,hw2,hx2⟩=>?_⟩;rw[g3]at hD1;have hD1:=hD1.mono g1 g2;have hk1:kk∉zcD L:=fun h=>hK (.inl h);have hk2:S kk=none:=Classical.byContradiction fun h=>hK (.inr (.inl h));have hk3:B.w0.heap.size<=kk:=Nat.le_of_not_lt fun h=>hK (.inr (.inr h));obtain⟨q,e,a1,a2,a3,a4⟩:=hD1.adopt R hk1 hk2 hk3;have R2:=a3 w2 hw2 hx2;obtain⟨σ3,m3,h5,R3,h6,h7⟩:=ybY R2 a4 h;have hpn':∀p∈pn,PnI B S (L++[q]) Jp p:=fun p hp=>(hpn p hp).next (Mem.le_refl _) (by rw[aC];omega) fun j _ hj=>ygJ hj;refine⟨fun w=>HS B S w (L++[q]),fun b=>b∈zcD (L++[q])∨S b≠none∨b<B.w0.heap.size,fun w1 h1 h2=>(a3 w1 h1 h2).hs,fun j hj w1 h1=>?_,fun u u' h1 h2=>h1.ext h2,fun u h1=>HS.kp h1,fun b h1=>?_,?_⟩
   ·obtain⟨p,hp1,rfl⟩:=aR.1 hj;exact(hpn' p hp1).j h1
   ·rcases h1 with h1|h1
    ·obtain⟨t,q',t1,t2⟩:=zgD.1 h1;rw[zbZ]at t1;by_cases ht:t<L.length
     ·rw[aH ht]at t1;exact .inl (.inl (zgD.2 ⟨t,q',by rw[zbZ];exact t1,t2⟩))
     ·have:t=L.length:=by have:=(aD.1 t1).1;simp at this;omega
      subst this;simp at t1;subst t1;exact .inr (a1 _ t2).symm
    ·exact .inl (.inr h1)
   ·rw[h6]
    exact ybS hτ hΓ hD hQ s pd pn hS (hE.trans (ELe.push E _)) (hA.trans (h7 D hdd)) hpn' R3 (fun j bo hj=>by
     obtain⟨S2,E2,t1,t2,t3⟩:=hp j bo hj
     exact⟨S2,E2,t1,t2.trans (ELe.push E _),t3⟩) h5
  ·cases h
 |(.mn,i,W)::s,pd,pn,σ,S,E,L,m,w,Dsc,Jp,hS,hE,hA,hpn,R,hp,h=>by
  simp only[schS]at h;split at h
  ·rename_i o ho;obtain⟨hok,h⟩:=zaG h;have hoi:all.toArray[i]? = some o:=by rw[dU,<-zfR];exact ho
   have hdd:∀t,o.dst=some t->hasN D t=true:=fun t ht=>hD t (ydL.2 ⟨o,cA (by rw[<-zfR];exact ho),ht⟩);have hrest:∀p∈yeW all.toArray i pn,p∈pn/\ancB all.toArray i p.1=false:=fun p hp=>by have:=cH.1 hp;exact⟨this.1,by simpa using this.2⟩
   refine⟨o,hoi,fun w1 hw1=>?_⟩;rw[ykG];rcases yqX (R.to hw1) h with⟨σ',R',hw,h⟩|⟨σ',R',hw,h⟩
   ·left;refine⟨hw,?_⟩;obtain⟨dst,op,ty,pos,aft,g⟩:=o;rw[zpJ];have RL:Rel n ⟨S,zcD L,w1⟩ S E L σ' m w1:=⟨HS.lend hw1,R'.lL,R'.lE,R'.obj,R'.sl⟩;refine ziV (op2K_ok hτ (hΓ.lend hw1) RL h) ?_;rintro v w' ⟨x,σ2,S',E',L',h1,h2,h3,R2,h4,h5⟩;have Hh:=HS.home hw1 R2.hs;have RB:Rel n B S' E' L' σ2 m w':=⟨Hh,R2.lL,R2.lE,R2.obj,R2.sl⟩;obtain⟨σ3,m3,h6,R3,h7,h8⟩:=ybY RB h4 h1;have hlen:L.length<=L'.length:=by rw[R2.lL,<-R2.lE,R.lL,<-R.lE];exact ELe.len h3 (aI _)
    have hpn':∀p∈yeW all.toArray i pn,PnI B S' L' Jp p:=fun p hp=>by obtain⟨t1,t2⟩:=hrest p hp;exact(hpn p t1).next h2 hlen fun j hj hlt=>h5 j (allN_not (xeY hok p t1 t2) hj) hlt
    refine⟨fun u=>HS B S' u L',fun b=>b∈zcD L'∨S' b≠none∨b<B.w0.heap.size,fun j hj u hu=>?_,fun u u' t1 t2=>t1.ext t2,fun u t1=>HS.kp t1,Hh,fun b t1=>?_,fun b t1 t2=>R2.hs.fr.block b t1 fun t3=>t2 (.inl t3),?_⟩
    ·obtain⟨p,hp1,rfl⟩:=aR.1 hj;exact(hpn' p hp1).j hu
    ·rcases t1 with t1|t1|t1
     ·obtain⟨t,q',t2,t3⟩:=zgD.1 t1;rcases(R2.hs.old t q' b t2 t3).1 with t4|t4
      ·exact .inr t4
      ·exact .inl (.inl t4)
     ·by_cases hlt:b<w1.heap.size
      ·by_cases hX:b∈zcD L
       ·exact .inl (.inl hX)
       ·have:=R2.hs.keep b hlt hX;rw[this]at t1;exact .inl (.inr (.inl t1))
      ·exact .inr (Nat.le_of_not_lt hlt)
     ·exact .inl (.inr (.inr t1))
    ·show wpS P all.toArray Q (xfB s) Dsc _ _ _ _ ((fr n m).put dst v);rw[h7]
     exact ybS hτ hΓ hD hQ s pd (yeW all.toArray i pn) (Mem.le_trans hS h2) (hE.trans h3) (hA.trans (h8 D hdd)) hpn' R3 (fun j bo hj=>by
      obtain⟨S2,E2,t1,t2,t3⟩:=hp j bo hj
      exact⟨S2,E2,Mem.le_trans t1 h2,t2.trans h3,t3⟩) h6
   ·right;refine⟨hw,?_⟩;obtain⟨σ2,m2,h5,R2,h6,h7⟩:=ybY R' (v:=undef) (x:=.skp) rfl h;rw[h6];exact ybS hτ hΓ hD hQ s pd (yeW all.toArray i pn) hS hE (hA.trans (h7 D hdd)) (fun p hp=>hpn p (hrest p hp).1) R2 hp h5
  ·cases h
theorem xbC{l:List Oper}{k:St->Option β}{r:β}{Q:Exit->Act->World->Prop}{s:SchW}(hτ:TEok P τ)(hΓ:CTok P Γ B)(R:Rel n B S E L σ m w)(h:xdN n τ Γ s l.toArray σ k=some r) (hQ:∀σ' S' E' L' m' w',k σ'=some r->Mem.le S S'->ELe E E'->Agr (zuE l) m m'->Rel n B S' E' L' σ' m' w'->Q .normal (fr n m') w'):RegAny P l Q (fr n m) w:=by unfold xdN at h;obtain⟨hb,h⟩:=zaG h;have hw:=ybS (Q:=OnlyNormal Q) (S0:=S) (E0:=E) (m0:=m) (D:=zuE l) (Dsc:=fun _ _ _ _=>False) (Jp:=fun _ _=>True) hτ hΓ (fun _ h=>h) (fun σ' S' E' L' m' w' k1 k2 k3 k4 R1=>ynG (hQ σ' S' E' L' m' w' k1 k2 k3 k4 R1)) s [] [] (Mem.le_refl _) (ELe.refl _) (Agr.refl _ _) (fun p hp=>by cases hp) R (fun i ao hi=>by cases hi) h;exact xfR (zbH hb) (zbR hb) hw R.hs.drew (fun u u' h1 h2=>h1.ext h2) (fun u hu=>HS.kp hu)
theorem xeM{id:Nat}{l:List Oper}{w:World}{k:St->Option β}{r:β}{Q:Exit->Act->World->Prop}(hm:P.follows .mixedOrders=true)(hτ:TEok P τ)(hΓ:CTok P Γ B)(R:Rel n B S E L σ m w){η:HT}(h:xfM n τ Γ η id l.toArray σ k=some r) (hQ:∀σ' S' E' L' m' w',k σ'=some r->Mem.le S S'->ELe E E'->Agr (zuE l) m m'->Rel n B S' E' L' σ' m' w'->Q .normal (fr n m') w'):(Code.region id l.toArray true).wp P Q (fr n m) w:=by
 refine RegAny.wp hm ?_;unfold xfM at h;split at h
 ·exact xbC hτ hΓ R h hQ
 ·cases h
end
section
variable {β:Type}{τ:TE}{Γ:CT}{η:HT}{N0 n:Nat}{P:Program}{B:Bas}{S:Mem}{E:List EI}{L:List Res}{σ:St}{m:FM}{w:World}{ops:Array Oper}{Q:Exit->Act->World->Prop}{rest:List Oper}{o:Oper}
def exQ:Ex->Exit
 |.normal=>.normal|.exit i=>.exit i|.ret=>.ret
theorem zoJ{α γ:Type}{f:α->γ}{o:Option α}{y:γ}(h:mapO f o=some y):∃x,o=some x/\f x=y:=by
 cases o with
 |none=>cases h
 |some x=>cases h;exact⟨x,rfl,rfl⟩
theorem xaN{a:Option Nat}{e:Ex}(h:isEx a e=true):exOf a=e:=by
 cases a with
 |none=>cases e<;>first|rfl|cases h
 |some n=>
  cases e with
  |normal=>cases h
  |exit i=>
   have h1:=aB (zbH h);subst h1;have h2:=zbR h;cases hb:aG n 1000000 with
   |true=>rw[hb]at h2;cases h2
   |false=>simp only[exOf,hb,zF]
  |ret=>simp only[exOf,show aG n 1000000=true from h,zE]
theorem Agr.ev{D:List Nat}{m m':FM}(h:Agr D m m'){t:Nat}(ht:hasN D t=false):evO n m' (.tmp t)=evO n m (.tmp t):=by show(bif cV t n then look m' t else undef)=(bif cV t n then look m t else undef);rw[h t ht]
theorem ztV{S':Mem}{E':List EI}{m':FM}{D:List Nat}(R:Rel n B S E L σ m w)(hS:Mem.le S S')(hA:Agr D m m'):∀(kp:List Nat) (t:Nat),VR S' E' (lkS (zuP D σ kp) t) (evO n m' (.tmp t))
 |[],_=>trivial|d::kp,t=>by
  unfold zuP;cases hb:!(hasN D d)&&yfD (lkS σ.sl d) with
  |false=>exact ztV R hS hA kp t|true=>
   simp only[zE,lkS];cases hd:aG d t with
   |false=>exact ztV R hS hA kp t|true=>
    have:=aB hd;subst this;have h1:=zbH hb
    have h2:hasN D d=false:=by cases hh:hasN D d with
     |true=>rw[hh]at h1;cases h1
     |false=>rfl
    rw[hA.ev h2];exact yuG (zbR hb) (R.sl d) hS
theorem xdY:∀(a b:List (Nat×SV)) (t:Nat),lkS (a++b) t=lkS a t∨lkS (a++b) t=lkS b t
 |[],_,_=>.inr rfl|(d,x)::a,b,t=>by
  simp only[bG,lkS];cases aG d t with
  |true=>exact .inl rfl|false=>exact xdY a b t
theorem RelV.app{V:Nat->Value}(R:RelV B S E L σ V w){l:List (Nat×SV)}(h:∀t,VR S E (lkS l t) (V t)):RelV B S E L (σ.app l) V w:=
 ⟨R.hs,R.lL,R.lE,R.obj,fun t=>by
  show VR S E (lkS (σ.sl++l) t) _;rcases xdY σ.sl l t with e|e
  ·rw[e];exact R.sl t
  ·rw[e];exact h t⟩
theorem yqK:∀(os:List OSh) (l:List SV),Ver0 (ziJ os l)
 |[],l=>fun i ver e T xs h=>by cases l<;>(simp[ziJ]at h)
 |o::os,l=>by
  obtain⟨a,l',h,ha⟩:=ykO o os l;rw[h];intro i ver e T xs h;cases i with
  |zero=>simp at h;exact ha _ _ _ _ h|succ i=>exact yqK os l' i ver e T xs (by simpa using h)
theorem get_put{s:Shp}{x:zfB s.tys}(h:s.get N0 σ=some x):Ver0 (s.put x).hp/\N0<=(s.put x).hp.length:=by refine⟨yqK _ _,?_⟩;unfold Shp.get at h;obtain⟨h1,_⟩:=zaG h;show N0<=(ziJ s.hp _).length;rw[yqO];exact bJ (zbH h1)
theorem ybU{V:Nat->Value}(R:RelV B S E L σ V w){e:Ex}{kp:List (Nat×SV)}(hk:∀S' E',Mem.le S S'->∀t,VR S' E' (lkS kp t) (V t)):∀{outs:List (Option Nat×Shp)} {d:DS outs},inj N0 outs e σ=some d->∃S' E' L' σ',Mem.le S S'/\Pin N0 E E'/\RelV B S' E' L' σ' V w/\Ver0 σ'.hp/\N0<=σ'.hp.length/\∀{γ:Type} (k:Ex->St->Option γ),out kp outs d k=k e σ'
 |[],_,h=>by cases h
 |[a],d,h=>by obtain⟨h1,h2⟩:=zaG h;obtain⟨S',E',L',hS,hP,R'⟩:=ybJ R (fun l=>zlN l R) h2;obtain⟨h3,h4⟩:=get_put h2;refine⟨S',E',L',_,hS,hP,R'.app (hk S' E' hS),h3,h4,fun k=>?_⟩;show k (exOf a.1) _=_;rw[xaN h1]
 |a::b::l,d,h=>by
  have next:mapO Sum.inr (inj N0 (b::l) e σ)=some d->∃S' E' L' σ',Mem.le S S'/\Pin N0 E E'/\RelV B S' E' L' σ' V w/\Ver0 σ'.hp/\N0<=σ'.hp.length/\∀{γ:Type} (k:Ex->St->Option γ),out kp (a::b::l) d k=k e σ':=fun h=>by obtain⟨x,h1,rfl⟩:=zoJ h;exact ybU R hk (outs:=b::l) h1
  simp only[inj]at h;cases hb:isEx a.1 e with
  |true=>
   rw[hb]at h;simp only[zE]at h;split at h
   ·rename_i x h1;cases h;obtain⟨S',E',L',hS,hP,R'⟩:=ybJ R (fun l=>zlN l R) h1;obtain⟨h3,h4⟩:=get_put h1;refine⟨S',E',L',_,hS,hP,R'.app (hk S' E' hS),h3,h4,fun k=>?_⟩;show k (exOf a.1) _=_;rw[xaN hb]
   ·exact next h
  |false=>rw[hb]at h;exact next h
theorem HS.nil(H:HS B S w L)(sz:Nat)(T:TypeId):HS B S w (.osl (.slice none 0 0) 0 sz [] [] T::L):=by
 refine⟨H.fr,H.sub,H.keep,fun i q h=>?_,fun i q b h hb=>?_,fun i j q s b hi hj hq hs=>?_⟩
 ·cases i with
  |zero=>cases h;exact .inl ⟨rfl,rfl,rfl,rfl⟩
  |succ i=>exact H.own _ q h
 ·cases i with
  |zero=>cases h;cases hb
  |succ i=>exact H.old _ q b h hb
 ·cases i with
  |zero=>cases hi;cases hq
  |succ i=>
   cases j with
   |zero=>cases hj;cases hs
   |succ j=>rw[H.inj i j q s b hi hj hq hs]
theorem nl_ok{c:SV}{u:Value}(hc:isNl c=true)(hx:VR S E c u):Same S (.slice none 0 0) u 0/\u.oneCell'=true:=by
 cases c with
 |nils=>have hx:u = .slice none 0 0:=hx;subst hx;exact⟨.inl rfl,rfl⟩|emp=>have hx:VB S E .emp u:=hx;obtain⟨h1,a,rfl⟩:=hx;exact⟨.inr ⟨rfl,rfl,h1,a,rfl⟩,rfl⟩
 |_=>cases hc
theorem mk_new(R:Rel n B S E L σ m w){c:SV}{u:Value}(hc:isNl c=true)(hx:VR S E c u)(e:Ty)(T:TypeId):Rel n B S (E++[.osl 0 u (tsz e)]) (L++[.osl (.slice none 0 0) 0 (tsz e) [] [] T]) ⟨σ.sl,σ.hp++[.osl 0 e T []]⟩ m w/\VC S (E++[.osl 0 u (tsz e)]) (.own σ.hp.length 0) u:=by obtain⟨h1,h2⟩:=nl_ok hc hx;refine⟨R.snoc (HS.nil R.hs _ _) ⟨.slice none 0 0,u,[],[],rfl,rfl,rfl,h1⟩,h2,.osl 0 u (tsz e),by rw[<-R.lE];simp,fun r v s he=>?_⟩;cases he;exact⟨aI 0,fun _=>rfl⟩
theorem mk1_ok(R:Rel n B S E L σ m w)(x:Mk):∃S' E' L',Mem.le S S'/\ELe E E'/\Rel n B S' E' L' (mk1 σ x) m w:=by
 have same:∃S' E' L',Mem.le S S'/\ELe E E'/\Rel n B S' E' L' σ m w:=⟨S,E,L,Mem.le_refl _,ELe.refl _,R⟩;cases x with
 |sl d e T=>
  simp only[mk1];cases hn:isNl (lkS σ.sl d) with
  |false=>exact same|true=>obtain⟨R1,h1⟩:=mk_new R hn (R.sl d) e T;exact⟨S,_,_,Mem.le_refl _,ELe.push E _,R1.re (d:=d) (VR.ofC h1)⟩
 |cell d i e T=>
  simp only[mk1];split
  ·split
   ·rename_i id off hp _ T' cs hc;split
    ·rename_i c hi;cases hn:isNl c with
     |false=>exact same|true=>
      obtain⟨r0,e0,h1,h2,b,us,rfl,rfl,h3⟩:=R.objN hc;obtain⟨u,h4,h5⟩:=h3.at hi;obtain⟨R1,h6⟩:=mk_new R hn (VR.ofC h5) e T;have hlt:id<σ.hp.length:=by rw[<-R.lE];exact(aD.1 h2).1
      have h2':(E++[EI.osl 0 u (tsz e)])[id]? = some (.blk b):=by rw[aH (by rw[R.lE];exact hlt)];exact h2
      have h1':lkR (L++[Res.osl (.slice none 0 0) 0 (tsz e) [] [] T]) id=some (.blk b us T'):=by rw[zbZ,aH (by rw[R.lL];exact hlt),<-zbZ];exact h1
      have hst:stR (L++[Res.osl (.slice none 0 0) 0 (tsz e) [] [] T]) id (.blk b us T')=L++[Res.osl (.slice none 0 0) 0 (tsz e) [] [] T]:=by
       rw[zvL];apply bS;intro j;by_cases hj:id=j
       ·subst hj;rw[zbZ]at h1';rw[bB (aD.1 h1').1,h1']
       ·rw[bN hj]
      have h7:A2 (VC S (E++[EI.osl 0 u (tsz e)])) (setN cs i (.own σ.hp.length 0)) us:=by
       have h8:A2 (VC S (E++[EI.osl 0 u (tsz e)])) cs us:=h3.imp fun _ _ h=>h.mono (Mem.le_refl S) (ELe.push E _);have h9:=A2.set (a:=SV.own σ.hp.length 0) h6 i h8;have h10:us.set i u=us:=by
        apply bS;intro j;by_cases hj:i=j
        ·subst hj;rw[bB (aD.1 h4).1,h4]
        ·rw[bN hj]
       rw[zsJ];rw[h10]at h9;exact h9
      exact⟨S,_,_,Mem.le_refl _,ELe.push E _,R1.upd1 (r':=.blk b us T') h2' (by rw[hst];exact R1.hs) ⟨b,us,rfl,rfl,h7⟩⟩
    ·exact same
   ·exact same
  ·exact same
 |qu d=>
  simp only[mk1];split
  ·rename_i id ver hv;split
   ·rename_i ver' e T x0 xs hc;cases hb:aG ver ver' with
    |false=>exact same|true=>
     have:=aB hb;subst this;obtain⟨r0,e0,h1,h2,v,v',cs,rs,rfl,rfl,h3,hsm⟩:=R.objN hc;obtain rfl:=hsm.eq (i:=0) (by simp);obtain⟨b,c,fz,k1,k2,k3⟩:=yuU R.hs h1 (i:=0) (by simp);subst k1;have hc2:(x0::xs).length<=c:=by
      rcases R.hs.own id _ h1 with⟨h,_⟩|⟨b',c',fz',h,h4,_⟩
      ·cases h
      ·injection h with _ _ h;rw[h];exact h4
     have hst:stR L id (.osl (sl b 0 (x0::xs).length c) (x0::xs).length (tsz e) cs rs T)=L:=by
      rw[zvL];apply bS;intro j;by_cases hj:id=j
      ·subst hj;rw[zbZ]at h1;rw[bB (aD.1 h1).1,h1]
      ·rw[bN hj]
     exact⟨S,_,_,Mem.le_refl _,ELe.refl _,R.upd1 (o':=.qu ver e T (x0::xs)) (r':=.osl (sl b 0 (x0::xs).length c) (x0::xs).length (tsz e) cs rs T) h2 (by rw[hst];exact R.hs) ⟨b,c,0,[],cs,rs,0,c,by rw[aV];rfl,rfl,by simp,h3,hc2,.inl ⟨by rw[Nat.zero_mul],by rw[aV]⟩⟩⟩
   ·exact same
  ·exact same
 |fz d=>
  simp only[mk1];split
  ·rename_i id v h;exact ytH R id
  ·exact same
theorem yaO:∀(l:List Mk) {σ:St} {S:Mem} {E:List EI} {L:List Res} (_:Rel n B S E L σ m w),∃S' E' L',Mem.le S S'/\ELe E E'/\Rel n B S' E' L' (zvR σ l) m w
 |[],_,S,E,L,R=>⟨S,E,L,Mem.le_refl _,ELe.refl _,R⟩|x::l,_,_,_,_,R=>by obtain⟨S1,E1,L1,h1,h2,R1⟩:=mk1_ok R x;obtain⟨S2,E2,L2,h3,h4,R2⟩:=yaO l R1;exact⟨S2,E2,L2,Mem.le_trans h1 h3,h2.trans h4,R2⟩
theorem xaW{K V:Ty}(hK:kOk K=true){es:List (den K×den V)}{ents:List MapEntry}(hM:MR S K V es ents){a c:MapEntry}(ha:a∈ents)(hc:c∈ents):a.key=c.key↔a.born=c.born:=by
 obtain⟨l,hl,hA⟩:=hM.perm;have hne:l.Pairwise fun p q=>keq K p.1 q.1=false:=(hl.pairwise_iff fun h=>yeB hK h).2 hM.ne;obtain⟨i,hi,rfl⟩:=dY.1 ha;obtain⟨j,hj,rfl⟩:=dY.1 hc;have hlen:=hA.len;constructor
 ·intro h;by_cases hij:i=j
  ·subst hij;rfl
  ·exfalso;obtain⟨p,hp,hp2⟩:=A2.at_r hA (aO hi);obtain⟨q,hq,hq2⟩:=A2.at_r hA (aO hj);have h2:p.1=q.1:=ykF hK (by rw[<-ycB hK hp2.1,<-ycB hK hq2.1,h]);have h3:∀{i j:Nat} {p q:den K×den V},i<j->l[i]? = some p->l[j]? = some q->p.1=q.1->False:=fun {i j p q} hij hp hq h2=>by obtain⟨h4,rfl⟩:=aD.1 hp;obtain⟨h5,rfl⟩:=aD.1 hq;have:=bW.1 hne i j h4 h5 hij;rw[h2]at this;rw[(znE hK).2 rfl]at this;cases this
   rcases jF hij with h4|h4
   ·exact h3 h4 hp hq h2
   ·exact h3 h4 hq hp h2.symm
 ·intro h;by_cases hij:i=j
  ·subst hij;rfl
  ·exfalso;have h4:∀{i j:Nat} (hi:i<ents.length) (hj:j<ents.length),i<j->ents[i].born=ents[j].born->False:=fun {i j} hi hj hij h=>by have:=bW.1 hM.nd i j (by simpa using hi) (by simpa using hj) hij;simp only[List.getElem_map]at this;exact this h
   rcases jF hij with h5|h5
   ·exact h4 hi hj h5 h
   ·exact h4 hj hi h5 h.symm
theorem ypT{S R:Type}{f:S->List (Option (S⊕R))}{s:S}{r:R}(h:rngA f s=some r):∃n,Rng f n s r:=by
 unfold rngA at h;split at h
 ·rename_i hh;cases h;exact hh.choose_spec
 ·cases h
theorem rngL_mem{α γ:Type}{l:List α}{d:γ}{f:α->γ}{p:α}(h:p∈l):f p∈rngL l d f:=by
 cases l with
 |nil=>cases h
 |cons x l=>exact aR.2 ⟨p,h,rfl⟩
theorem yzE{γ:Type}{d t:Nat}{g0:St->Option γ}{Z:Option γ->Prop}(R:Rel n B S E L σ m w)(hZ:¬Z none)(hz:∀o∈xaB n σ d t g0,Z o){ty:TypeId}{pos:String}{aft:Array Edge}:
  outcome P (fun v w'=>∃σ' L',Z (g0 σ')/\Rel n B S E L' σ' ((d,v)::m) w') ((execOp (evO n m) ⟨some d,.next (.tmp t) false,ty,pos,aft,none⟩).run P w):=by
 have bad:∀{X:Prop},(∀o,o∈[(none:Option γ)]->Z o)->X:=fun h=>absurd (h none aM) hZ;unfold xaB at hz;split at hz
 ·rename_i i ht;split at hz
  ·rename_i mid gn K cur left hi;split at hz
   ·rename_i g' K' V es hm;split at hz
    ·rename_i hK _;subst hK;cases hb:aG gn g'&&cV d n with
     |false=>rw[hb]at hz;exact bad hz|true=>
      rw[hb]at hz;simp only[zE,zmW]at hz;have hd:cV d n=true:=zbR hb;have hg:=aB (zbH hb);subst hg;obtain⟨r0,e0,k1,k2,b,mb,ck,seen,rfl,rfl,hK,e1,k3,k4⟩:=R.objN hi;obtain⟨r1,e2,k5,k6,b2,ents,ck2,rfl,rfl,hM,hlt⟩:=R.objN hm;rw[k6]at k3;cases k3;obtain⟨_,k7⟩:=k4 _ _ _ _ rfl;obtain⟨rfl,rfl,k8⟩:=k7 rfl;obtain⟨l,hl,hA⟩:=hM.perm;have hv:=R.sl t;rw[ht]at hv;obtain⟨b3,hv,e3,q1,q2⟩:=hv;rw[k2]at q1;cases q1;have:=q2 _ rfl;subst this;have hh:w.heap[b]? = some (.mapIter (some b2) ck2 seen ck2):=R.hs.own i _ k1;have hh2:w.heap[b2]? = some (.map ents.toArray ck2):=R.hs.own mid _ k5;have exec:∀{u w'},(Instr.next (.pointer (some ⟨b,0,none⟩)) false ty).run P w = .ok u w'->(execOp (evO n m) ⟨some d,.next (.tmp t) false,ty,pos,aft,none⟩).run P w = .ok (.value u) w':=fun {u w'} h=>by have hv:evO n m (.tmp t) = .pointer (some ⟨b,0,none⟩):=hv;simp[execOp,hv,h,Result.andThen]
      rcases run_next_at (P:=P) w ty b b2 ck2 ck2 seen ents.toArray ck2 hh hh2 (by simpa using hlt) (aI _)with⟨h0,hrun⟩|⟨en,hen,w1,hw1,hrun⟩
      ·rw[exec hrun];have hnil:rngC (keq K) es left=[]:=by
        rw[rngC,List.filter_eq_nil_iff];intro p hp hany;obtain⟨k,hk,hke⟩:=dK.1 hany;obtain⟨en,hen,h1⟩:=A2.mem_l hA p (hl.mem_iff.2 hp);have h2:en.born∉seen:=fun h=>((k8 en hen).1.1 h) k hk (by rw[ycB hK h1.1,(znE hK).1 hke]);have:en∈(leftOf ents.toArray seen):=by simp[leftOf,hen,h2]
        have h3:=Array.size_pos_of_mem this;omega
       rw[hnil]at hz;exact⟨_,_,hz _ aM,R.put (x:=.tup [.v .b false]) ⟨[.bool false],rfl,.cons (show rep .b S [.bool false] false from rfl) .nil⟩ hd⟩
      ·rw[exec hrun];have hen':en∈ents/\en.born∉seen:=by simpa[leftOf]using hen
       obtain⟨p,hp,hpe⟩:=A2.mem_r hA en hen'.1;have hkey:=ycB hK hpe.1;have hex:∃k∈left,en.key=kv K k:=by refine Classical.byContradiction fun hno=>hen'.2 ((k8 en hen'.1).1.2 fun k hk h=>hno ⟨k,hk,h⟩)
       obtain⟨k,hk,hkk⟩:=hex;have hpk:p.1=k:=ykF hK (hkey.symm.trans hkk);have hpm:p∈rngC (keq K) es left:=by rw[rngC,cH];exact⟨hl.mem_iff.1 hp,dK.2 ⟨k,hk,(znE hK).2 hpk⟩⟩
       have h1:=hz _ (rngL_mem (d:=g0 (σ.put d (.tup [.v .b false]))) (f:=fun p=>g0 ⟨(d,.tup [.v .b true,svOf K p.1,svOf V p.2])::σ.sl,setN σ.hp i (.it mid gn K (some p.1) (rngD (keq K) left p.1))⟩) hpm);have H1:HS B S w1 L:=by
        rcases hw1 with rfl|rfl
        ·exact R.hs
        ·exact R.hs.drew
       have hh1:w1.heap=w.heap:=by rcases hw1 with rfl|rfl<;>rfl
       have hlt1:b<w1.heap.size:=by rw[hh1];exact lt_of_heap hh
       have H2:HS B S (Go.ChangeMaps.setBlock w1 b (.mapIter (some b2) ck2 (seen.push en.born) ck2)) (stR L i (.obj b (.mapIter (some b2) ck2 (seen.push en.born) ck2))):=by
        refine H1.upd k1 (by simp[Go.ChangeMaps.setBlock]) rfl rfl rfl (fun j hj hne=>?_) ?_ fun b' hb'=>.inl hb'
        ·have:j≠b:=fun e=>hne (by rw[e];rfl);simp[Go.ChangeMaps.setBlock,Ne.symm this]
        ·show((Go.ChangeMaps.setBlock w1 b _).heap)[b]? = _;simp[Go.ChangeMaps.setBlock,hlt1]
       have hA1:=hA
       have R1:=R.upd1 (o':=.it mid gn K (some p.1) (rngD (keq K) left p.1)) k2 H2 ⟨b,b2,ck2,seen.push en.born,rfl,rfl,hK,_,k6,fun g2 b4 c2 es2 he=>by
        cases he;refine⟨aI _,fun _=>⟨rfl,rfl,fun e4 he4=>⟨?_,fun c hc=>?_⟩⟩⟩
        ·have hkb:e4.key=en.key↔e4.born=en.born:=xaW hK hM he4 hen'.1;rw[Array.mem_push,(k8 e4 he4).1];constructor
         ·rintro(h|h) k' hk'
          ·exact h k' (cH.1 hk').1
          ·rw[hkb.2 h,hkey];intro h5;have:=(cH.1 hk').2;rw[(znE hK).2 (ykF hK h5).symm]at this;cases this
         ·intro h;by_cases h5:e4.born=en.born
          ·exact .inr h5
          ·refine .inl fun k' hk' h6=>h k' (cH.2 ⟨hk',?_⟩) h6;rw[Bool.not_eq_true',ztY hK];intro h7;exact h5 (hkb.1 (by rw[h6,h7,hkey]))
        ·cases hc;rw[<-hkey,Array.back?_push]
         exact(xaW hK hM he4 hen'.1).trans ⟨fun h=>by rw[h],fun h=>(osi h).symm⟩⟩
       refine⟨_,_,h1,R1.put (x:=.tup [.v .b true,svOf K p.1,svOf V p.2]) ⟨[.bool true,en.key,en.val],rfl,.cons (show rep .b S [.bool true] true from rfl) (.cons (zuK hpe.1) (.cons (zuK hpe.2) .nil))⟩ hd⟩
    ·exact bad hz
   ·exact bad hz
  ·exact bad hz
 ·exact bad hz
def Good(P:Program)(N0 n:Nat)(B:Bas)(c:Code){β:Type}(rn:(Ex->St->Option β)->Option β)(S:Mem)(E:List EI)(m:FM)(w:World):Prop:=
 ∀(k:Ex->St->Option β) (r:β) (Q:Exit->Act->World->Prop),rn k=some r->(∀e σ' S' E' L' m' w',k e σ'=some r->Mem.le S S'->Pin N0 E E'->Agr (zfC c) m m'->Rel n B S' E' L' σ' m' w'->Q (exQ e) (fr n m') w')->c.wp P Q (fr n m) w
theorem zrU{α γ:Type}{o:Option α}{f:α->Option γ}{r:γ}(h:Option.bind o f=some r):∃x,o=some x/\f x=some r:=bnd h
theorem zvY(hm:P.follows .mixedOrders=true)(hτ:TEok P τ)(hΓ:CTok P Γ B):∀(c:Code) {β:Type} {σ:St} {S:Mem} {E:List EI} {L:List Res} {m:FM} {w:World},Rel n B S E L σ m w->Good P N0 n B c (β:=β) (run N0 n τ Γ η c σ) S E m w
 |.skip,_,σ,S,E,L,m,w,R,k,r,Q,h,hQ=>wp_skip (hQ .normal _ _ _ _ _ _ h (Mem.le_refl _) (Pin.refl _ _) (Agr.refl _ _) R)|.exit id,_,σ,S,E,L,m,w,R,k,r,Q,h,hQ=>wp_exit (hQ (.exit id) _ _ _ _ _ _ h (Mem.le_refl _) (Pin.refl _ _) (Agr.refl _ _) R)|.ret,_,σ,S,E,L,m,w,R,k,r,Q,h,hQ=>wp_ret (hQ .ret _ _ _ _ _ _ h (Mem.le_refl _) (Pin.refl _ _) (Agr.refl _ _) R)|.region id ops d,_,σ,S,E,L,m,w,R,k,r,Q,h,hQ=>by
  obtain⟨ops⟩:=ops;cases d with
  |true=>exact xeM hm hτ hΓ R h (fun σ' S' E' L' m' w' h1 h2 h3 h4 R1=>hQ .normal _ _ _ _ _ _ h1 h2 (Pin.of h3) h4 R1)|false=>exact wp_region_lit (ycM hτ hΓ (fun σ' S' E' L' m' w' h1 h2 h3 h4 R1=>hQ .normal _ _ _ _ _ _ h1 h2 (Pin.of h3) h4 R1) ops (fun _ h=>h) (Mem.le_refl _) (ELe.refl _) (Agr.refl _ _) R h)
 |.cond c a b,_,σ,S,E,L,m,w,R,k,r,Q,h,hQ=>by
  simp only[run]at h;split at h
  ·rename_i t hc;have hv:evO n m c = .bool t:=vB (zcT R hc);refine yrO hv (fun ht=>?_) (fun ht=>?_)
   ·subst ht;exact zvY hm hτ hΓ a R k r Q h (fun e σ' S' E' L' m' w' h1 h2 hP h3 R1=>hQ e σ' S' E' L' m' w' h1 h2 hP h3.l R1)
   ·subst ht;exact zvY hm hτ hΓ b R k r Q h (fun e σ' S' E' L' m' w' h1 h2 hP h3 R1=>hQ e σ' S' E' L' m' w' h1 h2 hP h3.r R1)
  ·cases h
 |.seq a b,_,σ,S,E,L,m,w,R,k,r,Q,h,hQ=>by
  have next:∀e σ' S' E' L' m' w',nx k (fun σ=>run N0 n τ Γ η b σ k) e σ'=some r->Mem.le S S'->Pin N0 E E'->Agr (zfC a) m m'->Rel n B S' E' L' σ' m' w'->Exit.then (b.wp P Q) Q (exQ e) (fr n m') w':=fun e σ' S' E' L' m' w' h1 hS hP hA R1=>by
   cases e with
   |normal=>exact zvY hm hτ hΓ b R1 k r Q h1 (fun e σ' S' E' L' m' w' h1 h2 hP2 h3 R1=>hQ e σ' S' E' L' m' w' h1 (Mem.le_trans hS h2) (hP.trans hP2) ((Agr.l hA).trans (Agr.r h3)) R1)|exit i=>exact hQ (.exit i) _ _ _ _ _ _ h1 hS hP hA.l R1|ret=>exact hQ .ret _ _ _ _ _ _ h1 hS hP hA.l R1
  simp only[run]at h;refine wp_seq ?_;split at h
  ·rename_i mk kp outs hj;obtain⟨d,h1,h2⟩:=zrU h;obtain⟨S0,E0,L0,hS0,hE0,R0⟩:=yaO mk R;refine zvY hm hτ hΓ a R0 (inj N0 outs) d _ h1 fun e σ' S' E' L' m' w' h3 hS hP hA R1=>?_;obtain⟨S2,E2,L2,σ2,hS2,hP2,R2,_,_,h4⟩:=ybU R1 (kp:=zuP (zfC a) (zvR σ mk) kp) (fun S'' E'' hS'' t=>ztV R0 (Mem.le_trans hS hS'') hA kp t) h3;rw[h4]at h2;exact next e σ2 _ _ _ _ _ h2 (Mem.le_trans hS0 (Mem.le_trans hS hS2)) ((Pin.of hE0).trans (hP.trans hP2)) hA R2
  ·exact zvY hm hτ hΓ a R _ r _ h next
 |.block id b,_,σ,S,E,L,m,w,R,k,r,Q,h,hQ=>by
  have next:∀e σ' S' E' L' m' w',blk id k e σ'=some r->Mem.le S S'->Pin N0 E E'->Agr (zfC b) m m'->Rel n B S' E' L' σ' m' w'->Exit.inBlock id Q (exQ e) (fr n m') w':=fun e σ' S' E' L' m' w' h1 hS hP hA R1=>by
   cases e with
   |normal=>exact hQ .normal _ _ _ _ _ _ h1 hS hP hA R1|ret=>exact hQ .ret _ _ _ _ _ _ h1 hS hP hA R1|exit i=>
    simp only[blk]at h1;cases hb:aG i id with
    |true=>rw[hb]at h1;have:=aB hb;subst this;exact b_hit (hQ .normal _ _ _ _ _ _ h1 hS hP hA R1)|false=>rw[hb]at h1;exact yzU hb (hQ (.exit i) _ _ _ _ _ _ h1 hS hP hA R1)
  simp only[run]at h;refine wp_block ?_;split at h
  ·rename_i mk kp outs hj;obtain⟨d,h1,h2⟩:=zrU h;obtain⟨S0,E0,L0,hS0,hE0,R0⟩:=yaO mk R;refine zvY hm hτ hΓ b R0 _ d _ h1 fun e σ' S' E' L' m' w' h3 hS hP hA R1=>?_;have fin:∀e',inj N0 outs e' σ'=some d->Q (exQ e') (fr n m') w':=fun e' h3=>by obtain⟨S2,E2,L2,σ2,hS2,hP2,R2,_,_,h4⟩:=ybU R1 (kp:=zuP (zfC b) (zvR σ mk) kp) (fun S'' E'' hS'' t=>ztV R0 (Mem.le_trans hS hS'') hA kp t) h3;rw[h4]at h2;exact hQ e' σ2 _ _ _ _ _ h2 (Mem.le_trans hS0 (Mem.le_trans hS hS2)) ((Pin.of hE0).trans (hP.trans hP2)) hA R2
   cases e with
   |normal=>exact fin .normal h3|ret=>exact fin .ret h3|exit i=>
    simp only[blk]at h3;cases hb:aG i id with
    |true=>rw[hb]at h3;have:=aB hb;subst this;exact b_hit (fin .normal h3)|false=>rw[hb]at h3;exact yzU hb (fin (.exit i) h3)
  ·exact zvY hm hτ hΓ b R _ r _ h next
 |.loop b,_,σ,S,E,L,m,w,R,k,r,Q,h,hQ=>by
  simp only[run]at h;split at h
  ·rename_i mk s kp outs hj;split at h
   ·rename_i s0 hs0;obtain⟨d,h1,h2⟩:=zrU h;obtain⟨S0,E0,L0,hS0,hE0,R0⟩:=yaO mk R;obtain⟨S1,E1,L1,hS1,hP1,R1⟩:=ybJ R0 (fun l=>zlN l R0) hs0;have hQ:∀e σ' S' E' L' m' w',k e σ'=some r->Mem.le S0 S'->Pin N0 E0 E'->Agr (zfC b) m m'->Rel n B S' E' L' σ' m' w'->Q (exQ e) (fr n m') w':=fun e σ' S' E' L' m' w' h1 h2 h3 h4 h5=>hQ e σ' S' E' L' m' w' h1 (Mem.le_trans hS0 h2) ((Pin.of hE0).trans h3) h4 h5;clear hS0 hE0 R;generalize zvR σ mk=σ at *;refine xdA (fun g a w=>∃m' x S' E' L',a=fr n m'/\Mem.le S0 S'/\Pin N0 E0 E'/\Agr (zfC b) m m'/\Rel n B S' E' L' (s.put x) m' w/\ziC (fun x=>run N0 n τ Γ η b ((s.put x).app (zuP (zfC b) σ kp)) (nx (fun e σ=>mapO Sum.inr (inj N0 outs e σ)) fun σ=>mapO Sum.inl (s.get N0 σ))) g x=some d) FU ⟨m,s0,S1,E1,L1,rfl,hS1,hP1,Agr.refl _ _,R1,h1⟩ ?_;rintro g a w ⟨m2,x,S2,E2,L2,rfl,hS2,hP2,hA2,R2,hit⟩;cases g with
    |zero=>cases hit
    |succ g=>
     obtain⟨o,h3,h4⟩:=xeL hit;refine zvY hm hτ hΓ b (R2.app (ztV R0 hS2 hA2 kp)) _ o _ h3 fun e σ' S' E' L' m' w' h5 hS3 hP3 hA3 R3=>?_;have hSS:=Mem.le_trans hS2 hS3;have hAA:=hA2.trans hA3
     have fin:∀e',mapO Sum.inr (inj N0 outs e' σ')=some o->Q (exQ e') (fr n m') w':=fun e' h5=>by
      obtain⟨d',h6,rfl⟩:=zoJ h5;have h7:d'=d:=by cases h4;rfl
      subst h7;obtain⟨S4,E4,L4,σ4,hS4,hP4,R4,_,_,h8⟩:=ybU R3 (kp:=zuP (zfC b) σ kp) (fun S'' E'' hS'' t=>ztV R0 (Mem.le_trans hSS hS'') hAA kp t) h6;rw[h8]at h2;exact hQ e' σ4 _ _ _ _ _ h2 (Mem.le_trans hSS hS4) ((hP2.trans hP3).trans hP4) hAA R4
     cases e with
     |normal=>obtain⟨x',h6,rfl⟩:=zoJ h5;obtain⟨S4,E4,L4,hS4,hP4,R4⟩:=ybJ R3 (fun l=>zlN l R3) h6;exact⟨g,Nat.lt_succ_self g,m',x',S4,E4,L4,rfl,Mem.le_trans hSS hS4,(hP2.trans hP3).trans hP4,hAA,R4,h4⟩
     |exit i=>exact fin (.exit i) h5|ret=>exact fin .ret h5
   ·cases h
  ·rename_i mk s kp outs hj;split at h
   ·rename_i id ops c;split at h
    ·rename_i d t ty pos aft l hops;split at h
     ·rename_i s0 hs0;obtain⟨dd,h1,h2⟩:=zrU h;obtain⟨fuel,hrng⟩:=ypT h1;obtain⟨S0,E0,L0,hS0,hE0,R0⟩:=yaO mk R;obtain⟨S1,E1,L1,hS1,hP1,R1⟩:=ybJ R0 (fun l=>zlN l R0) hs0;have hQ:∀e σ' S' E' L' m' w',k e σ'=some r->Mem.le S0 S'->Pin N0 E0 E'->Agr (zfC (.seq (.region id ops false) c)) m m'->Rel n B S' E' L' σ' m' w'->Q (exQ e) (fr n m') w':=fun e σ' S' E' L' m' w' h1 h2 h3 h4 h5=>hQ e σ' S' E' L' m' w' h1 (Mem.le_trans hS0 h2) ((Pin.of hE0).trans h3) h4 h5;clear hS0 hE0 R;generalize zvR σ mk=σ at *;refine xdA (fun g a w=>∃m' x S' E' L',a=fr n m'/\Mem.le S0 S'/\Pin N0 E0 E'/\Agr (zfC (.seq (.region id ops false) c)) m m'/\Rel n B S' E' L' (s.put x) m' w/\Rng (fun x=>xaB n ((s.put x).app (zuP (zfC (.seq (.region id ops false) c)) σ kp)) d t fun σ=>steps n τ Γ ops.toList l σ fun σ=>run N0 n τ Γ η c σ (nx (fun e σ=>mapO Sum.inr (inj N0 outs e σ)) fun σ=>mapO Sum.inl (s.get N0 σ))) g x dd) fuel ⟨m,s0,S1,E1,L1,rfl,hS1,hP1,Agr.refl _ _,R1,hrng⟩ ?_;rintro g a w ⟨m2,x,S2,E2,L2,rfl,hS2,hP2,hA2,R2,hit⟩;cases g with
      |zero=>exact hit.elim|succ g=>
       have hD:∀t',hasN (zuE (⟨some d,.next (.tmp t) false,ty,pos,aft,none⟩::l)) t'=true->hasN (zfC (.seq (.region id ops false) c)) t'=true:=fun t' ht'=>by show hasN (zuE ops.toList++zfC c) t'=true;rw[zoK,hops,ht'];rfl
       obtain⟨ops⟩:=ops;have hops:ops=_:=hops;subst hops;refine wp_seq (wp_region_lit (wl_do (ztX rfl) (yzE (R2.app (ztV R0 hS2 hA2 kp)) (Z:=rngO (fun s'=>Rng _ g s' dd) dd) (fun h=>h) hit) ?_));rintro v w' ⟨σ1,L3,hy,R3⟩;generalize hyo:(steps n τ Γ _ l σ1 fun σ=>run N0 n τ Γ η c σ (nx (fun e σ=>mapO Sum.inr (inj N0 outs e σ)) fun σ=>mapO Sum.inl (s.get N0 σ)))=o at hy
       match o,hy with
       |some y,hy2=>
        rw[yfA];refine ycM hτ hΓ (D:=zfC (.seq (.region id _ false) c)) (S0:=S2) (E0:=E2) (m0:=m2) (fun σ' S' E' L' m' w' h5 hS3 hE3 hA3 R4=>?_) l (fun t' ht'=>hD t' (yeA ht')) (Mem.le_refl _) (ELe.refl _) (Agr.put (hD d (yeE rfl))) R3 hyo;refine zvY hm hτ hΓ c R4 _ y _ h5 fun e σ' S' E' L' m' w' h5 hS4 hP4 hA4 R4=>?_;have hSS:=Mem.le_trans hS2 (Mem.le_trans hS3 hS4);have hAA:=hA2.trans (hA3.trans hA4.r);have hPP:=(hP2.trans (Pin.of hE3)).trans hP4;have fin:∀e',mapO Sum.inr (inj N0 outs e' σ')=some y->Q (exQ e') (fr n m') w':=fun e' h5=>by obtain⟨d',h6,rfl⟩:=zoJ h5;have h7:d'=dd:=hy2;subst h7;obtain⟨S4,E4,L4,σ4,hS4,hP4,R4,_,_,h8⟩:=ybU R4 (kp:=zuP (zfC (.seq (.region id _ false) c)) σ kp) (fun S'' E'' hS'' t=>ztV R0 (Mem.le_trans hSS hS'') hAA kp t) h6;rw[h8]at h2;exact hQ e' σ4 _ _ _ _ _ h2 (Mem.le_trans hSS hS4) (hPP.trans hP4) hAA R4
        cases e with
        |normal=>obtain⟨x',h6,rfl⟩:=zoJ h5;obtain⟨S4,E4,L4,hS4,hP4,R4⟩:=ybJ R4 (fun l=>zlN l R4) h6;exact⟨g,Nat.lt_succ_self g,m',x',S4,E4,L4,rfl,Mem.le_trans hSS hS4,hPP.trans hP4,hAA,R4,hy2⟩
        |exit i=>exact fin (.exit i) h5|ret=>exact fin .ret h5
     ·cases h
    ·cases h
   ·cases h
  ·cases h
theorem yrS{s:Sem Value}{u:Value}(h:(do pure (Next.value (<-s)):Sem Next).run P w = .ok (.value u) w):s.run P w = .ok u w:=by
 rw[Sem.run_bind]at h;cases hs:s.run P w with
 |ok v w'=>rw[hs]at h;simp only[Result.andThen_ok,Sem.run_pure]at h;injection h with h1 h2;injection h1 with h1;rw[h1,h2]
 |halt x w'=>rw[hs]at h;cases h
theorem resV_ok(hτ:TEok P τ)(R:Rel n B S E L σ m w){v:ResultVar}{x:SV}(h:resV τ σ v=some x):∃u,VR S E x u/\(resS (fr n m).tmps v).run P w = .ok u w:=by
 cases v with
 |tmp t=>cases h;exact⟨_,R.sl t,ysX rfl⟩
 |cell t T=>
  simp only[resV]at h;split at h
  ·rename_i f hT
   have h':deref σ.hp (lkS σ.sl t) f.sz (fun l=>bindS (svAt f l) some)=some x:=by
    have e1:(fun l=>bindS (svAt f l) some)=fun l=>svAt f l:=by funext l;cases svAt f l<;>rfl
    rw[e1];exact h
   obtain ⟨z, u, h1, h2, h3⟩ := xaR (dst := none) (g := none) (ty := 0) (pos := "") (aft := #[]) (a := .tmp t) (k := some) R (hτ _ _ hT) (R.sl t) h';cases h1;refine⟨u,h2,?_⟩;have h4:=yrS (h3 w R.hs);show(do loadVar T (<-asAddr ((fr n m).tmps.getD t undef)):Sem Value).run P w=_;rw[xaS];have h5:(do loadVar T (<-Instr.sureAddr (evO n m (.tmp t))):Sem Value).run P w = .ok u w:=h4;cases hp:evO n m (.tmp t) with
   |pointer a=>
    rw[hp]at h5;cases a with
    |none=>simp[Instr.sureAddr]at h5|some a=>simpa[Instr.sureAddr,asAddr]using h5
   |_=>rw[hp]at h5;simp[Instr.sureAddr]at h5
  ·cases h
theorem ygL(hτ:TEok P τ)(R:Rel n B S E L σ m w):∀{l:List ResultVar} {xs:List SV},yeS τ σ l=some xs->∃us,A2 (VR S E) xs us/\(l.mapM (resS (fr n m).tmps)).run P w = .ok us w
 |[],xs,h=>by cases h;exact⟨[],.nil,by simp⟩
 |v::l,xs,h=>by
  unfold yeS at h;split at h
  ·rename_i x y h1 h2;cases h;obtain⟨u,h3,h4⟩:=resV_ok hτ R h1;obtain⟨us,h5,h6⟩:=ygL hτ R h2;exact⟨u::us,.cons h3 h5,by simp only[List.mapM_cons,Sem.run_bind,h4,Result.andThen_ok,h6,Sem.run_pure]⟩
  ·cases h
theorem yuE:∀{l:List Ty} {us:LV} {x:zfB l},repA S l us x->us.length=l.length
 |[],us,_,h=>by have:us=[]:=h;subst this;rfl
 |[_],_,_,⟨_,e,_⟩=>by rw[e];rfl
 |_::t'::l,_,_,⟨_,_,e,_,h⟩=>by rw[e];simp[yuE h]
theorem repR_of{l:List Ty}{us:LV}{x:zfB l}(h:repA S l us x):repR S l (if h:us.toArray.size=1 then us.toArray[0]else .tuple us.toArray) x:=by
 match l,x,h with
 |[],x,h=>have:us=[]:=h;subst this;exact⟨[],rfl,rfl⟩|[t],x,⟨u,e,h1⟩=>subst e;exact h1|t::t'::l,x,h=>have hl:=yuE h;rw[dif_neg (by simp at hl ⊢;omega)];exact⟨us,rfl,h⟩
theorem xcC:∀{xs:List SV} {us:LV} (i t:Nat),A2 (VR S E) xs us->VR S E (lkS (argS i xs) t) (look (argm us i) t)
 |_,_,i,t,.nil=>trivial|_,_,i,t,.cons a r=>by
  unfold argS lkS argm look;cases aG i t with
  |true=>exact a|false=>exact xcC (i+1) t r
theorem yqE:∀(us:LV) (i t:Nat),look (argm us i) t=if i<=t then us.getD (t-i) undef else undef
 |[],i,t=>by simp[argm,look]
 |u::us,i,t=>by
  unfold argm look;rw[yqE us (i+1) t];cases hb:aG i t with
  |true=>have:=aB hb;subst this;simp|false=>
   have hne:i≠t:=fun e=>by subst e;rw[fB]at hb;cases hb
   simp only[zF];by_cases h:i<=t
   ·rw[zI h,zI (by omega),show t-i=(t-(i+1))+1 by omega,List.getD_cons_succ]
   ·rw[zH h,zH (by omega)]
theorem ymW:∀(ash:List Sh) (l:List SV),(putL ash l).1.length=ash.length
 |[],_=>rfl|a::ash,l=>by simp only[putL,aN,ymW ash]
theorem yhI:∀{xs:List SV} {i t:Nat},i+xs.length<=t->lkS (argS i xs) t = .undef
 |[],_,_,_=>rfl|x::xs,i,t,h=>by
  simp only[aN]at h;unfold argS lkS;have:aG i t=false:=by rw[zsN];simp;omega
  rw[this];exact yhI (by omega)
theorem gb_start{G:List (Nat×Obj)}{S0:Mem}{w0:World}(hG:GS G S0)(hS:Sub S0 w0):GB G ⟨S0,[],w0⟩:=fun p hp=>⟨(aP.1 (hS _ _ (hG p hp))).1,by simp,hG p hp⟩
theorem gb_in{G:List (Nat×Obj)}{B:Bas}{S0:Mem}{w0:World}{L0:List Res}(hG:GS G S0)(H:HS B S0 w0 L0):GB G ⟨S0,zcD L0,w0⟩:=fun p hp=>by refine⟨(aP.1 (H.sub _ _ (hG p hp))).1,fun h=>?_,hG p hp⟩;obtain⟨k,r,h1,h2⟩:=zgD.1 h;have:=(H.old k r _ h1 h2).2;rw[hG p hp]at this;cases this
theorem fn_ok{G:List (Nat×Obj)}{f:FuncId}{fn:Func}{ats:List Sh}{rts:List Ty}(hm:P.follows .mixedOrders=true)(hτ:TEok P τ)(hΓ:∀B,GB G B->CTok P Γ B)(hf:P.funcs[f]? = some fn)(hfn:IsFn P f)(hl:cK ats.length fn.ntmps=true):PCok P G f ⟨ats,rts,fnP τ Γ η fn ats rts,false⟩:=by
 refine⟨hfn,fun S0 w0 us a y hG hS ha hy=>?_⟩;have hy:fnP τ Γ η fn ats rts a=some y:=hy;have ha:A2 (VR S0 []) (putL ats (zvW _ a)).1 us:=ha;have hul:us.length=ats.length:=by rw[<-ha.len,ymW]
 unfold fnP at hy;split at hy
 ·cases hy
 ·rename_i c hb;refine enter hf hb rfl (by rw[hul];exact hl) ?_;have R0:Rel fn.ntmps ⟨S0,[],w0⟩ S0 [] [] ⟨argS 0 (putL ats (zvW _ a)).1,[]⟩ (argm us 0) w0:=by
   refine⟨HS.start hS,rfl,rfl,fun i o h=>by simp at h,fun t=>?_⟩;show VR S0 [] (lkS (argS 0 (putL ats (zvW _ a)).1) t) (bif cV t fn.ntmps then look (argm us 0) t else undef);cases ht:cV t fn.ntmps with
   |true=>exact xcC 0 t ha|false=>rw[zpD]at ht;have h1:=of_decide_eq_false ht;have h2:=bJ hl;rw[yhI (by rw[ymW];omega)];trivial
  refine zvY hm hτ (hΓ _ (gb_start hG hS)) c R0 (fin τ fn rts) y _ hy fun e σ' S' E' L' m' w' h1 _ _ _ R1=>?_
  have key:∀(_:(match yeS τ σ' fn.results.toList with
    |some l=>match yeS τ (frzL σ' (l.flatMap owns)) fn.results.toList with
     |some l=>ylS [] rts l|none=>none
    |none=>none)=some y),(fr fn.ntmps m').defers=[]/\∃v,(results fn (fr fn.ntmps m').tmps).run P w' = .ok v w'/\∃v',Ending.returned v = .returned v'/\Ext w0 w'/\repR (gr S0 w0 w') rts v' y:=fun h1=>by
   split at h1
   ·rename_i l hl1;split at h1
    ·rename_i l2 hl2;obtain⟨S2,E2,L2,_,_,R2⟩:=zlN (l.flatMap owns) R1;obtain⟨vs,h3,h4⟩:=ygL (P:=P) hτ R2 hl2;have h5:=ywN (S2:=gr S0 w0 w') R2.hs.gr zkG rts h1 h3;refine⟨rfl,_,?_,_,rfl,R2.hs.toExt,repR_of h5⟩;rw[zwC,fD];simp only[Sem.run_bind,Sem.run_map,h4,Result.andThen_ok,Sem.run_pure]
    ·cases h1
   ·cases h1
  cases e with
  |normal=>obtain⟨h2,v,h3,v',h4,h5,h6⟩:=key h1;cases h4;exact⟨h2,v,h3,h5,v,rfl,h6,fun h=>by cases h⟩
  |ret=>obtain⟨h2,v,h3,v',h4,h5,h6⟩:=key h1;cases h4;exact⟨h2,v,h3,h5,v,rfl,h6,fun h=>by cases h⟩
  |exit i=>cases h1
theorem ytW:∀(us:LV) (pre:LV),zyD (fun t=>(pre++us).getD t undef) pre.length us.length=us
 |[],_=>rfl|u::us,pre=>by have h1:=ytW us (pre++[u]);simp only[aC,List.length_singleton,List.append_assoc,List.singleton_append]at h1;simp only[aN,zyD,h1];congr 1;simp
theorem xdM(us:LV):zyD (fun t=>us.getD t undef) 0 us.length=us:=ytW us []
theorem resV1_eq(us:LV):(if h:us.toArray.size=1 then us.toArray[0]else .tuple us.toArray)=zzR us:=by
 match us with
 |[]=>rfl|[u]=>rfl|u::u'::us=>rw[dif_neg (by simp)];rfl
theorem yoI:∀{l:List ResultVar} {xs:List SV},yeS τ σ l=some xs->xs.length=l.length
 |[],_,h=>by cases h;rfl
 |v::l,_,h=>by
  unfold yeS at h;split at h
  ·rename_i h2;cases h;simp[yoI h2]
  ·cases h
theorem yuR{f:FuncId}{fn:Func}{c:Code}{N0 nr:Nat}{outs:List (Option Nat×Shp)}{S0:Mem}{w0:World}{us:LV}{E0:List EI}{L0:List Res}{σ0:St}{d:DS outs}{rn:(Ex->St->Option (DS outs))->Option (DS outs)}(hτ:TEok P τ)(hf:P.funcs[f]? = some fn)(hb:fn.body=some c)(hl:us.length<=fn.ntmps)(hr:aG fn.results.toList.length nr=true) (R:RelV ⟨S0,zcD L0,w0⟩ S0 E0 L0 σ0 (fun t=>us.getD t undef) w0) (hg:Rel fn.ntmps ⟨S0,zcD L0,w0⟩ S0 E0 L0 σ0 (argm us 0) w0->Good P N0 fn.ntmps ⟨S0,zcD L0,w0⟩ c rn S0 E0 (argm us 0) w0) (hy:rn (finS τ fn N0 outs)=some d):Calls P f us.toArray w0 fun e w'=>∃v,e = .returned v/\∃S' E' L' σo V',(∀{γ:Type} (k:Ex->St->Option γ),out [] outs d k=k .normal σo)/\Mem.le S0 S'/\Pin N0 E0 E'/\RelV ⟨S0,zcD L0,w0⟩ S' E' L' σo V' w'/\Ver0 σo.hp/\N0<=σo.hp.length/\v=zzR (zyD V' 0 nr):=by
 refine enter hf hb rfl (Nat.ble_eq_true_of_le hl) ?_;have R0:Rel fn.ntmps ⟨S0,zcD L0,w0⟩ S0 E0 L0 σ0 (argm us 0) w0:=by
  refine⟨R.hs,R.lL,R.lE,R.obj,fun t=>?_⟩;have h1:=R.sl t;show VR S0 E0 (lkS σ0.sl t) (bif cV t fn.ntmps then look (argm us 0) t else undef);cases ht:cV t fn.ntmps with
  |true=>have:=yqE us 0 t;rw[zI (aZ t)]at this;rw[zE,this];exact h1|false=>
   rw[zpD]at ht;have h2:=of_decide_eq_false ht;rw[zF];have h3:us.getD t undef=undef:=by rw[List.getD_eq_getElem?_getD,List.getElem?_eq_none (by omega)];rfl
   rw[<-h3];exact h1
 refine hg R0 (finS τ fn N0 outs) d _ hy fun e σ' S' E' L' m' w' h1 hS hP _ R1=>?_
 have key:∀(_:(match yeS τ σ' fn.results.toList with
   |some l=>inj N0 outs .normal ⟨argS 0 l,σ'.hp⟩|none=>none)=some d),(fr fn.ntmps m').defers=[]/\∃v,(results fn (fr fn.ntmps m').tmps).run P w' = .ok v w'/\∃v',Ending.returned v = .returned v'/\∃S' E' L' σo V',(∀{γ:Type} (k:Ex->St->Option γ),out [] outs d k=k .normal σo)/\Mem.le S0 S'/\Pin N0 E0 E'/\RelV ⟨S0,zcD L0,w0⟩ S' E' L' σo V' w'/\Ver0 σo.hp/\N0<=σo.hp.length/\v'=zzR (zyD V' 0 nr):=fun h1=>by
  split at h1
  ·rename_i l hl1;obtain⟨vs,h3,h4⟩:=ygL (P:=P) hτ R1 hl1
   have R2:RelV ⟨S0,zcD L0,w0⟩ S' E' L' ⟨argS 0 l,σ'.hp⟩ (fun t=>vs.getD t undef) w':=⟨R1.hs,R1.lL,R1.lE,R1.obj,fun t=>by
    have:=ymU 0 t h3;rw[zI (aZ t)]at this
    exact this⟩
   obtain⟨S2,E2,L2,σ2,hS2,hP2,R3,hv,hn,h5⟩:=ybU R2 (kp:=[]) (fun _ _ _ _=>trivial) h1;refine⟨rfl,zzR vs,?_,zzR vs,rfl,S2,E2,L2,σ2,_,h5,Mem.le_trans hS hS2,hP.trans hP2,R3,hv,hn,?_⟩
   ·rw[zwC,fD];simp only[Sem.run_bind,Sem.run_map,h4,Result.andThen_ok,Sem.run_pure,<-resV1_eq]
   ·have h6:vs.length=nr:=by rw[<-h3.len,yoI hl1];exact aB hr
    rw[<-h6,xdM]
  ·cases h1
 cases e with
 |normal=>obtain⟨h2,v,h3,v',h4,h5⟩:=key h1;cases h4;exact⟨h2,v,h3,v,rfl,h5⟩
 |ret=>obtain⟨h2,v,h3,v',h4,h5⟩:=key h1;cases h4;exact⟨h2,v,h3,v,rfl,h5⟩
 |exit i=>cases h1
theorem yrR{f:FuncId}{fn:Func}{c:Code}{N0 nr:Nat}{outs:List (Option Nat×Shp)}{S0:Mem}{w0:World}{us:LV}{E0:List EI}{L0:List Res}{σ0:St}{d:DS outs}(hm:P.follows .mixedOrders=true)(hτ:TEok P τ)(hΓ:CTok P Γ ⟨S0,zcD L0,w0⟩)(hf:P.funcs[f]? = some fn)(hb:fn.body=some c)(hl:us.length<=fn.ntmps)(hr:aG fn.results.toList.length nr=true) (R:RelV ⟨S0,zcD L0,w0⟩ S0 E0 L0 σ0 (fun t=>us.getD t undef) w0) (hy:run N0 fn.ntmps τ Γ η c σ0 (finS τ fn N0 outs)=some d):Calls P f us.toArray w0 fun e w'=>∃v,e = .returned v/\∃S' E' L' σo V',(∀{γ:Type} (k:Ex->St->Option γ),out [] outs d k=k .normal σo)/\Mem.le S0 S'/\Pin N0 E0 E'/\RelV ⟨S0,zcD L0,w0⟩ S' E' L' σo V' w'/\Ver0 σo.hp/\N0<=σo.hp.length/\v=zzR (zyD V' 0 nr):=
 yuR hτ hf hb hl hr R (fun R0=>zvY hm hτ hΓ c R0) hy
theorem fnS_ok{G:List (Nat×Obj)}{f:FuncId}{fn:Func}{I:Shp}{nr:Nat}{outs:List (Option Nat×Shp)}(hm:P.follows .mixedOrders=true)(hτ:TEok P τ)(hΓ:∀B,GB G B->CTok P Γ B)(hf:P.funcs[f]? = some fn)(hfn:IsFn P f)(hl:cK I.sl.length fn.ntmps=true)(hr:aG fn.results.toList.length nr=true):SCok P G f ⟨I,nr,outs,fnS τ Γ η fn I outs⟩:=by
 refine⟨hfn,fun S0 w0 us E0 L0 a d hG hul R hy=>?_⟩;have hy:fnS τ Γ η fn I outs a=some d:=hy;have hul:us.length=I.sl.length:=hul;unfold fnS at hy;split at hy
 ·cases hy
 ·rename_i c hb;exact yrR hm hτ (hΓ _ (gb_in hG R.hs)) hf hb (by rw[hul];exact bJ hl) hr R hy
end
def PL(P:Program)(G:List (Nat×Obj)):List (Nat×PC)->Prop
 |[]=>True|x::l=>PCok P G x.1 x.2/\PL P G l
def SL(P:Program)(G:List (Nat×Obj)):List (Nat×SC)->Prop
 |[]=>True|x::l=>SCok P G x.1 x.2/\SL P G l
theorem PL.at{P:Program}{G:List (Nat×Obj)}:∀{l:List (Nat×PC)},PL P G l->∀f c,pcAt l f=some c->PCok P G f c
 |[],_,f,c,h=>by cases h
 |(d,x)::l,⟨h1,h2⟩,f,c,h=>by
  unfold pcAt at h;cases hb:aG d f with
  |true=>rw[hb]at h;cases h;rw[<-aB hb];exact h1
  |false=>rw[hb]at h;exact PL.at h2 f c h
theorem SL.at{P:Program}{G:List (Nat×Obj)}:∀{l:List (Nat×SC)},SL P G l->∀f c,c∈scAt l f->SCok P G f c
 |[],_,f,c,h=>by cases h
 |(d,x)::l,⟨h1,h2⟩,f,c,h=>by
  unfold scAt at h;cases hb:aG d f with
  |true=>
   rw[hb]at h;rcases aK.1 h with rfl|h
   ·rw[<-aB hb];exact h1
   ·exact SL.at h2 f c h
  |false=>rw[hb]at h;exact SL.at h2 f c h
theorem ctok{P:Program}{G:List (Nat×Obj)}{pc:List (Nat×PC)}{sc:List (Nat×SC)}{k:Bool}{fm:List (Nat×List FSh)}(h1:PL P G pc)(h2:SL P G sc):∀B,GB G B->CTok P ⟨pc,sc,k,fm⟩ B:=fun _B hG=>
 ⟨fun f c h=>⟨(h1.at f c h).fn,fun S w us a y hA=>(h1.at f c h).ok S w us a y (hA.gs hG)⟩,fun f c h=>⟨(h2.at f c h).fn,fun S w us E L a d hA=>(h2.at f c h).ok S w us E L a d (hA.gs hG)⟩⟩
theorem yyR{P:Program}{G:List (Nat×Obj)}{τ:TE}{Γ:CT}{η:HT}{f:FuncId}{fn:Func}{c:PC}(hm:P.follows .mixedOrders=true)(hτ:TEok P τ)(hΓ:∀B,GB G B->CTok P Γ B)(hf:P.funcs[f]? = some fn)(hfn:IsFn P f)(hl:cK c.ash.length fn.ntmps=true)(hc:c.cl=false)(he:fnP τ Γ η fn c.ash c.rts=c.p):PCok P G f c:=by have h:=fn_ok (η:=η) (rts:=c.rts) hm hτ hΓ hf hfn hl;rw[he,<-hc]at h;exact h
theorem xbF{P:Program}{G:List (Nat×Obj)}{τ:TE}{Γ:CT}{η:HT}{f:FuncId}{fn:Func}{c:SC}(hm:P.follows .mixedOrders=true)(hτ:TEok P τ)(hΓ:∀B,GB G B->CTok P Γ B)(hf:P.funcs[f]? = some fn)(hfn:IsFn P f)(hl:cK c.I.sl.length fn.ntmps=true)(hr:aG fn.results.toList.length c.nr=true)(he:fnS τ Γ η fn c.I c.outs=c.p):SCok P G f c:=by have h:=fnS_ok (η:=η) (outs:=c.outs) hm hτ hΓ hf hfn hl hr;rw[he]at h;exact h
def keqS(x y:Bs):Bool:=x==y
def kltS(x y:Bs):Bool:=Op.bytesLess x y
abbrev hS:Sh:=.h .s
abbrev hI:Sh:=.h (.i .i64)
abbrev hB:Sh:=.h .b
def scal:Ty->Bool
 |.i _=>true|.b=>true|.s=>true|_=>false
def encV:(t:Ty)->den t->Value
 |.i k,x=>.int k (toI k x)|.b,x=>.bool x|.s,x=>str x|_,_=>undef
def encL:(l:List Ty)->zfB l->LV
 |[],_=>[]|[t],x=>[encV t x]|t::t'::l,x=>encV t x.1::encL (t'::l) x.2
def encR(l:List Ty)(x:zfB l):Value:=match l,x with
 |[t],x=>encV t x|l,x=>.tuple (encL l x).toArray
section
variable {S:Mem}{E:List EI}{P:Program}{G:List (Nat×Obj)}{f:FuncId}
theorem ynY:∀{t:Ty} {x:den t} {u:Value},scal t=true->VR S E (svOf t x) u->u=encV t x
 |.i k,x,u,_,h=>by have h:[u]=[Value.int k (toI k x)]:=h;exact(List.cons.inj h).1
 |.b,x,u,_,h=>by have h:[u]=[Value.bool x]:=h;exact(List.cons.inj h).1
 |.s,x,u,_,h=>by have h:[u]=[str x]:=h;exact(List.cons.inj h).1
theorem ynW:∀{t:Ty} {x:den t},scal t=true->rep1 t S (encV t x) x
 |.i _,_,_=>rfl|.b,_,_=>rfl|.s,_,_=>rfl
theorem ywI:∀{l:List Ty} {x:zfB l},l.all scal=true->repA S l (encL l x) x
 |[],_,_=>rfl|[t],x,h=>⟨_,rfl,ynW (by simpa using h)⟩|t::t'::l,x,h=>⟨_,_,rfl,ynW (by simp at h;exact h.1),ywI (by simp at h ⊢;exact h.2)⟩
theorem ylT{l:List Ty}{x:zfB l}(h:l.all scal=true):repR S l (encR l x) x:=match l,x,h with
 |[t],x,h=>show rep1 t S (encV t x) x from ynW (by simpa using h)
 |[],_,_=>⟨[],rfl,rfl⟩|t::t'::l,x,h=>⟨_,rfl,ywI h⟩
theorem pc1{t1:Ty}{rts:List Ty}{p:den t1->Option (zfB rts)}(h1:scal t1=true)(hr:rts.all scal=true)(hfn:IsFn P f) (h:∀S w x y,GS G S->Sub S w->p x=some y->Calls P f #[encV t1 x] w fun e w'=>e = .returned (encR rts y)/\Ext w w'):
  PCok P G f ⟨[.h t1],rts,p,false⟩:=by
 refine⟨hfn,fun S0 w0 us x y hG hS ha hy=>?_⟩;have ha:A2 (VR S0 []) [svOf t1 x] us:=ha;cases ha with
 |cons q1 q2=>cases q2;rw[ynY h1 q1];exact(h S0 w0 x y hG hS hy).mono fun e w' ⟨he,hx⟩=>⟨hx,_,he,ylT hr,fun h=>by cases h⟩
theorem pc2{t1 t2:Ty}{rts:List Ty}{p:den t1->den t2->Option (zfB rts)}(h1:scal t1=true)(h2:scal t2=true)(hr:rts.all scal=true)(hfn:IsFn P f) (h:∀S w x1 x2 y,GS G S->Sub S w->p x1 x2=some y->Calls P f #[encV t1 x1,encV t2 x2] w fun e w'=>e = .returned (encR rts y)/\Ext w w'):
  PCok P G f ⟨[.h t1,.h t2],rts,fun(x:den t1×den t2)=>p x.1 x.2,false⟩:=by
 refine⟨hfn,fun S0 w0 us (x:den t1×den t2) y hG hS ha hy=>?_⟩;have ha:A2 (VR S0 []) [svOf t1 x.1,svOf t2 x.2] us:=ha;cases ha with
 |cons q1 q2=>
  cases q2 with
  |cons q3 q4=>cases q4;rw[ynY h1 q1,ynY h2 q3];exact(h S0 w0 x.1 x.2 y hG hS hy).mono fun e w' ⟨he,hx⟩=>⟨hx,_,he,ylT hr,fun h=>by cases h⟩
end
end Go.Proofs.YtopanhneegpgcaaGreatDoor.Am
