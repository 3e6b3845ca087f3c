/- Parts of one proof. Conditions: as each theorem says. -/
import Derived.Test.YtmbcolbbekbccaaGreatQkM
open Bool renaming and_eq_true->aK,false_or->gR,or_eq_false_iff->cY
open List renaming all_cons->cO,append_assoc->bG,append_nil->cC,cons_append->bN,ext_getElem?->aX,getElem?_append_left->aF,getElem?_append_right->aH,getElem?_cons_succ->cD,getElem?_eq_getElem->aI,getElem?_eq_some_iff->aC,getElem?_map->bI,getElem?_of_mem->gU,getElem?_set_ne->aM,getElem?_set_self->aL,getElem?_toArray->eJ,length_append->aE,length_cons->aN,length_map->bL,length_set->bP,map_cons->bS,map_nil->fI,mem_append->cI,mem_append_left->dV,mem_append_right->fU,mem_cons->aT,mem_cons_of_mem->aS,mem_cons_self->bC,mem_map->eH,mem_of_getElem?->bJ,mem_singleton->aW,pairwise_append->fB,perm_append_singleton->dI,set_append_left->fC,set_append_right->eM,set_cons_zero->fN,set_set->gX
open Nat renaming beq->aG,beq_refl->dX,ble_eq->eV,blt->cM,eq_of_beq_eq_true->aB,le_of_ble_eq_true->aR,le_of_not_lt->fZ,le_refl->aJ,sub_self->dY,zero_add->aQ,zero_le->bX
open Option renaming map_some->bA
namespace Go.Proofs.YtmbcolbbekbccaaGreat.Am
open Go Go.RowKit
def zkE(I:List Nat):Nat->List Res->List Res
 |_,[]=>[]|i,r::l=>(bif hasN I i then zkC else r)::zkE I (i+1) l
def zhA(I:List Nat):Nat->List EI->List EI
 |_,[]=>[]|i,e::l=>(bif hasN I i then .dead else e)::zhA I (i+1) l
theorem zgB(I:List Nat):∀(l:List Res) (i j:Nat),(zkE I i l)[j]? = (l[j]?).map fun r=>bif hasN I (i+j)then zkC else r
 |[],_,_=>by simp[zkE]
 |r::l,i,0=>by simp[zkE]
 |r::l,i,j+1=>by simp only[zkE,cD,zgB I l (i+1) j];rw[show i+1+j=i+(j+1) by omega]
theorem zmG(I:List Nat):∀(l:List EI) (i j:Nat),(zhA I i l)[j]? = (l[j]?).map fun r=>bif hasN I (i+j)then EI.dead else r
 |[],_,_=>by simp[zhA]
 |r::l,i,0=>by simp[zhA]
 |r::l,i,j+1=>by simp only[zhA,cD,zmG I l (i+1) j];rw[show i+1+j=i+(j+1) by omega]
theorem zvT(I:List Nat):∀(l:List AO) (i j:Nat),(zrK I i l)[j]? = (l[j]?).map fun r=>bif hasN I (i+j)then AO.dead else r
 |[],_,_=>by simp[zrK]
 |r::l,i,0=>by simp[zrK]
 |r::l,i,j+1=>by simp only[zrK,cD,zvT I l (i+1) j];rw[show i+1+j=i+(j+1) by omega]
theorem zsM(I:List Nat):∀(l:List Res) (i:Nat),(zkE I i l).length=l.length
 |[],_=>rfl|_::l,i=>by simp only[zkE,aN,zsM I l]
theorem zkZ(I:List Nat):∀(l:List EI) (i:Nat),(zhA I i l).length=l.length
 |[],_=>rfl|_::l,i=>by simp only[zhA,aN,zkZ I l]
theorem zgI(I:List Nat):∀(l:List AO) (i:Nat),(zrK I i l).length=l.length
 |[],_=>rfl|_::l,i=>by simp only[zrK,aN,zgI I l]
theorem zwC(I:List Nat)(E:List EI):ELe E (zhA I 0 E):=fun i a h=>by
 refine⟨_,by rw[zmG,h];rfl,?_⟩;rw[aQ];cases hasN I i with
 |false=>exact a.le_refl|true=>
  show a.le .dead;cases a with
  |blk=>exact .inr rfl|osl=>exact .inr (.inl rfl)|mp=>exact .inl rfl|fam=>exact .inr (.inl rfl)|dead=>rfl
section
variable {B:Bas}{S S':Mem}{w w':World}{L A:List Res}
theorem HS.part(H:HS B S w L)(h:∀i r,lkR A i=some r->r=zkC∨lkR L i=some r):HS B S w A:=by
 refine⟨H.fr,H.sub,H.keep,fun k r hk=>?_,fun k r b hk hb=>?_,fun i j r s b hi hj h1 h2=>?_⟩
 ·rcases h k r hk with rfl|h
  ·exact .inl ⟨rfl,rfl,rfl,rfl⟩
  ·exact H.own k r h
 ·rcases h k r hk with rfl|h
  ·cases hb
  ·exact H.old k r b h hb
 ·rcases h i r hi with rfl|hi
  ·cases h1
  ·rcases h j s hj with rfl|hj
   ·cases h2
   ·exact H.inj i j r s b hi hj h1 h2
end
end Go.Proofs.YtmbcolbbekbccaaGreat.Am
namespace Go.Proofs.YtmbcolbbekbccaaGreat
open Go Go.RowKit
def Res.parts:Res->List R0
 |.blk b cs T=>[.blk b cs T]|.obj b o=>[.obj b o]|.osl v n sz cs rs T=>[.osl v n sz cs rs T]|.many rs=>rs
def xaI:R0:=.osl (.slice none 0 0) 0 0 [] [] 0
theorem R0.apart_one(q:R0):R0.apart [q]:=List.pairwise_singleton _ _
theorem Res.holds_parts{w:World}{r:Res}:r.holds w↔(∀q∈r.parts,q.holds w)/\R0.apart r.parts:=by
 cases r with
 |many rs=>exact Iff.rfl|_=>simp only[Res.parts,aW,forall_eq];exact⟨fun h=>⟨h,R0.apart_one _⟩,fun h=>h.1⟩
theorem Res.has_parts{r:Res}{b:Nat}:r.has b↔∃q∈r.parts,q.key=some b:=by
 cases r with
 |many rs=>exact Iff.rfl|_=>simp only[Res.parts,aW,exists_eq_left];exact Iff.rfl
theorem R0.up_parts(q:R0):q.up.parts=[q]:=by cases q<;>rfl
theorem R0.apart_symm{p q:R0}(h:∀b,p.key=some b->q.key≠some b):∀b,q.key=some b->p.key≠some b:=fun b h1 h2=>h b h2 h1
theorem R0.apart_perm{l l':List R0}(h:l.Perm l')(k:R0.apart l):R0.apart l':=h.pairwise k fun hh=>R0.apart_symm hh
theorem R0.apart_cons{q:R0}{l:List R0}(hq:q.key=none)(h:R0.apart l):R0.apart (q::l):=List.pairwise_cons.2 ⟨fun _ _ b hb=>(by rw[hq]at hb;cases hb),h⟩
end Go.Proofs.YtmbcolbbekbccaaGreat
namespace Go.Proofs.YtmbcolbbekbccaaGreat.Am
open Go Go.RowKit
section
variable {B:Bas}{S:Mem}{w:World}{L:List Res}{r:Res}
theorem HS.two(H:HS B S w L){i j:Nat}{r s r' s':Res}(hi:L[i]? = some r)(hj:L[j]? = some s)(hij:i≠j) (h1:∀q∈r'.parts++s'.parts,q=xaI∨q∈r.parts++s.parts) (h2:R0.apart (r.parts++s.parts)->R0.apart (r'.parts++s'.parts)):HS B S w ((L.set i r').set j s'):=by
 have hi':lkR L i=some r:=by rw[zaX];exact hi
 have hj':lkR L j=some s:=by rw[zaX];exact hj
 have hr:=Res.holds_parts.1 (H.own i r hi');have hs:=Res.holds_parts.1 (H.own j s hj');have hap:R0.apart (r.parts++s.parts):=fB.2 ⟨hr.2,hs.2,fun p hp q hq b h3 h4=>hij (H.inj i j r s b hi' hj' (Res.has_parts.2 ⟨p,hp,h3⟩) (Res.has_parts.2 ⟨q,hq,h4⟩))⟩;have hap':=fB.1 (h2 hap)
 have hold:∀q∈r'.parts++s'.parts,q.holds w:=fun q hq=>by
  rcases h1 q hq with rfl|h
  ·exact .inl ⟨rfl,rfl,rfl,rfl⟩
  ·rcases cI.1 h with h|h
   ·exact hr.1 q h
   ·exact hs.1 q h
 have whose:∀q∈r'.parts++s'.parts,∀b,q.key=some b->r.has b∨s.has b:=fun q hq b hb=>by
  rcases h1 q hq with rfl|h
  ·cases hb
  ·rcases cI.1 h with h|h
   ·exact .inl (Res.has_parts.2 ⟨q,h,hb⟩)
   ·exact .inr (Res.has_parts.2 ⟨q,h,hb⟩)
 have hli:=(aC.1 hi).1;have hlj:=(aC.1 hj).1
 have at_:∀{k q},lkR ((L.set i r').set j s') k=some q->(k=j/\q=s')∨(k=i/\q=r')∨(k≠i/\k≠j/\lkR L k=some q):=fun {k q} hk=>by
  rw[zaX]at hk;by_cases hkj:j=k
  ·subst hkj;rw[aL (by simpa using hlj)]at hk;cases hk;exact .inl ⟨rfl,rfl⟩
  ·rw[aM hkj]at hk;by_cases hki:i=k
   ·subst hki;rw[aL hli]at hk;cases hk;exact .inr (.inl ⟨rfl,rfl⟩)
   ·rw[aM hki]at hk;exact .inr (.inr ⟨Ne.symm hki,Ne.symm hkj,by rw[zaX];exact hk⟩)
 have mine:∀{k q b},((k=j/\q=s')∨(k=i/\q=r'))->q.has b->r.has b∨s.has b:=fun {k q b} hk hb=>by
  obtain⟨p,hp,hpb⟩:=Res.has_parts.1 hb;rcases hk with⟨_,rfl⟩|⟨_,rfl⟩
  ·exact whose p (fU _ hp) b hpb
  ·exact whose p (dV _ hp) b hpb
 have notmine:∀{k q b},k≠i->k≠j->lkR L k=some q->q.has b->(r.has b∨s.has b)->False:=fun {k q b} h3 h4 h5 h6 h7=>by
  rcases h7 with h7|h7
  ·exact h3 (H.inj k i q r b h5 hi' h6 h7)
  ·exact h4 (H.inj k j q s b h5 hj' h6 h7)
 refine⟨H.fr,H.sub,H.keep,fun k q hk=>?_,fun k q b hk hb=>?_,fun a c q p b ha hc h3 h4=>?_⟩
 ·rcases at_ hk with⟨rfl,rfl⟩|⟨rfl,rfl⟩|⟨_,_,h⟩
  ·exact Res.holds_parts.2 ⟨fun p hp=>hold p (fU _ hp),hap'.2.1⟩
  ·exact Res.holds_parts.2 ⟨fun p hp=>hold p (dV _ hp),hap'.1⟩
  ·exact H.own k q h
 ·have old:r.has b∨s.has b->(B.w0.heap.size<=b∨b∈B.X)/\S b=none:=fun h=>by
   rcases h with h|h
   ·exact H.old i r b hi' h
   ·exact H.old j s b hj' h
  rcases at_ hk with h|h|⟨_,_,h⟩
  ·exact old (mine (.inl h) hb)
  ·exact old (mine (.inr h) hb)
  ·exact H.old k q b h hb
 ·have cross:∀{b},r'.has b->s'.has b->False:=fun {b} h5 h6=>by obtain⟨x,hx,hxb⟩:=Res.has_parts.1 h5;obtain⟨y,hy,hyb⟩:=Res.has_parts.1 h6;exact hap'.2.2 x hx y hy b hxb hyb
  rcases at_ ha with⟨rfl,rfl⟩|⟨rfl,rfl⟩|⟨g1,g2,g3⟩
  ·rcases at_ hc with⟨rfl,rfl⟩|⟨rfl,rfl⟩|⟨f1,f2,f3⟩
   ·rfl
   ·exact(cross h4 h3).elim
   ·exact(notmine f1 f2 f3 h4 (mine (k:=a) (.inl ⟨rfl,rfl⟩) h3)).elim
  ·rcases at_ hc with⟨rfl,rfl⟩|⟨rfl,rfl⟩|⟨f1,f2,f3⟩
   ·exact(cross h3 h4).elim
   ·rfl
   ·exact(notmine f1 f2 f3 h4 (mine (k:=a) (.inr ⟨rfl,rfl⟩) h3)).elim
  ·rcases at_ hc with h|h|⟨f1,f2,f3⟩
   ·exact(notmine g1 g2 g3 h3 (mine (k:=c) (.inl h) h4)).elim
   ·exact(notmine g1 g2 g3 h3 (mine (k:=c) (.inr h) h4)).elim
   ·exact H.inj a c q p b g3 f3 h3 h4
theorem HS.snocD(H:HS B S w L):HS B S w (L++[zkC]):=HS.part H fun i r hi=>by
 rw[zaX]at hi ⊢;by_cases h:i<L.length
 ·rw[aF h]at hi;exact .inr hi
 ·rw[aH (by omega)]at hi;cases hk:i-L.length with
  |zero=>rw[hk]at hi;cases hi;exact .inl rfl
  |succ k=>rw[hk]at hi;cases hi
theorem HS.split(H:HS B S w L){i:Nat}{A A':List R0}{q:R0}(hi:L[i]? = some (.many A))(hp:A.Perm (q::A')):HS B S w (L.set i (.many A')++[q.up]):=by
 have hl:=(aC.1 hi).1;have h:=HS.two (HS.snocD H) (i:=i) (j:=L.length) (r:=.many A) (s:=zkC) (r':=.many A') (s':=q.up) (by rw[aF hl];exact hi) (by simp) (by omega) (fun p hp'=>?_) fun ha=>?_
 ·rw[fC _ _ hl,eM _ _ (by simp)]at h;simpa using h
 ·rw[R0.up_parts]at hp';right;refine dV _ ?_;rcases cI.1 hp' with h|h
  ·exact hp.mem_iff.2 (aS _ h)
  ·rw[aW.1 h];exact hp.mem_iff.2 bC
 ·rw[R0.up_parts];have h1:R0.apart A:=(fB.1 ha).1;exact R0.apart_perm (hp.trans (dI q A').symm) h1
theorem HS.join(H:HS B S w L){i j:Nat}{A A' D:List R0}{s:Res}(hi:L[i]? = some (.many A))(hj:L[j]? = some s)(hij:i≠j)(hp:(A++s.parts).Perm (A'++D)):HS B S w ((L.set i (.many A')).set j zkC):=by
 refine HS.two H hi hj hij (fun p hp'=>?_) fun ha=>?_
 ·rcases cI.1 hp' with h|h
  ·exact .inr (hp.mem_iff.2 (dV _ h))
  ·exact .inl (aW.1 h)
 ·have h1:R0.apart A':=(fB.1 (R0.apart_perm hp ha)).1;exact R0.apart_perm (dI xaI A').symm (R0.apart_cons rfl h1)
theorem HS.drop(H:HS B S w (L++[r])):HS B S w L:=HS.part H fun k q hk=>.inr (by
 rw[zaX]at hk ⊢;rw[aF (aC.1 hk).1]
 exact hk)
theorem HS.toMany(H:HS B S w L){i:Nat}{r:Res}(hi:L[i]? = some r):HS B S w (L.set i (.many r.parts)):=by have hl:=(aC.1 hi).1;have h:=HS.two (HS.snocD H) (i:=i) (j:=L.length) (r:=r) (s:=zkC) (r':=.many r.parts) (s':=zkC) (by rw[aF hl];exact hi) (by simp) (by omega) (fun p hp'=>.inr hp') fun ha=>ha;rw[fC _ _ hl,eM _ _ (by simp)]at h;simp only[bP,dY,fN]at h;exact HS.drop h
end
section
variable {β:Type}{τ:TE}{Γ:CT}{n:Nat}{P:Program}{B:Bas}{S:Mem}{E:List EI}{L:List Res}{σ:St}{m:FM}{w:World}{V:Nat->Value}
theorem HS.splits{i:Nat}{A':List R0}:∀{rs A:List R0} {L:List Res},HS B S w L->L[i]? = some (.many A)->A.Perm (rs++A')->HS B S w (L.set i (.many A')++rs.map R0.up)
 |[],A,L,H,hi,hp=>by
  have h:=HS.two (HS.snocD H) (i:=i) (j:=L.length) (r:=.many A) (s:=zkC) (r':=.many A') (s':=zkC) (by rw[aF (aC.1 hi).1];exact hi) (by simp) (by have:=(aC.1 hi).1;omega) (fun p hp'=>?_) fun ha=>?_
  ·rw[fC _ _ (aC.1 hi).1,eM _ _ (by simp)]at h;refine HS.part h fun k r hk=>.inr ?_;rw[zaX]at hk ⊢;rw[fI,cC]at hk;rw[aF (by have:=(aC.1 hk).1;exact this)];exact hk
  ·rcases cI.1 hp' with h|h
   ·exact .inr (dV _ (hp.mem_iff.2 h))
   ·exact .inl (aW.1 h)
  ·have h1:R0.apart A:=(fB.1 ha).1;exact R0.apart_perm (dI xaI A').symm (R0.apart_cons rfl (R0.apart_perm hp h1))
 |q::rs,A,L,H,hi,hp=>by have h:=HS.split H hi (q:=q) (A':=rs++A') hp;have hl:=(aC.1 hi).1;have h2:=HS.splits (i:=i) (A':=A') (rs:=rs) (A:=rs++A') h (by rw[aF (by simpa using hl),aL hl]) (List.Perm.refl _);rw[fC _ _ (by simpa using hl),gX,bG]at h2;exact h2
theorem HS.joins{i:Nat}{A':List R0}:∀{js:List Nat} {rs A:List R0} {L:List Res},HS B S w L->L[i]? = some (.many A)->js.length=rs.length->js.Nodup->i∉js->(∀(k j:Nat) (q:R0),js[k]? = some j->rs[k]? = some q->L[j]? = some q.up)->A'.Perm (A++rs)->HS B S w (zkE js 0 (L.set i (.many A')))
 |[],[],A,L,H,hi,_,_,_,_,hp=>by
  have h:=HS.splits (i:=i) (rs:=[]) (A':=A') H hi (by simpa using hp.symm);rw[fI,cC]at h;have:zkE [] 0 (L.set i (.many A'))=L.set i (.many A'):=by refine aX fun k=>?_;rw[zgB];simp[hasN]
  rw[this];exact h
 |j::js,q::rs,A,L,H,hi,hl,hd,hn,hj,hp=>by
  have hij:i≠j:=fun e=>hn (e▸bC);have h:=HS.join H hi (hj 0 j q rfl rfl) hij (A':=A++[q]) (D:=[]) (by rw[R0.up_parts,cC]);have hli:=(aC.1 hi).1;rw[List.nodup_cons]at hd
  have h2:=HS.joins (i:=i) (A':=A') (js:=js) (rs:=rs) (A:=A++[q]) h (by rw[aM (Ne.symm hij),aL hli]) (by simpa using hl) hd.2 (fun h=>hn (aS _ h)) (fun k j' q' h1 h2=>by
   have hjm:=bJ h1;rw[aM (fun e=>hd.1 (by rw[e];exact hjm)),aM (fun e=>hn (by rw[e];exact aS _ hjm))]
   exact hj (k+1) j' q' (by simpa using h1) (by simpa using h2)) (by rw[bG];exact hp)
  have:zkE (j::js) 0 (L.set i (.many A'))=zkE js 0 (((L.set i (.many (A++[q]))).set j zkC).set i (.many A')):=by
   refine aX fun k=>?_;rw[zgB,zgB,aQ];by_cases hki:i=k
   ·subst hki;rw[aL hli,aL (by simpa using hli)];simp only[bA,hasN];cases hb:aG j i with
    |true=>exact absurd (aB hb).symm hij|false=>rfl
   ·rw[aM hki,aM hki];by_cases hkj:j=k
    ·subst hkj;have hlj:=(aC.1 (hj 0 j q rfl rfl)).1;rw[aL (by simpa using hlj),hj 0 j q rfl rfl];simp only[bA,hasN,dX,Bool.true_or,zE];cases hasN js j<;>rfl
    ·rw[aM hkj,aM hki];congr 1;funext r;have:hasN (j::js) k=hasN js k:=by
      simp only[hasN];cases hb:aG j k with
      |true=>exact absurd (aB hb) hkj|false=>rfl
     rw[this]
  rw[this];exact h2
 |[],_::_,_,_,_,_,hl,_,_,_,_=>by cases hl
 |_::_,[],_,_,_,_,hl,_,_,_,_=>by cases hl
theorem zzU(o:OSh)(os:List OSh)(l:List SV):∃a l',zdM (o::os) l=a::zdM os l'/\∀ver e T (xs:List (den e)),a = .osl ver e T xs->ver=0:=by
 cases o with
 |blk T s=>exact⟨_,_,rfl,fun _ _ _ _ h=>by cases h⟩|dead=>exact⟨_,l,rfl,fun _ _ _ _ h=>by cases h⟩|osl e T=>
  cases l with
  |nil=>exact⟨_,[],rfl,fun _ _ _ _ h=>by cases h⟩|cons x l=>
   cases x with
   |v t y=>
    cases t with
    |sl e'=>exact⟨_,l,rfl,fun ver e T xs h=>by split at h<;>first|(cases h;done)|(cases h;rfl)⟩|_=>exact⟨_,_,rfl,fun _ _ _ _ h=>by cases h⟩
   |_=>exact⟨_,_,rfl,fun _ _ _ _ h=>by cases h⟩
 |fam T f=>
  cases l with
  |nil=>exact⟨_,[],rfl,fun _ _ _ _ h=>by cases h⟩|cons x l=>
   cases x with
   |v t y=>
    cases t with
    |sl e'=>exact⟨_,l,rfl,fun ver e T xs h=>by split at h<;>cases h⟩|_=>exact⟨_,_,rfl,fun _ _ _ _ h=>by cases h⟩
   |_=>exact⟨_,_,rfl,fun _ _ _ _ h=>by cases h⟩
 |qu e T=>
  cases l with
  |nil=>exact⟨_,[],rfl,fun _ _ _ _ h=>by cases h⟩|cons x l=>
   cases x with
   |v t y=>
    cases t with
    |sl e'=>exact⟨_,l,rfl,fun ver e T xs h=>by split at h<;>cases h⟩|_=>exact⟨_,_,rfl,fun _ _ _ _ h=>by cases h⟩
   |_=>exact⟨_,_,rfl,fun _ _ _ _ h=>by cases h⟩
 |mp kp K V=>
  cases l with
  |nil=>exact⟨_,[],rfl,fun _ _ _ _ h=>by cases h⟩|cons x l=>
   cases x with
   |v t y=>
    cases t with
    |mp a c=>exact⟨_,l,rfl,fun ver e T xs h=>by split at h<;>cases h⟩|_=>exact⟨_,_,rfl,fun _ _ _ _ h=>by cases h⟩
   |_=>exact⟨_,_,rfl,fun _ _ _ _ h=>by cases h⟩
 |is=>
  cases l with
  |nil=>exact⟨_,[],rfl,fun _ _ _ _ h=>by cases h⟩|cons x l=>
   cases x with
   |v t y=>
    cases t with
    |s=>
     cases l with
     |nil=>exact⟨_,_,rfl,fun _ _ _ _ h=>by cases h⟩|cons x2 l=>
      cases x2 with
      |v t2 y2=>
       cases t2 with
       |i k=>cases k<;>exact⟨_,_,rfl,fun _ _ _ _ h=>by cases h⟩
       |_=>exact⟨_,_,rfl,fun _ _ _ _ h=>by cases h⟩
      |_=>exact⟨_,_,rfl,fun _ _ _ _ h=>by cases h⟩
    |_=>exact⟨_,_,rfl,fun _ _ _ _ h=>by cases h⟩
   |_=>exact⟨_,_,rfl,fun _ _ _ _ h=>by cases h⟩
 |it j kp K=>
  cases l with
  |nil=>exact⟨_,[],rfl,fun _ _ _ _ h=>by cases h⟩|cons x l=>
   cases x with
   |v t y=>
    cases t with
    |sl a=>exact⟨_,l,rfl,fun ver e T xs h=>by split at h<;>cases h⟩|_=>exact⟨_,_,rfl,fun _ _ _ _ h=>by cases h⟩
   |_=>exact⟨_,_,rfl,fun _ _ _ _ h=>by cases h⟩
theorem zsW:∀(os:List OSh) (l:List SV),(zdM os l).length=os.length
 |[],l=>by cases l<;>rfl
 |o::os,l=>by obtain⟨a,l',h,_⟩:=zzU o os l;rw[h,aN,aN,zsW os]
def ymP:AO->Prop
 |.blk _ _=>True|.mp _ _ _ _=>True|.dead=>True|_=>False
theorem xaM(o:FSh)(os:List OSh)(l:List SV):∃a l',zdM (o.up::os) l=a::zdM os l'/\ymP a:=by
 cases o with
 |blk T s=>exact⟨_,_,rfl,trivial⟩|mp K V=>
  cases l with
  |nil=>exact⟨_,[],rfl,trivial⟩|cons x l=>
   cases x with
   |v t y=>
    cases t with
    |mp a c=>exact⟨_,l,rfl,by split<;>trivial⟩|_=>exact⟨_,_,rfl,trivial⟩
   |_=>exact⟨_,_,rfl,trivial⟩
theorem zmT:∀{f:List FSh} {l:List SV} {o:AO},o∈zdM (f.map FSh.up) l->ymP o
 |[],_,_,h=>by cases h
 |s::f,l,o,h=>by
  obtain⟨a,l',h1,h2⟩:=xaM s (f.map FSh.up) l;rw[bS,h1]at h;rcases aT.1 h with rfl|h
  ·exact h2
  ·exact zmT h
theorem OR0.ren{F vf:Nat->Nat}{Ei E2:List EI}{S:Mem}{o:AO}{r:Res}{e:EI}(hl:Link F vf Ei E2)(hk:ymP o)(h:OR0 S Ei o r e):OR S E2 (renN F vf o) r e:=by
 cases o with
 |blk T cs=>obtain⟨b,us,h1,h2,h3⟩:=h;exact⟨b,us,h1,h2,h3.map (f:=renC F vf) fun _ _=>zxH hl⟩
 |mp=>exact h|dead=>exact h|_=>exact hk.elim
theorem OR0.nofam{E:List EI}{S:Mem}{o:AO}{r:Res}{e:EI}(hk:ymP o)(h:OR0 S E o r e):∀r v bs,e≠.fam r v bs:=fun r v bs he=>by
 subst he;cases o with
 |blk=>obtain⟨_,_,_,h,_⟩:=h;cases h
 |mp=>obtain⟨_,_,_,_,h,_⟩:=h;cases h
 |dead=>cases h.2
 |_=>exact hk.elim
theorem ybC{α:Type}:∀{ms:List (List α)} {j:Nat} {rs:List α},ms[j]? = some rs->ms.flatten.Perm (rs++(ms.set j []).flatten)
 |[],j,rs,h=>by simp at h
 |m::ms,0,rs,h=>by simp at h;subst h;simp
 |m::ms,j+1,rs,h=>by have ih:=ybC (ms:=ms) (j:=j) (rs:=rs) (by simpa using h);simp only[List.flatten_cons,List.set_cons_succ];exact(ih.append_left m).trans ((List.perm_append_comm_assoc m rs _))
theorem xbT(R:RelV B S E L σ V w){t:Nat}{k:St->Option β}{r:β}(h:foc σ t k=some r):∃σ1 E1 L1 id i,lkS σ.sl t = .fp id i 0/\k σ1=some r/\ELe E E1/\RelV B S E1 L1 σ1 V w/\VR S E1 (.fp id i 0) (V t)/\VR S E1 (.ptr σ.hp.length 0) (V t)/\∀j,j≠id->j<L.length->lkR L1 j=lkR L j:=by
 unfold foc at h;split at h
 ·rename_i id i hs;split at h
  ·rename_i v0 T0 f ks hc;obtain⟨hroot,hq⟩:=zaJ h;obtain⟨x,hx,hk⟩:=bnd hq;rw[zcT]at hc;obtain⟨r0,e0,g1,g2,v,rs,ms,bs,rfl,rfl,g3⟩:=R.obj id _ hc;have hsl:=R.sl t;rw[hs]at hsl;have hsl0:=hsl;obtain⟨_,e1,h5,h6⟩:=hsl;rw[g2]at h5;cases h5;obtain⟨hi0,b,hb,hv⟩:=h6 _ _ _ rfl;obtain⟨hi,hx2⟩:=zaP hx;obtain⟨rs1,b1,k1,k2,k3⟩:=g3.mem _ _ hx2 (by simp);rw[hb]at k2;cases k2;obtain⟨Ei,m1,m2,m3,m4⟩:=k3;have hpl:(zdM (f.map FSh.up) (zhN _ (toS f x))).length=f.length:=by rw[zsW,bL]
   have hidL:id<L.length:=(aC.1 g1).1;have hidE:id<E.length:=(aC.1 g2).1;have hidH:id<σ.hp.length:=by rw[<-R.lE];exact hidE
   have H:=HS.splits R.hs (i:=id) (rs:=rs1) (A':=.osl v ks.length 1 (bs.map ptrV) rs T0::(ms.set i.toNat []).flatten) g1
    ((List.Perm.cons _ (ybC k1)).trans List.perm_middle.symm)
   have hlink:Link (fun j=>σ.hp.length+j) (fun _=>0) Ei (E++Ei):=fun j e' hj=>by
    refine⟨e',by show(E++Ei)[σ.hp.length+j]? = _;rw[aH (by rw[R.lE];omega),R.lE,show σ.hp.length+j-σ.hp.length=j by omega];exact hj,fun b hb=>hb,fun r v s hb=>⟨bX _,fun h0=>by rw[hb,<-h0]⟩,fun g b ck es hb=>⟨g,hb⟩,?_⟩;have hjl:j<(zdM (f.map FSh.up) (zhN _ (toS f x))).length:=by rw[hpl,<-m3];exact(aC.1 hj).1
    obtain⟨r1,e1,q1,q2,q3⟩:=m4 j _ (aI hjl);rw[hj]at q2;cases q2;exact q3.nofam (zmT (List.getElem_mem hjl))
   have hE:ELe E (E++Ei):=ELe.push E Ei;have hp:VR S (E++Ei) (.ptr σ.hp.length 0) (V t):=by
    have hEi0:0<Ei.length:=by
     rw[m3];cases f with
     |nil=>cases hroot
     |cons=>simp
    exact⟨b,hv,Ei[0],by rw[aH (by rw[R.lE];exact aJ _),R.lE,dY];exact aI hEi0,fun b' hb'=>m1 b' (by rw[aI hEi0,hb'])⟩
   refine⟨_,E++Ei,_,id,i,hs,hk,hE,⟨H,?_,?_,fun j o ho=>?_,fun t'=>?_⟩,hsl0.mono (Mem.le_refl S) hE,hp,fun j hj hl=>by rw[zaX,zaX,aF (by simpa using hl),aM (Ne.symm hj)]⟩
   ·simp[zeE,R.lL,hpl,m2]
   ·simp[zeE,R.lE,hpl,m3]
   ·have ho:(setN σ.hp id (.famO v0 T0 f ks i)++(zdM (f.map FSh.up) (zhN _ (toS f x))).map (renN (fun j=>σ.hp.length+j) fun _=>0))[j]? = some o:=ho;rw[zeE]at ho;by_cases hj:j<σ.hp.length
    ·rw[aF (by simpa using hj)]at ho;by_cases hji:id=j
     ·subst hji;rw[aL hj]at ho;cases ho;refine⟨_,_,by rw[aF (by simpa using hidL),aL hidL],by rw[aF hidE];exact g2,hi0,(aC.1 hx2).1,v,rs,ms.set i.toNat [],bs,rfl,rfl,⟨by simpa using g3.l1,g3.l2,fun a y ha hne=>?_,fun a ha=>?_⟩⟩
      ·have hne':i.toNat≠a:=fun e=>hne (by rw[e]);obtain⟨rs2,b2,q1,q2,q3⟩:=g3.mem a y ha (by simp);exact⟨rs2,b2,by rw[aM hne'];exact q1,q2,q3⟩
      ·cases ha;exact aL (aC.1 k1).1
     ·rw[aM hji]at ho;obtain⟨r2,e2,q1,q2,q3⟩:=R.obj j o ho;exact⟨r2,e2,by rw[aF (by rw[bP,R.lL];exact hj),aM hji];exact q1,by rw[aF (by rw[R.lE];exact hj)];exact q2,q3.mono (Mem.le_refl S) hE⟩
    ·rw[aH (by simpa using fZ hj),bP,bI]at ho;cases ho2:(zdM (f.map FSh.up) (zhN _ (toS f x)))[j-σ.hp.length]? with
     |none=>rw[ho2]at ho;cases ho
     |some o'=>
      rw[ho2]at ho;cases ho;obtain⟨r2,e2,q1,q2,q3⟩:=m4 _ _ ho2;refine⟨r2.up,e2,?_,?_,OR0.ren hlink (zmT (bJ ho2)) q3⟩
      ·rw[aH (by rw[bP,R.lL];omega),bP,R.lL,bI,q1];rfl
      ·rw[aH (by rw[R.lE];omega),R.lE];exact q2
   ·show VR S (E++Ei) (bif aG t t' then .ptr σ.hp.length 0 else lkS σ.sl t') _;cases ht:aG t t' with
    |true=>rw[<-aB ht];exact hp|false=>exact(R.sl t').mono (Mem.le_refl S) hE
  ·cases h
 ·cases h
theorem yqD:∀(n b k:Nat),(upN b n)[k]? = if k<n then some (b+k)else none
 |0,b,k=>by simp[upN]
 |n+1,b,0=>by simp[upN]
 |n+1,b,k+1=>by
  rw[upN,cD,yqD n (b+1) k];by_cases h:k<n
  ·rw[zH h,zH (by omega)];congr 1;omega
  ·rw[zG h,zG (by omega)]
theorem yiJ:∀(n b:Nat),(upN b n).length=n
 |0,_=>rfl|n+1,b=>by rw[upN,aN,yiJ n]
theorem zwZ:∀{n b j:Nat},j∈upN b n->∃k,k<n/\j=b+k
 |0,_,_,h=>by cases h
 |n+1,b,j,h=>by
  rcases aT.1 h with rfl|h
  ·exact⟨0,by omega,rfl⟩
  ·obtain⟨k,h1,h2⟩:=zwZ h;exact⟨k+1,by omega,by omega⟩
theorem yfF:∀(n b:Nat),(upN b n).Nodup
 |0,_=>List.nodup_nil|n+1,b=>List.nodup_cons.2 ⟨fun h=>by obtain⟨k,_,h2⟩:=zwZ h;omega,yfF n (b+1)⟩
theorem ykO:∀{l:List Nat} {j:Nat},hasN l j=true->j∈l
 |[],_,h=>by cases h
 |x::l,j,h=>by
  unfold hasN at h;cases hb:aG x j with
  |true=>rw[aB hb];exact bC|false=>rw[hb]at h;exact aS _ (ykO h)
theorem yhB{l:List Nat}{j:Nat}(h:j∉l):hasN l j=false:=by
 cases hb:hasN l j with
 |false=>rfl|true=>exact absurd (ykO hb) h
theorem OR0.up{E:List EI}{S:Mem}{o:AO}{r:Res}{e:EI}(hk:ymP o)(h:OR S E o r e):∃q:R0,r=q.up/\OR0 S E o q.up e:=by
 cases o with
 |blk T cs=>obtain⟨b,us,rfl,h2,h3⟩:=h;exact⟨.blk b us T,rfl,b,us,rfl,h2,h3⟩
 |mp g K V es=>obtain⟨b,ents,ck,rfl,h2⟩:=h;exact⟨.obj b (.map (List.toArray ents) ck),rfl,b,ents,ck,rfl,h2⟩
 |dead=>obtain⟨rfl,h2⟩:=h;exact⟨xaI,rfl,rfl,h2⟩
 |_=>exact hk.elim
theorem xcJ:∀{ls:List Res},(∀r∈ls,∃q:R0,r=q.up)->∃rs:List R0,ls=rs.map R0.up
 |[],_=>⟨[],rfl⟩|r::ls,h=>by obtain⟨q,rfl⟩:=h r bC;obtain⟨rs,rfl⟩:=xcJ (ls:=ls) fun r hr=>h r (aS _ hr);exact⟨q::rs,rfl⟩
theorem xaR(L:List Res):∀{os:List OSh} {ids:List Nat} {k id:Nat} {o:OSh} {r:Res},os[k]? = some o->live o=true->ids[k]? = some id->L[id]? = some r->(reL L os ids)[k]? = some r
 |[],_,_,_,_,_,h,_,_,_=>by simp at h
 |_::_,[],_,_,_,_,_,_,h,_=>by simp at h
 |o::os,i::ids,0,id,o',r,h1,h2,h3,h4=>by simp at h1 h3;subst h1;subst h3;simp only[reL,List.getElem?_cons_zero,h2,zE,zaX,h4]
 |o::os,i::ids,k+1,id,o',r,h1,h2,h3,h4=>by simp only[reL,cD];exact xaR L (by simpa using h1) h2 (by simpa using h3) h4
theorem ywD(L:List Res):∀(os:List OSh) (ids:List Nat),os.length=ids.length->(reL L os ids).length=ids.length
 |[],[],_=>rfl|_::os,_::ids,h=>by simp[reL,ywD L os ids (by simpa using h)]
theorem ybQ(o:FSh):live o.up=true:=by cases o<;>rfl
theorem yuN{o:FSh}{ao:AO}(h:yaW o.up ao=true):ymP ao:=by cases o<;>cases ao<;>first|trivial|cases h
theorem xdP(f:List FSh)(x:zcM (sF f).tys):toS f (ofS f x)=x:=by unfold toS ofS;rw[yqF,cast_cast,cast_eq]
theorem Mem1.first{S:Mem}{f:List FSh}{x:den (fT f)}{rs:List R0}{b:Nat}(hf:rootB f=true)(h:Mem1 S f x rs b):∃us T',R0.blk b us T'∈rs:=by
 obtain⟨Ei,h1,h2,h3,h4⟩:=h;cases f with
 |nil=>cases hf
 |cons s f=>
  cases s with
  |mp=>cases hf
  |blk T l=>
   obtain⟨r,e,k1,k2,b',us,k4,rfl,k6⟩:=h4 0 (.blk T _) rfl;have hbb:=h1 _ k2;rw[hbb]at k4;refine⟨us,T,?_⟩;have:r = .blk b us T:=by cases r<;>simp only[R0.up,Res.blk.injEq,reduceCtorEq]at k4;obtain⟨rfl,rfl,rfl⟩:=k4;rfl
   rw[<-this];exact bJ k1
theorem yfV{f:List FSh}{x:zcM (sF f).tys}{ρ:List Nat}{u:Value}(R:RelV B S E L σ V w)(hl:f.length=ρ.length){s0:SV}(hs:VR S E s0 u)(ha:(sF f).get1 ρ ⟨[(0,s0)],σ.hp⟩=some x):∃rs:List R0,rs.length=f.length/\(∀b,u=ptrV b->Mem1 S f (ofS f x) rs b)/\(∀(k j:Nat) (q:R0),ρ[k]? = some j->rs[k]? = some q->L[j]? = some q.up)/\dist (f.map FSh.up) ρ=true /\(∀(k j:Nat) (o:FSh),f[k]? = some o->ρ[k]? = some j->∃ao,σ.hp[j]? = some ao/\yaW o.up ao=true):=by
 have hl':(sF f).hp.length=ρ.length:=by show(f.map FSh.up).length=_;rw[bL];exact hl
 have RB:RelV B S E L ⟨[(0,s0)],σ.hp⟩ (fun t=>if t=0 then u else undef) w:=⟨R.hs,R.lL,R.lE,R.obj,fun t=>by
  show VR S E (bif aG 0 t then s0 else .undef) _;cases t with
  |zero=>exact hs|succ t=>trivial⟩
 have RI:=ydC RB hl' ha;obtain⟨hd,q,hq⟩:=yaY ha;have hd:dist (f.map FSh.up) ρ=true:=hd;have hq:zhU ρ σ.hp (f.map FSh.up) ρ=some q:=hq;have kind:∀(k j:Nat) (o:FSh),f[k]? = some o->ρ[k]? = some j->∃ao,σ.hp[j]? = some ao/\yaW o.up ao=true:=fun k j o h1 h2=>
  ztS hq (by rw[bI,h1];rfl) (ybQ o) h2
 have hput:((sF f).put x).hp=zdM (f.map FSh.up) (zhN _ x):=rfl;have hpl:(zdM (f.map FSh.up) (zhN _ x)).length=f.length:=by rw[zsW,bL]
 have hlr:(reL L (f.map FSh.up) ρ).length=f.length:=by rw[ywD _ _ _ (by rw[bL];exact hl),hl]
 have hle:(reE E (f.map FSh.up) ρ).length=f.length:=by rw[ygZ _ _ _ (by rw[bL];exact hl),hl]
 obtain⟨rs,hrs⟩:∃rs:List R0,reL L (f.map FSh.up) ρ=rs.map R0.up:=xcJ fun r hr=>by
  obtain⟨k,hk⟩:=gU hr;have hkl:k<(zdM (f.map FSh.up) (zhN _ x)).length:=by rw[hpl,<-hlr];exact(aC.1 hk).1
  obtain⟨r1,e1,q1,q2,q3⟩:=RI.obj k _ (by rw[hput];exact aI hkl);have q1:(reL L (f.map FSh.up) ρ)[k]? = some r1:=q1;rw[hk]at q1;cases q1;obtain⟨q,hq,_⟩:=OR0.up (zmT (List.getElem_mem hkl)) q3;exact⟨q,hq⟩
 have hrl:rs.length=f.length:=by rw[<-hlr,hrs,bL]
 refine⟨rs,hrl,fun b hb=>⟨reE E (f.map FSh.up) ρ,fun b' hb'=>?_,hrl,hle,fun i o ho=>?_⟩,fun k j q h1 h2=>?_,hd,kind⟩
 ·obtain⟨b4,k1,e,k2,k3⟩:VR S (reE E (f.map FSh.up) ρ) (.ptr 0 0) u:=RI.sl 0;rw[hb]at k1;have hbb:b=b4:=by unfold ptrV at k1;injection k1 with k1;injection k1 with k1;injection k1
  rw[hb']at k2;rw[hbb];exact k3 b' (osi k2).symm
 ·rw[xdP]at ho;obtain⟨r1,e1,q1,q2,q3⟩:=RI.obj i o ho;have q1:(reL L (f.map FSh.up) ρ)[i]? = some r1:=q1;obtain⟨q,rfl,q4⟩:=OR0.up (zmT (bJ ho)) q3;rw[hrs,bI]at q1;cases hq:rs[i]? with
  |none=>rw[hq]at q1;cases q1
  |some q'=>rw[hq]at q1;have:q'.up=q.up:=osi q1;exact⟨q',e1,rfl,q2,by rw[this];exact q4⟩
 ·have hkf:k<f.length:=by rw[<-hrl];exact(aC.1 h2).1
  obtain⟨ao,h3,_⟩:=kind k j _ (aI hkf) h1;obtain⟨r1,_,q1,_,_⟩:=R.obj j ao h3;have:=xaR L (os:=f.map FSh.up) (ids:=ρ) (by rw[bI,aI hkf];rfl) (ybQ _) h1 q1;rw[hrs,bI,h2]at this;rw[q1,<-this];rfl
theorem xcO(R:RelV B S E L σ V w){t id base:Nat}{i0:Int}{k:St->Option β}{r:β}(hV1:VR S E (.fp id i0 0) (V t))(hV2:VR S E (.ptr base 0) (V t))(h:unf σ t id i0 base k=some r):∃σ' S' E' L',k σ'=some r/\Mem.le S S'/\ELe E E'/\RelV B S' E' L' σ' V w/\∀j,j≠id->j<base->hasN (unfN σ id base) j=false->lkR L' j=lkR L j:=by
 unfold unf at h
 ·obtain⟨S1,E1,L1,hS1,hE1,R1,hF1⟩:=zvR (unfN σ id base) R;generalize frzL σ (unfN σ id base)=σ1 at *;unfold unf1 at h;split at h
  ·rename_i v0 T f ks i hc;obtain⟨hroot,hq⟩:=zaJ h;clear h;split at hq
   ·rename_i x ha;obtain⟨r',hset,hk⟩:=bnd hq;obtain⟨hi,hil,hr'⟩:=zlB hset;rw[zcT]at hc;obtain⟨r0,e0,g1,g2,hi0,hi1,v,cr,ms,bs,rfl,rfl,g3⟩:=R1.obj id _ hc;have hV1':=hV1.mono hS1 hE1;have hV2':=hV2.mono hS1 hE1;obtain⟨rs,hrl,hmem,hat,hd,hkind⟩:=yfV R1 (yiJ f.length base).symm hV2' ha;obtain⟨_,e1,h5,h6⟩:=hV1';rw[g2]at h5;cases h5;obtain⟨hj0,b,hb,hv⟩:=h6 _ _ _ rfl;have hv:V t=ptrV b:=hv;have hm:=hmem b hv
    -- the member that was out is this one
    have hii:i.toNat=i0.toNat:=Classical.byContradiction fun hne=>by
     have hlt:i0.toNat<ks.length:=by rw[<-g3.l2];exact(aC.1 hb).1
     obtain⟨rs2,b2,q1,q2,q3⟩:=g3.mem i0.toNat _ (aI hlt) (fun h=>hne (osi h));rw[hb]at q2;cases q2;obtain⟨us2,T2,q4⟩:=q3.first hroot;obtain⟨us3,T3,q5⟩:=hm.first hroot;obtain⟨kk,q6⟩:=gU q5;have hkl:kk<f.length:=by rw[<-hrl];exact(aC.1 q6).1
     have hup:(upN base f.length)[kk]? = some (base+kk):=by rw[yqD,zH hkl]
     have q7:=hat kk (base+kk) _ hup q6;have:=R1.hs.inj id (base+kk) _ _ b (by rw[zaX];exact g1) (by rw[zaX];exact q7) (Res.has_parts.2 ⟨_,aS _ (List.mem_flatten.2 ⟨rs2,bJ q1,q4⟩),rfl⟩) (R0.up_has.2 rfl);obtain⟨ao,q8,q9⟩:=hkind kk (base+kk) _ (aI hkl) hup;rw[<-this,hc]at q8;cases q8;exact yuN q9
    rw[<-hii]at hb;have hnot:id∉upN base f.length:=fun hmm=>by obtain⟨kk,h1,h2⟩:=zwZ hmm;obtain⟨ao,q8,q9⟩:=hkind kk id _ (aI h1) (by rw[yqD,zH h1,h2]);rw[hc]at q8;cases q8;exact yuN q9
    have hms:ms[i.toNat]? = some []:=g3.no _ rfl;have hml:i.toNat<ms.length:=(aC.1 hms).1;have hperm:(R0.osl v ks.length 1 (bs.map ptrV) cr T::(ms.set i.toNat rs).flatten).Perm ((R0.osl v ks.length 1 (bs.map ptrV) cr T::ms.flatten)++rs):=by
     have h1:=ybC (ms:=ms.set i.toNat rs) (j:=i.toNat) (rs:=rs) (aL hml);rw[gX]at h1;have h2:ms.set i.toNat []=ms:=by
      refine aX fun a=>?_;by_cases ha:i.toNat=a
      ·subst ha;rw[aL hml,hms]
      ·rw[aM ha]
     rw[h2]at h1;exact(List.Perm.cons _ (h1.trans List.perm_append_comm))
    have H:=HS.joins (i:=id) (js:=upN base f.length) (rs:=rs) R1.hs g1 (by rw[yiJ,hrl]) (yfF _ _) hnot hat hperm;have hidL:id<L1.length:=(aC.1 g1).1;have hidH:id<σ1.hp.length:=(aC.1 hc).1;have hE3:=zwC (upN base f.length) E1;refine⟨_,S1,zhA (upN base f.length) 0 E1,_,hk,hS1,hE1.trans hE3,⟨H,?_,?_,fun j o ho=>?_,fun t'=>?_⟩,fun j hj hjb hnn=>?_⟩
    ·simp[zsM,zgI,zeE,R1.lL]
    ·simp[zkZ,zgI,zeE,R1.lE]
    ·have ho:(zrK (upN base f.length) 0 (setN σ1.hp id (.fam v0 T f r')))[j]? = some o:=ho;rw[zvT,zeE,aQ]at ho;cases hh:hasN (upN base f.length) j with
     |true=>
      cases ho2:(σ1.hp.set id (.fam v0 T f r'))[j]? with
      |none=>rw[ho2]at ho;cases ho
      |some o2=>
       rw[ho2,bA,hh]at ho;cases ho;have hjl:j<σ1.hp.length:=by have:=(aC.1 ho2).1;simpa using this
       refine⟨zkC,.dead,?_,?_,rfl,rfl⟩
       ·rw[zgB,aI (by rw[bP,R1.lL];exact hjl),bA,aQ,hh];rfl
       ·rw[zmG,aI (by rw[R1.lE];exact hjl),bA,aQ,hh];rfl
     |false=>
      have ho3:(σ1.hp.set id (.fam v0 T f r'))[j]? = some o:=by
       cases ho2:(σ1.hp.set id (.fam v0 T f r'))[j]? with
       |none=>rw[ho2]at ho;cases ho
       |some o2=>rw[ho2,bA,hh]at ho;exact ho
      by_cases hji:id=j
      ·subst hji;rw[aL hidH]at ho3;cases ho3;have hL3:(zkE (upN base f.length) 0 (L1.set id (.many (.osl v ks.length 1 (bs.map ptrV) cr T::(ms.set i.toNat rs).flatten))))[id]? = some (.many (.osl v r'.length 1 (bs.map ptrV) cr T::(ms.set i.toNat rs).flatten)):=by rw[zgB,aL hidL,bA,aQ,hh,<-hr',bP];rfl
       have hE3':(zhA (upN base f.length) 0 E1)[id]? = some (.fam v0 v bs):=by rw[zmG,g2,bA,aQ,hh];rfl
       refine⟨_,_,hL3,hE3',v,cr,ms.set i.toNat rs,bs,rfl,rfl,?_⟩
       ·refine⟨by rw[bP,g3.l1,<-hr',bP],by rw[g3.l2,<-hr',bP],fun a y hay _=>?_,fun a ha=>by cases ha⟩;by_cases hia:i.toNat=a
        ·subst hia;rw[<-hr',aL hil]at hay;cases hay;exact⟨rs,b,aL hml,hb,hm⟩
        ·rw[<-hr',aM hia]at hay;obtain⟨rs2,b2,q1,q2,q3⟩:=g3.mem a y hay (fun h=>hia (osi h));exact⟨rs2,b2,by rw[aM hia];exact q1,q2,q3⟩
      ·rw[aM hji]at ho3;obtain⟨r2,e2,q1,q2,q3⟩:=R1.obj j o ho3;exact⟨r2,e2,by rw[zgB,aM hji,q1,bA,aQ,hh];rfl,by rw[zmG,q2,bA,aQ,hh];rfl,q3.mono (Mem.le_refl S1) hE3⟩
    ·show VR S1 _ (bif aG t t' then .fp id i0 0 else lkS σ1.sl t') _;cases ht:aG t t' with
     |true=>rw[<-aB ht];exact hV1.mono hS1 (hE1.trans hE3)|false=>exact(R1.sl t').mono (Mem.le_refl S1) hE3
    ·rw[<-hF1 j hnn,zaX,zgB,aQ,aM (Ne.symm hj),yhB (fun hm=>by obtain⟨kk,_,h2⟩:=zwZ hm;omega),zaX];cases L1[j]? <;> rfl
   ·cases hq
  ·cases h
end
section
variable {β:Type}{τ:TE}{Γ:CT}{n:Nat}{P:Program}{B:Bas}{S:Mem}{E:List EI}{L:List Res}{σ:St}{m:FM}{w:World}{dst:Option Tmp}{g:Option (Nat×Bool)}{ty:TypeId}{pos:String}{aft:Array Edge}{T:TypeId}{k:SV->St->Option β}{r:β}
theorem RelV.kill{V:Nat->Value}(R:RelV B S E L σ V w)(I:List Nat):RelV B S (zhA I 0 E) (zkE I 0 L) ⟨σ.sl,zrK I 0 σ.hp⟩ V w:=by
 refine⟨HS.part R.hs fun i r hi=>?_,by rw[zsM,zgI];exact R.lL,by rw[zkZ,zgI];exact R.lE,fun j q hq=>?_,fun t=>(R.sl t).mono (Mem.le_refl S) (zwC I E)⟩
 ·rw[zaX,zgB,aQ]at hi;cases hl:L[i]? with
  |none=>rw[hl]at hi;cases hi
  |some r'=>
   rw[hl]at hi;simp only[bA,Option.some.injEq]at hi;cases hh:hasN I i with
   |true=>rw[hh]at hi;exact .inl hi.symm|false=>rw[hh]at hi;right;rw[zaX,hl,<-hi];rfl
 ·rw[zvT,aQ]at hq;cases hj:σ.hp[j]? with
  |none=>rw[hj]at hq;cases hq
  |some q'=>
   obtain⟨r,e,h1,h2,h3⟩:=R.obj j q' hj;rw[hj]at hq;refine⟨_,_,by rw[zgB,h1];rfl,by rw[zmG,h2];rfl,?_⟩;rw[aQ];simp only[bA,Option.some.injEq]at hq;cases hi:hasN I j with
   |true=>rw[hi]at hq;subst hq;exact⟨rfl,rfl⟩|false=>rw[hi]at hq;subst hq;exact h3.mono (Mem.le_refl S) (zwC I E)
theorem Rel.kill(R:Rel n B S E L σ m w)(I:List Nat):Rel n B S (zhA I 0 E) (zkE I 0 L) ⟨σ.sl,zrK I 0 σ.hp⟩ m w:=RelV.kill R I
theorem yiW{o:Op}(hτ:TEok P τ)(hΓ:CTok P Γ B):∀{ts:List Nat} {σ:St} {S:Mem} {E:List EI} {L:List Res} {k:SV->St->Option β},Rel n B S E L σ m w->callF τ Γ o T ts σ k=some r ->
  outcome P (Post2 n B S E m k r) ((execOp (evO n m) ⟨dst,o,ty,pos,aft,g⟩).run P w)
 |[],σ,S,E,L,k,R,h=>yjR hτ hΓ R h|t::ts,σ,S,E,L,k,R,h=>by
  unfold callF at h;split at h
  ·rename_i id i off hs;obtain⟨σ1,E1,L1,id',i',hs',hk,hE,R1,hV1,hV2,_⟩:=xbT R h;rw[hs]at hs';cases hs';refine zdJ (yiW hτ hΓ R1 hk) ?_;rintro v w' ⟨x,σ2,S2,E2,L2,h1,h2,h3,R2,h4⟩;obtain⟨σ3,S3,E3,L3,k1,k2,k3,k4,_⟩:=xcO R2 (hV1.mono h2 h3) (hV2.mono h2 h3) h1;exact⟨x,σ3,S3,E3,L3,k1,Mem.le_trans h2 k2,hE.trans (h3.trans k3),k4,h4.mono k2 k3⟩
  ·cases h
theorem yrZ{T1 E0:TypeId}{fe:TI}{f:List FSh}{i:Nat}{x:Operand}(R:Rel n B S E L σ m w)(hT:P.underlying T1=some (.slice E0))(hE:TIok P E0 fe)(hs:slOk fe=true)(hz:fe.sz=1)(hx:VR S E (.ptr i 0) (evO n m x))(h:yuP E0 f i σ k=some r):
  outcome P (Post2 n B S E m k r) ((execOp (evO n m) ⟨dst,.buildSlice T1 1 #[(0,x)],ty,pos,aft,g⟩).run P w):=by
 unfold yuP at h;obtain⟨S1,E1,L1,hS1,hE1,R1⟩:=ziN ((sF f).need 0 ⟨[(0,.ptr i 0)],σ.hp⟩) R;generalize frzL σ ((sF f).need 0 ⟨[(0,.ptr i 0)],σ.hp⟩)=σ1 at *;unfold yqQ at h;split at h
 ·rename_i y ha;have hx1:=hx.mono hS1 hE1;have hlρ:f.length=((sF f).rho 0 ⟨[(0,.ptr i 0)],σ1.hp⟩).length:=by have:=zsL σ1.hp.length (zpP σ1.hp 0 (sF f).hp (idB 0 0++(sF f).sl.flatMap fun p=>p.2.bindS (lkS [(0,SV.ptr i 0)] p.1))) (sF f).hp 0;rw[show f.length=(sF f).hp.length from(bL ..).symm];exact this
  generalize (sF f).rho 0 ⟨[(0,.ptr i 0)],σ1.hp⟩=ρ at *;obtain⟨rs,hrl,hmem,hat,hd,hkind⟩:=yfV R1 hlρ hx1 ha;obtain⟨b,hb,_⟩:=hx1;have hb:evO n m x=ptrV b:=hb;have hTn:=yaS hT hE hs;rw[hz]at hTn;obtain⟨z0,hz0⟩:∃z0,fe.z.map zc=[z0]:=by
   have hl:=hTn.len;cases hzl:fe.z.map zc with
   |nil=>rw[hzl]at hl;cases hl
   |cons a l=>cases l with
    |nil=>exact⟨a,rfl⟩|cons=>rw[hzl]at hl;simp at hl
  obtain⟨w',v,hrun,H⟩:=zqG (e:=evO n m) (N:=1) (ps:=[(0,x)]) (vals:=[(0,evO n m x)]) (l:=[ptrV b]) (dst:=dst) (ty:=ty) (pos:=pos) (aft:=aft) (g:=g) hTn R1.hs rfl (by rw[hz0,hb];rfl) (by rfl) rfl;rw[hrun];have H1:=HS.toMany (HS.snoc H) (i:=L1.length) (r:=.osl v 1 1 [ptrV b] [] E0) (by simp)
  have hρl:∀j∈ρ,j<σ1.hp.length:=fun j hj=>by
   obtain⟨kk,hk⟩:=gU hj;have hkf:kk<f.length:=by rw[hlρ];exact(aC.1 hk).1
   obtain⟨ao,q8,_⟩:=hkind kk j _ (aI hkf) hk;exact(aC.1 q8).1
  have hNρ:L1.length∉ρ:=fun hj=>by have:=hρl _ hj;rw[R1.lL]at this;omega
  have hnd:ρ.Nodup:=List.pairwise_iff_getElem.2 fun a c ha hc hac he=>by
   have hcf:c<f.length:=by rw[hlρ];exact hc
   have haf:a<f.length:=by rw[hlρ];exact ha
   have:=yaQ hd (k:=a) (k':=c) (o:=(f[a]).up) (o':=(f[c]).up) (id:=ρ[c]) (by rw[bI,aI haf];rfl) (ybQ _) (by rw[aI ha,he]) (by rw[bI,aI hcf];rfl) (ybQ _) (aI hc);omega
  have H2:=HS.joins (i:=L1.length) (js:=ρ) (rs:=rs) (A:=[.osl v 1 1 [ptrV b] [] E0]) (A':=.osl v 1 1 [ptrV b] [] E0::rs) H1 (by rw[aL (by simp)];rfl) (by rw[hrl,hlρ]) hnd hNρ (fun kk j q h1 h2=>by
   have hjl:=hρl j (bJ h1);rw[aM (by rw[R1.lL];omega),aF (by rw[R1.lL];exact hjl)]
   exact hat kk j q h1 h2) (List.Perm.refl _)
  rw[gX,eM _ _ (aJ _),dY,fN]at H2;have hE3:ELe E1 (zhA ρ 0 E1++[.fam 0 v [b]]):=(zwC ρ E1).trans (ELe.push _ _);have hgN:(zhA ρ 0 E1++[EI.fam 0 v [b]])[σ1.hp.length]? = some (.fam 0 v [b]):=by rw[aH (by rw[zkZ,R1.lE];exact aJ _),zkZ,R1.lE,dY];rfl
  have hone:v.oneCell'=true:=by rcases H.own 0 _ rfl with⟨hv,_⟩|⟨_,_,_,hv,_⟩<;>rw[hv]<;>rfl
  refine⟨_,_,S1,_,_,h,hS1,hE1.trans hE3,⟨H2,?_,?_,fun j o ho=>?_,fun t=>(R1.sl t).mono (Mem.le_refl S1) hE3⟩,⟨hone,_,hgN,fun r1 v1 b1 hq=>by cases hq;exact⟨aJ _,fun _=>rfl⟩⟩⟩
  ·simp[zsM,zgI,R1.lL]
  ·simp[zkZ,zgI,R1.lE]
  ·have ho:(zrK ρ 0 σ1.hp++[AO.fam 0 E0 f [ofS f y]])[j]? = some o:=ho;by_cases hj:j<σ1.hp.length
   ·rw[aF (by rw[zgI];exact hj),zvT,aQ,aI hj]at ho;obtain⟨r2,e2,q1,q2,q3⟩:=R1.obj j _ (aI hj);have q1':(zkE ρ 0 (L1++[.many (.osl v 1 1 [ptrV b] [] E0::rs)]))[j]? = some (bif hasN ρ j then zkC else r2):=by rw[zgB,aF (by rw[R1.lL];exact hj),q1,aQ];rfl
    have q2':(zhA ρ 0 E1++[EI.fam 0 v [b]])[j]? = some (bif hasN ρ j then .dead else e2):=by rw[aF (by rw[zkZ,R1.lE];exact hj),zmG,q2,aQ];rfl
    cases hh:hasN ρ j with
    |true=>rw[hh]at ho q1' q2';cases ho;exact⟨_,_,q1',q2',rfl,rfl⟩
    |false=>rw[hh]at ho q1' q2';have ho:σ1.hp[j]=o:=osi ho;rw[ho]at q3;exact⟨_,_,q1',q2',q3.mono (Mem.le_refl S1) hE3⟩
   ·have hj2:j=σ1.hp.length:=by have:=(aC.1 ho).1;simp[zgI]at this;omega
    subst hj2;rw[aH (by rw[zgI];exact aJ _),zgI,dY]at ho;cases ho;refine⟨_,_,by rw[zgB,aH (by rw[R1.lL];exact aJ _),R1.lL,dY,aQ,yhB (by rw[<-R1.lL];exact hNρ)];rfl,hgN,v,[],[rs],[b],by simp,rfl,rfl,rfl,fun a y' hay _=>?_,fun a ha=>by cases ha⟩;cases a with
    |zero=>cases hay;exact⟨rs,b,rfl,rfl,hmem b hb⟩
    |succ a=>cases hay
 ·cases h
theorem ytU{T1 E0:TypeId}{fe:TI}{x y:Operand}{id ver id2 ver2:Nat}(R:Rel n B S E L σ m w)(hT:P.underlying T1=some (.slice E0))(hE:TIok P E0 fe)(hs:slOk fe=true)(hz:fe.sz=1)(hx:VR S E (.fs id ver) (evO n m x))(hy:VR S E (.fs id2 ver2) (evO n m y))(h:yrI E0 id ver id2 ver2 σ k=some r):
  outcome P (Post2 n B S E m k r) ((execOp (evO n m) ⟨dst,.call ⟨.builtin .append,#[x,y],#[T1,T1]⟩,ty,pos,aft,g⟩).run P w):=by
 unfold yrI at h;split at h
 ·rename_i v1 T f ks v2 T2 f2 ks2 hc hc2;obtain⟨hb,hq⟩:=zaJ h;clear h;have hne:id≠id2:=fun e=>by have:=zaT (zaT hb);rw[e,dX]at this;cases this
  have e1:=aB (zaT (zaW (zaT hb)));have e2:=aB (zaW (zaW (zaT hb)));have e3:=aB (zaT (zaW hb));have e4:=aB (zaW (zaW hb));subst e1;subst e2;subst e3;subst e4;split at hq
  ·rename_i hf _;subst hf;obtain⟨r',ha,hk⟩:=bnd hq;rw[zcT]at hc hc2;obtain⟨r0,e0,g1,g2,u1,cr1,ms1,bs1,rfl,rfl,g3⟩:=R.obj id _ hc;obtain⟨r0,e0,p1,p2,u2,cr2,ms2,bs2,rfl,rfl,p3⟩:=R.obj id2 _ hc2;obtain⟨_,e1,h5,h6⟩:=hx;rw[g2]at h5;cases h5;have hu1:=(h6 _ _ _ rfl).2 rfl;obtain⟨_,e1,h5,h6⟩:=hy;rw[p2]at h5;cases h5;have hu2:=(h6 _ _ _ rfl).2 rfl;obtain⟨hbd,hr'⟩:=zcQ ha;have hr':ks++ks2=r':=hr';have hTn:=yaS hT hE hs;rw[hz]at hTn;have hidL:=(aC.1 g1).1;have hid2L:=(aC.1 p1).1;have hidE:=(aC.1 g2).1;have hid2E:=(aC.1 p2).1;have hidH:=(aC.1 hc).1;have hid2H:=(aC.1 hc2).1;have H1:=HS.split R.hs g1 (q:=.osl u1 ks.length 1 (bs1.map ptrV) cr1 T2) (A':=ms1.flatten) (List.Perm.refl _);have hw2:SlW w u2 ks2.length 1 (bs2.map ptrV):=Res.slW (v:=u2) (n:=ks2.length) (sz:=1) (cs:=bs2.map ptrV) (rs:=cr2) (T:=T2) ((R.hs.own id2 (.many (.osl u2 ks2.length 1 (bs2.map ptrV) cr2 T2::ms2.flatten)) (by rw[zaX];exact p1)).1 _ bC)
   obtain⟨w',v',rs',hrun,H2⟩:=ykT (e:=evO n m) (k:=L.length) (dst:=dst) (ty:=ty) (pos:=pos) (aft:=aft) (g:=g) hTn H1 hu1 (by rw[zaX,aH (by simp)];simp;rfl) hu2 hw2 (fun u hu=>by
    obtain⟨b,_,rfl⟩:=eH.1 hu;rfl) hbd
   rw[hrun];rw[zmC,eM _ _ (by simp),bP,dY,fN]at H2
   have H3:=HS.join (A':=.osl v' (ks.length+ks2.length) 1 (bs1.map ptrV++bs2.map ptrV) rs' T2::ms1.flatten) (D:=[]) H2 (i:=id) (j:=L.length) (A:=ms1.flatten) (s:=.osl v' (ks.length+ks2.length) 1 (bs1.map ptrV++bs2.map ptrV) rs' T2) (by rw[aF (by simpa using hidL),aL hidL]) (by rw[aH (by simp)];simp) (by omega)
    (by rw[cC];exact(dI _ _))
   rw[fC _ _ (by simpa using hidL),gX,eM _ _ (by simp)]at H3;simp only[bP,dY,fN]at H3;have H4:=HS.drop H3
   have H5:=HS.join (A':=.osl v' (ks.length+ks2.length) 1 (bs1.map ptrV++bs2.map ptrV) rs' T2::(ms1++ms2).flatten) (D:=[.osl u2 ks2.length 1 (bs2.map ptrV) cr2 T2]) H4 (i:=id) (j:=id2) (aL hidL) (by rw[aM hne];exact p1) hne (by
    show(R0.osl v' (ks.length+ks2.length) 1 (bs1.map ptrV++bs2.map ptrV) rs' T2::ms1.flatten++(R0.osl u2 ks2.length 1 (bs2.map ptrV) cr2 T2::ms2.flatten)).Perm _;rw[List.flatten_append,bN,bN,bG]
    exact List.Perm.cons _ (List.Perm.append_left _ (dI _ _).symm))
   rw[gX]at H5;have hone:v'.oneCell'=true:=by rcases(H5.own id (.many (.osl v' (ks.length+ks2.length) 1 (bs1.map ptrV++bs2.map ptrV) rs' T2::(ms1++ms2).flatten)) (by rw[zaX,aM (Ne.symm hne),aL hidL])).1 _ bC with⟨hv,_⟩|⟨_,_,_,hv,_⟩<;>rw[hv]<;>rfl
   have hE1:ELe E (E.set id (.fam (ver+1) v' (bs1++bs2))):=ELe.set g2 (.inr (.inr ⟨_,_,bs2,rfl,Nat.lt_succ_self _⟩));have hE2:ELe (E.set id (.fam (ver+1) v' (bs1++bs2))) ((E.set id (.fam (ver+1) v' (bs1++bs2))).set id2 .dead):=ELe.set (e:=.fam ver2 u2 bs2) (e':=.dead) (by rw[aM hne];exact p2) (.inr (.inl rfl));have hE3:=hE1.trans hE2;have hgE:((E.set id (.fam (ver+1) v' (bs1++bs2))).set id2 .dead)[id]? = some (.fam (ver+1) v' (bs1++bs2)):=by rw[aM (Ne.symm hne),aL hidE]
   refine⟨_,_,S,_,_,hk,Mem.le_refl S,hE3,⟨H5,?_,?_,fun j o ho=>?_,fun t=>(R.sl t).mono (Mem.le_refl S) hE3⟩,⟨hone,_,hgE,fun r1 w1 b1 hq=>by cases hq;exact⟨aJ _,fun _=>rfl⟩⟩⟩
   ·simp[zeE,R.lL]
   ·simp[zeE,R.lE]
   ·have ho:(setN (setN σ.hp id2 .dead) id (.fam (ver+1) T2 f2 r'))[j]? = some o:=ho;rw[zeE,zeE]at ho;by_cases hj:id=j
    ·subst hj;rw[aL (by simpa using hidH)]at ho;cases ho;refine⟨_,_,by rw[aM (Ne.symm hne),aL hidL],hgE,v',rs',ms1++ms2,bs1++bs2,?_,rfl,?_⟩
     ·rw[<-hr',aE,List.map_append]
     ·refine⟨by rw[<-hr',aE,aE,g3.l1,p3.l1],by rw[<-hr',aE,aE,g3.l2,p3.l2],fun a y hay _=>?_,fun a ha=>by cases ha⟩;rw[<-hr']at hay;by_cases hal:a<ks.length
      ·rw[aF hal]at hay;obtain⟨rs2,b2,q1,q2,q3⟩:=g3.mem a y hay (by simp);exact⟨rs2,b2,by rw[aF (by rw[g3.l1];exact hal)];exact q1,by rw[aF (by rw[g3.l2];exact hal)];exact q2,q3⟩
      ·rw[aH (fZ hal)]at hay;obtain⟨rs2,b2,q1,q2,q3⟩:=p3.mem _ y hay (by simp);exact⟨rs2,b2,by rw[aH (by rw[g3.l1];omega),g3.l1];exact q1,by rw[aH (by rw[g3.l2];omega),g3.l2];exact q2,q3⟩
    ·rw[aM hj]at ho;by_cases hj2:id2=j
     ·subst hj2;rw[aL hid2H]at ho;cases ho;exact⟨zkC,.dead,aL (by simpa using hid2L),aL (by simpa using hid2E),rfl,rfl⟩
     ·rw[aM hj2]at ho;obtain⟨r2,e2,q1,q2,q3⟩:=R.obj j o ho;exact⟨r2,e2,by rw[aM hj2,aM hj];exact q1,by rw[aM hj2,aM hj];exact q2,q3.mono (Mem.le_refl S) hE3⟩
  ·cases hq
 ·cases h
theorem xcT{o:Op}(hτ:TEok P τ)(hΓ:CTok P Γ B)(R:Rel n B S E L σ m w)(h:opF τ Γ σ o T k=some r):
  outcome P (Post2 n B S E m k r) ((execOp (evO n m) ⟨dst,o,ty,pos,aft,g⟩).run P w):=by
 unfold opF at h;split at h
 ·rename_i x y T1 T2;split at h
  ·rename_i E0 z1 z2 z3 z4 id ver id2 ver2 hT hx hy;split at h
   ·rename_i fe hfe;obtain⟨hb,hq⟩:=zaJ h;clear h;have e1:=aB (zaW hb);subst e1;exact ytU R ((hτ _ _ hT).sl rfl) (hτ _ _ hfe) (zaT (zaT hb)) (aB (zaW (zaT hb))) (zbM R hx) (zbM R hy) hq
   ·cases h
  ·exact yjR hτ hΓ R h
 ·rename_i T1 n' x;split at h
  ·rename_i E0 z1 z2 z3 z4 i hT hx;split at h
   ·rename_i f fe hf hfe;obtain⟨hb,hq⟩:=zaJ h;clear h;have e1:=aB (zaW hb);subst e1;exact yrZ R ((hτ _ _ hT).sl rfl) (hτ _ _ hfe) (zaT (zaT hb)) (aB (zaW (zaT hb))) (zbM R hx) hq
   ·cases h
  ·exact yjR hτ hΓ R h
 ·exact yiW hτ hΓ R h
 ·exact yjR hτ hΓ R h
end
def Agr(D:List Nat)(m m':FM):Prop:=∀t,hasN D t=false->look m' t=look m t
theorem Agr.refl(D:List Nat)(m:FM):Agr D m m:=fun _ _=>rfl
theorem Agr.trans{D:List Nat}{a b c:FM}(h:Agr D a b)(k:Agr D b c):Agr D a c:=fun t ht=>(k t ht).trans (h t ht)
theorem Agr.put{D:List Nat}{m:FM}{d:Nat}{v:Value}(h:hasN D d=true):Agr D m ((d,v)::m):=fun t ht=>by
 show(bif aG d t then v else look m t)=_;cases hb:aG d t with
 |true=>rw[aB hb]at h;rw[h]at ht;cases ht
 |false=>rfl
theorem ybG(a b:List Nat)(t:Nat):hasN (a++b) t=(hasN a t||hasN b t):=by
 induction a with
 |nil=>rfl|cons x a ih=>simp only[bN,hasN,ih,Bool.or_assoc]
theorem Agr.l{a b:List Nat}{m m':FM}(h:Agr a m m'):Agr (a++b) m m':=fun t ht=>h t (by rw[ybG,cY]at ht;exact ht.1)
theorem Agr.r{a b:List Nat}{m m':FM}(h:Agr b m m'):Agr (a++b) m m':=fun t ht=>h t (by rw[ybG,cY]at ht;exact ht.2)
theorem zzN{o:Oper}{l:List Oper}{t:Nat}(h:hasN (zoD l) t=true):hasN (zoD (o::l)) t=true:=by
 unfold zoD;cases o.dst with
 |none=>exact h|some d=>simp[hasN,h]
theorem zzY{o:Oper}{l:List Oper}{d:Nat}(h:o.dst=some d):hasN (zoD (o::l)) d=true:=by unfold zoD;rw[h];simp[hasN]
theorem Agr.mono{D D':List Nat}{m m':FM}(h:Agr D m m')(hd:∀t,hasN D t=true->hasN D' t=true):Agr D' m m':=fun t ht=>h t (by
 cases hb:hasN D t with
 |true=>rw[hd t hb]at ht;cases ht
 |false=>rfl)
section
variable {n:Nat}{m:FM}{o:Oper}
theorem znZ(hg:o.guard=none){y:Nat->Option Bool}:Region.wanted o y=true:=by simp only[Region.wanted,hg]
theorem ylB{all:List Oper}{j d:Nat}{t:Bool}(h:yeY all j=some d)(hv:evO n m (.tmp d) = .bool t):yielded all.toArray (fr n m).tmps j=some t:=by
 rw[ziT,zwQ];unfold yeY at h;split at h
 ·rename_i o ho;refine zbC ?_ h hv;rw[ykN,<-zcT];exact ho
 ·cases h
theorem yjS{all:List Oper}{j d:Nat}(h:yeY all j=some d)(hv:evO n m (.tmp d)=undef):yielded all.toArray (fr n m).tmps j=none:=by
 rw[ziT,zwQ];unfold yeY at h;split at h
 ·rename_i o ho;have ho2:lko all j=some o:=by rw[ykN,<-zcT];exact ho
  unfold gvl;rw[ho2];obtain⟨dst,_,_,_,_,_⟩:=o;simp only at h;subst h;simp only[gvo,hv];rfl
 ·cases h
theorem yfC{j:Nat}{b:Bool}{y:Nat->Option Bool}(hg:o.guard=some (j,b))(hy:y j=none):Region.wanted o y=false:=by simp only[Region.wanted,hg,hy];cases b<;>rfl
theorem zwG{j:Nat}{b t:Bool}{y:Nat->Option Bool}(hg:o.guard=some (j,b))(hy:y j=some t):Region.wanted o y=(t==b):=by simp only[Region.wanted,hg,hy];cases t<;>cases b<;>rfl
end
section
variable {β:Type}{τ:TE}{Γ:CT}{n:Nat}{P:Program}{B:Bas}{S:Mem}{E:List EI}{L:List Res}{σ:St}{m:FM}{w:World}{ops:Array Oper}{Q:Exit->Act->World->Prop}{rest:List Oper}{o:Oper}
theorem wl_do{Rv:Value->World->Prop}(hg:Region.wanted o (yielded ops (fr n m).tmps)=true)(h:outcome P Rv ((execOp (evO n m) o).run P w))(hK:∀v w',Rv v w'->wpList P ops Q rest ((fr n m).put o.dst v) w'):
  wpList P ops Q (o::rest) (fr n m) w:=by
 unfold wpList;rw[zH hg];exact .inl (zqP (by rw[zdF];exact h) hK)
theorem wl_skip(hg:Region.wanted o (yielded ops (fr n m).tmps)=false)(h:wpList P ops Q rest ((fr n m).put o.dst undef) w):wpList P ops Q (o::rest) (fr n m) w:=by unfold wpList;rw[zG (by rw[hg];simp)];exact h
theorem zrU(R:Rel n B S E L σ m w){d:Option Nat}{x:SV}{v:Value}{k:St->Option β}{r:β}(hx:VR S E x v)(h:putD n d x σ k=some r):∃σ' m',k σ'=some r/\Rel n B S E L σ' m' w/\(fr n m).put d v=fr n m'/\∀D,(∀t,d=some t->hasN D t=true)->Agr D m m':=by
 cases d with
 |none=>exact⟨σ,m,h,R,znI _ _ _,fun D _=>Agr.refl D m⟩|some d=>obtain⟨hd,h⟩:=zaJ h;exact⟨_,_,h,R.put hx hd,zaI _ _ _ _,fun D hD=>Agr.put (hD d rfl)⟩
theorem zvS(hτ:TEok P τ)(hΓ:CTok P Γ B){all:List Oper}{k:St->Option β}{r:β}{S0:Mem}{E0:List EI}{m0:FM}{D:List Nat}(hQ:∀σ' S' E' L' m' w',k σ'=some r->Mem.le S0 S'->ELe E0 E'->Agr D m0 m'->Rel n B S' E' L' σ' m' w'->Q .normal (fr n m') w'):∀(l:List Oper) {σ:St} {S:Mem} {E:List EI} {L:List Res} {m:FM} {w:World},(∀t,hasN (zoD l) t=true->hasN D t=true)->Mem.le S0 S->ELe E0 E->Agr D m0 m->Rel n B S E L σ m w->steps n τ Γ all l σ k=some r->wpList P all.toArray Q l (fr n m) w
 |[],σ,S,E,L,m,w,_,hS,hE,hA,R,h=>hQ _ _ _ _ _ _ h hS hE hA R|o::l,σ,S,E,L,m,w,hD,hS,hE,hA,R,h=>by
  have hD':∀t,hasN (zoD l) t=true->hasN D t=true:=fun t h=>hD t (zzN h);have hd':∀t,o.dst=some t->hasN D t=true:=fun t h=>hD t (zzY h);have doIt:∀{σ:St},Rel n B S E L σ m w->Region.wanted o (yielded all.toArray (fr n m).tmps)=true->(opF τ Γ σ o.op o.type fun x σ=>putD n o.dst x σ fun σ=>steps n τ Γ all l σ k)=some r->wpList P all.toArray Q (o::l) (fr n m) w:=fun {σ} R hw h=>by obtain⟨dst,op,ty,pos,aft,g⟩:=o;refine wl_do hw (xcT hτ hΓ R h) ?_;rintro v w' ⟨x,σ',S',E',L',h1,h2,h3,R',h4⟩;obtain⟨σ2,m2,h5,R2,h6,h7⟩:=zrU R' h4 h1;show wpList P all.toArray Q l ((fr n m).put dst v) w';rw[h6];exact zvS hτ hΓ hQ l hD' (Mem.le_trans hS h2) (hE.trans h3) (hA.trans (h7 D hd')) R2 h5
  have skip:∀{σ:St},Rel n B S E L σ m w->Region.wanted o (yielded all.toArray (fr n m).tmps)=false->(putD n o.dst .skp σ fun σ=>steps n τ Γ all l σ k)=some r->wpList P all.toArray Q (o::l) (fr n m) w:=fun {σ} R hw h=>by obtain⟨σ2,m2,h5,R2,h6,h7⟩:=zrU R (v:=undef) (x:=.skp) rfl h;refine wl_skip hw ?_;rw[h6];exact zvS hτ hΓ hQ l hD' hS hE (hA.trans (h7 D hd')) R2 h5
  unfold steps at h;split at h
  ·rename_i hg;exact doIt R (znZ hg) h
  ·rename_i j b hg;split at h
   ·rename_i d hd;split at h
    ·rename_i t ht;have hv:evO n m (.tmp d) = .bool t:=vB (by have:=R.sl d;rw[ht]at this;exact this);have hw:=zwG (o:=o) hg (ylB (m:=m) (n:=n) hd hv);have Rt:∀q:Bool,t=q->Rel n B S E L (σ.put d (.v .b q)) m w:=fun q hq=>R.re (by rw[hv,hq];exact bV q);cases t with
     |true=>
      cases b with
      |true=>exact doIt (Rt true rfl) hw h|false=>exact skip (Rt true rfl) hw h
     |false=>
      cases b with
      |true=>exact skip (Rt false rfl) hw h|false=>exact doIt (Rt false rfl) hw h
    ·rename_i ht;have hv:evO n m (.tmp d)=undef:=by have:=R.sl d;rw[ht]at this;exact this
     exact skip R (yfC hg (yjS (m:=m) (n:=n) hd hv)) h
    ·cases h
   ·cases h
end
section
variable {S:Mem}{E:List EI}
end
section
variable {β:Type}{τ:TE}{Γ:CT}{n nh:Nat}{P:Program}{B:Bas}{S:Mem}{E:List EI}{L:List Res}{σ:St}{m:FM}{W:World}{ops:Array Oper}{all:List Oper}{Φ:zfD}{vs:Nat->Gv}{D:List (Nat×Nat)}
def Inv(n:Nat)(S:Mem)(E:List EI)(W:World)(Φ:zfD)(vs:Nat->Gv)(sl:List (Nat×SV))(D:List (Nat×Nat))(m:FM):Prop:=∀t,match lkD D t with
 |none=>VR S E (lkS sl t) (evO n m (.tmp t))|some j=>relK Φ j=true/\∀w',zgN Φ vs w' j->VR (gf S W (vs j).f w') E (lkS sl t) (evO n m (.tmp t))
theorem yuU:∀(D:List (Nat×Nat)) (d t:Nat),lkD (delD D d) t=if d=t then none else lkD D t
 |[],d,t=>by simp[delD,lkD]
 |(x,j)::D,d,t=>by
  have ih:=yuU D d t;unfold delD;cases hx:aG x d with
  |true=>
   have:=aB hx;subst this;simp only[zE,ih,lkD];by_cases h:x=t
   ·simp[h]
   ·rw[zG h,zG h];have:aG x t=false:=by rw[zlA];simp[h]
    rw[this];rfl
  |false=>
   simp only[zF,lkD,ih];cases hy:aG x t with
   |true=>
    have h1:=aB hy;subst h1;have h2:d≠x:=fun e=>by subst e;rw[zlA]at hx;simp at hx
    simp[h2]
   |false=>rfl
theorem Inv.put{d:Nat}{x:SV}{v:Value}(hI:Inv n S E W Φ vs σ.sl D m)(hd:cM d n=true)(hx:VR S E x v):Inv n S E W Φ vs (σ.put d x).sl (delD D d) ((d,v)::m):=fun t=>by
 have:=hI t;rw[yuU];show match (if d=t then none else lkD D t) with
  |none=>VR S E (bif aG d t then x else lkS σ.sl t) (bif cM t n then(bif aG d t then v else look m t)else undef)|some j=>relK Φ j=true/\∀w',zgN Φ vs w' j->VR (gf S W (vs j).f w') E (bif aG d t then x else lkS σ.sl t) (bif cM t n then(bif aG d t then v else look m t)else undef)
 by_cases h:d=t
 ·subst h;rw[zH rfl];simp only[dX,zE,hd];exact hx
 ·rw[zG h];have hb:aG d t=false:=by rw[zlA];simp[h]
  simp only[hb,zF];exact this
theorem Inv.re{d:Nat}{x:SV}(hI:Inv n S E W Φ vs σ.sl D m)(hd:lkD D d=none)(hx:VR S E x (evO n m (.tmp d))):Inv n S E W Φ vs (σ.put d x).sl D m:=fun t=>by
 have:=hI t;show match lkD D t with
  |none=>VR S E (bif aG d t then x else lkS σ.sl t) _|some j=>relK Φ j=true/\∀w',zgN Φ vs w' j->VR (gf S W (vs j).f w') E (bif aG d t then x else lkS σ.sl t) _
 cases hb:aG d t with
 |true=>have:=aB hb;subst this;rw[hd];exact hx|false=>exact this
end
section
variable {β:Type}{τ:TE}{σ:St}{k:SV->Option β}
end
section
variable {β:Type}{τ:TE}{Γ:CT}{n nh:Nat}{P:Program}{B:Bas}{S:Mem}{E:List EI}{L:List Res}{σ:St}{m:FM}{W:World}{ops:Array Oper}{all:List Oper}{Φ:zfD}{vs:Nat->Gv}{D:List (Nat×Nat)}
theorem yjW{S':Mem}{E':List EI}{x:SV}{u:Value}(hp:zuT x=true)(h:VR S E x u)(hS:Mem.le S S'):VR S' E' x u:=by
 cases x with
 |v t x=>exact(rpD t).mono h hS|nils=>exact h|nilp=>exact h|emp=>have h:VB S E .emp u:=h;exact(⟨h.1.mono hS,h.2⟩:VB S' E' .emp u)|cl e xs=>have h:VB S E (.cl e xs) u:=h;exact(⟨h.1.mono hS,h.2⟩:VB S' E' (.cl e xs) u)|rm e n xs=>have h:VB S E (.rm e n xs) u:=h;obtain⟨v,h1,h2⟩:=h;exact(⟨v,h1.mono hS,h2⟩:VB S' E' (.rm e n xs) u)
 |rp t x off=>obtain⟨b,o,us,e,h1,h2⟩:=h;exact⟨b,o,us,e,h1.mono hS,(rpD t).mono h2 hS⟩
 |_=>cases hp
theorem HS.frame{B:Bas}{S S':Mem}{w w':World}{L L':List Res}(H:HS B S w L)(H':HS B S' w' L')(hS:Mem.le S S'){I:List Nat}(hf:∀i,hasN I i=false->i<L.length->lkR L' i=lkR L i):HS B S w' (zkE I 0 L):=by
 have key:∀i q,lkR (zkE I 0 L) i=some q->q=zkC∨(lkR L i=some q/\lkR L' i=some q):=fun i q h=>by
  rw[zaX,zgB,aQ]at h;cases hl:L[i]? with
  |none=>rw[hl]at h;cases h
  |some r=>
   rw[hl]at h;simp only[bA,Option.some.injEq]at h;cases hi:hasN I i with
   |true=>rw[hi]at h;exact .inl h.symm|false=>
    rw[hi]at h;have h:r=q:=h;subst h;have h2:lkR L i=some r:=by rw[zaX];exact hl
    exact .inr ⟨h2,by rw[hf i hi (aC.1 hl).1];exact h2⟩
 refine⟨H'.fr,fun b o e=>H'.sub b o (hS b o e),H.keep,fun i q h=>?_,fun i q b h hb=>?_,fun i j q s b hi hj hq hs=>?_⟩
 ·rcases key i q h with rfl|⟨_,h⟩
  ·exact .inl ⟨rfl,rfl,rfl,rfl⟩
  ·exact H'.own i q h
 ·rcases key i q h with rfl|⟨h,_⟩
  ·cases hb
  ·exact H.old i q b h hb
 ·rcases key i q hi with rfl|⟨h1,_⟩
  ·cases hq
  ·rcases key j s hj with rfl|⟨h2,_⟩
   ·cases hs
   ·exact H.inj i j q s b h1 h2 hq hs
theorem ynQ{S:Mem}{E:List EI}{I:List Nat}{x:SV}{u:Value}(hx:okC0 I x=true)(h:VC S (zhA I 0 E) x u):VC S E x u:=by
 have at_:∀{id e},(!(hasN I id))=true->(zhA I 0 E)[id]? = some e->E[id]? = some e:=fun {id e} hi h1=>by
  have hi:hasN I id=false:=by cases hh:hasN I id with
   |true=>rw[hh]at hi;cases hi
   |false=>rfl
  rw[zmG,aQ,hi]at h1;cases hE:E[id]? with
  |none=>rw[hE]at h1;cases h1
  |some e'=>rw[hE]at h1;have h1:e'=e:=osi h1;subst h1;rfl
 unfold okC0 at hx;split at hx
 ·rename_i id off;obtain⟨b,hu,e,h1,h2⟩:=(show VB S (zhA I 0 E) (.ptr id off) u from h);exact(⟨b,hu,e,at_ hx h1,h2⟩:VB S E (.ptr id off) u)
 ·rename_i id ver;obtain⟨hu,e,h1,h2⟩:=(show VB S (zhA I 0 E) (.own id ver) u from h);exact(⟨hu,e,at_ hx h1,h2⟩:VB S E (.own id ver) u)
 ·rename_i id;obtain⟨hu,e,h1,h2⟩:=(show VB S (zhA I 0 E) (.mpr id) u from h);exact(⟨hu,e,at_ hx h1,h2⟩:VB S E (.mpr id) u)
 ·rename_i id ver i off;obtain⟨hu,e,h1,h2⟩:=(show VB S (zhA I 0 E) (.ep id ver i off) u from h);exact(⟨hu,e,at_ hx h1,h2⟩:VB S E (.ep id ver i off) u)
 ·rename_i id ver;obtain⟨hu,e,h1,h2⟩:=(show VB S (zhA I 0 E) (.fs id ver) u from h);exact(⟨hu,e,at_ hx h1,h2⟩:VB S E (.fs id ver) u)
 ·rename_i id ver i;obtain⟨hu,e,h1,h2⟩:=(show VB S (zhA I 0 E) (.fe id ver i) u from h);exact(⟨hu,e,at_ hx h1,h2⟩:VB S E (.fe id ver i) u)
 ·rename_i id i off;obtain⟨hu,e,h1,h2⟩:=(show VB S (zhA I 0 E) (.fp id i off) u from h);exact(⟨hu,e,at_ hx h1,h2⟩:VB S E (.fp id i off) u)
 ·exact((yjW hx (VR.ofC h) (Mem.le_refl S)).b (by cases x<;>first|rfl|cases hx)).b (by cases x<;>first|rfl|cases hx)
theorem ytS{I:List Nat}{x:SV}(h:okC0 I x=true):nofn x=true:=by cases x<;>first|rfl|cases h
theorem yvX{S:Mem}{E:List EI}{I:List Nat}{x:SV}{u:Value}(hx:okC0 I x=true)(h:VB S (zhA I 0 E) x u):VB S E x u:=(ynQ hx h.c).b (ytS hx)
theorem yjJ{S:Mem}{E:List EI}{I:List Nat}:∀{l:List SV} {us:LV},l.all (okC0 I)=true->A2 (VB S (zhA I 0 E)) l us->A2 (VB S E) l us
 |_,_,_,.nil=>.nil|_,_,hp,.cons a t=>by simp only[cO,aK]at hp;exact .cons (yvX hp.1 a) (yjJ hp.2 t)
theorem VA_okA0{S:Mem}{E:List EI}{I:List Nat}{x:SV}{u:Value}(hx:okA0 I x=true)(h:VA (VB S (zhA I 0 E)) x u):VA (VB S E) x u:=by
 unfold okA0 at hx;split at hx
 ·obtain⟨us,h1,h2⟩:=h;exact⟨us,h1,yjJ hx h2⟩
 ·rename_i hn;have hg:noag x=true:=by cases x<;>first|rfl|exact absurd rfl (hn _)
  exact VA.of (yvX hx (h.b hg)) hg
theorem yaK{S:Mem}{E:List EI}{I:List Nat}:∀{l:List SV} {us:LV},l.all (okA0 I)=true->A2 (VA (VB S (zhA I 0 E))) l us->A2 (VA (VB S E)) l us
 |_,_,_,.nil=>.nil|_,_,hp,.cons a t=>by simp only[cO,aK]at hp;exact .cons (VA_okA0 hp.1 a) (yaK hp.2 t)
theorem xcE{S:Mem}{E:List EI}{I:List Nat}{x:SV}{u:Value}(hx:okC I x=true)(h:VC S (zhA I 0 E) x u):VC S E x u:=by
 unfold okC at hx;split at hx
 ·obtain⟨us,ws,hu,h1,h2⟩:=h;rw[aK]at hx;exact⟨us,ws,hu,yaK hx.1 h1,yaK hx.2 h2⟩
 ·exact ynQ hx h
theorem ysL{S:Mem}{E:List EI}{I:List Nat}:∀{l:List SV} {us:LV},l.all (okC I)=true->A2 (VC S (zhA I 0 E)) l us->A2 (VC S E) l us
 |_,_,_,.nil=>.nil|_,_,hp,.cons a t=>by simp only[cO,aK]at hp;exact .cons (xcE hp.1 a) (ysL hp.2 t)
theorem xbN{S:Mem}{E:List EI}{I:List Nat}{x:SV}{u:Value}(hx:okA I x=true)(h:VA (VC S (zhA I 0 E)) x u):VA (VC S E) x u:=by
 unfold okA at hx;split at hx
 ·rename_i l;obtain⟨us,h1,h2⟩:=h;exact⟨us,h1,ysL hx h2⟩
 ·rename_i hn;have hg:noag x=true:=by cases x<;>first|rfl|exact absurd rfl (hn _)
  exact VA.of (xcE hx (h.b hg)) hg
theorem ysO{S:Mem}{E:List EI}{I:List Nat}:∀{l:List SV} {us:LV},l.all (okA I)=true->A2 (VA (VC S (zhA I 0 E))) l us->A2 (VA (VC S E)) l us
 |_,_,_,.nil=>.nil|_,_,hp,.cons a t=>by simp only[cO,aK]at hp;exact .cons (xbN hp.1 a) (ysO hp.2 t)
theorem VR_okF{S:Mem}{E:List EI}{I:List Nat}{x:SV}{u:Value}(hx:okF I x=true)(h:VR S (zhA I 0 E) x u):VR S E x u:=by
 unfold okF at hx;split at hx
 ·rename_i l;obtain⟨us,h1,h2⟩:=(show ∃us,u = .tuple us.toArray/\A2 (VA (VC S (zhA I 0 E))) l us from h);exact(⟨us,h1,ysO hx h2⟩:VR S E (.tup l) u)
 ·rename_i hn;have hu:notu x=true:=by cases x<;>first|rfl|exact absurd rfl (hn _)|cases hx
  exact VR.of (xbN hx (h.b hu))
theorem Ok1.twoF{o:Oper}{I:List Nat}{k:SV->St->Option β}{r:β}{w:World}(R:Rel n B S E L σ m w)(h:Ok1 P S E (evO n m) o (fun x=>k x σ) r (fun w'=>HS B S w' L)):outcome P (Post2F n B S E L I m k r) ((execOp (evO n m) o).run P w):=by obtain⟨z,u,h1,h2,h3⟩:=h;rw[h3 w R.hs];exact⟨z,σ,S,E,L,h1,Mem.le_refl _,ELe.refl _,R,h2,fun _ _ _=>rfl⟩
theorem yzY{o:Op}{T:TypeId}{k:SV->St->Option β}(h:(mvOp o||yqB o)=true):op2 τ Γ σ o T k=op1 τ σ o fun x=>k x σ:=by
 cases o with
 |call c=>
  unfold mvOp yqB at h;simp only[gR]at h;split at h
  all_goals first
   |(rename_i e;cases e;done)
   |cases h
   |skip
  all_goals (rename_i e;cases e;rfl)
 |_=>first|rfl|cases h
theorem storeF{T:TypeId}{f:TI}{a x:Operand}{I:List Nat}{id off:Nat}{B':TypeId}{cs:List SV}{sv:SV}{k:SV->St->Option β}{r:β}{w:World}{dst:Option Tmp}{g:Option (Nat×Bool)}{ty:TypeId}{pos:String}{aft:Array Edge}(hi:hasN I id=true)(hT:TIok P T f)(R:Rel n B S E L σ m w)(ha:VR S E (.ptr id off) (evO n m a))(hx:VR S E sv (evO n m x))(hc:atN σ.hp id=some (.blk B' cs)) (hb:(aG (cellL sv).length f.sz&&Nat.ble (off+f.sz) cs.length&&notu sv)=true) (h:k .undef ⟨σ.sl,setN σ.hp id (.blk B' (layS cs off (cellL sv)))⟩=some r):
  outcome P (Post2F n B S E L I m k r) ((execOp (evO n m) ⟨dst,.store T a x,ty,pos,aft,g⟩).run P w):=by
 obtain⟨r0,e0,h1,h2,b,us,rfl,rfl,h3⟩:=R.objN hc;obtain⟨b1,hu,e1,h4,h5⟩:=ha;rw[h2]at h4;cases h4;cases h5 _ rfl;obtain⟨h6,h7⟩:=zqM (hx.b (zaW hb));have h8:=aB (zaT (zaT hb));have h9:=aR (zaW (zaT hb));obtain⟨w',h10,h11⟩:=zbS (g:=g) (ty:=ty) (pos:=pos) (aft:=aft) (P:=P) hT.tsz R.hs hu h1 rfl h7 (by rw[<-h6.len,h8]) (VC.ones h6) (by rw[<-h3.len,eV];exact h9);have h10':(execOp (evO n m) ⟨dst,.store T a x,ty,pos,aft,g⟩).run P w = .ok .skip w':=h10;rw[h10'];refine⟨_,_,S,E,_,h,Mem.le_refl _,ELe.refl _,R.upd1 h2 h11 ⟨b,_,rfl,rfl,zuP off h3 h6⟩,trivial,fun j hj _=>zcK fun e=>?_⟩;subst e;rw[hi]at hj;cases hj
theorem op2P_ok{o:Op}{T:TypeId}{I:List Nat}{k:SV->St->Option β}{r:β}{w:World}{dst:Option Tmp}{g:Option (Nat×Bool)}{pos:String}{aft:Array Edge}(hτ:TEok P τ)(R:Rel n B S E L σ m w)(ho:okP I σ o=true)(h:op2 τ Γ σ o T k=some r):
  outcome P (Post2F n B S E L I m k r) ((execOp (evO n m) ⟨dst,o,T,pos,aft,g⟩).run P w):=by
 have pure:(mvOp o||yqB o)=true->outcome P (Post2F n B S E L I m k r) ((execOp (evO n m) ⟨dst,o,T,pos,aft,g⟩).run P w):=fun hp=>by rw[yzY hp]at h;exact Ok1.twoF R (ykR hτ R h)
 cases o with
 |store T' a x=>
  simp only[op2]at h;simp only[okP]at ho;cases hea:ev σ a with
  |none=>rw[hea]at ho;cases ho
  |some sa=>
   rw[hea]at ho h;cases sa with
   |ptr id off=>
    split at h
    ·rename_i f id' off' sv hT ha' hx;cases ha';split at h
     ·rename_i B' cs hc;obtain⟨hb,h⟩:=zaJ h;exact storeF ho (hτ _ _ hT) R (zbM R hea) (zbM R hx) hc hb h
     ·cases h
    ·rename_i hj _;cases hj
    ·rename_i ha' _;cases ha'
    ·rename_i ha' _;cases ha'
    ·cases h
   |_=>cases ho
 |_=>exact pure ho
theorem zzL{mb:Bool}(hm:MB mb B){x:Operand}{ash:List Operand}{at_:Array TypeId}{f:Nat}{xs:List SV}{I:List Nat}{k:SV->St->Option β}{r:β}{w:World}{dst:Option Tmp}{g:Option (Nat×Bool)}{ty:TypeId}{pos:String}{aft:Array Edge}(R:Rel n B S E L σ m w)(hx:zoG σ x ash=some (f,xs)):∀{l:List SC},(∀c∈l,SCB P mb B f c)->ybJ I σ x ash xs k l=some r ->
  outcome P (Post2F n B S E L I m k r) ((execOp (evO n m) ⟨dst,.call ⟨.value x,ash.toArray,at_⟩,ty,pos,aft,g⟩).run P w)
 |[],_,h=>by cases h
 |c::l,hc,h=>by
  unfold ybJ at h;cases hb:(aG xs.length c.I.sl.length&&(ylL (c.I.need 0 ⟨argS 0 xs,σ.hp⟩)&&ysK I c.I.hp (c.I.rho 0 ⟨argS 0 xs,σ.hp⟩))&&(c.I.get1 (c.I.rho 0 ⟨argS 0 xs,σ.hp⟩) ⟨argS 0 xs,σ.hp⟩).isSome) with
  |false=>rw[hb]at h;exact zzL (at_:=at_) hm R hx (fun c' hc'=>hc c' (aS _ hc')) h|true=>rw[hb]at h;refine zdJ (ymJ hm R hx (hc c bC) (zaT (zaW (zaT hb))) h) ?_;rintro v w' ⟨x,σ',S',E',L',h1,h2,h3,h4,h5,h6⟩;refine⟨x,σ',S',E',L',h1,h2,h3,h4,h5,fun i hi hlt=>?_⟩;rw[zaX,zaX,h6 i hlt (yfO hi 0 (zaW (zaW (zaT hb))))]
theorem yjA{o:Op}{T:TypeId}{I:List Nat}{k:SV->St->Option β}{r:β}{w:World}{dst:Option Tmp}{g:Option (Nat×Bool)}{pos:String}{aft:Array Edge}(hτ:TEok P τ)(hΓ:CTok P Γ B)(R:Rel n B S E L σ m w)(h:op2P τ Γ I σ o T k=some r):
  outcome P (Post2F n B S E L I m k r) ((execOp (evO n m) ⟨dst,o,T,pos,aft,g⟩).run P w):=by
 unfold op2P at h;cases ho:okP I σ o with
 |true=>rw[ho]at h;exact op2P_ok hτ R ho h|false=>
  rw[ho]at h;simp only[zF]at h;split at h
  ·rename_i x ash at_;split at h
   ·rename_i f xs hx;exact zzL (ash:=ash.toList) (at_:=at_) hΓ.mb R hx (fun c hc=>hΓ.sc f c hc) h
   ·cases h
  ·cases h
theorem ykA{f:Nat->Bool}:∀{n:Nat},yrH n f=true->∀i,i<n->f i=true
 |n+1,h,i,hi=>by
  unfold yrH at h;by_cases e:i=n
  ·subst e;exact zaT h
  ·exact ykA (zaW h) i (by omega)
theorem zsJ{t:Nat}:∀{l:List Oper},hasN (zoD l) t=true↔∃o∈l,o.dst=some t
 |[]=>by simp[zoD,hasN]
 |o::l=>by
  have ih:=zsJ (t:=t) (l:=l);unfold zoD;cases hd:o.dst with
  |none=>simp[ih,hd]|some d=>simp only[hasN,Bool.or_eq_true,ih,zlA,zD,aT,exists_eq_or_imp,hd,Option.some.injEq]
end
section
variable {B:Bas}{S S':Mem}{w w':World}{L A:List Res}
theorem HS.home{mb:Bool}(hm:MB mb B)(H:HS B S w L)(H':HS ⟨S,mayL mb S L w,w⟩ S' w' A):HS B S' w' A:=
 HS.back hm H H' (fun _ h=>h) (fun i _ hi=>.inr (.inl ⟨i,hi⟩)) H'.inj
theorem HS.cons(H:HS B S w L){r:Res}(hr:r.holds w)(hn:∀b,r.has b->B.w0.heap.size<=b/\S b=none/\b∉zcC L):HS B S w (r::L):=by
 have away:∀{i q b},lkR L i=some q->q.has b->r.has b->False:=fun {i q b} hi hq hr=>(hn b hr).2.2 (zcV.2 ⟨i,q,hi,hq⟩);refine⟨H.fr,H.sub,H.keep,fun k q hk=>?_,fun k q b hk hb=>?_,fun i j q s b hi hj h1 h2=>?_⟩
 ·cases k with
  |zero=>cases hk;exact hr
  |succ k=>exact H.own k q hk
 ·cases k with
  |zero=>cases hk;exact⟨.inl (hn b hb).1,(hn b hb).2.1⟩
  |succ k=>exact H.old k q b hk hb
 ·cases i with
  |zero=>
   cases j with
   |zero=>rfl|succ j=>cases hi;exact(away hj h2 h1).elim
  |succ i=>
   cases j with
   |zero=>cases hj;exact(away hi h1 h2).elim
   |succ j=>rw[H.inj i j q s b hi hj h1 h2]
end
theorem ycX{W:List Nat}{i:Nat}(h:hasN W i=false):∀{l:List Nat},allN W l=true->hasN l i=false
 |[],_=>rfl|x::l,hl=>by
  unfold allN at hl;unfold hasN;rw[ycX h (zaW hl),Bool.or_false];cases hb:aG x i with
  |false=>rfl|true=>rw[aB hb,h]at hl;cases (zaT hl)
section
variable {β:Type}{τ:TE}{Γ:CT}{n:Nat}{P:Program}{B:Bas}{S:Mem}{E:List EI}{L:List Res}{σ:St}{m:FM}{w:World}
theorem xcH(Γ:CT):jnOf (unJ Γ)=false:=by
 unfold unJ;cases h:jnOf Γ with
 |true=>cases hm:mbOf Γ<;>rfl
 |false=>exact h
theorem CTok.unJ(h:CTok P Γ B):CTok P (unJ Γ) B:=by
 have hm:mbOf (Am.unJ Γ)=mbOf Γ:=by
  unfold Am.unJ;cases hj:jnOf Γ with
  |true=>cases hm:mbOf Γ<;>rfl
  |false=>rfl
 have hpc:(Am.unJ Γ).pc=Γ.pc:=by unfold Am.unJ;cases jnOf Γ<;>rfl
 have hsc:(Am.unJ Γ).sc=Γ.sc:=by unfold Am.unJ;cases jnOf Γ<;>rfl
 exact⟨by rw[hpc];exact h.pc,by rw[hsc,hm];exact h.sc,by rw[hm];exact h.mb,fun e=>by rw[xcH]at e;cases e⟩
theorem CTok.lend(hj:jnOf Γ=false)(h:CTok P Γ B)(H:HS B S w L):CTok P Γ ⟨S,mayL (mbOf Γ) S L w,w⟩:=by have at_:∀{S1 w1},At ⟨S,mayL (mbOf Γ) S L w,w⟩ S1 w1->At B S1 w1:=fun⟨S2,L2,hle,H2⟩=>⟨S2,L2,hle,HS.home h.mb H H2⟩;exact⟨fun f c hc=>⟨(h.pc f c hc).fn,fun S w us a y hA=>(h.pc f c hc).ok S w us a y (at_ hA)⟩,fun f c hc=>⟨(h.sc f c hc).fn,fun S w us E L a d hA=>(h.sc f c hc).ok S w us E L a d (at_ hA)⟩,MB.may,fun e=>by rw[hj]at e;cases e⟩
theorem fopK_ok{o:Op}{W:List Nat}{k:SV->Option β}{r:β}{dst:Option Tmp}{ty:TypeId}{pos:String}{aft:Array Edge}{g:Option (Nat×Bool)}(hτ:TEok P τ)(R:Rel n B S E L σ m w)(h:fopS τ W σ o k=some r):
  Ok1 P S E (evO n m) ⟨dst,o,ty,pos,aft,g⟩ k r (fun w=>HS B S w (zkE W 0 L)):=by
 unfold fopS at h;cases hm:mvOp0 o with
 |true=>rw[hm]at h;simp only[zE]at h;exact op0_ok hτ (fun x a hx=>zbM R hx) h|false=>rw[hm]at h;simp only[zF]at h;obtain⟨z,u,h1,h2,h3⟩:=ykR (dst:=dst) (ty:=ty) (pos:=pos) (aft:=aft) (g:=g) hτ (R.kill W) h;obtain⟨hok,h1⟩:=zaJ h1;exact⟨z,u,h1,VR_okF hok h2,h3⟩
def LateD(S:Mem)(E:List EI):AO->Value->Nat->Obj->Prop
 |.blk T cs,v,k,x=>v = .pointer (some ⟨k,0,none⟩)/\∃us:LV,x = .cells us.toArray T (0,0)/\A2 (VC S E) cs us|.osl ver e T xs,v,k,x=>ver=0/\v=sl k 0 xs.length xs.length/\∃cs:LV,x = .cells cs.toArray T (0,0)/\cs.length=xs.length*tsz e/\RL S cs xs|_,_,_,_=>False
theorem LateD.mono{S':Mem}{E':List EI}(hS:Mem.le S S')(hE:ELe E E'){o:AO}{v:Value}{k:Nat}{x:Obj}(h:LateD S E o v k x):LateD S' E' o v k x:=by
 cases o with
 |blk T cs=>obtain⟨h1,us,h2,h3⟩:=h;exact⟨h1,us,h2,h3.imp fun _ _=>VC.mono hS hE⟩
 |osl ver e T xs=>obtain⟨h0,h1,cs,h2,h3,h4⟩:=h;exact⟨h0,h1,cs,h2,h3,h4.mono hS⟩
 |_=>exact h.elim
theorem LateD.adopt(R:Rel n B S E L σ m w){o:AO}{v:Value}{k:Nat}{x:Obj}(h:LateD S E o v k x)(h1:k∉zcC L)(h2:S k=none)(h3:B.w0.heap.size<=k):∃r e,(∀b,r.has b->k=b)/\(∀w',w'.heap[k]? = some x->r.holds w') /\(∀w',HS B S w' L->w'.heap[k]? = some x->Rel n B S (E++[e]) (L++[r]) ⟨σ.sl,σ.hp++[o]⟩ m w')/\VR S (E++[e]) (aoV σ.hp.length o) v:=by
 cases o with
 |blk T cs=>
  obtain⟨rfl,us,rfl,hu⟩:=h;refine⟨.blk k us T,.blk k,fun b hb=>(by cases hb;rfl),fun w' hw=>hw,fun w' H hw=>?_,?_⟩
  ·exact(R.to H).snoc (HS.cons H hw fun b hb=>by cases hb;exact⟨h3,h2,h1⟩) ⟨k,us,rfl,rfl,hu.imp fun _ _=>VC.mono (Mem.le_refl _) (ELe.push E _)⟩
  ·exact⟨k,rfl,.blk k,(by rw[<-R.lE];simp:(E++[EI.blk k])[σ.hp.length]? = some (EI.blk k)),fun b' hb=>by cases hb;rfl⟩
 |osl ver e T xs=>
  obtain⟨rfl,rfl,cs,rfl,hl,hr⟩:=h;have hold:∀w',w'.heap[k]? = some (Obj.cells cs.toArray T (0,0))->(Res.osl (sl k 0 xs.length xs.length) xs.length (tsz e) cs [] T).holds w':=fun w' hw=>.inr ⟨k,xs.length,(0,0),rfl,aJ _,hl,by rw[cC];exact Nat.le_of_eq hl.symm,by rw[cC];exact hw,.inl rfl⟩;refine⟨.osl (sl k 0 xs.length xs.length) xs.length (tsz e) cs [] T,.osl 0 (sl k 0 xs.length xs.length) (tsz e),fun b hb=>(by cases hb;rfl),hold,fun w' H hw=>?_,?_⟩
  ·exact(R.to H).snoc (e:=.osl 0 (sl k 0 xs.length xs.length) (tsz e)) (o:=.osl 0 e T xs) (HS.cons H (hold w' hw) fun b hb=>by cases hb;exact⟨h3,h2,h1⟩) ⟨_,_,cs,[],rfl,rfl,hr,.inl rfl⟩
  ·exact⟨rfl,.osl 0 (sl k 0 xs.length xs.length) (tsz e),(by rw[<-R.lE];simp:(E++[EI.osl 0 (sl k 0 xs.length xs.length) (tsz e)])[σ.hp.length]? = some (EI.osl 0 (sl k 0 xs.length xs.length) (tsz e))),fun r' v' s' hq=>by cases hq;exact⟨aJ _,fun _=>rfl⟩⟩
 |_=>exact h.elim
theorem yyV{o:Op}{ao:AO}{dst:Option Tmp}{ty:TypeId}{pos:String}{aft:Array Edge}{g:Option (Nat×Bool)}(hτ:TEok P τ)(R:Rel n B S E L σ m w)(h:xdK τ σ o=some ao)(w1:World):∃v k x w',(execOp (evO n m) ⟨dst,o,ty,pos,aft,g⟩).run P w1 = .ok (.value v) w'/\Ext w1 w'/\w1.heap.size<=k/\w'.heap[k]? = some x/\LateD S E ao v k x:=by
 unfold xdK at h;split at h
 ·rename_i T;split at h
  ·rename_i f hT;obtain⟨hb,h⟩:=zaJ h;cases h;have hF:=hτ _ _ hT;have hcs:(zV f).cells.toList=f.z.map zc:=by
    rw[hF.cells (by
     cases ha:f.agg with
     |true=>exact .inl rfl|false=>rw[ha]at hb;exact .inr (aB hb))]
   refine⟨_,w1.heap.size,_,w1.alloc (.cells (f.z.map zc).toArray T),by simp[execOp,zqO hF.zero,<-hcs],Ext.alloc w1 _,aJ _,zaR w1 _,rfl,_,rfl,zvF hF.z⟩
  ·cases h
 ·rename_i T N ps;split at h
  ·rename_i E' z1 z2 z3 z4 hT;split at h
   ·rename_i f hf;obtain⟨hb,h⟩:=zaJ h;split at h
    ·rename_i ys hys;cases h;obtain⟨ps⟩:=ps;have hb:=zaT hb;have hN:=aB (zaW (zaT hb));have hN:N=ps.length:=hN;subst hN;have hz:=aB (zaW (zaT (zaT hb)));have hTn:=zrS ((hτ _ _ hT).sl rfl) (hτ _ _ hf) (zaT (zaT (zaT hb))) hz;have hE:=hτ _ _ hf;obtain⟨us,h1,h2,h3⟩:=ysS R hz (pre:=[]) (i:=0) (zl:=f.z.map zc) (N:=ps.length) hys (by simp) (by rw[bL,hE.zl]) (by simp);simp only[List.nil_append]at h1;rw[hz]at h1;have hle:=aR (zaW hb);have hrun:=zxC (P:=P) (w:=w1) (dst:=dst) (ty:=ty) (pos:=pos) (aft:=aft) (g:=g) hTn rfl h1 (by rw[eV,<-hz];omega);refine⟨_,w1.heap.size,_,_,hrun,Ext.alloc w1 _,aJ _,zaR w1 _,rfl,by rw[h3],us,rfl,?_,h2⟩;rw[h2.len];congr 1;exact zgX f.ty
    ·cases h
   ·cases h
  ·cases h
 ·cases h
section
variable {k:SV->St->Option β}{r:β}{dst:Option Tmp}{ty:TypeId}{pos:String}{aft:Array Edge}{g:Option (Nat×Bool)}
theorem yvS{W:List Nat}{i:Nat}:∀{l:List Nat},allN W l=true->hasN W i=false->hasN l i=false
 |[],_,_=>rfl|x::l,h,hi=>by
  unfold allN at h;unfold hasN;rw[yvS (zaW h) hi];cases hb:aG x i with
  |false=>rfl|true=>rw[aB hb,hi]at h;cases h
theorem pcK_ok{x:Operand}{ash:List Operand}{at_:Array TypeId}{I:List Nat}(hΓ:CTok P Γ B)(R:Rel n B S E L σ m w)(h:pcK Γ I σ x ash k=some (some r)):
  outcome P (Post2F n B S E L I m k r) ((execOp (evO n m) ⟨dst,.call ⟨.value x,ash.toArray,at_⟩,ty,pos,aft,g⟩).run P w):=by
 unfold pcK at h;split at h
 ·rename_i f xs hx;split at h
  ·rename_i c hc;have hc':=hΓ.pc _ _ hc;obtain⟨_,_,us0,hev0,hus0,hA0⟩:=zlC R hx;cases hs:c.rts.any zqV with
   |true=>
    rw[hs]at h;simp only[zE]at h;obtain⟨hI,h⟩:=zaJ h;obtain⟨S1,E1,L1,h1,h2,R1,hF⟩:=zvR (xs.flatMap owns) R;split at h
    ·rename_i f' xs' hx';split at h
     ·rename_i a ha;have h:=osi h;obtain⟨y,hy,h⟩:=bnd h;obtain⟨first,cap,us,hev,hus,hA⟩:=zlC R1 hx';have hA2:=zvX (Mem.le_refl S1) zeH ha hA;refine zeI hc'.fn hev0 (by simpa using hus0) ?_;have:us=us0:=by rw[hev0]at hev;cases hev;rw[<-hus0,<-hus]
      subst this;exact(hc'.ok S1 w us a y ⟨S1,L1,Mem.le_refl _,R1.hs⟩ R1.hs.sub hA2 hy).mono fun e w' ⟨hx,v,he,hr⟩=>⟨v,he,_,_,gr S1 w w',E1,L1,h,Mem.le_trans h1 (yiC R1.hs.sub),h2,R1.call hx,zwB hr.1 hr.2,fun i hi _=>hF i (yvS hI hi)⟩
     ·cases h
    ·cases h
   |false=>
    rw[hs]at h;simp only[zF]at h;split at h
    ·rename_i a ha;have h:=osi h;obtain⟨y,hy,h⟩:=bnd h;refine zeI hc'.fn hev0 (by simpa using hus0) ?_;have hA2:=zvX (leOn S w) R.own_ok ha hA0;exact(hc'.ok (ztE S w) w us0 a y ⟨S,L,leOn S w,R.hs⟩ (zxS R.hs.sub) hA2 hy).mono fun e w' ⟨hx,v,he,hr⟩=>⟨v,he,_,_,gr S w w',E,L,h,yiC R.hs.sub,ELe.refl E,R.call hx,zwB (yeO hs hr.1) hr.2,fun _ _ _=>rfl⟩
    ·cases h
  ·cases h
 ·cases h
theorem ywF{o:Op}{T:TypeId}{I:List Nat}(hτ:TEok P τ)(R:Rel n B S E L σ m w)(ho:xaD I σ o=true)(h:op2 τ Γ σ o T k=some r):
  outcome P (Post2F n B S E L I m k r) ((execOp (evO n m) ⟨dst,o,ty,pos,aft,g⟩).run P w):=by
 unfold xaD at ho;split at ho
 ·rename_i T';simp only[op2]at h;split at h
  ·rename_i f hT;obtain⟨hb,h⟩:=zaJ h;have hF:=hτ _ _ hT;have hcs:(zV f).cells.toList=f.z.map zc:=by
    rw[hF.cells (by
     cases ha:f.agg with
     |true=>exact .inl rfl|false=>rw[ha]at hb;exact .inr (aB hb))]
   obtain⟨w',b,h1,h2⟩:=zdQ (dst:=dst) (ty:=ty) (pos:=pos) (aft:=aft) (g:=g) (e:=evO n m) R.hs hF.zero hcs;rw[h1];exact(ygV R h2 (zvF hF.z) h).sub fun _ _ _=>rfl
  ·cases h
 ·rename_i T' N ps;simp only[op2,op2b]at h;split at h
  ·rename_i E' z1 z2 z3 z4 hT;split at h
   ·rename_i f hf;obtain⟨hb,hq⟩:=zaJ h;clear h;have h:=hq;clear hq;split at h
    ·rename_i ys hys;obtain⟨ps⟩:=ps;obtain⟨S1,E1,L1,hS1,hE1,R1,hL1⟩:=zvR (zkA σ (ps.map (·.2))) R;refine zdJ (ydN (dst:=dst) (g:=g) (ty:=ty) (pos:=pos) (aft:=aft) R1 ((hτ _ _ hT).sl rfl) (hτ _ _ hf) (zaT (zaT (zaT hb))) (aB (zaW (zaT (zaT hb)))) (aB (zaW (zaT hb))) (aR (zaW hb)) hys h) fun _ _ hp=>?_;obtain⟨x,σ',S',E',L',k1,k2,k3,k4,k5,k6⟩:=hp;exact⟨x,σ',S',E',L',k1,Mem.le_trans hS1 k2,hE1.trans k3,k4,k5,fun i hi hlt=>(k6 i rfl (by rw[R1.lL,zwA,<-R.lL];exact hlt)).trans (hL1 i (ycX hi ho))⟩
    ·cases h
   ·cases h
  ·cases h
 ·rename_i x y T1 T2;simp only[op2]at h;exact zdJ (ygC (Γ:=Γ) hτ R h) fun _ _ hp=>hp.sub fun i hi _=>ycX hi ho
 ·cases ho
theorem ELe.len{E E':List EI}(h:ELe E E'){b:Nat}(hb:b<=E.length):b<=E'.length:=by
 cases b with
 |zero=>exact bX _|succ b=>obtain⟨a,h1,_⟩:=h b _ (aI hb);exact(aC.1 h1).1
theorem ypO:∀{l:List Nat} {j:Nat},j∈l->hasN l j=true
 |x::l,j,h=>by
  unfold hasN;rcases aT.1 h with rfl|h
  ·rw[dX];rfl
  ·rw[ypO h,Bool.or_true]
theorem ypB{W:List Nat}{b j:Nat}(hj:hasN W j=false)(hb:j<b):∀{l:List Nat},ndOk W b l=true->hasN l j=false
 |[],_=>rfl|x::l,h=>by
  unfold ndOk at h;unfold hasN;rw[ypB hj hb (zaW h),Bool.or_false];cases hx:aG x j with
  |false=>rfl|true=>have h:=zaT h;rw[aB hx,hj,gR]at h;have:=aR h;omega
theorem ygB{x:Operand}{ash:Array Operand}{as_:Array TypeId}{T:TypeId}(hτ:TEok P τ)(hΓ:CTok P Γ B):∀{ts I:List Nat} {σ:St} {S:Mem} {E:List EI} {L:List Res} {k:SV->St->Option β},Rel n B S E L σ m w->yeZ τ Γ x ash as_ T ts I σ k=some r ->
  outcome P (Post2F n B S E L I m k r) ((execOp (evO n m) ⟨dst,.call ⟨.value x,ash,as_⟩,T,pos,aft,g⟩).run P w)
 |[],I,σ,S,E,L,k,R,h=>by
  simp only[yeZ,callK]at h;split at h
  ·rename_i r' hr;obtain⟨ash⟩:=ash;exact pcK_ok hΓ R (by rw[hr,h])
  ·exact yjA hτ hΓ R h
 |t::ts,I,σ,S,E,L,k,R,h=>by
  unfold yeZ at h;split at h
  ·rename_i id i off hs;obtain⟨hid,hq⟩:=zaJ h;clear h;obtain⟨σ1,E1,L1,id',i',hs',hk,hE,R1,hV1,hV2,hF⟩:=xbT R hq;rw[hs]at hs';cases hs';refine zdJ (ygB hτ hΓ R1 hk) ?_;rintro v w' ⟨x,σ2,S2,E2,L2,h1,h2,h3,R2,h4,h5⟩;obtain⟨hnd,h1'⟩:=zaJ h1;obtain⟨σ3,S3,E3,L3,k1,k2,k3,k4,k5⟩:=xcO R2 (hV1.mono h2 h3) (hV2.mono h2 h3) h1';have hlen:σ.hp.length<=L1.length:=by rw[R1.lL,<-R1.lE,<-R.lE];exact ELe.len hE (aJ _)
   refine⟨x,σ3,S3,E3,L3,k1,Mem.le_trans h2 k2,hE.trans (h3.trans k3),k4,h4.mono k2 k3,fun j hj hl=>?_⟩;have hji:j≠id:=fun e=>by rw[e,hid]at hj;cases hj
   have hjb:j<σ.hp.length:=by rw[<-R.lL];exact hl
   rw[k5 j hji hjb (ypB hj hjb hnd),h5 j (yhB fun hm=>?_) (by omega),hF j hji hl];rcases cI.1 hm with hm|hm
   ·obtain⟨kk,_,e⟩:=zwZ hm;omega
   ·rw[ypO hm]at hj;cases hj
  ·cases h
theorem op2K_ok{o:Op}{T:TypeId}{I:List Nat}(hτ:TEok P τ)(hΓ:CTok P Γ B)(R:Rel n B S E L σ m w)(h:op2K τ Γ I σ o T k=some r):
  outcome P (Post2F n B S E L I m k r) ((execOp (evO n m) ⟨dst,o,T,pos,aft,g⟩).run P w):=by
 unfold op2K at h;cases hu:yrH σ.hp.length (hasN I) with
 |true=>rw[hu]at h;refine zdJ (xcT (T:=T) hτ hΓ R h) fun v w' ⟨x,σ',S',E',L',h1,h2,h3,h4,h5⟩=>⟨x,σ',S',E',L',h1,h2,h3,h4,h5,fun i hi hl=>?_⟩;rw[ykA hu i (by rw[<-R.lL];exact hl)]at hi;cases hi
 |false=>
 rw[hu]at h;cases ho:xaD I σ o with
 |true=>rw[ho]at h;exact ywF (T:=T) hτ R ho h|false=>
  rw[ho]at h;simp only[zF]at h;split at h
  ·exact ygB hτ hΓ R h
  ·exact yjA hτ hΓ R h
end
theorem ydH{r:β}{all:List Oper}{o:Oper}{doIt skip:St->Option β}(R:Rel n B S E L σ m w)(h:ylY all σ o.guard doIt skip=some r):(∃σ',Rel n B S E L σ' m w/\Region.wanted o (yielded all.toArray (fr n m).tmps)=true/\doIt σ'=some r)∨(∃σ',Rel n B S E L σ' m w/\Region.wanted o (yielded all.toArray (fr n m).tmps)=false/\skip σ'=some r):=by
 unfold ylY at h;split at h
 ·rename_i hg;exact .inl ⟨σ,R,znZ hg,h⟩
 ·rename_i j b hg;split at h
  ·rename_i d hd;split at h
   ·rename_i t ht;have hv:evO n m (.tmp d) = .bool t:=vB (by have:=R.sl d;rw[ht]at this;exact this);have hw:=zwG (o:=o) hg (ylB (m:=m) (n:=n) hd hv);have Rt:∀q:Bool,t=q->Rel n B S E L (σ.put d (.v .b q)) m w:=fun q hq=>R.re (by rw[hv,hq];exact bV q);cases t with
    |true=>
     cases b with
     |true=>exact .inl ⟨_,Rt true rfl,hw,h⟩|false=>exact .inr ⟨_,Rt true rfl,hw,h⟩
    |false=>
     cases b with
     |true=>exact .inr ⟨_,Rt false rfl,hw,h⟩|false=>exact .inl ⟨_,Rt false rfl,hw,h⟩
   ·rename_i ht;have hv:evO n m (.tmp d)=undef:=by have:=R.sl d;rw[ht]at this;exact this
    exact .inr ⟨_,R,yfC hg (yjS (m:=m) (n:=n) hd hv),h⟩
   ·cases h
  ·cases h
theorem HS.shrink{S':Mem}{w1 w':World}{L1 A:List Res}(H:HS B S w1 L1)(hS:Mem.le S S')(H':HS B S' w' A):HS B S w' A:=by
 refine⟨H'.fr,fun b o hb=>H'.sub b o (hS b o hb),H.keep,H'.own,fun k r b hk hb=>⟨(H'.old k r b hk hb).1,?_⟩,H'.inj⟩;cases h:S b with
 |none=>rfl|some o=>have:=hS b o h;rw[(H'.old k r b hk hb).2]at this;cases this
theorem HS.toJ{L0:List Res}{W:List Nat}(hfr:∀i,hasN W i=false->i<L0.length->lkR L i=lkR L0 i)(H:HS B S w L):HS B S w (zkE W 0 L0):=
 HS.part H fun i r hi=>by
  rw[zaX,zgB,aQ]at hi;cases hl:L0[i]? with
  |none=>rw[hl]at hi;cases hi
  |some r'=>
   rw[hl]at hi;simp only[bA,Option.some.injEq]at hi;cases hh:hasN W i with
   |true=>rw[hh]at hi;exact .inl hi.symm|false=>rw[hh]at hi;right;rw[hfr i hh (aC.1 hl).1,zaX,hl,<-hi];rfl
def PnI(B:Bas)(S:Mem)(L:List Res)(Jp:Nat->World->Prop)(p:Nat×List Nat):Prop:=
 ∃S1 L1 w1,HS B S1 w1 L1/\Mem.le S1 S/\L1.length<=L.length/\(∀i,hasN p.2 i=false->i<L1.length->lkR L i=lkR L1 i)/\Jp p.1=fun w=>HS B S1 w (zkE p.2 0 L1)
theorem PnI.j{Jp:Nat->World->Prop}{p:Nat×List Nat}(h:PnI B S L Jp p){u:World}(hu:HS B S u L):Jp p.1 u:=by obtain⟨S1,L1,w1,h1,h2,h3,h4,h5⟩:=h;rw[h5];exact HS.shrink h1 h2 (HS.toJ h4 hu)
theorem PnI.next{Jp:Nat->World->Prop}{p:Nat×List Nat}{S':Mem}{L':List Res}(h:PnI B S L Jp p)(hS:Mem.le S S')(hl:L.length<=L'.length)(hf:∀i,hasN p.2 i=false->i<L.length->lkR L' i=lkR L i):PnI B S' L' Jp p:=by obtain⟨S1,L1,w1,h1,h2,h3,h4,h5⟩:=h;exact⟨S1,L1,w1,h1,Mem.le_trans h2 hS,Nat.le_trans h3 hl,fun i hi hlt=>by rw[hf i hi (by omega),h4 i hi hlt],h5⟩
theorem ylG{i:Nat}:∀{pn:List (Nat×List Nat)},yyL i pn=true->∀p∈pn,p.1≠i
 |[],_,p,hp=>by cases hp
 |q::l,h,p,hp=>by
  unfold yyL at h;rcases aT.1 hp with rfl|hp
  ·intro e;have:=zaT h;rw[e,dX]at this;cases this
  ·exact ylG (zaW h) p hp
theorem yqJ{ops:Array Oper}{i:Nat}{W:List Nat}:∀{pn:List (Nat×List Nat)},pnOk ops i W pn=true->∀p∈pn,ancB ops i p.1=false->allN p.2 W=true
 |[],_,p,hp,_=>by cases hp
 |q::l,h,p,hp,ha=>by
  unfold pnOk at h;rcases aT.1 hp with rfl|hp
  ·have:=zaT h;rw[ha]at this;exact this
  ·exact yqJ (zaW h) p hp ha
theorem yaH{ops:Array Oper}{i:Nat}:∀(pn:List (Nat×List Nat)),yiM ops i (pn.map (·.1))=(zvG ops i pn).map (·.1)
 |[]=>rfl|q::l=>by have ih:=yaH (ops:=ops) (i:=i) l;unfold yiM zvG at ih ⊢;simp only[bS,List.filter_cons];cases ancB ops i q.1<;>simp[ih]
theorem xaG{W V:List Nat}{i:Nat}(h:allN V W=true)(hi:hasN V i=false):hasN W i=false:=ycX hi h
theorem HS.kp{w1:World}(H:HS B S w1 L):∀k,(k∈zcC L∨S k≠none∨k<B.w0.heap.size)->k<w1.heap.size:=fun k h=>by
 rcases h with h|h|h
 ·obtain⟨i,r,h1,h2⟩:=zcV.1 h;exact H.res_lt h1 h2
 ·exact Nat.lt_of_not_le fun hle=>h (H.sub.none hle)
 ·exact Nat.lt_of_lt_of_le h H.fr.size
theorem ypM{Jp:Nat->World->Prop}{i:Nat}{J:World->Prop}:updJ Jp i J i=J:=by unfold updJ;rw[zH rfl]
theorem updJ_ne{Jp:Nat->World->Prop}{i j:Nat}{J:World->Prop}(h:j≠i):updJ Jp i J j=Jp j:=by unfold updJ;rw[zG h]
theorem PnI.upd{Jp:Nat->World->Prop}{p:Nat×List Nat}{i:Nat}{J:World->Prop}(h:PnI B S L Jp p)(hi:p.1≠i):PnI B S L (updJ Jp i J) p:=by obtain⟨S1,L1,w1,h1,h2,h3,h4,h5⟩:=h;exact⟨S1,L1,w1,h1,h2,h3,h4,by rw[updJ_ne hi];exact h5⟩
theorem zrP{all:List Oper}{S0:Mem}{E0:List EI}{m0:FM}{D:List Nat}{k:St->Option β}{r:β}{Q:Exit->Act->World->Prop}(hτ:TEok P τ)(hΓ:CTok P Γ B/\jnOf Γ=false)(hD:∀t,hasN (zoD all) t=true->hasN D t=true) (hQ:∀σ' S' E' L' m' w',k σ'=some r->Mem.le S0 S'->ELe E0 E'->Agr D m0 m'->Rel n B S' E' L' σ' m' w'->Q .normal (fr n m') w'):∀(s:SchW) (pd:List (Nat×AO)) (pn:List (Nat×List Nat)) {σ:St} {S:Mem} {E:List EI} {L:List Res} {m:FM} {w:World} {Dsc:Nat->Value->Nat->Obj->Prop} {Jp:Nat->World->Prop},Mem.le S0 S->ELe E0 E->Agr D m0 m->(∀p∈pn,PnI B S L Jp p)->Rel n B S E L σ m w->(∀i ao,lkP pd i=some ao->∃S1 E1,Mem.le S1 S/\ELe E1 E/\Dsc i=LateD S1 E1 ao)->schS n τ Γ all.toArray all s pd pn σ k=some r ->
  wpS P all.toArray Q (yvH s) Dsc Jp (pn.map (·.1)) (fun w=>HS B S w L) (fun b=>b∈zcC L∨S b≠none∨b<B.w0.heap.size) (fr n m)
 |[],pd,pn,σ,S,E,L,m,w,Dsc,Jp,hS,hE,hA,hpn,R,hp,h=>fun w1 hw=>hQ _ _ _ _ _ _ h hS hE hA (R.to hw)
 |(.pu,i,W)::s,pd,pn,σ,S,E,L,m,w,Dsc,Jp,hS,hE,hA,hpn,R,hp,h=>by
  simp only[schS]at h;split at h
  ·rename_i o ho;obtain⟨hnew,h⟩:=zaJ h;have hoi:all.toArray[i]? = some o:=by rw[eJ,<-zcT];exact ho
   have hdd:∀t,o.dst=some t->hasN D t=true:=fun t ht=>hD t (zsJ.2 ⟨o,bJ (by rw[<-zcT];exact ho),ht⟩)
   have hpn':∀p∈(i,W)::pn,PnI B S L (updJ Jp i fun w=>HS B S w (zkE W 0 L)) p:=fun p hp=>by
    rcases aT.1 hp with rfl|hp
    ·exact⟨S,L,w,R.hs,Mem.le_refl _,aJ _,fun _ _ _=>rfl,ypM⟩
    ·exact(hpn p hp).upd (ylG hnew p hp)
   have hG:∀u,HS B S u L->HS B S u (zkE W 0 L):=fun u hu=>HS.toJ (fun _ _ _=>rfl) hu;rcases ydH R h with⟨σ',R',hw,h⟩|⟨σ',R',hw,h⟩
   ·obtain⟨dst,op,ty,pos,aft,g⟩:=o;obtain⟨z,u,h1,h2,h3⟩:=fopK_ok (dst:=dst) (ty:=ty) (pos:=pos) (aft:=aft) (g:=g) hτ R' h;obtain⟨σ2,m2,h5,R2,h6,h7⟩:=zrU R' h2 h1;refine⟨_,u,fun w=>HS B S w (zkE W 0 L),hoi,.inl ⟨hw,fun w1 hw1=>by rw[zdF];exact h3 w1 hw1⟩,hG,?_⟩;show wpS P all.toArray Q (yvH s) Dsc _ _ _ _ ((fr n m).put dst u);rw[h6];exact zrP hτ hΓ hD hQ s pd ((i,W)::pn) hS hE (hA.trans (h7 D hdd)) hpn' R2 hp h5
   ·obtain⟨σ2,m2,h5,R2,h6,h7⟩:=zrU R' (v:=undef) (x:=.skp) rfl h;refine⟨o,undef,fun w=>HS B S w (zkE W 0 L),hoi,.inr ⟨hw,rfl⟩,hG,?_⟩;rw[h6];exact zrP hτ hΓ hD hQ s pd ((i,W)::pn) hS hE (hA.trans (h7 D hdd)) hpn' R2 hp h5
  ·cases h
 |(.la,i,W)::s,pd,pn,σ,S,E,L,m,w,Dsc,Jp,hS,hE,hA,hpn,R,hp,h=>by
  simp only[schS]at h;split at h
  ·rename_i o ho;have hoi:all.toArray[i]? = some o:=by rw[eJ,<-zcT];exact ho
   split at h
   ·rename_i ao hg hl;refine⟨o,LateD S E ao,hoi,znZ hg,fun w1=>?_,?_⟩
    ·obtain⟨dst,op,ty,pos,aft,g⟩:=o;rw[zdF];exact yyV hτ R hl w1
    ·refine zrP hτ hΓ hD hQ s ((i,ao)::pd) pn hS hE hA hpn R (fun j bo hj=>?_) h;unfold lkP at hj;unfold updD;cases hij:aG i j with
     |true=>rw[hij]at hj;cases hj;rw[zH (aB hij).symm];exact⟨S,E,Mem.le_refl _,ELe.refl _,rfl⟩
     |false=>rw[hij]at hj;rw[zG fun e=>by rw[e,dX]at hij;cases hij];exact hp j bo hj
   ·cases h
  ·cases h
 |(.rv,i,W)::s,pd,pn,σ,S,E,L,m,w,Dsc,Jp,hS,hE,hA,hpn,R,hp,h=>by
  simp only[schS]at h;split at h
  ·rename_i o ao ho hpi;have hoi:all.toArray[i]? = some o:=by rw[eJ,<-zcT];exact ho
   have hdd:∀t,o.dst=some t->hasN D t=true:=fun t ht=>hD t (zsJ.2 ⟨o,bJ (by rw[<-zcT];exact ho),ht⟩);obtain⟨S1,E1,g1,g2,g3⟩:=hp i ao hpi;refine⟨o,hoi,fun v kk x hD1 hK ⟨w2,hw2,hx2⟩=>?_⟩;rw[g3]at hD1;have hD1:=hD1.mono g1 g2;have hk1:kk∉zcC L:=fun h=>hK (.inl h);have hk2:S kk=none:=Classical.byContradiction fun h=>hK (.inr (.inl h));have hk3:B.w0.heap.size<=kk:=fZ fun h=>hK (.inr (.inr h));obtain⟨q,e,a1,a2,a3,a4⟩:=hD1.adopt R hk1 hk2 hk3;have R2:=a3 w2 hw2 hx2;obtain⟨σ3,m3,h5,R3,h6,h7⟩:=zrU R2 a4 h;have hpn':∀p∈pn,PnI B S (L++[q]) Jp p:=fun p hp=>(hpn p hp).next (Mem.le_refl _) (by rw[aE];omega) fun j _ hj=>zvW hj;refine⟨fun w=>HS B S w (L++[q]),fun b=>b∈zcC (L++[q])∨S b≠none∨b<B.w0.heap.size,fun w1 h1 h2=>(a3 w1 h1 h2).hs,fun j hj w1 h1=>?_,fun u u' h1 h2=>h1.ext h2,fun u h1=>HS.kp h1,fun b h1=>?_,?_⟩
   ·obtain⟨p,hp1,rfl⟩:=eH.1 hj;exact(hpn' p hp1).j h1
   ·rcases h1 with h1|h1
    ·obtain⟨t,q',t1,t2⟩:=zcV.1 h1;rw[zaX]at t1;by_cases ht:t<L.length
     ·rw[aF ht]at t1;exact .inl (.inl (zcV.2 ⟨t,q',by rw[zaX];exact t1,t2⟩))
     ·have:t=L.length:=by have:=(aC.1 t1).1;simp at this;omega
      subst this;simp at t1;subst t1;exact .inr (a1 _ t2).symm
    ·exact .inl (.inr h1)
   ·rw[h6]
    exact zrP hτ hΓ hD hQ s pd pn hS (hE.trans (ELe.push E _)) (hA.trans (h7 D hdd)) hpn' R3 (fun j bo hj=>by
     obtain⟨S2,E2,t1,t2,t3⟩:=hp j bo hj
     exact⟨S2,E2,t1,t2.trans (ELe.push E _),t3⟩) h5
  ·cases h
 |(.mn,i,W)::s,pd,pn,σ,S,E,L,m,w,Dsc,Jp,hS,hE,hA,hpn,R,hp,h=>by
  simp only[schS]at h;split at h
  ·rename_i o ho;obtain⟨hok,h⟩:=zaJ h;have hoi:all.toArray[i]? = some o:=by rw[eJ,<-zcT];exact ho
   have hdd:∀t,o.dst=some t->hasN D t=true:=fun t ht=>hD t (zsJ.2 ⟨o,bJ (by rw[<-zcT];exact ho),ht⟩);have hrest:∀p∈zvG all.toArray i pn,p∈pn/\ancB all.toArray i p.1=false:=fun p hp=>by have:=List.mem_filter.1 hp;exact⟨this.1,by simpa using this.2⟩
   refine⟨o,hoi,fun w1 hw1=>?_⟩;rw[yaH];rcases ydH (R.to hw1) h with⟨σ',R',hw,h⟩|⟨σ',R',hw,h⟩
   ·left;refine⟨hw,?_⟩;obtain⟨dst,op,ty,pos,aft,g⟩:=o;rw[zdF];have RL:Rel n ⟨S,mayL (mbOf Γ) S L w1,w1⟩ S E L σ' m w1:=⟨HS.lendX hw1 (mbOf Γ),R'.lL,R'.lE,R'.obj,R'.sl⟩;refine zdJ (op2K_ok hτ (CTok.lend hΓ.2 hΓ.1 hw1) RL h) ?_;rintro v w' ⟨x,σ2,S',E',L',h1,h2,h3,R2,h4,h5⟩;have Hh:=HS.home hΓ.1.mb hw1 R2.hs;have RB:Rel n B S' E' L' σ2 m w':=⟨Hh,R2.lL,R2.lE,R2.obj,R2.sl⟩;obtain⟨σ3,m3,h6,R3,h7,h8⟩:=zrU RB h4 h1;have hlen:L.length<=L'.length:=by rw[R2.lL,<-R2.lE,R.lL,<-R.lE];exact ELe.len h3 (aJ _)
    have hpn':∀p∈zvG all.toArray i pn,PnI B S' L' Jp p:=fun p hp=>by obtain⟨t1,t2⟩:=hrest p hp;exact(hpn p t1).next h2 hlen fun j hj hlt=>h5 j (xaG (yqJ hok p t1 t2) hj) hlt
    refine⟨fun u=>HS B S' u L',fun b=>b∈zcC L'∨S' b≠none∨b<B.w0.heap.size,fun j hj u hu=>?_,fun u u' t1 t2=>t1.ext t2,fun u t1=>HS.kp t1,Hh,fun b t1=>?_,fun b t1 t2=>R2.hs.fr.block b t1 fun t3=>t2 ((zqJ t3).imp id fun⟨_,_,o,t4,_⟩=>.inl (by rw[t4];simp)),?_⟩
    ·obtain⟨p,hp1,rfl⟩:=eH.1 hj;exact(hpn' p hp1).j hu
    ·rcases t1 with t1|t1|t1
     ·obtain⟨t,q',t2,t3⟩:=zcV.1 t1;rcases(R2.hs.old t q' b t2 t3).1 with t4|t4
      ·exact .inr t4
      ·exact .inl ((zqJ t4).imp id fun⟨_,_,o,t5,_⟩=>.inl (by rw[t5];simp))
     ·by_cases hlt:b<w1.heap.size
      ·by_cases hX:b∈mayL (mbOf Γ) S L w1
       ·exact .inl ((zqJ hX).imp id fun⟨_,_,o,t5,_⟩=>.inl (by rw[t5];simp))
       ·have:=R2.hs.keep b hlt (fun e=>absurd e hX);rw[this]at t1;exact .inl (.inr (.inl t1))
      ·exact .inr (fZ hlt)
     ·exact .inl (.inr (.inr t1))
    ·show wpS P all.toArray Q (yvH s) Dsc _ _ _ _ ((fr n m).put dst v);rw[h7]
     exact zrP hτ hΓ hD hQ s pd (zvG all.toArray i pn) (Mem.le_trans hS h2) (hE.trans h3) (hA.trans (h8 D hdd)) hpn' R3 (fun j bo hj=>by
      obtain⟨S2,E2,t1,t2,t3⟩:=hp j bo hj
      exact⟨S2,E2,Mem.le_trans t1 h2,t2.trans h3,t3⟩) h6
   ·right;refine⟨hw,?_⟩;obtain⟨σ2,m2,h5,R2,h6,h7⟩:=zrU R' (v:=undef) (x:=.skp) rfl h;rw[h6];exact zrP hτ hΓ hD hQ s pd (zvG all.toArray i pn) hS hE (hA.trans (h7 D hdd)) (fun p hp=>hpn p (hrest p hp).1) R2 hp h5
  ·cases h
theorem yrR{l:List Oper}{k:St->Option β}{r:β}{Q:Exit->Act->World->Prop}{s:SchW}(hτ:TEok P τ)(hΓ:CTok P Γ B)(R:Rel n B S E L σ m w)(h:yuK n τ Γ s l.toArray σ k=some r) (hQ:∀σ' S' E' L' m' w',k σ'=some r->Mem.le S S'->ELe E E'->Agr (zoD l) m m'->Rel n B S' E' L' σ' m' w'->Q .normal (fr n m') w'):RegAny P l Q (fr n m) w:=by unfold yuK at h;obtain⟨hb,h⟩:=zaJ h;have hw:=zrP (Q:=OnlyNormal Q) (S0:=S) (E0:=E) (m0:=m) (D:=zoD l) (Dsc:=fun _ _ _ _=>False) (Jp:=fun _ _=>True) hτ ⟨hΓ.unJ,xcH Γ⟩ (fun _ h=>h) (fun σ' S' E' L' m' w' k1 k2 k3 k4 R1=>zaO (hQ σ' S' E' L' m' w' k1 k2 k3 k4 R1)) s [] [] (Mem.le_refl _) (ELe.refl _) (Agr.refl _ _) (fun p hp=>by cases hp) R (fun i ao hi=>by cases hi) h;exact yuF (zaT hb) (zaW hb) hw R.hs.drew (fun u u' h1 h2=>h1.ext h2) (fun u hu=>HS.kp hu)
theorem ynR{id:Nat}{l:List Oper}{w:World}{k:St->Option β}{r:β}{Q:Exit->Act->World->Prop}(hm:P.follows .mixedOrders=true)(hτ:TEok P τ)(hΓ:CTok P Γ B)(R:Rel n B S E L σ m w){η:HT}(h:ysH n τ Γ η id l.toArray σ k=some r) (hQ:∀σ' S' E' L' m' w',k σ'=some r->Mem.le S S'->ELe E E'->Agr (zoD l) m m'->Rel n B S' E' L' σ' m' w'->Q .normal (fr n m') w'):(Code.region id l.toArray true).wp P Q (fr n m) w:=by
 refine RegAny.wp hm ?_;unfold ysH at h;split at h
 ·exact yrR hτ hΓ R h hQ
 ·cases h
end
end Go.Proofs.YtmbcolbbekbccaaGreat.Am
