/- Parts of one proof. Conditions: as each theorem says. -/
import Derived.Test.YtmbcolbbekbccaaGreatQmN
open Bool renaming and_eq_true->aL,or_eq_false_iff->cT
open List renaming all_cons->cX,append_assoc->aX,append_nil->cC,cons_append->bO,ext_getElem?->aW,getElem?_append_left->aE,getElem?_append_right->aI,getElem?_cons_succ->bZ,getElem?_eq_getElem->aG,getElem?_eq_some_iff->aC,getElem?_map->bG,getElem?_of_mem->gQ,getElem?_set_ne->aM,getElem?_set_self->aK,getElem?_toArray->dV,getElem_mem->eE,length_append->aF,length_cons->aO,length_map->bP,length_set->bL,map_cons->bS,map_nil->eW,mem_append->cG,mem_append_left->eF,mem_append_right->iT,mem_cons->aV,mem_cons_of_mem->aS,mem_cons_self->bA,mem_map->dS,mem_of_getElem?->bH,mem_singleton->aY,pairwise_append->eR,perm_append_singleton->dB,set_append_left->eS,set_append_right->eD,set_cons_zero->eZ,set_set->gU
open Nat renaming beq->aH,beq_refl->dM,ble_eq->eL,blt->cL,eq_of_beq_eq_true->aB,le_of_ble_eq_true->aQ,le_of_not_lt->fJ,le_refl->aJ,sub_self->cW,zero_add->aP,zero_le->bX
open Option renaming map_some->bB
namespace Go.Proofs.YtmbcolbbekbccaaGreat.Am
open Go Go.RowKit
def zjT(I:List Nat):Nat->List Res->List Res
 |_,[]=>[]|i,r::l=>(bif hasN I i then zjV else r)::zjT I (i+1) l
def zgM(I:List Nat):Nat->List EI->List EI
 |_,[]=>[]|i,e::l=>(bif hasN I i then .dead else e)::zgM I (i+1) l
theorem zfU(I:List Nat):∀(l:List Res) (i j:Nat),(zjT I i l)[j]? = (l[j]?).map fun r=>bif hasN I (i+j)then zjV else r
 |[],_,_=>by simp[zjT]
 |r::l,i,0=>by simp[zjT]
 |r::l,i,j+1=>by simp only[zjT,bZ,zfU I l (i+1) j];rw[show i+1+j=i+(j+1) by omega]
theorem zlG(I:List Nat):∀(l:List EI) (i j:Nat),(zgM I i l)[j]? = (l[j]?).map fun r=>bif hasN I (i+j)then EI.dead else r
 |[],_,_=>by simp[zgM]
 |r::l,i,0=>by simp[zgM]
 |r::l,i,j+1=>by simp only[zgM,bZ,zlG I l (i+1) j];rw[show i+1+j=i+(j+1) by omega]
theorem zuX(I:List Nat):∀(l:List AO) (i j:Nat),(zqN I i l)[j]? = (l[j]?).map fun r=>bif hasN I (i+j)then AO.dead else r
 |[],_,_=>by simp[zqN]
 |r::l,i,0=>by simp[zqN]
 |r::l,i,j+1=>by simp only[zqN,bZ,zuX I l (i+1) j];rw[show i+1+j=i+(j+1) by omega]
theorem zrQ(I:List Nat):∀(l:List Res) (i:Nat),(zjT I i l).length=l.length
 |[],_=>rfl|_::l,i=>by simp only[zjT,aO,zrQ I l]
theorem zlB(I:List Nat):∀(l:List EI) (i:Nat),(zgM I i l).length=l.length
 |[],_=>rfl|_::l,i=>by simp only[zgM,aO,zlB I l]
theorem zgH(I:List Nat):∀(l:List AO) (i:Nat),(zqN I i l).length=l.length
 |[],_=>rfl|_::l,i=>by simp only[zqN,aO,zgH I l]
theorem zvE(I:List Nat)(E:List EI):ELe E (zgM I 0 E):=fun i a h=>by
 refine⟨_,by rw[zlG,h];rfl,?_⟩;rw[aP];cases hasN I i with
 |false=>exact a.le_refl|true=>
  show a.le .dead;cases a with
  |blk=>exact .inr rfl|osl=>exact .inr (.inl rfl)|mp=>exact .inl rfl|fam=>exact .inr (.inl rfl)|dead=>rfl
section
variable {B:Bas}{S S':Mem}{w w':World}{L A:List Res}
theorem HS.part(H:HS B S w L)(h:∀i r,lkR A i=some r->r=zjV∨lkR L i=some r):HS B S w A:=by
 refine⟨H.fr,H.sub,H.keep,fun k r hk=>?_,fun k r b hk hb=>?_,fun i j r s b hi hj h1 h2=>?_⟩
 ·rcases h k r hk with rfl|h
  ·exact .inl ⟨rfl,rfl,rfl,rfl⟩
  ·exact H.own k r h
 ·rcases h k r hk with rfl|h
  ·cases hb
  ·exact H.old k r b h hb
 ·rcases h i r hi with rfl|hi
  ·cases h1
  ·rcases h j s hj with rfl|hj
   ·cases h2
   ·exact H.inj i j r s b hi hj h1 h2
end
end Go.Proofs.YtmbcolbbekbccaaGreat.Am
namespace Go.Proofs.YtmbcolbbekbccaaGreat
open Go Go.RowKit
def Res.parts:Res->List R0
 |.blk b cs T=>[.blk b cs T]|.obj b o=>[.obj b o]|.osl v n sz cs rs T=>[.osl v n sz cs rs T]|.many rs=>rs
def ytO:R0:=.osl (.slice none 0 0) 0 0 [] [] 0
theorem R0.apart_one(q:R0):R0.apart [q]:=List.pairwise_singleton _ _
theorem Res.holds_parts{w:World}{r:Res}:r.holds w↔(∀q∈r.parts,q.holds w)/\R0.apart r.parts:=by
 cases r with
 |many rs=>exact Iff.rfl|_=>simp only[Res.parts,aY,forall_eq];exact⟨fun h=>⟨h,R0.apart_one _⟩,fun h=>h.1⟩
theorem Res.has_parts{r:Res}{b:Nat}:r.has b↔∃q∈r.parts,q.key=some b:=by
 cases r with
 |many rs=>exact Iff.rfl|_=>simp only[Res.parts,aY,exists_eq_left];exact Iff.rfl
theorem R0.up_parts(q:R0):q.up.parts=[q]:=by cases q<;>rfl
theorem R0.apart_symm{p q:R0}(h:∀b,p.key=some b->q.key≠some b):∀b,q.key=some b->p.key≠some b:=fun b h1 h2=>h b h2 h1
theorem R0.apart_perm{l l':List R0}(h:l.Perm l')(k:R0.apart l):R0.apart l':=h.pairwise k fun hh=>R0.apart_symm hh
theorem R0.apart_cons{q:R0}{l:List R0}(hq:q.key=none)(h:R0.apart l):R0.apart (q::l):=List.pairwise_cons.2 ⟨fun _ _ b hb=>(by rw[hq]at hb;cases hb),h⟩
end Go.Proofs.YtmbcolbbekbccaaGreat
namespace Go.Proofs.YtmbcolbbekbccaaGreat.Am
open Go Go.RowKit
section
variable {B:Bas}{S:Mem}{w:World}{L:List Res}{r:Res}
theorem HS.two(H:HS B S w L){i j:Nat}{r s r' s':Res}(hi:L[i]? = some r)(hj:L[j]? = some s)(hij:i≠j) (h1:∀q∈r'.parts++s'.parts,q=ytO∨q∈r.parts++s.parts) (h2:R0.apart (r.parts++s.parts)->R0.apart (r'.parts++s'.parts)):HS B S w ((L.set i r').set j s'):=by
 have hi':lkR L i=some r:=by rw[zbC];exact hi
 have hj':lkR L j=some s:=by rw[zbC];exact hj
 have hr:=Res.holds_parts.1 (H.own i r hi');have hs:=Res.holds_parts.1 (H.own j s hj');have hap:R0.apart (r.parts++s.parts):=eR.2 ⟨hr.2,hs.2,fun p hp q hq b h3 h4=>hij (H.inj i j r s b hi' hj' (Res.has_parts.2 ⟨p,hp,h3⟩) (Res.has_parts.2 ⟨q,hq,h4⟩))⟩;have hap':=eR.1 (h2 hap)
 have hold:∀q∈r'.parts++s'.parts,q.holds w:=fun q hq=>by
  rcases h1 q hq with rfl|h
  ·exact .inl ⟨rfl,rfl,rfl,rfl⟩
  ·rcases cG.1 h with h|h
   ·exact hr.1 q h
   ·exact hs.1 q h
 have whose:∀q∈r'.parts++s'.parts,∀b,q.key=some b->r.has b∨s.has b:=fun q hq b hb=>by
  rcases h1 q hq with rfl|h
  ·cases hb
  ·rcases cG.1 h with h|h
   ·exact .inl (Res.has_parts.2 ⟨q,h,hb⟩)
   ·exact .inr (Res.has_parts.2 ⟨q,h,hb⟩)
 have hli:=(aC.1 hi).1;have hlj:=(aC.1 hj).1
 have at_:∀{k q},lkR ((L.set i r').set j s') k=some q->(k=j/\q=s')∨(k=i/\q=r')∨(k≠i/\k≠j/\lkR L k=some q):=fun {k q} hk=>by
  rw[zbC]at hk;by_cases hkj:j=k
  ·subst hkj;rw[aK (by simpa using hlj)]at hk;cases hk;exact .inl ⟨rfl,rfl⟩
  ·rw[aM hkj]at hk;by_cases hki:i=k
   ·subst hki;rw[aK hli]at hk;cases hk;exact .inr (.inl ⟨rfl,rfl⟩)
   ·rw[aM hki]at hk;exact .inr (.inr ⟨Ne.symm hki,Ne.symm hkj,by rw[zbC];exact hk⟩)
 have mine:∀{k q b},((k=j/\q=s')∨(k=i/\q=r'))->q.has b->r.has b∨s.has b:=fun {k q b} hk hb=>by
  obtain⟨p,hp,hpb⟩:=Res.has_parts.1 hb;rcases hk with⟨_,rfl⟩|⟨_,rfl⟩
  ·exact whose p (iT _ hp) b hpb
  ·exact whose p (eF _ hp) b hpb
 have notmine:∀{k q b},k≠i->k≠j->lkR L k=some q->q.has b->(r.has b∨s.has b)->False:=fun {k q b} h3 h4 h5 h6 h7=>by
  rcases h7 with h7|h7
  ·exact h3 (H.inj k i q r b h5 hi' h6 h7)
  ·exact h4 (H.inj k j q s b h5 hj' h6 h7)
 refine⟨H.fr,H.sub,H.keep,fun k q hk=>?_,fun k q b hk hb=>?_,fun a c q p b ha hc h3 h4=>?_⟩
 ·rcases at_ hk with⟨rfl,rfl⟩|⟨rfl,rfl⟩|⟨_,_,h⟩
  ·exact Res.holds_parts.2 ⟨fun p hp=>hold p (iT _ hp),hap'.2.1⟩
  ·exact Res.holds_parts.2 ⟨fun p hp=>hold p (eF _ hp),hap'.1⟩
  ·exact H.own k q h
 ·have old:r.has b∨s.has b->(B.w0.heap.size<=b∨b∈B.X)/\S b=none:=fun h=>by
   rcases h with h|h
   ·exact H.old i r b hi' h
   ·exact H.old j s b hj' h
  rcases at_ hk with h|h|⟨_,_,h⟩
  ·exact old (mine (.inl h) hb)
  ·exact old (mine (.inr h) hb)
  ·exact H.old k q b h hb
 ·have cross:∀{b},r'.has b->s'.has b->False:=fun {b} h5 h6=>by obtain⟨x,hx,hxb⟩:=Res.has_parts.1 h5;obtain⟨y,hy,hyb⟩:=Res.has_parts.1 h6;exact hap'.2.2 x hx y hy b hxb hyb
  rcases at_ ha with⟨rfl,rfl⟩|⟨rfl,rfl⟩|⟨g1,g2,g3⟩
  ·rcases at_ hc with⟨rfl,rfl⟩|⟨rfl,rfl⟩|⟨f1,f2,f3⟩
   ·rfl
   ·exact(cross h4 h3).elim
   ·exact(notmine f1 f2 f3 h4 (mine (k:=a) (.inl ⟨rfl,rfl⟩) h3)).elim
  ·rcases at_ hc with⟨rfl,rfl⟩|⟨rfl,rfl⟩|⟨f1,f2,f3⟩
   ·exact(cross h3 h4).elim
   ·rfl
   ·exact(notmine f1 f2 f3 h4 (mine (k:=a) (.inr ⟨rfl,rfl⟩) h3)).elim
  ·rcases at_ hc with h|h|⟨f1,f2,f3⟩
   ·exact(notmine g1 g2 g3 h3 (mine (k:=c) (.inl h) h4)).elim
   ·exact(notmine g1 g2 g3 h3 (mine (k:=c) (.inr h) h4)).elim
   ·exact H.inj a c q p b g3 f3 h3 h4
theorem HS.snocD(H:HS B S w L):HS B S w (L++[zjV]):=HS.part H fun i r hi=>by
 rw[zbC]at hi ⊢;by_cases h:i<L.length
 ·rw[aE h]at hi;exact .inr hi
 ·rw[aI (by omega)]at hi;cases hk:i-L.length with
  |zero=>rw[hk]at hi;cases hi;exact .inl rfl
  |succ k=>rw[hk]at hi;cases hi
theorem HS.split(H:HS B S w L){i:Nat}{A A':List R0}{q:R0}(hi:L[i]? = some (.many A))(hp:A.Perm (q::A')):HS B S w (L.set i (.many A')++[q.up]):=by
 have hl:=(aC.1 hi).1;have h:=HS.two (HS.snocD H) (i:=i) (j:=L.length) (r:=.many A) (s:=zjV) (r':=.many A') (s':=q.up) (by rw[aE hl];exact hi) (by simp) (by omega) (fun p hp'=>?_) fun ha=>?_
 ·rw[eS _ _ hl,eD _ _ (by simp)]at h;simpa using h
 ·rw[R0.up_parts]at hp';right;refine eF _ ?_;rcases cG.1 hp' with h|h
  ·exact hp.mem_iff.2 (aS _ h)
  ·rw[aY.1 h];exact hp.mem_iff.2 bA
 ·rw[R0.up_parts];have h1:R0.apart A:=(eR.1 ha).1;exact R0.apart_perm (hp.trans (dB q A').symm) h1
theorem HS.join(H:HS B S w L){i j:Nat}{A A' D:List R0}{s:Res}(hi:L[i]? = some (.many A))(hj:L[j]? = some s)(hij:i≠j)(hp:(A++s.parts).Perm (A'++D)):HS B S w ((L.set i (.many A')).set j zjV):=by
 refine HS.two H hi hj hij (fun p hp'=>?_) fun ha=>?_
 ·rcases cG.1 hp' with h|h
  ·exact .inr (hp.mem_iff.2 (eF _ h))
  ·exact .inl (aY.1 h)
 ·have h1:R0.apart A':=(eR.1 (R0.apart_perm hp ha)).1;exact R0.apart_perm (dB ytO A').symm (R0.apart_cons rfl h1)
theorem HS.drop(H:HS B S w (L++[r])):HS B S w L:=HS.part H fun k q hk=>.inr (by
 rw[zbC]at hk ⊢;rw[aE (aC.1 hk).1]
 exact hk)
theorem HS.toMany(H:HS B S w L){i:Nat}{r:Res}(hi:L[i]? = some r):HS B S w (L.set i (.many r.parts)):=by have hl:=(aC.1 hi).1;have h:=HS.two (HS.snocD H) (i:=i) (j:=L.length) (r:=r) (s:=zjV) (r':=.many r.parts) (s':=zjV) (by rw[aE hl];exact hi) (by simp) (by omega) (fun p hp'=>.inr hp') fun ha=>ha;rw[eS _ _ hl,eD _ _ (by simp)]at h;simp only[bL,cW,eZ]at h;exact HS.drop h
end
section
variable {β:Type}{τ:TE}{Γ:CT}{n:Nat}{P:Program}{B:Bas}{S:Mem}{E:List EI}{L:List Res}{σ:St}{m:FM}{w:World}{V:Nat->Value}
theorem HS.splits{i:Nat}{A':List R0}:∀{rs A:List R0} {L:List Res},HS B S w L->L[i]? = some (.many A)->A.Perm (rs++A')->HS B S w (L.set i (.many A')++rs.map R0.up)
 |[],A,L,H,hi,hp=>by
  have h:=HS.two (HS.snocD H) (i:=i) (j:=L.length) (r:=.many A) (s:=zjV) (r':=.many A') (s':=zjV) (by rw[aE (aC.1 hi).1];exact hi) (by simp) (by have:=(aC.1 hi).1;omega) (fun p hp'=>?_) fun ha=>?_
  ·rw[eS _ _ (aC.1 hi).1,eD _ _ (by simp)]at h;refine HS.part h fun k r hk=>.inr ?_;rw[zbC]at hk ⊢;rw[eW,cC]at hk;rw[aE (by have:=(aC.1 hk).1;exact this)];exact hk
  ·rcases cG.1 hp' with h|h
   ·exact .inr (eF _ (hp.mem_iff.2 h))
   ·exact .inl (aY.1 h)
  ·have h1:R0.apart A:=(eR.1 ha).1;exact R0.apart_perm (dB ytO A').symm (R0.apart_cons rfl (R0.apart_perm hp h1))
 |q::rs,A,L,H,hi,hp=>by have h:=HS.split H hi (q:=q) (A':=rs++A') hp;have hl:=(aC.1 hi).1;have h2:=HS.splits (i:=i) (A':=A') (rs:=rs) (A:=rs++A') h (by rw[aE (by simpa using hl),aK hl]) (List.Perm.refl _);rw[eS _ _ (by simpa using hl),gU,aX]at h2;exact h2
theorem HS.joins{i:Nat}{A':List R0}:∀{js:List Nat} {rs A:List R0} {L:List Res},HS B S w L->L[i]? = some (.many A)->js.length=rs.length->js.Nodup->i∉js->(∀(k j:Nat) (q:R0),js[k]? = some j->rs[k]? = some q->L[j]? = some q.up)->A'.Perm (A++rs)->HS B S w (zjT js 0 (L.set i (.many A')))
 |[],[],A,L,H,hi,_,_,_,_,hp=>by
  have h:=HS.splits (i:=i) (rs:=[]) (A':=A') H hi (by simpa using hp.symm);rw[eW,cC]at h;have:zjT [] 0 (L.set i (.many A'))=L.set i (.many A'):=by refine aW fun k=>?_;rw[zfU];simp[hasN]
  rw[this];exact h
 |j::js,q::rs,A,L,H,hi,hl,hd,hn,hj,hp=>by
  have hij:i≠j:=fun e=>hn (e▸bA);have h:=HS.join H hi (hj 0 j q rfl rfl) hij (A':=A++[q]) (D:=[]) (by rw[R0.up_parts,cC]);have hli:=(aC.1 hi).1;rw[List.nodup_cons]at hd
  have h2:=HS.joins (i:=i) (A':=A') (js:=js) (rs:=rs) (A:=A++[q]) h (by rw[aM (Ne.symm hij),aK hli]) (by simpa using hl) hd.2 (fun h=>hn (aS _ h)) (fun k j' q' h1 h2=>by
   have hjm:=bH h1;rw[aM (fun e=>hd.1 (by rw[e];exact hjm)),aM (fun e=>hn (by rw[e];exact aS _ hjm))]
   exact hj (k+1) j' q' (by simpa using h1) (by simpa using h2)) (by rw[aX];exact hp)
  have:zjT (j::js) 0 (L.set i (.many A'))=zjT js 0 (((L.set i (.many (A++[q]))).set j zjV).set i (.many A')):=by
   refine aW fun k=>?_;rw[zfU,zfU,aP];by_cases hki:i=k
   ·subst hki;rw[aK hli,aK (by simpa using hli)];simp only[bB,hasN];cases hb:aH j i with
    |true=>exact absurd (aB hb).symm hij|false=>rfl
   ·rw[aM hki,aM hki];by_cases hkj:j=k
    ·subst hkj;have hlj:=(aC.1 (hj 0 j q rfl rfl)).1;rw[aK (by simpa using hlj),hj 0 j q rfl rfl];simp only[bB,hasN,dM,Bool.true_or,zE];cases hasN js j<;>rfl
    ·rw[aM hkj,aM hki];congr 1;funext r;have:hasN (j::js) k=hasN js k:=by
      simp only[hasN];cases hb:aH j k with
      |true=>exact absurd (aB hb) hkj|false=>rfl
     rw[this]
  rw[this];exact h2
 |[],_::_,_,_,_,_,hl,_,_,_,_=>by cases hl
 |_::_,[],_,_,_,_,hl,_,_,_,_=>by cases hl
theorem zzO(o:OSh)(os:List OSh)(l:List SV):∃a l',zdL (o::os) l=a::zdL os l'/\∀ver e T (xs:List (den e)),a = .osl ver e T xs->ver=0:=by
 cases o with
 |blk T s=>exact⟨_,_,rfl,fun _ _ _ _ h=>by cases h⟩|dead=>exact⟨_,l,rfl,fun _ _ _ _ h=>by cases h⟩|osl e T=>
  cases l with
  |nil=>exact⟨_,[],rfl,fun _ _ _ _ h=>by cases h⟩|cons x l=>
   cases x with
   |v t y=>
    cases t with
    |sl e'=>exact⟨_,l,rfl,fun ver e T xs h=>by split at h<;>first|(cases h;done)|(cases h;rfl)⟩|_=>exact⟨_,_,rfl,fun _ _ _ _ h=>by cases h⟩
   |_=>exact⟨_,_,rfl,fun _ _ _ _ h=>by cases h⟩
 |fam T f=>
  cases l with
  |nil=>exact⟨_,[],rfl,fun _ _ _ _ h=>by cases h⟩|cons x l=>
   cases x with
   |v t y=>
    cases t with
    |sl e'=>exact⟨_,l,rfl,fun ver e T xs h=>by split at h<;>cases h⟩|_=>exact⟨_,_,rfl,fun _ _ _ _ h=>by cases h⟩
   |_=>exact⟨_,_,rfl,fun _ _ _ _ h=>by cases h⟩
 |qu e T=>
  cases l with
  |nil=>exact⟨_,[],rfl,fun _ _ _ _ h=>by cases h⟩|cons x l=>
   cases x with
   |v t y=>
    cases t with
    |sl e'=>exact⟨_,l,rfl,fun ver e T xs h=>by split at h<;>cases h⟩|_=>exact⟨_,_,rfl,fun _ _ _ _ h=>by cases h⟩
   |_=>exact⟨_,_,rfl,fun _ _ _ _ h=>by cases h⟩
 |mp kp K V=>
  cases l with
  |nil=>exact⟨_,[],rfl,fun _ _ _ _ h=>by cases h⟩|cons x l=>
   cases x with
   |v t y=>
    cases t with
    |mp a c=>exact⟨_,l,rfl,fun ver e T xs h=>by split at h<;>cases h⟩|_=>exact⟨_,_,rfl,fun _ _ _ _ h=>by cases h⟩
   |_=>exact⟨_,_,rfl,fun _ _ _ _ h=>by cases h⟩
 |is=>
  cases l with
  |nil=>exact⟨_,[],rfl,fun _ _ _ _ h=>by cases h⟩|cons x l=>
   cases x with
   |v t y=>
    cases t with
    |s=>
     cases l with
     |nil=>exact⟨_,_,rfl,fun _ _ _ _ h=>by cases h⟩|cons x2 l=>
      cases x2 with
      |v t2 y2=>
       cases t2 with
       |i k=>cases k<;>exact⟨_,_,rfl,fun _ _ _ _ h=>by cases h⟩
       |_=>exact⟨_,_,rfl,fun _ _ _ _ h=>by cases h⟩
      |_=>exact⟨_,_,rfl,fun _ _ _ _ h=>by cases h⟩
    |_=>exact⟨_,_,rfl,fun _ _ _ _ h=>by cases h⟩
   |_=>exact⟨_,_,rfl,fun _ _ _ _ h=>by cases h⟩
 |it j kp K=>
  cases l with
  |nil=>exact⟨_,[],rfl,fun _ _ _ _ h=>by cases h⟩|cons x l=>
   cases x with
   |v t y=>
    cases t with
    |sl a=>exact⟨_,l,rfl,fun ver e T xs h=>by split at h<;>cases h⟩|_=>exact⟨_,_,rfl,fun _ _ _ _ h=>by cases h⟩
   |_=>exact⟨_,_,rfl,fun _ _ _ _ h=>by cases h⟩
theorem zrZ:∀(os:List OSh) (l:List SV),(zdL os l).length=os.length
 |[],l=>by cases l<;>rfl
 |o::os,l=>by obtain⟨a,l',h,_⟩:=zzO o os l;rw[h,aO,aO,zrZ os]
def ykO:AO->Prop
 |.blk _ _=>True|.mp _ _ _ _=>True|.dead=>True|_=>False
theorem yuO(o:FSh)(os:List OSh)(l:List SV):∃a l',zdL (o.up::os) l=a::zdL os l'/\ykO a:=by
 cases o with
 |blk T s=>exact⟨_,_,rfl,trivial⟩|mp K V=>
  cases l with
  |nil=>exact⟨_,[],rfl,trivial⟩|cons x l=>
   cases x with
   |v t y=>
    cases t with
    |mp a c=>exact⟨_,l,rfl,by split<;>trivial⟩|_=>exact⟨_,_,rfl,trivial⟩
   |_=>exact⟨_,_,rfl,trivial⟩
theorem zmI:∀{f:List FSh} {l:List SV} {o:AO},o∈zdL (f.map FSh.up) l->ykO o
 |[],_,_,h=>by cases h
 |s::f,l,o,h=>by
  obtain⟨a,l',h1,h2⟩:=yuO s (f.map FSh.up) l;rw[bS,h1]at h;rcases aV.1 h with rfl|h
  ·exact h2
  ·exact zmI h
theorem OR0.ren{F vf:Nat->Nat}{Ei E2:List EI}{S:Mem}{o:AO}{r:Res}{e:EI}(hl:Link F vf Ei E2)(hk:ykO o)(h:OR0 S Ei o r e):OR S E2 (renN F vf o) r e:=by
 cases o with
 |blk T cs=>obtain⟨b,us,h1,h2,h3⟩:=h;exact⟨b,us,h1,h2,h3.map (f:=renC F vf) fun _ _=>zwG hl⟩
 |mp=>exact h|dead=>exact h|_=>exact hk.elim
theorem OR0.nofam{E:List EI}{S:Mem}{o:AO}{r:Res}{e:EI}(hk:ykO o)(h:OR0 S E o r e):∀r v bs,e≠.fam r v bs:=fun r v bs he=>by
 subst he;cases o with
 |blk=>obtain⟨_,_,_,h,_⟩:=h;cases h
 |mp=>obtain⟨_,_,_,_,h,_⟩:=h;cases h
 |dead=>cases h.2
 |_=>exact hk.elim
theorem zzS{α:Type}:∀{ms:List (List α)} {j:Nat} {rs:List α},ms[j]? = some rs->ms.flatten.Perm (rs++(ms.set j []).flatten)
 |[],j,rs,h=>by simp at h
 |m::ms,0,rs,h=>by simp at h;subst h;simp
 |m::ms,j+1,rs,h=>by have ih:=zzS (ms:=ms) (j:=j) (rs:=rs) (by simpa using h);simp only[List.flatten_cons,List.set_cons_succ];exact(ih.append_left m).trans ((List.perm_append_comm_assoc m rs _))
theorem yxM(R:RelV B S E L σ V w){t:Nat}{k:St->Option β}{r:β}(h:foc σ t k=some r):∃σ1 E1 L1 id i,lkS σ.sl t = .fp id i 0/\k σ1=some r/\ELe E E1/\RelV B S E1 L1 σ1 V w/\VR S E1 (.fp id i 0) (V t)/\VR S E1 (.ptr σ.hp.length 0) (V t)/\∀j,j≠id->j<L.length->lkR L1 j=lkR L j:=by
 unfold foc at h;split at h
 ·rename_i id i hs;split at h
  ·rename_i v0 T0 f ks hc;obtain⟨hroot,hq⟩:=zaH h;obtain⟨x,hx,hk⟩:=bnd hq;rw[zcS]at hc;obtain⟨r0,e0,g1,g2,v,rs,ms,bs,rfl,rfl,g3⟩:=R.obj id _ hc;have hsl:=R.sl t;rw[hs]at hsl;have hsl0:=hsl;obtain⟨_,e1,h5,h6⟩:=hsl;rw[g2]at h5;cases h5;obtain⟨hi0,b,hb,hv⟩:=h6 _ _ _ rfl;obtain⟨hi,hx2⟩:=zaD hx;obtain⟨rs1,b1,k1,k2,k3⟩:=g3.mem _ _ hx2 (by simp);rw[hb]at k2;cases k2;obtain⟨Ei,m1,m2,m3,m4⟩:=k3;have hpl:(zdL (f.map FSh.up) (ziL _ (toS f x))).length=f.length:=by rw[zrZ,bP]
   have hidL:id<L.length:=(aC.1 g1).1;have hidE:id<E.length:=(aC.1 g2).1;have hidH:id<σ.hp.length:=by rw[<-R.lE];exact hidE
   have H:=HS.splits R.hs (i:=id) (rs:=rs1) (A':=.osl v ks.length 1 (bs.map ptrV) rs T0::(ms.set i.toNat []).flatten) g1
    ((List.Perm.cons _ (zzS k1)).trans List.perm_middle.symm)
   have hlink:Link (fun j=>σ.hp.length+j) (fun _=>0) Ei (E++Ei):=fun j e' hj=>by
    refine⟨e',by show(E++Ei)[σ.hp.length+j]? = _;rw[aI (by rw[R.lE];omega),R.lE,show σ.hp.length+j-σ.hp.length=j by omega];exact hj,fun b hb=>hb,fun r v s hb=>⟨bX _,fun h0=>by rw[hb,<-h0]⟩,fun g b ck es hb=>⟨g,hb⟩,?_⟩;have hjl:j<(zdL (f.map FSh.up) (ziL _ (toS f x))).length:=by rw[hpl,<-m3];exact(aC.1 hj).1
    obtain⟨r1,e1,q1,q2,q3⟩:=m4 j _ (aG hjl);rw[hj]at q2;cases q2;exact q3.nofam (zmI (eE hjl))
   have hE:ELe E (E++Ei):=ELe.push E Ei;have hp:VR S (E++Ei) (.ptr σ.hp.length 0) (V t):=by
    have hEi0:0<Ei.length:=by
     rw[m3];cases f with
     |nil=>cases hroot
     |cons=>simp
    exact⟨b,hv,Ei[0],by rw[aI (by rw[R.lE];exact aJ _),R.lE,cW];exact aG hEi0,fun b' hb'=>m1 b' (by rw[aG hEi0,hb'])⟩
   refine⟨_,E++Ei,_,id,i,hs,hk,hE,⟨H,?_,?_,fun j o ho=>?_,fun t'=>?_⟩,hsl0.mono (Mem.le_refl S) hE,hp,fun j hj hl=>by rw[zbC,zbC,aE (by simpa using hl),aM (Ne.symm hj)]⟩
   ·simp[zeI,R.lL,hpl,m2]
   ·simp[zeI,R.lE,hpl,m3]
   ·have ho:(setN σ.hp id (.famO v0 T0 f ks i)++(zdL (f.map FSh.up) (ziL _ (toS f x))).map (renN (fun j=>σ.hp.length+j) fun _=>0))[j]? = some o:=ho;rw[zeI]at ho;by_cases hj:j<σ.hp.length
    ·rw[aE (by simpa using hj)]at ho;by_cases hji:id=j
     ·subst hji;rw[aK hj]at ho;cases ho;refine⟨_,_,by rw[aE (by simpa using hidL),aK hidL],by rw[aE hidE];exact g2,hi0,(aC.1 hx2).1,v,rs,ms.set i.toNat [],bs,rfl,rfl,⟨by simpa using g3.l1,g3.l2,fun a y ha hne=>?_,fun a ha=>?_⟩⟩
      ·have hne':i.toNat≠a:=fun e=>hne (by rw[e]);obtain⟨rs2,b2,q1,q2,q3⟩:=g3.mem a y ha (by simp);exact⟨rs2,b2,by rw[aM hne'];exact q1,q2,q3⟩
      ·cases ha;exact aK (aC.1 k1).1
     ·rw[aM hji]at ho;obtain⟨r2,e2,q1,q2,q3⟩:=R.obj j o ho;exact⟨r2,e2,by rw[aE (by rw[bL,R.lL];exact hj),aM hji];exact q1,by rw[aE (by rw[R.lE];exact hj)];exact q2,q3.mono (Mem.le_refl S) hE⟩
    ·rw[aI (by simpa using fJ hj),bL,bG]at ho;cases ho2:(zdL (f.map FSh.up) (ziL _ (toS f x)))[j-σ.hp.length]? with
     |none=>rw[ho2]at ho;cases ho
     |some o'=>
      rw[ho2]at ho;cases ho;obtain⟨r2,e2,q1,q2,q3⟩:=m4 _ _ ho2;refine⟨r2.up,e2,?_,?_,OR0.ren hlink (zmI (bH ho2)) q3⟩
      ·rw[aI (by rw[bL,R.lL];omega),bL,R.lL,bG,q1];rfl
      ·rw[aI (by rw[R.lE];omega),R.lE];exact q2
   ·show VR S (E++Ei) (bif aH t t' then .ptr σ.hp.length 0 else lkS σ.sl t') _;cases ht:aH t t' with
    |true=>rw[<-aB ht];exact hp|false=>exact(R.sl t').mono (Mem.le_refl S) hE
  ·cases h
 ·cases h
theorem ypH:∀(n b k:Nat),(upN b n)[k]? = if k<n then some (b+k)else none
 |0,b,k=>by simp[upN]
 |n+1,b,0=>by simp[upN]
 |n+1,b,k+1=>by
  rw[upN,bZ,ypH n (b+1) k];by_cases h:k<n
  ·rw[zH h,zH (by omega)];congr 1;omega
  ·rw[zG h,zG (by omega)]
theorem ygB:∀(n b:Nat),(upN b n).length=n
 |0,_=>rfl|n+1,b=>by rw[upN,aO,ygB n]
theorem zvV:∀{n b j:Nat},j∈upN b n->∃k,k<n/\j=b+k
 |0,_,_,h=>by cases h
 |n+1,b,j,h=>by
  rcases aV.1 h with rfl|h
  ·exact⟨0,by omega,rfl⟩
  ·obtain⟨k,h1,h2⟩:=zvV h;exact⟨k+1,by omega,by omega⟩
theorem ydC:∀(n b:Nat),(upN b n).Nodup
 |0,_=>List.nodup_nil|n+1,b=>List.nodup_cons.2 ⟨fun h=>by obtain⟨k,_,h2⟩:=zvV h;omega,ydC n (b+1)⟩
theorem yjP:∀{l:List Nat} {j:Nat},hasN l j=true->j∈l
 |[],_,h=>by cases h
 |x::l,j,h=>by
  unfold hasN at h;cases hb:aH x j with
  |true=>rw[aB hb];exact bA|false=>rw[hb]at h;exact aS _ (yjP h)
theorem ygR{l:List Nat}{j:Nat}(h:j∉l):hasN l j=false:=by
 cases hb:hasN l j with
 |false=>rfl|true=>exact absurd (yjP hb) h
theorem OR0.up{E:List EI}{S:Mem}{o:AO}{r:Res}{e:EI}(hk:ykO o)(h:OR S E o r e):∃q:R0,r=q.up/\OR0 S E o q.up e:=by
 cases o with
 |blk T cs=>obtain⟨b,us,rfl,h2,h3⟩:=h;exact⟨.blk b us T,rfl,b,us,rfl,h2,h3⟩
 |mp g K V es=>obtain⟨b,ents,ck,rfl,h2⟩:=h;exact⟨.obj b (.map (List.toArray ents) ck),rfl,b,ents,ck,rfl,h2⟩
 |dead=>obtain⟨rfl,h2⟩:=h;exact⟨ytO,rfl,rfl,h2⟩
 |_=>exact hk.elim
theorem yyS:∀{ls:List Res},(∀r∈ls,∃q:R0,r=q.up)->∃rs:List R0,ls=rs.map R0.up
 |[],_=>⟨[],rfl⟩|r::ls,h=>by obtain⟨q,rfl⟩:=h r bA;obtain⟨rs,rfl⟩:=yyS (ls:=ls) fun r hr=>h r (aS _ hr);exact⟨q::rs,rfl⟩
theorem yyU(L:List Res):∀{os:List OSh} {ids:List Nat} {k id:Nat} {o:OSh} {r:Res},os[k]? = some o->live o=true->ids[k]? = some id->L[id]? = some r->(reL L os ids)[k]? = some r
 |[],_,_,_,_,_,h,_,_,_=>by simp at h
 |_::_,[],_,_,_,_,_,_,h,_=>by simp at h
 |o::os,i::ids,0,id,o',r,h1,h2,h3,h4=>by simp at h1 h3;subst h1;subst h3;simp only[reL,List.getElem?_cons_zero,h2,zE,zbC,h4]
 |o::os,i::ids,k+1,id,o',r,h1,h2,h3,h4=>by simp only[reL,bZ];exact yyU L (by simpa using h1) h2 (by simpa using h3) h4
theorem ysT(L:List Res):∀(os:List OSh) (ids:List Nat),os.length=ids.length->(reL L os ids).length=ids.length
 |[],[],_=>rfl|_::os,_::ids,h=>by simp[reL,ysT L os ids (by simpa using h)]
theorem ybK(o:FSh):live o.up=true:=by cases o<;>rfl
theorem ysM{o:FSh}{ao:AO}(h:zzV o.up ao=true):ykO ao:=by cases o<;>cases ao<;>first|trivial|cases h
theorem xdV(f:List FSh)(x:zcU (sF f).tys):toS f (ofS f x)=x:=by unfold toS ofS;rw[ymJ,cast_cast,cast_eq]
theorem Mem1.first{S:Mem}{f:List FSh}{x:den (fT f)}{rs:List R0}{b:Nat}(hf:xbZ f=true)(h:Mem1 S f x rs b):∃us T',R0.blk b us T'∈rs:=by
 obtain⟨Ei,h1,h2,h3,h4⟩:=h;cases f with
 |nil=>cases hf
 |cons s f=>
  cases s with
  |mp=>cases hf
  |blk T l=>
   obtain⟨r,e,k1,k2,b',us,k4,rfl,k6⟩:=h4 0 (.blk T _) rfl;have hbb:=h1 _ k2;rw[hbb]at k4;refine⟨us,T,?_⟩;have:r = .blk b us T:=by cases r<;>simp only[R0.up,Res.blk.injEq,reduceCtorEq]at k4;obtain⟨rfl,rfl,rfl⟩:=k4;rfl
   rw[<-this];exact bH k1
theorem ycB{f:List FSh}{x:zcU (sF f).tys}{ρ:List Nat}{u:Value}(R:RelV B S E L σ V w)(hl:f.length=ρ.length){s0:SV}(hs:VR S E s0 u)(ha:(sF f).get1 ρ ⟨[(0,s0)],σ.hp⟩=some x):∃rs:List R0,rs.length=f.length/\(∀b,u=ptrV b->Mem1 S f (ofS f x) rs b)/\(∀(k j:Nat) (q:R0),ρ[k]? = some j->rs[k]? = some q->L[j]? = some q.up)/\dist (f.map FSh.up) ρ=true /\(∀(k j:Nat) (o:FSh),f[k]? = some o->ρ[k]? = some j->∃ao,σ.hp[j]? = some ao/\zzV o.up ao=true):=by
 have hl':(sF f).hp.length=ρ.length:=by show(f.map FSh.up).length=_;rw[bP];exact hl
 have RB:RelV B S E L ⟨[(0,s0)],σ.hp⟩ (fun t=>if t=0 then u else undef) w:=⟨R.hs,R.lL,R.lE,R.obj,fun t=>by
  show VR S E (bif aH 0 t then s0 else .undef) _;cases t with
  |zero=>exact hs|succ t=>trivial⟩
 have RI:=ybR RB hl' ha;obtain⟨hd,q,hq⟩:=zzW ha;have hd:dist (f.map FSh.up) ρ=true:=hd;have hq:zhK ρ σ.hp (f.map FSh.up) ρ=some q:=hq;have kind:∀(k j:Nat) (o:FSh),f[k]? = some o->ρ[k]? = some j->∃ao,σ.hp[j]? = some ao/\zzV o.up ao=true:=fun k j o h1 h2=>
  zsZ hq (by rw[bG,h1];rfl) (ybK o) h2
 have hput:((sF f).put x).hp=zdL (f.map FSh.up) (ziL _ x):=rfl;have hpl:(zdL (f.map FSh.up) (ziL _ x)).length=f.length:=by rw[zrZ,bP]
 have hlr:(reL L (f.map FSh.up) ρ).length=f.length:=by rw[ysT _ _ _ (by rw[bP];exact hl),hl]
 have hle:(reE E (f.map FSh.up) ρ).length=f.length:=by rw[ygS _ _ _ (by rw[bP];exact hl),hl]
 obtain⟨rs,hrs⟩:∃rs:List R0,reL L (f.map FSh.up) ρ=rs.map R0.up:=yyS fun r hr=>by
  obtain⟨k,hk⟩:=gQ hr;have hkl:k<(zdL (f.map FSh.up) (ziL _ x)).length:=by rw[hpl,<-hlr];exact(aC.1 hk).1
  obtain⟨r1,e1,q1,q2,q3⟩:=RI.obj k _ (by rw[hput];exact aG hkl);have q1:(reL L (f.map FSh.up) ρ)[k]? = some r1:=q1;rw[hk]at q1;cases q1;obtain⟨q,hq,_⟩:=OR0.up (zmI (eE hkl)) q3;exact⟨q,hq⟩
 have hrl:rs.length=f.length:=by rw[<-hlr,hrs,bP]
 refine⟨rs,hrl,fun b hb=>⟨reE E (f.map FSh.up) ρ,fun b' hb'=>?_,hrl,hle,fun i o ho=>?_⟩,fun k j q h1 h2=>?_,hd,kind⟩
 ·obtain⟨b4,k1,e,k2,k3⟩:VR S (reE E (f.map FSh.up) ρ) (.ptr 0 0) u:=RI.sl 0;rw[hb]at k1;have hbb:b=b4:=by unfold ptrV at k1;injection k1 with k1;injection k1 with k1;injection k1
  rw[hb']at k2;rw[hbb];exact k3 b' (osi k2).symm
 ·rw[xdV]at ho;obtain⟨r1,e1,q1,q2,q3⟩:=RI.obj i o ho;have q1:(reL L (f.map FSh.up) ρ)[i]? = some r1:=q1;obtain⟨q,rfl,q4⟩:=OR0.up (zmI (bH ho)) q3;rw[hrs,bG]at q1;cases hq:rs[i]? with
  |none=>rw[hq]at q1;cases q1
  |some q'=>rw[hq]at q1;have:q'.up=q.up:=osi q1;exact⟨q',e1,rfl,q2,by rw[this];exact q4⟩
 ·have hkf:k<f.length:=by rw[<-hrl];exact(aC.1 h2).1
  obtain⟨ao,h3,_⟩:=kind k j _ (aG hkf) h1;obtain⟨r1,_,q1,_,_⟩:=R.obj j ao h3;have:=yyU L (os:=f.map FSh.up) (ids:=ρ) (by rw[bG,aG hkf];rfl) (ybK _) h1 q1;rw[hrs,bG,h2]at this;rw[q1,<-this];rfl
theorem yyT(R:RelV B S E L σ V w){t id base:Nat}{i0:Int}{k:St->Option β}{r:β}(hV1:VR S E (.fp id i0 0) (V t))(hV2:VR S E (.ptr base 0) (V t))(h:unf σ t id i0 base k=some r):∃σ' S' E' L',k σ'=some r/\Mem.le S S'/\ELe E E'/\RelV B S' E' L' σ' V w/\∀j,j≠id->j<base->hasN (unfN σ id base) j=false->lkR L' j=lkR L j:=by
 unfold unf at h
 ·obtain⟨S1,E1,L1,hS1,hE1,R1,hF1⟩:=zvJ (unfN σ id base) R;generalize frzL σ (unfN σ id base)=σ1 at *;unfold unf1 at h;split at h
  ·rename_i v0 T f ks i hc;obtain⟨hroot,hq⟩:=zaH h;clear h;split at hq
   ·rename_i x ha;obtain⟨r',hset,hk⟩:=bnd hq;obtain⟨hi,hil,hr'⟩:=zkF hset;rw[zcS]at hc;obtain⟨r0,e0,g1,g2,hi0,hi1,v,cr,ms,bs,rfl,rfl,g3⟩:=R1.obj id _ hc;have hV1':=hV1.mono hS1 hE1;have hV2':=hV2.mono hS1 hE1;obtain⟨rs,hrl,hmem,hat,hd,hkind⟩:=ycB R1 (ygB f.length base).symm hV2' ha;obtain⟨_,e1,h5,h6⟩:=hV1';rw[g2]at h5;cases h5;obtain⟨hj0,b,hb,hv⟩:=h6 _ _ _ rfl;have hv:V t=ptrV b:=hv;have hm:=hmem b hv
    -- the member that was out is this one
    have hii:i.toNat=i0.toNat:=Classical.byContradiction fun hne=>by
     have hlt:i0.toNat<ks.length:=by rw[<-g3.l2];exact(aC.1 hb).1
     obtain⟨rs2,b2,q1,q2,q3⟩:=g3.mem i0.toNat _ (aG hlt) (fun h=>hne (osi h));rw[hb]at q2;cases q2;obtain⟨us2,T2,q4⟩:=q3.first hroot;obtain⟨us3,T3,q5⟩:=hm.first hroot;obtain⟨kk,q6⟩:=gQ q5;have hkl:kk<f.length:=by rw[<-hrl];exact(aC.1 q6).1
     have hup:(upN base f.length)[kk]? = some (base+kk):=by rw[ypH,zH hkl]
     have q7:=hat kk (base+kk) _ hup q6;have:=R1.hs.inj id (base+kk) _ _ b (by rw[zbC];exact g1) (by rw[zbC];exact q7) (Res.has_parts.2 ⟨_,aS _ (List.mem_flatten.2 ⟨rs2,bH q1,q4⟩),rfl⟩) (R0.up_has.2 rfl);obtain⟨ao,q8,q9⟩:=hkind kk (base+kk) _ (aG hkl) hup;rw[<-this,hc]at q8;cases q8;exact ysM q9
    rw[<-hii]at hb;have hnot:id∉upN base f.length:=fun hmm=>by obtain⟨kk,h1,h2⟩:=zvV hmm;obtain⟨ao,q8,q9⟩:=hkind kk id _ (aG h1) (by rw[ypH,zH h1,h2]);rw[hc]at q8;cases q8;exact ysM q9
    have hms:ms[i.toNat]? = some []:=g3.no _ rfl;have hml:i.toNat<ms.length:=(aC.1 hms).1;have hperm:(R0.osl v ks.length 1 (bs.map ptrV) cr T::(ms.set i.toNat rs).flatten).Perm ((R0.osl v ks.length 1 (bs.map ptrV) cr T::ms.flatten)++rs):=by
     have h1:=zzS (ms:=ms.set i.toNat rs) (j:=i.toNat) (rs:=rs) (aK hml);rw[gU]at h1;have h2:ms.set i.toNat []=ms:=by
      refine aW fun a=>?_;by_cases ha:i.toNat=a
      ·subst ha;rw[aK hml,hms]
      ·rw[aM ha]
     rw[h2]at h1;exact(List.Perm.cons _ (h1.trans List.perm_append_comm))
    have H:=HS.joins (i:=id) (js:=upN base f.length) (rs:=rs) R1.hs g1 (by rw[ygB,hrl]) (ydC _ _) hnot hat hperm;have hidL:id<L1.length:=(aC.1 g1).1;have hidH:id<σ1.hp.length:=(aC.1 hc).1;have hE3:=zvE (upN base f.length) E1;refine⟨_,S1,zgM (upN base f.length) 0 E1,_,hk,hS1,hE1.trans hE3,⟨H,?_,?_,fun j o ho=>?_,fun t'=>?_⟩,fun j hj hjb hnn=>?_⟩
    ·simp[zrQ,zgH,zeI,R1.lL]
    ·simp[zlB,zgH,zeI,R1.lE]
    ·have ho:(zqN (upN base f.length) 0 (setN σ1.hp id (.fam v0 T f r')))[j]? = some o:=ho;rw[zuX,zeI,aP]at ho;cases hh:hasN (upN base f.length) j with
     |true=>
      cases ho2:(σ1.hp.set id (.fam v0 T f r'))[j]? with
      |none=>rw[ho2]at ho;cases ho
      |some o2=>
       rw[ho2,bB,hh]at ho;cases ho;have hjl:j<σ1.hp.length:=by have:=(aC.1 ho2).1;simpa using this
       refine⟨zjV,.dead,?_,?_,rfl,rfl⟩
       ·rw[zfU,aG (by rw[bL,R1.lL];exact hjl),bB,aP,hh];rfl
       ·rw[zlG,aG (by rw[R1.lE];exact hjl),bB,aP,hh];rfl
     |false=>
      have ho3:(σ1.hp.set id (.fam v0 T f r'))[j]? = some o:=by
       cases ho2:(σ1.hp.set id (.fam v0 T f r'))[j]? with
       |none=>rw[ho2]at ho;cases ho
       |some o2=>rw[ho2,bB,hh]at ho;exact ho
      by_cases hji:id=j
      ·subst hji;rw[aK hidH]at ho3;cases ho3;have hL3:(zjT (upN base f.length) 0 (L1.set id (.many (.osl v ks.length 1 (bs.map ptrV) cr T::(ms.set i.toNat rs).flatten))))[id]? = some (.many (.osl v r'.length 1 (bs.map ptrV) cr T::(ms.set i.toNat rs).flatten)):=by rw[zfU,aK hidL,bB,aP,hh,<-hr',bL];rfl
       have hE3':(zgM (upN base f.length) 0 E1)[id]? = some (.fam v0 v bs):=by rw[zlG,g2,bB,aP,hh];rfl
       refine⟨_,_,hL3,hE3',v,cr,ms.set i.toNat rs,bs,rfl,rfl,?_⟩
       ·refine⟨by rw[bL,g3.l1,<-hr',bL],by rw[g3.l2,<-hr',bL],fun a y hay _=>?_,fun a ha=>by cases ha⟩;by_cases hia:i.toNat=a
        ·subst hia;rw[<-hr',aK hil]at hay;cases hay;exact⟨rs,b,aK hml,hb,hm⟩
        ·rw[<-hr',aM hia]at hay;obtain⟨rs2,b2,q1,q2,q3⟩:=g3.mem a y hay (fun h=>hia (osi h));exact⟨rs2,b2,by rw[aM hia];exact q1,q2,q3⟩
      ·rw[aM hji]at ho3;obtain⟨r2,e2,q1,q2,q3⟩:=R1.obj j o ho3;exact⟨r2,e2,by rw[zfU,aM hji,q1,bB,aP,hh];rfl,by rw[zlG,q2,bB,aP,hh];rfl,q3.mono (Mem.le_refl S1) hE3⟩
    ·show VR S1 _ (bif aH t t' then .fp id i0 0 else lkS σ1.sl t') _;cases ht:aH t t' with
     |true=>rw[<-aB ht];exact hV1.mono hS1 (hE1.trans hE3)|false=>exact(R1.sl t').mono (Mem.le_refl S1) hE3
    ·rw[<-hF1 j hnn,zbC,zfU,aP,aM (Ne.symm hj),ygR (fun hm=>by obtain⟨kk,_,h2⟩:=zvV hm;omega),zbC];cases L1[j]? <;> rfl
   ·cases hq
  ·cases h
end
section
variable {β:Type}{τ:TE}{Γ:CT}{n:Nat}{P:Program}{B:Bas}{S:Mem}{E:List EI}{L:List Res}{σ:St}{m:FM}{w:World}{dst:Option Tmp}{g:Option (Nat×Bool)}{ty:TypeId}{pos:String}{aft:Array Edge}{T:TypeId}{k:SV->St->Option β}{r:β}
theorem RelV.kill{V:Nat->Value}(R:RelV B S E L σ V w)(I:List Nat):RelV B S (zgM I 0 E) (zjT I 0 L) ⟨σ.sl,zqN I 0 σ.hp⟩ V w:=by
 refine⟨HS.part R.hs fun i r hi=>?_,by rw[zrQ,zgH];exact R.lL,by rw[zlB,zgH];exact R.lE,fun j q hq=>?_,fun t=>(R.sl t).mono (Mem.le_refl S) (zvE I E)⟩
 ·rw[zbC,zfU,aP]at hi;cases hl:L[i]? with
  |none=>rw[hl]at hi;cases hi
  |some r'=>
   rw[hl]at hi;simp only[bB,Option.some.injEq]at hi;cases hh:hasN I i with
   |true=>rw[hh]at hi;exact .inl hi.symm|false=>rw[hh]at hi;right;rw[zbC,hl,<-hi];rfl
 ·rw[zuX,aP]at hq;cases hj:σ.hp[j]? with
  |none=>rw[hj]at hq;cases hq
  |some q'=>
   obtain⟨r,e,h1,h2,h3⟩:=R.obj j q' hj;rw[hj]at hq;refine⟨_,_,by rw[zfU,h1];rfl,by rw[zlG,h2];rfl,?_⟩;rw[aP];simp only[bB,Option.some.injEq]at hq;cases hi:hasN I j with
   |true=>rw[hi]at hq;subst hq;exact⟨rfl,rfl⟩|false=>rw[hi]at hq;subst hq;exact h3.mono (Mem.le_refl S) (zvE I E)
theorem Rel.kill(R:Rel n B S E L σ m w)(I:List Nat):Rel n B S (zgM I 0 E) (zjT I 0 L) ⟨σ.sl,zqN I 0 σ.hp⟩ m w:=RelV.kill R I
theorem yhW{o:Op}(hτ:TEok P τ)(hΓ:CTok P Γ B):∀{ts:List Nat} {σ:St} {S:Mem} {E:List EI} {L:List Res} {k:SV->St->Option β},Rel n B S E L σ m w->callF τ Γ o T ts σ k=some r ->
  outcome P (Post2 n B S E m k r) ((execOp (evO n m) ⟨dst,o,ty,pos,aft,g⟩).run P w)
 |[],σ,S,E,L,k,R,h=>yiO hτ hΓ R h|t::ts,σ,S,E,L,k,R,h=>by
  unfold callF at h;split at h
  ·rename_i id i off hs;obtain⟨σ1,E1,L1,id',i',hs',hk,hE,R1,hV1,hV2,_⟩:=yxM R h;rw[hs]at hs';cases hs';refine zdJ (yhW hτ hΓ R1 hk) ?_;rintro v w' ⟨x,σ2,S2,E2,L2,h1,h2,h3,R2,h4⟩;obtain⟨σ3,S3,E3,L3,k1,k2,k3,k4,_⟩:=yyT R2 (hV1.mono h2 h3) (hV2.mono h2 h3) h1;exact⟨x,σ3,S3,E3,L3,k1,Mem.le_trans h2 k2,hE.trans (h3.trans k3),k4,h4.mono k2 k3⟩
  ·cases h
theorem yrB{T1 E0:TypeId}{fe:TI}{f:List FSh}{i:Nat}{x:Operand}(R:Rel n B S E L σ m w)(hT:P.underlying T1=some (.slice E0))(hE:TIok P E0 fe)(hs:slOk fe=true)(hz:fe.sz=1)(hx:VR S E (.ptr i 0) (evO n m x))(h:ynR E0 f i σ k=some r):
  outcome P (Post2 n B S E m k r) ((execOp (evO n m) ⟨dst,.buildSlice T1 1 #[(0,x)],ty,pos,aft,g⟩).run P w):=by
 unfold ynR at h;obtain⟨S1,E1,L1,hS1,hE1,R1⟩:=ziA ((sF f).need 0 ⟨[(0,.ptr i 0)],σ.hp⟩) R;generalize frzL σ ((sF f).need 0 ⟨[(0,.ptr i 0)],σ.hp⟩)=σ1 at *;unfold yrT at h;split at h
 ·rename_i y ha;have hx1:=hx.mono hS1 hE1;have hlρ:f.length=((sF f).rho 0 ⟨[(0,.ptr i 0)],σ1.hp⟩).length:=by have:=zsA σ1.hp.length (zoQ σ1.hp 0 (sF f).hp (idB 0 0++(sF f).sl.flatMap fun p=>p.2.bindS (lkS [(0,SV.ptr i 0)] p.1))) (sF f).hp 0;rw[show f.length=(sF f).hp.length from(bP ..).symm];exact this
  generalize (sF f).rho 0 ⟨[(0,.ptr i 0)],σ1.hp⟩=ρ at *;obtain⟨rs,hrl,hmem,hat,hd,hkind⟩:=ycB R1 hlρ hx1 ha;obtain⟨b,hb,_⟩:=hx1;have hb:evO n m x=ptrV b:=hb;have hTn:=yaV hT hE hs;rw[hz]at hTn;obtain⟨z0,hz0⟩:∃z0,fe.z.map zc=[z0]:=by
   have hl:=hTn.len;cases hzl:fe.z.map zc with
   |nil=>rw[hzl]at hl;cases hl
   |cons a l=>cases l with
    |nil=>exact⟨a,rfl⟩|cons=>rw[hzl]at hl;simp at hl
  obtain⟨w',v,hrun,H⟩:=zhE (e:=evO n m) (N:=1) (ps:=[(0,x)]) (vals:=[(0,evO n m x)]) (l:=[ptrV b]) (dst:=dst) (ty:=ty) (pos:=pos) (aft:=aft) (g:=g) hTn R1.hs rfl (by rw[hz0,hb];rfl) (by rfl) rfl;rw[hrun];have H1:=HS.toMany (HS.snoc H) (i:=L1.length) (r:=.osl v 1 1 [ptrV b] [] E0) (by simp)
  have hρl:∀j∈ρ,j<σ1.hp.length:=fun j hj=>by
   obtain⟨kk,hk⟩:=gQ hj;have hkf:kk<f.length:=by rw[hlρ];exact(aC.1 hk).1
   obtain⟨ao,q8,_⟩:=hkind kk j _ (aG hkf) hk;exact(aC.1 q8).1
  have hNρ:L1.length∉ρ:=fun hj=>by have:=hρl _ hj;rw[R1.lL]at this;omega
  have hnd:ρ.Nodup:=List.pairwise_iff_getElem.2 fun a c ha hc hac he=>by
   have hcf:c<f.length:=by rw[hlρ];exact hc
   have haf:a<f.length:=by rw[hlρ];exact ha
   have:=yaC hd (k:=a) (k':=c) (o:=(f[a]).up) (o':=(f[c]).up) (id:=ρ[c]) (by rw[bG,aG haf];rfl) (ybK _) (by rw[aG ha,he]) (by rw[bG,aG hcf];rfl) (ybK _) (aG hc);omega
  have H2:=HS.joins (i:=L1.length) (js:=ρ) (rs:=rs) (A:=[.osl v 1 1 [ptrV b] [] E0]) (A':=.osl v 1 1 [ptrV b] [] E0::rs) H1 (by rw[aK (by simp)];rfl) (by rw[hrl,hlρ]) hnd hNρ (fun kk j q h1 h2=>by
   have hjl:=hρl j (bH h1);rw[aM (by rw[R1.lL];omega),aE (by rw[R1.lL];exact hjl)]
   exact hat kk j q h1 h2) (List.Perm.refl _)
  rw[gU,eD _ _ (aJ _),cW,eZ]at H2;have hE3:ELe E1 (zgM ρ 0 E1++[.fam 0 v [b]]):=(zvE ρ E1).trans (ELe.push _ _);have hgN:(zgM ρ 0 E1++[EI.fam 0 v [b]])[σ1.hp.length]? = some (.fam 0 v [b]):=by rw[aI (by rw[zlB,R1.lE];exact aJ _),zlB,R1.lE,cW];rfl
  have hone:v.oneCell'=true:=by rcases H.own 0 _ rfl with⟨hv,_⟩|⟨_,_,_,hv,_⟩<;>rw[hv]<;>rfl
  refine⟨_,_,S1,_,_,h,hS1,hE1.trans hE3,⟨H2,?_,?_,fun j o ho=>?_,fun t=>(R1.sl t).mono (Mem.le_refl S1) hE3⟩,⟨hone,_,hgN,fun r1 v1 b1 hq=>by cases hq;exact⟨aJ _,fun _=>rfl⟩⟩⟩
  ·simp[zrQ,zgH,R1.lL]
  ·simp[zlB,zgH,R1.lE]
  ·have ho:(zqN ρ 0 σ1.hp++[AO.fam 0 E0 f [ofS f y]])[j]? = some o:=ho;by_cases hj:j<σ1.hp.length
   ·rw[aE (by rw[zgH];exact hj),zuX,aP,aG hj]at ho;obtain⟨r2,e2,q1,q2,q3⟩:=R1.obj j _ (aG hj);have q1':(zjT ρ 0 (L1++[.many (.osl v 1 1 [ptrV b] [] E0::rs)]))[j]? = some (bif hasN ρ j then zjV else r2):=by rw[zfU,aE (by rw[R1.lL];exact hj),q1,aP];rfl
    have q2':(zgM ρ 0 E1++[EI.fam 0 v [b]])[j]? = some (bif hasN ρ j then .dead else e2):=by rw[aE (by rw[zlB,R1.lE];exact hj),zlG,q2,aP];rfl
    cases hh:hasN ρ j with
    |true=>rw[hh]at ho q1' q2';cases ho;exact⟨_,_,q1',q2',rfl,rfl⟩
    |false=>rw[hh]at ho q1' q2';have ho:σ1.hp[j]=o:=osi ho;rw[ho]at q3;exact⟨_,_,q1',q2',q3.mono (Mem.le_refl S1) hE3⟩
   ·have hj2:j=σ1.hp.length:=by have:=(aC.1 ho).1;simp[zgH]at this;omega
    subst hj2;rw[aI (by rw[zgH];exact aJ _),zgH,cW]at ho;cases ho;refine⟨_,_,by rw[zfU,aI (by rw[R1.lL];exact aJ _),R1.lL,cW,aP,ygR (by rw[<-R1.lL];exact hNρ)];rfl,hgN,v,[],[rs],[b],by simp,rfl,rfl,rfl,fun a y' hay _=>?_,fun a ha=>by cases ha⟩;cases a with
    |zero=>cases hay;exact⟨rs,b,rfl,rfl,hmem b hb⟩
    |succ a=>cases hay
 ·cases h
theorem ysS{T1 E0:TypeId}{fe:TI}{x y:Operand}{id ver id2 ver2:Nat}(R:Rel n B S E L σ m w)(hT:P.underlying T1=some (.slice E0))(hE:TIok P E0 fe)(hs:slOk fe=true)(hz:fe.sz=1)(hx:VR S E (.fs id ver) (evO n m x))(hy:VR S E (.fs id2 ver2) (evO n m y))(h:ypO E0 id ver id2 ver2 σ k=some r):
  outcome P (Post2 n B S E m k r) ((execOp (evO n m) ⟨dst,.call ⟨.builtin .append,#[x,y],#[T1,T1]⟩,ty,pos,aft,g⟩).run P w):=by
 unfold ypO at h;split at h
 ·rename_i v1 T f ks v2 T2 f2 ks2 hc hc2;obtain⟨hb,hq⟩:=zaH h;clear h;have hne:id≠id2:=fun e=>by have:=zaU (zaU hb);rw[e,dM]at this;cases this
  have e1:=aB (zaU (zbA (zaU hb)));have e2:=aB (zbA (zbA (zaU hb)));have e3:=aB (zaU (zbA hb));have e4:=aB (zbA (zbA hb));subst e1;subst e2;subst e3;subst e4;split at hq
  ·rename_i hf _;subst hf;obtain⟨r',ha,hk⟩:=bnd hq;rw[zcS]at hc hc2;obtain⟨r0,e0,g1,g2,u1,cr1,ms1,bs1,rfl,rfl,g3⟩:=R.obj id _ hc;obtain⟨r0,e0,p1,p2,u2,cr2,ms2,bs2,rfl,rfl,p3⟩:=R.obj id2 _ hc2;obtain⟨_,e1,h5,h6⟩:=hx;rw[g2]at h5;cases h5;have hu1:=(h6 _ _ _ rfl).2 rfl;obtain⟨_,e1,h5,h6⟩:=hy;rw[p2]at h5;cases h5;have hu2:=(h6 _ _ _ rfl).2 rfl;obtain⟨hbd,hr'⟩:=zeD ha;have hr':ks++ks2=r':=hr';have hTn:=yaV hT hE hs;rw[hz]at hTn;have hidL:=(aC.1 g1).1;have hid2L:=(aC.1 p1).1;have hidE:=(aC.1 g2).1;have hid2E:=(aC.1 p2).1;have hidH:=(aC.1 hc).1;have hid2H:=(aC.1 hc2).1;have H1:=HS.split R.hs g1 (q:=.osl u1 ks.length 1 (bs1.map ptrV) cr1 T2) (A':=ms1.flatten) (List.Perm.refl _);have hw2:SlW w u2 ks2.length 1 (bs2.map ptrV):=Res.slW (v:=u2) (n:=ks2.length) (sz:=1) (cs:=bs2.map ptrV) (rs:=cr2) (T:=T2) ((R.hs.own id2 (.many (.osl u2 ks2.length 1 (bs2.map ptrV) cr2 T2::ms2.flatten)) (by rw[zbC];exact p1)).1 _ bA)
   obtain⟨w',v',rs',hrun,H2⟩:=yhS (e:=evO n m) (k:=L.length) (dst:=dst) (ty:=ty) (pos:=pos) (aft:=aft) (g:=g) hTn H1 hu1 (by rw[zbC,aI (by simp)];simp;rfl) hu2 hw2 (fun u hu=>by
    obtain⟨b,_,rfl⟩:=dS.1 hu;rfl) hbd
   rw[hrun];rw[zlU,eD _ _ (by simp),bL,cW,eZ]at H2
   have H3:=HS.join (A':=.osl v' (ks.length+ks2.length) 1 (bs1.map ptrV++bs2.map ptrV) rs' T2::ms1.flatten) (D:=[]) H2 (i:=id) (j:=L.length) (A:=ms1.flatten) (s:=.osl v' (ks.length+ks2.length) 1 (bs1.map ptrV++bs2.map ptrV) rs' T2) (by rw[aE (by simpa using hidL),aK hidL]) (by rw[aI (by simp)];simp) (by omega)
    (by rw[cC];exact(dB _ _))
   rw[eS _ _ (by simpa using hidL),gU,eD _ _ (by simp)]at H3;simp only[bL,cW,eZ]at H3;have H4:=HS.drop H3
   have H5:=HS.join (A':=.osl v' (ks.length+ks2.length) 1 (bs1.map ptrV++bs2.map ptrV) rs' T2::(ms1++ms2).flatten) (D:=[.osl u2 ks2.length 1 (bs2.map ptrV) cr2 T2]) H4 (i:=id) (j:=id2) (aK hidL) (by rw[aM hne];exact p1) hne (by
    show(R0.osl v' (ks.length+ks2.length) 1 (bs1.map ptrV++bs2.map ptrV) rs' T2::ms1.flatten++(R0.osl u2 ks2.length 1 (bs2.map ptrV) cr2 T2::ms2.flatten)).Perm _;rw[List.flatten_append,bO,bO,aX]
    exact List.Perm.cons _ (List.Perm.append_left _ (dB _ _).symm))
   rw[gU]at H5;have hone:v'.oneCell'=true:=by rcases(H5.own id (.many (.osl v' (ks.length+ks2.length) 1 (bs1.map ptrV++bs2.map ptrV) rs' T2::(ms1++ms2).flatten)) (by rw[zbC,aM (Ne.symm hne),aK hidL])).1 _ bA with⟨hv,_⟩|⟨_,_,_,hv,_⟩<;>rw[hv]<;>rfl
   have hE1:ELe E (E.set id (.fam (ver+1) v' (bs1++bs2))):=ELe.set g2 (.inr (.inr ⟨_,_,bs2,rfl,Nat.lt_succ_self _⟩));have hE2:ELe (E.set id (.fam (ver+1) v' (bs1++bs2))) ((E.set id (.fam (ver+1) v' (bs1++bs2))).set id2 .dead):=ELe.set (e:=.fam ver2 u2 bs2) (e':=.dead) (by rw[aM hne];exact p2) (.inr (.inl rfl));have hE3:=hE1.trans hE2;have hgE:((E.set id (.fam (ver+1) v' (bs1++bs2))).set id2 .dead)[id]? = some (.fam (ver+1) v' (bs1++bs2)):=by rw[aM (Ne.symm hne),aK hidE]
   refine⟨_,_,S,_,_,hk,Mem.le_refl S,hE3,⟨H5,?_,?_,fun j o ho=>?_,fun t=>(R.sl t).mono (Mem.le_refl S) hE3⟩,⟨hone,_,hgE,fun r1 w1 b1 hq=>by cases hq;exact⟨aJ _,fun _=>rfl⟩⟩⟩
   ·simp[zeI,R.lL]
   ·simp[zeI,R.lE]
   ·have ho:(setN (setN σ.hp id2 .dead) id (.fam (ver+1) T2 f2 r'))[j]? = some o:=ho;rw[zeI,zeI]at ho;by_cases hj:id=j
    ·subst hj;rw[aK (by simpa using hidH)]at ho;cases ho;refine⟨_,_,by rw[aM (Ne.symm hne),aK hidL],hgE,v',rs',ms1++ms2,bs1++bs2,?_,rfl,?_⟩
     ·rw[<-hr',aF,List.map_append]
     ·refine⟨by rw[<-hr',aF,aF,g3.l1,p3.l1],by rw[<-hr',aF,aF,g3.l2,p3.l2],fun a y hay _=>?_,fun a ha=>by cases ha⟩;rw[<-hr']at hay;by_cases hal:a<ks.length
      ·rw[aE hal]at hay;obtain⟨rs2,b2,q1,q2,q3⟩:=g3.mem a y hay (by simp);exact⟨rs2,b2,by rw[aE (by rw[g3.l1];exact hal)];exact q1,by rw[aE (by rw[g3.l2];exact hal)];exact q2,q3⟩
      ·rw[aI (fJ hal)]at hay;obtain⟨rs2,b2,q1,q2,q3⟩:=p3.mem _ y hay (by simp);exact⟨rs2,b2,by rw[aI (by rw[g3.l1];omega),g3.l1];exact q1,by rw[aI (by rw[g3.l2];omega),g3.l2];exact q2,q3⟩
    ·rw[aM hj]at ho;by_cases hj2:id2=j
     ·subst hj2;rw[aK hid2H]at ho;cases ho;exact⟨zjV,.dead,aK (by simpa using hid2L),aK (by simpa using hid2E),rfl,rfl⟩
     ·rw[aM hj2]at ho;obtain⟨r2,e2,q1,q2,q3⟩:=R.obj j o ho;exact⟨r2,e2,by rw[aM hj2,aM hj];exact q1,by rw[aM hj2,aM hj];exact q2,q3.mono (Mem.le_refl S) hE3⟩
  ·cases hq
 ·cases h
theorem yyX{o:Op}(hτ:TEok P τ)(hΓ:CTok P Γ B)(R:Rel n B S E L σ m w)(h:opF τ Γ σ o T k=some r):
  outcome P (Post2 n B S E m k r) ((execOp (evO n m) ⟨dst,o,ty,pos,aft,g⟩).run P w):=by
 unfold opF at h;split at h
 ·rename_i x y T1 T2;split at h
  ·rename_i E0 z1 z2 z3 z4 id ver id2 ver2 hT hx hy;split at h
   ·rename_i fe hfe;obtain⟨hb,hq⟩:=zaH h;clear h;have e1:=aB (zbA hb);subst e1;exact ysS R ((hτ _ _ hT).sl rfl) (hτ _ _ hfe) (zaU (zaU hb)) (aB (zbA (zaU hb))) (zbO R hx) (zbO R hy) hq
   ·cases h
  ·exact yiO hτ hΓ R h
 ·rename_i T1 n' x;split at h
  ·rename_i E0 z1 z2 z3 z4 i hT hx;split at h
   ·rename_i f fe hf hfe;obtain⟨hb,hq⟩:=zaH h;clear h;have e1:=aB (zbA hb);subst e1;exact yrB R ((hτ _ _ hT).sl rfl) (hτ _ _ hfe) (zaU (zaU hb)) (aB (zbA (zaU hb))) (zbO R hx) hq
   ·cases h
  ·exact yiO hτ hΓ R h
 ·exact yhW hτ hΓ R h
 ·exact yiO hτ hΓ R h
end
def Agr(D:List Nat)(m m':FM):Prop:=∀t,hasN D t=false->look m' t=look m t
theorem Agr.refl(D:List Nat)(m:FM):Agr D m m:=fun _ _=>rfl
theorem Agr.trans{D:List Nat}{a b c:FM}(h:Agr D a b)(k:Agr D b c):Agr D a c:=fun t ht=>(k t ht).trans (h t ht)
theorem Agr.put{D:List Nat}{m:FM}{d:Nat}{v:Value}(h:hasN D d=true):Agr D m ((d,v)::m):=fun t ht=>by
 show(bif aH d t then v else look m t)=_;cases hb:aH d t with
 |true=>rw[aB hb]at h;rw[h]at ht;cases ht
 |false=>rfl
theorem yaE(a b:List Nat)(t:Nat):hasN (a++b) t=(hasN a t||hasN b t):=by
 induction a with
 |nil=>rfl|cons x a ih=>simp only[bO,hasN,ih,Bool.or_assoc]
theorem Agr.l{a b:List Nat}{m m':FM}(h:Agr a m m'):Agr (a++b) m m':=fun t ht=>h t (by rw[yaE,cT]at ht;exact ht.1)
theorem Agr.r{a b:List Nat}{m m':FM}(h:Agr b m m'):Agr (a++b) m m':=fun t ht=>h t (by rw[yaE,cT]at ht;exact ht.2)
theorem zzG{o:Oper}{l:List Oper}{t:Nat}(h:hasN (znL l) t=true):hasN (znL (o::l)) t=true:=by
 unfold znL;cases o.dst with
 |none=>exact h|some d=>simp[hasN,h]
theorem zzB{o:Oper}{l:List Oper}{d:Nat}(h:o.dst=some d):hasN (znL (o::l)) d=true:=by unfold znL;rw[h];simp[hasN]
theorem Agr.mono{D D':List Nat}{m m':FM}(h:Agr D m m')(hd:∀t,hasN D t=true->hasN D' t=true):Agr D' m m':=fun t ht=>h t (by
 cases hb:hasN D t with
 |true=>rw[hd t hb]at ht;cases ht
 |false=>rfl)
section
variable {n:Nat}{m:FM}{o:Oper}
theorem znT(hg:o.guard=none){y:Nat->Option Bool}:Region.wanted o y=true:=by simp only[Region.wanted,hg]
theorem yiL{all:List Oper}{j d:Nat}{t:Bool}(h:ydS all j=some d)(hv:evO n m (.tmp d) = .bool t):yielded all.toArray (fr n m).tmps j=some t:=by
 rw[ziR,zxJ];unfold ydS at h;split at h
 ·rename_i o ho;refine zbH ?_ h hv;rw[yiI,<-zcS];exact ho
 ·cases h
theorem yhT{all:List Oper}{j d:Nat}(h:ydS all j=some d)(hv:evO n m (.tmp d)=undef):yielded all.toArray (fr n m).tmps j=none:=by
 rw[ziR,zxJ];unfold ydS at h;split at h
 ·rename_i o ho;have ho2:lko all j=some o:=by rw[yiI,<-zcS];exact ho
  unfold gvl;rw[ho2];obtain⟨dst,_,_,_,_,_⟩:=o;simp only at h;subst h;simp only[gvo,hv];rfl
 ·cases h
theorem ydR{j:Nat}{b:Bool}{y:Nat->Option Bool}(hg:o.guard=some (j,b))(hy:y j=none):Region.wanted o y=false:=by simp only[Region.wanted,hg,hy];cases b<;>rfl
theorem zwU{j:Nat}{b t:Bool}{y:Nat->Option Bool}(hg:o.guard=some (j,b))(hy:y j=some t):Region.wanted o y=(t==b):=by simp only[Region.wanted,hg,hy];cases t<;>cases b<;>rfl
end
section
variable {β:Type}{τ:TE}{Γ:CT}{n:Nat}{P:Program}{B:Bas}{S:Mem}{E:List EI}{L:List Res}{σ:St}{m:FM}{w:World}{ops:Array Oper}{Q:Exit->Act->World->Prop}{rest:List Oper}{o:Oper}
theorem xfA{Rv:Value->World->Prop}(hg:Region.wanted o (yielded ops (fr n m).tmps)=true)(h:outcome P Rv ((execOp (evO n m) o).run P w))(hK:∀v w',Rv v w'->wpList P ops Q rest ((fr n m).put o.dst v) w'):
  wpList P ops Q (o::rest) (fr n m) w:=by
 unfold wpList;rw[zH hg];exact .inl (zpZ (by rw[zeB];exact h) hK)
theorem xdM(hg:Region.wanted o (yielded ops (fr n m).tmps)=false)(h:wpList P ops Q rest ((fr n m).put o.dst undef) w):wpList P ops Q (o::rest) (fr n m) w:=by unfold wpList;rw[zG (by rw[hg];simp)];exact h
theorem zrB(R:Rel n B S E L σ m w){d:Option Nat}{x:SV}{v:Value}{k:St->Option β}{r:β}(hx:VR S E x v)(h:putD n d x σ k=some r):∃σ' m',k σ'=some r/\Rel n B S E L σ' m' w/\(fr n m).put d v=fr n m'/\∀D,(∀t,d=some t->hasN D t=true)->Agr D m m':=by
 cases d with
 |none=>exact⟨σ,m,h,R,znH _ _ _,fun D _=>Agr.refl D m⟩|some d=>obtain⟨hd,h⟩:=zaH h;exact⟨_,_,h,R.put hx hd,zaK _ _ _ _,fun D hD=>Agr.put (hD d rfl)⟩
theorem zvD(hτ:TEok P τ)(hΓ:CTok P Γ B){all:List Oper}{k:St->Option β}{r:β}{S0:Mem}{E0:List EI}{m0:FM}{D:List Nat}(hQ:∀σ' S' E' L' m' w',k σ'=some r->Mem.le S0 S'->ELe E0 E'->Agr D m0 m'->Rel n B S' E' L' σ' m' w'->Q .normal (fr n m') w'):∀(l:List Oper) {σ:St} {S:Mem} {E:List EI} {L:List Res} {m:FM} {w:World},(∀t,hasN (znL l) t=true->hasN D t=true)->Mem.le S0 S->ELe E0 E->Agr D m0 m->Rel n B S E L σ m w->steps n τ Γ all l σ k=some r->wpList P all.toArray Q l (fr n m) w
 |[],σ,S,E,L,m,w,_,hS,hE,hA,R,h=>hQ _ _ _ _ _ _ h hS hE hA R|o::l,σ,S,E,L,m,w,hD,hS,hE,hA,R,h=>by
  have hD':∀t,hasN (znL l) t=true->hasN D t=true:=fun t h=>hD t (zzG h);have hd':∀t,o.dst=some t->hasN D t=true:=fun t h=>hD t (zzB h);have doIt:∀{σ:St},Rel n B S E L σ m w->Region.wanted o (yielded all.toArray (fr n m).tmps)=true->(opF τ Γ σ o.op o.type fun x σ=>putD n o.dst x σ fun σ=>steps n τ Γ all l σ k)=some r->wpList P all.toArray Q (o::l) (fr n m) w:=fun {σ} R hw h=>by obtain⟨dst,op,ty,pos,aft,g⟩:=o;refine xfA hw (yyX hτ hΓ R h) ?_;rintro v w' ⟨x,σ',S',E',L',h1,h2,h3,R',h4⟩;obtain⟨σ2,m2,h5,R2,h6,h7⟩:=zrB R' h4 h1;show wpList P all.toArray Q l ((fr n m).put dst v) w';rw[h6];exact zvD hτ hΓ hQ l hD' (Mem.le_trans hS h2) (hE.trans h3) (hA.trans (h7 D hd')) R2 h5
  have skip:∀{σ:St},Rel n B S E L σ m w->Region.wanted o (yielded all.toArray (fr n m).tmps)=false->(putD n o.dst .skp σ fun σ=>steps n τ Γ all l σ k)=some r->wpList P all.toArray Q (o::l) (fr n m) w:=fun {σ} R hw h=>by obtain⟨σ2,m2,h5,R2,h6,h7⟩:=zrB R (v:=undef) (x:=.skp) rfl h;refine xdM hw ?_;rw[h6];exact zvD hτ hΓ hQ l hD' hS hE (hA.trans (h7 D hd')) R2 h5
  unfold steps at h;split at h
  ·rename_i hg;exact doIt R (znT hg) h
  ·rename_i j b hg;split at h
   ·rename_i d hd;split at h
    ·rename_i t ht;have hv:evO n m (.tmp d) = .bool t:=vB (by have:=R.sl d;rw[ht]at this;exact this);have hw:=zwU (o:=o) hg (yiL (m:=m) (n:=n) hd hv);have Rt:∀q:Bool,t=q->Rel n B S E L (σ.put d (.v .b q)) m w:=fun q hq=>R.re (by rw[hv,hq];exact bV q);cases t with
     |true=>
      cases b with
      |true=>exact doIt (Rt true rfl) hw h|false=>exact skip (Rt true rfl) hw h
     |false=>
      cases b with
      |true=>exact skip (Rt false rfl) hw h|false=>exact doIt (Rt false rfl) hw h
    ·rename_i ht;have hv:evO n m (.tmp d)=undef:=by have:=R.sl d;rw[ht]at this;exact this
     exact skip R (ydR hg (yhT (m:=m) (n:=n) hd hv)) h
    ·cases h
   ·cases h
end
section
variable {S:Mem}{E:List EI}
end
section
variable {β:Type}{τ:TE}{Γ:CT}{n nh:Nat}{P:Program}{B:Bas}{S:Mem}{E:List EI}{L:List Res}{σ:St}{m:FM}{W:World}{ops:Array Oper}{all:List Oper}{Φ:zeV}{vs:Nat->Gv}{D:List (Nat×Nat)}
def Inv(n:Nat)(S:Mem)(E:List EI)(W:World)(Φ:zeV)(vs:Nat->Gv)(sl:List (Nat×SV))(D:List (Nat×Nat))(m:FM):Prop:=∀t,match lkD D t with
 |none=>VR S E (lkS sl t) (evO n m (.tmp t))|some j=>relK Φ j=true/\∀w',zgI Φ vs w' j->VR (gf S W (vs j).f w') E (lkS sl t) (evO n m (.tmp t))
theorem ysY:∀(D:List (Nat×Nat)) (d t:Nat),lkD (delD D d) t=if d=t then none else lkD D t
 |[],d,t=>by simp[delD,lkD]
 |(x,j)::D,d,t=>by
  have ih:=ysY D d t;unfold delD;cases hx:aH x d with
  |true=>
   have:=aB hx;subst this;simp only[zE,ih,lkD];by_cases h:x=t
   ·simp[h]
   ·rw[zG h,zG h];have:aH x t=false:=by rw[zkJ];simp[h]
    rw[this];rfl
  |false=>
   simp only[zF,lkD,ih];cases hy:aH x t with
   |true=>
    have h1:=aB hy;subst h1;have h2:d≠x:=fun e=>by subst e;rw[zkJ]at hx;simp at hx
    simp[h2]
   |false=>rfl
theorem Inv.put{d:Nat}{x:SV}{v:Value}(hI:Inv n S E W Φ vs σ.sl D m)(hd:cL d n=true)(hx:VR S E x v):Inv n S E W Φ vs (σ.put d x).sl (delD D d) ((d,v)::m):=fun t=>by
 have:=hI t;rw[ysY];show match (if d=t then none else lkD D t) with
  |none=>VR S E (bif aH d t then x else lkS σ.sl t) (bif cL t n then(bif aH d t then v else look m t)else undef)|some j=>relK Φ j=true/\∀w',zgI Φ vs w' j->VR (gf S W (vs j).f w') E (bif aH d t then x else lkS σ.sl t) (bif cL t n then(bif aH d t then v else look m t)else undef)
 by_cases h:d=t
 ·subst h;rw[zH rfl];simp only[dM,zE,hd];exact hx
 ·rw[zG h];have hb:aH d t=false:=by rw[zkJ];simp[h]
  simp only[hb,zF];exact this
theorem Inv.re{d:Nat}{x:SV}(hI:Inv n S E W Φ vs σ.sl D m)(hd:lkD D d=none)(hx:VR S E x (evO n m (.tmp d))):Inv n S E W Φ vs (σ.put d x).sl D m:=fun t=>by
 have:=hI t;show match lkD D t with
  |none=>VR S E (bif aH d t then x else lkS σ.sl t) _|some j=>relK Φ j=true/\∀w',zgI Φ vs w' j->VR (gf S W (vs j).f w') E (bif aH d t then x else lkS σ.sl t) _
 cases hb:aH d t with
 |true=>have:=aB hb;subst this;rw[hd];exact hx|false=>exact this
end
section
variable {β:Type}{τ:TE}{σ:St}{k:SV->Option β}
end
section
variable {β:Type}{τ:TE}{Γ:CT}{n nh:Nat}{P:Program}{B:Bas}{S:Mem}{E:List EI}{L:List Res}{σ:St}{m:FM}{W:World}{ops:Array Oper}{all:List Oper}{Φ:zeV}{vs:Nat->Gv}{D:List (Nat×Nat)}
theorem yjR{S':Mem}{E':List EI}{x:SV}{u:Value}(hp:ztU x=true)(h:VR S E x u)(hS:Mem.le S S'):VR S' E' x u:=by
 cases x with
 |v t x=>exact(rpD t).mono h hS|nils=>exact h|nilp=>exact h|emp=>have h:VB S E .emp u:=h;exact(⟨h.1.mono hS,h.2⟩:VB S' E' .emp u)|cl e xs=>have h:VB S E (.cl e xs) u:=h;exact(⟨h.1.mono hS,h.2⟩:VB S' E' (.cl e xs) u)|rm e n xs=>have h:VB S E (.rm e n xs) u:=h;obtain⟨v,h1,h2⟩:=h;exact(⟨v,h1.mono hS,h2⟩:VB S' E' (.rm e n xs) u)
 |rp t x off=>obtain⟨b,o,us,e,h1,h2⟩:=h;exact⟨b,o,us,e,h1.mono hS,(rpD t).mono h2 hS⟩
 |_=>cases hp
theorem HS.frame{B:Bas}{S S':Mem}{w w':World}{L L':List Res}(H:HS B S w L)(H':HS B S' w' L')(hS:Mem.le S S'){I:List Nat}(hf:∀i,hasN I i=false->i<L.length->lkR L' i=lkR L i):HS B S w' (zjT I 0 L):=by
 have key:∀i q,lkR (zjT I 0 L) i=some q->q=zjV∨(lkR L i=some q/\lkR L' i=some q):=fun i q h=>by
  rw[zbC,zfU,aP]at h;cases hl:L[i]? with
  |none=>rw[hl]at h;cases h
  |some r=>
   rw[hl]at h;simp only[bB,Option.some.injEq]at h;cases hi:hasN I i with
   |true=>rw[hi]at h;exact .inl h.symm|false=>
    rw[hi]at h;have h:r=q:=h;subst h;have h2:lkR L i=some r:=by rw[zbC];exact hl
    exact .inr ⟨h2,by rw[hf i hi (aC.1 hl).1];exact h2⟩
 refine⟨H'.fr,fun b o e=>H'.sub b o (hS b o e),H.keep,fun i q h=>?_,fun i q b h hb=>?_,fun i j q s b hi hj hq hs=>?_⟩
 ·rcases key i q h with rfl|⟨_,h⟩
  ·exact .inl ⟨rfl,rfl,rfl,rfl⟩
  ·exact H'.own i q h
 ·rcases key i q h with rfl|⟨h,_⟩
  ·cases hb
  ·exact H.old i q b h hb
 ·rcases key i q hi with rfl|⟨h1,_⟩
  ·cases hq
  ·rcases key j s hj with rfl|⟨h2,_⟩
   ·cases hs
   ·exact H.inj i j q s b h1 h2 hq hs
theorem ymY{S:Mem}{E:List EI}{I:List Nat}{x:SV}{u:Value}(hx:okC0 I x=true)(h:VC S (zgM I 0 E) x u):VC S E x u:=by
 have at_:∀{id e},(!(hasN I id))=true->(zgM I 0 E)[id]? = some e->E[id]? = some e:=fun {id e} hi h1=>by
  have hi:hasN I id=false:=by cases hh:hasN I id with
   |true=>rw[hh]at hi;cases hi
   |false=>rfl
  rw[zlG,aP,hi]at h1;cases hE:E[id]? with
  |none=>rw[hE]at h1;cases h1
  |some e'=>rw[hE]at h1;have h1:e'=e:=osi h1;subst h1;rfl
 unfold okC0 at hx;split at hx
 ·rename_i id off;obtain⟨b,hu,e,h1,h2⟩:=(show VB S (zgM I 0 E) (.ptr id off) u from h);exact(⟨b,hu,e,at_ hx h1,h2⟩:VB S E (.ptr id off) u)
 ·rename_i id ver;obtain⟨hu,e,h1,h2⟩:=(show VB S (zgM I 0 E) (.own id ver) u from h);exact(⟨hu,e,at_ hx h1,h2⟩:VB S E (.own id ver) u)
 ·rename_i id;obtain⟨hu,e,h1,h2⟩:=(show VB S (zgM I 0 E) (.mpr id) u from h);exact(⟨hu,e,at_ hx h1,h2⟩:VB S E (.mpr id) u)
 ·rename_i id ver i off;obtain⟨hu,e,h1,h2⟩:=(show VB S (zgM I 0 E) (.ep id ver i off) u from h);exact(⟨hu,e,at_ hx h1,h2⟩:VB S E (.ep id ver i off) u)
 ·rename_i id ver;obtain⟨hu,e,h1,h2⟩:=(show VB S (zgM I 0 E) (.fs id ver) u from h);exact(⟨hu,e,at_ hx h1,h2⟩:VB S E (.fs id ver) u)
 ·rename_i id ver i;obtain⟨hu,e,h1,h2⟩:=(show VB S (zgM I 0 E) (.fe id ver i) u from h);exact(⟨hu,e,at_ hx h1,h2⟩:VB S E (.fe id ver i) u)
 ·rename_i id i off;obtain⟨hu,e,h1,h2⟩:=(show VB S (zgM I 0 E) (.fp id i off) u from h);exact(⟨hu,e,at_ hx h1,h2⟩:VB S E (.fp id i off) u)
 ·exact((yjR hx (VR.ofC h) (Mem.le_refl S)).b (by cases x<;>first|rfl|cases hx)).b (by cases x<;>first|rfl|cases hx)
theorem yoB{I:List Nat}{x:SV}(h:okC0 I x=true):nofn x=true:=by cases x<;>first|rfl|cases h
theorem ynN{S:Mem}{E:List EI}{I:List Nat}{x:SV}{u:Value}(hx:okC0 I x=true)(h:VB S (zgM I 0 E) x u):VB S E x u:=(ymY hx h.c).b (yoB hx)
theorem yjS{S:Mem}{E:List EI}{I:List Nat}:∀{l:List SV} {us:LV},l.all (okC0 I)=true->A2 (VB S (zgM I 0 E)) l us->A2 (VB S E) l us
 |_,_,_,.nil=>.nil|_,_,hp,.cons a t=>by simp only[cX,aL]at hp;exact .cons (ynN hp.1 a) (yjS hp.2 t)
theorem xbI{S:Mem}{E:List EI}{I:List Nat}{x:SV}{u:Value}(hx:okA0 I x=true)(h:VA (VB S (zgM I 0 E)) x u):VA (VB S E) x u:=by
 unfold okA0 at hx;split at hx
 ·obtain⟨us,h1,h2⟩:=h;exact⟨us,h1,yjS hx h2⟩
 ·rename_i hn;have hg:noag x=true:=by cases x<;>first|rfl|exact absurd rfl (hn _)
  exact VA.of (ynN hx (h.b hg)) hg
theorem yaW{S:Mem}{E:List EI}{I:List Nat}:∀{l:List SV} {us:LV},l.all (okA0 I)=true->A2 (VA (VB S (zgM I 0 E))) l us->A2 (VA (VB S E)) l us
 |_,_,_,.nil=>.nil|_,_,hp,.cons a t=>by simp only[cX,aL]at hp;exact .cons (xbI hp.1 a) (yaW hp.2 t)
theorem yxC{S:Mem}{E:List EI}{I:List Nat}{x:SV}{u:Value}(hx:okC I x=true)(h:VC S (zgM I 0 E) x u):VC S E x u:=by
 unfold okC at hx;split at hx
 ·obtain⟨us,ws,hu,h1,h2⟩:=h;rw[aL]at hx;exact⟨us,ws,hu,yaW hx.1 h1,yaW hx.2 h2⟩
 ·exact ymY hx h
theorem ysP{S:Mem}{E:List EI}{I:List Nat}:∀{l:List SV} {us:LV},l.all (okC I)=true->A2 (VC S (zgM I 0 E)) l us->A2 (VC S E) l us
 |_,_,_,.nil=>.nil|_,_,hp,.cons a t=>by simp only[cX,aL]at hp;exact .cons (yxC hp.1 a) (ysP hp.2 t)
theorem yzA{S:Mem}{E:List EI}{I:List Nat}{x:SV}{u:Value}(hx:okA I x=true)(h:VA (VC S (zgM I 0 E)) x u):VA (VC S E) x u:=by
 unfold okA at hx;split at hx
 ·rename_i l;obtain⟨us,h1,h2⟩:=h;exact⟨us,h1,ysP hx h2⟩
 ·rename_i hn;have hg:noag x=true:=by cases x<;>first|rfl|exact absurd rfl (hn _)
  exact VA.of (yxC hx (h.b hg)) hg
theorem yrD{S:Mem}{E:List EI}{I:List Nat}:∀{l:List SV} {us:LV},l.all (okA I)=true->A2 (VA (VC S (zgM I 0 E))) l us->A2 (VA (VC S E)) l us
 |_,_,_,.nil=>.nil|_,_,hp,.cons a t=>by simp only[cX,aL]at hp;exact .cons (yzA hp.1 a) (yrD hp.2 t)
theorem VR_okF{S:Mem}{E:List EI}{I:List Nat}{x:SV}{u:Value}(hx:okF I x=true)(h:VR S (zgM I 0 E) x u):VR S E x u:=by
 unfold okF at hx;split at hx
 ·rename_i l;obtain⟨us,h1,h2⟩:=(show ∃us,u = .tuple us.toArray/\A2 (VA (VC S (zgM I 0 E))) l us from h);exact(⟨us,h1,yrD hx h2⟩:VR S E (.tup l) u)
 ·rename_i hn;have hu:notu x=true:=by cases x<;>first|rfl|exact absurd rfl (hn _)|cases hx
  exact VR.of (yzA hx (h.b hu))
theorem Ok1.twoF{o:Oper}{I:List Nat}{k:SV->St->Option β}{r:β}{w:World}(R:Rel n B S E L σ m w)(h:Ok1 P S E (evO n m) o (fun x=>k x σ) r (fun w'=>HS B S w' L)):outcome P (Post2F n B S E L I m k r) ((execOp (evO n m) o).run P w):=by obtain⟨z,u,h1,h2,h3⟩:=h;rw[h3 w R.hs];exact⟨z,σ,S,E,L,h1,Mem.le_refl _,ELe.refl _,R,h2,fun _ _ _=>rfl⟩
theorem ywH{o:Op}{T:TypeId}{k:SV->St->Option β}(h:(mvOp o||yoU o)=true):op2 τ Γ σ o T k=op1 τ σ o fun x=>k x σ:=by
 cases o with
 |call c=>
  unfold mvOp yoU at h;simp only[Bool.false_or]at h;split at h
  all_goals first
   |(rename_i e;cases e;done)
   |cases h
   |skip
  all_goals (rename_i e;cases e;rfl)
 |_=>first|rfl|cases h
theorem storeF{T:TypeId}{f:TI}{a x:Operand}{I:List Nat}{id off:Nat}{B':TypeId}{cs:List SV}{sv:SV}{k:SV->St->Option β}{r:β}{w:World}{dst:Option Tmp}{g:Option (Nat×Bool)}{ty:TypeId}{pos:String}{aft:Array Edge}(hi:hasN I id=true)(hT:TIok P T f)(R:Rel n B S E L σ m w)(ha:VR S E (.ptr id off) (evO n m a))(hx:VR S E sv (evO n m x))(hc:atN σ.hp id=some (.blk B' cs)) (hb:(aH (cellL sv).length f.sz&&Nat.ble (off+f.sz) cs.length&&notu sv)=true) (h:k .undef ⟨σ.sl,setN σ.hp id (.blk B' (layS cs off (cellL sv)))⟩=some r):
  outcome P (Post2F n B S E L I m k r) ((execOp (evO n m) ⟨dst,.store T a x,ty,pos,aft,g⟩).run P w):=by
 obtain⟨r0,e0,h1,h2,b,us,rfl,rfl,h3⟩:=R.objN hc;obtain⟨b1,hu,e1,h4,h5⟩:=ha;rw[h2]at h4;cases h4;cases h5 _ rfl;obtain⟨h6,h7⟩:=zpT (hx.b (zbA hb));have h8:=aB (zaU (zaU hb));have h9:=aQ (zbA (zaU hb));obtain⟨w',h10,h11⟩:=zdV (g:=g) (ty:=ty) (pos:=pos) (aft:=aft) (P:=P) hT.tsz R.hs hu h1 rfl h7 (by rw[<-h6.len,h8]) (VC.ones h6) (by rw[<-h3.len,eL];exact h9);have h10':(execOp (evO n m) ⟨dst,.store T a x,ty,pos,aft,g⟩).run P w = .ok .skip w':=h10;rw[h10'];refine⟨_,_,S,E,_,h,Mem.le_refl _,ELe.refl _,R.upd1 h2 h11 ⟨b,_,rfl,rfl,ztB off h3 h6⟩,trivial,fun j hj _=>zcJ fun e=>?_⟩;subst e;rw[hi]at hj;cases hj
theorem xcG{o:Op}{T:TypeId}{I:List Nat}{k:SV->St->Option β}{r:β}{w:World}{dst:Option Tmp}{g:Option (Nat×Bool)}{pos:String}{aft:Array Edge}(hτ:TEok P τ)(R:Rel n B S E L σ m w)(ho:okP I σ o=true)(h:op2 τ Γ σ o T k=some r):
  outcome P (Post2F n B S E L I m k r) ((execOp (evO n m) ⟨dst,o,T,pos,aft,g⟩).run P w):=by
 have pure:(mvOp o||yoU o)=true->outcome P (Post2F n B S E L I m k r) ((execOp (evO n m) ⟨dst,o,T,pos,aft,g⟩).run P w):=fun hp=>by rw[ywH hp]at h;exact Ok1.twoF R (yhQ hτ R h)
 cases o with
 |store T' a x=>
  simp only[op2]at h;simp only[okP]at ho;cases hea:ev σ a with
  |none=>rw[hea]at ho;cases ho
  |some sa=>
   rw[hea]at ho h;cases sa with
   |ptr id off=>
    split at h
    ·rename_i f id' off' sv hT ha' hx;cases ha';split at h
     ·rename_i B' cs hc;obtain⟨hb,h⟩:=zaH h;exact storeF ho (hτ _ _ hT) R (zbO R hea) (zbO R hx) hc hb h
     ·cases h
    ·rename_i hj _;cases hj
    ·rename_i ha' _;cases ha'
    ·rename_i ha' _;cases ha'
    ·cases h
   |_=>cases ho
 |_=>exact pure ho
theorem zzM{x:Operand}{ash:List Operand}{at_:Array TypeId}{f:Nat}{xs:List SV}{I:List Nat}{k:SV->St->Option β}{r:β}{w:World}{dst:Option Tmp}{g:Option (Nat×Bool)}{ty:TypeId}{pos:String}{aft:Array Edge}(R:Rel n B S E L σ m w)(hx:znY σ x ash=some (f,xs)):∀{l:List SC},(∀c∈l,SCB P B f c)->ybA I σ x ash xs k l=some r ->
  outcome P (Post2F n B S E L I m k r) ((execOp (evO n m) ⟨dst,.call ⟨.value x,ash.toArray,at_⟩,ty,pos,aft,g⟩).run P w)
 |[],_,h=>by cases h
 |c::l,hc,h=>by
  unfold ybA at h;cases hb:(aH xs.length c.I.sl.length&&(yjI (c.I.need 0 ⟨argS 0 xs,σ.hp⟩)&&ynA I c.I.hp (c.I.rho 0 ⟨argS 0 xs,σ.hp⟩))&&(c.I.get1 (c.I.rho 0 ⟨argS 0 xs,σ.hp⟩) ⟨argS 0 xs,σ.hp⟩).isSome) with
  |false=>rw[hb]at h;exact zzM (at_:=at_) R hx (fun c' hc'=>hc c' (aS _ hc')) h|true=>rw[hb]at h;refine zdJ (ylG R hx (hc c bA) (zaU (zbA (zaU hb))) h) ?_;rintro v w' ⟨x,σ',S',E',L',h1,h2,h3,h4,h5,h6⟩;refine⟨x,σ',S',E',L',h1,h2,h3,h4,h5,fun i hi hlt=>?_⟩;rw[zbC,zbC,h6 i hlt (ycI hi 0 (zbA (zbA (zaU hb))))]
theorem yjV{o:Op}{T:TypeId}{I:List Nat}{k:SV->St->Option β}{r:β}{w:World}{dst:Option Tmp}{g:Option (Nat×Bool)}{pos:String}{aft:Array Edge}(hτ:TEok P τ)(hΓ:CTok P Γ B)(R:Rel n B S E L σ m w)(h:op2P τ Γ I σ o T k=some r):
  outcome P (Post2F n B S E L I m k r) ((execOp (evO n m) ⟨dst,o,T,pos,aft,g⟩).run P w):=by
 unfold op2P at h;cases ho:okP I σ o with
 |true=>rw[ho]at h;exact xcG hτ R ho h|false=>
  rw[ho]at h;simp only[zF]at h;split at h
  ·rename_i x ash at_;split at h
   ·rename_i f xs hx;exact zzM (ash:=ash.toList) (at_:=at_) R hx (fun c hc=>hΓ.sc f c hc) h
   ·cases h
  ·cases h
theorem yiT{f:Nat->Bool}:∀{n:Nat},yqU n f=true->∀i,i<n->f i=true
 |n+1,h,i,hi=>by
  unfold yqU at h;by_cases e:i=n
  ·subst e;exact zaU h
  ·exact yiT (zbA h) i (by omega)
theorem zrJ{t:Nat}:∀{l:List Oper},hasN (znL l) t=true↔∃o∈l,o.dst=some t
 |[]=>by simp[znL,hasN]
 |o::l=>by
  have ih:=zrJ (t:=t) (l:=l);unfold znL;cases hd:o.dst with
  |none=>simp[ih,hd]|some d=>simp only[hasN,Bool.or_eq_true,ih,zkJ,zD,aV,exists_eq_or_imp,hd,Option.some.injEq]
end
section
variable {B:Bas}{S S':Mem}{w w':World}{L A:List Res}
theorem HS.home(H:HS B S w L)(H':HS ⟨S,zbR L,w⟩ S' w' A):HS B S' w' A:=
 HS.back H H' (fun _ h=>h) (fun i _ hi=>.inr (.inl ⟨i,hi⟩)) H'.inj
theorem HS.cons(H:HS B S w L){r:Res}(hr:r.holds w)(hn:∀b,r.has b->B.w0.heap.size<=b/\S b=none/\b∉zbR L):HS B S w (r::L):=by
 have away:∀{i q b},lkR L i=some q->q.has b->r.has b->False:=fun {i q b} hi hq hr=>(hn b hr).2.2 (zcQ.2 ⟨i,q,hi,hq⟩);refine⟨H.fr,H.sub,H.keep,fun k q hk=>?_,fun k q b hk hb=>?_,fun i j q s b hi hj h1 h2=>?_⟩
 ·cases k with
  |zero=>cases hk;exact hr
  |succ k=>exact H.own k q hk
 ·cases k with
  |zero=>cases hk;exact⟨.inl (hn b hb).1,(hn b hb).2.1⟩
  |succ k=>exact H.old k q b hk hb
 ·cases i with
  |zero=>
   cases j with
   |zero=>rfl|succ j=>cases hi;exact(away hj h2 h1).elim
  |succ i=>
   cases j with
   |zero=>cases hj;exact(away hi h1 h2).elim
   |succ j=>rw[H.inj i j q s b hi hj h1 h2]
end
theorem ybG{W:List Nat}{i:Nat}(h:hasN W i=false):∀{l:List Nat},allN W l=true->hasN l i=false
 |[],_=>rfl|x::l,hl=>by
  unfold allN at hl;unfold hasN;rw[ybG h (zbA hl),Bool.or_false];cases hb:aH x i with
  |false=>rfl|true=>rw[aB hb,h]at hl;cases (zaU hl)
section
variable {β:Type}{τ:TE}{Γ:CT}{n:Nat}{P:Program}{B:Bas}{S:Mem}{E:List EI}{L:List Res}{σ:St}{m:FM}{w:World}
theorem unJ_no(Γ:CT):jnOf (unJ Γ)=false:=by
 unfold unJ;cases h:jnOf Γ with
 |true=>rfl|false=>exact h
theorem CTok.unJ(h:CTok P Γ B):CTok P (unJ Γ) B:=by
 unfold Am.unJ;cases hj:jnOf Γ with
 |true=>exact⟨h.pc,h.sc,fun e=>by cases e⟩|false=>exact h
theorem CTok.lend(hj:jnOf Γ=false)(h:CTok P Γ B)(H:HS B S w L):CTok P Γ ⟨S,zbR L,w⟩:=by have at_:∀{S1 w1},At ⟨S,zbR L,w⟩ S1 w1->At B S1 w1:=fun⟨S2,L2,hle,H2⟩=>⟨S2,L2,hle,HS.home H H2⟩;exact⟨fun f c hc=>⟨(h.pc f c hc).fn,fun S w us a y hA=>(h.pc f c hc).ok S w us a y (at_ hA)⟩,fun f c hc=>⟨(h.sc f c hc).fn,fun S w us E L a d hA=>(h.sc f c hc).ok S w us E L a d (at_ hA)⟩,fun e=>by rw[hj]at e;cases e⟩
theorem yzY{o:Op}{W:List Nat}{k:SV->Option β}{r:β}{dst:Option Tmp}{ty:TypeId}{pos:String}{aft:Array Edge}{g:Option (Nat×Bool)}(hτ:TEok P τ)(R:Rel n B S E L σ m w)(h:fopS τ W σ o k=some r):
  Ok1 P S E (evO n m) ⟨dst,o,ty,pos,aft,g⟩ k r (fun w=>HS B S w (zjT W 0 L)):=by
 unfold fopS at h;cases hm:mvOp0 o with
 |true=>rw[hm]at h;simp only[zE]at h;exact xeR hτ (fun x a hx=>zbO R hx) h|false=>rw[hm]at h;simp only[zF]at h;obtain⟨z,u,h1,h2,h3⟩:=yhQ (dst:=dst) (ty:=ty) (pos:=pos) (aft:=aft) (g:=g) hτ (R.kill W) h;obtain⟨hok,h1⟩:=zaH h1;exact⟨z,u,h1,VR_okF hok h2,h3⟩
def LateD(S:Mem)(E:List EI):AO->Value->Nat->Obj->Prop
 |.blk T cs,v,k,x=>v = .pointer (some ⟨k,0,none⟩)/\∃us:LV,x = .cells us.toArray T (0,0)/\A2 (VC S E) cs us|.osl ver e T xs,v,k,x=>ver=0/\v=sl k 0 xs.length xs.length/\∃cs:LV,x = .cells cs.toArray T (0,0)/\cs.length=xs.length*tsz e/\RL S cs xs|_,_,_,_=>False
theorem LateD.mono{S':Mem}{E':List EI}(hS:Mem.le S S')(hE:ELe E E'){o:AO}{v:Value}{k:Nat}{x:Obj}(h:LateD S E o v k x):LateD S' E' o v k x:=by
 cases o with
 |blk T cs=>obtain⟨h1,us,h2,h3⟩:=h;exact⟨h1,us,h2,h3.imp fun _ _=>VC.mono hS hE⟩
 |osl ver e T xs=>obtain⟨h0,h1,cs,h2,h3,h4⟩:=h;exact⟨h0,h1,cs,h2,h3,h4.mono hS⟩
 |_=>exact h.elim
theorem LateD.adopt(R:Rel n B S E L σ m w){o:AO}{v:Value}{k:Nat}{x:Obj}(h:LateD S E o v k x)(h1:k∉zbR L)(h2:S k=none)(h3:B.w0.heap.size<=k):∃r e,(∀b,r.has b->k=b)/\(∀w',w'.heap[k]? = some x->r.holds w') /\(∀w',HS B S w' L->w'.heap[k]? = some x->Rel n B S (E++[e]) (L++[r]) ⟨σ.sl,σ.hp++[o]⟩ m w')/\VR S (E++[e]) (aoV σ.hp.length o) v:=by
 cases o with
 |blk T cs=>
  obtain⟨rfl,us,rfl,hu⟩:=h;refine⟨.blk k us T,.blk k,fun b hb=>(by cases hb;rfl),fun w' hw=>hw,fun w' H hw=>?_,?_⟩
  ·exact(R.to H).snoc (HS.cons H hw fun b hb=>by cases hb;exact⟨h3,h2,h1⟩) ⟨k,us,rfl,rfl,hu.imp fun _ _=>VC.mono (Mem.le_refl _) (ELe.push E _)⟩
  ·exact⟨k,rfl,.blk k,(by rw[<-R.lE];simp:(E++[EI.blk k])[σ.hp.length]? = some (EI.blk k)),fun b' hb=>by cases hb;rfl⟩
 |osl ver e T xs=>
  obtain⟨rfl,rfl,cs,rfl,hl,hr⟩:=h;have hold:∀w',w'.heap[k]? = some (Obj.cells cs.toArray T (0,0))->(Res.osl (sl k 0 xs.length xs.length) xs.length (tsz e) cs [] T).holds w':=fun w' hw=>.inr ⟨k,xs.length,(0,0),rfl,aJ _,hl,by rw[cC];exact Nat.le_of_eq hl.symm,by rw[cC];exact hw,.inl rfl⟩;refine⟨.osl (sl k 0 xs.length xs.length) xs.length (tsz e) cs [] T,.osl 0 (sl k 0 xs.length xs.length) (tsz e),fun b hb=>(by cases hb;rfl),hold,fun w' H hw=>?_,?_⟩
  ·exact(R.to H).snoc (e:=.osl 0 (sl k 0 xs.length xs.length) (tsz e)) (o:=.osl 0 e T xs) (HS.cons H (hold w' hw) fun b hb=>by cases hb;exact⟨h3,h2,h1⟩) ⟨_,_,cs,[],rfl,rfl,hr,.inl rfl⟩
  ·exact⟨rfl,.osl 0 (sl k 0 xs.length xs.length) (tsz e),(by rw[<-R.lE];simp:(E++[EI.osl 0 (sl k 0 xs.length xs.length) (tsz e)])[σ.hp.length]? = some (EI.osl 0 (sl k 0 xs.length xs.length) (tsz e))),fun r' v' s' hq=>by cases hq;exact⟨aJ _,fun _=>rfl⟩⟩
 |_=>exact h.elim
theorem ywN{o:Op}{ao:AO}{dst:Option Tmp}{ty:TypeId}{pos:String}{aft:Array Edge}{g:Option (Nat×Bool)}(hτ:TEok P τ)(R:Rel n B S E L σ m w)(h:xbA τ σ o=some ao)(w1:World):∃v k x w',(execOp (evO n m) ⟨dst,o,ty,pos,aft,g⟩).run P w1 = .ok (.value v) w'/\Ext w1 w'/\w1.heap.size<=k/\w'.heap[k]? = some x/\LateD S E ao v k x:=by
 unfold xbA at h;split at h
 ·rename_i T;split at h
  ·rename_i f hT;obtain⟨hb,h⟩:=zaH h;cases h;have hF:=hτ _ _ hT;have hcs:(zV f).cells.toList=f.z.map zc:=by
    rw[hF.cells (by
     cases ha:f.agg with
     |true=>exact .inl rfl|false=>rw[ha]at hb;exact .inr (aB hb))]
   refine⟨_,w1.heap.size,_,w1.alloc (.cells (f.z.map zc).toArray T),by simp[execOp,zpX hF.zero,<-hcs],Ext.alloc w1 _,aJ _,zaP w1 _,rfl,_,rfl,zuE hF.z⟩
  ·cases h
 ·rename_i T N ps;split at h
  ·rename_i E' z1 z2 z3 z4 hT;split at h
   ·rename_i f hf;obtain⟨hb,h⟩:=zaH h;split at h
    ·rename_i ys hys;cases h;obtain⟨ps⟩:=ps;have hb:=zaU hb;have hN:=aB (zbA (zaU hb));have hN:N=ps.length:=hN;subst hN;have hz:=aB (zbA (zaU (zaU hb)));have hTn:=zqP ((hτ _ _ hT).sl rfl) (hτ _ _ hf) (zaU (zaU (zaU hb))) hz;have hE:=hτ _ _ hf;obtain⟨us,h1,h2,h3⟩:=ynL R hz (pre:=[]) (i:=0) (zl:=f.z.map zc) (N:=ps.length) hys (by simp) (by rw[bP,hE.zl]) (by simp);simp only[List.nil_append]at h1;rw[hz]at h1;have hle:=aQ (zbA hb);have hrun:=zwH (P:=P) (w:=w1) (dst:=dst) (ty:=ty) (pos:=pos) (aft:=aft) (g:=g) hTn rfl h1 (by rw[eL,<-hz];omega);refine⟨_,w1.heap.size,_,_,hrun,Ext.alloc w1 _,aJ _,zaP w1 _,rfl,by rw[h3],us,rfl,?_,h2⟩;rw[h2.len];congr 1;exact zgJ f.ty
    ·cases h
   ·cases h
  ·cases h
 ·cases h
section
variable {k:SV->St->Option β}{r:β}{dst:Option Tmp}{ty:TypeId}{pos:String}{aft:Array Edge}{g:Option (Nat×Bool)}
theorem ysF{W:List Nat}{i:Nat}:∀{l:List Nat},allN W l=true->hasN W i=false->hasN l i=false
 |[],_,_=>rfl|x::l,h,hi=>by
  unfold allN at h;unfold hasN;rw[ysF (zbA h) hi];cases hb:aH x i with
  |false=>rfl|true=>rw[aB hb,hi]at h;cases h
theorem pcK_ok{x:Operand}{ash:List Operand}{at_:Array TypeId}{I:List Nat}(hΓ:CTok P Γ B)(R:Rel n B S E L σ m w)(h:pcK Γ I σ x ash k=some (some r)):
  outcome P (Post2F n B S E L I m k r) ((execOp (evO n m) ⟨dst,.call ⟨.value x,ash.toArray,at_⟩,ty,pos,aft,g⟩).run P w):=by
 unfold pcK at h;split at h
 ·rename_i f xs hx;split at h
  ·rename_i c hc;have hc':=hΓ.pc _ _ hc;obtain⟨_,_,us0,hev0,hus0,hA0⟩:=zkO R hx;cases hs:c.rts.any zrK with
   |true=>
    rw[hs]at h;simp only[zE]at h;obtain⟨hI,h⟩:=zaH h;obtain⟨S1,E1,L1,h1,h2,R1,hF⟩:=zvJ (xs.flatMap owns) R;split at h
    ·rename_i f' xs' hx';split at h
     ·rename_i a ha;have h:=osi h;obtain⟨y,hy,h⟩:=bnd h;obtain⟨first,cap,us,hev,hus,hA⟩:=zkO R1 hx';have hA2:=zvC (Mem.le_refl S1) zeL ha hA;refine zeQ hc'.fn hev0 (by simpa using hus0) ?_;have:us=us0:=by rw[hev0]at hev;cases hev;rw[<-hus0,<-hus]
      subst this;exact(hc'.ok S1 w us a y ⟨S1,L1,Mem.le_refl _,R1.hs⟩ R1.hs.sub hA2 hy).mono fun e w' ⟨hx,v,he,hr⟩=>⟨v,he,_,_,gr S1 w w',E1,L1,h,Mem.le_trans h1 (ycX R1.hs.sub),h2,R1.call hx,zuW hr.1 hr.2,fun i hi _=>hF i (ysF hI hi)⟩
     ·cases h
    ·cases h
   |false=>
    rw[hs]at h;simp only[zF]at h;split at h
    ·rename_i a ha;have h:=osi h;obtain⟨y,hy,h⟩:=bnd h;refine zeQ hc'.fn hev0 (by simpa using hus0) ?_;have hA2:=zvC (leOn S w) R.own_ok ha hA0;exact(hc'.ok (zrR S w) w us0 a y ⟨S,L,leOn S w,R.hs⟩ (zvP R.hs.sub) hA2 hy).mono fun e w' ⟨hx,v,he,hr⟩=>⟨v,he,_,_,gr S w w',E,L,h,ycX R.hs.sub,ELe.refl E,R.call hx,zuW (yeG hs hr.1) hr.2,fun _ _ _=>rfl⟩
    ·cases h
  ·cases h
 ·cases h
theorem yvS{o:Op}{T:TypeId}{I:List Nat}(hτ:TEok P τ)(R:Rel n B S E L σ m w)(ho:ytS I σ o=true)(h:op2 τ Γ σ o T k=some r):
  outcome P (Post2F n B S E L I m k r) ((execOp (evO n m) ⟨dst,o,ty,pos,aft,g⟩).run P w):=by
 unfold ytS at ho;split at ho
 ·rename_i T';simp only[op2]at h;split at h
  ·rename_i f hT;obtain⟨hb,h⟩:=zaH h;have hF:=hτ _ _ hT;have hcs:(zV f).cells.toList=f.z.map zc:=by
    rw[hF.cells (by
     cases ha:f.agg with
     |true=>exact .inl rfl|false=>rw[ha]at hb;exact .inr (aB hb))]
   obtain⟨w',b,h1,h2⟩:=zhJ (dst:=dst) (ty:=ty) (pos:=pos) (aft:=aft) (g:=g) (e:=evO n m) R.hs hF.zero hcs;rw[h1];exact(ygC R h2 (zuE hF.z) h).sub fun _ _ _=>rfl
  ·cases h
 ·rename_i T' N ps;simp only[op2,op2b]at h;split at h
  ·rename_i E' z1 z2 z3 z4 hT;split at h
   ·rename_i f hf;obtain⟨hb,hq⟩:=zaH h;clear h;have h:=hq;clear hq;split at h
    ·rename_i ys hys;obtain⟨ps⟩:=ps;obtain⟨S1,E1,L1,hS1,hE1,R1,hL1⟩:=zvJ (zjX σ (ps.map (·.2))) R;refine zdJ (ycP (dst:=dst) (g:=g) (ty:=ty) (pos:=pos) (aft:=aft) R1 ((hτ _ _ hT).sl rfl) (hτ _ _ hf) (zaU (zaU (zaU hb))) (aB (zbA (zaU (zaU hb)))) (aB (zbA (zaU hb))) (aQ (zbA hb)) hys h) fun _ _ hp=>?_;obtain⟨x,σ',S',E',L',k1,k2,k3,k4,k5,k6⟩:=hp;exact⟨x,σ',S',E',L',k1,Mem.le_trans hS1 k2,hE1.trans k3,k4,k5,fun i hi hlt=>(k6 i rfl (by rw[R1.lL,zuY,<-R.lL];exact hlt)).trans (hL1 i (ybG hi ho))⟩
    ·cases h
   ·cases h
  ·cases h
 ·rename_i x y T1 T2;simp only[op2]at h;exact zdJ (ydK (Γ:=Γ) hτ R h) fun _ _ hp=>hp.sub fun i hi _=>ybG hi ho
 ·cases ho
theorem ELe.len{E E':List EI}(h:ELe E E'){b:Nat}(hb:b<=E.length):b<=E'.length:=by
 cases b with
 |zero=>exact bX _|succ b=>obtain⟨a,h1,_⟩:=h b _ (aG hb);exact(aC.1 h1).1
theorem yoV:∀{l:List Nat} {j:Nat},j∈l->hasN l j=true
 |x::l,j,h=>by
  unfold hasN;rcases aV.1 h with rfl|h
  ·rw[dM];rfl
  ·rw[yoV h,Bool.or_true]
theorem yoO{W:List Nat}{b j:Nat}(hj:hasN W j=false)(hb:j<b):∀{l:List Nat},ndOk W b l=true->hasN l j=false
 |[],_=>rfl|x::l,h=>by
  unfold ndOk at h;unfold hasN;rw[yoO hj hb (zbA h),Bool.or_false];cases hx:aH x j with
  |false=>rfl|true=>have h:=zaU h;rw[aB hx,hj,Bool.false_or]at h;have:=aQ h;omega
theorem yeV{x:Operand}{ash:Array Operand}{as_:Array TypeId}{T:TypeId}(hτ:TEok P τ)(hΓ:CTok P Γ B):∀{ts I:List Nat} {σ:St} {S:Mem} {E:List EI} {L:List Res} {k:SV->St->Option β},Rel n B S E L σ m w->yeC τ Γ x ash as_ T ts I σ k=some r ->
  outcome P (Post2F n B S E L I m k r) ((execOp (evO n m) ⟨dst,.call ⟨.value x,ash,as_⟩,T,pos,aft,g⟩).run P w)
 |[],I,σ,S,E,L,k,R,h=>by
  simp only[yeC,xeF]at h;split at h
  ·rename_i r' hr;obtain⟨ash⟩:=ash;exact pcK_ok hΓ R (by rw[hr,h])
  ·exact yjV hτ hΓ R h
 |t::ts,I,σ,S,E,L,k,R,h=>by
  unfold yeC at h;split at h
  ·rename_i id i off hs;obtain⟨hid,hq⟩:=zaH h;clear h;obtain⟨σ1,E1,L1,id',i',hs',hk,hE,R1,hV1,hV2,hF⟩:=yxM R hq;rw[hs]at hs';cases hs';refine zdJ (yeV hτ hΓ R1 hk) ?_;rintro v w' ⟨x,σ2,S2,E2,L2,h1,h2,h3,R2,h4,h5⟩;obtain⟨hnd,h1'⟩:=zaH h1;obtain⟨σ3,S3,E3,L3,k1,k2,k3,k4,k5⟩:=yyT R2 (hV1.mono h2 h3) (hV2.mono h2 h3) h1';have hlen:σ.hp.length<=L1.length:=by rw[R1.lL,<-R1.lE,<-R.lE];exact ELe.len hE (aJ _)
   refine⟨x,σ3,S3,E3,L3,k1,Mem.le_trans h2 k2,hE.trans (h3.trans k3),k4,h4.mono k2 k3,fun j hj hl=>?_⟩;have hji:j≠id:=fun e=>by rw[e,hid]at hj;cases hj
   have hjb:j<σ.hp.length:=by rw[<-R.lL];exact hl
   rw[k5 j hji hjb (yoO hj hjb hnd),h5 j (ygR fun hm=>?_) (by omega),hF j hji hl];rcases cG.1 hm with hm|hm
   ·obtain⟨kk,_,e⟩:=zvV hm;omega
   ·rw[yoV hm]at hj;cases hj
  ·cases h
theorem yzK{o:Op}{T:TypeId}{I:List Nat}(hτ:TEok P τ)(hΓ:CTok P Γ B)(R:Rel n B S E L σ m w)(h:op2K τ Γ I σ o T k=some r):
  outcome P (Post2F n B S E L I m k r) ((execOp (evO n m) ⟨dst,o,T,pos,aft,g⟩).run P w):=by
 unfold op2K at h;cases hu:yqU σ.hp.length (hasN I) with
 |true=>rw[hu]at h;refine zdJ (yyX (T:=T) hτ hΓ R h) fun v w' ⟨x,σ',S',E',L',h1,h2,h3,h4,h5⟩=>⟨x,σ',S',E',L',h1,h2,h3,h4,h5,fun i hi hl=>?_⟩;rw[yiT hu i (by rw[<-R.lL];exact hl)]at hi;cases hi
 |false=>
 rw[hu]at h;cases ho:ytS I σ o with
 |true=>rw[ho]at h;exact yvS (T:=T) hτ R ho h|false=>
  rw[ho]at h;simp only[zF]at h;split at h
  ·exact yeV hτ hΓ R h
  ·exact yjV hτ hΓ R h
end
theorem yeB{r:β}{all:List Oper}{o:Oper}{doIt skip:St->Option β}(R:Rel n B S E L σ m w)(h:yiR all σ o.guard doIt skip=some r):(∃σ',Rel n B S E L σ' m w/\Region.wanted o (yielded all.toArray (fr n m).tmps)=true/\doIt σ'=some r)∨(∃σ',Rel n B S E L σ' m w/\Region.wanted o (yielded all.toArray (fr n m).tmps)=false/\skip σ'=some r):=by
 unfold yiR at h;split at h
 ·rename_i hg;exact .inl ⟨σ,R,znT hg,h⟩
 ·rename_i j b hg;split at h
  ·rename_i d hd;split at h
   ·rename_i t ht;have hv:evO n m (.tmp d) = .bool t:=vB (by have:=R.sl d;rw[ht]at this;exact this);have hw:=zwU (o:=o) hg (yiL (m:=m) (n:=n) hd hv);have Rt:∀q:Bool,t=q->Rel n B S E L (σ.put d (.v .b q)) m w:=fun q hq=>R.re (by rw[hv,hq];exact bV q);cases t with
    |true=>
     cases b with
     |true=>exact .inl ⟨_,Rt true rfl,hw,h⟩|false=>exact .inr ⟨_,Rt true rfl,hw,h⟩
    |false=>
     cases b with
     |true=>exact .inr ⟨_,Rt false rfl,hw,h⟩|false=>exact .inl ⟨_,Rt false rfl,hw,h⟩
   ·rename_i ht;have hv:evO n m (.tmp d)=undef:=by have:=R.sl d;rw[ht]at this;exact this
    exact .inr ⟨_,R,ydR hg (yhT (m:=m) (n:=n) hd hv),h⟩
   ·cases h
  ·cases h
theorem HS.shrink{S':Mem}{w1 w':World}{L1 A:List Res}(H:HS B S w1 L1)(hS:Mem.le S S')(H':HS B S' w' A):HS B S w' A:=by
 refine⟨H'.fr,fun b o hb=>H'.sub b o (hS b o hb),H.keep,H'.own,fun k r b hk hb=>⟨(H'.old k r b hk hb).1,?_⟩,H'.inj⟩;cases h:S b with
 |none=>rfl|some o=>have:=hS b o h;rw[(H'.old k r b hk hb).2]at this;cases this
theorem HS.toJ{L0:List Res}{W:List Nat}(hfr:∀i,hasN W i=false->i<L0.length->lkR L i=lkR L0 i)(H:HS B S w L):HS B S w (zjT W 0 L0):=
 HS.part H fun i r hi=>by
  rw[zbC,zfU,aP]at hi;cases hl:L0[i]? with
  |none=>rw[hl]at hi;cases hi
  |some r'=>
   rw[hl]at hi;simp only[bB,Option.some.injEq]at hi;cases hh:hasN W i with
   |true=>rw[hh]at hi;exact .inl hi.symm|false=>rw[hh]at hi;right;rw[hfr i hh (aC.1 hl).1,zbC,hl,<-hi];rfl
def PnI(B:Bas)(S:Mem)(L:List Res)(Jp:Nat->World->Prop)(p:Nat×List Nat):Prop:=
 ∃S1 L1 w1,HS B S1 w1 L1/\Mem.le S1 S/\L1.length<=L.length/\(∀i,hasN p.2 i=false->i<L1.length->lkR L i=lkR L1 i)/\Jp p.1=fun w=>HS B S1 w (zjT p.2 0 L1)
theorem PnI.j{Jp:Nat->World->Prop}{p:Nat×List Nat}(h:PnI B S L Jp p){u:World}(hu:HS B S u L):Jp p.1 u:=by obtain⟨S1,L1,w1,h1,h2,h3,h4,h5⟩:=h;rw[h5];exact HS.shrink h1 h2 (HS.toJ h4 hu)
theorem PnI.next{Jp:Nat->World->Prop}{p:Nat×List Nat}{S':Mem}{L':List Res}(h:PnI B S L Jp p)(hS:Mem.le S S')(hl:L.length<=L'.length)(hf:∀i,hasN p.2 i=false->i<L.length->lkR L' i=lkR L i):PnI B S' L' Jp p:=by obtain⟨S1,L1,w1,h1,h2,h3,h4,h5⟩:=h;exact⟨S1,L1,w1,h1,Mem.le_trans h2 hS,Nat.le_trans h3 hl,fun i hi hlt=>by rw[hf i hi (by omega),h4 i hi hlt],h5⟩
theorem yiG{i:Nat}:∀{pn:List (Nat×List Nat)},ytB i pn=true->∀p∈pn,p.1≠i
 |[],_,p,hp=>by cases hp
 |q::l,h,p,hp=>by
  unfold ytB at h;rcases aV.1 hp with rfl|hp
  ·intro e;have:=zaU h;rw[e,dM]at this;cases this
  ·exact yiG (zbA h) p hp
theorem yqW{ops:Array Oper}{i:Nat}{W:List Nat}:∀{pn:List (Nat×List Nat)},pnOk ops i W pn=true->∀p∈pn,ancB ops i p.1=false->allN p.2 W=true
 |[],_,p,hp,_=>by cases hp
 |q::l,h,p,hp,ha=>by
  unfold pnOk at h;rcases aV.1 hp with rfl|hp
  ·have:=zaU h;rw[ha]at this;exact this
  ·exact yqW (zbA h) p hp ha
theorem zyX{ops:Array Oper}{i:Nat}:∀(pn:List (Nat×List Nat)),ygP ops i (pn.map (·.1))=(zuD ops i pn).map (·.1)
 |[]=>rfl|q::l=>by have ih:=zyX (ops:=ops) (i:=i) l;unfold ygP zuD at ih ⊢;simp only[bS,List.filter_cons];cases ancB ops i q.1<;>simp[ih]
theorem ywD{W V:List Nat}{i:Nat}(h:allN V W=true)(hi:hasN V i=false):hasN W i=false:=ybG hi h
theorem HS.kp{w1:World}(H:HS B S w1 L):∀k,(k∈zbR L∨S k≠none∨k<B.w0.heap.size)->k<w1.heap.size:=fun k h=>by
 rcases h with h|h|h
 ·obtain⟨i,r,h1,h2⟩:=zcQ.1 h;exact H.res_lt h1 h2
 ·exact Nat.lt_of_not_le fun hle=>h (H.sub.none hle)
 ·exact Nat.lt_of_lt_of_le h H.fr.size
theorem ypD{Jp:Nat->World->Prop}{i:Nat}{J:World->Prop}:updJ Jp i J i=J:=by unfold updJ;rw[zH rfl]
theorem xaS{Jp:Nat->World->Prop}{i j:Nat}{J:World->Prop}(h:j≠i):updJ Jp i J j=Jp j:=by unfold updJ;rw[zG h]
theorem PnI.upd{Jp:Nat->World->Prop}{p:Nat×List Nat}{i:Nat}{J:World->Prop}(h:PnI B S L Jp p)(hi:p.1≠i):PnI B S L (updJ Jp i J) p:=by obtain⟨S1,L1,w1,h1,h2,h3,h4,h5⟩:=h;exact⟨S1,L1,w1,h1,h2,h3,h4,by rw[xaS hi];exact h5⟩
theorem zqX{all:List Oper}{S0:Mem}{E0:List EI}{m0:FM}{D:List Nat}{k:St->Option β}{r:β}{Q:Exit->Act->World->Prop}(hτ:TEok P τ)(hΓ:CTok P Γ B/\jnOf Γ=false)(hD:∀t,hasN (znL all) t=true->hasN D t=true) (hQ:∀σ' S' E' L' m' w',k σ'=some r->Mem.le S0 S'->ELe E0 E'->Agr D m0 m'->Rel n B S' E' L' σ' m' w'->Q .normal (fr n m') w'):∀(s:SchW) (pd:List (Nat×AO)) (pn:List (Nat×List Nat)) {σ:St} {S:Mem} {E:List EI} {L:List Res} {m:FM} {w:World} {Dsc:Nat->Value->Nat->Obj->Prop} {Jp:Nat->World->Prop},Mem.le S0 S->ELe E0 E->Agr D m0 m->(∀p∈pn,PnI B S L Jp p)->Rel n B S E L σ m w->(∀i ao,lkP pd i=some ao->∃S1 E1,Mem.le S1 S/\ELe E1 E/\Dsc i=LateD S1 E1 ao)->schS n τ Γ all.toArray all s pd pn σ k=some r ->
  wpS P all.toArray Q (ymQ s) Dsc Jp (pn.map (·.1)) (fun w=>HS B S w L) (fun b=>b∈zbR L∨S b≠none∨b<B.w0.heap.size) (fr n m)
 |[],pd,pn,σ,S,E,L,m,w,Dsc,Jp,hS,hE,hA,hpn,R,hp,h=>fun w1 hw=>hQ _ _ _ _ _ _ h hS hE hA (R.to hw)
 |(.pu,i,W)::s,pd,pn,σ,S,E,L,m,w,Dsc,Jp,hS,hE,hA,hpn,R,hp,h=>by
  simp only[schS]at h;split at h
  ·rename_i o ho;obtain⟨hnew,h⟩:=zaH h;have hoi:all.toArray[i]? = some o:=by rw[dV,<-zcS];exact ho
   have hdd:∀t,o.dst=some t->hasN D t=true:=fun t ht=>hD t (zrJ.2 ⟨o,bH (by rw[<-zcS];exact ho),ht⟩)
   have hpn':∀p∈(i,W)::pn,PnI B S L (updJ Jp i fun w=>HS B S w (zjT W 0 L)) p:=fun p hp=>by
    rcases aV.1 hp with rfl|hp
    ·exact⟨S,L,w,R.hs,Mem.le_refl _,aJ _,fun _ _ _=>rfl,ypD⟩
    ·exact(hpn p hp).upd (yiG hnew p hp)
   have hG:∀u,HS B S u L->HS B S u (zjT W 0 L):=fun u hu=>HS.toJ (fun _ _ _=>rfl) hu;rcases yeB R h with⟨σ',R',hw,h⟩|⟨σ',R',hw,h⟩
   ·obtain⟨dst,op,ty,pos,aft,g⟩:=o;obtain⟨z,u,h1,h2,h3⟩:=yzY (dst:=dst) (ty:=ty) (pos:=pos) (aft:=aft) (g:=g) hτ R' h;obtain⟨σ2,m2,h5,R2,h6,h7⟩:=zrB R' h2 h1;refine⟨_,u,fun w=>HS B S w (zjT W 0 L),hoi,.inl ⟨hw,fun w1 hw1=>by rw[zeB];exact h3 w1 hw1⟩,hG,?_⟩;show wpS P all.toArray Q (ymQ s) Dsc _ _ _ _ ((fr n m).put dst u);rw[h6];exact zqX hτ hΓ hD hQ s pd ((i,W)::pn) hS hE (hA.trans (h7 D hdd)) hpn' R2 hp h5
   ·obtain⟨σ2,m2,h5,R2,h6,h7⟩:=zrB R' (v:=undef) (x:=.skp) rfl h;refine⟨o,undef,fun w=>HS B S w (zjT W 0 L),hoi,.inr ⟨hw,rfl⟩,hG,?_⟩;rw[h6];exact zqX hτ hΓ hD hQ s pd ((i,W)::pn) hS hE (hA.trans (h7 D hdd)) hpn' R2 hp h5
  ·cases h
 |(.la,i,W)::s,pd,pn,σ,S,E,L,m,w,Dsc,Jp,hS,hE,hA,hpn,R,hp,h=>by
  simp only[schS]at h;split at h
  ·rename_i o ho;have hoi:all.toArray[i]? = some o:=by rw[dV,<-zcS];exact ho
   split at h
   ·rename_i ao hg hl;refine⟨o,LateD S E ao,hoi,znT hg,fun w1=>?_,?_⟩
    ·obtain⟨dst,op,ty,pos,aft,g⟩:=o;rw[zeB];exact ywN hτ R hl w1
    ·refine zqX hτ hΓ hD hQ s ((i,ao)::pd) pn hS hE hA hpn R (fun j bo hj=>?_) h;unfold lkP at hj;unfold updD;cases hij:aH i j with
     |true=>rw[hij]at hj;cases hj;rw[zH (aB hij).symm];exact⟨S,E,Mem.le_refl _,ELe.refl _,rfl⟩
     |false=>rw[hij]at hj;rw[zG fun e=>by rw[e,dM]at hij;cases hij];exact hp j bo hj
   ·cases h
  ·cases h
 |(.rv,i,W)::s,pd,pn,σ,S,E,L,m,w,Dsc,Jp,hS,hE,hA,hpn,R,hp,h=>by
  simp only[schS]at h;split at h
  ·rename_i o ao ho hpi;have hoi:all.toArray[i]? = some o:=by rw[dV,<-zcS];exact ho
   have hdd:∀t,o.dst=some t->hasN D t=true:=fun t ht=>hD t (zrJ.2 ⟨o,bH (by rw[<-zcS];exact ho),ht⟩);obtain⟨S1,E1,g1,g2,g3⟩:=hp i ao hpi;refine⟨o,hoi,fun v kk x hD1 hK ⟨w2,hw2,hx2⟩=>?_⟩;rw[g3]at hD1;have hD1:=hD1.mono g1 g2;have hk1:kk∉zbR L:=fun h=>hK (.inl h);have hk2:S kk=none:=Classical.byContradiction fun h=>hK (.inr (.inl h));have hk3:B.w0.heap.size<=kk:=fJ fun h=>hK (.inr (.inr h));obtain⟨q,e,a1,a2,a3,a4⟩:=hD1.adopt R hk1 hk2 hk3;have R2:=a3 w2 hw2 hx2;obtain⟨σ3,m3,h5,R3,h6,h7⟩:=zrB R2 a4 h;have hpn':∀p∈pn,PnI B S (L++[q]) Jp p:=fun p hp=>(hpn p hp).next (Mem.le_refl _) (by rw[aF];omega) fun j _ hj=>zvF hj;refine⟨fun w=>HS B S w (L++[q]),fun b=>b∈zbR (L++[q])∨S b≠none∨b<B.w0.heap.size,fun w1 h1 h2=>(a3 w1 h1 h2).hs,fun j hj w1 h1=>?_,fun u u' h1 h2=>h1.ext h2,fun u h1=>HS.kp h1,fun b h1=>?_,?_⟩
   ·obtain⟨p,hp1,rfl⟩:=dS.1 hj;exact(hpn' p hp1).j h1
   ·rcases h1 with h1|h1
    ·obtain⟨t,q',t1,t2⟩:=zcQ.1 h1;rw[zbC]at t1;by_cases ht:t<L.length
     ·rw[aE ht]at t1;exact .inl (.inl (zcQ.2 ⟨t,q',by rw[zbC];exact t1,t2⟩))
     ·have:t=L.length:=by have:=(aC.1 t1).1;simp at this;omega
      subst this;simp at t1;subst t1;exact .inr (a1 _ t2).symm
    ·exact .inl (.inr h1)
   ·rw[h6]
    exact zqX hτ hΓ hD hQ s pd pn hS (hE.trans (ELe.push E _)) (hA.trans (h7 D hdd)) hpn' R3 (fun j bo hj=>by
     obtain⟨S2,E2,t1,t2,t3⟩:=hp j bo hj
     exact⟨S2,E2,t1,t2.trans (ELe.push E _),t3⟩) h5
  ·cases h
 |(.mn,i,W)::s,pd,pn,σ,S,E,L,m,w,Dsc,Jp,hS,hE,hA,hpn,R,hp,h=>by
  simp only[schS]at h;split at h
  ·rename_i o ho;obtain⟨hok,h⟩:=zaH h;have hoi:all.toArray[i]? = some o:=by rw[dV,<-zcS];exact ho
   have hdd:∀t,o.dst=some t->hasN D t=true:=fun t ht=>hD t (zrJ.2 ⟨o,bH (by rw[<-zcS];exact ho),ht⟩);have hrest:∀p∈zuD all.toArray i pn,p∈pn/\ancB all.toArray i p.1=false:=fun p hp=>by have:=List.mem_filter.1 hp;exact⟨this.1,by simpa using this.2⟩
   refine⟨o,hoi,fun w1 hw1=>?_⟩;rw[zyX];rcases yeB (R.to hw1) h with⟨σ',R',hw,h⟩|⟨σ',R',hw,h⟩
   ·left;refine⟨hw,?_⟩;obtain⟨dst,op,ty,pos,aft,g⟩:=o;rw[zeB];have RL:Rel n ⟨S,zbR L,w1⟩ S E L σ' m w1:=⟨HS.lend hw1,R'.lL,R'.lE,R'.obj,R'.sl⟩;refine zdJ (yzK hτ (CTok.lend hΓ.2 hΓ.1 hw1) RL h) ?_;rintro v w' ⟨x,σ2,S',E',L',h1,h2,h3,R2,h4,h5⟩;have Hh:=HS.home hw1 R2.hs;have RB:Rel n B S' E' L' σ2 m w':=⟨Hh,R2.lL,R2.lE,R2.obj,R2.sl⟩;obtain⟨σ3,m3,h6,R3,h7,h8⟩:=zrB RB h4 h1;have hlen:L.length<=L'.length:=by rw[R2.lL,<-R2.lE,R.lL,<-R.lE];exact ELe.len h3 (aJ _)
    have hpn':∀p∈zuD all.toArray i pn,PnI B S' L' Jp p:=fun p hp=>by obtain⟨t1,t2⟩:=hrest p hp;exact(hpn p t1).next h2 hlen fun j hj hlt=>h5 j (ywD (yqW hok p t1 t2) hj) hlt
    refine⟨fun u=>HS B S' u L',fun b=>b∈zbR L'∨S' b≠none∨b<B.w0.heap.size,fun j hj u hu=>?_,fun u u' t1 t2=>t1.ext t2,fun u t1=>HS.kp t1,Hh,fun b t1=>?_,fun b t1 t2=>R2.hs.fr.block b t1 fun t3=>t2 (.inl t3),?_⟩
    ·obtain⟨p,hp1,rfl⟩:=dS.1 hj;exact(hpn' p hp1).j hu
    ·rcases t1 with t1|t1|t1
     ·obtain⟨t,q',t2,t3⟩:=zcQ.1 t1;rcases(R2.hs.old t q' b t2 t3).1 with t4|t4
      ·exact .inr t4
      ·exact .inl (.inl t4)
     ·by_cases hlt:b<w1.heap.size
      ·by_cases hX:b∈zbR L
       ·exact .inl (.inl hX)
       ·have:=R2.hs.keep b hlt hX;rw[this]at t1;exact .inl (.inr (.inl t1))
      ·exact .inr (fJ hlt)
     ·exact .inl (.inr (.inr t1))
    ·show wpS P all.toArray Q (ymQ s) Dsc _ _ _ _ ((fr n m).put dst v);rw[h7]
     exact zqX hτ hΓ hD hQ s pd (zuD all.toArray i pn) (Mem.le_trans hS h2) (hE.trans h3) (hA.trans (h8 D hdd)) hpn' R3 (fun j bo hj=>by
      obtain⟨S2,E2,t1,t2,t3⟩:=hp j bo hj
      exact⟨S2,E2,Mem.le_trans t1 h2,t2.trans h3,t3⟩) h6
   ·right;refine⟨hw,?_⟩;obtain⟨σ2,m2,h5,R2,h6,h7⟩:=zrB R' (v:=undef) (x:=.skp) rfl h;rw[h6];exact zqX hτ hΓ hD hQ s pd (zuD all.toArray i pn) hS hE (hA.trans (h7 D hdd)) (fun p hp=>hpn p (hrest p hp).1) R2 hp h5
  ·cases h
theorem yqK{l:List Oper}{k:St->Option β}{r:β}{Q:Exit->Act->World->Prop}{s:SchW}(hτ:TEok P τ)(hΓ:CTok P Γ B)(R:Rel n B S E L σ m w)(h:ypL n τ Γ s l.toArray σ k=some r) (hQ:∀σ' S' E' L' m' w',k σ'=some r->Mem.le S S'->ELe E E'->Agr (znL l) m m'->Rel n B S' E' L' σ' m' w'->Q .normal (fr n m') w'):RegAny P l Q (fr n m) w:=by unfold ypL at h;obtain⟨hb,h⟩:=zaH h;have hw:=zqX (Q:=OnlyNormal Q) (S0:=S) (E0:=E) (m0:=m) (D:=znL l) (Dsc:=fun _ _ _ _=>False) (Jp:=fun _ _=>True) hτ ⟨hΓ.unJ,unJ_no Γ⟩ (fun _ h=>h) (fun σ' S' E' L' m' w' k1 k2 k3 k4 R1=>zaQ (hQ σ' S' E' L' m' w' k1 k2 k3 k4 R1)) s [] [] (Mem.le_refl _) (ELe.refl _) (Agr.refl _ _) (fun p hp=>by cases hp) R (fun i ao hi=>by cases hi) h;exact yqM (zaU hb) (zbA hb) hw R.hs.drew (fun u u' h1 h2=>h1.ext h2) (fun u hu=>HS.kp hu)
theorem yoG{id:Nat}{l:List Oper}{w:World}{k:St->Option β}{r:β}{Q:Exit->Act->World->Prop}(hm:P.follows .mixedOrders=true)(hτ:TEok P τ)(hΓ:CTok P Γ B)(R:Rel n B S E L σ m w){η:HT}(h:ypJ n τ Γ η id l.toArray σ k=some r) (hQ:∀σ' S' E' L' m' w',k σ'=some r->Mem.le S S'->ELe E E'->Agr (znL l) m m'->Rel n B S' E' L' σ' m' w'->Q .normal (fr n m') w'):(Code.region id l.toArray true).wp P Q (fr n m) w:=by
 refine RegAny.wp hm ?_;unfold ypJ at h;split at h
 ·exact yqK hτ hΓ R h hQ
 ·cases h
end
end Go.Proofs.YtmbcolbbekbccaaGreat.Am
