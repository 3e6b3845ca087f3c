/- Parts of one proof. Conditions: as each theorem says. -/
import Derived.KernelRfl
import Derived.Test.YtopanhneegpgcaaGreatDoorQkL
open Bool renaming and_eq_true->aH,and_false->gM,false_or->fB,not_eq_true'->bE,not_eq_true->cB,not_true->aW,or_eq_false_iff->cI,or_eq_true->bX,true_and->cP
open Int renaming le_refl->gQ,toNat_natCast->cK
open List renaming all_cons->cC,all_eq_true->bK,contains_iff_mem->bO,filter_sublist->eR,length_append->aD,length_cons->aS,length_nil->bZ,map->cH,map_map->eA,mem_append->bI,mem_cons->aL,mem_cons_of_mem->aN,mem_cons_self->aO,mem_filter->cD,mem_map->bF,not_lt->fE,pairwise_cons->aX,pairwise_map->cT,pairwise_singleton->dL,take_succ_eq_append_getElem->fR
open Nat renaming add_zero->eS,le_trans->aY
open Option renaming bind->aP
namespace Go.Proofs.YtopanhneegpgcaaGreatDoor.Am
open Go Go.RowKit
structure KO {κ:Type} (eq lt:κ->κ->Bool):Prop where
 e:∀{a b},eq a b=true↔a=b
 irr:∀{a},lt a a=false
 tr:∀{a b c},lt a b=true->lt b c=true->lt a c=true
 tri:∀{a b},lt a b=false->a≠b->lt b a=true
section
variable {κ γ δ:Type}{eq lt:κ->κ->Bool}
def Ri(lt:κ->κ->Bool)(es:List (κ×γ)):Prop:=es.Pairwise fun x y=>lt x.1 y.1=true
theorem KO.ne(o:KO eq lt){a b:κ}(h:a≠b):eq a b=false:=by
 cases hb:eq a b with
 |false=>rfl|true=>exact absurd (o.e.1 hb) h
theorem KO.lt_ne(o:KO eq lt){a b:κ}(h:lt a b=true):a≠b:=fun e=>by subst e;rw[o.irr]at h;cases h
theorem KO.get_mem(o:KO eq lt):∀{es:List (κ×γ)},Ri lt es->∀{k v},(k,v)∈es->mget eq es k=some v
 |(k',v')::m,h,k,v,hm=>by
  unfold mget;rcases aL.1 hm with e|hm
  ·cases e;rw[o.e.2 rfl];rfl
  ·have hlt:=(aX.1 h).1 _ hm;rw[o.ne (o.lt_ne hlt)];exact o.get_mem (aX.1 h).2 hm
theorem KO.get_some(o:KO eq lt):∀{es:List (κ×γ)} {k v},mget eq es k=some v->(k,v)∈es
 |(k',v')::m,k,v,h=>by
  unfold mget at h;cases hk:eq k' k with
  |true=>rw[hk]at h;cases h;rw[o.e.1 hk];exact aO
  |false=>rw[hk]at h;exact aN _ (o.get_some h)
theorem KO.get_iff(o:KO eq lt){es:List (κ×γ)}(h:Ri lt es){k v}:mget eq es k=some v↔(k,v)∈es:=⟨o.get_some,o.get_mem h⟩
theorem ziY:∀(es:List (κ×γ)) (k:κ),mhas eq es k=(mget eq es k).isSome
 |[],_=>rfl|(k',v')::m,k=>by
  unfold mhas mget;cases eq k' k with
  |true=>rfl|false=>rw[fB,zF];exact ziY m k
theorem zrM(es:List (κ×γ))(k:κ)(z:γ):zdW eq es k z=(mget eq es k).getD z:=by unfold zdW;cases mget eq es k<;>rfl
theorem KO.has_iff(o:KO eq lt){es:List (κ×γ)}{k}:mhas eq es k=true↔∃v,(k,v)∈es:=by
 rw[ziY,Option.isSome_iff_exists];constructor
 ·exact fun⟨v,h⟩=>⟨v,o.get_some h⟩
 ·rintro⟨v,h⟩;induction es with
  |nil=>cases h
  |cons p m ih=>
   obtain⟨k',v'⟩:=p;unfold mget;cases hk:eq k' k with
   |true=>exact⟨_,rfl⟩|false=>refine ih ((aL.1 h).resolve_left fun e=>?_);cases e;rw[o.e.2 rfl]at hk;cases hk
theorem KO.no_get(o:KO eq lt){es:List (κ×γ)}{k}(h:∀v,(k,v)∉es):mget eq es k=none:=by
 cases hg:mget eq es k with
 |none=>rfl|some v=>exact absurd (o.get_some hg) (h v)
theorem KO.ext(o:KO eq lt):∀{es fs:List (κ×γ)},Ri lt es->Ri lt fs->(∀p,p∈es↔p∈fs)->es=fs
 |[],[],_,_,_=>rfl|[],q::fs,_,_,h=>absurd ((h q).2 aO) (by simp)|p::es,[],_,_,h=>absurd ((h p).1 aO) (by simp)|p::es,q::fs,h1,h2,h=>by
  have c1:=aX.1 h1;have c2:=aX.1 h2;have asym:∀{a b:κ},lt a b=true->lt b a=true->False:=fun h k=>by have:=o.tr h k;rw[o.irr]at this;cases this
  have e:p=q:=by
   rcases aL.1 ((h p).1 aO)with e|e
   ·exact e
   ·rcases aL.1 ((h q).2 aO)with e'|e'
    ·exact e'.symm
    ·exact(asym (c2.1 p e) (c1.1 q e')).elim
  subst e;rw[o.ext c1.2 c2.2 fun r=>?_];constructor
  ·intro hr;refine(aL.1 ((h r).1 (aN _ hr))).resolve_left fun e=>?_;subst e;exact o.lt_ne (c1.1 r hr) rfl
  ·intro hr;refine(aL.1 ((h r).2 (aN _ hr))).resolve_left fun e=>?_;subst e;exact o.lt_ne (c2.1 r hr) rfl
theorem KO.ext_get(o:KO eq lt){es fs:List (κ×γ)}(h1:Ri lt es)(h2:Ri lt fs)(h:∀k,mget eq es k=mget eq fs k):es=fs:=
 o.ext h1 h2 fun p=>by rw[<-o.get_iff h1 (k:=p.1) (v:=p.2),h,o.get_iff h2]
theorem KO.rep_mem(o:KO eq lt):∀{es:List (κ×γ)},Ri lt es->∀{k:κ} {v:γ} {p},mhas eq es k=true->(p∈mrep eq es k v↔p=(k,v)∨(p∈es/\p.1≠k))
 |(k',v')::m,h,k,v,p,hh=>by
  have hc:=aX.1 h;unfold mrep;cases hk:eq k' k with
  |true=>
   have e:=o.e.1 hk;subst e;rw[zE,aL,aL];constructor
   ·rintro(rfl|hp)
    ·exact .inl rfl
    ·exact .inr ⟨.inr hp,fun e=>o.lt_ne (hc.1 p hp) e.symm⟩
   ·rintro(rfl|⟨rfl|hp,hn⟩)
    ·exact .inl rfl
    ·exact absurd rfl hn
    ·exact .inr hp
  |false=>
   have hne:k'≠k:=fun e=>by rw[o.e.2 e]at hk;cases hk
   have hh:mhas eq m k=true:=by unfold mhas at hh;rw[hk,fB]at hh;exact hh
   rw[zF,aL,aL,o.rep_mem hc.2 hh];constructor
   ·rintro(rfl|rfl|⟨hp,hn⟩)
    ·exact .inr ⟨.inl rfl,hne⟩
    ·exact .inl rfl
    ·exact .inr ⟨.inr hp,hn⟩
   ·rintro(rfl|⟨rfl|hp,hn⟩)
    ·exact .inr (.inl rfl)
    ·exact .inl rfl
    ·exact .inr (.inr ⟨hp,hn⟩)
theorem KO.rep_keys(o:KO eq lt):∀(es:List (κ×γ)) (k:κ) (v:γ),(mrep eq es k v).map (·.1)=es.map (·.1)
 |[],_,_=>rfl|(k',v')::m,k,v=>by
  unfold mrep;cases hk:eq k' k with
  |true=>rw[o.e.1 hk];rfl|false=>simp only[zF,List.map_cons,o.rep_keys m k v]
theorem xeZ{es:List (κ×γ)}{fs:List (κ×δ)}(h:es.map (·.1)=fs.map (·.1))(hf:Ri lt fs):Ri lt es:=by have:(fs.map (·.1)).Pairwise (fun x y=>lt x y=true):=cT.2 hf;rw[<-h]at this;exact cT.1 this
theorem ytE:∀{es:List (κ×γ)} {k:κ} {v:γ} {p},p∈mins lt es k v↔p=(k,v)∨p∈es
 |[],k,v,p=>by unfold mins;simp
 |(k',v')::m,k,v,p=>by
  unfold mins;cases lt k' k with
  |true=>
   rw[zE,aL,aL,ytE];constructor
   ·rintro(h|h|h)
    ·exact .inr (.inl h)
    ·exact .inl h
    ·exact .inr (.inr h)
   ·rintro(h|h|h)
    ·exact .inr (.inl h)
    ·exact .inl h
    ·exact .inr (.inr h)
  |false=>rw[zF,aL]
theorem KO.ins_ri(o:KO eq lt):∀{es:List (κ×γ)} {k:κ} {v:γ},Ri lt es->(∀v',(k,v')∉es)->Ri lt (mins lt es k v)
 |[],_,_,_,_=>dL _ _|(k',v')::m,k,v,h,hn=>by
  have hc:=aX.1 h;have hne:k'≠k:=fun e=>hn v' (by rw[e];exact aO);unfold mins;cases hk:lt k' k with
  |true=>
   simp only[zE];refine aX.2 ⟨fun p hp=>?_,o.ins_ri hc.2 fun v2 h2=>hn v2 (aN _ h2)⟩;rcases ytE.1 hp with rfl|hp
   ·exact hk
   ·exact hc.1 p hp
  |false=>
   simp only[zF];have hlt:lt k k'=true:=o.tri hk hne;refine aX.2 ⟨fun p hp=>?_,h⟩;rcases aL.1 hp with rfl|hp
   ·exact hlt
   ·exact o.tr hlt (hc.1 p hp)
theorem KO.set_ri(o:KO eq lt){es:List (κ×γ)}{k:κ}{v:γ}(h:Ri lt es):Ri lt (mset eq lt es k v):=by
 unfold mset;cases hk:mhas eq es k with
 |true=>exact xeZ (o.rep_keys es k v) h|false=>refine o.ins_ri h fun v' hv=>?_;rw[o.has_iff.2 ⟨v',hv⟩]at hk;cases hk
theorem KO.set_mem(o:KO eq lt){es:List (κ×γ)}(h:Ri lt es){k:κ}{v:γ}{p}:p∈mset eq lt es k v↔p=(k,v)∨(p∈es/\p.1≠k):=by
 unfold mset;cases hk:mhas eq es k with
 |true=>exact o.rep_mem h hk|false=>rw[zF,ytE];refine or_congr Iff.rfl ⟨fun hp=>⟨hp,fun e=>?_⟩,fun hp=>hp.1⟩;rw[o.has_iff.2 ⟨p.2,by rw[<-e];exact hp⟩]at hk;cases hk
theorem KO.set_get(o:KO eq lt){es:List (κ×γ)}(h:Ri lt es){k:κ}{v:γ}(j:κ):mget eq (mset eq lt es k v) j=if eq k j=true then some v else mget eq es j:=by
 by_cases hj:eq k j=true
 ·rw[zI hj];have e:=o.e.1 hj;subst e;exact o.get_mem (o.set_ri h) ((o.set_mem h).2 (.inl rfl))
 ·rw[zH hj];have hne:j≠k:=fun e=>hj (o.e.2 e.symm);cases hg:mget eq es j with
  |some u=>exact o.get_mem (o.set_ri h) ((o.set_mem h).2 (.inr ⟨o.get_some hg,hne⟩))|none=>
   refine o.no_get fun u hu=>?_;rcases(o.set_mem h).1 hu with e|⟨hu,_⟩
   ·cases e;exact hne rfl
   ·rw[o.get_mem h hu]at hg;cases hg
theorem xcB:∀(es:List (κ×γ)) (k:κ) (v:γ),(mrep eq es k v).length=es.length
 |[],_,_=>rfl|(k',v')::m,k,v=>by
  unfold mrep;cases eq k' k with
  |true=>rfl|false=>simp only[zF,aS,xcB m k v]
theorem yzB:∀(es:List (κ×γ)) (k:κ) (v:γ),(mins lt es k v).length=es.length+1
 |[],_,_=>rfl|(k',v')::m,k,v=>by
  unfold mins;cases lt k' k with
  |true=>simp only[zE,aS,yzB m k v]|false=>rfl
theorem zyZ{es:List (κ×γ)}{k:κ}{v:γ}:(mset eq lt es k v).length=if mhas eq es k=true then es.length else es.length+1:=by
 unfold mset;cases hk:mhas eq es k with
 |true=>rw[zE,zI rfl,xcB]|false=>rw[zH (by simp)];exact yzB es k v
theorem zuE:∀(es:List (κ×γ)) (k:κ),(mdel eq es k).Sublist es
 |[],_=>.slnil|(k',v')::m,k=>by
  unfold mdel;cases eq k' k with
  |true=>exact List.sublist_cons_self _ _|false=>exact(zuE m k).cons_cons _
theorem yyT{es:List (κ×γ)}{k:κ}(h:Ri lt es):Ri lt (mdel eq es k):=h.sublist (zuE es k)
theorem KO.del_mem(o:KO eq lt):∀{es:List (κ×γ)},Ri lt es->∀{k:κ} {p},p∈mdel eq es k↔p∈es/\p.1≠k
 |[],_,_,_=>by unfold mdel;simp
 |(k',v')::m,h,k,p=>by
  have hc:=aX.1 h;unfold mdel;cases hk:eq k' k with
  |true=>
   have e:=o.e.1 hk;subst e;rw[zE,aL];constructor
   ·exact fun hp=>⟨.inr hp,fun e=>o.lt_ne (hc.1 p hp) e.symm⟩
   ·rintro⟨rfl|hp,hn⟩
    ·exact absurd rfl hn
    ·exact hp
  |false=>
   have hne:k'≠k:=fun e=>by rw[o.e.2 e]at hk;cases hk
   rw[zF,aL,aL,o.del_mem hc.2];constructor
   ·rintro(rfl|⟨hp,hn⟩)
    ·exact⟨.inl rfl,hne⟩
    ·exact⟨.inr hp,hn⟩
   ·rintro⟨rfl|hp,hn⟩
    ·exact .inl rfl
    ·exact .inr ⟨hp,hn⟩
theorem KO.del_filter(o:KO eq lt){es:List (κ×γ)}(h:Ri lt es)(k:κ):mdel eq es k=es.filter fun p=>!eq p.1 k:=
 o.ext (yyT h) (h.sublist eR) fun p=>by rw[o.del_mem h,cD,bE,<-cB,o.e]
def mmap(f:κ->γ->δ)(es:List (κ×γ)):List (κ×δ):=es.map fun p=>(p.1,f p.1 p.2)
theorem ynO{f:κ->γ->δ}{es:List (κ×γ)}(h:Ri lt es):Ri lt (mmap f es):=xeZ (by unfold mmap;rw[eA];rfl) h
theorem zwV(f:κ->γ->δ)(o:KO eq lt):∀(es:List (κ×γ)) (k:κ),mget eq (mmap f es) k=(mget eq es k).map (f k)
 |[],_=>rfl|(k',v')::m,k=>by
  show(bif eq k' k then some (f k' v')else mget eq (mmap f m) k)=Option.map (f k) (bif eq k' k then some v' else mget eq m k);cases hk:eq k' k with
  |true=>rw[o.e.1 hk];rfl|false=>exact zwV f o m k
end
theorem kS:KO keqS kltS where
 e:=by unfold keqS;exact beq_iff_eq
 irr:=by intro a;unfold kltS;rw[bytesLess_eq];simp[List.lt_irrefl]
 tr:=by intro a b c h k;unfold kltS at *;rw[bytesLess_eq,zD]at *;exact List.lt_trans h k
 tri:=by intro a b h hn;unfold kltS at *;rw[bytesLess_eq,decide_eq_false_iff_not]at h;rw[bytesLess_eq,zD];exact Classical.byContradiction fun h2=>hn (List.le_antisymm (fE.1 h2) (fE.1 h))
theorem kMM:KO (fun a b:Bs×Bs=>keqS a.1 b.1&&keqS a.2 b.2) (fun a b=>kltS a.1 b.1||(keqS a.1 b.1&&kltS a.2 b.2)) where
 e:=by intro a b;show(keqS a.1 b.1&&keqS a.2 b.2)=true↔a=b;rw[aH,kS.e,kS.e];exact⟨fun h=>Prod.ext h.1 h.2,fun h=>by rw[h];exact⟨rfl,rfl⟩⟩
 irr:=by intro a;show(kltS a.1 a.1||(keqS a.1 a.1&&kltS a.2 a.2))=false;rw[kS.irr,kS.irr,gM];rfl
 tr:=by
  intro a b c h k;have h:(kltS a.1 b.1||(keqS a.1 b.1&&kltS a.2 b.2))=true:=h;have k:(kltS b.1 c.1||(keqS b.1 c.1&&kltS b.2 c.2))=true:=k;show(kltS a.1 c.1||(keqS a.1 c.1&&kltS a.2 c.2))=true;rw[bX,aH,kS.e]at *;rcases h with h|⟨h1,h2⟩
  ·rcases k with k|⟨k1,_⟩
   ·exact .inl (kS.tr h k)
   ·rw[k1]at h;exact .inl h
  ·rcases k with k|⟨k1,k2⟩
   ·rw[<-h1]at k;exact .inl k
   ·exact .inr ⟨h1.trans k1,kS.tr h2 k2⟩
 tri:=by
  intro a b h hn;have h:(kltS a.1 b.1||(keqS a.1 b.1&&kltS a.2 b.2))=false:=h;show(kltS b.1 a.1||(keqS b.1 a.1&&kltS b.2 a.2))=true;rw[cI]at h;rw[bX,aH,kS.e];by_cases e:a.1=b.1
  ·refine .inr ⟨e.symm,kS.tri ?_ fun e2=>hn (Prod.ext e e2)⟩;have:=h.2
   rwa[kS.e.2 e,cP]at this
  ·exact .inl (kS.tri h.1 e)
abbrev keqM(a b:Bs×Bs):Bool:=keq (.pr .s .s) a b
abbrev kltM(a b:Bs×Bs):Bool:=klt (.pr .s .s) a b
theorem kSS:KO keqM kltM:=kMM
section
variable {S R:Type}
theorem ywD{f:S->List (Option (S⊕R))}(hne:∀s,f s≠[]):∀(n:Nat) {s:S} {r r':R} {m:Nat},Rng f n s r->Rng f m s r'->r=r'
 |0,_,_,_,_,h,_=>h.elim|_+1,_,_,_,0,_,h=>h.elim|n+1,s,r,r',m+1,h,h'=>by
  obtain⟨o,ho⟩:=List.exists_mem_of_ne_nil _ (hne s);have h1:=h o ho;have h2:=h' o ho
  match o,h1,h2 with
  |some (.inl s'),h1,h2=>exact ywD hne n h1 h2|some (.inr r0),h1,h2=>exact h1.symm.trans h2
theorem xaJ{f:S->List (Option (S⊕R))}(hne:∀s,f s≠[]){n:Nat}{s:S}{r:R}(h:Rng f n s r):rngA f s=some r:=by unfold rngA;have hx:∃r n,Rng f n s r:=⟨r,n,h⟩;rw[dif_pos hx];obtain⟨m,hm⟩:=hx.choose_spec;rw[ywD hne m hm h]
theorem yeD{α γ:Type}(l:List α)(d:γ)(F:α->γ):rngL l d F≠[]:=by unfold rngL;cases l<;>simp
theorem rngLm{α γ:Type}{l:List α}{d:γ}{F:α->γ}{o:γ}(h:o∈rngL l d F):(l=[]/\o=d)∨∃p∈l,o=F p:=by
 unfold rngL at h;cases l with
 |nil=>exact .inl ⟨rfl,List.mem_singleton.1 h⟩|cons x l=>obtain⟨p,hp,rfl⟩:=bF.1 h;exact .inr ⟨p,hp,rfl⟩
theorem rngA_m{f:S->List (Option (S⊕R))}(hne:∀s,f s≠[])(I:S->Prop)(m:S->Nat){r:R}(hs:∀s,I s->∀o∈f s,(∃s',o=some (.inl s')/\I s'/\m s'<m s)∨o=some (.inr r)){s:S}(h:I s):rngA f s=some r:=by
 have key:∀n s,I s->m s<n->Rng f n s r:=by
  intro n;induction n with
  |zero=>intro s _ h;omega|succ n ih=>
   intro s hI hn o ho;rcases hs s hI o ho with⟨s',rfl,h1,h2⟩|rfl
   ·exact ih s' h1 (by omega)
   ·rfl
 exact xaJ hne (key _ s h (Nat.lt_succ_self _))
variable {κ γ:Type}{eq lt:κ->κ->Bool}
theorem KO.rngC_mem(o:KO eq lt){es:List (κ×γ)}{left:List κ}{p:κ×γ}:p∈rngC eq es left↔p∈es/\p.1∈left:=by
 unfold rngC;rw[cD,List.any_eq_true];constructor
 ·rintro⟨h,k,hk,e⟩;rw[o.e.1 e];exact⟨h,hk⟩
 ·rintro⟨h,hk⟩;exact⟨h,_,hk,o.e.2 rfl⟩
theorem KO.rngD_mem(o:KO eq lt){left:List κ}{k j:κ}:j∈rngD eq left k↔j∈left/\j≠k:=by unfold rngD;rw[cD,bE,<-cB,o.e]
theorem KO.rngD_len(o:KO eq lt){left:List κ}{k:κ}(h:k∈left):(rngD eq left k).length<left.length:=by unfold rngD;refine List.length_filter_lt_length_iff_exists.2 ⟨k,h,?_⟩;rw[o.e.2 rfl];simp
theorem KO.rngA_map(o:KO eq lt){f:S->List (Option (S⊕R))}(I:S->Prop)(es:S->List (κ×γ))(left:S->List κ){d:S->Option (S⊕R)}{F:S->κ×γ->Option (S⊕R)}{r:R} (hf:∀s,f s=rngL (rngC eq (es s) (left s)) (d s) (F s)) (h1:∀s,I s->(∀p∈es s,p.1∉left s)->d s=some (.inr r)) (h2:∀s p,I s->p∈es s->p.1∈left s->(∃s',F s p=some (.inl s')/\I s'/\left s'=rngD eq (left s) p.1)∨F s p=some (.inr r)) {s:S} (hs:I s):rngA f s=some r:=by
 refine rngA_m (fun s=>by rw[hf];exact yeD _ _ _) I (fun s=>(left s).length) (fun s hs oo ho=>?_) hs;rw[hf]at ho;rcases rngLm ho with⟨h3,rfl⟩|⟨p,hp,rfl⟩
 ·exact .inr (h1 s hs fun p hp hl=>by have:=o.rngC_mem.2 ⟨hp,hl⟩;rw[h3]at this;cases this)
 ·obtain⟨hp,hl⟩:=o.rngC_mem.1 hp;rcases h2 s p hs hp hl with⟨s',e,hI,hle⟩|e
  ·refine .inl ⟨s',e,hI,?_⟩;rw[hle];exact o.rngD_len hl
  ·exact .inr e
end
section
section
variable {S R:Type}
def allE(eq:R->Bool)(g:S->Bool):List (Option (S⊕R))->Bool
 |[]=>true|none::_=>false|some (.inl s)::l=>g s&&allE eq g l|some (.inr r)::l=>eq r&&allE eq g l
def rngE(eq:R->Bool)(f:S->List (Option (S⊕R))):Nat->S->Bool
 |0,_=>false|n+1,s=>allE eq (rngE eq f n) (f s)
theorem ysO{eq:R->Bool}{g:S->Bool}{p:S->Prop}{r:R}(hr:∀x,eq x=true->x=r)(hg:∀s,g s=true->p s):∀{l:List (Option (S⊕R))},allE eq g l=true->∀o∈l,rngO p r o
 |[],_,_,ho=>by cases ho
 |none::_,h,_,_=>by cases h
 |some (.inl s)::l,h,o,ho=>by
  have h:(g s&&allE eq g l)=true:=h;rcases aL.1 ho with rfl|ho
  ·exact hg s (zaR h)
  ·exact ysO hr hg (zaV h) o ho
 |some (.inr x)::l,h,o,ho=>by
  have h:(eq x&&allE eq g l)=true:=h;rcases aL.1 ho with rfl|ho
  ·exact hr x (zaR h)
  ·exact ysO hr hg (zaV h) o ho
theorem xeY{eq:R->Bool}{f:S->List (Option (S⊕R))}{r:R}(hr:∀x,eq x=true->x=r):∀(n:Nat) {s:S},rngE eq f n s=true->Rng f n s r
 |0,_,h=>by cases h
 |n+1,_,h=>ysO hr (fun s hs=>xeY hr n hs) h
theorem yoP[DecidableEq R]{f:S->List (Option (S⊕R))}{s:S}(n:Nat)(r:R)(hne:∀s,f s≠[])(h:rngE (fun x=>decide (x=r)) f n s=true):rngA f s=some r:=
 xaJ hne (xeY (fun _ hx=>zC hx) n h)
end
abbrev uS:List (Bs×Bs×Bs×Bool×Int):=[([97,110,110],[97,110,110],[97,64,120],true,1)]
abbrev g1S:List (Bs×(List Bs×List Bs×List Bs)×Int):=[([103],([],[[104]],[]),2),([104],([[97,110,110]],[],[]),2)]
abbrev gS:List (Bs×(List Bs×List Bs×List Bs)×Int):=[([103],([],[[104]],[[114]]),3),([104],([[97,110,110]],[],[]),2)]
abbrev rS:List (Bs×Bs×List Bs):=[([114],[114],[[114,101,97,100]])]
abbrev cS:List (Bs×Bs×Bs×List Bs×List Bs×Bool×Bool×Bool×Bool):=[]
abbrev mS:List ((Bs×Bs)×Unit):=[]
abbrev wS:List (Bs×Bs):=[([103,114,111,117,112,47,103],[49,58,51,49,58,48,49,58,49,49,58,104,49,58,49,49,58,114]),([103,114,111,117,112,47,104],[49,58,50,49,58,49,51,58,97,110,110,49,58,48,49,58,48]),([114,111,108,101,47,114],[49,58,49,52,58,114,101,97,100]),([117,115,101,114,47,97,110,110],[51,58,97,64,120,49,58,49,49,58,49])]
theorem zaA{α β:Type}{a:α}{f:α->Option β}:aP (some a) f=f a:=rfl
set_option synthInstance.maxSize 4000
set_option synthInstance.maxHeartbeats 400000
instance iA:DecidableEq Bs:=inferInstance
instance i2:DecidableEq (Bs×Bs×Bs×Bool×Int):=inferInstance
instance i7:DecidableEq (Bs×(List Bs×List Bs×List Bs)×Int):=inferInstance
instance i3:DecidableEq (Bs×Bs×List Bs):=inferInstance
instance i9:DecidableEq (Bs×Bs×Bs×List Bs×List Bs×Bool×Bool×Bool×Bool):=inferInstance
instance iM:DecidableEq ((Bs×Bs)×Unit):=inferInstance
theorem in_e:zdS zaB [97,110,110] uS gS rS cS mS=some ([[103],[104]],uS,gS,rS,cS,mS):=by
 unfold zdS
 rw[yoP 40 (uS,gS,rS,cS,mS,([([103],()),([104],())]:List (Bs×Unit))) (fun s=>by
  cases s with
  |inl x=>exact List.cons_ne_nil _ _|inr x=>exact yeD _ _ _) (by kernel_rfl)]
 kernel_rfl
theorem xfR:zcR zaB uS gS rS cS mS=some (true,uS,gS,rS,cS,mS):=by
 unfold zcR;rw[yoP 10 (uS,gS,rS,cS,mS,([([103],[[104]]),([104],[])]:List (Bs×List Bs))) (by intro s;exact yeD _ _ _) (by kernel_rfl),zaA]
 rw[yoP 40 (uS,gS,rS,cS,mS,([]:List (Bs×List Bs))) (fun s=>by
  cases s with
  |inl x=>exact List.cons_ne_nil _ _|inr x=>exact yeD _ _ _) (by kernel_rfl)]
 kernel_rfl
theorem whole_e:zdH zaB uS gS rS cS mS=some (true,uS,gS,rS,cS,mS):=by unfold zdH;rw[show zoL zaB uS gS rS cS mS=some (.inr (uS,gS,rS,cS,mS)) by kernel_rfl,zaA];show aP (rngA _ (uS,gS,rS,cS,mS,cH Prod.fst gS)) _=_;rw[yoP 10 (.inl (uS,gS,rS,cS,mS)) (by intro s;exact yeD _ _ _) (by kernel_rfl),zaA];show aP (rngA _ (uS,gS,rS,cS,mS,cH Prod.fst mS)) _=_;rw[yoP 10 (.inl (uS,gS,rS,cS,mS)) (by intro s;exact yeD _ _ _) (by kernel_rfl),zaA];show aP (zcR zaB uS gS rS cS mS) _=_;rw[xfR];rfl
theorem holds_e:zdG zaB [97,110,110] uS gS rS cS mS=some ([[114,101,97,100]],uS,gS,rS,cS,mS):=by
 unfold zdG;rw[in_e,zaA]
 kernel_rfl
theorem rows_e:zbP zaB uS gS rS cS mS=some (wS,uS,gS,rS,cS,mS):=by kernel_rfl
theorem load_e:zmO zaB wS=some (.inr (0,uS,gS,rS,cS,mS)):=by unfold zmO;rw[show ziL zaB=some ([],[],[],[],[]) by kernel_rfl,zaA];rw[show iter (fun x=>ybE zaB wS x.1 x.2.1 x.2.2.1 x.2.2.2.1 x.2.2.2.2.1 x.2.2.2.2.2) ((0:Int),([],[],[],[],[]))=some (.inr (uS,gS,rS,cS,mS)) by kernel_rfl,zaA];show aP (zdH zaB uS gS rS cS mS) _=_;rw[whole_e];rfl
theorem fixed_t:zhQ zaB=some true:=by
 unfold zhQ;rw[show ziL zaB=some ([],[],[],[],[]) by kernel_rfl,zaA];rw[show znM zaB ([],[],[],[],[])=some (.inr (uS,g1S,[],cS,mS)) by kernel_rfl,zaA];show aP (zhI zaB (uS,g1S,[],cS,mS)) _=_;rw[show zhI zaB (uS,g1S,[],cS,mS)=some (.inr (uS,gS,rS,cS,mS)) by kernel_rfl,zaA];show aP (zdS zaB [97,110,110] uS gS rS cS mS) _=_;rw[in_e,zaA];show aP (zdG zaB [97,110,110] uS gS rS cS mS) _=_;rw[holds_e,zaA];show aP (zbP zaB uS gS rS cS mS) _=_;rw[rows_e,zaA];show aP (zmO zaB wS) _=_;rw[load_e]
 kernel_rfl
def yuH:PC:=⟨[],[.b],fun _=>some true,false⟩
theorem fixed_pk{G:List (Nat×Obj)}[zoW G]:PCok Tryz.prog G 24 yuH:=by have h:=zwQ (tabs:=G) (o:=zaB);unfold zmH at h;rw[fixed_t]at h;exact h
end
section
variable {tabs:List (Nat×Obj)}[zoW tabs]{o:Ops}[zmE tabs o]
def zxE(_o:Ops)(v0:UInt8):Option (Bool):=
 bif decide ((v0.toNat:Int)≥((97:UInt8).toNat:Int))then(bif decide ((v0.toNat:Int)<=((122:UInt8).toNat:Int))then(some true)else(bif decide ((v0.toNat:Int)≥((48:UInt8).toNat:Int))then(bif decide ((v0.toNat:Int)<=((57:UInt8).toNat:Int))then(some true)else(bif((v0.toNat:Int)==((46:UInt8).toNat:Int))then(some true)else(bif((v0.toNat:Int)==((95:UInt8).toNat:Int))then(some true)else(some ((v0.toNat:Int)==((45:UInt8).toNat:Int))))))else(bif((v0.toNat:Int)==((46:UInt8).toNat:Int))then(some true)else(bif((v0.toNat:Int)==((95:UInt8).toNat:Int))then(some true)else(some ((v0.toNat:Int)==((45:UInt8).toNat:Int)))))))else(bif decide ((v0.toNat:Int)≥((48:UInt8).toNat:Int))then(bif decide ((v0.toNat:Int)<=((57:UInt8).toNat:Int))then(some true)else(bif((v0.toNat:Int)==((46:UInt8).toNat:Int))then(some true)else(bif((v0.toNat:Int)==((95:UInt8).toNat:Int))then(some true)else(some ((v0.toNat:Int)==((45:UInt8).toNat:Int))))))else(bif((v0.toNat:Int)==((46:UInt8).toNat:Int))then(some true)else(bif((v0.toNat:Int)==((95:UInt8).toNat:Int))then(some true)else(some ((v0.toNat:Int)==((45:UInt8).toNat:Int))))))
end
section
variable {α β γ σ:Type}
def T(o:Option α)(P:α->Prop):Prop:=∃r,o=some r/\P r
theorem T.ok{a:α}{P:α->Prop}(h:P a):T (some a) P:=⟨a,rfl,h⟩
theorem T.bind{o:Option α}{f:α->Option β}{Q:α->Prop}{P:β->Prop}(h:T o Q)(g:∀a,Q a->T (f a) P):T (o.bind f) P:=by obtain⟨a,rfl,h⟩:=h;exact g a h
theorem T.bif{c:Bool}{a b:Option α}{P:α->Prop}(h:c=true->T a P)(g:c=false->T b P):T (bif c then a else b) P:=by
 cases c
 ·exact g rfl
 ·exact h rfl
theorem T.dif{p:Prop}[Decidable p]{a b:Option α}{P:α->Prop}(h:p->T a P)(g:¬p->T b P):T (bif decide p then a else b) P:=
 T.bif (fun e=>h (zC e)) fun e=>g (of_decide_eq_false e)
theorem T.mono{o:Option α}{P Q:α->Prop}(h:T o P)(g:∀a,P a->Q a):T o Q:=by obtain⟨a,h1,h2⟩:=h;exact⟨a,h1,g a h2⟩
theorem T.get{o:Option Bool}{P:Bool->Prop}(h:T o P):o=some (o.getD false):=by obtain⟨a,rfl,_⟩:=h;rfl
theorem T.at{o:Option α}{P:α->Prop}{a:α}(h:T o P)(e:o=some a):P a:=by obtain⟨b,e2,h2⟩:=h;rw[e]at e2;cases e2;exact h2
theorem T.idx{l:List α}{i:Int}{P:α->Prop}(h0:0<=i)(h:i<(l.length:Int))(g:∀(k:Nat) (hk:k<l.length),i=(k:Int)->P l[k]):T (idx l i) P:=by obtain⟨k,rfl⟩:∃k:Nat,i=k:=⟨i.toNat,by omega⟩;exact⟨_,zhZ rfl (by omega),g k (by omega) rfl⟩
theorem T.ix{l:List α}{i:Int}(h0:0<=i)(h:i<(l.length:Int)):T (Go.Proofs.YtopanhneegpgcaaGreatDoor.idx l i) fun _=>True:=T.idx h0 h fun _ _ _=>trivial
theorem T.iter{body:σ->Option (σ⊕β)}(I:σ->Prop)(m:σ->Nat)(G:β->Prop)(hr:∀s,I s->T (body s) fun r=>match r with
  |.inl s'=>I s'/\m s'<m s|.inr b=>G b) {s:σ} (hs:I s) (hm:m s<1099511627776):T (iter body s) G:=
 yoX I m G (fun s hs=>by
  obtain⟨r,h1,h2⟩:=hr s hs;cases r with
  |inl s'=>exact .inl ⟨s',h1,h2⟩|inr b=>exact .inr ⟨b,h1,h2⟩) FU s hs (by unfold FU;exact hm)
theorem zjP{a b:List α}(h:a.length+b.length<=68719476736):app a b=some (a++b):=by unfold app;rw[zfQ (by unfold LIM;omega)]
theorem zjI(xs:List α)(h:xs.length<=68719476736):app ([]:List α) xs=some xs:=by rw[zjP (by simpa using h)];rfl
theorem T.app{a b:List α}{P:List α->Prop}(h:a.length+b.length<=68719476736)(g:P (a++b)):T (app a b) P:=⟨_,zjP h,g⟩
theorem T.places{body:Int->Option (Int⊕β)}(n:Nat)(hn:n<1099511627776)(G:β->Prop)(hr:∀k:Nat,k<=n->T (body (k:Int)) fun r=>match r with
  |.inl s'=>s'=((k+1:Nat):Int)/\k<n|.inr b=>G b):T (Go.Proofs.YtopanhneegpgcaaGreatDoor.iter body 0) G:=by
 refine T.iter (fun i=>0<=i/\i<=(n:Int)) (fun i=>(n-i).toNat) G (fun i hi=>?_) ⟨by omega,by omega⟩ (by omega);obtain⟨k,rfl⟩:∃k:Nat,i=k:=⟨i.toNat,by omega⟩;refine(hr k (by omega)).mono fun r h=>?_;cases r with
 |inl s=>obtain⟨rfl,h⟩:=h;exact⟨⟨by omega,by omega⟩,by omega⟩
 |inr b=>exact h
end
theorem wid_pos(s:ByteArray)(pos:Nat):1<=(Utf8.decode s pos).2:=by
 unfold Utf8.decode;simp only[]
 repeat' split
 all_goals simp
theorem nxP_gt{l:Bs}{p:Nat}(h:p<l.length):p<nxP l p:=by unfold nxP dec;rw[zfQ h];have:=wid_pos ⟨l.toArray⟩ p;omega
theorem trim_t(s cs:Bs)(h:s.length<=1048576)(h2:cs.length<4294967281)(h3:cs.all (fun b=>decide (b.toNat<128))=true):T (zaB.trim s cs) fun _=>True:=by refine⟨Lib.trimS s cs,?_,trivial⟩;show yjS s cs=_;unfold yjS;rw[zA (show s.length<=9223372036854775807 by omega),zA h2,h3];rfl
theorem of_t(v:Bs)(n:Int)(cs:Bs)(hn:n<=1048576)(h2:cs.length<4294967281)(h3:cs.all (fun b=>decide (b.toNat<128))=true):T (zkU zaB v n cs) fun _=>True:=by unfold zkU;refine T.bif (fun _=>T.dif (fun h=>?_) fun _=>T.ok trivial) fun _=>T.ok trivial;exact(trim_t v cs (by omega) h2 h3).bind fun _ _=>T.ok trivial
theorem scope_t(s:Bs):T (zgC zaB s) fun _=>True:=by unfold zgC;exact(of_t s _ _ (by decide) (by decide) (by decide)).bind fun _ _=>T.ok trivial
theorem xdO(s:Bs):T (zaN zaB s) fun _=>True:=by unfold zaN;exact(of_t s _ _ (by decide) (by decide) (by decide)).bind fun _ _=>T.ok trivial
theorem subH_t{α:Type}{s:List α}{n:Int}(h0:0<=n)(h:n<=(s.length:Int)):T (subH s n) fun _=>True:=by obtain⟨k,rfl⟩:∃k:Nat,n=k:=⟨n.toNat,by omega⟩;unfold subH;rw[zA (show(0:Int)<=(k:Int) by omega),zA h];exact⟨_,rfl,trivial⟩
theorem subL_t{α:Type}{s:List α}{n:Int}(h0:0<=n)(h:n<=(s.length:Int)):T (subL s n) fun _=>True:=by obtain⟨k,rfl⟩:∃k:Nat,n=k:=⟨n.toNat,by omega⟩;unfold subL;rw[zA (show(0:Int)<=(k:Int) by omega),zA h];exact⟨_,rfl,trivial⟩
theorem prin_t(s:Bs):T (zbG zaB s) fun _=>True:=by unfold zbG;refine T.dif (fun h=>(subH_t (by omega) (by omega)).bind fun _ _=>T.bif (fun _=>(subL_t (by omega) (by omega)).bind fun _ _=>(xdO _).bind fun _ _=>T.ok trivial) fun _=>(subH_t (by omega) (by omega)).bind fun _ _=>T.bif (fun _=>(subL_t (by omega) (by omega)).bind fun _ _=>(xdO _).bind fun _ _=>T.ok trivial) fun _=>T.ok trivial) fun _=>T.ok trivial
theorem text_t(s:Bs):T (zcK zaB s) fun _=>True:=by
 unfold zcK;refine T.bif (fun _=>T.dif (fun h=>?_) fun _=>T.ok trivial) fun _=>T.ok trivial;refine T.bind (Q:=fun _=>True) ?_ fun _ _=>T.ok trivial;unfold zcV zgX zhA;refine T.bind (Q:=fun _=>True) (T.bind (Q:=fun _=>True) (T.bind (Q:=fun _=>True) (T.iter (fun x=>x.1=s/\0<=x.2) (fun x=>s.length-x.2.toNat) (fun _=>True) (fun x hx=>?_) ⟨rfl,gQ _⟩ (by simp;omega)) fun r _=>?_) fun _ _=>T.ok trivial) fun _ _=>T.ok trivial
 ·obtain⟨v,i⟩:=x;obtain⟨rfl,h0⟩:=hx;unfold zgI;simp only at h0 ⊢;refine T.dif (fun h2=>?_) fun _=>T.ok trivial;refine T.bind (Q:=fun _=>True) ?_ fun _ _=>T.bif (fun _=>T.ok trivial) fun _=>T.ok ⟨⟨rfl,by simp⟩,?_⟩
  ·unfold ziJ;exact T.dif (fun _=>T.ok trivial) fun _=>T.ok trivial
  ·have:=nxP_gt h2;simp only[cK];omega
 ·cases r<;>exact T.ok trivial
abbrev L8:Type:=Bs
def scB(s:L8):Bool:=(zgC zaB s).getD false
def nmB(s:L8):Bool:=(zaN zaB s).getD false
def prB(s:L8):Bool:=(zbG zaB s).getD false
def txB(s:L8):Bool:=(zcK zaB s).getD false
theorem sc_ok(s:L8):zgC zaB s=some (scB s):=(scope_t s).get
theorem zyF(s:L8):zaN zaB s=some (nmB s):=(xdO s).get
theorem pr_ok(s:L8):zbG zaB s=some (prB s):=(prin_t s).get
theorem xaG(s:L8):zcK zaB s=some (txB s):=(text_t s).get
theorem zoU{k:Nat}(h:k<1099511627776):w64 ((k:Int)+1)=((k+1:Nat):Int):=by rw[zsE (by omega) (by omega)];omega
theorem ygW:∀(a b:List Bs),zkN (a++b)=zkN a++zkN b
 |[],_=>rfl|t::a,b=>by show Lib.decDigits t.length++58::(t++zkN (a++b))=(Lib.decDigits t.length++58::(t++zkN a))++zkN b;rw[ygW a b];simp
theorem form_ok(ts:List Bs)(hl:(zkN ts).length<4294967281)(hn:ts.length<1099511627776):zjJ ts=some (zkN ts):=by
 have key:∀(k:Nat),(zkN (ts.take k)).length<=(zkN ts).length:=fun k=>by have:=ygW (ts.take k) (ts.drop k);rw[List.take_append_drop]at this;rw[this,aD];omega
 have h:iter (zhO ts) ((((0:Nat):Int)),zkN (ts.take 0))=some (zkN ts):=by
  refine iter_run (fun k=>((k:Int),zkN (ts.take k))) ts.length hn (zkN ts) (fun k hk=>?_) ?_
  ·have ht:ts.take (k+1)=ts.take k++[ts[k]]:=by rw[fR hk]
   have e:zkN (ts.take (k+1))=zkN (ts.take k)++(Lib.decDigits ts[k].length++58::ts[k]):=by rw[ht,ygW];simp[zkN]
   have h1:=key (k+1);rw[e]at h1;simp only[aD,aS]at h1;unfold zhO;simp only[];rw[zfQ (by omega),zhZ rfl hk,zaA,yoA _ (by omega),zaA,Am.zjP (by simp only[aS,bZ];omega),zaA,Am.zjP (by simp only[aD,aS,bZ];omega),zaA];unfold zfX;rw[show zkX (zkN (ts.take k))=some _ from rfl,zaA,Am.zjP (by simp only[aD,aS,bZ];omega),zaA,zaA,zsE (by omega) (by omega),e];simp
  ·unfold zhO;simp only[];rw[zgE (by omega),List.take_length]
 unfold zjJ;have h:iter (zhO ts) ((0:Int),([]:Bs))=some (zkN ts):=h;rw[h,zaA,zaA,chk_ok (zA (by omega)),zaA]
theorem all_take{α:Type}{l:List α}{p:α->Bool}{k:Nat}(hk:k<l.length):(l.take (k+1)).all p=((l.take k).all p&&p l[k]):=by rw[fR hk,List.all_append,cC,List.all_nil,Bool.and_true]
theorem all_no{α:Type}{l:List α}{p:α->Bool}{k:Nat}(hk:k<l.length)(h:p l[k]=false):l.all p=false:=by
 cases ha:l.all p with
 |false=>rfl|true=>rw[bK.1 ha _ (List.getElem_mem hk)]at h;cases h
theorem ypB{α:Type}{l:List α}{p q:α->Bool}(h:∀x∈l,p x=q x):l.all p=l.all q:=by
 induction l with
 |nil=>rfl|cons x l ih=>rw[cC,cC,h x aO,ih fun y hy=>h y (aN _ hy)]
theorem of_is{s cs:L8}{n:Int}(hn:n<=1048576)(h2:cs.length<4294967281)(h3:cs.all (fun b=>decide (b.toNat<128))=true):zkU zaB s n cs=some (s != []&&decide ((s.length:Int)<=n)&&s.all (cs.contains ·)):=by
 unfold zkU;cases h0:s != ([]:L8) with
 |false=>rfl|true=>
  simp only[zE,cP];by_cases hl:(s.length:Int)<=n
  ·rw[zfQ hl,zA hl];have ht:zaB.trim s cs=some (Lib.trimS s cs):=by show yjS s cs=_;unfold yjS;rw[zA (show s.length<=9223372036854775807 by omega),zA h2,h3];rfl
   rw[ht,zaA,cP];congr 1;rw[Bool.eq_iff_iff,beq_iff_eq,ypS,bK]
  ·rw[zgE hl,zB hl];rfl
abbrev yvC:L8:=[97,98,99,100,101,102,103,104,105,106,107,108,109,110,111,112,113,114,115,116,117,118,119,120,121,122,48,49,50,51,52,53,54,55,56,57,46,95,45]
def letB(b:UInt8):Bool:=(zxE zaB b).getD false
theorem let_is(b:UInt8):yvC.contains b=letB b:=by have:=ymM (fun b=>yvC.contains b==letB b) (by kernel_rfl) b;simpa using this
abbrev yqE:L8:=[97,98,99,100,101,102,103,104,105,106,107,108,109,110,111,112,113,114,115,116,117,118,119,120,121,122,48,49,50,51,52,53,54,55,56,57,46,95,45,58]
theorem let_is2(b:UInt8):yqE.contains b=(letB b||b==58):=by have:=ymM (fun b=>yqE.contains b==(letB b||b==58)) (by kernel_rfl) b;simpa using this
theorem nm_is(s:L8):nmB s=(s != []&&decide (s.length<=24)&&s.all letB):=by have h:=zyF s;unfold zaN at h;rw[of_is (by decide) (by decide) (by decide),zaA]at h;rw[<-osi h,ypB fun b _=>let_is b];congr 2;rw[decide_eq_decide];omega
theorem sc_is(s:L8):scB s=(s != []&&decide (s.length<=32)&&s.all fun b=>letB b||b==58):=by have h:=sc_ok s;unfold zgC at h;rw[of_is (by decide) (by decide) (by decide),zaA]at h;rw[<-osi h,ypB (q:=fun b=>letB b||b==58) fun b _=>let_is2 b];congr 2;rw[decide_eq_decide];omega
def okB(b:UInt8):Bool:=decide (33<=b.toNat)&&decide (b.toNat<=126)
theorem xcD{l:L8}{k:Nat}(hk:k<l.length)(h:l[k].toNat<128):nxR l k=(l[k].toNat:Int)/\nxP l k=k+1:=by
 have hg:((⟨l.toArray⟩:ByteArray).get! k)=l[k]:=by simp[ByteArray.get!,hk]
 unfold nxR nxP dec Utf8.decode;simp only[eS,hg];rw[zI h,zfQ hk];exact⟨rfl,rfl⟩
theorem dec_high{l:L8}{k:Nat}(hk:k<l.length)(h:128<=l[k].toNat):nxR l k>126:=by
 have hg:((⟨l.toArray⟩:ByteArray).get! k)=l[k]:=by simp[ByteArray.get!,hk]
 have e:Utf8.runeError>126:=by decide
 unfold nxR dec Utf8.decode;simp only[eS,hg];rw[zH (by omega)]
 repeat' split
 all_goals first|(simp only[];omega)|(simp only[];rename_i h1;simp only[aH,zD]at h1;omega)
theorem okB_t{b:UInt8}(h:okB b=true):33<=b.toNat/\b.toNat<=126:=by unfold okB at h;simp only[aH,zD]at h;exact h
theorem runes_ok{s:L8}(hs:s.length<=1048576):zcV zaB s=some (!s.all okB):=by
 have hT:T (iter (fun x:L8×Int=>zgI zaB true x.1 x.2) (s,(0:Int))) fun r=>match r with
   |.inl i=>0<=i/\s.all okB=false|.inr _=>s.all okB=true:=by
  refine T.iter (fun x=>x.1=s/\0<=x.2/\x.2<=(s.length:Int)/\(s.take x.2.toNat).all okB=true) (fun x=>s.length-x.2.toNat) _ (fun x hx=>?_) ⟨rfl,gQ _,by simp,rfl⟩ (by simp;omega);obtain⟨v,i⟩:=x;obtain⟨e,h1,h2,h3⟩:=hx;simp only at e h1 h2 h3;subst e;obtain⟨k,rfl⟩:∃k:Nat,i=k:=⟨i.toNat,by omega⟩;rw[cK]at h3;unfold zgI;simp only[cK];refine T.dif (fun hk=>?_) fun hk=>T.ok ?_
  ·have hp:ziJ zaB (nxR v k)=some (!okB v[k]):=by
    unfold ziJ;rcases Nat.lt_or_ge v[k].toNat 128 with hlo|hhi
    ·rw[(xcD hk hlo).1];unfold okB;by_cases h33:(v[k].toNat:Int)<33
     ·rw[zfQ h33,zB (show ¬33<=v[k].toNat by omega)];rfl
     ·rw[zgE h33,zA (show 33<=v[k].toNat by omega),cP];congr 1;by_cases h126:(v[k].toNat:Int)>126
      ·rw[zA h126,zB (show ¬v[k].toNat<=126 by omega)];rfl
      ·rw[zB h126,zA (show v[k].toNat<=126 by omega)];rfl
    ·have:=dec_high hk hhi;rw[zgE (by omega),zA this];unfold okB;rw[zB (show ¬v[k].toNat<=126 by omega),gM];rfl
   rw[hp,zaA];cases hb:okB v[k] with
   |false=>refine T.bif (fun _=>T.ok ⟨by omega,all_no hk hb⟩) fun h=>?_;cases h
   |true=>
    refine T.bif (fun h=>?_) fun _=>T.ok ?_
    ·cases h
    ·have hlt:=okB_t hb;rw[(xcD hk (by omega)).2];refine⟨⟨rfl,by simp only[];omega,by simp only[];omega,?_⟩,by simp only[];omega⟩;simp only[cK];rw[all_take hk,h3,hb];rfl
  ·rw[List.take_of_length_le (by omega)]at h3;exact h3
 obtain⟨r,h1,h2⟩:=hT;unfold zcV zgX zhA;rw[h1];cases r with
 |inl i=>simp only[zaA];rw[zA (show i≥0 from h2.1),h2.2];rfl|inr u=>simp only[zaA];rw[show s.all okB=true from h2];rfl
theorem tx_is(s:L8)(hs:s.length<=1048576):txB s=(s != []&&decide (s.length<=128)&&s.all okB):=by
 have h:=xaG s;unfold zcK at h;rw[runes_ok hs]at h;cases h0:s != ([]:L8) with
 |false=>rw[h0]at h;rw[<-osi h];rfl|true=>
  rw[h0]at h;simp only[zE,zaA,Bool.not_not]at h;by_cases hl:(s.length:Int)<=128
  ·rw[zfQ hl]at h;rw[<-osi h,zA (show s.length<=128 by omega)];rfl
  ·rw[zgE hl]at h;rw[<-osi h,zB (show ¬s.length<=128 by omega)];rfl
theorem trim_is{s cs:L8}(h:s.length<=1048576)(h2:cs.length<4294967281)(h3:cs.all (fun b=>decide (b.toNat<128))=true):zaB.trim s cs=some (Lib.trimS s cs):=by show yjS s cs=_;unfold yjS;rw[zA (show s.length<=9223372036854775807 by omega),zA h2,h3];rfl
theorem yhT{p:L8}(h:prB p=true):∃c l,p=c::58::l/\(c=117∨c=99)/\nmB l=true:=by
 have h1:=pr_ok p;rw[h]at h1;unfold zbG at h1;by_cases hl:(p.length:Int)>2
 ·rw[zfQ hl]at h1
  match p,hl with
  |a::b::c::l,hl=>
   have e1:subH (a::b::c::l) (2:Int)=some [a,b]:=by unfold subH;rw[zA (show(0:Int)<=2 by decide),zA (show(2:Int)<=((a::b::c::l).length:Int) by omega)];rfl
   have e2:subL (a::b::c::l) (2:Int)=some (c::l):=by unfold subL;rw[zA (show(0:Int)<=2 by decide),zA (show(2:Int)<=((a::b::c::l).length:Int) by omega)];rfl
   rw[e1,e2]at h1;simp only[zaA]at h1;have hx:∀{q:Bool} {x y:Option Bool},(bif q then x else y)=some true->(q=true/\x=some true)∨(q=false/\y=some true):=fun {q x y} h=>by cases q;exact .inr ⟨rfl,h⟩;exact .inl ⟨rfl,h⟩
   have hn:(aP (zaN zaB (c::l)) fun v=>some v)=some true->nmB (c::l)=true:=fun h=>by rw[zyF,zaA]at h;exact osi h
   rcases hx h1 with⟨q,h2⟩|⟨_,h2⟩
   ·have e:=beq_iff_eq.1 q;injection e with e3 e4;injection e4 with e5 _;subst e3;subst e5;exact⟨_,_,rfl,.inl rfl,hn h2⟩
   ·rcases hx h2 with⟨q,h3⟩|⟨_,h3⟩
    ·have e:=beq_iff_eq.1 q;injection e with e3 e4;injection e4 with e5 _;subst e3;subst e5;exact⟨_,_,rfl,.inr rfl,hn h3⟩
    ·cases h3
 ·rw[zgE hl]at h1;cases h1
theorem ysY(u:Nat)(hu:u<9223372036854775808):zaB.itoa (u:Int)=some (Lib.decDigits u):=yoA u hu
theorem yoL:∀(ts:List L8),(∀t∈ts,t.length<=1024)->(zkN ts).length<=1032*ts.length
 |[],_=>Nat.zero_le _|t::ts,h=>by
  have ih:=yoL ts fun x hx=>h x (aN _ hx);have ht:=h t aO;have hd:=ymL 7 t.length (by decide) (by omega);have e2:(zkN (t::ts)).length=(Lib.decDigits t.length).length+1+t.length+(zkN ts).length:=by show(Lib.decDigits t.length++58::(t++zkN ts)).length=_;simp only[aD,aS];omega
  rw[e2,aS];omega
theorem yeC{ts:List L8}(h:∀t∈ts,t.length<=1024)(hn:ts.length<=1024):zaB.form ts=some (zkN ts):=by have:=yoL ts h;exact form_ok ts (by omega) (by omega)
theorem let_bar:letB 124=false:=by kernel_rfl
def RiL(l:List L8):Prop:=l.Pairwise fun x y=>kltS x y=true
theorem ydZ:∀{l:List L8},zsQ l=true↔RiL l
 |[]=>⟨fun _=>.nil,fun _=>rfl⟩|[x]=>⟨fun _=>dL _ _,fun _=>rfl⟩|x::y::l=>by
  unfold zsQ;rw[aH,ydZ (l:=y::l)];constructor
  ·rintro⟨h,k⟩;refine aX.2 ⟨fun z hz=>?_,k⟩;rcases aL.1 hz with rfl|hz
   ·exact h
   ·exact kS.tr h ((aX.1 k).1 z hz)
  ·intro h;have h:=aX.1 h;exact⟨h.1 y aO,h.2⟩
theorem RiL.nodup{l:List L8}(h:RiL l):l.Nodup:=h.imp fun {_a _b} hab e=>kS.lt_ne hab e
theorem RiL.ext{l m:List L8}(h:RiL l)(k:RiL m)(e:∀x,x∈l↔x∈m):l=m:=by
 have h1:Ri kltS (l.map fun x=>(x,())):=cT.2 h;have h2:Ri kltS (m.map fun x=>(x,())):=cT.2 k;have h3:=kS.ext h1 h2 fun p=>by obtain⟨a,u⟩:=p;simp[e a]
 have h4:=congrArg (cH Prod.fst) h3;simpa[eA,Function.comp_def]using h4
def yqK(x:L8)(l:List L8):List L8:=l.takeWhile (fun y=>kltS y x)++x::l.dropWhile (fun y=>kltS y x)
def woL(x:L8)(l:List L8):List L8:=l.filter fun y=>!(y==x)
theorem yqG{x y:L8}{l:List L8}:y∈yqK x l↔y=x∨y∈l:=by
 unfold yqK;have e:y∈l↔y∈l.takeWhile (fun y=>kltS y x)++l.dropWhile (fun y=>kltS y x):=by rw[List.takeWhile_append_dropWhile]
 rw[e,bI,bI,aL];constructor
 ·rintro(h|h|h)
  ·exact .inr (.inl h)
  ·exact .inl h
  ·exact .inr (.inr h)
 ·rintro(h|h|h)
  ·exact .inr (.inl h)
  ·exact .inl h
  ·exact .inr (.inr h)
theorem ypT{p:L8->Bool}:∀{l:List L8} {x:L8},x∈l.takeWhile p->p x=true
 |y::l,x,h=>by
  rw[List.takeWhile_cons]at h;cases hp:p y with
  |true=>
   rw[zI hp]at h;rcases aL.1 h with rfl|h
   ·exact hp
   ·exact ypT h
  |false=>rw[zH (by rw[hp];simp)]at h;cases h
theorem yuZ{x:L8}:∀{l:List L8},RiL l->x∉l->∀y∈l.dropWhile (fun y=>kltS y x),kltS x y=true
 |z::l,h,hn,y,hy=>by
  have hc:=aX.1 h;rw[List.dropWhile_cons]at hy;cases hp:kltS z x with
  |true=>rw[zI hp]at hy;exact yuZ hc.2 (fun hx=>hn (aN _ hx)) y hy|false=>
   rw[zH (by rw[hp];simp)]at hy;have hxz:kltS x z=true:=kS.tri hp fun e=>hn (by rw[<-e];exact aO);rcases aL.1 hy with rfl|hy
   ·exact hxz
   ·exact kS.tr hxz (hc.1 y hy)
theorem withL_ri{x:L8}{l:List L8}(h:RiL l)(hn:x∉l):RiL (yqK x l):=by
 unfold yqK RiL;have hd:=yuZ h hn;have h1:RiL (l.takeWhile fun y=>kltS y x):=h.sublist (List.takeWhile_sublist _);have h2:RiL (l.dropWhile fun y=>kltS y x):=h.sublist (List.dropWhile_sublist _);refine List.pairwise_append.2 ⟨h1,aX.2 ⟨hd,h2⟩,fun a ha b hb=>?_⟩;have hax:=ypT ha;rcases aL.1 hb with rfl|hb
 ·exact hax
 ·exact kS.tr hax (hd b hb)
theorem ymH{x y:L8}{l:List L8}:y∈woL x l↔y∈l/\y≠x:=by unfold woL;rw[cD,bE,<-cB,beq_iff_eq]
theorem woL_ri{x:L8}{l:List L8}(h:RiL l):RiL (woL x l):=h.sublist eR
theorem RiL.sub_len{l m:List L8}(h:RiL l)(hs:∀x∈l,x∈m):l.length<=m.length:=zrS h.nodup hs
abbrev Us:Type:=L8×L8×Bool×Int
abbrev Gr:Type:=(List L8×List L8×List L8)×Int
abbrev Ro:Type:=L8×List L8
abbrev Cl:Type:=L8×L8×List L8×List L8×Bool×Bool×Bool×Bool
abbrev UM:Type:=List (L8×Us)
abbrev GM:Type:=List (L8×Gr)
abbrev RM:Type:=List (L8×Ro)
abbrev CM:Type:=List (L8×Cl)
abbrev MM:Type:=List ((L8×L8)×Unit)
abbrev PS:Type:=UM×GM×RM×CM×MM
abbrev zG:Gr:=((([]:List L8),([]:List L8),([]:List L8)),(0:Int))
def hexB(b:UInt8):Bool:=digB b||(decide (97<=b.toNat)&&decide (b.toNat<=102))
def ycN(most:Nat)(may:L8->Bool)(l:List L8):Bool:=l.all may&&zsQ l&&decide (l.length<=most)
def yjE(r:Ro):Bool:=nmB r.1&&ycN 16 scB r.2
def cliB(c:Cl):Bool:=nmB c.1&&(c.2.1==[]||(decide (c.2.1.length=64)&&c.2.1.all hexB))&&ycN 16 txB c.2.2.1&&ycN 16 scB c.2.2.2.1
def lst:Nat->Gr->List L8
 |0,g=>g.1.1|1,g=>g.1.2.1|_,g=>g.1.2.2
def stL:Nat->Gr->List L8->Gr
 |0,g,l=>((l,g.1.2.1,g.1.2.2),g.2+1)|1,g,l=>((g.1.1,l,g.1.2.2),g.2+1)|_,g,l=>((g.1.1,g.1.2.1,l),g.2+1)
def hasK(k:Nat)(s:PS)(n:L8):Bool:=match k with
 |0=>mhas keqS s.1 n|1=>mhas keqS s.2.1 n|_=>mhas keqS s.2.2.1 n
def thB(s:PS)(p:L8):Bool:=bif p.head? == some 99 then mhas keqS s.2.2.2.1 (p.drop 2)else mhas keqS s.1 (p.drop 2)
inductive Reach (G:GM) (a:L8):L8->Prop
 |refl:Reach G a a
 |step {b x:L8} {g:Gr}:Reach G a b->(b,g)∈G->x∈lst 1 g->Reach G a x
theorem Reach.trans{G:GM}{a b c:L8}(h:Reach G a b)(k:Reach G b c):Reach G a c:=by
 induction k with
 |refl=>exact h|step _ hg hx ih=>exact .step ih hg hx
def Acy(G:GM):Prop:=∃r:L8->Nat,∀n g,(n,g)∈G->∀x∈lst 1 g,r x<r n
structure PInv (B:Int) (s:PS):Prop where
 uR:Ri kltS s.1
 gR:Ri kltS s.2.1
 rR:Ri kltS s.2.2.1
 cR:Ri kltS s.2.2.2.1
 mR:Ri kltM s.2.2.2.2
 uL:s.1.length<=64
 gL:s.2.1.length<=32
 rL:s.2.2.1.length<=32
 cL:s.2.2.2.1.length<=32
 mL:s.2.2.2.2.length<=64
 us:∀k u,(k,u)∈s.1->u.1=k/\nmB k=true/\txB u.2.1=true/\1<=u.2.2.2/\u.2.2.2<=B
 gn:∀k g,(k,g)∈s.2.1->nmB k=true/\1<=g.2/\g.2<=B
 gl:∀k g,(k,g)∈s.2.1->∀i,i<3->RiL (lst i g)/\∀x∈lst i g,hasK i s x=true
 ro:∀k r,(k,r)∈s.2.2.1->r.1=k/\yjE r=true
 cl:∀k c,(k,c)∈s.2.2.2.1->c.1=k/\cliB c=true
 ma:∀p,p∈s.2.2.2.2->prB p.1.1=true/\prB p.1.2=true/\thB s p.1.1=true/\thB s p.1.2=true
 ac:Acy s.2.1
theorem PInv.mono{B C:Int}{s:PS}(h:PInv B s)(hb:B<=C):PInv C s:=
 { h with
   us:=fun k u hu=>⟨(h.us k u hu).1,(h.us k u hu).2.1,(h.us k u hu).2.2.1,(h.us k u hu).2.2.2.1,Int.le_trans (h.us k u hu).2.2.2.2 hb⟩
   gn:=fun k g hg=>⟨(h.gn k g hg).1,(h.gn k g hg).2.1,Int.le_trans (h.gn k g hg).2.2 hb⟩ }
def yzV(n m:L8)(s:PS):Int×PS:=bif !nmB n || !txB m then(120,s)else bif mhas keqS s.1 n then(121,s)else bif decide (64<=s.1.length)then(124,s)else(0,mset keqS kltS s.1 n (n,m,true,1),s.2)
def yqD(n:L8)(f:Us->Us)(s:PS):Int×PS:=bif !nmB n then(120,s)else match mget keqS s.1 n with
 |none=>(122,s)|some u=>(0,mset keqS kltS s.1 n (if f u=u then u else((f u).1,(f u).2.1,(f u).2.2.1,(f u).2.2.2+1)),s.2)
def xaY(n m:L8)(s:PS):Int×PS:=bif !txB m then(120,s)else yqD n (fun u=>(u.1,m,u.2.2)) s
def ywW(n:L8)(b:Bool)(s:PS):Int×PS:=yqD n (fun u=>(u.1,u.2.1,b,u.2.2.2)) s
def zhG(k:Nat)(n:L8)(G:GM):GM:=mmap (fun _ g=>bif(lst k g).contains n then stL k g (woL n (lst k g))else g) G
def zsX(p:L8)(M:MM):MM:=M.filter fun m=>!(m.1.1==p||m.1.2==p)
def ypK(n:L8)(s:PS):Int×PS:=bif !nmB n then(120,s)else bif !mhas keqS s.1 n then(122,s)else(0,mdel keqS s.1 n,zhG 0 n s.2.1,s.2.2.1,s.2.2.2.1,zsX (117::58::n) s.2.2.2.2)
def xaW(n:L8)(s:PS):Int×PS:=bif !nmB n then(120,s)else bif mhas keqS s.2.1 n then(121,s)else bif decide (32<=s.2.1.length)then(124,s)else(0,s.1,mset keqS kltS s.2.1 n ((([]:List L8),([]:List L8),([]:List L8)),(1:Int)),s.2.2)
def ypN(n:L8)(s:PS):Int×PS:=bif !nmB n then(120,s)else bif !mhas keqS s.2.1 n then(122,s)else(0,s.1,zhG 1 n (mdel keqS s.2.1 n),s.2.2)
noncomputable def yhU(k:Nat)(n x:L8)(s:PS):Int×PS:=bif !nmB n || !nmB x then(120,s)else match mget keqS s.2.1 n with
 |none=>(122,s)|some g=>bif !hasK k s x then(122,s)else bif(lst k g).contains x then(121,s) else
  open Classical in if k=1/\Reach s.2.1 x n then(123,s)else(0,s.1,mset keqS kltS s.2.1 n (stL k g (yqK x (lst k g))),s.2.2)
def zzY(k:Nat)(n x:L8)(s:PS):Int×PS:=bif !nmB n || !nmB x then(120,s)else match mget keqS s.2.1 n with
 |none=>(122,s)|some g=>bif !hasK k s x then(122,s)else bif !(lst k g).contains x then(122,s)else(0,s.1,mset keqS kltS s.2.1 n (stL k g (woL x (lst k g))),s.2.2)
def ynF(r:Ro)(s:PS):Int×PS:=bif !yjE r then(120,s)else bif !mhas keqS s.2.2.1 r.1&&decide (32<=s.2.2.1.length)then(124,s)else(0,s.1,s.2.1,mset keqS kltS s.2.2.1 r.1 r,s.2.2.2)
def yoZ(n:L8)(s:PS):Int×PS:=bif !nmB n then(120,s)else bif !mhas keqS s.2.2.1 n then(122,s)else(0,s.1,zhG 2 n s.2.1,mdel keqS s.2.2.1 n,s.2.2.2)
def ymD(c:Cl)(s:PS):Int×PS:=bif !cliB c then(120,s)else bif !mhas keqS s.2.2.2.1 c.1&&decide (32<=s.2.2.2.1.length)then(124,s)else(0,s.1,s.2.1,s.2.2.1,mset keqS kltS s.2.2.2.1 c.1 c,s.2.2.2.2)
def yqU(n:L8)(s:PS):Int×PS:=bif !nmB n then(120,s)else bif !mhas keqS s.2.2.2.1 n then(122,s)else(0,s.1,s.2.1,s.2.2.1,mdel keqS s.2.2.2.1 n,zsX (99::58::n) s.2.2.2.2)
def yqH(a b:L8)(s:PS):Int×PS:=bif !prB a || !prB b then(120,s)else bif !thB s a || !thB s b then(122,s)else bif mhas keqM s.2.2.2.2 (a,b)then(121,s)else bif decide (64<=s.2.2.2.2.length)then(124,s)else(0,s.1,s.2.1,s.2.2.1,s.2.2.2.1,mset keqM kltM s.2.2.2.2 (a,b) ())
def xcP(a b:L8)(s:PS):Int×PS:=bif !prB a || !prB b then(120,s)else bif !thB s a || !thB s b then(122,s)else bif !mhas keqM s.2.2.2.2 (a,b)then(122,s)else(0,s.1,s.2.1,s.2.2.1,s.2.2.2.1,mdel keqM s.2.2.2.2 (a,b))
theorem or_f{a b:Bool}(h:(a||b)=false):a=false/\b=false:=by cases a<;>cases b<;>simp_all
theorem ylA{a:Bool}(h:(!a)=false):a=true:=by cases a<;>simp_all
theorem PInv.users{B:Int}{s:PS}{U:UM}(h:PInv B s)(hR:Ri kltS U)(hL:U.length<=64)(hs:∀k u,(k,u)∈U->u.1=k/\nmB k=true/\txB u.2.1=true/\1<=u.2.2.2/\u.2.2.2<=B)(hk:∀k,mhas keqS s.1 k=true->mhas keqS U k=true):PInv B (U,s.2):=
 { h with
   uR:=hR,uL:=hL,us:=hs
   gl:=fun k g hg i hi=>⟨(h.gl k g hg i hi).1,fun x hx=>by
    have:=(h.gl k g hg i hi).2 x hx
    match i,hi with
    |0,_=>exact hk x this|1,_=>exact this|2,_=>exact this⟩
   ma:=fun p hp=>by
    obtain⟨h1,h2,h3,h4⟩:=h.ma p hp
    have hth:∀q,thB s q=true->thB (U,s.2) q=true:=fun q hq=>by
     unfold thB at *;cases hc:q.head? == some 99 with
     |true=>rw[hc]at hq;exact hq|false=>rw[hc]at hq;exact hk _ hq
    exact⟨h1,h2,hth _ h3,hth _ h4⟩ }
theorem addU_inv{B:Int}{n m:L8}{s:PS}(h:PInv B s)(hB:1<=B):PInv B (yzV n m s).2:=by
 unfold yzV;cases h1:!nmB n || !txB m with
 |true=>exact h|false=>
  obtain⟨h1,h2⟩:=or_f h1;have h1:=ylA h1;have h2:=ylA h2;cases h3:mhas keqS s.1 n with
  |true=>exact h|false=>
   by_cases h4:64<=s.1.length
   ·rw[zF,zF,zA h4];exact h
   ·rw[zF,zF,zB h4];refine h.users (kS.set_ri h.uR) (by rw[zyZ,h3];simp;omega) (fun k u hu=>?_) fun k hk=>?_
    ·rcases(kS.set_mem h.uR).1 hu with e|⟨hu,_⟩
     ·cases e;exact⟨rfl,h1,h2,gQ 1,hB⟩
     ·exact h.us k u hu
    ·obtain⟨v,hv⟩:=kS.has_iff.1 hk;refine kS.has_iff.2 ⟨v,(kS.set_mem h.uR).2 (.inr ⟨hv,fun e=>?_⟩)⟩;have e:k=n:=e;rw[e,h3]at hk;cases hk
theorem yuB{B:Int}{n:L8}{f:Us->Us}{s:PS}(h:PInv B s)(hf:∀u,(f u).1=u.1/\(txB u.2.1=true->txB (f u).2.1=true)/\(f u).2.2.2=u.2.2.2):PInv (B+1) (yqD n f s).2:=by
 have h':=h.mono (show B<=B+1 by omega);unfold yqD;cases h1:!nmB n with
 |true=>exact h'|false=>
  cases hg:mget keqS s.1 n with
  |none=>exact h'|some u=>
   have hu:=kS.get_some hg;have h2:=h.us n u hu;obtain⟨f1,f2,f3⟩:=hf u;have hh:mhas keqS s.1 n=true:=by rw[ziY,hg];rfl
   refine h'.users (kS.set_ri h.uR) (by rw[zyZ,zI hh];exact h.uL) (fun k v hv=>?_) fun k hk=>?_
   ·rcases(kS.set_mem h.uR).1 hv with e|⟨hv,_⟩
    ·cases e;by_cases hfu:f u=u
     ·rw[zI hfu];exact h'.us n u hu
     ·rw[zH hfu];exact⟨f1.trans h2.1,h2.2.1,f2 h2.2.2.1,by show 1<=(f u).2.2.2+1;omega,by show(f u).2.2.2+1<=B+1;omega⟩
    ·exact h'.us k v hv
   ·by_cases e:k=n
    ·subst e;exact kS.has_iff.2 ⟨_,(kS.set_mem h.uR).2 (.inl rfl)⟩
    ·obtain⟨v,hv⟩:=kS.has_iff.1 hk;exact kS.has_iff.2 ⟨v,(kS.set_mem h.uR).2 (.inr ⟨hv,e⟩)⟩
theorem setM_inv{B:Int}{n m:L8}{s:PS}(h:PInv B s):PInv (B+1) (xaY n m s).2:=by
 unfold xaY;cases h1:txB m with
 |false=>exact h.mono (by omega)|true=>exact yuB h fun u=>⟨rfl,fun _=>h1,rfl⟩
theorem setA_inv{B:Int}{n:L8}{b:Bool}{s:PS}(h:PInv B s):PInv (B+1) (ywW n b s).2:=yuB h fun _u=>⟨rfl,id,rfl⟩
theorem ykE{i k:Nat}(hi:i<3)(hk:k<3)(g:Gr)(l:List L8):lst i (stL k g l)=if i=k then l else lst i g:=by
 match i,k,hi,hk with
 |0,0,_,_=>rfl|0,1,_,_=>rfl|0,2,_,_=>rfl|1,0,_,_=>rfl|1,1,_,_=>rfl|1,2,_,_=>rfl|2,0,_,_=>rfl|2,1,_,_=>rfl|2,2,_,_=>rfl
theorem ynX(k:Nat)(g:Gr)(l:List L8):(stL k g l).2=g.2+1:=by unfold stL;split<;>rfl
theorem yxD{k:Nat}{n:L8}{G:GM}{m:L8}{g:Gr}:(m,g)∈zhG k n G↔∃g0,(m,g0)∈G/\g=bif(lst k g0).contains n then stL k g0 (woL n (lst k g0))else g0:=by
 unfold zhG mmap;rw[bF];constructor
 ·rintro⟨⟨m',g0⟩,h,e⟩;cases e;exact⟨g0,h,rfl⟩
 ·rintro⟨g0,h,rfl⟩;exact⟨(m,g0),h,rfl⟩
theorem yjU{k:Nat}(hk:k<3){n:L8}(g0:Gr){i:Nat}(hi:i<3):lst i (bif(lst k g0).contains n then stL k g0 (woL n (lst k g0))else g0)=if i=k then woL n (lst i g0)else lst i g0:=by
 cases hc:(lst k g0).contains n with
 |true=>
  rw[zE,ykE hi hk];by_cases e:i=k
  ·rw[zI e,zI e,e]
  ·rw[zH e,zH e]
 |false=>
  rw[zF];by_cases e:i=k
  ·subst e;rw[zI rfl];unfold woL;refine(List.filter_eq_self.2 fun y hy=>?_).symm;rw[bE,<-cB,beq_iff_eq];intro e;subst e;rw[bO.2 hy]at hc;cases hc
  ·rw[zH e]
theorem ymV{B:Int}{s t:PS}{k:Nat}(hk:k<3){n:L8}(h:PInv B s)(hu:t.1.Sublist s.1)(hg:∃G:GM,G.Sublist s.2.1/\t.2.1=zhG k n G)(hr:t.2.2.1.Sublist s.2.2.1)(hc:t.2.2.2.1.Sublist s.2.2.2.1)(hm:t.2.2.2.2.Sublist s.2.2.2.2) (hh:∀i,i<3->∀x,hasK i s x=true->(i=k->x≠n)->hasK i t x=true) (hth:∀p∈t.2.2.2.2,thB t p.1.1=true/\thB t p.1.2=true):PInv (B+1) t:=by
 obtain⟨G,hG,e⟩:=hg;have hmem:∀m g,(m,g)∈t.2.1->∃g0,(m,g0)∈s.2.1/\g=bif(lst k g0).contains n then stL k g0 (woL n (lst k g0))else g0:=fun m g hg=>by rw[e]at hg;obtain⟨g0,h0,h1⟩:=yxD.1 hg;exact⟨g0,hG.subset h0,h1⟩
 refine⟨h.uR.sublist hu,?_,h.rR.sublist hr,h.cR.sublist hc,h.mR.sublist hm,aY hu.length_le h.uL,?_,aY hr.length_le h.rL,aY hc.length_le h.cL,aY hm.length_le h.mL,fun k' u h'=>?_,fun m g h'=>?_,fun m g h' i hi=>?_,fun k' r h'=>h.ro k' r (hr.subset h'),fun k' c h'=>h.cl k' c (hc.subset h'),fun p hp=>?_,?_⟩
 ·rw[e];exact ynO (h.gR.sublist hG)
 ·rw[e];unfold zhG mmap;rw[List.length_map];exact aY hG.length_le h.gL
 ·obtain⟨a,b,c,d,f⟩:=h.us k' u (hu.subset h');exact⟨a,b,c,d,by omega⟩
 ·obtain⟨g0,h0,rfl⟩:=hmem m g h';obtain⟨a,b,c⟩:=h.gn m g0 h0;refine⟨a,?_⟩;cases (lst k g0).contains n with
  |true=>rw[zE,ynX];exact⟨by omega,by omega⟩|false=>rw[zF];exact⟨b,by omega⟩
 ·obtain⟨g0,h0,rfl⟩:=hmem m g h';obtain⟨a,b⟩:=h.gl m g0 h0 i hi;rw[yjU hk g0 hi];by_cases e:i=k
  ·rw[zI e];refine⟨woL_ri a,fun x hx=>?_⟩;obtain⟨h1,h2⟩:=ymH.1 hx;exact hh i hi x (b x h1) fun _=>h2
  ·rw[zH e];exact⟨a,fun x hx=>hh i hi x (b x hx) fun e'=>absurd e' e⟩
 ·have:=h.ma p (hm.subset hp);exact⟨this.1,this.2.1,hth p hp⟩
 ·obtain⟨r,hr⟩:=h.ac;refine⟨r,fun m g hm x hx=>?_⟩;obtain⟨g0,h0,rfl⟩:=hmem m g hm;rw[yjU hk g0 (by decide)]at hx;refine hr m g0 h0 x ?_;by_cases e:1=k
  ·rw[zI e]at hx;exact(ymH.1 hx).1
  ·rw[zH e]at hx;exact hx
theorem yhY{γ:Type}{es:List (L8×γ)}(h:Ri kltS es){n x:L8}(hx:mhas keqS es x=true)(hn:x≠n):mhas keqS (mdel keqS es n) x=true:=by obtain⟨v,hv⟩:=kS.has_iff.1 hx;exact kS.has_iff.2 ⟨v,(kS.del_mem h).2 ⟨hv,hn⟩⟩
theorem yeK(k:Nat)(n:L8)(G:GM)(x:L8):mhas keqS (zhG k n G) x=mhas keqS G x:=by rw[ziY,ziY];unfold zhG;rw[zwV _ kS];cases mget keqS G x<;>rfl
theorem ykQ{p:L8}{M:MM}{m:(L8×L8)×Unit}:m∈zsX p M↔m∈M/\m.1.1≠p/\m.1.2≠p:=by
 unfold zsX;rw[cD,bE,cI];refine and_congr Iff.rfl (and_congr ?_ ?_)
 ·rw[<-cB,beq_iff_eq]
 ·rw[<-cB,beq_iff_eq]
theorem th_u{s t:PS}{n:L8}(hs:Ri kltS s.1)(e1:t.1=mdel keqS s.1 n)(e2:t.2.2.2.1=s.2.2.2.1){q:L8}(hp:prB q=true)(hq:thB s q=true)(hn:q≠117::58::n):thB t q=true:=by
 obtain⟨c,l,rfl,hc,_⟩:=yhT hp;unfold thB at *;rcases hc with rfl|rfl
 ·have hq:mhas keqS s.1 l=true:=hq;show mhas keqS t.1 l=true;rw[e1];exact yhY hs hq fun e=>hn (by rw[e])
 ·have hq:mhas keqS s.2.2.2.1 l=true:=hq;show mhas keqS t.2.2.2.1 l=true;rw[e2];exact hq
theorem th_c{s t:PS}{n:L8}(hs:Ri kltS s.2.2.2.1)(e1:t.1=s.1)(e2:t.2.2.2.1=mdel keqS s.2.2.2.1 n){q:L8}(hp:prB q=true)(hq:thB s q=true)(hn:q≠99::58::n):thB t q=true:=by
 obtain⟨c,l,rfl,hc,_⟩:=yhT hp;unfold thB at *;rcases hc with rfl|rfl
 ·have hq:mhas keqS s.1 l=true:=hq;show mhas keqS t.1 l=true;rw[e1];exact hq
 ·have hq:mhas keqS s.2.2.2.1 l=true:=hq;show mhas keqS t.2.2.2.1 l=true;rw[e2];exact yhY hs hq fun e=>hn (by rw[e])
theorem xaN{B:Int}{n:L8}{s:PS}(h:PInv B s):PInv (B+1) (ypK n s).2:=by
 have h':=h.mono (show B<=B+1 by omega);unfold ypK;cases h1:!nmB n with
 |true=>exact h'|false=>
  cases h2:!mhas keqS s.1 n with
  |true=>exact h'|false=>
   show PInv (B+1) (mdel keqS s.1 n,zhG 0 n s.2.1,s.2.2.1,s.2.2.2.1,zsX (117::58::n) s.2.2.2.2);refine ymV (k:=0) (by decide) h (zuE _ _) ⟨_,List.Sublist.refl _,rfl⟩ (List.Sublist.refl _) (List.Sublist.refl _) eR (fun i hi x hx hn=>?_) fun p hp=>?_
   ·match i,hi with
    |0,_=>exact yhY h.uR hx (hn rfl)|1,_=>exact(yeK 0 n s.2.1 x).trans hx|2,_=>exact hx
   ·obtain⟨h3,h4,h5⟩:=ykQ.1 hp;obtain⟨m1,m2,m3,m4⟩:=h.ma p h3;have tu:=fun {q:L8}=>th_u (q:=q) (t:=(mdel keqS s.1 n,zhG 0 n s.2.1,s.2.2.1,s.2.2.2.1,zsX (117::58::n) s.2.2.2.2)) h.uR rfl rfl;exact⟨tu m1 m3 h4,tu m2 m4 h5⟩
theorem zuM{s t:PS}(e1:t.1=s.1)(e2:t.2.2.2.1=s.2.2.2.1)(q:L8):thB t q=thB s q:=by unfold thB;rw[e1,e2]
theorem xaF{B:Int}{n:L8}{s:PS}(h:PInv B s):PInv (B+1) (ypN n s).2:=by
 have h':=h.mono (show B<=B+1 by omega);unfold ypN;cases h1:!nmB n with
 |true=>exact h'|false=>
  cases h2:!mhas keqS s.2.1 n with
  |true=>exact h'|false=>
   show PInv (B+1) (s.1,zhG 1 n (mdel keqS s.2.1 n),s.2.2);refine ymV (k:=1) (by decide) h (List.Sublist.refl _) ⟨_,zuE _ _,rfl⟩ (List.Sublist.refl _) (List.Sublist.refl _) (List.Sublist.refl _) (fun i hi x hx hn=>?_) fun p hp=>?_
   ·match i,hi with
    |0,_=>exact hx|1,_=>exact(yeK 1 n _ x).trans (yhY h.gR hx (hn rfl))|2,_=>exact hx
   ·obtain⟨m1,m2,m3,m4⟩:=h.ma p hp;exact⟨(zuM rfl rfl _).trans m3,(zuM rfl rfl _).trans m4⟩
theorem yzZ{B:Int}{n:L8}{s:PS}(h:PInv B s):PInv (B+1) (yoZ n s).2:=by
 have h':=h.mono (show B<=B+1 by omega);unfold yoZ;cases h1:!nmB n with
 |true=>exact h'|false=>
  cases h2:!mhas keqS s.2.2.1 n with
  |true=>exact h'|false=>
   show PInv (B+1) (s.1,zhG 2 n s.2.1,mdel keqS s.2.2.1 n,s.2.2.2);refine ymV (k:=2) (by decide) h (List.Sublist.refl _) ⟨_,List.Sublist.refl _,rfl⟩ (zuE _ _) (List.Sublist.refl _) (List.Sublist.refl _) (fun i hi x hx hn=>?_) fun p hp=>?_
   ·match i,hi with
    |0,_=>exact hx|1,_=>exact(yeK 2 n _ x).trans hx|2,_=>exact yhY h.rR hx (hn rfl)
   ·obtain⟨m1,m2,m3,m4⟩:=h.ma p hp;exact⟨(zuM rfl rfl _).trans m3,(zuM rfl rfl _).trans m4⟩
theorem yhL{B:Int}{s:PS}{n:L8}{g:Gr}(h:PInv B s)(_hB:1<=B)(hn:nmB n=true)(hL:mhas keqS s.2.1 n=true∨s.2.1.length<32)(hv:1<=g.2/\g.2<=B+1)(hl:∀i,i<3->RiL (lst i g)/\∀x∈lst i g,hasK i s x=true)(ha:Acy (mset keqS kltS s.2.1 n g)):
  PInv (B+1) (s.1,mset keqS kltS s.2.1 n g,s.2.2):=by
 have h':=h.mono (show B<=B+1 by omega)
 have hk:∀i,i<3->∀x,hasK i s x=true->hasK i (s.1,mset keqS kltS s.2.1 n g,s.2.2) x=true:=fun i hi x hx=>by
  match i,hi with
  |0,_=>exact hx|1,_=>
   obtain⟨v,hv⟩:=kS.has_iff.1 (show mhas keqS s.2.1 x=true from hx);by_cases e:x=n
   ·subst e;exact kS.has_iff.2 ⟨_,(kS.set_mem h.gR).2 (.inl rfl)⟩
   ·exact kS.has_iff.2 ⟨v,(kS.set_mem h.gR).2 (.inr ⟨hv,e⟩)⟩
  |2,_=>exact hx
 refine { h' with gR:=kS.set_ri h.gR,gL:=?_,gn:=fun k v hv'=>?_,gl:=fun k v hv' i hi=>?_,ma:=fun p hp=>?_,ac:=ha }
 ·rw[zyZ];rcases hL with e|e
  ·rw[zI e];exact h.gL
  ·have:=h.gL;split<;>omega
 ·rcases(kS.set_mem h.gR).1 hv' with e|⟨hv',_⟩
  ·cases e;exact⟨hn,hv.1,hv.2⟩
  ·exact h'.gn k v hv'
 ·rcases(kS.set_mem h.gR).1 hv' with e|⟨hv',_⟩
  ·cases e;exact⟨(hl i hi).1,fun x hx=>hk i hi x ((hl i hi).2 x hx)⟩
  ·exact⟨(h.gl k v hv' i hi).1,fun x hx=>hk i hi x ((h.gl k v hv' i hi).2 x hx)⟩
 ·obtain⟨m1,m2,m3,m4⟩:=h.ma p hp;exact⟨m1,m2,(zuM rfl rfl _).trans m3,(zuM rfl rfl _).trans m4⟩
theorem ymZ{G:GM}(hR:Ri kltS G){n:L8}{g:Gr}(h:Acy G)(hs:∀x∈lst 1 g,∃g0,(n,g0)∈G/\x∈lst 1 g0):Acy (mset keqS kltS G n g):=by
 obtain⟨r,hr⟩:=h;refine⟨r,fun m v hv x hx=>?_⟩;rcases(kS.set_mem hR).1 hv with e|⟨hv,_⟩
 ·cases e;obtain⟨g0,h0,h1⟩:=hs x hx;exact hr n g0 h0 x h1
 ·exact hr m v hv x hx
theorem acy_more{G:GM}(hR:Ri kltS G){n y:L8}{g:Gr}(h:Acy G)(hn:¬Reach G y n)(hs:∀x∈lst 1 g,x=y∨∃g0,(n,g0)∈G/\x∈lst 1 g0):Acy (mset keqS kltS G n g):=by
 obtain⟨r,hr⟩:=h
 classical
 refine⟨fun x=>if Reach G y x then r x else r x+(r y+1),fun m v hv x hx=>?_⟩
 have hold:∀m v,(m,v)∈G->x∈lst 1 v->(if Reach G y x then r x else r x+(r y+1))<(if Reach G y m then r m else r m+(r y+1)):=fun m v hv hx=>by
  have h1:=hr m v hv x hx;by_cases hm:Reach G y m
  ·rw[zI hm,zI (.step hm hv hx)];exact h1
  ·rw[zH hm];split<;>omega
 rcases(kS.set_mem hR).1 hv with e|⟨hv,_⟩
 ·cases e;rcases hs x hx with rfl|⟨g0,h0,h1⟩
  ·show(if Reach G x x then _ else _)<(if Reach G x n then _ else _);rw[zI .refl,zH hn];omega
  ·exact hold n g0 h0 h1
 ·exact hold m v hv hx
theorem addG_inv{B:Int}{n:L8}{s:PS}(h:PInv B s)(hB:1<=B):PInv (B+1) (xaW n s).2:=by
 have h':=h.mono (show B<=B+1 by omega);unfold xaW;cases h1:!nmB n with
 |true=>exact h'|false=>
  cases h2:mhas keqS s.2.1 n with
  |true=>exact h'|false=>
   by_cases h4:32<=s.2.1.length
   ·rw[zF,zF,zA h4];exact h'
   ·rw[zF,zF,zB h4];refine yhL h hB (ylA h1) (.inr (by omega)) ⟨by decide,by show(1:Int)<=B+1;omega⟩ (fun i hi=>?_) (ymZ h.gR h.ac fun x hx=>by cases hx)
    match i,hi with
    |0,_=>exact⟨.nil,fun _ h=>(by cases h)⟩|1,_=>exact⟨.nil,fun _ h=>(by cases h)⟩|2,_=>exact⟨.nil,fun _ h=>(by cases h)⟩
theorem ymN{B:Int}{k:Nat}(hk:k<3){n x:L8}{s:PS}(h:PInv B s)(hB:1<=B):PInv (B+1) (yhU k n x s).2:=by
 have h':=h.mono (show B<=B+1 by omega);unfold yhU;cases h1:!nmB n || !nmB x with
 |true=>exact h'|false=>
  obtain⟨h1,_⟩:=or_f h1;cases hg:mget keqS s.2.1 n with
  |none=>exact h'|some g=>
   simp only[zF];cases h2:hasK k s x with
   |false=>exact h'|true=>
    cases h3:(lst k g).contains x with
    |true=>exact h'|false=>
     simp only[aW,zF];by_cases h4:k=1/\Reach s.2.1 x n
     ·rw[zI h4];exact h'
     ·rw[zH h4];have hm:=kS.get_some hg;have h5:=h.gn n g hm;have hx:x∉lst k g:=fun hx=>by rw[bO.2 hx]at h3;cases h3
      refine yhL h hB (ylA h1) (.inl (by rw[ziY,hg];rfl)) ⟨by rw[ynX];omega,by rw[ynX];omega⟩ (fun i hi=>?_) ?_
      ·rw[ykE hi hk];obtain⟨a,b⟩:=h.gl n g hm i hi;by_cases e:i=k
       ·subst e;rw[zI rfl];refine⟨withL_ri a hx,fun y hy=>?_⟩;rcases yqG.1 hy with rfl|hy
        ·exact h2
        ·exact b y hy
       ·rw[zH e];exact⟨a,b⟩
      ·by_cases e:k=1
       ·subst e;refine acy_more h.gR (y:=x) h.ac (fun hr=>h4 ⟨rfl,hr⟩) fun y hy=>?_;rw[ykE (by decide) (by decide),zI rfl]at hy;rcases yqG.1 hy with rfl|hy
        ·exact .inl rfl
        ·exact .inr ⟨g,hm,hy⟩
       ·refine ymZ h.gR h.ac fun y hy=>?_;rw[ykE (by decide) hk,zH fun h=>e h.symm]at hy;exact⟨g,hm,hy⟩
theorem yjD{B:Int}{k:Nat}(hk:k<3){n x:L8}{s:PS}(h:PInv B s)(hB:1<=B):PInv (B+1) (zzY k n x s).2:=by
 have h':=h.mono (show B<=B+1 by omega);unfold zzY;cases h1:!nmB n || !nmB x with
 |true=>exact h'|false=>
  obtain⟨h1,_⟩:=or_f h1;cases hg:mget keqS s.2.1 n with
  |none=>exact h'|some g=>
   simp only[zF];cases h2:hasK k s x with
   |false=>exact h'|true=>
    cases h3:(lst k g).contains x with
    |false=>exact h'|true=>
     simp only[aW,zF];have hm:=kS.get_some hg;have h5:=h.gn n g hm;refine yhL h hB (ylA h1) (.inl (by rw[ziY,hg];rfl)) ⟨by rw[ynX];omega,by rw[ynX];omega⟩ (fun i hi=>?_) (ymZ h.gR h.ac fun y hy=>?_)
     ·rw[ykE hi hk];obtain⟨a,b⟩:=h.gl n g hm i hi;by_cases e:i=k
      ·subst e;rw[zI rfl];exact⟨woL_ri a,fun y hy=>b y (ymH.1 hy).1⟩
      ·rw[zH e];exact⟨a,b⟩
     ·rw[ykE (by decide) hk]at hy;by_cases e:1=k
      ·subst e;rw[zI rfl]at hy;exact⟨g,hm,(ymH.1 hy).1⟩
      ·rw[zH e]at hy;exact⟨g,hm,hy⟩
theorem ytT{B:Int}{r:Ro}{s:PS}(h:PInv B s):PInv B (ynF r s).2:=by
 unfold ynF;cases h1:yjE r with
 |false=>exact h|true=>
  cases h2:!mhas keqS s.2.2.1 r.1&&decide (32<=s.2.2.1.length) with
  |true=>exact h|false=>
   have hk:∀x,mhas keqS s.2.2.1 x=true->mhas keqS (mset keqS kltS s.2.2.1 r.1 r) x=true:=fun x hx=>by
    obtain⟨v,hv⟩:=kS.has_iff.1 hx;by_cases e:x=r.1
    ·subst e;exact kS.has_iff.2 ⟨_,(kS.set_mem h.rR).2 (.inl rfl)⟩
    ·exact kS.has_iff.2 ⟨v,(kS.set_mem h.rR).2 (.inr ⟨hv,e⟩)⟩
   refine { h with rR:=kS.set_ri h.rR,rL:=?_,ro:=fun k v hv=>?_,gl:=fun k g hg i hi=>⟨(h.gl k g hg i hi).1,fun x hx=>?_⟩,ma:=fun p hp=>?_ }
   ·have:=h.rL;show(mset keqS kltS s.2.2.1 r.1 r).length<=32;rw[zyZ];cases h3:mhas keqS s.2.2.1 r.1 with
    |true=>rw[zI rfl];exact this|false=>rw[h3]at h2;have:¬32<=s.2.2.1.length:=of_decide_eq_false (by simpa using h2);rw[zH (by simp)];omega
   ·have:=(h.gl k g hg i hi).2 x hx
    match i,hi with
    |0,_=>exact this|1,_=>exact this|2,_=>exact hk x this
   ·rcases(kS.set_mem h.rR).1 hv with e|⟨hv,_⟩
    ·cases e;exact⟨rfl,h1⟩
    ·exact h.ro k v hv
   ·obtain⟨m1,m2,m3,m4⟩:=h.ma p hp;exact⟨m1,m2,(zuM rfl rfl _).trans m3,(zuM rfl rfl _).trans m4⟩
theorem yuX{B:Int}{c:Cl}{s:PS}(h:PInv B s):PInv B (ymD c s).2:=by
 unfold ymD;cases h1:cliB c with
 |false=>exact h|true=>
  cases h2:!mhas keqS s.2.2.2.1 c.1&&decide (32<=s.2.2.2.1.length) with
  |true=>exact h|false=>
   have hk:∀x,mhas keqS s.2.2.2.1 x=true->mhas keqS (mset keqS kltS s.2.2.2.1 c.1 c) x=true:=fun x hx=>by
    obtain⟨v,hv⟩:=kS.has_iff.1 hx;by_cases e:x=c.1
    ·subst e;exact kS.has_iff.2 ⟨_,(kS.set_mem h.cR).2 (.inl rfl)⟩
    ·exact kS.has_iff.2 ⟨v,(kS.set_mem h.cR).2 (.inr ⟨hv,e⟩)⟩
   refine { h with cR:=kS.set_ri h.cR,cL:=?_,cl:=fun k v hv=>?_,ma:=fun p hp=>?_,gl:=fun k g hg i hi=>⟨(h.gl k g hg i hi).1,fun x hx=>?_⟩ }
   ·have:=h.cL;show(mset keqS kltS s.2.2.2.1 c.1 c).length<=32;rw[zyZ];cases h3:mhas keqS s.2.2.2.1 c.1 with
    |true=>rw[zI rfl];exact this|false=>rw[h3]at h2;have:¬32<=s.2.2.2.1.length:=of_decide_eq_false (by simpa using h2);rw[zH (by simp)];omega
   ·have:=(h.gl k g hg i hi).2 x hx
    match i,hi with
    |0,_=>exact this|1,_=>exact this|2,_=>exact this
   ·rcases(kS.set_mem h.cR).1 hv with e|⟨hv,_⟩
    ·cases e;exact⟨rfl,h1⟩
    ·exact h.cl k v hv
   ·have hth:∀q,thB s q=true->thB (s.1,s.2.1,s.2.2.1,mset keqS kltS s.2.2.2.1 c.1 c,s.2.2.2.2) q=true:=fun q hq=>by
     unfold thB at *;cases hc:q.head? == some 99 with
     |true=>rw[hc]at hq;exact hk _ hq|false=>rw[hc]at hq;exact hq
    obtain⟨m1,m2,m3,m4⟩:=h.ma p hp;exact⟨m1,m2,hth _ m3,hth _ m4⟩
theorem xdK{B:Int}{n:L8}{s:PS}(h:PInv B s):PInv B (yqU n s).2:=by
 unfold yqU;cases h1:!nmB n with
 |true=>exact h|false=>
  cases h2:!mhas keqS s.2.2.2.1 n with
  |true=>exact h|false=>
   show PInv B (s.1,s.2.1,s.2.2.1,mdel keqS s.2.2.2.1 n,zsX (99::58::n) s.2.2.2.2);refine { h with cR:=yyT h.cR,cL:=aY (zuE _ _).length_le h.cL,cl:=fun k v hv=>h.cl k v ((zuE _ _).subset hv),mR:=h.mR.sublist eR,mL:=aY List.filter_sublist.length_le h.mL,ma:=fun p hp=>?_,gl:=fun k g hg i hi=>⟨(h.gl k g hg i hi).1,fun x hx=>?_⟩ }
   ·have:=(h.gl k g hg i hi).2 x hx
    match i,hi with
    |0,_=>exact this|1,_=>exact this|2,_=>exact this
   ·obtain⟨h3,h4,h5⟩:=ykQ.1 hp;obtain⟨m1,m2,m3,m4⟩:=h.ma p h3;have tu:=fun {q:L8}=>th_c (q:=q) (t:=(s.1,s.2.1,s.2.2.1,mdel keqS s.2.2.2.1 n,zsX (99::58::n) s.2.2.2.2)) h.cR rfl rfl;exact⟨m1,m2,tu m1 m3 h4,tu m2 m4 h5⟩
theorem yuP{B:Int}{s:PS}{M:MM}(h:PInv B s)(hR:Ri kltM M)(hL:M.length<=64)(hm:∀p∈M,prB p.1.1=true/\prB p.1.2=true/\thB s p.1.1=true/\thB s p.1.2=true):PInv B (s.1,s.2.1,s.2.2.1,s.2.2.2.1,M):=
 { h with
   mR:=hR,mL:=hL
   ma:=fun p hp=>by obtain⟨m1,m2,m3,m4⟩:=hm p hp;exact⟨m1,m2,(zuM rfl rfl _).trans m3,(zuM rfl rfl _).trans m4⟩
   gl:=fun k g hg i hi=>⟨(h.gl k g hg i hi).1,fun x hx=>by
    have:=(h.gl k g hg i hi).2 x hx
    match i,hi with
    |0,_=>exact this|1,_=>exact this|2,_=>exact this⟩ }
theorem xdJ{B:Int}{a b:L8}{s:PS}(h:PInv B s):PInv B (yqH a b s).2:=by
 unfold yqH;cases h1:!prB a || !prB b with
 |true=>exact h|false=>
  obtain⟨h1,h2⟩:=or_f h1;cases h3:!thB s a || !thB s b with
  |true=>exact h|false=>
   obtain⟨h3,h4⟩:=or_f h3;cases h5:mhas keqM s.2.2.2.2 (a,b) with
   |true=>exact h|false=>
    by_cases h6:64<=s.2.2.2.2.length
    ·rw[zF,zF,zF,zA h6];exact h
    ·rw[zF,zF,zF,zB h6];refine yuP h (kSS.set_ri h.mR) (by rw[zyZ,h5];simp;omega) fun p hp=>?_;rcases(kSS.set_mem h.mR).1 hp with rfl|⟨hp,_⟩
     ·exact⟨ylA h1,ylA h2,ylA h3,ylA h4⟩
     ·exact h.ma p hp
theorem deny_inv{B:Int}{a b:L8}{s:PS}(h:PInv B s):PInv B (xcP a b s).2:=by
 unfold xcP;cases h1:!prB a || !prB b with
 |true=>exact h|false=>
  cases h3:!thB s a || !thB s b with
  |true=>exact h|false=>
   cases h5:!mhas keqM s.2.2.2.2 (a,b) with
   |true=>exact h|false=>exact yuP h (yyT h.mR) (aY (zuE _ _).length_le h.mL) fun p hp=>h.ma p ((zuE _ _).subset hp)
theorem xdH:PInv 1 (([]:UM),([]:GM),([]:RM),([]:CM),([]:MM)):=
 ⟨.nil,.nil,.nil,.nil,.nil,by decide,by decide,by decide,by decide,by decide,fun _ _ h=>(by cases h),fun _ _ h=>(by cases h),fun _ _ h=>(by cases h),fun _ _ h=>(by cases h),fun _ _ h=>(by cases h),fun _ h=>(by cases h),⟨fun _=>0,fun _ _ h=>(by cases h)⟩⟩
end Go.Proofs.YtopanhneegpgcaaGreatDoor.Am
