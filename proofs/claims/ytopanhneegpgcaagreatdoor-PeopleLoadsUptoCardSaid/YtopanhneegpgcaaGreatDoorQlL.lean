/- Parts of one proof. Conditions: as each theorem says. -/
import Derived.KernelRfl
import Derived.Test.YtopanhneegpgcaaGreatDoorQlK
open Bool renaming and_eq_true->aF,and_true->eI,eq_iff_iff->eD,false_or->eQ,not_true->bM,or_eq_true->bY,true_and->cO
open Int renaming le_refl->fW,toNat_natCast->bT
open List renaming all_cons->cI,all_eq_true->aY,append_nil->bK,cons_ne_nil->gC,contains_iff_mem->cF,drop_drop->eA,drop_eq_getElem_cons->aX,drop_length->bX,drop_take->fX,drop_zero->bQ,getElem?_drop->bR,getElem?_eq_getElem->aO,getElem?_eq_some_iff->aD,getElem_cons_succ->iS,getElem_mem->bE,length_append->aC,length_cons->aN,length_drop->bH,length_nil->cC,length_take->bA,map->cU,map_map->dF,mem_append->bD,mem_cons->aK,mem_cons_of_mem->aL,mem_cons_self->aM,mem_filter->cH,mem_map->aR,not_lt->fV,pairwise_cons->aW,pairwise_map->bI,pairwise_singleton->bZ,takeWhile_append_dropWhile->cM,takeWhile_cons->eS,takeWhile_sublist->fP,take_length->dN,take_of_length_le->cX,take_succ_eq_append_getElem->cD
open Nat renaming add_sub_cancel->jG,add_zero->fZ,ble->cK,le_refl->aI,le_trans->bC,zero_le->aZ
open Option renaming bind->aQ
open Go.Proofs.Tryz renaming prog->aA
namespace Go.Proofs.YtopanhneegpgcaaGreatDoor.Am
open Go Go.RowKit
structure KO {κ:Type} (eq lt:κ->κ->Bool):Prop where
 e:∀{a b},eq a b=true↔a=b
 irr:∀{a},lt a a=false
 tr:∀{a b c},lt a b=true->lt b c=true->lt a c=true
 tri:∀{a b},lt a b=false->a≠b->lt b a=true
section
variable {κ γ δ:Type}{eq lt:κ->κ->Bool}
def Ri(lt:κ->κ->Bool)(es:List (κ×γ)):Prop:=es.Pairwise fun x y=>lt x.1 y.1=true
theorem KO.ne(o:KO eq lt){a b:κ}(h:a≠b):eq a b=false:=by
 cases hb:eq a b with
 |false=>rfl|true=>exact absurd (o.e.1 hb) h
theorem KO.lt_ne(o:KO eq lt){a b:κ}(h:lt a b=true):a≠b:=fun e=>by subst e;rw[o.irr]at h;cases h
theorem KO.get_mem(o:KO eq lt):∀{es:List (κ×γ)},Ri lt es->∀{k v},(k,v)∈es->mget eq es k=some v
 |(k',v')::m,h,k,v,hm=>by
  unfold mget;rcases aK.1 hm with e|hm
  ·cases e;rw[o.e.2 rfl];rfl
  ·have hlt:=(aW.1 h).1 _ hm;rw[o.ne (o.lt_ne hlt)];exact o.get_mem (aW.1 h).2 hm
theorem KO.get_some(o:KO eq lt):∀{es:List (κ×γ)} {k v},mget eq es k=some v->(k,v)∈es
 |(k',v')::m,k,v,h=>by
  unfold mget at h;cases hk:eq k' k with
  |true=>rw[hk]at h;cases h;rw[o.e.1 hk];exact aM
  |false=>rw[hk]at h;exact aL _ (o.get_some h)
theorem KO.get_iff(o:KO eq lt){es:List (κ×γ)}(h:Ri lt es){k v}:mget eq es k=some v↔(k,v)∈es:=⟨o.get_some,o.get_mem h⟩
theorem ybO:∀(es:List (κ×γ)) (k:κ),mhas eq es k=(mget eq es k).isSome
 |[],_=>rfl|(k',v')::m,k=>by
  unfold mhas mget;cases eq k' k with
  |true=>rfl|false=>rw[eQ,zF];exact ybO m k
theorem zjY(es:List (κ×γ))(k:κ)(z:γ):zeD eq es k z=(mget eq es k).getD z:=by unfold zeD;cases mget eq es k<;>rfl
theorem KO.has_iff(o:KO eq lt){es:List (κ×γ)}{k}:mhas eq es k=true↔∃v,(k,v)∈es:=by
 rw[ybO,Option.isSome_iff_exists];constructor
 ·exact fun⟨v,h⟩=>⟨v,o.get_some h⟩
 ·rintro⟨v,h⟩;induction es with
  |nil=>cases h
  |cons p m ih=>
   obtain⟨k',v'⟩:=p;unfold mget;cases hk:eq k' k with
   |true=>exact⟨_,rfl⟩|false=>refine ih ((aK.1 h).resolve_left fun e=>?_);cases e;rw[o.e.2 rfl]at hk;cases hk
theorem KO.no_get(o:KO eq lt){es:List (κ×γ)}{k}(h:∀v,(k,v)∉es):mget eq es k=none:=by
 cases hg:mget eq es k with
 |none=>rfl|some v=>exact absurd (o.get_some hg) (h v)
theorem KO.ext(o:KO eq lt):∀{es fs:List (κ×γ)},Ri lt es->Ri lt fs->(∀p,p∈es↔p∈fs)->es=fs
 |[],[],_,_,_=>rfl|[],q::fs,_,_,h=>absurd ((h q).2 aM) (by simp)|p::es,[],_,_,h=>absurd ((h p).1 aM) (by simp)|p::es,q::fs,h1,h2,h=>by
  have c1:=aW.1 h1;have c2:=aW.1 h2;have asym:∀{a b:κ},lt a b=true->lt b a=true->False:=fun h k=>by have:=o.tr h k;rw[o.irr]at this;cases this
  have e:p=q:=by
   rcases aK.1 ((h p).1 aM)with e|e
   ·exact e
   ·rcases aK.1 ((h q).2 aM)with e'|e'
    ·exact e'.symm
    ·exact(asym (c2.1 p e) (c1.1 q e')).elim
  subst e;rw[o.ext c1.2 c2.2 fun r=>?_];constructor
  ·intro hr;refine(aK.1 ((h r).1 (aL _ hr))).resolve_left fun e=>?_;subst e;exact o.lt_ne (c1.1 r hr) rfl
  ·intro hr;refine(aK.1 ((h r).2 (aL _ hr))).resolve_left fun e=>?_;subst e;exact o.lt_ne (c2.1 r hr) rfl
theorem KO.ext_get(o:KO eq lt){es fs:List (κ×γ)}(h1:Ri lt es)(h2:Ri lt fs)(h:∀k,mget eq es k=mget eq fs k):es=fs:=
 o.ext h1 h2 fun p=>by rw[<-o.get_iff h1 (k:=p.1) (v:=p.2),h,o.get_iff h2]
theorem KO.rep_mem(o:KO eq lt):∀{es:List (κ×γ)},Ri lt es->∀{k:κ} {v:γ} {p},mhas eq es k=true->(p∈mrep eq es k v↔p=(k,v)∨(p∈es/\p.1≠k))
 |(k',v')::m,h,k,v,p,hh=>by
  have hc:=aW.1 h;unfold mrep;cases hk:eq k' k with
  |true=>
   have e:=o.e.1 hk;subst e;rw[zE,aK,aK];constructor
   ·rintro(rfl|hp)
    ·exact .inl rfl
    ·exact .inr ⟨.inr hp,fun e=>o.lt_ne (hc.1 p hp) e.symm⟩
   ·rintro(rfl|⟨rfl|hp,hn⟩)
    ·exact .inl rfl
    ·exact absurd rfl hn
    ·exact .inr hp
  |false=>
   have hne:k'≠k:=fun e=>by rw[o.e.2 e]at hk;cases hk
   have hh:mhas eq m k=true:=by unfold mhas at hh;rw[hk,eQ]at hh;exact hh
   rw[zF,aK,aK,o.rep_mem hc.2 hh];constructor
   ·rintro(rfl|rfl|⟨hp,hn⟩)
    ·exact .inr ⟨.inl rfl,hne⟩
    ·exact .inl rfl
    ·exact .inr ⟨.inr hp,hn⟩
   ·rintro(rfl|⟨rfl|hp,hn⟩)
    ·exact .inr (.inl rfl)
    ·exact .inl rfl
    ·exact .inr (.inr ⟨hp,hn⟩)
theorem KO.rep_keys(o:KO eq lt):∀(es:List (κ×γ)) (k:κ) (v:γ),(mrep eq es k v).map (·.1)=es.map (·.1)
 |[],_,_=>rfl|(k',v')::m,k,v=>by
  unfold mrep;cases hk:eq k' k with
  |true=>rw[o.e.1 hk];rfl|false=>simp only[zF,List.map_cons,o.rep_keys m k v]
theorem yzY{es:List (κ×γ)}{fs:List (κ×δ)}(h:es.map (·.1)=fs.map (·.1))(hf:Ri lt fs):Ri lt es:=by have:(fs.map (·.1)).Pairwise (fun x y=>lt x y=true):=bI.2 hf;rw[<-h]at this;exact bI.1 this
theorem ysH:∀{es:List (κ×γ)} {k:κ} {v:γ} {p},p∈mins lt es k v↔p=(k,v)∨p∈es
 |[],k,v,p=>by unfold mins;simp
 |(k',v')::m,k,v,p=>by
  unfold mins;cases lt k' k with
  |true=>
   rw[zE,aK,aK,ysH];constructor
   ·rintro(h|h|h)
    ·exact .inr (.inl h)
    ·exact .inl h
    ·exact .inr (.inr h)
   ·rintro(h|h|h)
    ·exact .inr (.inl h)
    ·exact .inl h
    ·exact .inr (.inr h)
  |false=>rw[zF,aK]
theorem KO.ins_ri(o:KO eq lt):∀{es:List (κ×γ)} {k:κ} {v:γ},Ri lt es->(∀v',(k,v')∉es)->Ri lt (mins lt es k v)
 |[],_,_,_,_=>bZ _ _|(k',v')::m,k,v,h,hn=>by
  have hc:=aW.1 h;have hne:k'≠k:=fun e=>hn v' (by rw[e];exact aM);unfold mins;cases hk:lt k' k with
  |true=>
   simp only[zE];refine aW.2 ⟨fun p hp=>?_,o.ins_ri hc.2 fun v2 h2=>hn v2 (aL _ h2)⟩;rcases ysH.1 hp with rfl|hp
   ·exact hk
   ·exact hc.1 p hp
  |false=>
   simp only[zF];have hlt:lt k k'=true:=o.tri hk hne;refine aW.2 ⟨fun p hp=>?_,h⟩;rcases aK.1 hp with rfl|hp
   ·exact hlt
   ·exact o.tr hlt (hc.1 p hp)
theorem KO.set_ri(o:KO eq lt){es:List (κ×γ)}{k:κ}{v:γ}(h:Ri lt es):Ri lt (mset eq lt es k v):=by
 unfold mset;cases hk:mhas eq es k with
 |true=>exact yzY (o.rep_keys es k v) h|false=>refine o.ins_ri h fun v' hv=>?_;rw[o.has_iff.2 ⟨v',hv⟩]at hk;cases hk
theorem KO.set_mem(o:KO eq lt){es:List (κ×γ)}(h:Ri lt es){k:κ}{v:γ}{p}:p∈mset eq lt es k v↔p=(k,v)∨(p∈es/\p.1≠k):=by
 unfold mset;cases hk:mhas eq es k with
 |true=>exact o.rep_mem h hk|false=>rw[zF,ysH];refine or_congr Iff.rfl ⟨fun hp=>⟨hp,fun e=>?_⟩,fun hp=>hp.1⟩;rw[o.has_iff.2 ⟨p.2,by rw[<-e];exact hp⟩]at hk;cases hk
theorem KO.set_get(o:KO eq lt){es:List (κ×γ)}(h:Ri lt es){k:κ}{v:γ}(j:κ):mget eq (mset eq lt es k v) j=if eq k j=true then some v else mget eq es j:=by
 by_cases hj:eq k j=true
 ·rw[zI hj];have e:=o.e.1 hj;subst e;exact o.get_mem (o.set_ri h) ((o.set_mem h).2 (.inl rfl))
 ·rw[zH hj];have hne:j≠k:=fun e=>hj (o.e.2 e.symm);cases hg:mget eq es j with
  |some u=>exact o.get_mem (o.set_ri h) ((o.set_mem h).2 (.inr ⟨o.get_some hg,hne⟩))|none=>
   refine o.no_get fun u hu=>?_;rcases(o.set_mem h).1 hu with e|⟨hu,_⟩
   ·cases e;exact hne rfl
   ·rw[o.get_mem h hu]at hg;cases hg
theorem xeC:∀(es:List (κ×γ)) (k:κ) (v:γ),(mrep eq es k v).length=es.length
 |[],_,_=>rfl|(k',v')::m,k,v=>by
  unfold mrep;cases eq k' k with
  |true=>rfl|false=>simp only[zF,aN,xeC m k v]
theorem xdH:∀(es:List (κ×γ)) (k:κ) (v:γ),(mins lt es k v).length=es.length+1
 |[],_,_=>rfl|(k',v')::m,k,v=>by
  unfold mins;cases lt k' k with
  |true=>simp only[zE,aN,xdH m k v]|false=>rfl
theorem set_len{es:List (κ×γ)}{k:κ}{v:γ}:(mset eq lt es k v).length=if mhas eq es k=true then es.length else es.length+1:=by
 unfold mset;cases hk:mhas eq es k with
 |true=>rw[zE,zI rfl,xeC]|false=>rw[zH (by simp)];exact xdH es k v
theorem ysC:∀(es:List (κ×γ)) (k:κ),(mdel eq es k).Sublist es
 |[],_=>.slnil|(k',v')::m,k=>by
  unfold mdel;cases eq k' k with
  |true=>exact List.sublist_cons_self _ _|false=>exact(ysC m k).cons_cons _
theorem KO.del_mem(o:KO eq lt):∀{es:List (κ×γ)},Ri lt es->∀{k:κ} {p},p∈mdel eq es k↔p∈es/\p.1≠k
 |[],_,_,_=>by unfold mdel;simp
 |(k',v')::m,h,k,p=>by
  have hc:=aW.1 h;unfold mdel;cases hk:eq k' k with
  |true=>
   have e:=o.e.1 hk;subst e;rw[zE,aK];constructor
   ·exact fun hp=>⟨.inr hp,fun e=>o.lt_ne (hc.1 p hp) e.symm⟩
   ·rintro⟨rfl|hp,hn⟩
    ·exact absurd rfl hn
    ·exact hp
  |false=>
   have hne:k'≠k:=fun e=>by rw[o.e.2 e]at hk;cases hk
   rw[zF,aK,aK,o.del_mem hc.2];constructor
   ·rintro(rfl|⟨hp,hn⟩)
    ·exact⟨.inl rfl,hne⟩
    ·exact⟨.inr hp,hn⟩
   ·rintro⟨rfl|hp,hn⟩
    ·exact .inl rfl
    ·exact .inr ⟨hp,hn⟩
def mmap(f:κ->γ->δ)(es:List (κ×γ)):List (κ×δ):=es.map fun p=>(p.1,f p.1 p.2)
theorem ymH{f:κ->γ->δ}{es:List (κ×γ)}(h:Ri lt es):Ri lt (mmap f es):=yzY (by unfold mmap;rw[dF];rfl) h
end
theorem kS:KO keqS kltS where
 e:=by unfold keqS;exact beq_iff_eq
 irr:=by intro a;unfold kltS;rw[bytesLess_eq];simp[List.lt_irrefl]
 tr:=by intro a b c h k;unfold kltS at *;rw[bytesLess_eq,zD]at *;exact List.lt_trans h k
 tri:=by intro a b h hn;unfold kltS at *;rw[bytesLess_eq,decide_eq_false_iff_not]at h;rw[bytesLess_eq,zD];exact Classical.byContradiction fun h2=>hn (List.le_antisymm (fV.1 h2) (fV.1 h))
theorem kMM:KO (fun a b:Bs×Bs=>keqS a.1 b.1&&keqS a.2 b.2) (fun a b=>kltS a.1 b.1||(keqS a.1 b.1&&kltS a.2 b.2)) where
 e:=by intro a b;show(keqS a.1 b.1&&keqS a.2 b.2)=true↔a=b;rw[aF,kS.e,kS.e];exact⟨fun h=>Prod.ext h.1 h.2,fun h=>by rw[h];exact⟨rfl,rfl⟩⟩
 irr:=by intro a;show(kltS a.1 a.1||(keqS a.1 a.1&&kltS a.2 a.2))=false;rw[kS.irr,kS.irr,Bool.and_false];rfl
 tr:=by
  intro a b c h k;have h:(kltS a.1 b.1||(keqS a.1 b.1&&kltS a.2 b.2))=true:=h;have k:(kltS b.1 c.1||(keqS b.1 c.1&&kltS b.2 c.2))=true:=k;show(kltS a.1 c.1||(keqS a.1 c.1&&kltS a.2 c.2))=true;rw[bY,aF,kS.e]at *;rcases h with h|⟨h1,h2⟩
  ·rcases k with k|⟨k1,_⟩
   ·exact .inl (kS.tr h k)
   ·rw[k1]at h;exact .inl h
  ·rcases k with k|⟨k1,k2⟩
   ·rw[<-h1]at k;exact .inl k
   ·exact .inr ⟨h1.trans k1,kS.tr h2 k2⟩
 tri:=by
  intro a b h hn;have h:(kltS a.1 b.1||(keqS a.1 b.1&&kltS a.2 b.2))=false:=h;show(kltS b.1 a.1||(keqS b.1 a.1&&kltS b.2 a.2))=true;rw[Bool.or_eq_false_iff]at h;rw[bY,aF,kS.e];by_cases e:a.1=b.1
  ·refine .inr ⟨e.symm,kS.tri ?_ fun e2=>hn (Prod.ext e e2)⟩;have:=h.2
   rwa[kS.e.2 e,cO]at this
  ·exact .inl (kS.tri h.1 e)
abbrev keqM(a b:Bs×Bs):Bool:=keq (.pr .s .s) a b
abbrev kltM(a b:Bs×Bs):Bool:=klt (.pr .s .s) a b
theorem kSS:KO keqM kltM:=kMM
section
variable {S R:Type}
theorem yuW{f:S->List (Option (S⊕R))}(hne:∀s,f s≠[]):∀(n:Nat) {s:S} {r r':R} {m:Nat},Rng f n s r->Rng f m s r'->r=r'
 |0,_,_,_,_,h,_=>h.elim|_+1,_,_,_,0,_,h=>h.elim|n+1,s,r,r',m+1,h,h'=>by
  obtain⟨o,ho⟩:=List.exists_mem_of_ne_nil _ (hne s);have h1:=h o ho;have h2:=h' o ho
  match o,h1,h2 with
  |some (.inl s'),h1,h2=>exact yuW hne n h1 h2|some (.inr r0),h1,h2=>exact h1.symm.trans h2
theorem xfQ{f:S->List (Option (S⊕R))}(hne:∀s,f s≠[]){n:Nat}{s:S}{r:R}(h:Rng f n s r):rngA f s=some r:=by unfold rngA;have hx:∃r n,Rng f n s r:=⟨r,n,h⟩;rw[dif_pos hx];obtain⟨m,hm⟩:=hx.choose_spec;rw[yuW hne m hm h]
theorem znD{α γ:Type}(l:List α)(d:γ)(F:α->γ):rngL l d F≠[]:=by unfold rngL;cases l<;>simp
theorem yjW{α γ:Type}{l:List α}{d:γ}{F:α->γ}{o:γ}(h:o∈rngL l d F):(l=[]/\o=d)∨∃p∈l,o=F p:=by
 unfold rngL at h;cases l with
 |nil=>exact .inl ⟨rfl,List.mem_singleton.1 h⟩|cons x l=>obtain⟨p,hp,rfl⟩:=aR.1 h;exact .inr ⟨p,hp,rfl⟩
theorem ybF{f:S->List (Option (S⊕R))}(hne:∀s,f s≠[])(I:S->Prop)(m:S->Nat){r:R}(hs:∀s,I s->∀o∈f s,(∃s',o=some (.inl s')/\I s'/\m s'<m s)∨o=some (.inr r)){s:S}(h:I s):rngA f s=some r:=by
 have key:∀n s,I s->m s<n->Rng f n s r:=by
  intro n;induction n with
  |zero=>intro s _ h;omega|succ n ih=>
   intro s hI hn o ho;rcases hs s hI o ho with⟨s',rfl,h1,h2⟩|rfl
   ·exact ih s' h1 (by omega)
   ·rfl
 exact xfQ hne (key _ s h (Nat.lt_succ_self _))
variable {κ γ:Type}{eq lt:κ->κ->Bool}
theorem KO.rngC_mem(o:KO eq lt){es:List (κ×γ)}{left:List κ}{p:κ×γ}:p∈rngC eq es left↔p∈es/\p.1∈left:=by
 unfold rngC;rw[cH,List.any_eq_true];constructor
 ·rintro⟨h,k,hk,e⟩;rw[o.e.1 e];exact⟨h,hk⟩
 ·rintro⟨h,hk⟩;exact⟨h,_,hk,o.e.2 rfl⟩
theorem KO.rngD_mem(o:KO eq lt){left:List κ}{k j:κ}:j∈rngD eq left k↔j∈left/\j≠k:=by unfold rngD;rw[cH,Bool.not_eq_true',<-Bool.not_eq_true,o.e]
theorem KO.rngD_len(o:KO eq lt){left:List κ}{k:κ}(h:k∈left):(rngD eq left k).length<left.length:=by unfold rngD;refine List.length_filter_lt_length_iff_exists.2 ⟨k,h,?_⟩;rw[o.e.2 rfl];simp
end
section
section
variable {S R:Type}
def allE(eq:R->Bool)(g:S->Bool):List (Option (S⊕R))->Bool
 |[]=>true|none::_=>false|some (.inl s)::l=>g s&&allE eq g l|some (.inr r)::l=>eq r&&allE eq g l
def rngE(eq:R->Bool)(f:S->List (Option (S⊕R))):Nat->S->Bool
 |0,_=>false|n+1,s=>allE eq (rngE eq f n) (f s)
theorem yrV{eq:R->Bool}{g:S->Bool}{p:S->Prop}{r:R}(hr:∀x,eq x=true->x=r)(hg:∀s,g s=true->p s):∀{l:List (Option (S⊕R))},allE eq g l=true->∀o∈l,rngO p r o
 |[],_,_,ho=>by cases ho
 |none::_,h,_,_=>by cases h
 |some (.inl s)::l,h,o,ho=>by
  have h:(g s&&allE eq g l)=true:=h;rcases aK.1 ho with rfl|ho
  ·exact hg s (zbH h)
  ·exact yrV hr hg (zbR h) o ho
 |some (.inr x)::l,h,o,ho=>by
  have h:(eq x&&allE eq g l)=true:=h;rcases aK.1 ho with rfl|ho
  ·exact hr x (zbH h)
  ·exact yrV hr hg (zbR h) o ho
theorem xcU{eq:R->Bool}{f:S->List (Option (S⊕R))}{r:R}(hr:∀x,eq x=true->x=r):∀(n:Nat) {s:S},rngE eq f n s=true->Rng f n s r
 |0,_,h=>by cases h
 |n+1,_,h=>yrV hr (fun s hs=>xcU hr n hs) h
theorem yoY[DecidableEq R]{f:S->List (Option (S⊕R))}{s:S}(n:Nat)(r:R)(hne:∀s,f s≠[])(h:rngE (fun x=>decide (x=r)) f n s=true):rngA f s=some r:=
 xfQ hne (xcU (fun _ hx=>zC hx) n h)
end
abbrev uS:List (Bs×Bs×Bs×Bool×Int):=[([97,110,110],[97,110,110],[97,64,120],true,1)]
abbrev g1S:List (Bs×(List Bs×List Bs×List Bs)×Int):=[([103],([],[[104]],[]),2),([104],([[97,110,110]],[],[]),2)]
abbrev gS:List (Bs×(List Bs×List Bs×List Bs)×Int):=[([103],([],[[104]],[[114]]),3),([104],([[97,110,110]],[],[]),2)]
abbrev rS:List (Bs×Bs×List Bs):=[([114],[114],[[114,101,97,100]])]
abbrev cS:List (Bs×Bs×Bs×List Bs×List Bs×Bool×Bool×Bool×Bool):=[]
abbrev mS:List ((Bs×Bs)×Unit):=[]
abbrev wS:List (Bs×Bs):=[([103,114,111,117,112,47,103],[49,58,51,49,58,48,49,58,49,49,58,104,49,58,49,49,58,114]),([103,114,111,117,112,47,104],[49,58,50,49,58,49,51,58,97,110,110,49,58,48,49,58,48]),([114,111,108,101,47,114],[49,58,49,52,58,114,101,97,100]),([117,115,101,114,47,97,110,110],[51,58,97,64,120,49,58,49,49,58,49])]
theorem zaA{α β:Type}{a:α}{f:α->Option β}:aQ (some a) f=f a:=rfl
set_option synthInstance.maxSize 4000
set_option synthInstance.maxHeartbeats 400000
instance iA:DecidableEq Bs:=inferInstance
instance i2:DecidableEq (Bs×Bs×Bs×Bool×Int):=inferInstance
instance i7:DecidableEq (Bs×(List Bs×List Bs×List Bs)×Int):=inferInstance
instance i3:DecidableEq (Bs×Bs×List Bs):=inferInstance
instance i9:DecidableEq (Bs×Bs×Bs×List Bs×List Bs×Bool×Bool×Bool×Bool):=inferInstance
instance iM:DecidableEq ((Bs×Bs)×Unit):=inferInstance
theorem in_e:zdA zaB [97,110,110] uS gS rS cS mS=some ([[103],[104]],uS,gS,rS,cS,mS):=by
 unfold zdA
 rw[yoY 40 (uS,gS,rS,cS,mS,([([103],()),([104],())]:List (Bs×Unit))) (fun s=>by
  cases s with
  |inl x=>exact gC _ _|inr x=>exact znD _ _ _) (by kernel_rfl)]
 kernel_rfl
theorem rooted_e:zbV zaB uS gS rS cS mS=some (true,uS,gS,rS,cS,mS):=by
 unfold zbV;rw[yoY 10 (uS,gS,rS,cS,mS,([([103],[[104]]),([104],[])]:List (Bs×List Bs))) (by intro s;exact znD _ _ _) (by kernel_rfl),zaA]
 rw[yoY 40 (uS,gS,rS,cS,mS,([]:List (Bs×List Bs))) (fun s=>by
  cases s with
  |inl x=>exact gC _ _|inr x=>exact znD _ _ _) (by kernel_rfl)]
 kernel_rfl
theorem whole_e:zbK zaB uS gS rS cS mS=some (true,uS,gS,rS,cS,mS):=by unfold zbK;rw[show zhT zaB uS gS rS cS mS=some (.inr (uS,gS,rS,cS,mS)) by kernel_rfl,zaA];show aQ (rngA _ (uS,gS,rS,cS,mS,cU Prod.fst gS)) _=_;rw[yoY 10 (.inl (uS,gS,rS,cS,mS)) (by intro s;exact znD _ _ _) (by kernel_rfl),zaA];show aQ (rngA _ (uS,gS,rS,cS,mS,cU Prod.fst mS)) _=_;rw[yoY 10 (.inl (uS,gS,rS,cS,mS)) (by intro s;exact znD _ _ _) (by kernel_rfl),zaA];show aQ (zbV zaB uS gS rS cS mS) _=_;rw[rooted_e];rfl
theorem holds_e:zcJ zaB [97,110,110] uS gS rS cS mS=some ([[114,101,97,100]],uS,gS,rS,cS,mS):=by
 unfold zcJ;rw[in_e,zaA]
 kernel_rfl
theorem rows_e:zdM zaB uS gS rS cS mS=some (wS,uS,gS,rS,cS,mS):=by kernel_rfl
theorem load_e:zeR zaB wS=some (.inr (0,uS,gS,rS,cS,mS)):=by unfold zeR;rw[show znP zaB=some ([],[],[],[],[]) by kernel_rfl,zaA];rw[show iter (fun x=>zfS zaB wS x.1 x.2.1 x.2.2.1 x.2.2.2.1 x.2.2.2.2.1 x.2.2.2.2.2) ((0:Int),([],[],[],[],[]))=some (.inr (uS,gS,rS,cS,mS)) by kernel_rfl,zaA];show aQ (zbK zaB uS gS rS cS mS) _=_;rw[whole_e];rfl
theorem fixed_t:zkX zaB=some true:=by
 unfold zkX;rw[show znP zaB=some ([],[],[],[],[]) by kernel_rfl,zaA];rw[show zpK zaB ([],[],[],[],[])=some (.inr (uS,g1S,[],cS,mS)) by kernel_rfl,zaA];show aQ (zjW zaB (uS,g1S,[],cS,mS)) _=_;rw[show zjW zaB (uS,g1S,[],cS,mS)=some (.inr (uS,gS,rS,cS,mS)) by kernel_rfl,zaA];show aQ (zdA zaB [97,110,110] uS gS rS cS mS) _=_;rw[in_e,zaA];show aQ (zcJ zaB [97,110,110] uS gS rS cS mS) _=_;rw[holds_e,zaA];show aQ (zdM zaB uS gS rS cS mS) _=_;rw[rows_e,zaA];show aQ (zeR zaB wS) _=_;rw[load_e]
 kernel_rfl
def yvU:PC:=⟨[],[.b],fun _=>some true,false⟩
theorem fixed_pk{G:List (Nat×Obj)}[zrD G]:PCok aA G 24 yvU:=by have h:=zwT (tabs:=G) (o:=zaB);unfold zoU at h;rw[fixed_t]at h;exact h
end
def τWkT:TE:=[(3,⟨.int .i64,1,[.v (.i .i64) (show Int from 0)],(.i .i64),8⟩),
 (4,⟨.b,1,[.v .b (show Bool from false)],.b,1⟩),
 (5,⟨.int .u8,1,[.v (.i .u8) (show UInt8 from 0)],(.i .u8),1⟩),
 (9,⟨.s,1,[.v .s (show Bs from [])],.s,16⟩),
 (22,⟨.sl 9,1,[.nils],(.sl .s),24⟩),
 (102,⟨.sl 5,1,[.nils],(.sl (.i .u8)),24⟩)]
theorem τ_okWkT:TEok aA τWkT:=yrP (by kernel_rfl) (by kernel_rfl)
theorem mixWkT:Tryz.prog.follows .mixedOrders=true:=by kernel_rfl
theorem fscWkT {G : List (Nat × Obj)} {o : Ops} [zrD G] [zoW G o] {Γ : CT} {η : HT} {f : FuncId} {fn : Func} {c : SC} (hΓ : ∀ B, GB G B -> CTok aA Γ B) (hf : Tryz.prog.funcs[f]? = some fn) (i : (fn.name == "runtime.NumGoroutine") = false := by kernel_rfl) (j : fn.body.isNone = false := by kernel_rfl) (l : cK c.I.sl.length fn.ntmps = true := by kernel_rfl) (r : Nat.beq fn.results.toList.length c.nr = true := by kernel_rfl) (e : fnS τWkT Γ η fn c.I c.outs = c.p := by kernel_rfl) : SCok aA G f c := witO (G := G) (o := o) <| xbF mixWkT τ_okWkT hΓ hf (isFn hf i j) l r e
theorem yfC {G : List (Nat × Obj)} {o : Ops} [zrD G] [zoW G o] {Γ : CT} {η : HT} {f : FuncId} {fn : Func} {c : PC} (hΓ : ∀ B, GB G B -> CTok aA Γ B) (hf : Tryz.prog.funcs[f]? = some fn) (i : (fn.name == "runtime.NumGoroutine") = false := by kernel_rfl) (j : fn.body.isNone = false := by kernel_rfl) (l : cK c.ash.length fn.ntmps = true := by kernel_rfl) (r : c.cl = false := by kernel_rfl) (e : fnP τWkT Γ η fn c.ash c.rts = c.p := by kernel_rfl) : PCok aA G f c := witO (G := G) (o := o) <| yyR mixWkT τ_okWkT hΓ hf (isFn hf i j) l r e
section
variable {tabs:List (Nat×Obj)}[zrD tabs]{o:Ops}[zoW tabs o]
def zjB(_o:Ops)(v0:Bs):Option ((Int×Bool)⊕Unit):=
 bif(v0==([]:Bs))then some (.inl ((0:Int),false))else(bif decide ((v0.length:Int)>15)then some (.inl ((0:Int),false))else((idx v0 (0:Int)).bind fun v1=>bif((v1.toNat:Int)==((48:UInt8).toNat:Int))then(bif(v0 != ([48]:Bs))then some (.inl ((0:Int),false))else some (.inr ()))else some (.inr ())))
def zoB(_o:Ops)(v0:Bs)(v6:Int):Option ((Int×Bool)⊕Unit):=
 (idx v0 v6).bind fun v7=>bif decide ((v7.toNat:Int)<((48:UInt8).toNat:Int))then some (.inl ((0:Int),false))else((idx v0 v6).bind fun v8=>bif decide ((v8.toNat:Int)>((57:UInt8).toNat:Int))then some (.inl ((0:Int),false))else some (.inr ()))
def zgM(o:Ops)(v0:Bs)(v5:Int)(v6:Int):Option ((Int×Int)⊕((Int×Bool)⊕Int)):=
 bif decide (v6<(v0.length:Int))then((zoB o v0 v6).bind fun v9=>match v9 with
 |.inl v10=>some (.inr (.inl v10))|.inr _v11=>((idx v0 v6).bind fun v12=>let v13:Int:=w64 ((i8 ((v12.toNat:Int)-((48:UInt8).toNat:Int))).toNat:Int)
 some (.inl (w64 ((w64 ((10:Int)*v5))+v13),w64 (v6+1)))))else some (.inr (.inr v5))
def zeX(o:Ops)(v0:Bs):Option (Int×Bool):=
 (zjB o v0).bind fun v2=>match v2 with
 |.inl v3=>(some v3)|.inr _v4=>((iter (fun x=>zgM o v0 x.1 x.2) ((0:Int),(0:Int))).bind fun v14=>match v14 with
 |.inl v15=>(some v15)|.inr v16=>(some (v16,true)))
def ziS(o:Ops):PC:=⟨[hS],[(.i .i64),.b],fun x=>zeX o x,false⟩
theorem znX:PCok aA tabs 62 (ziS o):=yfC (o:=o) (η:=[(2000003,.join [] [0] [(some 1000000,⟨[(2,hI),(3,hB)],[]⟩),(none,⟨[],[]⟩)]),
 (2000009,.join [] [0,4,5] [(some 1000000,⟨[(2,hI),(3,hB)],[]⟩),(none,⟨[],[]⟩)]),
 (200005,.loop [] ⟨[(4,hI),(5,hI)],[]⟩ [0] [(some 1000000,⟨[(2,hI),(3,hB)],[]⟩),(some 0,⟨[(4,hI)],[]⟩)])]) (Γ:=⟨[],[],false,[]⟩) (ctok trivial trivial) Tryz.func62
def zhF(_o:Ops)(v0:Bs)(v3:Int)(v4:List Bs):Option ((Int×List Bs)⊕((Int×List Bs))):=
 bif decide (v3<(v0.length:Int))then((idx v0 v3).bind fun v5=>bif((v5.toNat:Int) != ((58:UInt8).toNat:Int))then some (.inl (w64 (v3+1),v4))else some (.inr (v3,v4)))else some (.inr (v3,v4))
def zhM(_o:Ops)(v0:Bs)(v6:Int×List Bs)(v8:Int×Bool):Option (Bool⊕List Bs):=
 bif(!v8.2)then some (.inl false)else(bif(v6.1==(v0.length:Int))then some (.inl false)else(let v9:Bool:=decide (v8.1>(w64 ((w64 ((v0.length:Int)-v6.1))-1)))
 bif v9 then some (.inl false)else some (.inr v6.2)))
def zeT(o:Ops)(v0:Bs)(v1:Int)(v2:List Bs):Option ((Int×List Bs)⊕(Bool⊕List Bs)):=
 bif decide (v1<(v0.length:Int))then((iter (fun x=>zhF o v0 x.1 x.2) (v1,v2)).bind fun v6=>(sub3 v0 v1 v6.1).bind fun v7=>(zeX o v7).bind fun v8=>(zhM o v0 v6 v8).bind fun v10=>match v10 with
 |.inl v11=>some (.inr (.inl v11))|.inr v12=>((sub3 v0 (w64 (v6.1+1)) (w64 ((w64 (v6.1+1))+v8.1))).bind fun v13=>(app v12 ([v13]:List Bs)).bind fun v14=>some (.inl (w64 ((w64 (v6.1+1))+v8.1),v14))))else some (.inr (.inr v2))
def zfG(o:Ops)(v0:Bs):Option ((List Bs)×Bool):=
 (iter (fun x=>zeT o v0 x.1 x.2) ((0:Int),([]:List Bs))).bind fun v15=>match v15 with
 |.inl v16=>(some (([]:List Bs),v16))|.inr v17=>(some (v17,true))
def zpE(o:Ops):PC:=⟨[hS],[(.sl .s),.b],fun x=>zfG o x,false⟩
theorem zwI:PCok aA tabs 12 (zpE o):=yfC (o:=o) (η:=[(200005,.loop [] ⟨[(4,(.own 0)),(6,hI)],[.osl .s 9]⟩ [0,5] [(some 2,⟨[(4,(.own 0)),(6,hI)],[.osl .s 9]⟩)]),
 (2000010,.join [] [0,6,7] [(some 1000000,⟨[(2,.nils),(3,hB)],[]⟩),(none,⟨[(4,(.own 0))],[.osl .s 9]⟩)]),
 (200003,.loop [] ⟨[(4,(.own 0)),(5,hI)],[.osl .s 9]⟩ [0] [(some 1000000,⟨[(2,.nils),(3,hB)],[]⟩),(some 0,⟨[(4,(.own 0))],[.osl .s 9]⟩)])]) (Γ:=⟨[(62,(ziS o))],[],false,[]⟩) (ctok ⟨znX,trivial⟩ trivial) Tryz.func12
def zcP(_o:Ops)(v0:UInt8):Option (Bool):=
 bif decide ((v0.toNat:Int)≥((97:UInt8).toNat:Int))then(bif decide ((v0.toNat:Int)<=((122:UInt8).toNat:Int))then(some true)else(bif decide ((v0.toNat:Int)≥((48:UInt8).toNat:Int))then(bif decide ((v0.toNat:Int)<=((57:UInt8).toNat:Int))then(some true)else(bif((v0.toNat:Int)==((46:UInt8).toNat:Int))then(some true)else(bif((v0.toNat:Int)==((95:UInt8).toNat:Int))then(some true)else(some ((v0.toNat:Int)==((45:UInt8).toNat:Int))))))else(bif((v0.toNat:Int)==((46:UInt8).toNat:Int))then(some true)else(bif((v0.toNat:Int)==((95:UInt8).toNat:Int))then(some true)else(some ((v0.toNat:Int)==((45:UInt8).toNat:Int)))))))else(bif decide ((v0.toNat:Int)≥((48:UInt8).toNat:Int))then(bif decide ((v0.toNat:Int)<=((57:UInt8).toNat:Int))then(some true)else(bif((v0.toNat:Int)==((46:UInt8).toNat:Int))then(some true)else(bif((v0.toNat:Int)==((95:UInt8).toNat:Int))then(some true)else(some ((v0.toNat:Int)==((45:UInt8).toNat:Int))))))else(bif((v0.toNat:Int)==((46:UInt8).toNat:Int))then(some true)else(bif((v0.toNat:Int)==((95:UInt8).toNat:Int))then(some true)else(some ((v0.toNat:Int)==((45:UInt8).toNat:Int))))))
def zjA(o:Ops):PC:=⟨[(.h (.i .u8))],[.b],fun x=>zcP o x,false⟩
theorem znO:PCok aA tabs 64 (zjA o):=yfC (o:=o) (η:=[]) (Γ:=⟨[],[],false,[]⟩) (ctok trivial trivial) Tryz.func64
def zlI(o:Ops)(v0:Bs)(v1:Int):Option (Int⊕(Bool⊕Unit)):=
 bif decide (v1<(v0.length:Int))then((idx v0 v1).bind fun v2=>(zcP o v2).bind fun v3=>bif(!v3)then some (.inr (.inl false))else some (.inl (w64 (v1+1))))else some (.inr (.inr ()))
def zcC(o:Ops)(v0:Bs):Option (Bool):=
 (iter (zlI o v0) (0:Int)).bind fun v4=>match v4 with
 |.inl v5=>(some v5)|.inr _v6=>(bif decide ((v0.length:Int)≥1)then(some (decide ((v0.length:Int)<=24)))else(some false))
def zfF(o:Ops):PC:=⟨[hS],[.b],fun x=>zcC o x,false⟩
theorem zhS:PCok aA tabs 14 (zfF o):=yfC (o:=o) (η:=[(200002,.loop [] ⟨[(3,hI)],[]⟩ [0] [(some 1000000,⟨[(2,hB)],[]⟩),(some 0,⟨[],[]⟩)])]) (Γ:=⟨[(64,(zjA o))],[],false,[]⟩) (ctok ⟨znO,trivial⟩ trivial) Tryz.func14
def zkW(_o:Ops)(v0:Bs)(v1:Int):Option (Int⊕(Bool⊕Unit)):=
 bif decide (v1<(v0.length:Int))then((idx v0 v1).bind fun v2=>bif decide ((v2.toNat:Int)<((33:UInt8).toNat:Int))then some (.inr (.inl false))else((idx v0 v1).bind fun v3=>bif decide ((v3.toNat:Int)>((126:UInt8).toNat:Int))then some (.inr (.inl false))else some (.inl (w64 (v1+1)))))else some (.inr (.inr ()))
def zgF(o:Ops)(v0:Bs):Option (Bool):=
 (iter (zkW o v0) (0:Int)).bind fun v4=>match v4 with
 |.inl v5=>(some v5)|.inr _v6=>(bif decide ((v0.length:Int)≥1)then(some (decide ((v0.length:Int)<=128)))else(some false))
def zlD(o:Ops):PC:=⟨[hS],[.b],fun x=>zgF o x,false⟩
theorem zqE:PCok aA tabs 16 (zlD o):=yfC (o:=o) (η:=[(200002,.loop [] ⟨[(3,hI)],[]⟩ [0] [(some 1000000,⟨[(2,hB)],[]⟩),(some 0,⟨[],[]⟩)])]) (Γ:=⟨[],[],false,[]⟩) (ctok trivial trivial) Tryz.func16
def zkB(o:Ops)(v0:Bs)(v1:Int):Option (Int⊕(Bool⊕Unit)):=
 bif decide (v1<(v0.length:Int))then((idx v0 v1).bind fun v2=>(zcP o v2).bind fun v3=>bif(!v3)then((idx v0 v1).bind fun v4=>bif((v4.toNat:Int) != ((58:UInt8).toNat:Int))then some (.inr (.inl false))else some (.inl (w64 (v1+1))))else some (.inl (w64 (v1+1))))else some (.inr (.inr ()))
def zfI(o:Ops)(v0:Bs):Option (Bool):=
 (iter (zkB o v0) (0:Int)).bind fun v5=>match v5 with
 |.inl v6=>(some v6)|.inr _v7=>(bif decide ((v0.length:Int)≥1)then(some (decide ((v0.length:Int)<=32)))else(some false))
def zpR(o:Ops):PC:=⟨[hS],[.b],fun x=>zfI o x,false⟩
theorem zwF:PCok aA tabs 18 (zpR o):=yfC (o:=o) (η:=[(200002,.loop [] ⟨[(3,hI)],[]⟩ [0] [(some 1000000,⟨[(2,hB)],[]⟩),(some 0,⟨[],[]⟩)])]) (Γ:=⟨[(64,(zjA o))],[],false,[]⟩) (ctok ⟨znO,trivial⟩ trivial) Tryz.func18
def zcN(o:Ops)(v0:Bs):Option (Bool):=
 bif decide ((v0.length:Int)>2)then((subH v0 (2:Int)).bind fun v1=>bif(v1==([117,58]:Bs))then((subL v0 (2:Int)).bind fun v2=>(zcC o v2).bind fun v3=>some v3)else((subH v0 (2:Int)).bind fun v4=>bif(v4==([99,58]:Bs))then((subL v0 (2:Int)).bind fun v5=>(zcC o v5).bind fun v6=>some v6)else(some false)))else(some false)
def zhN(o:Ops):PC:=⟨[hS],[.b],fun x=>zcN o x,false⟩
theorem zlM:PCok aA tabs 20 (zhN o):=yfC (o:=o) (η:=[]) (Γ:=⟨[(14,(zfF o))],[],false,[]⟩) (ctok ⟨zhS,trivial⟩ trivial) Tryz.func20
def zfK(_o:Ops)(v0:List Bs)(v1:List Bs)(v2:Int):Option (Int⊕(Bool⊕Unit)):=
 bif decide (v2<(v0.length:Int))then((idx v0 v2).bind fun v3=>(idx v1 v2).bind fun v4=>bif(v3 != v4)then some (.inr (.inl false))else some (.inl (w64 (v2+1))))else some (.inr (.inr ()))
def zbL(o:Ops)(v0:List Bs)(v1:List Bs):Option (Bool):=
 bif((v0.length:Int) != (v1.length:Int))then(some false)else((iter (zfK o v0 v1) (0:Int)).bind fun v5=>match v5 with
 |.inl v6=>(some v6)|.inr _v7=>(some true))
def zfL(o:Ops):PC:=⟨[(.h (.sl .s)),(.h (.sl .s))],[.b],fun x=>zbL o x.1 x.2,false⟩
theorem ziA:PCok aA tabs 21 (zfL o):=yfC (o:=o) (η:=[(200004,.loop [] ⟨[(5,hI)],[]⟩ [0,1] [(some 1000000,⟨[(4,hB)],[]⟩),(some 0,⟨[],[]⟩)]),
 (4000006,.sch (zpu 0 9))]) (Γ:=⟨[],[],false,[]⟩) (ctok trivial trivial) Tryz.func21
end
section
variable {α β γ σ:Type}
def T(o:Option α)(P:α->Prop):Prop:=∃r,o=some r/\P r
theorem T.ok{a:α}{P:α->Prop}(h:P a):T (some a) P:=⟨a,rfl,h⟩
theorem T.bind{o:Option α}{f:α->Option β}{Q:α->Prop}{P:β->Prop}(h:T o Q)(g:∀a,Q a->T (f a) P):T (o.bind f) P:=by obtain⟨a,rfl,h⟩:=h;exact g a h
theorem T.bif{c:Bool}{a b:Option α}{P:α->Prop}(h:c=true->T a P)(g:c=false->T b P):T (bif c then a else b) P:=by
 cases c
 ·exact g rfl
 ·exact h rfl
theorem T.dif{p:Prop}[Decidable p]{a b:Option α}{P:α->Prop}(h:p->T a P)(g:¬p->T b P):T (bif decide p then a else b) P:=
 T.bif (fun e=>h (zC e)) fun e=>g (of_decide_eq_false e)
theorem T.mono{o:Option α}{P Q:α->Prop}(h:T o P)(g:∀a,P a->Q a):T o Q:=by obtain⟨a,h1,h2⟩:=h;exact⟨a,h1,g a h2⟩
theorem T.get{o:Option Bool}{P:Bool->Prop}(h:T o P):o=some (o.getD false):=by obtain⟨a,rfl,_⟩:=h;rfl
theorem T.at{o:Option α}{P:α->Prop}{a:α}(h:T o P)(e:o=some a):P a:=by obtain⟨b,e2,h2⟩:=h;rw[e]at e2;cases e2;exact h2
theorem T.idx{l:List α}{i:Int}{P:α->Prop}(h0:0<=i)(h:i<(l.length:Int))(g:∀(k:Nat) (hk:k<l.length),i=(k:Int)->P l[k]):T (idx l i) P:=by obtain⟨k,rfl⟩:∃k:Nat,i=k:=⟨i.toNat,by omega⟩;exact⟨_,zbD rfl (by omega),g k (by omega) rfl⟩
theorem T.ix{l:List α}{i:Int}(h0:0<=i)(h:i<(l.length:Int)):T (Go.Proofs.YtopanhneegpgcaaGreatDoor.idx l i) fun _=>True:=T.idx h0 h fun _ _ _=>trivial
theorem T.iter{body:σ->Option (σ⊕β)}(I:σ->Prop)(m:σ->Nat)(G:β->Prop)(hr:∀s,I s->T (body s) fun r=>match r with
  |.inl s'=>I s'/\m s'<m s|.inr b=>G b) {s:σ} (hs:I s) (hm:m s<1099511627776):T (iter body s) G:=
 yqU I m G (fun s hs=>by
  obtain⟨r,h1,h2⟩:=hr s hs;cases r with
  |inl s'=>exact .inl ⟨s',h1,h2⟩|inr b=>exact .inr ⟨b,h1,h2⟩) FU s hs (by unfold FU;exact hm)
theorem zfN{a b:List α}(h:a.length+b.length<=68719476736):app a b=some (a++b):=by unfold app;rw[zaX (by unfold LIM;omega)]
theorem zmZ(xs:List α)(h:xs.length<=68719476736):app ([]:List α) xs=some xs:=by rw[zfN (by simpa using h)];rfl
theorem T.app{a b:List α}{P:List α->Prop}(h:a.length+b.length<=68719476736)(g:P (a++b)):T (app a b) P:=⟨_,zfN h,g⟩
theorem T.places{body:Int->Option (Int⊕β)}(n:Nat)(hn:n<1099511627776)(G:β->Prop)(hr:∀k:Nat,k<=n->T (body (k:Int)) fun r=>match r with
  |.inl s'=>s'=((k+1:Nat):Int)/\k<n|.inr b=>G b):T (Go.Proofs.YtopanhneegpgcaaGreatDoor.iter body 0) G:=by
 refine T.iter (fun i=>0<=i/\i<=(n:Int)) (fun i=>(n-i).toNat) G (fun i hi=>?_) ⟨by omega,by omega⟩ (by omega);obtain⟨k,rfl⟩:∃k:Nat,i=k:=⟨i.toNat,by omega⟩;refine(hr k (by omega)).mono fun r h=>?_;cases r with
 |inl s=>obtain⟨rfl,h⟩:=h;exact⟨⟨by omega,by omega⟩,by omega⟩
 |inr b=>exact h
end
theorem wid_pos(s:ByteArray)(pos:Nat):1<=(Utf8.decode s pos).2:=by
 unfold Utf8.decode;simp only[]
 repeat' split
 all_goals simp
theorem nxP_gt{l:Bs}{p:Nat}(h:p<l.length):p<nxP l p:=by unfold nxP dec;rw[zaX h];have:=wid_pos ⟨l.toArray⟩ p;omega
theorem trim_t(s cs:Bs)(h:s.length<=1048576)(h2:cs.length<4294967281)(h3:cs.all (fun b=>decide (b.toNat<128))=true):T (zaB.trim s cs) fun _=>True:=by refine⟨Lib.trimS s cs,?_,trivial⟩;show ycE s cs=_;unfold ycE;rw[zA (show s.length<=9223372036854775807 by omega),zA h2,h3];rfl
theorem of_t(v:Bs)(n:Int)(cs:Bs)(hn:n<=1048576)(h2:cs.length<4294967281)(h3:cs.all (fun b=>decide (b.toNat<128))=true):T (znC zaB v n cs) fun _=>True:=by unfold znC;refine T.bif (fun _=>T.dif (fun h=>?_) fun _=>T.ok trivial) fun _=>T.ok trivial;exact(trim_t v cs (by omega) h2 h3).bind fun _ _=>T.ok trivial
theorem scope_t(s:Bs):T (ziH zaB s) fun _=>True:=by unfold ziH;exact(of_t s _ _ (by decide) (by decide) (by decide)).bind fun _ _=>T.ok trivial
theorem xcG(s:Bs):T (zbJ zaB s) fun _=>True:=by unfold zbJ;exact(of_t s _ _ (by decide) (by decide) (by decide)).bind fun _ _=>T.ok trivial
theorem subH_t{α:Type}{s:List α}{n:Int}(h0:0<=n)(h:n<=(s.length:Int)):T (subH s n) fun _=>True:=by obtain⟨k,rfl⟩:∃k:Nat,n=k:=⟨n.toNat,by omega⟩;unfold subH;rw[zA (show(0:Int)<=(k:Int) by omega),zA h];exact⟨_,rfl,trivial⟩
theorem subL_t{α:Type}{s:List α}{n:Int}(h0:0<=n)(h:n<=(s.length:Int)):T (subL s n) fun _=>True:=by obtain⟨k,rfl⟩:∃k:Nat,n=k:=⟨n.toNat,by omega⟩;unfold subL;rw[zA (show(0:Int)<=(k:Int) by omega),zA h];exact⟨_,rfl,trivial⟩
theorem prin_t(s:Bs):T (zcI zaB s) fun _=>True:=by unfold zcI;refine T.dif (fun h=>(subH_t (by omega) (by omega)).bind fun _ _=>T.bif (fun _=>(subL_t (by omega) (by omega)).bind fun _ _=>(xcG _).bind fun _ _=>T.ok trivial) fun _=>(subH_t (by omega) (by omega)).bind fun _ _=>T.bif (fun _=>(subL_t (by omega) (by omega)).bind fun _ _=>(xcG _).bind fun _ _=>T.ok trivial) fun _=>T.ok trivial) fun _=>T.ok trivial
theorem text_t(s:Bs):T (zfV zaB s) fun _=>True:=by
 unfold zfV;refine T.bif (fun _=>T.dif (fun h=>?_) fun _=>T.ok trivial) fun _=>T.ok trivial;refine T.bind (Q:=fun _=>True) ?_ fun _ _=>T.ok trivial;unfold zfJ zkD zjP;refine T.bind (Q:=fun _=>True) (T.bind (Q:=fun _=>True) (T.bind (Q:=fun _=>True) (T.iter (fun x=>x.1=s/\0<=x.2) (fun x=>s.length-x.2.toNat) (fun _=>True) (fun x hx=>?_) ⟨rfl,fW _⟩ (by simp;omega)) fun r _=>?_) fun _ _=>T.ok trivial) fun _ _=>T.ok trivial
 ·obtain⟨v,i⟩:=x;obtain⟨rfl,h0⟩:=hx;unfold ziO;simp only at h0 ⊢;refine T.dif (fun h2=>?_) fun _=>T.ok trivial;refine T.bind (Q:=fun _=>True) ?_ fun _ _=>T.bif (fun _=>T.ok trivial) fun _=>T.ok ⟨⟨rfl,by simp⟩,?_⟩
  ·unfold zlT;exact T.dif (fun _=>T.ok trivial) fun _=>T.ok trivial
  ·have:=nxP_gt h2;simp only[bT];omega
 ·cases r<;>exact T.ok trivial
abbrev L8:Type:=Bs
def scB(s:L8):Bool:=(ziH zaB s).getD false
def nmB(s:L8):Bool:=(zbJ zaB s).getD false
def prB(s:L8):Bool:=(zcI zaB s).getD false
def txB(s:L8):Bool:=(zfV zaB s).getD false
theorem sc_ok(s:L8):ziH zaB s=some (scB s):=(scope_t s).get
theorem ynL(s:L8):zbJ zaB s=some (nmB s):=(xcG s).get
theorem yxT(s:L8):zcI zaB s=some (prB s):=(prin_t s).get
theorem xcI(s:L8):zfV zaB s=some (txB s):=(text_t s).get
theorem zfA{k:Nat}(h:k<1099511627776):w64 ((k:Int)+1)=((k+1:Nat):Int):=by rw[zuG (by omega) (by omega)];omega
theorem yyZ(u:Nat)(hu:u<1000000000000000):zkN zaB (Lib.decDigits u)=some (.inr ()):=by
 have hl:=zwP 15 u (by decide) hu;have ht:zaB.trim (Lib.decDigits u) tenL=some []:=yzI u hu;unfold zkN;by_cases h0:u=0
 ·subst h0;rw[show Lib.decDigits 0=[48] by rw[ztA];rfl]at ht ⊢;rw[show zaB.trim ([48]:Bs) ([48,49,50,51,52,53,54,55,56,57]:Bs)=some []from ht];rfl
 ·obtain⟨b,l,h1,h2⟩:=yoT u h0;rw[h1]at hl ht ⊢;rw[show((b::l:Bs)==[])=false from rfl];simp only[zF];rw[zaY (by simp only[aN]at hl ⊢;omega),show idx (b::l) 0=some b from rfl,zaA];have:((b.toNat:Int)==((48:UInt8).toNat:Int))=false:=beq_eq_false_iff_ne.2 fun e=>h2 (UInt8.toNat_inj.1 (by exact_mod_cast e));rw[this];simp only[zF];rw[show zaB.trim (b::l) ([48,49,50,51,52,53,54,55,56,57]:Bs)=some []from ht,zaA];rfl
theorem yhF(u:Nat)(hu:u<1000000000000000):zgJ zaB (Lib.decDigits u)=some ((u:Int),true):=by unfold zgJ;rw[yyZ u hu,zaA];simp only[];rw[show zaB.atoi (Lib.decDigits u)=some ((u:Int),false)from yyY u hu,zaA];rfl
theorem yuF(ts:List Bs)(hl:(zdC ts).length<4294967281)(hn:ts.length<4294967281):zmX zaB (zdC ts)=some (ts,true):=by
 have key:∀(k:Nat),k<=ts.length->(zdC (ts.drop k)).length<4294967281:=by
  intro k hk;induction k with
  |zero=>exact hl|succ k ih=>have:=ih (by omega);rw[aX (by omega)]at this;simp only[zdC,aC,aN]at this;omega
 have h:iter (fun x=>ziU zaB x.1 x.2) (zdC (ts.drop 0),ts.take 0)=(some (.inr ts):Option (Bool⊕List Bs)):=by
  refine ymZ (fun k=>(zdC (ts.drop k),ts.take k)) ts.length (by omega) (Sum.inr ts) (fun k hk=>?_) ?_
  ·have hd:ts.drop k=ts[k]::ts.drop (k+1):=aX hk;have hlen:=key k (by omega);have ht:ts.take (k+1)=ts.take k++[ts[k]]:=by rw[cD hk]
   rw[hd]at hlen;generalize ts[k]=t at hd hlen ht;generalize ts.drop (k+1)=r at hd hlen;have hlen2:(Lib.decDigits t.length++58::(t++zdC r)).length<4294967281:=hlen;have htl:t.length<4294967281:=by simp only[aC,aN]at hlen2;omega
   have hne:(zdC (ts.drop k) != ([]:Bs))=true:=by
    rw[hd];cases he:zdC (t::r) with
    |nil=>exact absurd (List.append_eq_nil_iff.1 he).1 (ytA _)|cons a l=>rfl
   unfold ziU;simp only[];rw[hne];simp only[zE];rw[hd,show zaB.cut (zdC (t::r)) ([58]:Bs)=some (Lib.decDigits t.length,t++zdC r,true)from cutP_dec t.length (t++zdC r) hlen2,zaA];simp only[];rw[yhF t.length (by omega),zaA];have hj:znA zaB (ts.take k) (Lib.decDigits t.length,t++zdC r,true) ((t.length:Int),true)=some (.inr (ts.take k)):=by unfold znA;simp only[bM,zF];rw[zaY (by rw[aC];omega)]
   rw[hj,zaA];simp only[];rw[zpP (by rw[aC];omega),zaA,List.take_left,Am.zfN (by rw[bA];simp;omega),zaA,ht];rw[show subL (t++zdC r) (t.length:Int)=some (zdC r)from ?_,zaA];unfold subL;rw[aC,show(decide ((0:Int)<=(t.length:Int))&&decide ((t.length:Int)<=((t.length+(zdC r).length:Nat):Int)))=true by simp;omega];simp
  ·rw[bX,dN];rfl
 unfold zmX;rw[bQ,List.take_zero]at h;rw[h,zaA]
theorem yiK:∀(a b:List Bs),zdC (a++b)=zdC a++zdC b
 |[],_=>rfl|t::a,b=>by show Lib.decDigits t.length++58::(t++zdC (a++b))=(Lib.decDigits t.length++58::(t++zdC a))++zdC b;rw[yiK a b];simp
theorem form_ok(ts:List Bs)(hl:(zdC ts).length<4294967281)(hn:ts.length<1099511627776):zmH ts=some (zdC ts):=by
 have key:∀(k:Nat),(zdC (ts.take k)).length<=(zdC ts).length:=fun k=>by have:=yiK (ts.take k) (ts.drop k);rw[List.take_append_drop]at this;rw[this,aC];omega
 have h:iter (zkU ts) ((((0:Nat):Int)),zdC (ts.take 0))=some (zdC ts):=by
  refine ymZ (fun k=>((k:Int),zdC (ts.take k))) ts.length hn (zdC ts) (fun k hk=>?_) ?_
  ·have ht:ts.take (k+1)=ts.take k++[ts[k]]:=by rw[cD hk]
   have e:zdC (ts.take (k+1))=zdC (ts.take k)++(Lib.decDigits ts[k].length++58::ts[k]):=by rw[ht,yiK];simp[zdC]
   have h1:=key (k+1);rw[e]at h1;simp only[aC,aN]at h1;unfold zkU;simp only[];rw[zaX (by omega),zbD rfl hk,zaA,yoR _ (by omega),zaA,Am.zfN (by simp only[aN,cC];omega),zaA,Am.zfN (by simp only[aC,aN,cC];omega),zaA];unfold ziE;rw[show znJ (zdC (ts.take k))=some _ from rfl,zaA,Am.zfN (by simp only[aC,aN,cC];omega),zaA,zaA,zuG (by omega) (by omega),e];simp
  ·unfold zkU;simp only[];rw[zaY (by omega),dN]
 unfold zmH;have h:iter (zkU ts) ((0:Int),([]:Bs))=some (zdC ts):=h;rw[h,zaA,zaA,chk_ok (zA (by omega)),zaA]
def numR(s:L8):Int×Bool:=bif numB s then((vaF s:Int),true)else(0,false)
theorem trim_o{s:L8}(h:s.length<=1048576):zaB.trim s tenL=some (Lib.trimS s tenL):=by show ycE s tenL=_;unfold ycE;rw[zA (show s.length<=9223372036854775807 by omega),zA (show tenL.length<4294967281 by decide),show tenL.all (fun b=>decide (b.toNat<128))=true by decide];rfl
theorem is48(b:UInt8):((b.toNat:Int)==((48:UInt8).toNat:Int))=(b==48):=by have:=zuI (fun b=>((b.toNat:Int)==((48:UInt8).toNat:Int))==(b==48)) (by kernel_rfl) b;simpa using this
theorem xfA{b:UInt8}{l:L8}(hl:¬((b::l).length:Int)>15)(h48:(b==48)=false):numB (b::l)=(b::l).all digB:=by
 unfold numB;rw[zA (show(b::l).length<=15 by omega)];have h1:((b::l).head? != some 48)=true:=by simpa using h48
 rw[h1];rfl
theorem ydU(s:L8)(h:s.length<=1048576):zgJ zaB s=some (numR s):=by
 cases hb:numB s with
 |true=>have hd:=ybT hb;unfold numR;rw[hb];have:=yhF (vaF s) hd.2;rw[hd.1]at this;exact this|false=>
  have hj:zkN zaB s=some (.inl (0,false)):=by
   unfold zkN;cases s with
   |nil=>rfl|cons b l=>
    rw[show((b::l:L8)==[])=false from rfl];simp only[zF];by_cases hl:((b::l).length:Int)>15
    ·rw[zaX hl]
    ·rw[zaY hl,show idx (b::l) 0=some b from rfl,zaA,is48];cases h48:b==48 with
     |true=>
      simp only[zE];cases hz:(b::l) != ([48]:L8) with
      |true=>rfl|false=>
       have e:b::l=[48]:=by simpa using hz
       rw[e]at hb;exact absurd hb (by decide)
     |false=>simp only[zF];rw[xfA hl h48]at hb;rw[show zaB.trim (b::l) ([48,49,50,51,52,53,54,55,56,57]:L8)=some (Lib.trimS (b::l) tenL)from trim_o h,zaA,trim_ten,hb];rfl
  unfold zgJ numR;rw[hj,hb];rfl
theorem i8_dig{b:UInt8}(h:48<=b.toNat/\b.toNat<=57):(i8 ((b.toNat:Int)-((48:UInt8).toNat:Int))).toNat=b.toNat-48:=by have:=zuI (fun b=>!digB b||((i8 ((b.toNat:Int)-((48:UInt8).toNat:Int))).toNat==b.toNat-48)) (by kernel_rfl) b;rw[ygN.2 h]at this;simpa using this
theorem dg_j(b:UInt8){α:Type}(x y:Option α):(bif decide ((b.toNat:Int)<((48:UInt8).toNat:Int))then x else(bif decide ((b.toNat:Int)>((57:UInt8).toNat:Int))then x else y))=bif digB b then y else x:=by
 have e1:((48:UInt8).toNat:Int)=48:=rfl;have e2:((57:UInt8).toNat:Int)=57:=rfl;rw[e1,e2];unfold digB;by_cases h1:(b.toNat:Int)<48
 ·rw[zaX h1,zB (show ¬48<=b.toNat by omega)];rfl
 ·rw[zaY h1,zA (show 48<=b.toNat by omega)];by_cases h2:(b.toNat:Int)>57
  ·rw[zaX h2,zB (show ¬b.toNat<=57 by omega)];rfl
  ·rw[zaY h2,zA (show b.toNat<=57 by omega)];rfl
theorem ymD{α:Type}{l:List α}{p:α->Bool}{k:Nat}(hk:k<l.length):(l.take (k+1)).all p=((l.take k).all p&&p l[k]):=by rw[cD hk,List.all_append,cI,List.all_nil,eI]
theorem xaZ{α:Type}{l:List α}{p:α->Bool}{k:Nat}(hk:k<l.length)(h:p l[k]=false):l.all p=false:=by
 cases ha:l.all p with
 |false=>rfl|true=>rw[aY.1 ha _ (bE hk)]at h;cases h
theorem val_take{s:L8}{k:Nat}(hk:k<s.length):vaF (s.take (k+1))=10*vaF (s.take k)+(s[k].toNat-48):=by rw[cD hk,yvL]
theorem digs_t{s:L8}{R:Type}{body:Int×Int->Option ((Int×Int)⊕(R⊕Int))}{bad:R}(hs:s.length<=15) (hb:∀(n:Nat) (k:Nat) (hk:k<s.length),n<1000000000000000->body ((n:Int),(k:Int))=some (bif digB s[k]then .inl (((10*n+(s[k].toNat-48):Nat):Int),((k+1:Nat):Int))else .inr (.inl bad))) (he:∀n:Int,body (n,(s.length:Int))=some (.inr (.inr n))):iter body ((0:Int),(0:Int))=some (bif s.all digB then .inr (vaF s:Int)else .inl bad):=by
 have hT:T (iter body ((0:Int),(0:Int))) fun r=>r=(bif s.all digB then .inr (vaF s:Int)else .inl bad):=by
  refine T.iter (fun x=>0<=x.2/\x.2<=(s.length:Int)/\(s.take x.2.toNat).all digB=true/\x.1=(vaF (s.take x.2.toNat):Int)) (fun x=>s.length-x.2.toNat) _ (fun x hx=>?_) ⟨fW _,by simp,rfl,rfl⟩ (by simp;omega);obtain⟨n,i⟩:=x;obtain⟨h1,h2,h3,h4⟩:=hx;simp only at h1 h2 h3 h4;obtain⟨k,rfl⟩:∃k:Nat,i=k:=⟨i.toNat,by omega⟩;rw[bT]at h3 h4;subst h4;by_cases hk:k<s.length
  ·have hv:vaF (s.take k)<1000000000000000:=val_lt (yyO h3) (by rw[bA];omega);rw[hb _ k hk hv];cases hd:digB s[k] with
   |true=>
    refine T.ok ⟨⟨by simp only[];omega,by simp only[];omega,?_,?_⟩,by simp only[];omega⟩
    ·simp only[bT];rw[ymD hk,h3,hd];rfl
    ·simp only[bT];rw[val_take hk]
   |false=>exact T.ok (by rw[xaZ hk hd];rfl)
  ·obtain rfl:k=s.length:=by omega
   rw[he];rw[cX (aI _)]at h3 ⊢;exact T.ok (by rw[h3];rfl)
 obtain⟨r,h1,rfl⟩:=hT;exact h1
theorem w64_n{n:Nat}(h:n<=9223372036854775807):w64 (n:Int)=(n:Int):=zuG (by omega) (by omega)
theorem yeL(s:L8):zeX zaB s=some (numR s):=by
 have main:s.length<=15->(aQ (iter (fun x=>zgM zaB s x.1 x.2) ((0:Int),(0:Int))) fun v14=>match v14 with
   |.inl v15=>(some v15)|.inr v16=>(some (v16,true)))=some (bif s.all digB then((vaF s:Int),true)else(0,false)):=fun hs=>by
  rw[digs_t (bad:=((0:Int),false)) hs (fun n k hk hn=>?_) (fun n=>?_),zaA]
  ·cases s.all digB<;>rfl
  ·unfold zgM zoB;simp only[];rw[zaX (show(k:Int)<(s.length:Int) by omega),zbD rfl hk,zaA,zaA,dg_j];cases hd:digB s[k] with
   |false=>rfl|true=>have h1:=ygN.1 hd;simp only[zE,zaA];rw[i8_dig h1,w64_n (show s[k].toNat-48<=9223372036854775807 by omega),show(10:Int)*(n:Int)=((10*n:Nat):Int) by omega,w64_n (show 10*n<=9223372036854775807 by omega),show((10*n:Nat):Int)+((s[k].toNat-48:Nat):Int)=((10*n+(s[k].toNat-48):Nat):Int) by omega,w64_n (show 10*n+(s[k].toNat-48)<=9223372036854775807 by omega),zfA (by omega)]
  ·unfold zgM;simp only[];rw[zaY (by omega)]
 unfold zeX;cases s with
 |nil=>rfl|cons b l=>
  have hj:zjB zaB (b::l)=some (bif decide (((b::l).length:Int)>15)then .inl (0,false)else(bif b==48 then(bif(b::l) != ([48]:L8)then .inl (0,false)else .inr ())else .inr ())):=by
   unfold zjB;rw[show((b::l:L8)==[])=false from rfl];simp only[zF];by_cases hl:((b::l).length:Int)>15
   ·rw[zaX hl,zaX hl]
   ·rw[zaY hl,zaY hl,show idx (b::l) 0=some b from rfl,zaA,is48];cases b==48 with
    |false=>rfl|true=>cases (b::l) != ([48]:L8)<;>rfl
  rw[hj,zaA];by_cases hl:((b::l).length:Int)>15
  ·rw[zaX hl];have e:numB (b::l)=false:=by unfold numB;rw[zB (show ¬(b::l).length<=15 by omega)];rfl
   unfold numR;rw[e];rfl
  ·rw[zaY hl];cases h48:b==48 with
   |false=>unfold numR;rw[xfA hl h48];exact main (by omega)|true=>
    simp only[zE];cases hz:(b::l) != ([48]:L8) with
    |true=>
     have e:numB (b::l)=false:=by
      have h1:b=48:=by simpa using h48
      subst h1;have h2:((48::l:L8)==[48])=false:=by simpa using hz
      unfold numB;rw[h2];simp
     unfold numR;rw[e];rfl
    |false=>
     have e:b::l=[48]:=by simpa using hz
     have:=main (by omega);simp only[zF];refine this.trans ?_;rw[e];rfl
theorem yzH(f:Nat):txtF f []=some []:=by cases f<;>rfl
def txtR(acc:List L8)(o:Option (List L8)):Bool⊕List L8:=match o with
 |some l=>.inr (acc++l)|none=>.inl false
theorem yqG(acc:List L8)(t:L8)(o:Option (List L8)):txtR acc (o.map (t :: ·))=txtR (acc++[t]) o:=by
 cases o with
 |none=>rfl|some l=>show Sum.inr (acc++t::l)=Sum.inr ((acc++[t])++l);simp
theorem txt_s(f:Nat)(b:UInt8)(s:L8):txtF (f+1) (b::s)=match colF (b::s) with
  |none=>none|some (h,r)=>bif numB h&&decide (vaF h<=r.length)then(txtF f (r.drop (vaF h))).map (r.take (vaF h) :: ·)else none:=rfl
theorem cut_o{s:L8}(h:s.length<=1048576):zaB.cut s ([58]:L8)=some (Lib.cut s [58]):=by show cutP s [58]=_;unfold cutP;rw[zA (show s.length<4294967281 by omega)];rfl
theorem ptx_it:∀(f:Nat) (s:L8) (acc:List L8) (k:Nat),s.length<=f->f<k->acc.length+f<=1048577->s.length<=1048576->ziC (fun x:L8×List L8=>ziU zaB x.1 x.2) k (s,acc)=some (txtR acc (txtF f s))
 |f,[],acc,k+1,_,_,_,_=>by rw[yzH];refine zaW ?_;show some (Sum.inr (Sum.inr acc))=some (Sum.inr (Sum.inr (acc++[])));rw[bK]
 |0,b::s,_,_,h,_,_,_=>by simp at h
 |f+1,b::s,acc,k+1,hl,hk,ha,hs=>by
  have hbody:ziU zaB (b::s) acc=match colF (b::s) with
    |none=>some (.inr (.inl false))|some (h,r)=>bif numB h&&decide (vaF h<=r.length)then some (.inl (r.drop (vaF h),acc++[r.take (vaF h)]))else some (.inr (.inl false)):=by
   unfold ziU;rw[show((b::s:L8) != [])=true from rfl];simp only[zE];rw[cut_o hs,zaA,cut_col];cases hc:colF (b::s) with
   |none=>simp only[];rw[ydU _ hs,zaA];rfl|some p=>
    obtain⟨h,r⟩:=p;have he:=(zwX hc).1;have hlen:h.length+r.length+1=(b::s).length:=by rw[he];simp;omega
    simp only[];rw[ydU h (by omega),zaA];unfold znA numR;cases hn:numB h with
    |false=>rfl|true=>
     simp only[zE,bM,zF,cO];by_cases hv:vaF h<=r.length
     ·rw[zaY (show ¬((vaF h:Nat):Int)>(r.length:Int) by omega),zaA,zA hv];simp only[zE];rw[zpP hv,zaA,zfN (by simp;omega),zaA,zsI hv,zaA]
     ·rw[zaX (show((vaF h:Nat):Int)>(r.length:Int) by omega),zaA,zB hv];rfl
  rw[txt_s];cases hc:colF (b::s) with
  |none=>rw[hc]at hbody;exact zaW hbody|some p=>
   obtain⟨h,r⟩:=p;have he:=(zwX hc).1;have hlen:h.length+r.length+1=(b::s).length:=by rw[he];simp;omega
   rw[hc]at hbody;simp only[]at hbody ⊢;cases hb:numB h&&decide (vaF h<=r.length) with
   |false=>rw[hb]at hbody;exact zaW hbody|true=>rw[hb]at hbody;simp only[zE]at hbody ⊢;rw[zaV hbody,yqG];exact ptx_it f (r.drop (vaF h)) (acc++[r.take (vaF h)]) k (by rw[bH];omega) (by omega) (by simp;omega) (by rw[bH];omega)
def txtP(s:L8):List L8×Bool:=((txtF s.length s).getD [],(txtF s.length s).isSome)
theorem yoS{s:L8}(h:s.length<=1048576):zmX zaB s=some (txtP s):=by unfold zmX;rw[show iter _ (s,([]:List L8))=_ from ptx_it s.length s [] FU (aI _) (by unfold FU;omega) (by simp;omega) h,zaA];unfold txtP;cases txtF s.length s<;>rfl
def colN(l:L8):Nat:=match colF l with
 |some p=>p.1.length|none=>l.length
theorem yjE(b:UInt8)(l:L8):colN (b::l)=if b=58 then 0 else colN l+1:=by
 unfold colN;rw[colF];by_cases h:b=58
 ·rw[zI h,zI h];rfl
 ·rw[zH h,zH h];cases colF l<;>rfl
theorem ysB:∀l:L8,colN l<=l.length
 |[]=>aI _|b::l=>by
  rw[yjE];split
  ·exact aZ _
  ·have:=ysB l;simp only[aN];omega
theorem xfK:∀(l:L8) (k:Nat),k<colN l->∃c,l[k]? = some c/\c≠58
 |[],k,h=>by simp[colN,colF]at h
 |b::l,k,h=>by
  rw[yjE]at h;split at h
  ·omega
  ·rename_i hb;cases k with
   |zero=>exact⟨b,rfl,hb⟩|succ k=>obtain⟨c,h1,h2⟩:=xfK l k (by omega);exact⟨c,by simpa using h1,h2⟩
theorem xfP:∀(l:L8),colN l<l.length->l[colN l]? = some 58
 |[],h=>by simp at h
 |b::l,h=>by
  rw[yjE]at h ⊢;split
  ·rename_i hb;rw[hb];rfl
  ·rename_i hb;rw[zH hb]at h;simp only[aN]at h;have:=xfP l (by omega);simpa using this
theorem is58(b:UInt8):((b.toNat:Int) != ((58:UInt8).toNat:Int))=(b != 58):=by have:=zuI (fun b=>((b.toNat:Int) != ((58:UInt8).toNat:Int))==(b != 58)) (by kernel_rfl) b;simpa using this
theorem dcol_it{s:L8}{a:Nat}(acc:List L8)(ha:a<=s.length)(hs:s.length<=1048576):iter (fun x:Int×List L8=>zhF zaB s x.1 x.2) ((a:Int),acc)=some (((a+colN (s.drop a):Nat):Int),acc):=by
 have hle:=ysB (s.drop a);rw[bH]at hle;refine ymZ (fun k=>(((a+k:Nat):Int),acc)) (colN (s.drop a)) (by omega) _ (fun k hk=>?_) ?_
 ·obtain⟨c,h1,h2⟩:=xfK _ _ hk;rw[bR]at h1;have hlt:=(aD.1 h1).1;have he:=(aD.1 h1).2;unfold zhF;simp only[];rw[zaX (by omega),zbD rfl hlt,zaA,he,is58,show(c != 58)=true by simpa using h2];simp only[zE];rw[zfA (by omega)];rfl
 ·unfold zhF;simp only[];by_cases hlt:a+colN (s.drop a)<s.length
  ·have h1:=xfP (s.drop a) (by rw[bH];omega);rw[bR]at h1;have he:=(aD.1 h1).2;rw[zaX (by omega),zbD rfl hlt,zaA,he];rfl
  ·rw[zaY (by omega)]
theorem dtx_it{s:L8}(hs:s.length<=1048576):∀(f a:Nat) (acc:List L8) (k:Nat),a<=s.length->s.length-a<=f->f<k->acc.length+f<=1048577->ziC (fun x:Int×List L8=>zeT zaB s x.1 x.2) k ((a:Int),acc)=some (txtR acc (txtF f (s.drop a)))
 |f,a,acc,k+1,ha,hf,hk,hc=>by
  by_cases he:a=s.length
  ·subst he;rw[bX,yzH];refine zaW ?_;unfold zeT;simp only[];rw[zaY (by omega)];show some (Sum.inr (Sum.inr acc))=some (Sum.inr (Sum.inr (acc++[])));rw[bK]
  ·have halt:a<s.length:=by omega
   have hd:=aX halt;obtain⟨f,rfl⟩:∃g,f=g+1:=⟨f-1,by omega⟩;have hle:=ysB (s.drop a);have hdl:(s.drop a).length=s.length-a:=bH ..;have hsub:sub3 s (a:Int) ((a+colN (s.drop a):Nat):Int)=some ((s.drop a).take (colN (s.drop a))):=by have:=xaT (l:=s) (n:=a) (m:=a+colN (s.drop a)) (by omega) (by omega);rw[this,fX];congr 2;omega
   have hbody:zeT zaB s (a:Int) acc=match colF (s.drop a) with
     |none=>some (.inr (.inl false))|some (h,r)=>bif numB h&&decide (vaF h<=r.length)then some (.inl (((a+h.length+1+vaF h:Nat):Int),acc++[r.take (vaF h)]))else some (.inr (.inl false)):=by
    unfold zeT;rw[zaX (show(a:Int)<(s.length:Int) by omega),dcol_it acc ha hs,zaA];simp only[];rw[hsub,zaA,yeL,zaA];cases hcl:colF (s.drop a) with
    |none=>
     have hn:colN (s.drop a)=s.length-a:=by unfold colN;rw[hcl];exact hdl
     have hj:∀v,zhM zaB s (((a+colN (s.drop a):Nat):Int),acc) v=some (.inl false):=fun v=>by
      unfold zhM;cases v.2 with
      |false=>rfl|true=>simp only[bM,zF];rw[show(((a+colN (s.drop a):Nat):Int)==(s.length:Int))=true from beq_iff_eq.2 (by omega)];rfl
     rw[hj,zaA]
    |some p=>
     obtain⟨h,r⟩:=p;have hcs:=(zwX hcl).1;have hn:colN (s.drop a)=h.length:=by unfold colN;rw[hcl]
     have ht:(s.drop a).take h.length=h:=by rw[hcs];simp
     have hlen:h.length+r.length+1=s.length-a:=by rw[<-hdl,hcs];simp;omega
     have hr:s.drop (a+h.length+1)=r:=by rw[show a+h.length+1=a+(h.length+1) by omega,<-eA,hcs];simp[List.drop_append]
     rw[hn,ht];simp only[];unfold zhM numR;cases hb:numB h with
     |false=>rfl|true=>
      simp only[zE,bM,zF,cO];rw[show(((a+h.length:Nat):Int)==(s.length:Int))=false from beq_eq_false_iff_ne.2 (by omega)];simp only[zF];rw[zuG (x:=(s.length:Int)-((a+h.length:Nat):Int)) (by omega) (by omega),zuG (x:=(s.length:Int)-((a+h.length:Nat):Int)-1) (by omega) (by omega)];have hvl:=(ybT hb).2;by_cases hv:vaF h<=r.length
      ·rw[zB (show ¬((vaF h:Nat):Int)>(s.length:Int)-((a+h.length:Nat):Int)-1 by omega),zA hv];simp only[zF,zE,zaA];rw[zfA (show a+h.length<1099511627776 by omega),show(((a+h.length+1:Nat):Int)+((vaF h:Nat):Int))=((a+h.length+1+vaF h:Nat):Int) by omega,w64_n (by omega),xaT (n:=a+h.length+1) (m:=a+h.length+1+vaF h) (by omega) (by omega),zaA,fX,hr,show a+h.length+1+vaF h-(a+h.length+1)=vaF h by omega,zfN (by simp;omega),zaA]
      ·rw[zA (show((vaF h:Nat):Int)>(s.length:Int)-((a+h.length:Nat):Int)-1 by omega),zB hv];rfl
   have htx:txtF (f+1) (s.drop a)=match colF (s.drop a) with
     |none=>none|some (h,r)=>bif numB h&&decide (vaF h<=r.length)then(txtF f (r.drop (vaF h))).map (r.take (vaF h) :: ·)else none:=by
    rw[hd,txt_s]
   rw[htx];cases hcl:colF (s.drop a) with
   |none=>rw[hcl]at hbody;exact zaW hbody|some p=>
    obtain⟨h,r⟩:=p;have hcs:=(zwX hcl).1;have hlen:h.length+r.length+1=s.length-a:=by rw[<-hdl,hcs];simp;omega
    have hr:s.drop (a+h.length+1)=r:=by rw[show a+h.length+1=a+(h.length+1) by omega,<-eA,hcs];simp[List.drop_append]
    rw[hcl]at hbody;simp only[]at hbody ⊢;cases hb:numB h&&decide (vaF h<=r.length) with
    |false=>rw[hb]at hbody;exact zaW hbody|true=>
     have hv:vaF h<=r.length:=by rw[aF,zD]at hb;exact hb.2
     rw[hb]at hbody;simp only[zE]at hbody ⊢;rw[zaV hbody,yqG,show r.drop (vaF h)=s.drop (a+h.length+1+vaF h) by rw[<-hr,eA]];exact dtx_it hs f (a+h.length+1+vaF h) (acc++[r.take (vaF h)]) k (by omega) (by omega) (by omega) (by simp;omega)
theorem yoE{s:L8}(h:s.length<=1048576):zfG zaB s=some (txtP s):=by unfold zfG;have:=dtx_it h s.length 0 [] FU (aZ _) (by omega) (by unfold FU;omega) (by simp;omega);rw[bQ]at this;rw[show iter _ ((0:Int),([]:List L8))=_ from this,zaA];unfold txtP;cases txtF s.length s<;>rfl
theorem yjL{α R:Type}{l:List α}{p:α->Bool}{body:Int->Option (Int⊕R)}{bad good:R}(hl:l.length<1099511627776) (hb:∀(k:Nat) (hk:k<l.length),body (k:Int)=some (bif p l[k]then .inl ((k+1:Nat):Int)else .inr bad)) (he:body (l.length:Int)=some (.inr good)):iter body (0:Int)=some (bif l.all p then good else bad):=by
 have hT:T (iter body (0:Int)) fun r=>r=(bif l.all p then good else bad):=by
  refine T.iter (fun x=>0<=x/\x<=(l.length:Int)/\(l.take x.toNat).all p=true) (fun x=>l.length-x.toNat) _ (fun x hx=>?_) ⟨fW _,by omega,rfl⟩ (by omega);obtain⟨h1,h2,h3⟩:=hx;obtain⟨k,rfl⟩:∃k:Nat,x=k:=⟨x.toNat,by omega⟩;rw[bT]at h3;by_cases hk:k<l.length
  ·rw[hb k hk];cases hp:p l[k] with
   |true=>exact T.ok ⟨⟨by omega,by omega,by rw[bT,ymD hk,h3,hp];rfl⟩,by omega⟩|false=>exact T.ok (by rw[xaZ hk hp];rfl)
  ·obtain rfl:k=l.length:=by omega
   rw[he];rw[cX (aI _)]at h3;exact T.ok (by rw[h3];rfl)
 obtain⟨r,h1,rfl⟩:=hT;exact h1
theorem yqW{α:Type}{l:List α}{p q:α->Bool}(h:∀x∈l,p x=q x):l.all p=l.all q:=by
 induction l with
 |nil=>rfl|cons x l ih=>rw[cI,cI,h x aM,ih fun y hy=>h y (aL _ hy)]
theorem of_is{s cs:L8}{n:Int}(hn:n<=1048576)(h2:cs.length<4294967281)(h3:cs.all (fun b=>decide (b.toNat<128))=true):znC zaB s n cs=some (s != []&&decide ((s.length:Int)<=n)&&s.all (cs.contains ·)):=by
 unfold znC;cases h0:s != ([]:L8) with
 |false=>rfl|true=>
  simp only[zE,cO];by_cases hl:(s.length:Int)<=n
  ·rw[zaX hl,zA hl];have ht:zaB.trim s cs=some (Lib.trimS s cs):=by show ycE s cs=_;unfold ycE;rw[zA (show s.length<=9223372036854775807 by omega),zA h2,h3];rfl
   rw[ht,zaA,cO];congr 1;rw[eD,beq_iff_eq,ycR,aY]
  ·rw[zaY hl,zB hl];rfl
abbrev yuL:L8:=[97,98,99,100,101,102,103,104,105,106,107,108,109,110,111,112,113,114,115,116,117,118,119,120,121,122,48,49,50,51,52,53,54,55,56,57,46,95,45]
def letB(b:UInt8):Bool:=(zcP zaB b).getD false
theorem ypZ(b:UInt8):zcP zaB b=some (letB b):=by
 have:=zuI (fun b=>(zcP zaB b).isSome) (by kernel_rfl) b;unfold letB;cases h:zcP zaB b with
 |none=>rw[h]at this;cases this
 |some v=>rfl
theorem let_is(b:UInt8):yuL.contains b=letB b:=by have:=zuI (fun b=>yuL.contains b==letB b) (by kernel_rfl) b;simpa using this
abbrev ynZ:L8:=[97,98,99,100,101,102,103,104,105,106,107,108,109,110,111,112,113,114,115,116,117,118,119,120,121,122,48,49,50,51,52,53,54,55,56,57,46,95,45,58]
theorem let_is2(b:UInt8):ynZ.contains b=(letB b||b==58):=by have:=zuI (fun b=>ynZ.contains b==(letB b||b==58)) (by kernel_rfl) b;simpa using this
theorem nm_is(s:L8):nmB s=(s != []&&decide (s.length<=24)&&s.all letB):=by have h:=ynL s;unfold zbJ at h;rw[of_is (by decide) (by decide) (by decide),zaA]at h;rw[<-osi h,yqW fun b _=>let_is b];congr 2;rw[decide_eq_decide];omega
theorem xaC(s:L8):decide ((s.length:Int)≥1)=(s != []):=by
 cases s with
 |nil=>rfl|cons b l=>rw[zA (by simp only[aN];omega)];rfl
theorem zxF{s:L8}(hs:s.length<=1048576):zcC zaB s=some (nmB s):=by
 unfold zcC;rw[yjL (l:=s) (p:=letB) (bad:=Sum.inl false) (good:=Sum.inr ()) (by omega) (fun k hk=>?_) ?_,zaA,nm_is]
 ·cases ha:s.all letB with
  |false=>simp|true=>
   simp only[zE,eI];rw[<-xaC];by_cases h:(s.length:Int)≥1
   ·rw[zaX h,zA h,cO];congr 1;rw[decide_eq_decide];omega
   ·rw[zaY h,zB h];rfl
 ·unfold zlI;rw[zaY (by omega)]
 ·unfold zlI;rw[zaX (show(k:Int)<(s.length:Int) by omega),zbD rfl hk,zaA,ypZ,zaA];cases letB s[k] with
  |false=>rfl|true=>simp only[bM,zF,zE];rw[zfA (by omega)]
theorem sc_is(s:L8):scB s=(s != []&&decide (s.length<=32)&&s.all fun b=>letB b||b==58):=by have h:=sc_ok s;unfold ziH at h;rw[of_is (by decide) (by decide) (by decide),zaA]at h;rw[<-osi h,yqW (q:=fun b=>letB b||b==58) fun b _=>let_is2 b];congr 2;rw[decide_eq_decide];omega
theorem xeV{s:L8}(hs:s.length<=1048576):zfI zaB s=some (scB s):=by
 unfold zfI;rw[yjL (l:=s) (p:=fun b=>letB b||b==58) (bad:=Sum.inl false) (good:=Sum.inr ()) (by omega) (fun k hk=>?_) ?_,zaA,sc_is]
 ·cases ha:s.all fun b=>letB b||b==58 with
  |false=>simp|true=>
   simp only[zE,eI];rw[<-xaC];by_cases h:(s.length:Int)≥1
   ·rw[zaX h,zA h,cO];congr 1;rw[decide_eq_decide];omega
   ·rw[zaY h,zB h];rfl
 ·unfold zkB;rw[zaY (by omega)]
 ·unfold zkB;rw[zaX (show(k:Int)<(s.length:Int) by omega),zbD rfl hk,zaA,ypZ,zaA];cases letB s[k] with
  |true=>simp only[bM,zF,zE,Bool.true_or];rw[zfA (by omega)]|false=>
   simp only[Bool.not_false,zE,zaA,eQ];rw[is58];cases h58:s[k]==58 with
   |true=>rw[show(s[k] != 58)=false by rw[bne,h58];rfl];simp only[zF,zE];rw[zfA (by omega)]|false=>rw[show(s[k] != 58)=true by rw[bne,h58];rfl];rfl
def okB(b:UInt8):Bool:=decide (33<=b.toNat)&&decide (b.toNat<=126)
theorem xcJ{l:L8}{k:Nat}(hk:k<l.length)(h:l[k].toNat<128):nxR l k=(l[k].toNat:Int)/\nxP l k=k+1:=by
 have hg:((⟨l.toArray⟩:ByteArray).get! k)=l[k]:=by simp[ByteArray.get!,hk]
 unfold nxR nxP dec Utf8.decode;simp only[fZ,hg];rw[zI h,zaX hk];exact⟨rfl,rfl⟩
theorem dec_high{l:L8}{k:Nat}(hk:k<l.length)(h:128<=l[k].toNat):nxR l k>126:=by
 have hg:((⟨l.toArray⟩:ByteArray).get! k)=l[k]:=by simp[ByteArray.get!,hk]
 have e:Utf8.runeError>126:=by decide
 unfold nxR dec Utf8.decode;simp only[fZ,hg];rw[zH (by omega)]
 repeat' split
 all_goals first|(simp only[];omega)|(simp only[];rename_i h1;simp only[aF,zD]at h1;omega)
theorem okB_t{b:UInt8}(h:okB b=true):33<=b.toNat/\b.toNat<=126:=by unfold okB at h;simp only[aF,zD]at h;exact h
theorem runes_ok{s:L8}(hs:s.length<=1048576):zfJ zaB s=some (!s.all okB):=by
 have hT:T (iter (fun x:L8×Int=>ziO zaB true x.1 x.2) (s,(0:Int))) fun r=>match r with
   |.inl i=>0<=i/\s.all okB=false|.inr _=>s.all okB=true:=by
  refine T.iter (fun x=>x.1=s/\0<=x.2/\x.2<=(s.length:Int)/\(s.take x.2.toNat).all okB=true) (fun x=>s.length-x.2.toNat) _ (fun x hx=>?_) ⟨rfl,fW _,by simp,rfl⟩ (by simp;omega);obtain⟨v,i⟩:=x;obtain⟨e,h1,h2,h3⟩:=hx;simp only at e h1 h2 h3;subst e;obtain⟨k,rfl⟩:∃k:Nat,i=k:=⟨i.toNat,by omega⟩;rw[bT]at h3;unfold ziO;simp only[bT];refine T.dif (fun hk=>?_) fun hk=>T.ok ?_
  ·have hp:zlT zaB (nxR v k)=some (!okB v[k]):=by
    unfold zlT;rcases Nat.lt_or_ge v[k].toNat 128 with hlo|hhi
    ·rw[(xcJ hk hlo).1];unfold okB;by_cases h33:(v[k].toNat:Int)<33
     ·rw[zaX h33,zB (show ¬33<=v[k].toNat by omega)];rfl
     ·rw[zaY h33,zA (show 33<=v[k].toNat by omega),cO];congr 1;by_cases h126:(v[k].toNat:Int)>126
      ·rw[zA h126,zB (show ¬v[k].toNat<=126 by omega)];rfl
      ·rw[zB h126,zA (show v[k].toNat<=126 by omega)];rfl
    ·have:=dec_high hk hhi;rw[zaY (by omega),zA this];unfold okB;rw[zB (show ¬v[k].toNat<=126 by omega),Bool.and_false];rfl
   rw[hp,zaA];cases hb:okB v[k] with
   |false=>refine T.bif (fun _=>T.ok ⟨by omega,xaZ hk hb⟩) fun h=>?_;cases h
   |true=>
    refine T.bif (fun h=>?_) fun _=>T.ok ?_
    ·cases h
    ·have hlt:=okB_t hb;rw[(xcJ hk (by omega)).2];refine⟨⟨rfl,by simp only[];omega,by simp only[];omega,?_⟩,by simp only[];omega⟩;simp only[bT];rw[ymD hk,h3,hb];rfl
  ·rw[cX (by omega)]at h3;exact h3
 obtain⟨r,h1,h2⟩:=hT;unfold zfJ zkD zjP;rw[h1];cases r with
 |inl i=>simp only[zaA];rw[zA (show i≥0 from h2.1),h2.2];rfl|inr u=>simp only[zaA];rw[show s.all okB=true from h2];rfl
theorem tx_is(s:L8)(hs:s.length<=1048576):txB s=(s != []&&decide (s.length<=128)&&s.all okB):=by
 have h:=xcI s;unfold zfV at h;rw[runes_ok hs]at h;cases h0:s != ([]:L8) with
 |false=>rw[h0]at h;rw[<-osi h];rfl|true=>
  rw[h0]at h;simp only[zE,zaA,Bool.not_not]at h;by_cases hl:(s.length:Int)<=128
  ·rw[zaX hl]at h;rw[<-osi h,zA (show s.length<=128 by omega)];rfl
  ·rw[zaY hl]at h;rw[<-osi h,zB (show ¬s.length<=128 by omega)];rfl
theorem ok_j(b:UInt8){α:Type}(x y:Option α):(bif decide ((b.toNat:Int)<((33:UInt8).toNat:Int))then x else(bif decide ((b.toNat:Int)>((126:UInt8).toNat:Int))then x else y))=bif okB b then y else x:=by
 have e1:((33:UInt8).toNat:Int)=33:=rfl;have e2:((126:UInt8).toNat:Int)=126:=rfl;rw[e1,e2];unfold okB;by_cases h1:(b.toNat:Int)<33
 ·rw[zaX h1,zB (show ¬33<=b.toNat by omega)];rfl
 ·rw[zaY h1,zA (show 33<=b.toNat by omega)];by_cases h2:(b.toNat:Int)>126
  ·rw[zaX h2,zB (show ¬b.toNat<=126 by omega)];rfl
  ·rw[zaY h2,zA (show b.toNat<=126 by omega)];rfl
theorem ymS{s:L8}(hs:s.length<=1048576):zgF zaB s=some (txB s):=by
 unfold zgF;rw[yjL (l:=s) (p:=okB) (bad:=Sum.inl false) (good:=Sum.inr ()) (by omega) (fun k hk=>?_) ?_,zaA,tx_is s hs]
 ·cases ha:s.all okB with
  |false=>simp|true=>
   simp only[zE,eI];rw[<-xaC];by_cases h:(s.length:Int)≥1
   ·rw[zaX h,zA h,cO];congr 1;rw[decide_eq_decide];omega
   ·rw[zaY h,zB h];rfl
 ·unfold zkW;rw[zaY (by omega)]
 ·unfold zkW;rw[zaX (show(k:Int)<(s.length:Int) by omega),zbD rfl hk,zaA,zaA,ok_j];cases okB s[k] with
  |false=>rfl|true=>simp only[zE];rw[zfA (by omega)]
theorem ydP{s:L8}(hs:s.length<=1048576):zcN zaB s=some (prB s):=by
 rw[<-yxT];unfold zcN zcI;by_cases hl:(s.length:Int)>2
 ·rw[zaX hl,zaX hl,show subH s 2=some (s.take 2)from zpP (n:=2) (by omega),zaA,zaA,show subL s 2=some (s.drop 2)from zsI (n:=2) (by omega)];simp only[zaA];rw[zxF (by rw[bH];omega),ynL]
 ·rw[zaY hl,zaY hl]
theorem trim_is{s cs:L8}(h:s.length<=1048576)(h2:cs.length<4294967281)(h3:cs.all (fun b=>decide (b.toNat<128))=true):zaB.trim s cs=some (Lib.trimS s cs):=by show ycE s cs=_;unfold ycE;rw[zA (show s.length<=9223372036854775807 by omega),zA h2,h3];rfl
theorem ymV{p:L8}(h:prB p=true):∃c l,p=c::58::l/\(c=117∨c=99)/\nmB l=true:=by
 have h1:=yxT p;rw[h]at h1;unfold zcI at h1;by_cases hl:(p.length:Int)>2
 ·rw[zaX hl]at h1
  match p,hl with
  |a::b::c::l,hl=>
   have e1:subH (a::b::c::l) (2:Int)=some [a,b]:=by unfold subH;rw[zA (show(0:Int)<=2 by decide),zA (show(2:Int)<=((a::b::c::l).length:Int) by omega)];rfl
   have e2:subL (a::b::c::l) (2:Int)=some (c::l):=by unfold subL;rw[zA (show(0:Int)<=2 by decide),zA (show(2:Int)<=((a::b::c::l).length:Int) by omega)];rfl
   rw[e1,e2]at h1;simp only[zaA]at h1;have hx:∀{q:Bool} {x y:Option Bool},(bif q then x else y)=some true->(q=true/\x=some true)∨(q=false/\y=some true):=fun {q x y} h=>by cases q;exact .inr ⟨rfl,h⟩;exact .inl ⟨rfl,h⟩
   have hn:(aQ (zbJ zaB (c::l)) fun v=>some v)=some true->nmB (c::l)=true:=fun h=>by rw[ynL,zaA]at h;exact osi h
   rcases hx h1 with⟨q,h2⟩|⟨_,h2⟩
   ·have e:=beq_iff_eq.1 q;injection e with e3 e4;injection e4 with e5 _;subst e3;subst e5;exact⟨_,_,rfl,.inl rfl,hn h2⟩
   ·rcases hx h2 with⟨q,h3⟩|⟨_,h3⟩
    ·have e:=beq_iff_eq.1 q;injection e with e3 e4;injection e4 with e5 _;subst e3;subst e5;exact⟨_,_,rfl,.inr rfl,hn h3⟩
    ·cases h3
 ·rw[zaY hl]at h1;cases h1
theorem ysQ(u:Nat)(hu:u<9223372036854775808):zaB.itoa (u:Int)=some (Lib.decDigits u):=yoR u hu
theorem yiA:∀(ts:List L8),(∀t∈ts,t.length<=1024)->(zdC ts).length<=1032*ts.length
 |[],_=>aZ _|t::ts,h=>by
  have ih:=yiA ts fun x hx=>h x (aL _ hx);have ht:=h t aM;have hd:=zwP 7 t.length (by decide) (by omega);have e2:(zdC (t::ts)).length=(Lib.decDigits t.length).length+1+t.length+(zdC ts).length:=by show(Lib.decDigits t.length++58::(t++zdC ts)).length=_;simp only[aC,aN];omega
  rw[e2,aN];omega
theorem yeN{ts:List L8}(h:∀t∈ts,t.length<=1024)(hn:ts.length<=1024):zaB.form ts=some (zdC ts):=by have:=yiA ts h;exact form_ok ts (by omega) (by omega)
theorem let_bar:letB 124=false:=by kernel_rfl
def RiL(l:List L8):Prop:=l.Pairwise fun x y=>kltS x y=true
theorem yaM:∀{l:List L8},zmM l=true↔RiL l
 |[]=>⟨fun _=>.nil,fun _=>rfl⟩|[x]=>⟨fun _=>bZ _ _,fun _=>rfl⟩|x::y::l=>by
  unfold zmM;rw[aF,yaM (l:=y::l)];constructor
  ·rintro⟨h,k⟩;refine aW.2 ⟨fun z hz=>?_,k⟩;rcases aK.1 hz with rfl|hz
   ·exact h
   ·exact kS.tr h ((aW.1 k).1 z hz)
  ·intro h;have h:=aW.1 h;exact⟨h.1 y aM,h.2⟩
theorem RiL.nodup{l:List L8}(h:RiL l):l.Nodup:=h.imp fun {_a b} hab e=>kS.lt_ne hab e
theorem RiL.ext{l m:List L8}(h:RiL l)(k:RiL m)(e:∀x,x∈l↔x∈m):l=m:=by
 have h1:Ri kltS (l.map fun x=>(x,())):=bI.2 h;have h2:Ri kltS (m.map fun x=>(x,())):=bI.2 k;have h3:=kS.ext h1 h2 fun p=>by obtain⟨a,u⟩:=p;simp[e a]
 have h4:=congrArg (cU Prod.fst) h3;simpa[dF,Function.comp_def]using h4
def ynN(x:L8)(l:List L8):List L8:=l.takeWhile (fun y=>kltS y x)++x::l.dropWhile (fun y=>kltS y x)
theorem yzX{x y:L8}{l:List L8}:y∈ynN x l↔y=x∨y∈l:=by
 unfold ynN;have e:y∈l↔y∈l.takeWhile (fun y=>kltS y x)++l.dropWhile (fun y=>kltS y x):=by rw[cM]
 rw[e,bD,bD,aK];constructor
 ·rintro(h|h|h)
  ·exact .inr (.inl h)
  ·exact .inl h
  ·exact .inr (.inr h)
 ·rintro(h|h|h)
  ·exact .inr (.inl h)
  ·exact .inl h
  ·exact .inr (.inr h)
theorem yoP{p:L8->Bool}:∀{l:List L8} {x:L8},x∈l.takeWhile p->p x=true
 |y::l,x,h=>by
  rw[eS]at h;cases hp:p y with
  |true=>
   rw[zI hp]at h;rcases aK.1 h with rfl|h
   ·exact hp
   ·exact yoP h
  |false=>rw[zH (by rw[hp];simp)]at h;cases h
theorem yuK{x:L8}:∀{l:List L8},RiL l->x∉l->∀y∈l.dropWhile (fun y=>kltS y x),kltS x y=true
 |z::l,h,hn,y,hy=>by
  have hc:=aW.1 h;rw[List.dropWhile_cons]at hy;cases hp:kltS z x with
  |true=>rw[zI hp]at hy;exact yuK hc.2 (fun hx=>hn (aL _ hx)) y hy|false=>
   rw[zH (by rw[hp];simp)]at hy;have hxz:kltS x z=true:=kS.tri hp fun e=>hn (by rw[<-e];exact aM);rcases aK.1 hy with rfl|hy
   ·exact hxz
   ·exact kS.tr hxz (hc.1 y hy)
theorem withL_ri{x:L8}{l:List L8}(h:RiL l)(hn:x∉l):RiL (ynN x l):=by
 unfold ynN RiL;have hd:=yuK h hn;have h1:RiL (l.takeWhile fun y=>kltS y x):=h.sublist (fP _);have h2:RiL (l.dropWhile fun y=>kltS y x):=h.sublist (List.dropWhile_sublist _);refine List.pairwise_append.2 ⟨h1,aW.2 ⟨hd,h2⟩,fun a ha b hb=>?_⟩;have hax:=yoP ha;rcases aK.1 hb with rfl|hb
 ·exact hax
 ·exact kS.tr hax (hd b hb)
theorem xcO{x:L8}{l:List L8}:(ynN x l).length=l.length+1:=by unfold ynN;rw[aC,aN,<-Nat.add_assoc,<-aC,cM]
theorem RiL.sub_len{l m:List L8}(h:RiL l)(hs:∀x∈l,x∈m):l.length<=m.length:=zjR h.nodup hs
abbrev Us:Type:=L8×L8×Bool×Int
abbrev Gr:Type:=(List L8×List L8×List L8)×Int
abbrev Ro:Type:=L8×List L8
abbrev Cl:Type:=L8×L8×List L8×List L8×Bool×Bool×Bool×Bool
abbrev UM:Type:=List (L8×Us)
abbrev GM:Type:=List (L8×Gr)
abbrev RM:Type:=List (L8×Ro)
abbrev CM:Type:=List (L8×Cl)
abbrev MM:Type:=List ((L8×L8)×Unit)
abbrev PS:Type:=UM×GM×RM×CM×MM
abbrev zG:Gr:=((([]:List L8),([]:List L8),([]:List L8)),(0:Int))
abbrev zR:Ro:=(([]:L8),([]:List L8))
def hexB(b:UInt8):Bool:=digB b||(decide (97<=b.toNat)&&decide (b.toNat<=102))
def zxD(most:Nat)(may:L8->Bool)(l:List L8):Bool:=l.all may&&zmM l&&decide (l.length<=most)
def ydO(r:Ro):Bool:=nmB r.1&&zxD 16 scB r.2
def cliB(c:Cl):Bool:=nmB c.1&&(c.2.1==[]||(decide (c.2.1.length=64)&&c.2.1.all hexB))&&zxD 16 txB c.2.2.1&&zxD 16 scB c.2.2.2.1
def lst:Nat->Gr->List L8
 |0,g=>g.1.1|1,g=>g.1.2.1|_,g=>g.1.2.2
def hasK(k:Nat)(s:PS)(n:L8):Bool:=match k with
 |0=>mhas keqS s.1 n|1=>mhas keqS s.2.1 n|_=>mhas keqS s.2.2.1 n
def thB(s:PS)(p:L8):Bool:=bif p.head? == some 99 then mhas keqS s.2.2.2.1 (p.drop 2)else mhas keqS s.1 (p.drop 2)
inductive Reach (G:GM) (a:L8):L8->Prop
 |refl:Reach G a a
 |step {b x:L8} {g:Gr}:Reach G a b->(b,g)∈G->x∈lst 1 g->Reach G a x
theorem Reach.trans{G:GM}{a b c:L8}(h:Reach G a b)(k:Reach G b c):Reach G a c:=by
 induction k with
 |refl=>exact h|step _ hg hx ih=>exact .step ih hg hx
def Acy(G:GM):Prop:=∃r:L8->Nat,∀n g,(n,g)∈G->∀x∈lst 1 g,r x<r n
structure PInv (B:Int) (s:PS):Prop where
 uR:Ri kltS s.1
 gR:Ri kltS s.2.1
 rR:Ri kltS s.2.2.1
 cR:Ri kltS s.2.2.2.1
 mR:Ri kltM s.2.2.2.2
 uL:s.1.length<=64
 gL:s.2.1.length<=32
 rL:s.2.2.1.length<=32
 cL:s.2.2.2.1.length<=32
 mL:s.2.2.2.2.length<=64
 us:∀k u,(k,u)∈s.1->u.1=k/\nmB k=true/\txB u.2.1=true/\1<=u.2.2.2/\u.2.2.2<=B
 gn:∀k g,(k,g)∈s.2.1->nmB k=true/\1<=g.2/\g.2<=B
 gl:∀k g,(k,g)∈s.2.1->∀i,i<3->RiL (lst i g)/\∀x∈lst i g,hasK i s x=true
 ro:∀k r,(k,r)∈s.2.2.1->r.1=k/\ydO r=true
 cl:∀k c,(k,c)∈s.2.2.2.1->c.1=k/\cliB c=true
 ma:∀p,p∈s.2.2.2.2->prB p.1.1=true/\prB p.1.2=true/\thB s p.1.1=true/\thB s p.1.2=true
 ac:Acy s.2.1
theorem PInv.mono{B C:Int}{s:PS}(h:PInv B s)(hb:B<=C):PInv C s:=
 { h with
   us:=fun k u hu=>⟨(h.us k u hu).1,(h.us k u hu).2.1,(h.us k u hu).2.2.1,(h.us k u hu).2.2.2.1,Int.le_trans (h.us k u hu).2.2.2.2 hb⟩
   gn:=fun k g hg=>⟨(h.gn k g hg).1,(h.gn k g hg).2.1,Int.le_trans (h.gn k g hg).2.2 hb⟩ }
theorem or_f{a b:Bool}(h:(a||b)=false):a=false/\b=false:=by cases a<;>cases b<;>simp_all
theorem not_f{a:Bool}(h:(!a)=false):a=true:=by cases a<;>simp_all
def τWkD:TE:=[(3,⟨.int .i64,1,[.v (.i .i64) (show Int from 0)],(.i .i64),8⟩),
 (4,⟨.b,1,[.v .b (show Bool from false)],.b,1⟩),
 (9,⟨.s,1,[.v .s (show Bs from [])],.s,16⟩),
 (22,⟨.sl 9,1,[.nils],(.sl .s),24⟩),
 (34,⟨.pt 128,1,[.nilp],.un,8⟩),
 (45,⟨.sl 53,1,[.nils],(.sl (.pr (.i .i64) (.pr (.i .i64) (.pr .s (.pr .s (.pr .b (.pr (.pr .s (.sl .s)) (.pr .s (.pr .s (.pr (.sl .s) (.pr (.sl .s) (.pr .b (.pr .b (.pr .b .b)))))))))))))),24⟩),
 (49,⟨.st [(9,0),(22,1)],2,[.v .s (show Bs from []),.nils],(.pr .s (.sl .s)),40⟩),
 (51,⟨.st [(9,0),(9,1),(22,2),(22,3),(4,4),(4,5),(4,6),(4,7)],8,[.v .s (show Bs from []),.v .s (show Bs from []),.nils,.nils,.v .b (show Bool from false),.v .b (show Bool from false),.v .b (show Bool from false),.v .b (show Bool from false)],(.pr .s (.pr .s (.pr (.sl .s) (.pr (.sl .s) (.pr .b (.pr .b (.pr .b .b))))))),88⟩),
 (53,⟨.st [(3,0),(3,1),(9,2),(9,3),(4,4),(49,5),(51,7)],15,[.v (.i .i64) (show Int from 0),.v (.i .i64) (show Int from 0),.v .s (show Bs from []),.v .s (show Bs from []),.v .b (show Bool from false),.v .s (show Bs from []),.nils,.v .s (show Bs from []),.v .s (show Bs from []),.nils,.nils,.v .b (show Bool from false),.v .b (show Bool from false),.v .b (show Bool from false),.v .b (show Bool from false)],(.pr (.i .i64) (.pr (.i .i64) (.pr .s (.pr .s (.pr .b (.pr (.pr .s (.sl .s)) (.pr .s (.pr .s (.pr (.sl .s) (.pr (.sl .s) (.pr .b (.pr .b (.pr .b .b))))))))))))),184⟩),
 (54,⟨.sl 57,1,[.nils],(.sl (.pr .s (.pr (.sl .s) (.pr (.sl .s) (.pr (.sl .s) (.i .i64)))))),24⟩),
 (57,⟨.st [(9,0),(22,1),(22,2),(22,3),(3,4)],5,[.v .s (show Bs from []),.nils,.nils,.nils,.v (.i .i64) (show Int from 0)],(.pr .s (.pr (.sl .s) (.pr (.sl .s) (.pr (.sl .s) (.i .i64))))),96⟩),
 (64,⟨.sl 51,1,[.nils],(.sl (.pr .s (.pr .s (.pr (.sl .s) (.pr (.sl .s) (.pr .b (.pr .b (.pr .b .b)))))))),24⟩),
 (67,⟨.sl 77,1,[.nils],(.sl (.pr .s (.pr .s (.pr .b (.i .i64))))),24⟩),
 (69,⟨.sl 49,1,[.nils],(.sl (.pr .s (.sl .s))),24⟩),
 (72,⟨.sl 75,1,[.nils],(.sl (.pr .s .s)),24⟩),
 (75,⟨.st [(9,0),(9,1)],2,[.v .s (show Bs from []),.v .s (show Bs from [])],(.pr .s .s),32⟩),
 (77,⟨.st [(9,0),(9,1),(4,2),(3,3)],4,[.v .s (show Bs from []),.v .s (show Bs from []),.v .b (show Bool from false),.v (.i .i64) (show Int from 0)],(.pr .s (.pr .s (.pr .b (.i .i64)))),48⟩),
 (122,⟨.map 9 77,1,[.nilm],(.mp .s (.pr .s (.pr .s (.pr .b (.i .i64))))),8⟩),
 (123,⟨.map 9 133,1,[.nilm],(.mp .s (.pr (.pr (.sl .s) (.pr (.sl .s) (.sl .s))) (.i .i64))),8⟩),
 (124,⟨.map 9 49,1,[.nilm],(.mp .s (.pr .s (.sl .s))),8⟩),
 (125,⟨.map 9 51,1,[.nilm],(.mp .s (.pr .s (.pr .s (.pr (.sl .s) (.pr (.sl .s) (.pr .b (.pr .b (.pr .b .b)))))))),8⟩),
 (126,⟨.map 75 157,1,[.nilm],(.mp (.pr .s .s) .un),8⟩),
 (128,⟨.st [(122,0),(123,1),(124,2),(125,3),(126,4)],5,[.nilm,.nilm,.nilm,.nilm,.nilm],(.pr (.mp .s (.pr .s (.pr .s (.pr .b (.i .i64))))) (.pr (.mp .s (.pr (.pr (.sl .s) (.pr (.sl .s) (.sl .s))) (.i .i64))) (.pr (.mp .s (.pr .s (.sl .s))) (.pr (.mp .s (.pr .s (.pr .s (.pr (.sl .s) (.pr (.sl .s) (.pr .b (.pr .b (.pr .b .b)))))))) (.mp (.pr .s .s) .un))))),40⟩),
 (131,⟨.ar 3 22,3,[.nils,.nils,.nils],(.pr (.sl .s) (.pr (.sl .s) (.sl .s))),72⟩),
 (133,⟨.st [(131,0),(3,3)],4,[.nils,.nils,.nils,.v (.i .i64) (show Int from 0)],(.pr (.pr (.sl .s) (.pr (.sl .s) (.sl .s))) (.i .i64)),80⟩),
 (157,⟨.st [],0,[],.un,0⟩),
 (187,⟨.st [(3,0),(25,1)],2,[.v (.i .i64) (show Int from 0),.nilf],.un,16⟩),
 (188,⟨.ar 3 187,6,[.v (.i .i64) (show Int from 0),.nilf,.v (.i .i64) (show Int from 0),.nilf,.v (.i .i64) (show Int from 0),.nilf],.un,48⟩)]
theorem τ_okWkD:TEok aA τWkD:=yrP (by kernel_rfl) (by kernel_rfl)
theorem mixWkD:Tryz.prog.follows .mixedOrders=true:=by kernel_rfl
theorem fscWkD {G : List (Nat × Obj)} {o : Ops} [zrD G] [zoW G o] {Γ : CT} {η : HT} {f : FuncId} {fn : Func} {c : SC} (hΓ : ∀ B, GB G B -> CTok aA Γ B) (hf : Tryz.prog.funcs[f]? = some fn) (i : (fn.name == "runtime.NumGoroutine") = false := by kernel_rfl) (j : fn.body.isNone = false := by kernel_rfl) (l : cK c.I.sl.length fn.ntmps = true := by kernel_rfl) (r : Nat.beq fn.results.toList.length c.nr = true := by kernel_rfl) (e : fnS τWkD Γ η fn c.I c.outs = c.p := by kernel_rfl) : SCok aA G f c := witO (G := G) (o := o) <| xbF mixWkD τ_okWkD hΓ hf (isFn hf i j) l r e
theorem fpcWkD {G : List (Nat × Obj)} {o : Ops} [zrD G] [zoW G o] {Γ : CT} {η : HT} {f : FuncId} {fn : Func} {c : PC} (hΓ : ∀ B, GB G B -> CTok aA Γ B) (hf : Tryz.prog.funcs[f]? = some fn) (i : (fn.name == "runtime.NumGoroutine") = false := by kernel_rfl) (j : fn.body.isNone = false := by kernel_rfl) (l : cK c.ash.length fn.ntmps = true := by kernel_rfl) (r : c.cl = false := by kernel_rfl) (e : fnP τWkD Γ η fn c.ash c.rts = c.p := by kernel_rfl) : PCok aA G f c := witO (G := G) (o := o) <| yyR mixWkD τ_okWkD hΓ hf (isFn hf i j) l r e
abbrev KWkD0:Type:=Bs×List Bs
abbrev YWkD0:Ty:=.pr .s (.sl .s)
abbrev KWkD1:Type:=Bs×Bs×Bool×Int
abbrev YWkD1:Ty:=.pr .s (.pr .s (.pr .b (.i .i64)))
abbrev KWkD2:Type:=Bs×KWkD0
abbrev KWkD3:Type:=Bs×KWkD1
abbrev KWkD4:Type:=((List Bs)×(List Bs)×List Bs)×Int
abbrev YWkD4:Ty:=.pr (.pr (.sl .s) (.pr (.sl .s) (.sl .s))) (.i .i64)
abbrev KWkD6:Type:=Bs×KWkD4
abbrev KWkD7:Type:=Bs×Bs×(List Bs)×(List Bs)×Bool×Bool×Bool×Bool
abbrev YWkD7:Ty:=.pr .s (.pr .s (.pr (.sl .s) (.pr (.sl .s) (.pr .b (.pr .b (.pr .b .b))))))
abbrev KWkD8:Type:=Bs×KWkD7
abbrev KWkD10:Type:=(List (Bs×KWkD1))×(List (Bs×KWkD4))×(List (Bs×KWkD0))×(List (Bs×KWkD7))×List ((Bs×Bs)×Unit)
abbrev QWkD1:OSh:=.blk 128 [(.mpr 1),(.mpr 2),(.mpr 3),(.mpr 4),(.mpr 5)]
abbrev QWkD10:OSh:=.mp true .s YWkD1
abbrev QWkD11:OSh:=.mp true .s YWkD4
abbrev QWkD12:OSh:=.mp true .s YWkD0
abbrev QWkD13:OSh:=.mp true .s YWkD7
section
variable {tabs:List (Nat×Obj)}[zrD tabs]{o:Ops}[zoW tabs o]
def znK(_o:Ops)(v0:Bs)(v1:Bs)(v2:List KWkD3)(v3:List KWkD6)(v4:List KWkD2)(v5:List KWkD8)(v6:List ((Bs×Bs)×Unit)):Option ((Bool×KWkD10)):=
 let _v7:Unit:=zeD (keq (.pr .s .s)) v6 (v0,v1) ()
 some (mhas (keq (.pr .s .s)) v6 (v0,v1),v2,v3,v4,v5,v6)
def zsS(o:Ops):SC:=⟨⟨[(0,(.ptr 0 0)),(1,hS),(2,hS)],[QWkD1,QWkD10,QWkD11,QWkD12,QWkD13,qaY]⟩,1,[(none,⟨[(0,hB)],[QWkD1,QWkD10,QWkD11,QWkD12,QWkD13,qaY]⟩)],fun x=>znK o x.1 x.2.1 x.2.2.1 x.2.2.2.1 x.2.2.2.2.1 x.2.2.2.2.2.1 x.2.2.2.2.2.2⟩
theorem ybD:SCok aA tabs 56 (zsS o):=fscWkD (o:=o) (η:=[]) (Γ:=⟨[],[],false,[]⟩) (ctok trivial trivial) Tryz.func56
def zeA(_o:Ops)(v0:List Bs)(v1:Bs)(v2:Int):Option (Int⊕(Bool⊕Unit)):=
 bif decide (v2<(v0.length:Int))then((idx v0 v2).bind fun v3=>bif(v3==v1)then some (.inr (.inl true))else some (.inl (w64 (v2+1))))else some (.inr (.inr ()))
def zcG(o:Ops)(v0:List Bs)(v1:Bs):Option (Bool):=
 (iter (zeA o v0 v1) (0:Int)).bind fun v4=>match v4 with
 |.inl v5=>(some v5)|.inr _v6=>(some false)
def zeB(o:Ops):PC:=⟨[(.h (.sl .s)),hS],[.b],fun x=>zcG o x.1 x.2,false⟩
theorem zgE:PCok aA tabs 46 (zeB o):=fpcWkD (o:=o) (η:=[(200002,.loop [] ⟨[(5,hI)],[]⟩ [0,1] [(some 1000000,⟨[(4,hB)],[]⟩),(some 0,⟨[],[]⟩)])]) (Γ:=⟨[],[],false,[]⟩) (ctok trivial trivial) Tryz.func46
end
theorem half_ok{a b:Nat}(h:a+b<1099511627776):w64 ((i64 (shrI .u64 ((i64 (w64 ((a:Int)+(b:Int)))).toNat:Int) ((1:UInt64).toNat:Int))).toNat:Int)=(((a+b)/2:Nat):Int):=by
 have e1:w64 ((a:Int)+(b:Int))=((a+b:Nat):Int):=by rw[zuG (by omega) (by omega)];omega
 have e2:((i64 ((a+b:Nat):Int)).toNat:Int)=((a+b:Nat):Int):=ypN (by omega) (by omega);rw[e1,e2];have e3:shrI .u64 ((a+b:Nat):Int) ((1:UInt64).toNat:Int)=(((a+b)/2:Nat):Int):=by unfold shrI;rw[show(min ((1:UInt64).toNat:Int).toNat IntKind.u64.bits)=1 from rfl,ygQ]
 rw[e3,ypN (by omega) (by omega),zuG (by omega) (by omega)]
theorem less_ok(x y:L8):yaS zaB x y=some (kltS x y):=by unfold yaS zwS;rw[zaA,bne_self_eq_false];rfl
def ziN(x:L8)(l:List L8):Nat:=(l.takeWhile fun y=>kltS y x).length
theorem xbR(x:L8)(l:List L8):ziN x l<=l.length:=(fP _).length_le
theorem ynV{x:L8}:∀{l:List L8},RiL l->∀{m:Nat} (hm:m<l.length),kltS l[m] x=decide (m<ziN x l)
 |y::l,h,m,hm=>by
  have hc:=aW.1 h;cases hy:kltS y x with
  |true=>
   have e:ziN x (y::l)=ziN x l+1:=by unfold ziN;rw[eS,zI hy];rfl
   rw[e];cases m with
   |zero=>rw[zA (by omega)];exact hy|succ m=>
    have hm':m<l.length:=by simpa using hm
    rw[iS,ynV (x:=x) hc.2 hm'];exact decide_eq_decide.2 (by omega)
  |false=>
   have e:ziN x (y::l)=0:=by unfold ziN;rw[eS,zH (by rw[hy];simp)];rfl
   rw[e,zB (by omega)];cases m with
   |zero=>exact hy|succ m=>
    have hm':m<l.length:=by simpa using hm
    rw[iS];cases hz:kltS l[m] x with
    |false=>rfl|true=>have:=kS.tr (hc.1 _ (bE hm')) hz;rw[hy]at this;cases this
theorem ynA{x:L8}{l:List L8}(h:RiL l):l.contains x=match l[ziN x l]? with
  |some y=>y==x|none=>false:=by
 cases hc:l.contains x with
 |true=>
  obtain⟨m,hm,e⟩:=List.getElem_of_mem (cF.1 hc);have h1:=ynV (x:=x) h hm;rw[e,kS.irr]at h1;have h1:¬m<ziN x l:=of_decide_eq_false h1.symm;have h2:ziN x l=m:=by refine Nat.le_antisymm (by omega) (Nat.le_of_not_lt fun hl=>?_);have h3:kltS l[ziN x l] l[m]=true:=List.pairwise_iff_getElem.1 h _ _ (by omega) hm hl;rw[e]at h3;rw[ynV h (by omega)]at h3;have:=zC h3;omega
  rw[h2,aO hm,e];simp
 |false=>
  cases hg:l[ziN x l]? with
  |none=>rfl|some y=>
   have hy:=List.mem_of_getElem? hg;show false=(y==x);cases hb:y==x with
   |false=>rfl|true=>rw[beq_iff_eq.1 hb]at hy;rw[cF.2 hy]at hc;cases hc
theorem bs_ok{l:List L8}(x:L8)(h:RiL l)(hl:l.length<=1048576):zfY zaB l x=some ((ziN x l:Int),l.contains x):=by
 have hr:=xbR x l
 have hi:iter (fun s:Int×Int=>zhZ zaB l x s.1 s.2) ((0:Int),(l.length:Int))=some (ziN x l:Int):=by
  have ht:T (iter (fun s:Int×Int=>zhZ zaB l x s.1 s.2) ((0:Int),(l.length:Int))) fun r=>r=(ziN x l:Int):=by
   refine T.iter (fun s=>∃i j:Nat,s=((i:Int),(j:Int))/\i<=ziN x l/\ziN x l<=j/\j<=l.length) (fun s=>(s.2-s.1).toNat) _ ?_ ⟨0,l.length,rfl,by omega,hr,by omega⟩ (by simp;omega);rintro s ⟨i,j,rfl,h1,h2,h3⟩;unfold zhZ;simp only;refine T.dif (fun hij=>?_) fun hij=>T.ok (by show(i:Int)=_;omega);have hij:i<j:=by omega
   rw[show chk (decide ((0:Int)<=((1:UInt64).toNat:Int)))=some ()from rfl,zaA,half_ok (by omega)];have hm:(i+j)/2<l.length:=by omega
   rw[zbD rfl hm,zaA,less_ok,zaA,ynV h hm];refine T.dif (fun hlt=>?_) fun hlt=>?_
   ·refine T.ok ⟨⟨(i+j)/2+1,j,?_,by omega,h2,h3⟩,?_⟩
    ·rw[zfA (by omega)]
    ·rw[zfA (by omega)];simp only;omega
   ·exact T.ok ⟨⟨i,(i+j)/2,rfl,h1,by omega,by omega⟩,by simp only;omega⟩
  obtain⟨r,h1,rfl⟩:=ht;exact h1
 unfold zfY;rw[hi,zaA,ynA h];by_cases hlt:ziN x l<l.length
 ·rw[zaX (show(ziN x l:Int)<(l.length:Int) by omega),zbD rfl hlt,zaA,aO hlt];simp only;cases hb:l[ziN x l]==x with
  |true=>rfl|false=>rw[zF,zaA];unfold zqV;rw[zaA,bne_self_eq_false];rfl
 ·rw[zaY (show ¬(ziN x l:Int)<(l.length:Int) by omega),List.getElem?_eq_none (by omega)]
theorem has_ok{l:List L8}(x:L8)(h:RiL l)(hl:l.length<=1048576):zjK zaB l x=some (l.contains x):=by unfold zjK;rw[bs_ok x h hl,zaA]
theorem ypG{l:List L8}{may:L8->Bool}{n:Nat}{body:Int->Option (Int⊕(Bool⊕Unit))}(hl:l.length<=1048576) (hb:∀(k:Nat) (hk:k<l.length),body (k:Int)=bif !may l[k]then some (.inr (.inl false))else bif decide ((k:Int)>(0:Int))then(idx l (w64 ((k:Int)-(1:Int)))).bind fun v5=>bif(Op.bytesLess l[k] v5||l[k]==v5)then some (.inr (.inl false))else some (.inl (w64 ((k:Int)+(1:Int))))else some (.inl (w64 ((k:Int)+(1:Int))))) (he:body (l.length:Int)=some (.inr (.inr ()))):((iter body (0:Int)).bind fun v6=>match v6 with
   |.inl v7=>some v7|.inr _=>some (decide ((l.length:Int)<=(n:Int))))=some (zxD n may l):=by
 have key:∀(f k:Nat),f+k=l.length->∀g,f<g->(0<k->∀y,l[k-1]? = some y->True)->ziC body g (k:Int)=some (bif(l.drop k).all may&&zmM (l.drop (k-1))then .inr ()else .inl false):=by
  intro f;induction f with
  |zero=>
   intro k hk g hg _;obtain⟨g,rfl⟩:∃m,g=m+1:=⟨g-1,by omega⟩;have hk:k=l.length:=by omega
   subst hk;rw[zaW he,bX];have:zmM (l.drop (l.length-1))=true:=by
    have hlen:(l.drop (l.length-1)).length<=1:=by rw[bH];omega
    match l.drop (l.length-1),hlen with
    |[],_=>rfl|[_],_=>rfl
   rw[this];rfl
  |succ f ih=>
   intro k hk g hg _;obtain⟨g,rfl⟩:∃m,g=m+1:=⟨g-1,by omega⟩;have hlt:k<l.length:=by omega
   have hd:l.drop k=l[k]::l.drop (k+1):=aX hlt;have hb':=hb k hlt;cases hm:may l[k] with
   |false=>rw[hm]at hb';rw[zaW (b:=.inl false) hb',hd,cI,hm];rfl|true=>
    rw[hm]at hb';simp only[bM,zF]at hb';cases k with
    |zero=>rw[show decide (((0:Nat):Int)>(0:Int))=false from rfl,zF]at hb';rw[zaV (s':=((1:Nat):Int)) (by rw[hb'];rfl),ih 1 (by omega) g (by omega) (fun _ _ _=>trivial),hd,cI,hm,cO,<-hd]|succ k=>
     have hp:k<l.length:=by omega
     have hd2:l.drop k=l[k]::l.drop (k+1):=aX hp;rw[zA (show(((k+1:Nat):Int))>0 by omega),zE,show w64 (((k+1:Nat):Int)-1)=(k:Int) by rw[zuG (by omega) (by omega)];omega,zbD rfl hp,zaA,zfA (by omega)]at hb';have hr:zmM (l.drop k)=(Op.bytesLess l[k] l[k+1]&&zmM (l.drop (k+1))):=by rw[hd2,hd];rfl
     have hq:(Op.bytesLess l[k+1] l[k]||l[k+1]==l[k]) = !(Op.bytesLess l[k] l[k+1]):=by
      have h1:Op.bytesLess l[k] l[k+1]=kltS l[k] l[k+1]:=rfl;have h2:Op.bytesLess l[k+1] l[k]=kltS l[k+1] l[k]:=rfl;rw[h1,h2];by_cases e:l[k+1]=l[k]
      ·rw[e,kS.irr];simp
      ·rw[beq_false_of_ne e,Bool.or_false];cases hx:kltS l[k] l[k+1] with
       |true=>
        cases hy:kltS l[k+1] l[k] with
        |false=>rfl|true=>have:=kS.tr hx hy;rw[kS.irr]at this;cases this
       |false=>exact kS.tri hx fun e'=>e e'.symm
     rw[hq]at hb';rw[jG,hr,hd,cI,hm,cO];cases hx:Op.bytesLess l[k] l[k+1] with
     |false=>rw[hx]at hb';rw[zaW (b:=.inl false) hb'];simp|true=>rw[hx]at hb';rw[zaV (s':=((k+1+1:Nat):Int)) hb',ih (k+1+1) (by omega) g (by omega) (fun _ _ _=>trivial),jG,cO,hd]
 have h0:=key l.length 0 (by omega) FU (by unfold FU;omega) (fun h=>by omega);unfold iter;rw[show((0:Nat):Int)=0 from rfl]at h0;rw[h0,zaA];unfold zxD;rw[Nat.zero_sub,bQ];cases l.all may&&zmM l with
 |false=>rfl|true=>show some (decide ((l.length:Int)<=(n:Int)))=_;rw[cO];congr 1;exact decide_eq_decide.2 (by omega)
theorem yqL{l:List L8}(hl:l.length<=1048576)(n:Nat):zmS zaB l (n:Int)=some (zxD n scB l):=by
 unfold zmS;refine ypG hl (fun k hk=>?_) ?_
 ·unfold ztN;rw[zaX (by omega),zbD rfl hk,zaA,sc_ok,zaA]
 ·unfold ztN;rw[zaY (by omega)]
theorem xbG{l:List L8}(hl:l.length<=1048576)(n:Nat):zoQ zaB l (n:Int)=some (zxD n txB l):=by
 unfold zoQ;refine ypG hl (fun k hk=>?_) ?_
 ·unfold zsA;rw[zaX (by omega),zbD rfl hk,zaA,xcI,zaA]
 ·unfold zsA;rw[zaY (by omega)]
theorem xaI{r:Ro}(h:r.2.length<=1048576):zpB zaB r=some (ydO r):=by
 unfold zpB ydO;rw[ynL,zaA];cases nmB r.1 with
 |false=>rfl|true=>rw[zE,show((16:Int))=((16:Nat):Int)from rfl,yqL h,zaA];rfl
theorem copR_ok{r:Ro}(h:r.2.length<=1048576):zhO zaB r=some r:=by unfold zhO;rw[zmZ _ (by omega),zaA]
theorem copC_ok{c:Cl}(h:c.2.2.1.length<=1048576)(k:c.2.2.2.1.length<=1048576):zpQ zaB c=some c:=by unfold zpQ;rw[zmZ _ (by omega),zaA,zmZ _ (by omega),zaA]
abbrev hexL:L8:=[48,49,50,51,52,53,54,55,56,57,97,98,99,100,101,102]
theorem hex_is(b:UInt8):hexL.contains b=hexB b:=by have:=zuI (fun b=>hexL.contains b==hexB b) (by kernel_rfl) b;simpa using this
theorem cli_ok{c:Cl}(h0:c.2.1.length<=1048576)(h:c.2.2.1.length<=1048576)(k:c.2.2.2.1.length<=1048576):zpN zaB c=some (cliB c):=by
 have hj:zsK zaB c=some (c.2.1==[]||(decide (c.2.1.length=64)&&c.2.1.all hexB),c):=by
  unfold zsK;cases h1:c.2.1==([]:L8) with
  |true=>rfl|false=>
   rw[zF,eQ];by_cases h2:c.2.1.length=64
   ·rw[show((c.2.1.length:Int)==(64:Int))=true by rw[h2];rfl,zE,show zaB.trim c.2.1 hexL=some (Lib.trimS c.2.1 hexL)from trim_is (by omega) (by decide) (by decide),zaA,zA h2,cO];congr 2;rw[eD,beq_iff_eq,ycR,aY];exact forall_congr' fun b=>imp_congr Iff.rfl (by rw[hex_is])
   ·rw[show((c.2.1.length:Int)==(64:Int))=false by rw[beq_eq_false_iff_ne];omega,zB h2];rfl
 unfold zpN cliB;rw[hj,zaA,ynL,zaA];cases nmB c.1 with
 |false=>rfl|true=>
  rw[zE,cO];cases (c.2.1==[]||(decide (c.2.1.length=64)&&c.2.1.all hexB)) with
  |false=>rfl|true=>
   rw[zE,cO,show((16:Int))=((16:Nat):Int)from rfl,xbG h,zaA];cases zxD 16 txB c.2.2.1 with
   |false=>rfl|true=>rw[zE,yqL k,zaA];rfl
theorem yuP{G:GM}(hR:Ri kltS G){a:L8}{g:Gr}(h:(a,g)∈G):zeD keqS G a zG=g:=by rw[zjY,kS.get_mem hR h];rfl
abbrev SM:Type:=List (L8×Unit)
theorem ziL{s:L8}(h:nmB s=true):s.length<=24:=by rw[nm_is,aF,aF]at h;exact zC h.1.2
theorem PInv.lst_len{B:Int}{s:PS}(h:PInv B s){k:L8}{g:Gr}(hg:(k,g)∈s.2.1){i:Nat}(hi:i<3):(lst i g).length<=64:=by
 obtain⟨h1,h2⟩:=h.gl k g hg i hi
 have key:∀{γ:Type} {es:List (L8×γ)},(∀x∈lst i g,mhas keqS es x=true)->(lst i g).length<=es.length:=fun {γ es} hh=>by
  have:=h1.sub_len (m:=es.map (·.1)) fun x hx=>by obtain⟨v,hv⟩:=kS.has_iff.1 (hh x hx);exact aR.2 ⟨_,hv,rfl⟩
  rwa[List.length_map]at this
 match i,hi with
 |0,_=>exact bC (key h2) h.uL|1,_=>exact bC (key h2) (bC h.gL (by decide))|2,_=>exact bC (key h2) (bC h.rL (by decide))
abbrev T6(γ:Type):Type:=UM×GM×RM×CM×MM×γ
theorem ygA{p:L8}(hp:prB p=true)(s:PS):zcL zaB p s.1 s.2.1 s.2.2.1 s.2.2.2.1 s.2.2.2.2=some (thB s p,s):=by
 obtain⟨c,l,rfl,hc,_⟩:=ymV hp;unfold zcL;rw[show idx (c::58::l) (0:Int)=some c from rfl,zaA];have e2:subL (c::58::l) (2:Int)=some l:=by unfold subL;rw[zA (show(0:Int)<=2 by decide),zA (show(2:Int)<=((c::58::l).length:Int) by simp only[aN];omega)];rfl
 rcases hc with rfl|rfl
 ·rw[show(((117:UInt8).toNat:Int)==((99:UInt8).toNat:Int))=false from rfl,zF,e2,zaA];rfl
 ·rw[show(((99:UInt8).toNat:Int)==((99:UInt8).toNat:Int))=true from rfl,zE,e2,zaA];rfl
end Go.Proofs.YtopanhneegpgcaaGreatDoor.Am
