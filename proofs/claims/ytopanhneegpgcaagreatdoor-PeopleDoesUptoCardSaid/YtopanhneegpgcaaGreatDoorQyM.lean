/- Parts of one proof. Conditions: as each theorem says. -/
import Derived.KernelRfl
import Derived.Test.YtopanhneegpgcaaGreatDoorQyL
open Bool renaming and_eq_true->aI,and_false->iI,and_true->eV,false_or->dB,not_eq_true'->bM,not_eq_true->cM,not_true->aK,or_eq_false_iff->cV,or_eq_true->cH,true_and->cJ
open Int renaming le_refl->iZ,toNat_natCast->bY
open List renaming all_cons->cT,all_eq_true->bR,contains_iff_mem->bE,filter_sublist->eW,length_append->aD,length_cons->aQ,length_nil->cN,map->cU,map_map->cW,mem_append->bH,mem_cons->aN,mem_cons_of_mem->aM,mem_cons_self->aO,mem_filter->cE,mem_map->aY,not_lt->fX,pairwise_cons->bD,pairwise_map->bZ,pairwise_singleton->dA,takeWhile_append_dropWhile->cP,take_of_length_le->eM,take_succ_eq_append_getElem->fF
open Nat renaming add_zero->gB,le_trans->bB
open Option renaming bind->aR
open Go.Proofs.Tryz renaming prog->aA
open Go.Lib renaming decDigits->db
open Go.Proofs.Tryz
namespace Go.Proofs.YtopanhneegpgcaaGreatDoor.Am
open Go Go.RowKit
structure KO {κ:Type} (eq lt:κ->κ->Bool):Prop where
 e:∀{a b},eq a b=true↔a=b
 Vu:∀{a},lt a a=false
 tr:∀{a b c},lt a b=true->lt b c=true->lt a c=true
 xH:∀{a b},lt a b=false->a≠b->lt b a=true
section
variable {κ γ δ:Type}{eq lt:κ->κ->Bool}
def Ri(lt:κ->κ->Bool)(es:List (κ×γ)):Prop:=es.Pairwise fun x y=>lt x.1 y.1=true
theorem KO.ne(o:KO eq lt){a b:κ}(h:a≠b):eq a b=false:=by
 cases c:eq a b with
 |false=>rfl|true=>exact absurd (o.e.1 c) h
theorem KO.Cb(o:KO eq lt){a b:κ}(h:lt a b=true):a≠b:=fun e=>by subst e;rw[o.Vu]at h;cases h
theorem KO.get_mem(o:KO eq lt):∀{es:List (κ×γ)},Ri lt es->∀{k v},(k,v)∈es->W0 eq es k=some v
 |(b,v')::m,h,k,v,hm=>by
  unfold W0;rcases aN.1 hm with e|hm
  ·cases e;rw[o.e.2 rfl];rfl
  ·have a:=(bD.1 h).1 _ hm;rw[o.ne (o.Cb a)];exact o.get_mem (bD.1 h).2 hm
theorem KO.get_some(o:KO eq lt):∀{es:List (κ×γ)} {k v},W0 eq es k=some v->(k,v)∈es
 |(b,v')::m,k,v,h=>by
  unfold W0 at h;cases a:eq b k with
  |true=>rw[a]at h;cases h;rw[o.e.1 a];exact aO
  |false=>rw[a]at h;exact aM _ (o.get_some h)
theorem KO.wq(o:KO eq lt){es:List (κ×γ)}(h:Ri lt es){k v}:W0 eq es k=some v↔(k,v)∈es:=⟨o.get_some,o.get_mem h⟩
theorem kc:∀(es:List (κ×γ)) (k:κ),J' eq es k=(W0 eq es k).isSome
 |[],_=>rfl|(a,v')::m,k=>by
  unfold J' W0;cases eq a k with
  |true=>rfl|false=>rw[dB,zH];exact kc m k
theorem pb(es:List (κ×γ))(k:κ)(z:γ):r6 eq es k z=(W0 eq es k).getD z:=by unfold r6;cases W0 eq es k<;>rfl
theorem KO.n0(o:KO eq lt){es:List (κ×γ)}{k}:J' eq es k=true↔∃v,(k,v)∈es:=by
 rw[kc,Option.isSome_iff_exists];constructor
 ·exact fun⟨v,h⟩=>⟨v,o.get_some h⟩
 ·rintro⟨v,h⟩;induction es with
  |nil=>cases h
  |cons p m b=>
   obtain⟨c,v'⟩:=p;unfold W0;cases a:eq c k with
   |true=>exact⟨_,rfl⟩|false=>refine b ((aN.1 h).resolve_left fun e=>?_);cases e;rw[o.e.2 rfl]at a;cases a
theorem KO.Qm(o:KO eq lt){es:List (κ×γ)}{k}(h:∀v,(k,v)∉es):W0 eq es k=none:=by
 cases a:W0 eq es k with
 |none=>rfl|some v=>exact absurd (o.get_some a) (h v)
theorem KO.ext(o:KO eq lt):∀{es fs:List (κ×γ)},Ri lt es->Ri lt fs->(∀p,p∈es↔p∈fs)->es=fs
 |[],[],_,_,_=>rfl|[],q::fs,_,_,h=>absurd ((h q).2 aO) (by simp)|p::es,[],_,_,h=>absurd ((h p).1 aO) (by simp)|p::es,q::fs,i,j,h=>by
  have d:=bD.1 i;have f:=bD.1 j;have asym:∀{a b:κ},lt a b=true->lt b a=true->False:=fun h k=>by have:=o.tr h k;rw[o.Vu]at this;cases this
  have e:p=q:=by
   rcases aN.1 ((h p).1 aO)with e|e
   ·exact e
   ·rcases aN.1 ((h q).2 aO)with g|g
    ·exact g.symm
    ·exact(asym (f.1 p e) (d.1 q g)).elim
  subst e;rw[o.ext d.2 f.2 fun r=>?_];constructor
  ·intro c;refine(aN.1 ((h r).1 (aM _ c))).resolve_left fun e=>?_;subst e;exact o.Cb (d.1 r c) rfl
  ·intro c;refine(aN.1 ((h r).2 (aM _ c))).resolve_left fun e=>?_;subst e;exact o.Cb (f.1 r c) rfl
theorem KO.ext_get(o:KO eq lt){es fs:List (κ×γ)}(a:Ri lt es)(b:Ri lt fs)(h:∀k,W0 eq es k=W0 eq fs k):es=fs:=
 o.ext a b fun p=>by rw[<-o.wq a (k:=p.1) (v:=p.2),h,o.wq b]
theorem KO.xq(o:KO eq lt):∀{es:List (κ×γ)},Ri lt es->∀{k:κ} {v:γ} {p},J' eq es k=true->(p∈Z9 eq es k v↔p=(k,v)∨(p∈es/\p.1≠k))
 |(f,v')::m,h,k,v,p,a=>by
  have g:=bD.1 h;unfold Z9;cases c:eq f k with
  |true=>
   have e:=o.e.1 c;subst e;rw[zF,aN,aN];constructor
   ·rintro(rfl|hp)
    ·exact .inl rfl
    ·exact .inr ⟨.inr hp,fun e=>o.Cb (g.1 p hp) e.symm⟩
   ·rintro(rfl|⟨rfl|hp,b⟩)
    ·exact .inl rfl
    ·exact absurd rfl b
    ·exact .inr hp
  |false=>
   have d:f≠k:=fun e=>by rw[o.e.2 e]at c;cases c
   have a:J' eq m k=true:=by unfold J' at a;rw[c,dB]at a;exact a
   rw[zH,aN,aN,o.xq g.2 a];constructor
   ·rintro(rfl|rfl|⟨hp,b⟩)
    ·exact .inr ⟨.inl rfl,d⟩
    ·exact .inl rfl
    ·exact .inr ⟨.inr hp,b⟩
   ·rintro(rfl|⟨rfl|hp,b⟩)
    ·exact .inr (.inl rfl)
    ·exact .inl rfl
    ·exact .inr (.inr ⟨hp,b⟩)
theorem KO.dj(o:KO eq lt):∀(es:List (κ×γ)) (k:κ) (v:γ),(Z9 eq es k v).map (·.1)=es.map (·.1)
 |[],_,_=>rfl|(a,v')::m,k,v=>by
  unfold Z9;cases b:eq a k with
  |true=>rw[o.e.1 b];rfl|false=>simp only[zH,List.map_cons,o.dj m k v]
theorem yq{es:List (κ×γ)}{fs:List (κ×δ)}(h:es.map (·.1)=fs.map (·.1))(hf:Ri lt fs):Ri lt es:=by have:(fs.map (·.1)).Pairwise (fun x y=>lt x y=true):=bZ.2 hf;rw[<-h]at this;exact bZ.1 this
theorem xfH:∀{es:List (κ×γ)} {k:κ} {v:γ} {p},p∈ab lt es k v↔p=(k,v)∨p∈es
 |[],k,v,p=>by unfold ab;simp
 |(a,v')::m,k,v,p=>by
  unfold ab;cases lt a k with
  |true=>
   rw[zF,aN,aN,xfH];constructor
   ·rintro(h|h|h)
    ·exact .inr (.inl h)
    ·exact .inl h
    ·exact .inr (.inr h)
   ·rintro(h|h|h)
    ·exact .inr (.inl h)
    ·exact .inl h
    ·exact .inr (.inr h)
  |false=>rw[zH,aN]
theorem KO.wy(o:KO eq lt):∀{es:List (κ×γ)} {k:κ} {v:γ},Ri lt es->(∀v',(k,v')∉es)->Ri lt (ab lt es k v)
 |[],_,_,_,_=>dA _ _|(b,v')::m,k,v,h,f=>by
  have c:=bD.1 h;have d:b≠k:=fun e=>f v' (by rw[e];exact aO);unfold ab;cases g:lt b k with
  |true=>
   simp only[zF];refine bD.2 ⟨fun p hp=>?_,o.wy c.2 fun i j=>f i (aM _ j)⟩;rcases xfH.1 hp with rfl|hp
   ·exact g
   ·exact c.1 p hp
  |false=>
   simp only[zH];have a:lt k b=true:=o.xH g d;refine bD.2 ⟨fun p hp=>?_,h⟩;rcases aN.1 hp with rfl|hp
   ·exact a
   ·exact o.tr a (c.1 p hp)
theorem KO.O8(o:KO eq lt){es:List (κ×γ)}{k:κ}{v:γ}(h:Ri lt es):Ri lt (Y0 eq lt es k v):=by
 unfold Y0;cases a:J' eq es k with
 |true=>exact yq (o.dj es k v) h|false=>refine o.wy h fun v' b=>?_;rw[o.n0.2 ⟨v',b⟩]at a;cases a
theorem KO.W4(o:KO eq lt){es:List (κ×γ)}(h:Ri lt es){k:κ}{v:γ}{p}:p∈Y0 eq lt es k v↔p=(k,v)∨(p∈es/\p.1≠k):=by
 unfold Y0;cases a:J' eq es k with
 |true=>exact o.xq h a|false=>rw[zH,xfH];refine or_congr Iff.rfl ⟨fun hp=>⟨hp,fun e=>?_⟩,fun hp=>hp.1⟩;rw[o.n0.2 ⟨p.2,by rw[<-e];exact hp⟩]at a;cases a
theorem KO.Gd(o:KO eq lt){es:List (κ×γ)}(h:Ri lt es){k:κ}{v:γ}(j:κ):W0 eq (Y0 eq lt es k v) j=if eq k j=true then some v else W0 eq es j:=by
 by_cases b:eq k j=true
 ·rw[zJ b];have e:=o.e.1 b;subst e;exact o.get_mem (o.O8 h) ((o.W4 h).2 (.inl rfl))
 ·rw[zI b];have a:j≠k:=fun e=>b (o.e.2 e.symm);cases c:W0 eq es j with
  |some u=>exact o.get_mem (o.O8 h) ((o.W4 h).2 (.inr ⟨o.get_some c,a⟩))|none=>
   refine o.Qm fun u d=>?_;rcases(o.W4 h).1 d with e|⟨d,_⟩
   ·cases e;exact a rfl
   ·rw[o.get_mem h d]at c;cases c
theorem zq:∀(es:List (κ×γ)) (k:κ) (v:γ),(Z9 eq es k v).length=es.length
 |[],_,_=>rfl|(a,v')::m,k,v=>by
  unfold Z9;cases eq a k with
  |true=>rfl|false=>simp only[zH,aQ,zq m k v]
theorem Aq:∀(es:List (κ×γ)) (k:κ) (v:γ),(ab lt es k v).length=es.length+1
 |[],_,_=>rfl|(a,v')::m,k,v=>by
  unfold ab;cases lt a k with
  |true=>simp only[zF,aQ,Aq m k v]|false=>rfl
theorem QB{es:List (κ×γ)}{k:κ}{v:γ}:(Y0 eq lt es k v).length=if J' eq es k=true then es.length else es.length+1:=by
 unfold Y0;cases a:J' eq es k with
 |true=>rw[zF,zJ rfl,zq]|false=>rw[zI (by simp)];exact Aq es k v
theorem xy:∀(es:List (κ×γ)) (k:κ),(l5 eq es k).Sublist es
 |[],_=>.slnil|(a,v')::m,k=>by
  unfold l5;cases eq a k with
  |true=>exact List.sublist_cons_self _ _|false=>exact(xy m k).cons_cons _
theorem Rm{es:List (κ×γ)}{k:κ}(h:Ri lt es):Ri lt (l5 eq es k):=h.sublist (xy es k)
theorem KO.Gg(o:KO eq lt):∀{es:List (κ×γ)},Ri lt es->∀{k:κ} {p},p∈l5 eq es k↔p∈es/\p.1≠k
 |[],_,_,_=>by unfold l5;simp
 |(d,v')::m,h,k,p=>by
  have f:=bD.1 h;unfold l5;cases b:eq d k with
  |true=>
   have e:=o.e.1 b;subst e;rw[zF,aN];constructor
   ·exact fun hp=>⟨.inr hp,fun e=>o.Cb (f.1 p hp) e.symm⟩
   ·rintro⟨rfl|hp,a⟩
    ·exact absurd rfl a
    ·exact hp
  |false=>
   have c:d≠k:=fun e=>by rw[o.e.2 e]at b;cases b
   rw[zH,aN,aN,o.Gg f.2];constructor
   ·rintro(rfl|⟨hp,a⟩)
    ·exact⟨.inl rfl,c⟩
    ·exact⟨.inr hp,a⟩
   ·rintro⟨rfl|hp,a⟩
    ·exact .inl rfl
    ·exact .inr ⟨hp,a⟩
theorem KO.Zd(o:KO eq lt){es:List (κ×γ)}(h:Ri lt es)(k:κ):l5 eq es k=es.filter fun p=>!eq p.1 k:=
 o.ext (Rm h) (h.sublist eW) fun p=>by rw[o.Gg h,cE,bM,<-cM,o.e]
def Fe(f:κ->γ->δ)(es:List (κ×γ)):List (κ×δ):=es.map fun p=>(p.1,f p.1 p.2)
theorem zW{f:κ->γ->δ}{es:List (κ×γ)}(h:Ri lt es):Ri lt (Fe f es):=yq (by unfold Fe;rw[cW];rfl) h
theorem wL(f:κ->γ->δ)(o:KO eq lt):∀(es:List (κ×γ)) (k:κ),W0 eq (Fe f es) k=(W0 eq es k).map (f k)
 |[],_=>rfl|(a,v')::m,k=>by
  show(bif eq a k then some (f a v')else W0 eq (Fe f m) k)=Option.map (f k) (bif eq a k then some v' else W0 eq m k);cases b:eq a k with
  |true=>rw[o.e.1 b];rfl|false=>exact wL f o m k
end
theorem kS:KO j' O' where
 e:=by unfold j';exact beq_iff_eq
 Vu:=by intro a;unfold O';rw[bytesLess_eq];simp[List.lt_irrefl]
 tr:=by intro a b c h k;unfold O' at *;rw[bytesLess_eq,zE]at *;exact List.lt_trans h k
 xH:=by intro a b h d;unfold O' at *;rw[bytesLess_eq,decide_eq_false_iff_not]at h;rw[bytesLess_eq,zE];exact Classical.byContradiction fun f=>d (List.le_antisymm (fX.1 f) (fX.1 h))
theorem kMM:KO (fun a b:Bs×Bs=>j' a.1 b.1&&j' a.2 b.2) (fun a b=>O' a.1 b.1||(j' a.1 b.1&&O' a.2 b.2)) where
 e:=by intro a b;show(j' a.1 b.1&&j' a.2 b.2)=true↔a=b;rw[aI,kS.e,kS.e];exact⟨fun h=>Prod.ext h.1 h.2,fun h=>by rw[h];exact⟨rfl,rfl⟩⟩
 Vu:=by intro a;show(O' a.1 a.1||(j' a.1 a.1&&O' a.2 a.2))=false;rw[kS.Vu,kS.Vu,iI];rfl
 tr:=by
  intro a b c h k;have h:(O' a.1 b.1||(j' a.1 b.1&&O' a.2 b.2))=true:=h;have k:(O' b.1 c.1||(j' b.1 c.1&&O' b.2 c.2))=true:=k;show(O' a.1 c.1||(j' a.1 c.1&&O' a.2 c.2))=true;rw[cH,aI,kS.e]at *;rcases h with h|⟨f,g⟩
  ·rcases k with k|⟨d,_⟩
   ·exact .inl (kS.tr h k)
   ·rw[d]at h;exact .inl h
  ·rcases k with k|⟨d,i⟩
   ·rw[<-f]at k;exact .inl k
   ·exact .inr ⟨f.trans d,kS.tr g i⟩
 xH:=by
  intro a b h j;have h:(O' a.1 b.1||(j' a.1 b.1&&O' a.2 b.2))=false:=h;show(O' b.1 a.1||(j' b.1 a.1&&O' b.2 a.2))=true;rw[cV]at h;rw[cH,aI,kS.e];by_cases e:a.1=b.1
  ·refine .inr ⟨e.symm,kS.xH ?_ fun l=>j (Prod.ext e l)⟩;have:=h.2
   rwa[kS.e.2 e,cJ]at this
  ·exact .inl (kS.xH h.1 e)
abbrev W8(a b:Bs×Bs):Bool:=o5 (.pr .s .s) a b
abbrev V9(a b:Bs×Bs):Bool:=Ho (.pr .s .s) a b
theorem yy:KO W8 V9:=kMM
section
variable {S R:Type}
theorem ij{f:S->List (Option (S⊕R))}(a:∀s,f s≠[]):∀(n:Nat) {s:S} {r r':R} {m:Nat},Ak f n s r->Ak f m s r'->r=r'
 |0,_,_,_,_,h,_=>h.elim|_+1,_,_,_,0,_,h=>h.elim|n+1,s,r,r',m+1,h,e=>by
  obtain⟨o,d⟩:=List.exists_mem_of_ne_nil _ (a s);have b:=h o d;have c:=e o d
  match o,b,c with
  |some (.inl g),b,c=>exact ij a n b c|some (.inr i),b,c=>exact b.symm.trans c
theorem Bq{f:S->List (Option (S⊕R))}(a:∀s,f s≠[]){n:Nat}{s:S}{r:R}(h:Ak f n s r):U8 f s=some r:=by unfold U8;have b:∃r n,Ak f n s r:=⟨r,n,h⟩;rw[dif_pos b];obtain⟨m,c⟩:=b.choose_spec;rw[ij a m c h]
theorem xL{α γ:Type}(l:List α)(d:γ)(F:α->γ):cb l d F≠[]:=by unfold cb;cases l<;>simp
theorem yH{α γ:Type}{l:List α}{d:γ}{F:α->γ}{o:γ}(h:o∈cb l d F):(l=[]/\o=d)∨∃p∈l,o=F p:=by
 unfold cb at h;cases l with
 |nil=>exact .inl ⟨rfl,List.mem_singleton.1 h⟩|cons x l=>obtain⟨p,hp,rfl⟩:=aY.1 h;exact .inr ⟨p,hp,rfl⟩
theorem zy{f:S->List (Option (S⊕R))}(a:∀s,f s≠[])(I:S->Prop)(m:S->Nat){r:R}(b:∀s,I s->∀o∈f s,(∃s',o=some (.inl s')/\I s'/\m s'<m s)∨o=some (.inr r)){s:S}(h:I s):U8 f s=some r:=by
 have key:∀n s,I s->m s<n->Ak f n s r:=by
  intro n;induction n with
  |zero=>intro s _ h;omega|succ n c=>
   intro s hI g o d;rcases b s hI o d with⟨s',rfl,e,i⟩|rfl
   ·exact c s' e (by omega)
   ·rfl
 exact Bq a (key _ s h (Nat.lt_succ_self _))
variable {κ γ:Type}{eq lt:κ->κ->Bool}
theorem KO.mc(o:KO eq lt){es:List (κ×γ)}{left:List κ}{p:κ×γ}:p∈Ra eq es left↔p∈es/\p.1∈left:=by
 unfold Ra;rw[cE,List.any_eq_true];constructor
 ·rintro⟨h,k,a,e⟩;rw[o.e.1 e];exact⟨h,a⟩
 ·rintro⟨h,a⟩;exact⟨h,_,a,o.e.2 rfl⟩
theorem KO.oc(o:KO eq lt){left:List κ}{k j:κ}:j∈U7 eq left k↔j∈left/\j≠k:=by unfold U7;rw[cE,bM,<-cM,o.e]
theorem KO.jj(o:KO eq lt){left:List κ}{k:κ}(h:k∈left):(U7 eq left k).length<left.length:=by unfold U7;refine List.length_filter_lt_length_iff_exists.2 ⟨k,h,?_⟩;rw[o.e.2 rfl];simp
theorem KO.kj(o:KO eq lt){f:S->List (Option (S⊕R))}(I:S->Prop)(es:S->List (κ×γ))(left:S->List κ){d:S->Option (S⊕R)}{F:S->κ×γ->Option (S⊕R)}{r:R} (hf:∀s,f s=cb (Ra eq (es s) (left s)) (d s) (F s)) (h:∀s,I s->(∀p∈es s,p.1∉left s)->d s=some (.inr r)) (i:∀s p,I s->p∈es s->p.1∈left s->(∃s',F s p=some (.inl s')/\I s'/\left s'=U7 eq (left s) p.1)∨F s p=some (.inr r)) {s:S} (a:I s):U8 f s=some r:=by
 refine zy (fun s=>by rw[hf];exact xL _ _ _) I (fun s=>(left s).length) (fun s a k g=>?_) a;rw[hf]at g;rcases yH g with⟨j,rfl⟩|⟨p,hp,rfl⟩
 ·exact .inr (h s a fun p hp b=>by have:=o.mc.2 ⟨hp,b⟩;rw[j]at this;cases this)
 ·obtain⟨hp,b⟩:=o.mc.1 hp;rcases i s p a hp b with⟨s',e,hI,c⟩|e
  ·refine .inl ⟨s',e,hI,?_⟩;rw[c];exact o.jj b
  ·exact .inr e
end
section
section
variable {S R:Type}
def Pt(eq:R->Bool)(g:S->Bool):List (Option (S⊕R))->Bool
 |[]=>true|none::_=>false|some (.inl s)::l=>g s&&Pt eq g l|some (.inr r)::l=>eq r&&Pt eq g l
def yL(eq:R->Bool)(f:S->List (Option (S⊕R))):Nat->S->Bool
 |0,_=>false|n+1,s=>Pt eq (yL eq f n) (f s)
theorem xdY{eq:R->Bool}{g:S->Bool}{p:S->Prop}{r:R}(a:∀x,eq x=true->x=r)(b:∀s,g s=true->p s):∀{l:List (Option (S⊕R))},Pt eq g l=true->∀o∈l,yw p r o
 |[],_,_,ho=>by cases ho
 |none::_,h,_,_=>by cases h
 |some (.inl s)::l,h,o,ho=>by
  have h:(g s&&Pt eq g l)=true:=h;rcases aN.1 ho with rfl|ho
  ·exact b s (Z3 h)
  ·exact xdY a b (Y4 h) o ho
 |some (.inr x)::l,h,o,ho=>by
  have h:(eq x&&Pt eq g l)=true:=h;rcases aN.1 ho with rfl|ho
  ·exact a x (Z3 h)
  ·exact xdY a b (Y4 h) o ho
theorem Cq{eq:R->Bool}{f:S->List (Option (S⊕R))}{r:R}(a:∀x,eq x=true->x=r):∀(n:Nat) {s:S},yL eq f n s=true->Ak f n s r
 |0,_,h=>by cases h
 |n+1,_,h=>xdY a (fun s b=>Cq a n b) h
theorem TR[DecidableEq R]{f:S->List (Option (S⊕R))}{s:S}(n:Nat)(r:R)(a:∀s,f s≠[])(h:yL (fun x=>decide (x=r)) f n s=true):U8 f s=some r:=
 Bq a (Cq (fun _ b=>zD b) n h)
end
abbrev uS:List (Bs×Bs×Bs×Bool×Int):=[([97,110,110],[97,110,110],[97,64,120],true,1)]
abbrev g1S:List (Bs×(kE×kE×kE)×Int):=[([103],([],[[104]],[]),2),([104],([[97,110,110]],[],[]),2)]
abbrev gS:List (Bs×(kE×kE×kE)×Int):=[([103],([],[[104]],[[114]]),3),([104],([[97,110,110]],[],[]),2)]
abbrev rS:List (Bs×Bs×kE):=[([114],[114],[[114,101,97,100]])]
abbrev cS:List (Bs×Bs×Bs×kE×kE×Bool×Bool×Bool×Bool):=[]
abbrev mS:kC:=[]
abbrev wS:kD:=[([103,114,111,117,112,47,103],[49,58,51,49,58,48,49,58,49,49,58,104,49,58,49,49,58,114]),([103,114,111,117,112,47,104],[49,58,50,49,58,49,51,58,97,110,110,49,58,48,49,58,48]),([114,111,108,101,47,114],[49,58,49,52,58,114,101,97,100]),([117,115,101,114,47,97,110,110],[51,58,97,64,120,49,58,49,49,58,49])]
theorem p'{α β:Type}{a:α}{f:α->Option β}:aR (some a) f=f a:=rfl
set_option synthInstance.maxSize 4000
set_option synthInstance.maxHeartbeats 400000
instance iA:DecidableEq Bs:=inferInstance
instance i2:DecidableEq (Bs×Bs×Bs×Bool×Int):=inferInstance
instance i7:DecidableEq (Bs×(kE×kE×kE)×Int):=inferInstance
instance i3:DecidableEq (Bs×Bs×kE):=inferInstance
instance i9:DecidableEq (Bs×Bs×Bs×kE×kE×Bool×Bool×Bool×Bool):=inferInstance
instance iM:DecidableEq ((Bs×Bs)×Unit):=inferInstance
theorem UR:QA X' [97,110,110] uS gS rS cS mS=some ([[103],[104]],uS,gS,rS,cS,mS):=by
 unfold QA
 rw[TR 40 (uS,gS,rS,cS,mS,([([103],()),([104],())]:List (Bs×Unit))) (fun s=>by
  cases s with
  |inl x=>exact List.cons_ne_nil _ _|inr x=>exact xL _ _ _) (by kernel_rfl)]
 kernel_rfl
theorem Ay:QR X' uS gS rS cS mS=some (true,uS,gS,rS,cS,mS):=by
 unfold QR;rw[TR 10 (uS,gS,rS,cS,mS,([([103],[[104]]),([104],[])]:List (Bs×kE))) (by intro s;exact xL _ _ _) (by kernel_rfl),p']
 rw[TR 40 (uS,gS,rS,cS,mS,([]:List (Bs×kE))) (fun s=>by
  cases s with
  |inl x=>exact List.cons_ne_nil _ _|inr x=>exact xL _ _ _) (by kernel_rfl)]
 kernel_rfl
theorem EE:RR X' uS gS rS cS mS=some (true,uS,gS,rS,cS,mS):=by unfold RR;rw[show zyR X' uS gS rS cS mS=some (.inr (uS,gS,rS,cS,mS)) by kernel_rfl,p'];show aR (U8 _ (uS,gS,rS,cS,mS,cU Prod.fst gS)) _=_;rw[TR 10 (.inl (uS,gS,rS,cS,mS)) (by intro s;exact xL _ _ _) (by kernel_rfl),p'];show aR (U8 _ (uS,gS,rS,cS,mS,cU Prod.fst mS)) _=_;rw[TR 10 (.inl (uS,gS,rS,cS,mS)) (by intro s;exact xL _ _ _) (by kernel_rfl),p'];show aR (QR X' uS gS rS cS mS) _=_;rw[Ay];rfl
theorem FE:vH X' [97,110,110] uS gS rS cS mS=some ([[114,101,97,100]],uS,gS,rS,cS,mS):=by
 unfold vH;rw[UR,p']
 kernel_rfl
theorem zL:vL X' uS gS rS cS mS=some (wS,uS,gS,rS,cS,mS):=by kernel_rfl
theorem AL:SR X' wS=some (.inr (0,uS,gS,rS,cS,mS)):=by unfold SR;rw[show dL X'=some ([],[],[],[],[]) by kernel_rfl,p'];rw[show iter (fun x=>ymI X' wS x.1 x.2.1 x.2.2.1 x.2.2.2.1 x.2.2.2.2.1 x.2.2.2.2.2) ((0:Int),([],[],[],[],[]))=some (.inr (uS,gS,rS,cS,mS)) by kernel_rfl,p'];show aR (RR X' uS gS rS cS mS) _=_;rw[EE];rfl
theorem HE:zqO X'=some true:=by
 unfold zqO;rw[show dL X'=some ([],[],[],[],[]) by kernel_rfl,p'];rw[show zwE X' ([],[],[],[],[])=some (.inr (uS,g1S,[],cS,mS)) by kernel_rfl,p'];show aR (zpA X' (uS,g1S,[],cS,mS)) _=_;rw[show zpA X' (uS,g1S,[],cS,mS)=some (.inr (uS,gS,rS,cS,mS)) by kernel_rfl,p'];show aR (QA X' [97,110,110] uS gS rS cS mS) _=_;rw[UR,p'];show aR (vH X' [97,110,110] uS gS rS cS mS) _=_;rw[FE,p'];show aR (vL X' uS gS rS cS mS) _=_;rw[zL,p'];show aR (SR X' wS) _=_;rw[AL]
 kernel_rfl
def mj:PC:=⟨[],[.b],fun _=>some true,false⟩
theorem By{G:List (Nat×Obj)}[kb G]:Z0 aA G 24 mj:=by have h:=yhH (tabs:=G) (o:=X');unfold zxP at h;rw[HE]at h;exact h
end
def Cy:TE:=[(3,⟨.int .i64,1,[.v (.i .i64) (show Int from 0)],(.i .i64),8⟩),
 (4,⟨.b,1,[.v .b (show Bool from false)],.b,1⟩),
 (5,⟨.int .u8,1,[.v (.i .u8) (show UInt8 from 0)],(.i .u8),1⟩),
 (9,⟨.s,1,[.v .s (show Bs from [])],.s,16⟩),
 (22,⟨.sl 9,1,[.Y'],(.sl .s),24⟩),
 (102,⟨.sl 5,1,[.Y'],(.sl (.i .u8)),24⟩)]
theorem nj:P3 aA Cy:=NG (by kernel_rfl) (by kernel_rfl)
theorem Dy:Tryz.prog.follows .mixedOrders=true:=by kernel_rfl
theorem fscWkT {G : List (Nat × Obj)} {o : D'} [kb G] [Xa G o] {Γ : CT} {η : HT} {f : FuncId} {fn : Func} {c : SC} (a : ∀ B, GB G B -> X6 aA Γ B) (hf : Tryz.prog.funcs[f]? = some fn) (i : (fn.name == "runtime.NumGoroutine") = false := by kernel_rfl) (j : fn.body.isNone = false := by kernel_rfl) (l : Nat.ble c.I.sl.length fn.ntmps = true := by kernel_rfl) (r : Nat.beq fn.results.toList.length c.nr = true := by kernel_rfl) (e : Ms Cy Γ η fn c.I c.outs = c.p := by kernel_rfl) : P' aA G f c := jc (G := G) (o := o) <| af Dy nj a hf (Y5 hf i j) l r e
theorem AH {G : List (Nat × Obj)} {o : D'} [kb G] [Xa G o] {Γ : CT} {η : HT} {f : FuncId} {fn : Func} {c : PC} (a : ∀ B, GB G B -> X6 aA Γ B) (hf : Tryz.prog.funcs[f]? = some fn) (i : (fn.name == "runtime.NumGoroutine") = false := by kernel_rfl) (j : fn.body.isNone = false := by kernel_rfl) (l : Nat.ble c.ash.length fn.ntmps = true := by kernel_rfl) (r : c.cl = false := by kernel_rfl) (e : zw Cy Γ η fn c.ash c.rts = c.p := by kernel_rfl) : Z0 aA G f c := jc (G := G) (o := o) <| Ze Dy nj a hf (Y5 hf i j) l r e
section
variable {tabs:List (Nat×Obj)}[kb tabs]{o:D'}[Xa tabs o]
def BL(_o:D')(a:UInt8):Option (Bool):=
 bif decide ((a.toNat:Int)≥((97:UInt8).toNat:Int))then(bif decide ((a.toNat:Int)<=((122:UInt8).toNat:Int))then(some true)else(bif decide ((a.toNat:Int)≥((48:UInt8).toNat:Int))then(bif decide ((a.toNat:Int)<=((57:UInt8).toNat:Int))then(some true)else(bif((a.toNat:Int)==((46:UInt8).toNat:Int))then(some true)else(bif((a.toNat:Int)==((95:UInt8).toNat:Int))then(some true)else(some ((a.toNat:Int)==((45:UInt8).toNat:Int))))))else(bif((a.toNat:Int)==((46:UInt8).toNat:Int))then(some true)else(bif((a.toNat:Int)==((95:UInt8).toNat:Int))then(some true)else(some ((a.toNat:Int)==((45:UInt8).toNat:Int)))))))else(bif decide ((a.toNat:Int)≥((48:UInt8).toNat:Int))then(bif decide ((a.toNat:Int)<=((57:UInt8).toNat:Int))then(some true)else(bif((a.toNat:Int)==((46:UInt8).toNat:Int))then(some true)else(bif((a.toNat:Int)==((95:UInt8).toNat:Int))then(some true)else(some ((a.toNat:Int)==((45:UInt8).toNat:Int))))))else(bif((a.toNat:Int)==((46:UInt8).toNat:Int))then(some true)else(bif((a.toNat:Int)==((95:UInt8).toNat:Int))then(some true)else(some ((a.toNat:Int)==((45:UInt8).toNat:Int))))))
def zoD(o:D'):PC:=⟨[(.h (.i .u8))],[.b],fun x=>BL o x,false⟩
theorem zvB:Z0 aA tabs 64 (zoD o):=AH (o:=o) (η:=[]) (Γ:=⟨[],[],false,[]⟩) (X4 trivial trivial) func64
def zqW(o:D')(b:Bs)(a:Int):Option (Int⊕(Bool⊕Unit)):=
 bif decide (a<(b.length:Int))then((idx b a).bind fun c=>(BL o c).bind fun d=>bif(!d)then some (.inr (.inl false))else some (.inl (P0 (a+1))))else some (.inr (.inr ()))
def Hg(o:D')(a:Bs):Option (Bool):=
 (iter (zqW o a) 0).bind fun b=>match b with
 |.inl c=>(some c)|.inr _=>(bif decide ((a.length:Int)≥1)then(some (decide ((a.length:Int)<=24)))else(some false))
def Dq(o:D'):PC:=⟨[hS],[.b],fun x=>Hg o x,false⟩
theorem Qt:Z0 aA tabs 14 (Dq o):=AH (o:=o) (η:=[(200002,.loop [] ⟨[(3,hI)],[]⟩ [0] [(some 1000000,⟨[(2,hB)],[]⟩),(some 0,⟨[],[]⟩)])]) (Γ:=⟨[(64,(zoD o))],[],false,[]⟩) (X4 ⟨zvB,trivial⟩ trivial) func14
def zqY(_o:D')(b:Bs)(a:Int):Option (Int⊕(Bool⊕Unit)):=
 bif decide (a<(b.length:Int))then((idx b a).bind fun c=>bif decide ((c.toNat:Int)<((33:UInt8).toNat:Int))then some (.inr (.inl false))else((idx b a).bind fun d=>bif decide ((d.toNat:Int)>((126:UInt8).toNat:Int))then some (.inr (.inl false))else some (.inl (P0 (a+1)))))else some (.inr (.inr ()))
def RN(o:D')(a:Bs):Option (Bool):=
 (iter (zqY o a) 0).bind fun b=>match b with
 |.inl c=>(some c)|.inr _=>(bif decide ((a.length:Int)≥1)then(some (decide ((a.length:Int)<=128)))else(some false))
def AW(o:D'):PC:=⟨[hS],[.b],fun x=>RN o x,false⟩
theorem zqX:Z0 aA tabs 16 (AW o):=AH (o:=o) (η:=[(200002,.loop [] ⟨[(3,hI)],[]⟩ [0] [(some 1000000,⟨[(2,hB)],[]⟩),(some 0,⟨[],[]⟩)])]) (Γ:=⟨[],[],false,[]⟩) (X4 trivial trivial) func16
def zpH(o:D')(b:Bs)(a:Int):Option (Int⊕(Bool⊕Unit)):=
 bif decide (a<(b.length:Int))then((idx b a).bind fun c=>(BL o c).bind fun d=>bif(!d)then((idx b a).bind fun e=>bif((e.toNat:Int) != ((58:UInt8).toNat:Int))then some (.inr (.inl false))else some (.inl (P0 (a+1))))else some (.inl (P0 (a+1))))else some (.inr (.inr ()))
def WR(o:D')(a:Bs):Option (Bool):=
 (iter (zpH o a) 0).bind fun b=>match b with
 |.inl c=>(some c)|.inr _=>(bif decide ((a.length:Int)≥1)then(some (decide ((a.length:Int)<=32)))else(some false))
def zvZ(o:D'):PC:=⟨[hS],[.b],fun x=>WR o x,false⟩
theorem yhX:Z0 aA tabs 18 (zvZ o):=AH (o:=o) (η:=[(200002,.loop [] ⟨[(3,hI)],[]⟩ [0] [(some 1000000,⟨[(2,hB)],[]⟩),(some 0,⟨[],[]⟩)])]) (Γ:=⟨[(64,(zoD o))],[],false,[]⟩) (X4 ⟨zvB,trivial⟩ trivial) func18
def SN(o:D')(a:Bs):Option (Bool):=
 bif decide ((a.length:Int)>2)then((Z6 a 2).bind fun b=>bif(b==([117,58]:Bs))then((T4 a 2).bind fun c=>(Hg o c).bind fun d=>some d)else((Z6 a 2).bind fun e=>bif(e==([99,58]:Bs))then((T4 a 2).bind fun f=>(Hg o f).bind fun g=>some g)else(some false)))else(some false)
def zkZ(o:D'):PC:=⟨[hS],[.b],fun x=>SN o x,false⟩
theorem zsP:Z0 aA tabs 20 (zkZ o):=AH (o:=o) (η:=[]) (Γ:=⟨[(14,(Dq o))],[],false,[]⟩) (X4 ⟨Qt,trivial⟩ trivial) func20
def XR(_o:D')(b:kE)(c:kE)(a:Int):Option (Int⊕(Bool⊕Unit)):=
 bif decide (a<(b.length:Int))then((idx b a).bind fun d=>(idx c a).bind fun e=>bif(d != e)then some (.inr (.inl false))else some (.inl (P0 (a+1))))else some (.inr (.inr ()))
def Wu(o:D')(a:kE)(b:kE):Option (Bool):=
 bif((a.length:Int) != (b.length:Int))then(some false)else((iter (XR o a b) 0).bind fun c=>match c with
 |.inl d=>(some d)|.inr _=>(some true))
def TN(o:D'):PC:=⟨[(.h (.sl .s)),(.h (.sl .s))],[.b],fun x=>Wu o x.1 x.2,false⟩
theorem YR:Z0 aA tabs 21 (TN o):=AH (o:=o) (η:=[(200004,.loop [] ⟨[(5,hI)],[]⟩ [0,1] [(some 1000000,⟨[(4,hB)],[]⟩),(some 0,⟨[],[]⟩)]),
 (4000006,.x7 (j7 0 9))]) (Γ:=⟨[],[],false,[]⟩) (X4 trivial trivial) func21
def zsA(_o:D')(a:Int)(b:Bs):Option ((Int×Bs)⊕((Int×Bs))):=
 bif decide (a>9)then((o6 (decide ((0:Int)<10))).bind fun _=>(X0 ([i8 (P0 (48+(Int.tmod a 10)))]:Bs) b).bind fun c=>(o6 (((10:Int) != 0))).bind fun _=>some (.inl (P0 (Int.tdiv a 10),c)))else some (.inr (a,b))
def CL(o:D')(b:Int):Option Bs:=
 (iter (fun x=>zsA o x.1 x.2) (b,([]:Bs))).bind fun a=>(X0 ([i8 (P0 (48+a.1))]:Bs) a.2).bind fun c=>some c
def BW(o:D'):PC:=⟨[hI],[.s],fun x=>CL o x,false⟩
theorem zsF:Z0 aA tabs 70 (BW o):=AH (o:=o) (η:=[(200002,.loop [] ⟨[(0,hI),(3,hS)],[]⟩ [2] [(some 0,⟨[(0,hI),(3,hS)],[]⟩)])]) (Γ:=⟨[],[],false,[]⟩) (X4 trivial trivial) func70
def CW(o:D')(b:kE)(a:Int)(c:Bs):Option ((Int×Bs)⊕Bs):=
 bif decide (a<(b.length:Int))then((idx b a).bind fun d=>(idx b a).bind fun e=>(CL o (d.length:Int)).bind fun f=>(X0 f ([58]:Bs)).bind fun g=>(X0 g e).bind fun h=>(X0 c h).bind fun i=>some (.inl (P0 (a+1),i)))else some (.inr c)
def BH(o:D')(a:kE):Option Bs:=
 (iter (fun x=>CW o a x.1 x.2) (0,([]:Bs))).bind fun b=>some b
def zzG(o:D'):PC:=⟨[(.h (.sl .s))],[.s],fun x=>BH o x,false⟩
theorem yiP:Z0 aA tabs 23 (zzG o):=AH (o:=o) (η:=[(200003,.loop [] ⟨[(3,(.own 0)),(4,hI)],[.H' (.i .u8) 5]⟩ [0,2] [(some 0,⟨[(3,(.own 0))],[.H' (.i .u8) 5]⟩)]),
 (4000005,.x7 (j7 0 6++j7 8 4++[(.mn,6,[]),(.pu,7,[]),(.pu,12,[]),(.mn,13,[0]),(.mn,14,[])]))]) (Γ:=⟨[(70,(BW o))],[],false,[]⟩) (X4 ⟨zsF,trivial⟩ trivial) func23
end
section
variable {α β γ σ:Type}
def T(o:Option α)(P:α->Prop):Prop:=∃r,o=some r/\P r
theorem T.ok{a:α}{P:α->Prop}(h:P a):T (some a) P:=⟨a,rfl,h⟩
theorem T.bind{o:Option α}{f:α->Option β}{Q:α->Prop}{P:β->Prop}(h:T o Q)(g:∀a,Q a->T (f a) P):T (o.bind f) P:=by obtain⟨a,rfl,h⟩:=h;exact g a h
theorem T.bif{c:Bool}{a b:Option α}{P:α->Prop}(h:c=true->T a P)(g:c=false->T b P):T (bif c then a else b) P:=by
 cases c
 ·exact g rfl
 ·exact h rfl
theorem T.IE{p:Prop}[Decidable p]{a b:Option α}{P:α->Prop}(h:p->T a P)(g:¬p->T b P):T (bif decide p then a else b) P:=
 T.bif (fun e=>h (zD e)) fun e=>g (of_decide_eq_false e)
theorem T.mono{o:Option α}{P Q:α->Prop}(h:T o P)(g:∀a,P a->Q a):T o Q:=by obtain⟨a,b,c⟩:=h;exact⟨a,b,g a c⟩
theorem T.get{o:Option Bool}{P:Bool->Prop}(h:T o P):o=some (o.getD false):=by obtain⟨a,rfl,_⟩:=h;rfl
theorem T.at{o:Option α}{P:α->Prop}{a:α}(h:T o P)(e:o=some a):P a:=by obtain⟨b,c,d⟩:=h;rw[e]at c;cases c;exact d
theorem T.idx{l:List α}{i:Int}{P:α->Prop}(a:0<=i)(h:i<(l.length:Int))(g:∀(k:Nat) (hk:k<l.length),i=(k:Int)->P l[k]):T (idx l i) P:=by obtain⟨k,rfl⟩:∃k:Nat,i=k:=⟨i.toNat,by omega⟩;exact⟨_,Y6 rfl (by omega),g k (by omega) rfl⟩
theorem T.ix{l:List α}{i:Int}(a:0<=i)(h:i<(l.length:Int)):T (Go.Proofs.YtopanhneegpgcaaGreatDoor.idx l i) fun _=>True:=T.idx a h fun _ _ _=>trivial
theorem T.iter{body:σ->Option (σ⊕β)}(I:σ->Prop)(m:σ->Nat)(G:β->Prop)(f:∀s,I s->T (body s) fun r=>match r with
  |.inl a=>I a/\m a<m s|.inr b=>G b) {s:σ} (c:I s) (g:m s<1099511627776):T (iter body s) G:=
 xbY I m G (fun s c=>by
  obtain⟨r,d,e⟩:=f s c;cases r with
  |inl a=>exact .inl ⟨a,d,e⟩|inr b=>exact .inr ⟨b,d,e⟩) FU s c (by unfold FU;exact g)
theorem O7{a b:List α}(h:a.length+b.length<=68719476736):X0 a b=some (a++b):=by unfold X0;rw[X5 (by unfold Sk;omega)]
theorem mh(xs:List α)(h:xs.length<=68719476736):X0 ([]:List α) xs=some xs:=by rw[O7 (by simpa using h)];rfl
theorem T.X0{a b:List α}{P:List α->Prop}(h:a.length+b.length<=68719476736)(g:P (a++b)):T (X0 a b) P:=⟨_,O7 h,g⟩
theorem T.places{body:Int->Option (Int⊕β)}(n:Nat)(d:n<1099511627776)(G:β->Prop)(a:∀k:Nat,k<=n->T (body (k:Int)) fun r=>match r with
  |.inl c=>c=((k+1:Nat):Int)/\k<n|.inr b=>G b):T (Go.Proofs.YtopanhneegpgcaaGreatDoor.iter body 0) G:=by
 refine T.iter (fun i=>0<=i/\i<=(n:Int)) (fun i=>(n-i).toNat) G (fun i e=>?_) ⟨by omega,by omega⟩ (by omega);obtain⟨k,rfl⟩:∃k:Nat,i=k:=⟨i.toNat,by omega⟩;refine(a k (by omega)).mono fun r h=>?_;cases r with
 |inl s=>obtain⟨rfl,h⟩:=h;exact⟨⟨by omega,by omega⟩,by omega⟩
 |inr b=>exact h
end
theorem JE(s:ByteArray)(pos:Nat):1<=(Utf8.decode s pos).2:=by
 unfold Utf8.decode;simp only[]
 repeat' split
 all_goals simp
theorem DL{l:Bs}{p:Nat}(h:p<l.length):p<Vr l p:=by unfold Vr dec;rw[X5 h];have:=JE ⟨l.toArray⟩ p;omega
theorem EL(s cs:Bs)(h:s.length<=1048576)(a:cs.length<4294967281)(c:cs.all (fun b=>decide (b.toNat<128))=true):T (X'.trim s cs) fun _=>True:=by refine⟨Lib.trimS s cs,?_,trivial⟩;show NA s cs=_;unfold NA;rw[zA (show s.length<=9223372036854775807 by omega),zA a,c];rfl
theorem ZR(v:Bs)(n:Int)(cs:Bs)(d:n<=1048576)(a:cs.length<4294967281)(c:cs.all (fun b=>decide (b.toNat<128))=true):T (kL X' v n cs) fun _=>True:=by unfold kL;refine T.bif (fun _=>T.IE (fun h=>?_) fun _=>T.ok trivial) fun _=>T.ok trivial;exact(EL v cs (by omega) a c).bind fun _ _=>T.ok trivial
theorem KE(s:Bs):T (pL X' s) fun _=>True:=by unfold pL;exact(ZR s _ _ (by decide) (by decide) (by decide)).bind fun _ _=>T.ok trivial
theorem Tm(s:Bs):T (Ec X' s) fun _=>True:=by unfold Ec;exact(ZR s _ _ (by decide) (by decide) (by decide)).bind fun _ _=>T.ok trivial
theorem Ey{α:Type}{s:List α}{n:Int}(a:0<=n)(h:n<=(s.length:Int)):T (Z6 s n) fun _=>True:=by obtain⟨k,rfl⟩:∃k:Nat,n=k:=⟨n.toNat,by omega⟩;unfold Z6;rw[zA (show(0:Int)<=(k:Int) by omega),zA h];exact⟨_,rfl,trivial⟩
theorem Fy{α:Type}{s:List α}{n:Int}(a:0<=n)(h:n<=(s.length:Int)):T (T4 s n) fun _=>True:=by obtain⟨k,rfl⟩:∃k:Nat,n=k:=⟨n.toNat,by omega⟩;unfold T4;rw[zA (show(0:Int)<=(k:Int) by omega),zA h];exact⟨_,rfl,trivial⟩
theorem FL(s:Bs):T (Uu X' s) fun _=>True:=by unfold Uu;refine T.IE (fun h=>(Ey (by omega) (by omega)).bind fun _ _=>T.bif (fun _=>(Fy (by omega) (by omega)).bind fun _ _=>(Tm _).bind fun _ _=>T.ok trivial) fun _=>(Ey (by omega) (by omega)).bind fun _ _=>T.bif (fun _=>(Fy (by omega) (by omega)).bind fun _ _=>(Tm _).bind fun _ _=>T.ok trivial) fun _=>T.ok trivial) fun _=>T.ok trivial
theorem GL(s:Bs):T (py X' s) fun _=>True:=by
 unfold py;refine T.bif (fun _=>T.IE (fun h=>?_) fun _=>T.ok trivial) fun _=>T.ok trivial;refine T.bind (Q:=fun _=>True) ?_ fun _ _=>T.ok trivial;unfold oR OV NV;refine T.bind (Q:=fun _=>True) (T.bind (Q:=fun _=>True) (T.bind (Q:=fun _=>True) (T.iter (fun x=>x.1=s/\0<=x.2) (fun x=>s.length-x.2.toNat) (fun _=>True) (fun x a=>?_) ⟨rfl,iZ _⟩ (by simp;omega)) fun r _=>?_) fun _ _=>T.ok trivial) fun _ _=>T.ok trivial
 ·obtain⟨v,i⟩:=x;obtain⟨rfl,b⟩:=a;unfold MV;simp only at b ⊢;refine T.IE (fun c=>?_) fun _=>T.ok trivial;refine T.bind (Q:=fun _=>True) ?_ fun _ _=>T.bif (fun _=>T.ok trivial) fun _=>T.ok ⟨⟨rfl,by simp⟩,?_⟩
  ·unfold nR;exact T.IE (fun _=>T.ok trivial) fun _=>T.ok trivial
  ·have:=DL c;simp only[bY];omega
 ·cases r<;>exact T.ok trivial
abbrev L8:Type:=Bs
abbrev kG:Type:=List (L8×L8)
abbrev kH:Type:=List L8
def Gy(s:L8):Bool:=(pL X' s).getD false
def U6(s:L8):Bool:=(Ec X' s).getD false
def ia(s:L8):Bool:=(Uu X' s).getD false
def Fc(s:L8):Bool:=(py X' s).getD false
theorem CH(s:L8):pL X' s=some (Gy s):=(KE s).get
theorem Ig(s:L8):Ec X' s=some (U6 s):=(Tm s).get
theorem pj(s:L8):Uu X' s=some (ia s):=(FL s).get
theorem qj(s:L8):py X' s=some (Fc s):=(GL s).get
theorem Y7{k:Nat}(h:k<1099511627776):P0 ((k:Int)+1)=((k+1:Nat):Int):=by rw[oe (by omega) (by omega)];omega
theorem jS:∀(a b:kE),pa (a++b)=pa a++pa b
 |[],_=>rfl|t::a,b=>by show db t.length++58::(t++pa (a++b))=(db t.length++58::(t++pa a))++pa b;rw[jS a b];simp
theorem ME(ts:kE)(f:(pa ts).length<4294967281)(c:ts.length<1099511627776):CN ts=some (pa ts):=by
 have key:∀(k:Nat),(pa (ts.take k)).length<=(pa ts).length:=fun k=>by have:=jS (ts.take k) (ts.drop k);rw[List.take_append_drop]at this;rw[this,aD];omega
 have h:iter (BN ts) ((((0:Nat):Int)),pa (ts.take 0))=some (pa ts):=by
  refine Ki (fun k=>((k:Int),pa (ts.take k))) ts.length c (pa ts) (fun k a=>?_) ?_
  ·have d:ts.take (k+1)=ts.take k++[ts[k]]:=by rw[fF a]
   have e:pa (ts.take (k+1))=pa (ts.take k)++(db ts[k].length++58::ts[k]):=by rw[d,jS];simp[pa]
   have b:=key (k+1);rw[e]at b;simp only[aD,aQ]at b;unfold BN;simp only[];rw[X5 (by omega),Y6 rfl a,p',xdG _ (by omega),p',Am.O7 (by simp only[aQ,cN];omega),p',Am.O7 (by simp only[aD,aQ,cN];omega),p'];unfold vV;rw[show zuH (pa (ts.take k))=some _ from rfl,p',Am.O7 (by simp only[aD,aQ,cN];omega),p',p',oe (by omega) (by omega),e];simp
  ·unfold BN;simp only[];rw[l6 (by omega),List.take_length]
 unfold CN;have h:iter (BN ts) ((0:Int),([]:Bs))=some (pa ts):=h;rw[h,p',p',dm (zA (by omega)),p']
theorem sj{α:Type}{l:List α}{p:α->Bool}{k:Nat}(hk:k<l.length):(l.take (k+1)).all p=((l.take k).all p&&p l[k]):=by rw[fF hk,List.all_append,cT,List.all_nil,eV]
theorem Hy{α:Type}{l:List α}{p:α->Bool}{k:Nat}(hk:k<l.length)(h:p l[k]=false):l.all p=false:=by
 cases a:l.all p with
 |false=>rfl|true=>rw[bR.1 a _ (List.getElem_mem hk)]at h;cases h
theorem is58(b:UInt8):((b.toNat:Int) != ((58:UInt8).toNat:Int))=(b != 58):=by have:=MQ (fun b=>((b.toNat:Int) != ((58:UInt8).toNat:Int))==(b != 58)) (by kernel_rfl) b;simpa using this
theorem Um{α R:Type}{l:List α}{p:α->Bool}{body:Int->Option (Int⊕R)}{bad good:R}(g:l.length<1099511627776) (c:∀(k:Nat) (hk:k<l.length),body (k:Int)=some (bif p l[k]then .inl ((k+1:Nat):Int)else .inr bad)) (d:body (l.length:Int)=some (.inr good)):iter body (0:Int)=some (bif l.all p then good else bad):=by
 have e:T (iter body (0:Int)) fun r=>r=(bif l.all p then good else bad):=by
  refine T.iter (fun x=>0<=x/\x<=(l.length:Int)/\(l.take x.toNat).all p=true) (fun x=>l.length-x.toNat) _ (fun x f=>?_) ⟨iZ _,by omega,rfl⟩ (by omega);obtain⟨b,h,a⟩:=f;obtain⟨k,rfl⟩:∃k:Nat,x=k:=⟨x.toNat,by omega⟩;rw[bY]at a;by_cases hk:k<l.length
  ·rw[c k hk];cases hp:p l[k] with
   |true=>exact T.ok ⟨⟨by omega,by omega,by rw[bY,sj hk,a,hp];rfl⟩,by omega⟩|false=>exact T.ok (by rw[Hy hk hp];rfl)
  ·obtain rfl:k=l.length:=by omega
   rw[d];rw[eM (Nat.le_refl _)]at a;exact T.ok (by rw[a];rfl)
 obtain⟨r,b,rfl⟩:=e;exact b
theorem xdD{α:Type}{l:List α}{p q:α->Bool}(h:∀x∈l,p x=q x):l.all p=l.all q:=by
 induction l with
 |nil=>rfl|cons x l a=>rw[cT,cT,h x aO,a fun y b=>h y (aM _ b)]
theorem DH{s cs:L8}{n:Int}(f:n<=1048576)(c:cs.length<4294967281)(d:cs.all (fun b=>decide (b.toNat<128))=true):kL X' s n cs=some (s != []&&decide ((s.length:Int)<=n)&&s.all (cs.contains ·)):=by
 unfold kL;cases g:s != ([]:L8) with
 |false=>rfl|true=>
  simp only[zF,cJ];by_cases a:(s.length:Int)<=n
  ·rw[X5 a,zA a];have e:X'.trim s cs=some (Lib.trimS s cs):=by show NA s cs=_;unfold NA;rw[zA (show s.length<=9223372036854775807 by omega),zA c,d];rfl
   rw[e,p',cJ];congr 1;rw[Bool.eq_iff_iff,beq_iff_eq,xbA,bR]
  ·rw[l6 a,zB a];rfl
abbrev tj:L8:=[97,98,99,100,101,102,103,104,105,106,107,108,109,110,111,112,113,114,115,116,117,118,119,120,121,122,48,49,50,51,52,53,54,55,56,57,46,95,45]
def zb(b:UInt8):Bool:=(BL X' b).getD false
theorem xcN(b:UInt8):BL X' b=some (zb b):=by
 have:=MQ (fun b=>(BL X' b).isSome) (by kernel_rfl) b;unfold zb;cases h:BL X' b with
 |none=>rw[h]at this;cases this
 |some v=>rfl
theorem HL(b:UInt8):tj.contains b=zb b:=by have:=MQ (fun b=>tj.contains b==zb b) (by kernel_rfl) b;simpa using this
abbrev xaI:L8:=[97,98,99,100,101,102,103,104,105,106,107,108,109,110,111,112,113,114,115,116,117,118,119,120,121,122,48,49,50,51,52,53,54,55,56,57,46,95,45,58]
theorem NE(b:UInt8):xaI.contains b=(zb b||b==58):=by have:=MQ (fun b=>xaI.contains b==(zb b||b==58)) (by kernel_rfl) b;simpa using this
theorem Iy(s:L8):U6 s=(s != []&&decide (s.length<=24)&&s.all zb):=by have h:=Ig s;unfold Ec at h;rw[DH (by decide) (by decide) (by decide),p']at h;rw[<-ka h,xdD fun b _=>HL b];congr 2;rw[decide_eq_decide];omega
theorem Vm(s:L8):decide ((s.length:Int)≥1)=(s != []):=by
 cases s with
 |nil=>rfl|cons b l=>rw[zA (by simp only[aQ];omega)];rfl
theorem Wm{s:L8}(b:s.length<=1048576):Hg X' s=some (U6 s):=by
 unfold Hg;rw[Um (l:=s) (p:=zb) (bad:=Sum.inl false) (good:=Sum.inr ()) (by omega) (fun k a=>?_) ?_,p',Iy]
 ·cases c:s.all zb with
  |false=>simp|true=>
   simp only[zF,eV];rw[<-Vm];by_cases h:(s.length:Int)≥1
   ·rw[X5 h,zA h,cJ];congr 1;rw[decide_eq_decide];omega
   ·rw[l6 h,zB h];rfl
 ·unfold zqW;rw[l6 (by omega)]
 ·unfold zqW;rw[X5 (show(k:Int)<(s.length:Int) by omega),Y6 rfl a,p',xcN,p'];cases zb s[k] with
  |false=>rfl|true=>simp only[aK,zH,zF];rw[Y7 (by omega)]
theorem EH(s:L8):Gy s=(s != []&&decide (s.length<=32)&&s.all fun b=>zb b||b==58):=by have h:=CH s;unfold pL at h;rw[DH (by decide) (by decide) (by decide),p']at h;rw[<-ka h,xdD (q:=fun b=>zb b||b==58) fun b _=>NE b];congr 2;rw[decide_eq_decide];omega
theorem Rt{s:L8}(d:s.length<=1048576):WR X' s=some (Gy s):=by
 unfold WR;rw[Um (l:=s) (p:=fun b=>zb b||b==58) (bad:=Sum.inl false) (good:=Sum.inr ()) (by omega) (fun k c=>?_) ?_,p',EH]
 ·cases e:s.all fun b=>zb b||b==58 with
  |false=>simp|true=>
   simp only[zF,eV];rw[<-Vm];by_cases h:(s.length:Int)≥1
   ·rw[X5 h,zA h,cJ];congr 1;rw[decide_eq_decide];omega
   ·rw[l6 h,zB h];rfl
 ·unfold zpH;rw[l6 (by omega)]
 ·unfold zpH;rw[X5 (show(k:Int)<(s.length:Int) by omega),Y6 rfl c,p',xcN,p'];cases zb s[k] with
  |true=>simp only[aK,zH,zF,Bool.true_or];rw[Y7 (by omega)]|false=>
   simp only[Bool.not_false,zF,p',dB];rw[is58];cases a:s[k]==58 with
   |true=>rw[show(s[k] != 58)=false by rw[bne,a];rfl];simp only[zH,zF];rw[Y7 (by omega)]|false=>rw[show(s[k] != 58)=true by rw[bne,a];rfl];rfl
def okB(b:UInt8):Bool:=decide (33<=b.toNat)&&decide (b.toNat<=126)
theorem Fq{l:L8}{k:Nat}(hk:k<l.length)(h:l[k].toNat<128):Lu l k=(l[k].toNat:Int)/\Vr l k=k+1:=by
 have a:((⟨l.toArray⟩:ByteArray).get! k)=l[k]:=by simp[ByteArray.get!,hk]
 unfold Lu Vr dec Utf8.decode;simp only[gB,a];rw[zJ h,X5 hk];exact⟨rfl,rfl⟩
theorem Jy{l:L8}{k:Nat}(hk:k<l.length)(h:128<=l[k].toNat):Lu l k>126:=by
 have a:((⟨l.toArray⟩:ByteArray).get! k)=l[k]:=by simp[ByteArray.get!,hk]
 have e:Utf8.runeError>126:=by decide
 unfold Lu dec Utf8.decode;simp only[gB,a];rw[zI (by omega)]
 repeat' split
 all_goals first|(simp only[];omega)|(simp only[];rename_i b;simp only[aI,zE]at b;omega)
theorem lS{b:UInt8}(h:okB b=true):33<=b.toNat/\b.toNat<=126:=by unfold okB at h;simp only[aI,zE]at h;exact h
theorem Ky{s:L8}(t:s.length<=1048576):oR X' s=some (!s.all okB):=by
 have n:T (iter (fun x:L8×Int=>MV X' true x.1 x.2) (s,(0:Int))) fun r=>match r with
   |.inl i=>0<=i/\s.all okB=false|.inr _=>s.all okB=true:=by
  refine T.iter (fun x=>x.1=s/\0<=x.2/\x.2<=(s.length:Int)/\(s.take x.2.toNat).all okB=true) (fun x=>s.length-x.2.toNat) _ (fun x p=>?_) ⟨rfl,iZ _,by simp,rfl⟩ (by simp;omega);obtain⟨v,i⟩:=x;obtain⟨e,g,c,d⟩:=p;simp only at e g c d;subst e;obtain⟨k,rfl⟩:∃k:Nat,i=k:=⟨i.toNat,by omega⟩;rw[bY]at d;unfold MV;simp only[bY];refine T.IE (fun b=>?_) fun b=>T.ok ?_
  ·have hp:nR X' (Lu v k)=some (!okB v[k]):=by
    unfold nR;rcases Nat.lt_or_ge v[k].toNat 128 with j|l
    ·rw[(Fq b j).1];unfold okB;by_cases f:(v[k].toNat:Int)<33
     ·rw[X5 f,zB (show ¬33<=v[k].toNat by omega)];rfl
     ·rw[l6 f,zA (show 33<=v[k].toNat by omega),cJ];congr 1;by_cases a:(v[k].toNat:Int)>126
      ·rw[zA a,zB (show ¬v[k].toNat<=126 by omega)];rfl
      ·rw[zB a,zA (show v[k].toNat<=126 by omega)];rfl
    ·have:=Jy b l;rw[l6 (by omega),zA this];unfold okB;rw[zB (show ¬v[k].toNat<=126 by omega),iI];rfl
   rw[hp,p'];cases m:okB v[k] with
   |false=>refine T.bif (fun _=>T.ok ⟨by omega,Hy b m⟩) fun h=>?_;cases h
   |true=>
    refine T.bif (fun h=>?_) fun _=>T.ok ?_
    ·cases h
    ·have q:=lS m;rw[(Fq b (by omega)).2];refine⟨⟨rfl,by simp only[];omega,by simp only[];omega,?_⟩,by simp only[];omega⟩;simp only[bY];rw[sj b,d,m];rfl
  ·rw[eM (by omega)]at d;exact d
 obtain⟨r,g,c⟩:=n;unfold oR OV NV;rw[g];cases r with
 |inl i=>simp only[p'];rw[zA (show i≥0 from c.1),c.2];rfl|inr u=>simp only[p'];rw[show s.all okB=true from c];rfl
theorem FH(s:L8)(c:s.length<=1048576):Fc s=(s != []&&decide (s.length<=128)&&s.all okB):=by
 have h:=qj s;unfold py at h;rw[Ky c]at h;cases a:s != ([]:L8) with
 |false=>rw[a]at h;rw[<-ka h];rfl|true=>
  rw[a]at h;simp only[zF,p',Bool.not_not]at h;by_cases b:(s.length:Int)<=128
  ·rw[X5 b]at h;rw[<-ka h,zA (show s.length<=128 by omega)];rfl
  ·rw[l6 b]at h;rw[<-ka h,zB (show ¬s.length<=128 by omega)];rfl
theorem ok_j(b:UInt8){α:Type}(x y:Option α):(bif decide ((b.toNat:Int)<((33:UInt8).toNat:Int))then x else(bif decide ((b.toNat:Int)>((126:UInt8).toNat:Int))then x else y))=bif okB b then y else x:=by
 have d:((33:UInt8).toNat:Int)=33:=rfl;have e:((126:UInt8).toNat:Int)=126:=rfl;rw[d,e];unfold okB;by_cases a:(b.toNat:Int)<33
 ·rw[X5 a,zB (show ¬33<=b.toNat by omega)];rfl
 ·rw[l6 a,zA (show 33<=b.toNat by omega)];by_cases c:(b.toNat:Int)>126
  ·rw[X5 c,zB (show ¬b.toNat<=126 by omega)];rfl
  ·rw[l6 c,zA (show b.toNat<=126 by omega)];rfl
theorem yxS{s:L8}(a:s.length<=1048576):RN X' s=some (Fc s):=by
 unfold RN;rw[Um (l:=s) (p:=okB) (bad:=Sum.inl false) (good:=Sum.inr ()) (by omega) (fun k b=>?_) ?_,p',FH s a]
 ·cases c:s.all okB with
  |false=>simp|true=>
   simp only[zF,eV];rw[<-Vm];by_cases h:(s.length:Int)≥1
   ·rw[X5 h,zA h,cJ];congr 1;rw[decide_eq_decide];omega
   ·rw[l6 h,zB h];rfl
 ·unfold zqY;rw[l6 (by omega)]
 ·unfold zqY;rw[X5 (show(k:Int)<(s.length:Int) by omega),Y6 rfl b,p',p',ok_j];cases okB s[k] with
  |false=>rfl|true=>simp only[zF];rw[Y7 (by omega)]
theorem DW{s:L8}(b:s.length<=1048576):SN X' s=some (ia s):=by
 rw[<-pj];unfold SN Uu;by_cases a:(s.length:Int)>2
 ·rw[X5 a,X5 a,show Z6 s 2=some (s.take 2)from lN (n:=2) (by omega),p',p',show T4 s 2=some (s.drop 2)from Pe (n:=2) (by omega)];simp only[p'];rw[Wm (by rw[List.length_drop];omega),Ig]
 ·rw[l6 a,l6 a]
theorem OE{s cs:L8}(h:s.length<=1048576)(a:cs.length<4294967281)(c:cs.all (fun b=>decide (b.toNat<128))=true):X'.trim s cs=some (Lib.trimS s cs):=by show NA s cs=_;unfold NA;rw[zA (show s.length<=9223372036854775807 by omega),zA a,c];rfl
theorem GH{p:L8}(h:ia p=true):∃c l,p=c::58::l/\(c=117∨c=99)/\U6 l=true:=by
 have d:=pj p;rw[h]at d;unfold Uu at d;by_cases f:(p.length:Int)>2
 ·rw[X5 f]at d
  match p,f with
  |a::b::c::l,f=>
   have s:Z6 (a::b::c::l) (2:Int)=some [a,b]:=by unfold Z6;rw[zA (show(0:Int)<=2 by decide),zA (show(2:Int)<=((a::b::c::l).length:Int) by omega)];rfl
   have t:T4 (a::b::c::l) (2:Int)=some (c::l):=by unfold T4;rw[zA (show(0:Int)<=2 by decide),zA (show(2:Int)<=((a::b::c::l).length:Int) by omega)];rfl
   rw[s,t]at d;simp only[p']at d;have n:∀{q:Bool} {x y:Option Bool},(bif q then x else y)=some true->(q=true/\x=some true)∨(q=false/\y=some true):=fun {q x y} h=>by cases q;exact .inr ⟨rfl,h⟩;exact .inl ⟨rfl,h⟩
   have r:(aR (Ec X' (c::l)) fun v=>some v)=some true->U6 (c::l)=true:=fun h=>by rw[Ig,p']at h;exact ka h
   rcases n d with⟨q,g⟩|⟨_,g⟩
   ·have e:=beq_iff_eq.1 q;injection e with i j;injection j with k _;subst i;subst k;exact⟨_,_,rfl,.inl rfl,r g⟩
   ·rcases n g with⟨q,m⟩|⟨_,m⟩
    ·have e:=beq_iff_eq.1 q;injection e with i j;injection j with k _;subst i;subst k;exact⟨_,_,rfl,.inr rfl,r m⟩
    ·cases m
 ·rw[l6 f]at d;cases d
theorem xfL(u:Nat)(a:u<9223372036854775808):X'.itoa (u:Int)=some (db u):=xdG u a
theorem ytI:∀(ts:kH),(∀t∈ts,t.length<=1024)->(pa ts).length<=1032*ts.length
 |[],_=>Nat.zero_le _|t::ts,h=>by
  have c:=ytI ts fun x a=>h x (aM _ a);have d:=h t aO;have e:=tV 7 t.length (by decide) (by omega);have b:(pa (t::ts)).length=(db t.length).length+1+t.length+(pa ts).length:=by show(db t.length++58::(t++pa ts)).length=_;simp only[aD,aQ];omega
  rw[b,aQ];omega
theorem ypW{ts:kH}(h:∀t∈ts,t.length<=1024)(a:ts.length<=1024):X'.form ts=some (pa ts):=by have:=ytI ts h;exact ME ts (by omega) (by omega)
theorem PE:zb 124=false:=by kernel_rfl
def j8(l:kH):Prop:=l.Pairwise fun x y=>O' x y=true
theorem ypE:∀{l:kH},gm l=true↔j8 l
 |[]=>⟨fun _=>.nil,fun _=>rfl⟩|[x]=>⟨fun _=>dA _ _,fun _=>rfl⟩|x::y::l=>by
  unfold gm;rw[aI,ypE (l:=y::l)];constructor
  ·rintro⟨h,k⟩;refine bD.2 ⟨fun z hz=>?_,k⟩;rcases aN.1 hz with rfl|hz
   ·exact h
   ·exact kS.tr h ((bD.1 k).1 z hz)
  ·intro h;have h:=bD.1 h;exact⟨h.1 y aO,h.2⟩
theorem j8.nodup{l:kH}(h:j8 l):l.Nodup:=h.imp fun {_a _b} c e=>kS.Cb c e
theorem j8.ext{l m:kH}(h:j8 l)(k:j8 m)(e:∀x,x∈l↔x∈m):l=m:=by
 have b:Ri O' (l.map fun x=>(x,())):=bZ.2 h;have c:Ri O' (m.map fun x=>(x,())):=bZ.2 k;have d:=kS.ext b c fun p=>by obtain⟨a,u⟩:=p;simp[e a]
 have f:=congrArg (cU Prod.fst) d;simpa[cW,Function.comp_def]using f
def uj(x:L8)(l:kH):kH:=l.takeWhile (fun y=>O' y x)++x::l.dropWhile (fun y=>O' y x)
def vj(x:L8)(l:kH):kH:=l.filter fun y=>!(y==x)
theorem ytL{x y:L8}{l:kH}:y∈uj x l↔y=x∨y∈l:=by
 unfold uj;have e:y∈l↔y∈l.takeWhile (fun y=>O' y x)++l.dropWhile (fun y=>O' y x):=by rw[cP]
 rw[e,bH,bH,aN];constructor
 ·rintro(h|h|h)
  ·exact .inr (.inl h)
  ·exact .inl h
  ·exact .inr (.inr h)
 ·rintro(h|h|h)
  ·exact .inr (.inl h)
  ·exact .inl h
  ·exact .inr (.inr h)
theorem xdP{p:L8->Bool}:∀{l:kH} {x:L8},x∈l.takeWhile p->p x=true
 |y::l,x,h=>by
  rw[List.takeWhile_cons]at h;cases hp:p y with
  |true=>
   rw[zJ hp]at h;rcases aN.1 h with rfl|h
   ·exact hp
   ·exact xdP h
  |false=>rw[zI (by rw[hp];simp)]at h;cases h
theorem wj{x:L8}:∀{l:kH},j8 l->x∉l->∀y∈l.dropWhile (fun y=>O' y x),O' x y=true
 |z::l,h,c,y,a=>by
  have d:=bD.1 h;rw[List.dropWhile_cons]at a;cases hp:O' z x with
  |true=>rw[zJ hp]at a;exact wj d.2 (fun f=>c (aM _ f)) y a|false=>
   rw[zI (by rw[hp];simp)]at a;have b:O' x z=true:=kS.xH hp fun e=>c (by rw[<-e];exact aO);rcases aN.1 a with rfl|a
   ·exact b
   ·exact kS.tr b (d.1 y a)
theorem yzX{x:L8}{l:kH}(h:j8 l)(f:x∉l):j8 (uj x l):=by
 unfold uj j8;have e:=wj h f;have g:j8 (l.takeWhile fun y=>O' y x):=h.sublist (List.takeWhile_sublist _);have i:j8 (l.dropWhile fun y=>O' y x):=h.sublist (List.dropWhile_sublist _);refine List.pairwise_append.2 ⟨g,bD.2 ⟨e,i⟩,fun a j b d=>?_⟩;have c:=xdP j;rcases aN.1 d with rfl|d
 ·exact c
 ·exact kS.tr c (e b d)
theorem Tt{x:L8}{l:kH}:(uj x l).length=l.length+1:=by unfold uj;rw[aD,aQ,<-Nat.add_assoc,<-aD,cP]
theorem EW{x y:L8}{l:kH}:y∈vj x l↔y∈l/\y≠x:=by unfold vj;rw[cE,bM,<-cM,beq_iff_eq]
theorem Ly{x:L8}{l:kH}(h:j8 l):j8 (vj x l):=h.sublist eW
theorem j8.Jd{l m:kH}(h:j8 l)(a:∀x∈l,x∈m):l.length<=m.length:=XK h.nodup a
abbrev Us:Type:=L8×L8×Bool×Int
abbrev Gr:Type:=(kH×kH×kH)×Int
abbrev Ro:Type:=L8×kH
abbrev Cl:Type:=L8×L8×kH×kH×Bool×Bool×Bool×Bool
abbrev UM:Type:=List (L8×Us)
abbrev GM:Type:=List (L8×Gr)
abbrev RM:Type:=List (L8×Ro)
abbrev CM:Type:=List (L8×Cl)
abbrev MM:Type:=List ((L8×L8)×Unit)
abbrev PS:Type:=UM×GM×RM×CM×MM
abbrev zU:Us:=(([]:L8),([]:L8),false,(0:Int))
abbrev zG:Gr:=((([]:kH),([]:kH),([]:kH)),(0:Int))
abbrev zR:Ro:=(([]:L8),([]:kH))
abbrev zC:Cl:=(([]:L8),([]:L8),([]:kH),([]:kH),false,false,false,false)
def Jg(b:UInt8):Bool:=NQ b||(decide (97<=b.toNat)&&decide (b.toNat<=102))
def oh(a:Nat)(may:L8->Bool)(l:kH):Bool:=l.all may&&gm l&&decide (l.length<=a)
def Gq(r:Ro):Bool:=U6 r.1&&oh 16 Gy r.2
def Ha(c:Cl):Bool:=U6 c.1&&(c.2.1==[]||(decide (c.2.1.length=64)&&c.2.1.all Jg))&&oh 16 Fc c.2.2.1&&oh 16 Gy c.2.2.2.1
def Q3:Nat->Gr->kH
 |0,g=>g.1.1|1,g=>g.1.2.1|_,g=>g.1.2.2
def xj:Nat->Gr->kH->Gr
 |0,g,l=>((l,g.1.2.1,g.1.2.2),g.2+1)|1,g,l=>((g.1.1,l,g.1.2.2),g.2+1)|_,g,l=>((g.1.1,g.1.2.1,l),g.2+1)
def k9(k:Nat)(s:PS)(n:L8):Bool:=match k with
 |0=>J' j' s.1 n|1=>J' j' s.2.1 n|_=>J' j' s.2.2.1 n
def s9(s:PS)(p:L8):Bool:=bif p.head? == some 99 then J' j' s.2.2.2.1 (p.drop 2)else J' j' s.1 (p.drop 2)
inductive Reach (G:GM) (a:L8):L8->Prop
 |refl:Reach G a a
 |step {b x:L8} {g:Gr}:Reach G a b->(b,g)∈G->x∈Q3 1 g->Reach G a x
theorem Reach.trans{G:GM}{a b c:L8}(h:Reach G a b)(k:Reach G b c):Reach G a c:=by
 induction k with
 |refl=>exact h|step _ d e f=>exact .step f d e
def IL(G:GM):Prop:=∃r:L8->Nat,∀n g,(n,g)∈G->∀x∈Q3 1 g,r x<r n
structure M0 (B:Int) (s:PS):Prop where
 uR:Ri O' s.1
 gR:Ri O' s.2.1
 rR:Ri O' s.2.2.1
 cR:Ri O' s.2.2.2.1
 mR:Ri V9 s.2.2.2.2
 uL:s.1.length<=64
 gL:s.2.1.length<=32
 rL:s.2.2.1.length<=32
 cL:s.2.2.2.1.length<=32
 mL:s.2.2.2.2.length<=64
 us:∀k u,(k,u)∈s.1->u.1=k/\U6 k=true/\Fc u.2.1=true/\1<=u.2.2.2/\u.2.2.2<=B
 gn:∀k g,(k,g)∈s.2.1->U6 k=true/\1<=g.2/\g.2<=B
 gl:∀k g,(k,g)∈s.2.1->∀i,i<3->j8 (Q3 i g)/\∀x∈Q3 i g,k9 i s x=true
 ro:∀k r,(k,r)∈s.2.2.1->r.1=k/\Gq r=true
 cl:∀k c,(k,c)∈s.2.2.2.1->c.1=k/\Ha c=true
 ma:∀p,p∈s.2.2.2.2->ia p.1.1=true/\ia p.1.2=true/\s9 s p.1.1=true/\s9 s p.1.2=true
 ac:IL s.2.1
theorem M0.mono{B C:Int}{s:PS}(h:M0 B s)(c:B<=C):M0 C s:=
 { h with
   us:=fun k u a=>⟨(h.us k u a).1,(h.us k u a).2.1,(h.us k u a).2.2.1,(h.us k u a).2.2.2.1,Int.le_trans (h.us k u a).2.2.2.2 c⟩
   gn:=fun k g b=>⟨(h.gn k g b).1,(h.gn k g b).2.1,Int.le_trans (h.gn k g b).2.2 c⟩ }
def HH(n m:L8)(s:PS):Int×PS:=bif !U6 n || !Fc m then(120,s)else bif J' j' s.1 n then(121,s)else bif decide (64<=s.1.length)then(124,s)else(0,Y0 j' O' s.1 n (n,m,true,1),s.2)
def RA(n:L8)(f:Us->Us)(s:PS):Int×PS:=bif !U6 n then(120,s)else match W0 j' s.1 n with
 |none=>(122,s)|some u=>(0,Y0 j' O' s.1 n (if f u=u then u else((f u).1,(f u).2.1,(f u).2.2.1,(f u).2.2.2+1)),s.2)
def IH(n m:L8)(s:PS):Int×PS:=bif !Fc m then(120,s)else RA n (fun u=>(u.1,m,u.2.2)) s
def QE(n:L8)(b:Bool)(s:PS):Int×PS:=RA n (fun u=>(u.1,u.2.1,b,u.2.2.2)) s
def qd(k:Nat)(n:L8)(G:GM):GM:=Fe (fun _ g=>bif(Q3 k g).contains n then xj k g (vj n (Q3 k g))else g) G
def yj(p:L8)(M:MM):MM:=M.filter fun m=>!(m.1.1==p||m.1.2==p)
def JH(n:L8)(s:PS):Int×PS:=bif !U6 n then(120,s)else bif !J' j' s.1 n then(122,s)else(0,l5 j' s.1 n,qd 0 n s.2.1,s.2.2.1,s.2.2.2.1,yj (117::58::n) s.2.2.2.2)
def KH(n:L8)(s:PS):Int×PS:=bif !U6 n then(120,s)else bif J' j' s.2.1 n then(121,s)else bif decide (32<=s.2.1.length)then(124,s)else(0,s.1,Y0 j' O' s.2.1 n ((([]:kH),([]:kH),([]:kH)),(1:Int)),s.2.2)
def LH(n:L8)(s:PS):Int×PS:=bif !U6 n then(120,s)else bif !J' j' s.2.1 n then(122,s)else(0,s.1,qd 1 n (l5 j' s.2.1 n),s.2.2)
noncomputable def Hq(k:Nat)(n x:L8)(s:PS):Int×PS:=bif !U6 n || !U6 x then(120,s)else match W0 j' s.2.1 n with
 |none=>(122,s)|some g=>bif !k9 k s x then(122,s)else bif(Q3 k g).contains x then(121,s) else
  open Classical in if k=1/\Reach s.2.1 x n then(123,s)else(0,s.1,Y0 j' O' s.2.1 n (xj k g (uj x (Q3 k g))),s.2.2)
def Iq(k:Nat)(n x:L8)(s:PS):Int×PS:=bif !U6 n || !U6 x then(120,s)else match W0 j' s.2.1 n with
 |none=>(122,s)|some g=>bif !k9 k s x then(122,s)else bif !(Q3 k g).contains x then(122,s)else(0,s.1,Y0 j' O' s.2.1 n (xj k g (vj x (Q3 k g))),s.2.2)
def MH(r:Ro)(s:PS):Int×PS:=bif !Gq r then(120,s)else bif !J' j' s.2.2.1 r.1&&decide (32<=s.2.2.1.length)then(124,s)else(0,s.1,s.2.1,Y0 j' O' s.2.2.1 r.1 r,s.2.2.2)
def OH(n:L8)(s:PS):Int×PS:=bif !U6 n then(120,s)else bif !J' j' s.2.2.1 n then(122,s)else(0,s.1,qd 2 n s.2.1,l5 j' s.2.2.1 n,s.2.2.2)
def PH(c:Cl)(s:PS):Int×PS:=bif !Ha c then(120,s)else bif !J' j' s.2.2.2.1 c.1&&decide (32<=s.2.2.2.1.length)then(124,s)else(0,s.1,s.2.1,s.2.2.1,Y0 j' O' s.2.2.2.1 c.1 c,s.2.2.2.2)
def QH(n:L8)(s:PS):Int×PS:=bif !U6 n then(120,s)else bif !J' j' s.2.2.2.1 n then(122,s)else(0,s.1,s.2.1,s.2.2.1,l5 j' s.2.2.2.1 n,yj (99::58::n) s.2.2.2.2)
def RH(a b:L8)(s:PS):Int×PS:=bif !ia a || !ia b then(120,s)else bif !s9 s a || !s9 s b then(122,s)else bif J' W8 s.2.2.2.2 (a,b)then(121,s)else bif decide (64<=s.2.2.2.2.length)then(124,s)else(0,s.1,s.2.1,s.2.2.1,s.2.2.2.1,Y0 W8 V9 s.2.2.2.2 (a,b) ())
def SH(a b:L8)(s:PS):Int×PS:=bif !ia a || !ia b then(120,s)else bif !s9 s a || !s9 s b then(122,s)else bif !J' W8 s.2.2.2.2 (a,b)then(122,s)else(0,s.1,s.2.1,s.2.2.1,s.2.2.2.1,l5 W8 s.2.2.2.2 (a,b))
theorem Ut{a b:Bool}(h:(a||b)=false):a=false/\b=false:=by cases a<;>cases b<;>simp_all
theorem SE{a:Bool}(h:(!a)=false):a=true:=by cases a<;>simp_all
theorem M0.TH{B:Int}{s:PS}{U:UM}(h:M0 B s)(f:Ri O' U)(j:U.length<=64)(l:∀k u,(k,u)∈U->u.1=k/\U6 k=true/\Fc u.2.1=true/\1<=u.2.2.2/\u.2.2.2<=B)(hk:∀k,J' j' s.1 k=true->J' j' U k=true):M0 B (U,s.2):=
 { h with
   uR:=f,uL:=j,us:=l
   gl:=fun k g d i c=>⟨(h.gl k g d i c).1,fun x m=>by
    have:=(h.gl k g d i c).2 x m
    match i,c with
    |0,_=>exact hk x this|1,_=>exact this|2,_=>exact this⟩
   ma:=fun p hp=>by
    obtain⟨n,r,t,v⟩:=h.ma p hp
    have a:∀q,s9 s q=true->s9 (U,s.2) q=true:=fun q b=>by
     unfold s9 at *;cases e:q.head? == some 99 with
     |true=>rw[e]at b;exact b|false=>rw[e]at b;exact hk _ b
    exact⟨n,r,a _ t,a _ v⟩ }
theorem My{B:Int}{n m:L8}{s:PS}(h:M0 B s)(hB:1<=B):M0 B (HH n m s).2:=by
 unfold HH;cases a:!U6 n || !Fc m with
 |true=>exact h|false=>
  obtain⟨a,b⟩:=Ut a;have a:=SE a;have b:=SE b;cases f:J' j' s.1 n with
  |true=>exact h|false=>
   by_cases g:64<=s.1.length
   ·rw[zH,zH,zA g];exact h
   ·rw[zH,zH,zB g];refine h.TH (kS.O8 h.uR) (by rw[QB,f];simp;omega) (fun k u c=>?_) fun k d=>?_
    ·rcases(kS.W4 h.uR).1 c with e|⟨c,_⟩
     ·cases e;exact⟨rfl,a,b,iZ 1,hB⟩
     ·exact h.us k u c
    ·obtain⟨v,i⟩:=kS.n0.1 d;refine kS.n0.2 ⟨v,(kS.W4 h.uR).2 (.inr ⟨i,fun e=>?_⟩)⟩;have e:k=n:=e;rw[e,f]at d;cases d
theorem zj{B:Int}{n:L8}{f:Us->Us}{s:PS}(h:M0 B s)(hf:∀u,(f u).1=u.1/\(Fc u.2.1=true->Fc (f u).2.1=true)/\(f u).2.2.2=u.2.2.2):M0 (B+1) (RA n f s).2:=by
 have a:=h.mono (show B<=B+1 by omega);unfold RA;cases m:!U6 n with
 |true=>exact a|false=>
  cases g:W0 j' s.1 n with
  |none=>exact a|some u=>
   have i:=kS.get_some g;have d:=h.us n u i;obtain⟨f1,f2,f3⟩:=hf u;have j:J' j' s.1 n=true:=by rw[kc,g];rfl
   refine a.TH (kS.O8 h.uR) (by rw[QB,zJ j];exact h.uL) (fun k v b=>?_) fun k l=>?_
   ·rcases(kS.W4 h.uR).1 b with e|⟨b,_⟩
    ·cases e;by_cases c:f u=u
     ·rw[zJ c];exact a.us n u i
     ·rw[zI c];exact⟨f1.trans d.1,d.2.1,f2 d.2.2.1,by show 1<=(f u).2.2.2+1;omega,by show(f u).2.2.2+1<=B+1;omega⟩
    ·exact a.us k v b
   ·by_cases e:k=n
    ·subst e;exact kS.n0.2 ⟨_,(kS.W4 h.uR).2 (.inl rfl)⟩
    ·obtain⟨v,b⟩:=kS.n0.1 l;exact kS.n0.2 ⟨v,(kS.W4 h.uR).2 (.inr ⟨b,e⟩)⟩
theorem Ny{B:Int}{n m:L8}{s:PS}(h:M0 B s):M0 (B+1) (IH n m s).2:=by
 unfold IH;cases a:Fc m with
 |false=>exact h.mono (by omega)|true=>exact zj h fun u=>⟨rfl,fun _=>a,rfl⟩
theorem Oy{B:Int}{n:L8}{b:Bool}{s:PS}(h:M0 B s):M0 (B+1) (QE n b s).2:=zj h fun _u=>⟨rfl,id,rfl⟩
theorem UN{i k:Nat}(a:i<3)(hk:k<3)(g:Gr)(l:kH):Q3 i (xj k g l)=if i=k then l else Q3 i g:=by
 match i,k,a,hk with
 |0,0,_,_=>rfl|0,1,_,_=>rfl|0,2,_,_=>rfl|1,0,_,_=>rfl|1,1,_,_=>rfl|1,2,_,_=>rfl|2,0,_,_=>rfl|2,1,_,_=>rfl|2,2,_,_=>rfl
theorem nS(k:Nat)(g:Gr)(l:kH):(xj k g l).2=g.2+1:=by unfold xj;split<;>rfl
theorem Xm{k:Nat}{n:L8}{G:GM}{m:L8}{g:Gr}:(m,g)∈qd k n G↔∃a,(m,a)∈G/\g=bif(Q3 k a).contains n then xj k a (vj n (Q3 k a))else a:=by
 unfold qd Fe;rw[aY];constructor
 ·rintro⟨⟨b,a⟩,h,e⟩;cases e;exact⟨a,h,rfl⟩
 ·rintro⟨a,h,rfl⟩;exact⟨(m,a),h,rfl⟩
theorem ywX{k:Nat}(hk:k<3){n:L8}(a:Gr){i:Nat}(c:i<3):Q3 i (bif(Q3 k a).contains n then xj k a (vj n (Q3 k a))else a)=if i=k then vj n (Q3 i a)else Q3 i a:=by
 cases b:(Q3 k a).contains n with
 |true=>
  rw[zF,UN c hk];by_cases e:i=k
  ·rw[zJ e,zJ e,e]
  ·rw[zI e,zI e]
 |false=>
  rw[zH];by_cases e:i=k
  ·subst e;rw[zJ rfl];unfold vj;refine(List.filter_eq_self.2 fun y d=>?_).symm;rw[bM,<-cM,beq_iff_eq];intro e;subst e;rw[bE.2 d]at b;cases b
  ·rw[zI e]
theorem yzL{B:Int}{s t:PS}{k:Nat}(hk:k<3){n:L8}(h:M0 B s)(E:t.1.Sublist s.1)(C:∃G:GM,G.Sublist s.2.1/\t.2.1=qd k n G)(y:t.2.2.1.Sublist s.2.2.1)(F:t.2.2.2.1.Sublist s.2.2.2.1)(z:t.2.2.2.2.Sublist s.2.2.2.2) (K:∀i,i<3->∀x,k9 i s x=true->(i=k->x≠n)->k9 i t x=true) (H:∀p∈t.2.2.2.2,s9 t p.1.1=true/\s9 t p.1.2=true):M0 (B+1) t:=by
 obtain⟨G,I,e⟩:=C;have l:∀m g,(m,g)∈t.2.1->∃j,(m,j)∈s.2.1/\g=bif(Q3 k j).contains n then xj k j (vj n (Q3 k j))else j:=fun m g C=>by rw[e]at C;obtain⟨j,w,J⟩:=Xm.1 C;exact⟨j,I.subset w,J⟩
 refine⟨h.uR.sublist E,?_,h.rR.sublist y,h.cR.sublist F,h.mR.sublist z,bB E.length_le h.uL,?_,bB y.length_le h.rL,bB F.length_le h.cL,bB z.length_le h.mL,fun A u q=>?_,fun m g q=>?_,fun m g q i D=>?_,fun A r q=>h.ro A r (y.subset q),fun A c q=>h.cl A c (F.subset q),fun p hp=>?_,?_⟩
 ·rw[e];exact zW (h.gR.sublist I)
 ·rw[e];unfold qd Fe;rw[List.length_map];exact bB I.length_le h.gL
 ·obtain⟨a,b,c,d,f⟩:=h.us A u (E.subset q);exact⟨a,b,c,d,by omega⟩
 ·obtain⟨j,w,rfl⟩:=l m g q;obtain⟨a,b,c⟩:=h.gn m j w;refine⟨a,?_⟩;cases (Q3 k j).contains n with
  |true=>rw[zF,nS];exact⟨by omega,by omega⟩|false=>rw[zH];exact⟨b,by omega⟩
 ·obtain⟨j,w,rfl⟩:=l m g q;obtain⟨a,b⟩:=h.gl m j w i D;rw[ywX hk j D];by_cases e:i=k
  ·rw[zJ e];refine⟨Ly a,fun x v=>?_⟩;obtain⟨J,L⟩:=EW.1 v;exact K i D x (b x J) fun _=>L
  ·rw[zI e];exact⟨a,fun x v=>K i D x (b x v) fun M=>absurd M e⟩
 ·have:=h.ma p (z.subset hp);exact⟨this.1,this.2.1,H p hp⟩
 ·obtain⟨r,y⟩:=h.ac;refine⟨r,fun m g z x v=>?_⟩;obtain⟨j,w,rfl⟩:=l m g z;rw[ywX hk j (by decide)]at v;refine y m j w x ?_;by_cases e:1=k
  ·rw[zJ e]at v;exact(EW.1 v).1
  ·rw[zI e]at v;exact v
theorem oS{γ:Type}{es:List (L8×γ)}(h:Ri O' es){n x:L8}(a:J' j' es x=true)(b:x≠n):J' j' (l5 j' es n) x=true:=by obtain⟨v,c⟩:=kS.n0.1 a;exact kS.n0.2 ⟨v,(kS.Gg h).2 ⟨c,b⟩⟩
theorem ypU(k:Nat)(n:L8)(G:GM)(x:L8):J' j' (qd k n G) x=J' j' G x:=by rw[kc,kc];unfold qd;rw[wL _ kS];cases W0 j' G x<;>rfl
theorem ywD{p:L8}{M:MM}{m:(L8×L8)×Unit}:m∈yj p M↔m∈M/\m.1.1≠p/\m.1.2≠p:=by
 unfold yj;rw[cE,bM,cV];refine and_congr Iff.rfl (and_congr ?_ ?_)
 ·rw[<-cM,beq_iff_eq]
 ·rw[<-cM,beq_iff_eq]
theorem th_u{s t:PS}{n:L8}(b:Ri O' s.1)(d:t.1=l5 j' s.1 n)(f:t.2.2.2.1=s.2.2.2.1){q:L8}(hp:ia q=true)(a:s9 s q=true)(g:q≠117::58::n):s9 t q=true:=by
 obtain⟨c,l,rfl,h,_⟩:=GH hp;unfold s9 at *;rcases h with rfl|rfl
 ·have a:J' j' s.1 l=true:=a;show J' j' t.1 l=true;rw[d];exact oS b a fun e=>g (by rw[e])
 ·have a:J' j' s.2.2.2.1 l=true:=a;show J' j' t.2.2.2.1 l=true;rw[f];exact a
theorem th_c{s t:PS}{n:L8}(b:Ri O' s.2.2.2.1)(d:t.1=s.1)(f:t.2.2.2.1=l5 j' s.2.2.2.1 n){q:L8}(hp:ia q=true)(a:s9 s q=true)(g:q≠99::58::n):s9 t q=true:=by
 obtain⟨c,l,rfl,h,_⟩:=GH hp;unfold s9 at *;rcases h with rfl|rfl
 ·have a:J' j' s.1 l=true:=a;show J' j' t.1 l=true;rw[d];exact a
 ·have a:J' j' s.2.2.2.1 l=true:=a;show J' j' t.2.2.2.1 l=true;rw[f];exact oS b a fun e=>g (by rw[e])
theorem Wt{B:Int}{n:L8}{s:PS}(h:M0 B s):M0 (B+1) (JH n s).2:=by
 have b:=h.mono (show B<=B+1 by omega);unfold JH;cases v:!U6 n with
 |true=>exact b|false=>
  cases w:!J' j' s.1 n with
  |true=>exact b|false=>
   show M0 (B+1) (l5 j' s.1 n,qd 0 n s.2.1,s.2.2.1,s.2.2.2.1,yj (117::58::n) s.2.2.2.2);refine yzL (k:=0) (by decide) h (xy _ _) ⟨_,List.Sublist.refl _,rfl⟩ (List.Sublist.refl _) (List.Sublist.refl _) eW (fun i d x a e=>?_) fun p hp=>?_
   ·match i,d with
    |0,_=>exact oS h.uR a (e rfl)|1,_=>exact(ypU 0 n s.2.1 x).trans a|2,_=>exact a
   ·obtain⟨f,g,j⟩:=ywD.1 hp;obtain⟨l,m,r,u⟩:=h.ma p f;have c:=fun {q:L8}=>th_u (q:=q) (t:=(l5 j' s.1 n,qd 0 n s.2.1,s.2.2.1,s.2.2.2.1,yj (117::58::n) s.2.2.2.2)) h.uR rfl rfl;exact⟨c l r g,c m u j⟩
theorem SA{s t:PS}(a:t.1=s.1)(b:t.2.2.2.1=s.2.2.2.1)(q:L8):s9 t q=s9 s q:=by unfold s9;rw[a,b]
theorem Xt{B:Int}{n:L8}{s:PS}(h:M0 B s):M0 (B+1) (LH n s).2:=by
 have b:=h.mono (show B<=B+1 by omega);unfold LH;cases g:!U6 n with
 |true=>exact b|false=>
  cases j:!J' j' s.2.1 n with
  |true=>exact b|false=>
   show M0 (B+1) (s.1,qd 1 n (l5 j' s.2.1 n),s.2.2);refine yzL (k:=1) (by decide) h (List.Sublist.refl _) ⟨_,xy _ _,rfl⟩ (List.Sublist.refl _) (List.Sublist.refl _) (List.Sublist.refl _) (fun i c x a d=>?_) fun p hp=>?_
   ·match i,c with
    |0,_=>exact a|1,_=>exact(ypU 1 n _ x).trans (oS h.gR a (d rfl))|2,_=>exact a
   ·obtain⟨l,m,e,f⟩:=h.ma p hp;exact⟨(SA rfl rfl _).trans e,(SA rfl rfl _).trans f⟩
theorem Yt{B:Int}{n:L8}{s:PS}(h:M0 B s):M0 (B+1) (OH n s).2:=by
 have b:=h.mono (show B<=B+1 by omega);unfold OH;cases g:!U6 n with
 |true=>exact b|false=>
  cases j:!J' j' s.2.2.1 n with
  |true=>exact b|false=>
   show M0 (B+1) (s.1,qd 2 n s.2.1,l5 j' s.2.2.1 n,s.2.2.2);refine yzL (k:=2) (by decide) h (List.Sublist.refl _) ⟨_,List.Sublist.refl _,rfl⟩ (xy _ _) (List.Sublist.refl _) (List.Sublist.refl _) (fun i c x a d=>?_) fun p hp=>?_
   ·match i,c with
    |0,_=>exact a|1,_=>exact(ypU 2 n _ x).trans a|2,_=>exact oS h.rR a (d rfl)
   ·obtain⟨l,m,e,f⟩:=h.ma p hp;exact⟨(SA rfl rfl _).trans e,(SA rfl rfl _).trans f⟩
theorem ytJ{B:Int}{s:PS}{n:L8}{g:Gr}(h:M0 B s)(_hB:1<=B)(m:U6 n=true)(q:J' j' s.2.1 n=true∨s.2.1.length<32)(d:1<=g.2/\g.2<=B+1)(f:∀i,i<3->j8 (Q3 i g)/\∀x∈Q3 i g,k9 i s x=true)(r:IL (Y0 j' O' s.2.1 n g)):
  M0 (B+1) (s.1,Y0 j' O' s.2.1 n g,s.2.2):=by
 have j:=h.mono (show B<=B+1 by omega)
 have l:∀i,i<3->∀x,k9 i s x=true->k9 i (s.1,Y0 j' O' s.2.1 n g,s.2.2) x=true:=fun i b x c=>by
  match i,b with
  |0,_=>exact c|1,_=>
   obtain⟨v,d⟩:=kS.n0.1 (show J' j' s.2.1 x=true from c);by_cases e:x=n
   ·subst e;exact kS.n0.2 ⟨_,(kS.W4 h.gR).2 (.inl rfl)⟩
   ·exact kS.n0.2 ⟨v,(kS.W4 h.gR).2 (.inr ⟨d,e⟩)⟩
  |2,_=>exact c
 refine { j with gR:=kS.O8 h.gR,gL:=?_,gn:=fun k v a=>?_,gl:=fun k v a i b=>?_,ma:=fun p hp=>?_,ac:=r }
 ·rw[QB];rcases q with e|e
  ·rw[zJ e];exact h.gL
  ·have:=h.gL;split<;>omega
 ·rcases(kS.W4 h.gR).1 a with e|⟨a,_⟩
  ·cases e;exact⟨m,d.1,d.2⟩
  ·exact j.gn k v a
 ·rcases(kS.W4 h.gR).1 a with e|⟨a,_⟩
  ·cases e;exact⟨(f i b).1,fun x c=>l i b x ((f i b).2 x c)⟩
  ·exact⟨(h.gl k v a i b).1,fun x c=>l i b x ((h.gl k v a i b).2 x c)⟩
 ·obtain⟨t,u,w,y⟩:=h.ma p hp;exact⟨t,u,(SA rfl rfl _).trans w,(SA rfl rfl _).trans y⟩
theorem yyQ{G:GM}(f:Ri O' G){n:L8}{g:Gr}(h:IL G)(i:∀x∈Q3 1 g,∃a,(n,a)∈G/\x∈Q3 1 a):IL (Y0 j' O' G n g):=by
 obtain⟨r,c⟩:=h;refine⟨r,fun m v b x d=>?_⟩;rcases(kS.W4 f).1 b with e|⟨b,_⟩
 ·cases e;obtain⟨a,j,k⟩:=i x d;exact c n a j x k
 ·exact c m v b x d
theorem Py{G:GM}(j:Ri O' G){n y:L8}{g:Gr}(h:IL G)(k:¬Reach G y n)(l:∀x∈Q3 1 g,x=y∨∃d,(n,d)∈G/\x∈Q3 1 d):IL (Y0 j' O' G n g):=by
 obtain⟨r,p⟩:=h
 classical
 refine⟨fun x=>if Reach G y x then r x else r x+(r y+1),fun m v b x c=>?_⟩
 have a:∀m v,(m,v)∈G->x∈Q3 1 v->(if Reach G y x then r x else r x+(r y+1))<(if Reach G y m then r m else r m+(r y+1)):=fun m v b c=>by
  have f:=p m v b x c;by_cases i:Reach G y m
  ·rw[zJ i,zJ (.step i b c)];exact f
  ·rw[zI i];split<;>omega
 rcases(kS.W4 j).1 b with e|⟨b,_⟩
 ·cases e;rcases l x c with rfl|⟨d,q,f⟩
  ·show(if Reach G x x then _ else _)<(if Reach G x n then _ else _);rw[zJ .refl,zI k];omega
  ·exact a n d q f
 ·exact a m v b c
theorem Qy{B:Int}{n:L8}{s:PS}(h:M0 B s)(hB:1<=B):M0 (B+1) (KH n s).2:=by
 have a:=h.mono (show B<=B+1 by omega);unfold KH;cases c:!U6 n with
 |true=>exact a|false=>
  cases f:J' j' s.2.1 n with
  |true=>exact a|false=>
   by_cases b:32<=s.2.1.length
   ·rw[zH,zH,zA b];exact a
   ·rw[zH,zH,zB b];refine ytJ h hB (SE c) (.inr (by omega)) ⟨by decide,by show(1:Int)<=B+1;omega⟩ (fun i d=>?_) (yyQ h.gR h.ac fun x e=>by cases e)
    match i,d with
    |0,_=>exact⟨.nil,fun _ h=>(by cases h)⟩|1,_=>exact⟨.nil,fun _ h=>(by cases h)⟩|2,_=>exact⟨.nil,fun _ h=>(by cases h)⟩
theorem yxI{B:Int}{k:Nat}(hk:k<3){n x:L8}{s:PS}(h:M0 B s)(hB:1<=B):M0 (B+1) (Hq k n x s).2:=by
 have d:=h.mono (show B<=B+1 by omega);unfold Hq;cases j:!U6 n || !U6 x with
 |true=>exact d|false=>
  obtain⟨j,_⟩:=Ut j;cases p:W0 j' s.2.1 n with
  |none=>exact d|some g=>
   simp only[zH];cases t:k9 k s x with
   |false=>exact d|true=>
    cases q:(Q3 k g).contains x with
    |true=>exact d|false=>
     simp only[aK,zH];by_cases l:k=1/\Reach s.2.1 x n
     ·rw[zJ l];exact d
     ·rw[zI l];have f:=kS.get_some p;have v:=h.gn n g f;have m:x∉Q3 k g:=fun m=>by rw[bE.2 m]at q;cases q
      refine ytJ h hB (SE j) (.inl (by rw[kc,p];rfl)) ⟨by rw[nS];omega,by rw[nS];omega⟩ (fun i r=>?_) ?_
      ·rw[UN r hk];obtain⟨a,b⟩:=h.gl n g f i r;by_cases e:i=k
       ·subst e;rw[zJ rfl];refine⟨yzX a m,fun y c=>?_⟩;rcases ytL.1 c with rfl|c
        ·exact t
        ·exact b y c
       ·rw[zI e];exact⟨a,b⟩
      ·by_cases e:k=1
       ·subst e;refine Py h.gR (y:=x) h.ac (fun u=>l ⟨rfl,u⟩) fun y c=>?_;rw[UN (by decide) (by decide),zJ rfl]at c;rcases ytL.1 c with rfl|c
        ·exact .inl rfl
        ·exact .inr ⟨g,f,c⟩
       ·refine yyQ h.gR h.ac fun y c=>?_;rw[UN (by decide) hk,zI fun h=>e h.symm]at c;exact⟨g,f,c⟩
theorem ytE{B:Int}{k:Nat}(hk:k<3){n x:L8}{s:PS}(h:M0 B s)(hB:1<=B):M0 (B+1) (Iq k n x s).2:=by
 have d:=h.mono (show B<=B+1 by omega);unfold Iq;cases j:!U6 n || !U6 x with
 |true=>exact d|false=>
  obtain⟨j,_⟩:=Ut j;cases l:W0 j' s.2.1 n with
  |none=>exact d|some g=>
   simp only[zH];cases p:k9 k s x with
   |false=>exact d|true=>
    cases q:(Q3 k g).contains x with
    |false=>exact d|true=>
     simp only[aK,zH];have f:=kS.get_some l;have r:=h.gn n g f;refine ytJ h hB (SE j) (.inl (by rw[kc,l];rfl)) ⟨by rw[nS];omega,by rw[nS];omega⟩ (fun i m=>?_) (yyQ h.gR h.ac fun y c=>?_)
     ·rw[UN m hk];obtain⟨a,b⟩:=h.gl n g f i m;by_cases e:i=k
      ·subst e;rw[zJ rfl];exact⟨Ly a,fun y c=>b y (EW.1 c).1⟩
      ·rw[zI e];exact⟨a,b⟩
     ·rw[UN (by decide) hk]at c;by_cases e:1=k
      ·subst e;rw[zJ rfl]at c;exact⟨g,f,(EW.1 c).1⟩
      ·rw[zI e]at c;exact⟨g,f,c⟩
theorem Ry{B:Int}{r:Ro}{s:PS}(h:M0 B s):M0 B (MH r s).2:=by
 unfold MH;cases j:Gq r with
 |false=>exact h|true=>
  cases d:!J' j' s.2.2.1 r.1&&decide (32<=s.2.2.1.length) with
  |true=>exact h|false=>
   have l:∀x,J' j' s.2.2.1 x=true->J' j' (Y0 j' O' s.2.2.1 r.1 r) x=true:=fun x b=>by
    obtain⟨v,a⟩:=kS.n0.1 b;by_cases e:x=r.1
    ·subst e;exact kS.n0.2 ⟨_,(kS.W4 h.rR).2 (.inl rfl)⟩
    ·exact kS.n0.2 ⟨v,(kS.W4 h.rR).2 (.inr ⟨a,e⟩)⟩
   refine { h with rR:=kS.O8 h.rR,rL:=?_,ro:=fun k v a=>?_,gl:=fun k g f i c=>⟨(h.gl k g f i c).1,fun x b=>?_⟩,ma:=fun p hp=>?_ }
   ·have:=h.rL;show(Y0 j' O' s.2.2.1 r.1 r).length<=32;rw[QB];cases m:J' j' s.2.2.1 r.1 with
    |true=>rw[zJ rfl];exact this|false=>rw[m]at d;have:¬32<=s.2.2.1.length:=of_decide_eq_false (by simpa using d);rw[zI (by simp)];omega
   ·have:=(h.gl k g f i c).2 x b
    match i,c with
    |0,_=>exact this|1,_=>exact this|2,_=>exact l x this
   ·rcases(kS.W4 h.rR).1 a with e|⟨a,_⟩
    ·cases e;exact⟨rfl,j⟩
    ·exact h.ro k v a
   ·obtain⟨n,q,t,u⟩:=h.ma p hp;exact⟨n,q,(SA rfl rfl _).trans t,(SA rfl rfl _).trans u⟩
theorem Sy{B:Int}{c:Cl}{s:PS}(h:M0 B s):M0 B (PH c s).2:=by
 unfold PH;cases r:Ha c with
 |false=>exact h|true=>
  cases l:!J' j' s.2.2.2.1 c.1&&decide (32<=s.2.2.2.1.length) with
  |true=>exact h|false=>
   have t:∀x,J' j' s.2.2.2.1 x=true->J' j' (Y0 j' O' s.2.2.2.1 c.1 c) x=true:=fun x f=>by
    obtain⟨v,a⟩:=kS.n0.1 f;by_cases e:x=c.1
    ·subst e;exact kS.n0.2 ⟨_,(kS.W4 h.cR).2 (.inl rfl)⟩
    ·exact kS.n0.2 ⟨v,(kS.W4 h.cR).2 (.inr ⟨a,e⟩)⟩
   refine { h with cR:=kS.O8 h.cR,cL:=?_,cl:=fun k v a=>?_,ma:=fun p hp=>?_,gl:=fun k g m i j=>⟨(h.gl k g m i j).1,fun x f=>?_⟩ }
   ·have:=h.cL;show(Y0 j' O' s.2.2.2.1 c.1 c).length<=32;rw[QB];cases u:J' j' s.2.2.2.1 c.1 with
    |true=>rw[zJ rfl];exact this|false=>rw[u]at l;have:¬32<=s.2.2.2.1.length:=of_decide_eq_false (by simpa using l);rw[zI (by simp)];omega
   ·have:=(h.gl k g m i j).2 x f
    match i,j with
    |0,_=>exact this|1,_=>exact this|2,_=>exact this
   ·rcases(kS.W4 h.cR).1 a with e|⟨a,_⟩
    ·cases e;exact⟨rfl,r⟩
    ·exact h.cl k v a
   ·have b:∀q,s9 s q=true->s9 (s.1,s.2.1,s.2.2.1,Y0 j' O' s.2.2.2.1 c.1 c,s.2.2.2.2) q=true:=fun q d=>by
     unfold s9 at *;cases n:q.head? == some 99 with
     |true=>rw[n]at d;exact t _ d|false=>rw[n]at d;exact d
    obtain⟨w,y,z,A⟩:=h.ma p hp;exact⟨w,y,b _ z,b _ A⟩
theorem Zt{B:Int}{n:L8}{s:PS}(h:M0 B s):M0 B (QH n s).2:=by
 unfold QH;cases y:!U6 n with
 |true=>exact h|false=>
  cases z:!J' j' s.2.2.2.1 n with
  |true=>exact h|false=>
   show M0 B (s.1,s.2.1,s.2.2.1,l5 j' s.2.2.2.1 n,yj (99::58::n) s.2.2.2.2);refine { h with cR:=Rm h.cR,cL:=bB (xy _ _).length_le h.cL,cl:=fun k v f=>h.cl k v ((xy _ _).subset f),mR:=h.mR.sublist eW,mL:=bB List.filter_sublist.length_le h.mL,ma:=fun p hp=>?_,gl:=fun k g b i a=>⟨(h.gl k g b i a).1,fun x j=>?_⟩ }
   ·have:=(h.gl k g b i a).2 x j
    match i,a with
    |0,_=>exact this|1,_=>exact this|2,_=>exact this
   ·obtain⟨l,m,r⟩:=ywD.1 hp;obtain⟨c,d,u,w⟩:=h.ma p l;have e:=fun {q:L8}=>th_c (q:=q) (t:=(s.1,s.2.1,s.2.2.1,l5 j' s.2.2.2.1 n,yj (99::58::n) s.2.2.2.2)) h.cR rfl rfl;exact⟨c,d,e c u m,e d w r⟩
theorem Aj{B:Int}{s:PS}{M:MM}(h:M0 B s)(c:Ri V9 M)(d:M.length<=64)(e:∀p∈M,ia p.1.1=true/\ia p.1.2=true/\s9 s p.1.1=true/\s9 s p.1.2=true):M0 B (s.1,s.2.1,s.2.2.1,s.2.2.2.1,M):=
 { h with
   mR:=c,mL:=d
   ma:=fun p hp=>by obtain⟨f,j,l,m⟩:=e p hp;exact⟨f,j,(SA rfl rfl _).trans l,(SA rfl rfl _).trans m⟩
   gl:=fun k g b i a=>⟨(h.gl k g b i a).1,fun x n=>by
    have:=(h.gl k g b i a).2 x n
    match i,a with
    |0,_=>exact this|1,_=>exact this|2,_=>exact this⟩ }
theorem au{B:Int}{a b:L8}{s:PS}(h:M0 B s):M0 B (RH a b s).2:=by
 unfold RH;cases c:!ia a || !ia b with
 |true=>exact h|false=>
  obtain⟨c,f⟩:=Ut c;cases d:!s9 s a || !s9 s b with
  |true=>exact h|false=>
   obtain⟨d,g⟩:=Ut d;cases i:J' W8 s.2.2.2.2 (a,b) with
   |true=>exact h|false=>
    by_cases e:64<=s.2.2.2.2.length
    ·rw[zH,zH,zH,zA e];exact h
    ·rw[zH,zH,zH,zB e];refine Aj h (yy.O8 h.mR) (by rw[QB,i];simp;omega) fun p hp=>?_;rcases(yy.W4 h.mR).1 hp with rfl|⟨hp,_⟩
     ·exact⟨SE c,SE f,SE d,SE g⟩
     ·exact h.ma p hp
theorem Uy{B:Int}{a b:L8}{s:PS}(h:M0 B s):M0 B (SH a b s).2:=by
 unfold SH;cases c:!ia a || !ia b with
 |true=>exact h|false=>
  cases d:!s9 s a || !s9 s b with
  |true=>exact h|false=>
   cases e:!J' W8 s.2.2.2.2 (a,b) with
   |true=>exact h|false=>exact Aj h (Rm h.mR) (bB (xy _ _).length_le h.mL) fun p hp=>h.ma p ((xy _ _).subset hp)
theorem UE:M0 1 (([]:UM),([]:GM),([]:RM),([]:CM),([]:MM)):=
 ⟨.nil,.nil,.nil,.nil,.nil,by decide,by decide,by decide,by decide,by decide,fun _ _ h=>(by cases h),fun _ _ h=>(by cases h),fun _ _ h=>(by cases h),fun _ _ h=>(by cases h),fun _ _ h=>(by cases h),fun _ h=>(by cases h),⟨fun _=>0,fun _ _ h=>(by cases h)⟩⟩
end Go.Proofs.YtopanhneegpgcaaGreatDoor.Am
