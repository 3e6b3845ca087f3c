/- Parts of one proof. Conditions: as each theorem says. -/
import Derived.Test.YtopanhneegpgcaaGreatDoorRows
import Derived.Test.YtopanhneegpgcaaGreatDoorTie
import Derived.Test.YtopanhneegpgcaaGreatDoorCards
import Derived.ProofKit
import Derived.OpenShut
import Derived.Carry
import Derived.JoinedCond
import Derived.ChangeMaps5
import Derived.Deep.SlicePairs
import Derived.Deep.DeepHandedRow
import Derived.Lib.LaidTab
import Derived.SevenTiedAt
import Derived.KernelRfl
import Derived.Test.YtopanhneegpgcaaGreatDoorQyN
open Array renaming length_toList->iE
open Bool renaming and_eq_true->aI,or_eq_true->cH
open Int renaming toNat_natCast->bY
open List renaming all_eq_true->bR,any_eq_false->fV,any_eq_true->eR,append_assoc->aU,append_cancel_left->iT,append_nil->bJ,contains_iff_mem->bE,drop_drop->fG,drop_eq_getElem_cons->bA,drop_eq_nil_of_le->eY,drop_length->bT,drop_zero->bQ,ext_getElem?->bN,flatMap_cons->cO,flatten_cons->fB,flatten_nil->gQ,getElem?_drop->bU,getElem?_eq_getElem->aH,getElem?_eq_none->cB,getElem?_eq_some_iff->aC,getElem?_take->dE,getElem_mem->bC,length_append->aD,length_cons->aQ,length_drop->bL,length_map->aE,length_nil->cN,map->cU,map_append->cC,map_cons->bF,map_map->cW,map_nil->eN,mem_append->bH,mem_cons->aN,mem_cons_of_mem->aM,mem_cons_self->aO,mem_filter->cE,mem_flatMap->gE,mem_map->aY,mem_singleton->aZ,nil_append->bP,nodup_append->dZ,pairwise_map->bZ,sum_cons->iR,take_add_one->jM,take_of_length_le->eM
open Nat renaming add_mul->cA,beq->aJ,eq_of_beq_eq_true->aB,eq_zero_or_pos->eZ,le_refl->aL,le_trans->bB,mul_le_mul_left->jD,one_mul->fA,sub_add_cancel->gK,zero_le->bG
open Option renaming bind_eq_some_iff->fM,isSome_none->iL,toList_some->jH
open Go.Proofs.Tryz renaming prog->aA
open Go.Lib renaming compactUpTo->xDg,decDigits->db
namespace Go.Proofs.YtopanhneegpgcaaGreatDoor.Am
open Go Go.RowKit
theorem mz{γ:Type}{es:List (L8×γ)}(a:Ri O' es):gm (es.map (·.1))=true:=ypE.2 (bZ.2 a)
theorem AS{γ:Type}{es:List (L8×γ)}(a:Ri O' es)(b:es.length<=1048576)(hk:∀p∈es,p.1.length<=68719476736):yt es=some (es.map (·.1),es):=by unfold yt HK;rw[zA b,mz a,bR.2 fun p hp=>zA (hk p hp)];rfl
theorem pX{γ b:Type}{es:List (L8×γ)}{body:Int×List (L8×γ)×List b->Option ((Int×List (L8×γ)×List b)⊕(List (L8×γ)×List b))}{tell:L8×γ->b}(l:es.length<=1048576) (e:∀(i:Nat) (d:i<es.length) (a:List b),a.length<=1048576->body ((i:Int),es,a)=some (.inl (((i+1:Nat):Int),es,a++[tell es[i]]))) (h:∀a,body ((es.length:Int),es,a)=some (.inr (es,a))):iter body ((0:Int),es,([]:List b))=some (es,es.map tell):=by
 have key:∀(f i:Nat) (a:List b),f+i=es.length->a.length+f<=1048576->∀g,f<g->X9 body g ((i:Int),es,a)=some (es,a++(es.drop i).map tell):=by
  intro f;induction f with
  |zero=>
   intro i a d _ g j;obtain⟨g,rfl⟩:∃m,g=m+1:=⟨g-1,by omega⟩;have d:i=es.length:=by omega
   subst d;rw[Ba (h a),bT,eN,bJ]
  |succ f k=>
   intro i a d n g j;obtain⟨g,rfl⟩:∃m,g=m+1:=⟨g-1,by omega⟩;have c:i<es.length:=by omega
   rw[sb (e i c a (by omega)),k (i+1) _ (by omega) (by simp;omega) g (by omega),bA c,bF,aU];rfl
 have:=key es.length 0 [] (by omega) (by simp;omega) FU (by unfold FU;omega);rw[bQ,bP]at this;exact this
def n3(s:PS):List Us:=s.1.map (·.2)
def n1(s:PS):List (L8×kH×kH×kH×Int):=s.2.1.map fun p=>(p.1,p.2.1.1,p.2.1.2.1,p.2.1.2.2,p.2.2)
def X1(s:PS):List Ro:=s.2.2.1.map (·.2)
def U1(s:PS):List Cl:=s.2.2.2.1.map (·.2)
def Y1(s:PS):kG:=s.2.2.2.2.map (·.1)
theorem Lg{n:Nat}(h:n<=1048576):o6 (decide ((0:Int)<=(n:Int))&&decide ((n:Int)<=(Sk:Int)))=some ():=by rw[zA (show(0:Int)<=(n:Int) by omega),zA (show(n:Int)<=(Sk:Int) by unfold Sk;omega)];rfl
theorem qX{a:Type}(z:a):Go.Proofs.YtopanhneegpgcaaGreatDoor.ZB (0:Int) z=some []:=rfl
theorem get_at{γ:Type}{es:List (L8×γ)}(a:Ri O' es){i:Nat}(b:i<es.length)(z:γ):r6 j' es es[i].1 z=es[i].2:=by rw[pb,kS.get_mem a (k:=es[i].1) (v:=es[i].2) (bC b)];rfl
theorem Mg{γ:Type}{es:List (L8×γ)}{i:Nat}(a:i<es.length):idx (es.map (·.1)) (i:Int)=some es[i].1:=by rw[Y6 rfl (by rw[aE];exact a),List.getElem_map]
theorem Hj{B:Int}{s:PS}(h:M0 B s):LR X' s.1 s.2.1 s.2.2.1 s.2.2.2.1 s.2.2.2.2=some (s.1,s.2.1,s.2.2.1,s.2.2.2.1,s.2.2.2.2,n3 s):=by
 have c:=h.uL;unfold LR ybQ ykL;rw[Lg (by omega),p',qX,p',p',AS h.uR (by omega) fun p hp=>bB (ph (h.us p.1 p.2 hp).2.1) (by decide),p'];rw[pX (es:=s.1) (tell:=fun p:L8×Us=>p.2) (by omega) (fun i b a d=>?_) fun a=>?_,p',p']
 ·rfl
 ·unfold zzQ zpM;simp only;rw[X5 (by rw[aE];omega),Mg b,p',get_at h.uR b,p',O7 (by simp;omega),p',Y7 (by omega)]
 ·unfold zzQ;simp only;rw[l6 (by rw[aE];omega)]
theorem xcV{B:Int}{s:PS}(h:M0 B s):IR X' s.1 s.2.1 s.2.2.1 s.2.2.2.1 s.2.2.2.2=some (s.1,s.2.1,s.2.2.1,s.2.2.2.1,s.2.2.2.2,n1 s):=by
 have d:=h.gL;unfold IR ybV ylG;rw[Lg (by omega),p',qX,p',p',AS h.gR (by omega) fun p hp=>bB (ph (h.gn p.1 p.2 hp).1) (by decide),p'];rw[pX (es:=s.2.1) (tell:=fun p:L8×Gr=>(p.1,p.2.1.1,p.2.1.2.1,p.2.1.2.2,p.2.2)) (by omega) (fun i a b f=>?_) fun b=>?_,p',p']
 ·rfl
 ·have c:(s.2.1[i].1,s.2.1[i].2)∈s.2.1:=bC a;have e:∀l:kH,l.length<=64->wH X' l=some l:=fun l d=>by unfold wH;rw[mh _ (by omega),p']
  unfold zzK;simp only;rw[X5 (by rw[aE];omega),Mg a,p',get_at h.gR a];unfold HR;rw[e s.2.1[i].2.1.1 (h.Z4 c (i:=0) (by decide)),p',e s.2.1[i].2.1.2.1 (h.Z4 c (i:=1) (by decide)),p',e s.2.1[i].2.1.2.2 (h.Z4 c (i:=2) (by decide)),p',p',O7 (by simp;omega),p',Y7 (by omega)]
 ·unfold zzK;simp only;rw[l6 (by rw[aE];omega)]
theorem UL{r:Ro}(h:Gq r=true):r.2.length<=16:=by unfold Gq oh at h;simp only[aI,zE]at h;exact h.2.2
theorem rX{c:Cl}(h:Ha c=true):c.2.2.1.length<=16/\c.2.2.2.1.length<=16:=by unfold Ha oh at h;simp only[aI,zE]at h;exact⟨h.1.2.2,h.2.2⟩
theorem Ij{B:Int}{s:PS}(h:M0 B s):KR X' s.1 s.2.1 s.2.2.1 s.2.2.2.1 s.2.2.2.2=some (s.1,s.2.1,s.2.2.1,s.2.2.2.1,s.2.2.2.2,X1 s):=by
 have f:=h.rL;unfold KR ybN yjN
 rw[Lg (by omega),p',qX,p',p',AS h.rR (by omega) fun p hp=>by
  have a:=h.ro p.1 p.2 hp;have d:=Z3 a.2;rw[a.1]at d
  exact bB (ph d) (by decide),p']
 rw[pX (es:=s.2.2.1) (tell:=fun p:L8×Ro=>p.2) (by omega) (fun i b c g=>?_) fun c=>?_,p',p']
 ·rfl
 ·have e:(s.2.2.1[i].1,s.2.2.1[i].2)∈s.2.2.1:=bC b;have a:=UL (h.ro _ _ e).2;unfold zzT zpG;simp only;rw[X5 (by rw[aE];omega),Mg b,p',get_at h.rR b,nX (by omega),p',p',O7 (by simp;omega),p',Y7 (by omega)]
 ·unfold zzT;simp only;rw[l6 (by rw[aE];omega)]
theorem VL{c:Cl}(h:Ha c=true):U6 c.1=true:=by unfold Ha at h;simp only[aI]at h;exact h.1.1.1
theorem yvR{B:Int}{s:PS}(h:M0 B s):DR X' s.1 s.2.1 s.2.2.1 s.2.2.2.1 s.2.2.2.2=some (s.1,s.2.1,s.2.2.1,s.2.2.2.1,s.2.2.2.2,U1 s):=by
 have f:=h.cL;unfold DR ydO yjZ
 rw[Lg (by omega),p',qX,p',p',AS h.cR (by omega) fun p hp=>by
  have a:=h.cl p.1 p.2 hp;have d:=VL a.2;rw[a.1]at d
  exact bB (ph d) (by decide),p']
 rw[pX (es:=s.2.2.2.1) (tell:=fun p:L8×Cl=>p.2) (by omega) (fun i b c g=>?_) fun c=>?_,p',p']
 ·rfl
 ·have e:(s.2.2.2.1[i].1,s.2.2.2.1[i].2)∈s.2.2.2.1:=bC b;have a:=rX (h.cl _ _ e).2;unfold ybH znF;simp only;rw[X5 (by rw[aE];omega),Mg b,p',get_at h.cR b,oX (by omega) (by omega),p',p',O7 (by simp;omega),p',Y7 (by omega)]
 ·unfold ybH;simp only;rw[l6 (by rw[aE];omega)]
theorem xaS:∀{l:kG},(l.Pairwise fun x y=>V9 x y=true)->rH l=true
 |[],_=>rfl|[_],_=>rfl|x::y::l,h=>by have a:=List.pairwise_cons.1 h;unfold rH;rw[aI];exact⟨a.1 y aO,xaS a.2⟩
theorem Oq{B:Int}{s:PS}(h:M0 B s):JR X' s.1 s.2.1 s.2.2.1 s.2.2.2.1 s.2.2.2.2=some (Y1 s,s):=by
 have a:=h.mL;unfold JR ylC;rw[p'];have e:dR s.2.2.2.2=some (s.2.2.2.2.map (·.1),s.2.2.2.2):=by unfold dR;rw[zA (by omega),xaS (bZ.2 h.mR)];rfl
 rw[e,p'];rfl
inductive sf (G:GM) (u:L8):L8->Prop
 |dir {n:L8} {g:Gr}:(n,g)∈G->u∈Q3 0 g->sf G u n
 |sub {n x:L8} {g:Gr}:(n,g)∈G->x∈Q3 1 g->sf G u x->sf G u n
theorem sf.key{G:GM}{u n:L8}(h:sf G u n):J' j' G n=true:=by
 cases h with
 |dir h _=>exact kS.n0.2 ⟨_,h⟩|sub h _ _=>exact kS.n0.2 ⟨_,h⟩
open Classical in
noncomputable def Y8(G:GM)(u:L8):kH:=(G.map (·.1)).filter fun n=>decide (sf G u n)
open Classical in
theorem sX{G:GM}{u n:L8}:n∈Y8 G u↔sf G u n:=by unfold Y8;rw[cE,zE];refine⟨fun h=>h.2,fun h=>⟨?_,h⟩⟩;obtain⟨g,a⟩:=kS.n0.1 h.key;exact aY.2 ⟨_,a,rfl⟩
theorem tn{G:GM}(a:Ri O' G)(u:L8):j8 (Y8 G u):=(show j8 (G.map (·.1))from bZ.2 a).sublist List.filter_sublist
theorem yF(l:kH)(z:SM)(t:l.length<=1048576):BR X' l z=some (l.any (fun x=>J' j' z x),z):=by
 have key:∀(f i:Nat),f+i=l.length->∀g,f<g->X9 (fun x:Int×SM=>MN X' l x.1 x.2) g ((i:Int),z)=some (match (l.drop i).findIdx? (fun x=>J' j' z x) with
   |some k=>.inl (((i+k:Nat):Int),z)|none=>.inr z):=by
  intro f;induction f with
  |zero=>
   intro i d g j;obtain⟨g,rfl⟩:∃m,g=m+1:=⟨g-1,by omega⟩;have d:i=l.length:=by omega
   subst d;rw[bT];refine Ba ?_;unfold MN;simp only;rw[l6 (by omega)];rfl
  |succ f n=>
   intro i d g j;obtain⟨g,rfl⟩:∃m,g=m+1:=⟨g-1,by omega⟩;have a:i<l.length:=by omega
   rw[bA a,List.findIdx?_cons];have c:MN X' l (i:Int) z=bif J' j' z l[i]then some (.inr (.inl ((i:Int),z)))else some (.inl (((i+1:Nat):Int),z)):=by unfold MN ztI;rw[X5 (by omega),Y6 rfl a,p',p',Y7 (by omega)]
   cases e:J' j' z l[i] with
   |true=>rw[e]at c;rw[Ba (b:=.inl ((i:Int),z)) c];rfl|false=>
    rw[e]at c;rw[sb (s':=(((i+1:Nat):Int),z)) c,n (i+1) (by omega) g (by omega)];simp only[if_false,Bool.false_eq_true];cases (l.drop (i+1)).findIdx? (fun x=>J' j' z x) with
    |none=>rfl|some k=>simp only[Option.map_some];congr 4;omega
 have p:=key l.length 0 (by omega) FU (by unfold FU;omega);unfold BR zxR;rw[show iter (fun x:Int×SM=>MN X' l x.1 x.2) ((0:Int),z)=_ from p,p',bQ];cases h:l.findIdx? (fun x=>J' j' z x) with
 |none=>simp only[p'];rw[show l.any (fun x=>J' j' z x)=false from fV.2 fun x q=>by rw[List.findIdx?_eq_none_iff.1 h x q];simp];rfl|some k=>
  simp only[p']
  rw[show l.any (fun x=>J' j' z x)=true from eR.2 (by
   obtain⟨r,s,_⟩:=List.findIdx?_eq_some_iff_getElem.1 h
   exact⟨l[k],bC r,s⟩)]
  rw[zA (show(((0+k:Nat)):Int)≥0 by omega)]
abbrev T7:Type:=Bool×UM×GM×RM×CM×MM×SM
abbrev T8:Type:=Bool×UM×GM×RM×CM×MM×kH×SM
theorem WL{B:Int}{s:PS}(h:M0 B s)(u:L8):∃z:SM,Ri O' z/\(∀n,J' j' z n=true↔sf s.2.1 u n)/\U8 (ydL X' u) (Sum.inl (true,s.1,s.2.1,s.2.2.1,s.2.2.2.1,s.2.2.2.2,([]:SM)))=some (s.1,s.2.1,s.2.2.1,s.2.2.2.1,s.2.2.2.2,z):=by
 obtain⟨z,hz,L⟩:∃z:SM,Ri O' z/\∀n,J' j' z n=true↔sf s.2.1 u n:=by
  refine⟨(Y8 s.2.1 u).map fun n=>(n,()),bZ.2 (tn h.gR u),fun n=>?_⟩;rw[kS.n0,<-sX];constructor
  ·rintro⟨v,hv⟩;obtain⟨m,F,e⟩:=aY.1 hv;cases e;exact F
  ·exact fun b=>⟨(),aY.2 ⟨n,b,rfl⟩⟩
 refine⟨z,hz,L,?_⟩
 -- a set that is no more than what it N be
 let ok:SM->Prop:=fun t=>Ri O' t/\∀n,J' j' t n=true->sf s.2.1 u n
 have O:∀t,ok t->t.length<=s.2.1.length:=fun t c=>by
  have b:(t.map (·.1)).Nodup:=(bZ.2 (c.1.imp fun {p q} Q=>kS.Cb Q):(t.map (·.1)).Pairwise (· ≠ ·));have:=XK b (m:=s.2.1.map (·.1)) fun x r=>by obtain⟨p,hp,rfl⟩:=aY.1 r;obtain⟨g,j⟩:=kS.n0.1 (c.2 p.1 (kS.n0.2 ⟨p.2,hp⟩)).key;exact aY.2 ⟨_,j,rfl⟩
  simpa using this
 -- nothing is to come of a group
 let done:SM->L8->Gr->Prop:=fun t n g=>J' j' t n=true∨(u∉Q3 0 g/\∀x∈Q3 1 g,J' j' t x=false)
 have fin:∀t,ok t->(∀n g,(n,g)∈s.2.1->done t n g)->t=z:=fun t c A=>by
  refine kS.ext_get c.1 hz fun n=>?_;have:J' j' t n=J' j' z n:=by
   rw[Bool.eq_iff_iff,L];refine⟨c.2 n,fun b=>?_⟩;induction b with
   |dir j R=>
    rcases A _ _ j with f|⟨f,_⟩
    ·exact f
    ·exact absurd R f
   |sub j r _ ih=>
    rcases A _ _ j with f|⟨_,f⟩
    ·exact f
    ·rw[f _ r]at ih;cases ih
  rw[kc,kc]at this;cases f:W0 j' t n with
  |none=>cases K:W0 j' z n with
   |none=>rfl|some v=>rw[f,K]at this;cases this
  |some v=>cases K:W0 j' z n with
   |none=>rw[f,K]at this;cases this
   |some w=>rfl
 refine zy (S:=T7⊕T8) (fun x=>by
  cases x with
  |inl x=>exact List.cons_ne_nil _ _|inr x=>exact xL _ _ _) (fun x=>match x with
   |.inl y=>∃t,y=(y.1,s.1,s.2.1,s.2.2.1,s.2.2.2.1,s.2.2.2.2,t)/\ok t/\(y.1=false->∀n g,(n,g)∈s.2.1->done t n g)|.inr y=>∃left t,y=(y.1,s.1,s.2.1,s.2.2.1,s.2.2.2.1,s.2.2.2.2,left,t)/\ok t/\left.length<=s.2.1.length/\(y.1=false->∀n g,(n,g)∈s.2.1->n∉left->done t n g))
  (fun x=>match x with
   |.inl y=>(s.2.1.length-y.2.2.2.2.2.2.length)*(s.2.1.length+3)+bif y.1 then s.2.1.length+2 else 0
   |.inr y=>(s.2.1.length-y.2.2.2.2.2.2.2.length)*(s.2.1.length+3)+y.2.2.2.2.2.2.1.length+1+bif y.1 then s.2.1.length+3 else 0) (fun x r o C=>?_) ⟨[],rfl,⟨.nil,fun n h=>by cases h⟩,fun h=>by cases h⟩
 cases x with
 |inl y=>
  obtain⟨t,U,c,A⟩:=r;obtain⟨more,V⟩:=y;have G:V=(s.1,s.2.1,s.2.2.1,s.2.2.2.1,s.2.2.2.2,t):=congrArg Prod.snd U;subst G;have C:o=zuF X' more s.1 s.2.1 s.2.2.1 s.2.2.2.1 s.2.2.2.2 t:=aZ.1 C;unfold zuF at C;cases more with
  |true=>refine .inl ⟨_,C,⟨cU Prod.fst s.2.1,t,rfl,c,by rw[aE];exact aL _,fun _ n g j b=>absurd (aY.2 ⟨_,j,rfl⟩) b⟩,?_⟩;show(s.2.1.length-t.length)*(s.2.1.length+3)+(cU Prod.fst s.2.1).length+1+0<(s.2.1.length-t.length)*(s.2.1.length+3)+(s.2.1.length+2);rw[aE];omega
  |false=>right;rw[<-fin t c (A rfl)];exact C
 |inr y=>
  obtain⟨left,t,U,c,hll,A⟩:=r;obtain⟨more,V⟩:=y;have G:V=(s.1,s.2.1,s.2.2.1,s.2.2.2.1,s.2.2.2.2,left,t):=congrArg Prod.snd U;subst G;have C:o∈zuI X' u more s.1 s.2.1 s.2.2.1 s.2.2.2.1 s.2.2.2.2 left t:=C;unfold zuI at C;rcases yH C with⟨he,rfl⟩|⟨p,hp,rfl⟩
  ·refine .inl ⟨_,rfl,⟨t,rfl,c,fun F n g j=>A F n g j fun b=>?_⟩,?_⟩
   ·have:=kS.mc.2 ⟨j,b⟩;rw[he]at this;cases this
   ·show(s.2.1.length-t.length)*(s.2.1.length+3)+(bif more then s.2.1.length+2 else 0)<(s.2.1.length-t.length)*(s.2.1.length+3)+left.length+1+(bif more then s.2.1.length+3 else 0);cases more<;>simp only[zF,zH]<;>omega
  ·obtain⟨l,X⟩:=kS.mc.1 hp;have Y:=h.gl p.1 p.2 l;have D:∀i,i<3->(Q3 i p.2).length<=64:=fun i hi=>h.Z4 l hi;have hd1:=kS.jj X;rw[kS.get_mem h.gR (k:=p.1) (v:=p.2) l,p'];simp only
   have stay:done t p.1 p.2->(∃I,(some (.inl (.inr (more,s.1,s.2.1,s.2.2.1,s.2.2.2.1,s.2.2.2.2,U7 j' left p.1,t))):Option ((T7⊕T8)⊕(UM×GM×RM×CM×MM×SM)))=some (.inl I)/\(match I with
     |.inl y=>∃t,y=(y.1,s.1,s.2.1,s.2.2.1,s.2.2.2.1,s.2.2.2.2,t)/\ok t/\(y.1=false->∀n g,(n,g)∈s.2.1->done t n g)|.inr y=>∃left t,y=(y.1,s.1,s.2.1,s.2.2.1,s.2.2.2.1,s.2.2.2.2,left,t)/\ok t/\left.length<=s.2.1.length/\(y.1=false->∀n g,(n,g)∈s.2.1->n∉left->done t n g))/\(match I with
     |.inl y=>(s.2.1.length-y.2.2.2.2.2.2.length)*(s.2.1.length+3)+bif y.1 then s.2.1.length+2 else 0
     |.inr y=>(s.2.1.length-y.2.2.2.2.2.2.2.length)*(s.2.1.length+3)+y.2.2.2.2.2.2.1.length+1+bif y.1 then s.2.1.length+3 else 0)<(s.2.1.length-t.length)*(s.2.1.length+3)+left.length+1+bif more then s.2.1.length+3 else 0):=fun Z=>by
    refine⟨_,rfl,⟨_,t,rfl,c,by omega,fun F n g j b=>?_⟩,?_⟩
    ·by_cases e:n=p.1
     ·subst e;have:=kS.get_mem h.gR (k:=p.1) (v:=g) j;rw[kS.get_mem h.gR (k:=p.1) (v:=p.2) l]at this;cases this;exact Z
     ·exact A F n g j fun hn2=>b (kS.oc.2 ⟨hn2,e⟩)
    ·simp only;omega
   have add:sf s.2.1 u p.1->J' j' t p.1=false->(∃I,(some (.inl (.inr (true,s.1,s.2.1,s.2.2.1,s.2.2.2.1,s.2.2.2.2,U7 j' left p.1,Y0 j' O' t p.1 ()))):Option ((T7⊕T8)⊕(UM×GM×RM×CM×MM×SM)))=some (.inl I)/\(match I with
     |.inl y=>∃t,y=(y.1,s.1,s.2.1,s.2.2.1,s.2.2.2.1,s.2.2.2.2,t)/\ok t/\(y.1=false->∀n g,(n,g)∈s.2.1->done t n g)|.inr y=>∃left t,y=(y.1,s.1,s.2.1,s.2.2.1,s.2.2.2.1,s.2.2.2.2,left,t)/\ok t/\left.length<=s.2.1.length/\(y.1=false->∀n g,(n,g)∈s.2.1->n∉left->done t n g))/\(match I with
     |.inl y=>(s.2.1.length-y.2.2.2.2.2.2.length)*(s.2.1.length+3)+bif y.1 then s.2.1.length+2 else 0
     |.inr y=>(s.2.1.length-y.2.2.2.2.2.2.2.length)*(s.2.1.length+3)+y.2.2.2.2.2.2.1.length+1+bif y.1 then s.2.1.length+3 else 0)<(s.2.1.length-t.length)*(s.2.1.length+3)+left.length+1+bif more then s.2.1.length+3 else 0):=fun hin hno=>by
    have M:ok (Y0 j' O' t p.1 ()):=by
     refine⟨kS.O8 c.1,fun n b=>?_⟩;rw[kc,kS.Gd c.1]at b;by_cases e:j' p.1 n=true
     ·rw[<-kS.e.1 e];exact hin
     ·rw[zI e,<-kc]at b;exact c.2 n b
    refine⟨_,rfl,⟨_,_,rfl,M,by omega,fun F=>by cases F⟩,?_⟩;have J:=O _ M;have e:(Y0 j' O' t p.1 ()).length=t.length+1:=by rw[QB,hno,zI (by simp)]
    simp only[zF];rw[e]at J ⊢;obtain⟨d,A⟩:∃d,s.2.1.length-t.length=d+1:=⟨s.2.1.length-t.length-1,by omega⟩;rw[A,show s.2.1.length-(t.length+1)=d by omega,Nat.succ_mul];have:(bif more then s.2.1.length+3 else 0)≥0:=bG _;omega
   cases f:J' j' t p.1 with
   |true=>exact .inl (stay (.inl f))|false=>
    rw[zH,show BR X' p.2.1.2.1 t=_ from yF _ t (show(Q3 1 p.2).length<=_ by have:=D 1 (by decide);omega),p'];simp only;cases K:p.2.1.2.1.any fun x=>J' j' t x with
    |true=>obtain⟨x,r,hxt⟩:=eR.1 K;exact .inl (add (.sub l r (c.2 x hxt)) f)
    |false=>
     rw[zH,show Ed X' p.2.1.1 u=_ from lF u (Y 0 (by decide)).1 (show(Q3 0 p.2).length<=_ by have:=D 0 (by decide);omega),p'];cases h3:p.2.1.1.contains u with
     |true=>exact .inl (add (.dir l (bE.1 h3)) f)|false=>
      refine .inl (stay (.inr ⟨fun R=>?_,fun x r=>?_⟩))
      ·rw[bE.2 (show u∈p.2.1.1 from R)]at h3;cases h3
      ·have:=fV.1 K x r;simpa using this
theorem nz{B:Int}{s:PS}(h:M0 B s)(u:L8):QA X' u s.1 s.2.1 s.2.2.1 s.2.2.2.1 s.2.2.2.2=some (Y8 s.2.1 u,s):=by
 obtain⟨z,c,b,j⟩:=WL h u;have t:=h.gL;have a:∀p∈z,J' j' s.2.1 p.1=true:=fun p hp=>((b p.1).1 (kS.n0.2 ⟨p.2,hp⟩)).key;have k:z.length<=32:=by
  have d:(z.map (·.1)).Nodup:=(bZ.2 (c.imp fun {p q} f=>kS.Cb f):(z.map (·.1)).Pairwise (· ≠ ·));have:=XK d (m:=s.2.1.map (·.1)) fun x l=>by obtain⟨p,hp,rfl⟩:=aY.1 l;obtain⟨g,i⟩:=kS.n0.1 (a p hp);exact aY.2 ⟨_,i,rfl⟩
  rw[aE,aE]at this;omega
 unfold QA ymR
 rw[j,p',p',AS c (by omega) fun p hp=>by
  obtain⟨g,i⟩:=kS.n0.1 (a p hp)
  exact bB (ph (h.gn p.1 g i).1) (by decide),p']
 have e:z.map (·.1)=Y8 s.2.1 u:=by
  refine j8.ext (bZ.2 c) (tn h.gR u) fun n=>?_;rw[sX,<-b,kS.n0];constructor
  ·intro d;obtain⟨p,hp,rfl⟩:=aY.1 d;exact⟨p.2,hp⟩
  ·rintro⟨v,r⟩;exact aY.2 ⟨_,r,rfl⟩
 rw[e]
end Go.Proofs.YtopanhneegpgcaaGreatDoor.Am
namespace Go.Proofs.YtopanhneegpgcaaGreatDoor
open Go Go.RowKit
section
open Go Go.RowKit Go.ChangeShapes Go.WideShapes Go.ChangeAt
section
variable {H:Type}{enc:TypeId×Value->H}{P:Program}{W W':World}
theorem yuU(f:laidOutB P=true)(a:Below W.heap.size W W'):∀{ts:List TypeId} {vs:LV} {ds:List (DataW H)} {ps:List MemPlace},ts.all (fun t=>P.readableRec t&&decide (t<P.types.size))=true ->
  DataW.TrodAll enc P W 0 (fun _=>true) true ts vs ds ps->(∀x∈ps,x.block<W.heap.size)->DataW.TrodAll enc P W' 0 (fun b=>decide (b<W.heap.size)) true ts vs ds ps
 |[],vs,ds,ps,_,h,_=>by obtain⟨rfl,rfl,rfl⟩:=trodAll_nil h;exact trodAll_mk0
 |t::ts,vs,ds,ps,e,h,c=>by
  obtain⟨v,g,d,i,p,q,rfl,rfl,rfl,j,k⟩:=trodAll_cons h;simp only[List.all_cons,aI,zE]at e
  exact trodAll_cons_mk (Below.trod f e.1.1 e.1.2 j a fun x a=>c x (bH.2 (.inl a)))
   (yuU f a e.2 k fun x a=>c x (bH.2 (.inr a)))
theorem fb:∀{ts:List TypeId} {vs:LV} {ds:List (DataW H)} {ps:List MemPlace} {w:World} {b:Nat} {sp:Nat->Bool} {a:Bool},DataW.TrodAll enc P w b sp a ts vs ds ps->vs.length=ts.length/\ds.length=ts.length
 |[],vs,ds,ps,_,_,_,_,h=>by obtain⟨rfl,rfl,rfl⟩:=trodAll_nil h;exact⟨rfl,rfl⟩
 |t::ts,vs,ds,ps,_,_,_,_,h=>by obtain⟨v,c,d,e,p,q,rfl,rfl,rfl,g,f⟩:=trodAll_cons h;have:=fb f;simp[this.1,this.2]
theorem oz{f:Func}{s:ChangeSpec}{args:Array Value}{ds gs:List (DataW H)}{before:List MemPlace}{B:TypeId}{n:Nat}(l:laidOutB P=true)(g:s.vars=[]) (hp:f.params.toList.all (fun t=>P.readableRec t&&decide (t<P.types.size))=true) (m:f.params.toList.length=n) (hB:P.underlying B=some .bool) (r:f.resultTypes = #[B]) (d:∀ds:List (DataW H),ds.length=n->(s.fn H (ds++[])).results=[.lit (.bool true)]/\(s.fn H (ds++[])).args=ds/\(s.fn H (ds++[])).vars=[]) (i:DataW.Whole enc P f.params.toList s.vars false W args.toList ds gs before) (j:Ext W W'):s.post enc P f false true false false W args (.bool true) W':=by
 have a:=i;obtain⟨p,q,c,k,rfl,_,_⟩:=i;rw[g]at k;obtain⟨rfl,rfl⟩:=trodVars_none k;have c:DataW.TrodAll enc P W 0 (fun _=>true) true f.params.toList args.toList ds p:=c;have b:=fb c;obtain⟨f1,f2,f3⟩:=d ds (b.2.trans m);refine⟨ds,[],p++[],[],p,[],a,?_,?_,?_,Below.frame j _,fun h=>by cases h⟩
 ·rw[f1,r];exact trodAll_mk1 (shut_bool hB _)
 ·rw[f2];exact yuU l j hp c fun x e=>by simpa using a.lt x (by simp[e])
 ·rw[f3,g];exact rfl
variable {b0:Nat}{T E:TypeId}{v:Value}
theorem pz{fits:TypeId->Bool}:∀{d:Nat} {e:TypeId} {count a n:Nat},rowAt P fits d e count a n=true->a<=count*P.cellsOf e
 |0,_,_,_,_,h=>by simp[rowAt]at h
 |d+1,e,count,a,n,h=>by
  unfold rowAt at h;by_cases b:P.cellsOf e=0
  ·simp[b]at h
  ·have g:=Nat.div_add_mod a (P.cellsOf e);have i:=Nat.mod_lt a (Nat.pos_of_ne_zero b);simp only[b,if_false,cH,aI,zE,beq_iff_eq]at h;rcases h with⟨⟨f,j⟩,_⟩|⟨f,_⟩
   ·have c:P.cellsOf e*(a/P.cellsOf e)<=P.cellsOf e*count:=jD _ (by omega);rw[Nat.mul_comm count];omega
   ·have c:P.cellsOf e*(a/P.cellsOf e+1)<=P.cellsOf e*count:=jD _ (by omega);rw[Nat.mul_add,Nat.mul_one]at c;rw[Nat.mul_comm count];omega
theorem xdB:∀{d:Nat} {e:TypeId} {count a:Nat} {u:TypeId} {n:Nat},liesAt P d e count a u n=true->a<=count*P.cellsOf e
 |0,_,_,_,_,_,h=>by simp[liesAt]at h
 |d+1,e,count,a,u,n,h=>by
  unfold liesAt at h;rw[cH]at h;rcases h with h|h
  ·exact pz h
  ·split at h
   ·exact xdB h
   ·cases h
theorem qz{a:Addr}{len cap:Nat}(d:P.underlying T=some (.slice E))(h:Value.okWide P W .any b0 T (.slice (some a) len cap)):
  a.spot=none/\∃cs R fz,W.heap[a.block]? = some (.cells cs R fz)/\a.off<=cs.size:=by
 simp only[Value.okWide,Cell.okWide,Cell.ok,d]at h;obtain⟨_,_,_,e,row,cells,b,f⟩:=h;refine⟨e,?_⟩;unfold World.shape? at b;split at b
 ·rename_i c elem fz g;simp only[Option.some.injEq,Prod.mk.injEq]at b;obtain⟨rfl,rfl⟩:=b;have i:=xdB f;have j:=Nat.div_mul_le_self c.size (P.cellsOf elem);exact⟨c,_,fz,g,by omega⟩
 ·cases b
theorem ok_slice(b:P.underlying T=some (.slice E))(h:Value.okWide P W .any b0 T v):v = .slice none 0 0∨∃a len cap,v = .slice (some a) len cap:=by
 simp only[Value.okWide,Cell.okWide,Cell.ok,b]at h;cases v with
 |slice a len cap=>
  cases a with
  |none=>
   left;cases len with
   |zero=>cases cap with
    |zero=>rfl|succ n=>simp at h
   |succ n=>simp at h
  |some a=>exact .inr ⟨a,len,cap,rfl⟩
 |_=>simp at h
theorem Jj{l r:List (DataW H)}:Rows.uptoBulkAll (l++r)=Rows.uptoBulkAll l+Rows.uptoBulkAll r:=by
 induction l with
 |nil=>simp[Rows.uptoBulkAll]|cons x l a=>simp only[List.cons_append,Rows.uptoBulkAll,a];omega
end
end
end Go.Proofs.YtopanhneegpgcaaGreatDoor
namespace Go.Proofs.YtopanhneegpgcaaGreatDoor.Am
open Go Go.RowKit Go.ChangeShapes Go.WideShapes Go.ChangeAt
def l9:(t:Ty)->den t->Nat
 |.s,x=>List.length x+1|.pr a c,x=>l9 a x.1+l9 c x.2|.un,_=>0|.sl e,x=>(cU (l9 e) x).sum+1|_,_=>1
def XL(q:TypeId->Ty->Bool)(c:TypeId->Nat):List Field->Nat->Ty->Bool
 |[],_,t=>match t with
  |.un=>true|_=>false
 |[f],b,t=>(q f.type t&&(aJ f.offset b&&aJ (c f.type) (l0 t)))||(match t with
  |.pr a .un=>q f.type a&&(aJ f.offset b&&aJ (c f.type) (l0 a))|_=>false)
 |f::g::fs,b,t=>match t with
  |.pr a r=>(q f.type a&&(aJ f.offset b&&aJ (c f.type) (l0 a)))&&XL q c (g::fs) (b+l0 a) r|_=>false
def Kj(P:Program):Nat->TypeId->Ty->Bool
 |0,_,_=>false|n+1,T,t=>match P.underlying T,t with
  |some (.int k),.i a=>(Zr k a).isSome|some .bool,.b=>true|some .string,.s=>true|some (.slice E),.sl e=>Kj P n E e&&(aJ (P.cellsOf E) (l0 e)&&Nat.blt 0 (l0 e))|some (.struct fs),t=>(aJ (P.cellsOf T) (l0 t) && !(one t))&&XL (Kj P n) P.cellsOf fs.toList 0 t|_,_=>false
section
variable {H:Type}{enc:TypeId×Value->H}{P:Program}{W:World}{sp:Nat->Bool}{S:Mem}
theorem YL:∀{k:IntKind} {n:Int},(Lit.int k n).wf=true->c6 k (Sf k n)=n:=fun {k n} h=>by rw[Po];cases k<;>simp[Lit.wf,IntKind.min,IntKind.max,IntKind.signed,IntKind.bits]at h<;>simp[IntKind.wrap,IntKind.signed,IntKind.bits]<;>omega
theorem xbV{a c:Ty}{cs:LV}{x:den a}{y:den c}(b:u7 a S (cs.take (l0 a)) x)(d:u7 c S (cs.drop (l0 a)) y):u7 (.pr a c) S cs (x,y):=
 ⟨_,_,(List.take_append_drop (l0 a) cs).symm,b,d⟩
theorem rz:u7 .un S ([]:LV) ():=rfl
theorem xbB{q:TypeId->Ty->Bool}{fuel:Nat}(hq:∀(T:TypeId) (t:Ty),q T t=true->∀cs d ps,DataW.trod enc P W 0 sp true fuel T cs=some (d,ps)->∃x:den t,u7 t S cs x/\l9 t x<=Rows.uptoBulk d){cs:LV}:∀(fs:List Field) (off:Nat) (t:Ty) (xs:List (DataW H×List MemPlace)),XL q P.cellsOf fs off t=true->cs.length=off+l0 t ->
   A2 (fun(f:Field) y=>DataW.trod enc P W 0 sp true fuel f.type ((cs.drop f.offset).take (P.cellsOf f.type))=some y) fs xs ->
   ∃x:den t,u7 t S (cs.drop off) x/\l9 t x<=Rows.uptoBulkAll (xs.map (·.1))
 |[],off,t,xs,h,k,l=>by
  cases t<;>simp only[XL]at h<;>try (cases h;done)
  cases l;refine⟨(),?_,bG _⟩;rw[eY (by rw[k];exact aL _)];exact rz
 |[f],off,t,xs,h,k,l=>by
  cases l with
  | @cons _ y _ _ n e=>
   cases e;simp only[XL,cH]at h;rcases h with h|h
   ·rw[aI,aI]at h;obtain⟨p,e,i⟩:=h;have e:=aB e;have i:=aB i;obtain⟨x,j,s⟩:=hq _ _ p _ _ _ n;refine⟨x,?_,by simp only[bF,eN,Rows.uptoBulkAll];omega⟩;rw[e,i,eM (by rw[bL];omega)]at j;exact j
   ·cases t with
    |pr a c=>
     cases c with
     |un=>rw[aI,aI]at h;obtain⟨p,e,i⟩:=h;have e:=aB e;have i:=aB i;obtain⟨x,j,s⟩:=hq _ _ p _ _ _ n;rw[e,i]at j;have k:cs.length=off+l0 a:=k;refine⟨(x,()),xbV j ?_,by simp only[bF,eN,Rows.uptoBulkAll];show l9 a x+0<=_;omega⟩;rw[eY (by rw[bL];omega)];exact rz
     |_=>simp at h
    |_=>simp at h
 |f::g::fs,off,t,xs,h,k,l=>by
  cases t with
  |pr a r=>
   simp only[XL]at h;rw[aI,aI,aI]at h;obtain⟨⟨n,e,i⟩,u⟩:=h;have e:=aB e;have i:=aB i;have k:cs.length=off+(l0 a+l0 r):=k;cases l with
   | @cons _ y _ w A B=>obtain⟨x,j,s⟩:=hq _ _ n _ _ _ A;obtain⟨z,C,D⟩:=xbB hq (g::fs) (off+l0 a) r w u (by omega) B;rw[e,i]at j;refine⟨(x,z),xbV j (by rw[fG];exact C),?_⟩;simp only[bF,Rows.uptoBulkAll];show l9 a x+l9 r z<=_;omega
  |_=>simp[XL]at h
theorem tz{c β:Type}{R:c->β->Prop}:∀{l:List c} {m:List β},l.length=m.length->(∀(i:Nat) (a:c) (b:β),l[i]? = some a->m[i]? = some b->R a b)->A2 R l m
 |[],[],_,_=>.nil|[],_::_,h,_=>by cases h
 |_::_,[],h,_=>by cases h
 |a::l,b::m,h,d=>.cons (d 0 a b rfl rfl) (tz (by simpa using h) fun i a b e f=>d (i+1) a b (by simpa using e) (by simpa using f))
theorem vn{e:Ty}:∀{xs:List (den e)} {cs ds:LV} {x:den e},@RL (den e) (Q9 e) S cs xs->u7 e S ds x->@RL (den e) (Q9 e) S (cs++ds) (xs++[x])
 |[],cs,ds,x,h,a=>by have h:cs=[]:=h;subst h;exact⟨ds,[],by simp,a,rfl⟩
 |y::xs,cs,ds,x,h,a=>by obtain⟨c,d,rfl,b,f⟩:=h;exact⟨c,d++ds,by simp,b,vn f a⟩
theorem BS{T E:TypeId}{e:Ty}{fuel:Nat}(Z:P.underlying T=some (.slice E))(U:P.cellsOf E=l0 e)(hz:0<l0 e)(hq:∀(m:Nat) (cs:LV) (d:DataW H) (ps:List MemPlace),DataW.trod enc P W 0 (fun _=>true) true m E cs=some (d,ps)->∃x:den e,u7 e (Re W) cs x/\l9 e x<=Rows.uptoBulk d){cs:LV}{d:DataW H}{ps:List MemPlace}(hd:DataW.trod enc P W 0 (fun _=>true) true fuel T cs=some (d,ps)):∃xs:List (den e),u7 (.sl e) (Re W) cs xs/\l9 (.sl e) xs<=Rows.uptoBulk d:=by
 rcases DataW.trod_slice Z hd with⟨rfl,t⟩|⟨a,len,z,f,rest,m,rfl,rfl,t,_,L,_,hel,r,u,_⟩
 ·cases t;exact⟨[],⟨_,rfl,[],.inl ⟨⟨none,rfl⟩,rfl,rfl⟩,rfl⟩,aL _⟩
 ·cases t;by_cases A:z=0
  ·subst A;obtain rfl:len=0:=by omega
   refine⟨[],⟨_,rfl,[],.inl ⟨⟨some a,rfl⟩,rfl,rfl⟩,rfl⟩,?_⟩;show 0+1<=_;simp only[Rows.uptoBulk];omega
  have B:∃l,W.cells? 0 a (P.cellsOf E)=some l:=by
   by_cases M:len=0
   ·subst M;obtain⟨V,N⟩:=u rfl;have w:=N 0 (by omega);rw[aH (by omega:0<rest.length)]at w;obtain⟨l,g,_⟩:=fM.1 w;rw[show a.add ((0+0)*P.cellsOf E)=a by simp[Addr.add]]at g;exact⟨l,g⟩
   ·have w:=r 0 (by omega);rw[aH (by omega:0<f.length)]at w;obtain⟨l,g,_⟩:=fM.1 w;rw[show a.add (0*P.cellsOf E)=a by simp[Addr.add]]at g;exact⟨l,g⟩
  obtain⟨l,g⟩:=B;obtain⟨_,C,p⟩:=World.cells?_some g;have h:=p 0 (by omega);rw[show a.add 0=a by simp[Addr.add],aH (by omega:0<l.length)]at h;obtain⟨N',b,spot⟩:=a;obtain⟨cs,R,D,J,O,ho⟩:∃cs R D,W.heap[N']? = some (.cells cs R D)/\spot=none/\b<=cs.size:=by
   unfold World.cell? at h
   dsimp only at h
   split at h
   ·rename_i c R D J;cases spot with
    |some s=>simp at h|none=>rw[zI (by simp)]at h;have:=(Array.getElem?_eq_some_iff.1 h).1;exact⟨c,R,D,J,rfl,Nat.le_of_lt this⟩
   ·cases h
  subst O;have ad:∀j,(⟨N',b,none⟩:Addr).add j=⟨N',b+j,none⟩:=fun j=>by simp[Addr.add]
  have each:∀i,i<len->∃y x,f[i]? = some y/\u7 e (Re W) (piece cs.toList (b+i*l0 e) (l0 e)) x/\l9 e x<=Rows.uptoBulk y.1/\b+(i+1)*l0 e<=cs.toList.length:=fun i hi=>by
   have K:=r i hi;obtain⟨y,X⟩:∃y,f[i]? = some y:=⟨_,aH (by omega)⟩;rw[X]at K;obtain⟨l,g,K⟩:=fM.1 K;obtain⟨_,C,p⟩:=World.cells?_some g;obtain⟨x,hx,Q⟩:=hq m l y.1 y.2 K;rw[U,ad]at p;rw[U]at C;have n:∀j,j<l0 e->cs.toList[b+i*l0 e+j]? = l[j]?:=fun j F=>by have:=p j F;rw[show(⟨N',b+i*l0 e,none⟩:Addr).add j=⟨N',b+i*l0 e+j,none⟩ by simp[Addr.add]]at this;simp only[World.cell?,J,iL,zI (show ¬(false=true) by decide)]at this;simpa using this
   have G:b+(i+1)*l0 e<=cs.toList.length:=by have q:=n (l0 e-1) (by omega);rw[aH (by omega:l0 e-1<l.length)]at q;have:=(aC.1 q).1;rw[cA];omega
   refine⟨y,x,X,?_,Q,G⟩;have:piece cs.toList (b+i*l0 e) (l0 e)=l:=by
    apply bN;intro j;rw[P9,dE];by_cases F:j<l0 e
    ·rw[zJ F,bU];exact n j F
    ·rw[zI F,cB (by omega)]
   rw[this];exact hx
  have key:∀k,k<=len->∃xs:List (den e),xs.length=k/\@RL (den e) (Q9 e) (Re W) (piece cs.toList b (k*l0 e)) xs/\(cU (l9 e) xs).sum<=Rows.uptoBulkAll ((f.take k).map (·.1)):=by
   intro k;induction k with
   |zero=>intro _;exact⟨[],rfl,by simp[piece,RL],bG _⟩|succ k ih=>
    intro hk;obtain⟨xs,q,t,Y⟩:=ih (by omega);obtain⟨y,x,V,N,w,_⟩:=each k (by omega);refine⟨xs++[x],by simp[q],?_,?_⟩
    ·have e2:piece cs.toList b ((k+1)*l0 e)=piece cs.toList b (k*l0 e)++piece cs.toList (b+k*l0 e) (l0 e):=by rw[P9,P9,P9,cA,fA,List.take_add,fG]
     rw[e2];exact vn t N
    ·rw[jM,V];simp only[jH,cC,bF,eN,List.sum_append,iR,List.sum_nil,Jj,Rows.uptoBulkAll];omega
  obtain⟨xs,q,t,Y⟩:=key len (aL _);have I:b+len*l0 e<=cs.toList.length:=by
   rcases eZ len with B|B
   ·subst B;rw[iE];omega
   ·obtain⟨_,_,_,_,_,h4⟩:=each (len-1) (by omega)
    rwa[gK B]at h4
  refine⟨xs,⟨_,rfl,piece cs.toList b (len*l0 e),?_,t⟩,?_⟩
  ·right;refine⟨N',b,z,cs.toList,R,D,?_,by rw[q];exact L,by simpa[Re]using J,?_,?_⟩
   ·rw[q]
   ·rw[q];show _+_*(Q9 e).sz<=_;rw[gd];exact I
   ·rw[q];show piece _ _ (_*(Q9 e).sz)=_;rw[gd]
  ·rw[eM (by omega)]at Y;show(cU (l9 e) xs).sum+1<=_;simp only[Rows.uptoBulk];omega
theorem tX:∀(n:Nat) (T:TypeId) (t:Ty),Kj P n T t=true->∀(fuel:Nat) (cs:LV) (d:DataW H) (ps:List MemPlace),DataW.trod enc P W 0 (fun _=>true) true fuel T cs=some (d,ps)->∃x:den t,u7 t (Re W) cs x/\l9 t x<=Rows.uptoBulk d
 |0,_,_,h,_,_,_,_,_=>by cases h
 |n+1,T,t,h,fuel,cs,d,ps,c=>by
  unfold Kj at h;split at h
  ·rename_i k J a;obtain⟨r,_⟩:=Option.isSome_iff_exists.1 h;obtain rfl:=r.down;obtain⟨m,rfl,g,u⟩:=DataW.trod_int a c;cases g;exact⟨Sf _ m,(by show [Value.int _ m]=[.int _ (c6 _ (Sf _ m))];rw[YL u]),aL 1⟩
  ·rename_i a;obtain⟨b,rfl,g⟩:=DataW.trod_bool a c;cases g;exact⟨b,rfl,aL 1⟩
  ·rename_i a;obtain⟨s,rfl,g,_⟩:=DataW.trod_string a c;cases g;exact⟨s.data.toList,(by show [Value.string s]=[str s.data.toList];simp[str]),aL _⟩
  ·rename_i E e a;rw[aI,aI]at h;obtain⟨j,l,q⟩:=h;exact BS a (aB l) (by rw[eo]at q;simpa using q) (fun m cs d ps c=>tX n E e j m cs d ps c) c
  ·rename_i fs a;rw[aI,aI]at h;obtain⟨⟨j,_⟩,l⟩:=h;have j:=aB j;obtain⟨w,fuel,rfl,g,z,p,A⟩:=DataW.trod_struct a c;cases g;obtain⟨x,B,K⟩:=xbB (S:=Re W) (fuel:=fuel) (fun C D F cs d ps=>tX n C D F fuel cs d ps) fs.toList 0 _ w l (by rw[z,j];omega) (tz (by simp[p]) fun i f y G I=>(A i f (by simpa using G)).trans I);exact⟨x,by simpa using B,by simp only[Rows.uptoBulk];omega⟩
  ·cases h
variable {b0:Nat}{T E:TypeId}{v:Value}
theorem uz{n:Nat}{e:Ty}(D:P.underlying T=some (.slice E))(V:Kj P n E e=true)(M:P.cellsOf E=l0 e)(hz:0<l0 e)(h:Value.okWide P W .any b0 T v){d:DataW H}{ps:List MemPlace}(X:DataW.Trod enc P W 0 (fun _=>true) true T v d ps):∃xs:List (den e),@x8 (den e) (Q9 e) (Re W) v xs/\l9 (.sl e) xs<=Rows.uptoBulk d:=by
 obtain⟨N,O⟩:=X;have Y:=ok_slice D h;have p:v.cells.toList=[v]:=by rcases Y with rfl|⟨a,len,r,rfl⟩<;>rfl
 rw[p]at O;rcases DataW.trod_slice D O with⟨c,q⟩|⟨a,len,r,f,rest,m,rfl,c,q,_,F,_,Z,s,_,_⟩
 ·simp only[List.cons.injEq,and_true]at c;subst c;cases q;exact⟨[],⟨[],.inl ⟨⟨none,rfl⟩,rfl,rfl⟩,rfl⟩,aL _⟩
 ·simp only[List.cons.injEq,and_true]at c;subst c;cases q;obtain⟨t,g,R,fz,G,ho⟩:=qz D h;obtain⟨N',b,spot⟩:=a
  dsimp only at t G ho
  subst t;have ad:∀j,(⟨N',b,none⟩:Addr).add j=⟨N',b+j,none⟩:=fun j=>by simp[Addr.add]
  have each:∀i,i<len->∃y x,f[i]? = some y/\u7 e (Re W) (piece g.toList (b+i*l0 e) (l0 e)) x/\l9 e x<=Rows.uptoBulk y.1/\b+(i+1)*l0 e<=g.toList.length:=fun i hi=>by
   have B:=s i hi;obtain⟨y,Q⟩:∃y,f[i]? = some y:=⟨_,aH (by omega)⟩;rw[Q]at B;obtain⟨C,I,B⟩:=fM.1 B;obtain⟨_,J,u⟩:=World.cells?_some I;obtain⟨x,hx,K⟩:=tX n E e V m C y.1 y.2 B;rw[M,ad]at u;rw[M]at J;have l:∀j,j<l0 e->g.toList[b+i*l0 e+j]? = C[j]?:=fun j w=>by have:=u j w;rw[show(⟨N',b+i*l0 e,none⟩:Addr).add j=⟨N',b+i*l0 e+j,none⟩ by simp[Addr.add]]at this;simp only[World.cell?,G,iL,zI (show ¬(false=true) by decide)]at this;simpa using this
   have z:b+(i+1)*l0 e<=g.toList.length:=by have c:=l (l0 e-1) (by omega);rw[aH (by omega:l0 e-1<C.length)]at c;have:=(aC.1 c).1;rw[cA];omega
   refine⟨y,x,Q,?_,K,z⟩;have:piece g.toList (b+i*l0 e) (l0 e)=C:=by
    apply bN;intro j;rw[P9,dE];by_cases w:j<l0 e
    ·rw[zJ w,bU];exact l j w
    ·rw[zI w,cB (by omega)]
   rw[this];exact hx
  have key:∀k,k<=len->∃xs:List (den e),xs.length=k/\@RL (den e) (Q9 e) (Re W) (piece g.toList b (k*l0 e)) xs/\(cU (l9 e) xs).sum<=Rows.uptoBulkAll ((f.take k).map (·.1)):=by
   intro k;induction k with
   |zero=>intro _;exact⟨[],rfl,by simp[piece,RL],bG _⟩|succ k ih=>
    intro hk;obtain⟨xs,c,q,U⟩:=ih (by omega);obtain⟨y,x,g1,g2,g3,_⟩:=each k (by omega);refine⟨xs++[x],by simp[c],?_,?_⟩
    ·have e2:piece g.toList b ((k+1)*l0 e)=piece g.toList b (k*l0 e)++piece g.toList (b+k*l0 e) (l0 e):=by rw[P9,P9,P9,cA,fA,List.take_add,fG]
     rw[e2];exact vn q g2
    ·rw[jM,g1];simp only[jH,cC,bF,eN,List.sum_append,iR,List.sum_nil,Jj,Rows.uptoBulkAll];omega
  obtain⟨xs,c,q,U⟩:=key len (aL _);have A:b+len*l0 e<=g.toList.length:=by
   rcases eZ len with L|L
   ·subst L;rw[iE];omega
   ·obtain⟨_,_,_,_,_,h4⟩:=each (len-1) (by omega)
    rwa[gK L]at h4
  refine⟨xs,⟨piece g.toList b (len*l0 e),?_,q⟩,?_⟩
  ·right;refine⟨N',b,r,g.toList,R,fz,?_,by rw[c];exact F,by simpa[Re]using G,?_,?_⟩
   ·rw[c]
   ·rw[c];show _+_*(Q9 e).sz<=_;rw[gd];exact A
   ·rw[c];show piece _ _ (_*(Q9 e).sz)=_;rw[gd]
  ·rw[eM (by omega)]at U;show(cU (l9 e) xs).sum+1<=_;simp only[Rows.uptoBulk];omega
def vz(P:Program)(T:TypeId)(t:Ty):Bool:=match P.underlying T,t with
 |some (.slice E),.sl e=>Kj P 8 E e&&(aJ (P.cellsOf E) (l0 e)&&Nat.blt 0 (l0 e))|_,t=>Kj P 8 T t
theorem AF{t:Ty}(a:vz P T t=true)(h:Value.okWide P W .any b0 T v){d:DataW H}{ps:List MemPlace}(l:DataW.Trod enc P W 0 (fun _=>true) true T v d ps):∃x:den t,a7 t (Re W) v x/\l9 t x<=Rows.uptoBulk d:=by
 unfold vz at a;split at a
 ·rename_i E e c;rw[aI,aI]at a;obtain⟨n,p,m⟩:=a;obtain⟨q,r,u⟩:=uz c n (aB p) (by rw[eo]at m;simpa using m) h l;exact⟨q,⟨v,rfl,r⟩,u⟩
 ·obtain⟨g,w⟩:=l;obtain⟨x,f,y⟩:=tX 8 T _ a g _ _ _ w;refine⟨x,?_,y⟩;unfold a7;unfold Kj at a;split at a
  ·rename_i c;have j:v.cells.toList=[v]:=by simp only[Value.okWide,Cell.okWide,Cell.ok]at h;cases v<;>simp_all<;>rfl
   rw[j]at f;rw[zJ (show one (.i _)=true from rfl)];exact f
  ·rename_i c;have j:v.cells.toList=[v]:=by simp only[Value.okWide,Cell.okWide,Cell.ok]at h;cases v<;>simp_all<;>rfl
   rw[j]at f;rw[zJ (show one .b=true from rfl)];exact f
  ·rename_i c;have j:v.cells.toList=[v]:=by simp only[Value.okWide,Cell.okWide,Cell.ok]at h;cases v<;>simp_all<;>rfl
   rw[j]at f;rw[zJ (show one .s=true from rfl)];exact f
  ·rename_i c k;exact(k _ _ c rfl).elim
  ·rename_i fs c _;rw[aI,aI]at a;simp only[Value.okWide,c]at h;obtain⟨z,rfl,_,_⟩:=h;rw[zI (by simpa using a.1.2)];exact⟨z.toList,by simp,f⟩
  ·cases a
def iu:Ty->Bool
 |.un=>false|.pr a c=>iu a||iu c|_=>true
theorem xeI:∀{e:Ty},iu e=true->∀x:den e,1<=l9 e x
 |.i _,_,_=>aL 1|.b,_,_=>aL 1|.s,_,_=>Nat.le_add_left 1 _|.er,_,_=>aL 1|.sl _,_,_=>Nat.le_add_left 1 _|.mp _ _,_,_=>aL 1|.pr a c,h,x=>by
  show 1<=l9 a x.1+l9 c x.2;have h:(iu a||iu c)=true:=h;rw[cH]at h;rcases h with h|h
  ·have:=xeI h x.1;omega
  ·have:=xeI h x.2;omega
theorem XN{e:Ty}(a:iu e=true):∀xs:List (den e),xs.length+1<=l9 (.sl e) xs
 |[]=>aL 1|x::xs=>by have b:=xeI a x;have c:xs.length+1<=(cU (l9 e) xs).sum+1:=XN a xs;show(x::xs).length+1<=(cU (l9 e) (x::xs)).sum+1;simp only[aQ,bF,iR];omega
theorem BF{t:Ty}{S:Mem}{E:List EI}{v:Value}{x:den t}(h:a7 t S v x):VR S E (W6 t x) v:=Uo (l:=[t]) h
end
end Go.Proofs.YtopanhneegpgcaaGreatDoor.Am
namespace Go.Proofs.YtopanhneegpgcaaGreatDoor.Am
open Go Go.RowKit
theorem Ng{e:Ty}{x:den e}:∀{xs:List (den e)},x∈xs->l9 e x<=l9 (.sl e) xs
 |y::a,h=>by
  show _<=(cU (l9 e) (y::a)).sum+1;simp only[bF,iR];rcases aN.1 h with rfl|h
  ·omega
  ·have:l9 e x<=(cU (l9 e) a).sum+1:=Ng h;omega
abbrev Zu:Ty:=.pr (.i .i64) (.pr (.i .i64) (.pr .s (.pr .s (.pr .b (.pr (.pr .s (.sl .s)) (.pr .s (.pr .s (.pr (.sl .s) (.pr (.sl .s) (.pr .b (.pr .b (.pr .b .b))))))))))))
theorem CF{o:Yu}{k:Nat}(h:l9 Zu o<=k)(hk:k<=1048576):kz o:=by have e:l9 Zu o=1+(1+(o.2.2.1.length+1+(o.2.2.2.1.length+1+(1+((o.2.2.2.2.2.1.1.length+1+l9 (.sl .s) o.2.2.2.2.2.1.2)+(o.2.2.2.2.2.2.1.length+1+(o.2.2.2.2.2.2.2.1.length+1+(l9 (.sl .s) o.2.2.2.2.2.2.2.2.1+(l9 (.sl .s) o.2.2.2.2.2.2.2.2.2.1+(1+(1+(1+1)))))))))))):=rfl;have a:o.2.2.2.2.2.1.2.length+1<=l9 (.sl .s) o.2.2.2.2.2.1.2:=XN (e:=.s) rfl _;have b:o.2.2.2.2.2.2.2.2.1.length+1<=l9 (.sl .s) o.2.2.2.2.2.2.2.2.1:=XN (e:=.s) rfl _;have c:o.2.2.2.2.2.2.2.2.2.1.length+1<=l9 (.sl .s) o.2.2.2.2.2.2.2.2.2.1:=XN (e:=.s) rfl _;rw[e]at h;exact⟨by omega,by omega,by omega,by omega⟩
theorem ZL{v:List Yu}{k:Nat}(h:l9 (.sl Zu) v<=k)(hk:k<=1048576):(∀o∈v,kz o)/\v.length<=1048576:=by have b:v.length+1<=l9 (.sl Zu) v:=XN (e:=Zu) rfl v;exact⟨fun o a=>CF (bB (Ng (e:=Zu) a) h) hk,by omega⟩
abbrev s0:PS:=(([]:UM),([]:GM),([]:RM),([]:CM),([]:MM))
theorem dM:dL X'=some s0:=rfl
theorem oI(l:kH)(x:L8)(p:l.length<=1048576):Zm X' l x=some (l.contains x):=by
 have key:∀(f i:Nat),f+i=l.length->∀g,f<g->X9 (WN X' l x) g (i:Int)=some (bif(l.drop i).contains x then .inl true else .inr ()):=by
  intro f;induction f with
  |zero=>
   intro i h g j;obtain⟨g,rfl⟩:∃m,g=m+1:=⟨g-1,by omega⟩;have h:i=l.length:=by omega
   subst h;rw[bT];refine Ba ?_;unfold WN;rw[l6 (by omega)];rfl
  |succ f k=>
   intro i h g j;obtain⟨g,rfl⟩:∃m,g=m+1:=⟨g-1,by omega⟩;have c:i<l.length:=by omega
   have d:WN X' l x (i:Int)=bif l[i]==x then some (.inr (.inl true))else some (.inl ((i+1:Nat):Int)):=by unfold WN;rw[X5 (by omega),Y6 rfl c,p',Y7 (by omega)]
   rw[bA c,List.contains_cons];cases a:l[i]==x with
   |true=>rw[a]at d;rw[Ba (b:=.inl true) d,show(x==l[i])=true by rw[beq_iff_eq]at a ⊢;exact a.symm];rfl|false=>rw[a]at d;rw[sb (s':=((i+1:Nat):Int)) d,k (i+1) (by omega) g (by omega),show(x==l[i])=false by rw[beq_eq_false_iff_ne]at a ⊢;exact fun e=>a e.symm,Bool.false_or]
 have n:=key l.length 0 (by omega) FU (by unfold FU;omega);unfold Zm;rw[show iter (WN X' l x) (0:Int)=_ from n,p',bQ];cases l.contains x<;>rfl
theorem av{a:Type}{l:List a}{i:Nat}(h:i<l.length):o6 (decide ((0:Int)<=(i:Int))&&decide ((i:Int)<(l.length:Int)))=some ():=by rw[zA (show(0:Int)<=(i:Int) by omega),zA (show(i:Int)<(l.length:Int) by omega)];rfl
def uf(b:Bool):L8:=bif b then [49]else [48]
def W7(l:kH):kH:=db l.length::l
abbrev u6:Type:=L8×kH×kH×kH×Int
def DF(c:Cl):kH:=[c.2.1,uf c.2.2.2.2.1++uf c.2.2.2.2.2.1++uf c.2.2.2.2.2.2.1++uf c.2.2.2.2.2.2.2]++(W7 c.2.2.1++W7 c.2.2.2.1)
def cv(g:u6):kH:=[db g.2.2.2.2.toNat]++(W7 g.2.1++(W7 g.2.2.1++W7 g.2.2.2.1))
def txU(u:Us):kH:=[u.2.1,uf u.2.2.1,db u.2.2.2.toNat]
def y9(c:Cl):L8×L8:=([99,108,105,101,110,116,47]++c.1,pa (DF c))
def ra(g:u6):L8×L8:=([103,114,111,117,112,47]++g.1,pa (cv g))
def sa(m:L8×L8):L8×L8:=([109,97,121,47]++m.1++[124]++m.2,pa [])
def Ja(r:Ro):L8×L8:=([114,111,108,101,47]++r.1,pa (W7 r.2))
def Ka(u:Us):L8×L8:=([117,115,101,114,47]++u.1,pa (txU u))
def Lj(s:PS):kG:=(U1 s).map y9++((n1 s).map ra++((Y1 s).map sa++((X1 s).map Ja++(n3 s).map Ka)))
def pI(s:PS):kG:=Su (Lj s)
theorem CS(b:Bool):tL X' b=some (uf b):=by cases b<;>rfl
theorem EF(b:Bool):(uf b).length=1:=by cases b<;>rfl
theorem YN{l:kH}(h:l.length<=1024):CE X' l=some (W7 l):=by unfold CE;rw[xfL _ (by omega),p',O7 (by simp;omega),p'];rfl
theorem uX{n:Nat}(h:n<=1099511627777):(db n).length<=1024:=bB (tV 13 n (by decide) (by omega)) (by decide)
theorem kM{l:kH}(h:l.length<=1000)(b:∀t∈l,t.length<=1024):(W7 l).length<=1001/\∀t∈W7 l,t.length<=1024:=by
 unfold W7;refine⟨by simp;omega,fun t a=>?_⟩;rcases aN.1 a with rfl|a
 ·exact uX (by omega)
 ·exact b t a
theorem Pq{ls:List kH}(h:∀l∈ls,l.length<=2000)(A:ls.length<=8):GR X' ls=some ls.flatten:=by
 have t:∀(f i a:Nat),f+i=ls.length->a<=2000*i->∀g,f<g->∃b:Nat,b<=16000/\X9 (fun x:Int×Int=>ER X' ls x.1 x.2) g ((a:Int),(i:Int))=some (b:Int):=by
  intro f;induction f with
  |zero=>intro i a j k g n;obtain⟨g,rfl⟩:∃m,g=m+1:=⟨g-1,by omega⟩;refine⟨a,by omega,Ba ?_⟩;unfold ER;simp only;rw[l6 (by omega)]
  |succ f p=>
   intro i a j k g n;obtain⟨g,rfl⟩:∃m,g=m+1:=⟨g-1,by omega⟩;have c:i<ls.length:=by omega
   have q:=h _ (bC c);obtain⟨b,r,e⟩:=p (i+1) (a+ls[i].length) (by omega) (by omega) g (by omega);refine⟨b,r,(sb ?_).trans e⟩;unfold ER;simp only;rw[X5 (by omega),Y6 rfl c,p',show P0 ((a:Int)+(ls[i].length:Int))=((a+ls[i].length:Nat):Int) by rw[oe (by omega) (by omega)];omega,l6 (by omega),Y7 (by omega)]
 have u:∀(f i:Nat) (d:kH),f+i=ls.length->d.length<=2000*i->∀g,f<g->X9 (fun x:Int×kH=>FR X' ls x.1 x.2) g ((i:Int),d)=some (d++(ls.drop i).flatten):=by
  intro f;induction f with
  |zero=>
   intro i d j k g n;obtain⟨g,rfl⟩:∃m,g=m+1:=⟨g-1,by omega⟩;have j:i=ls.length:=by omega
   subst j;rw[bT,gQ,bJ];refine Ba ?_;unfold FR;simp only;rw[l6 (by omega)]
  |succ f p=>
   intro i d j k g n;obtain⟨g,rfl⟩:∃m,g=m+1:=⟨g-1,by omega⟩;have c:i<ls.length:=by omega
   have q:=h _ (bC c);rw[bA c,fB,<-aU,<-p (i+1) (d++ls[i]) (by omega) (by rw[aD];omega) g (by omega)];refine sb ?_;unfold FR;simp only;rw[X5 (by omega),Y6 rfl c,p',O7 (by omega),p',Y7 (by omega)]
 obtain⟨b,r,w⟩:=t ls.length 0 0 (by omega) (by omega) FU (by unfold FU;omega);have y:=u ls.length 0 [] (by omega) (by simp) FU (by unfold FU;omega);unfold GR;rw[show iter (fun x:Int×Int=>ER X' ls x.1 x.2) ((0:Int),(0:Int))=_ from w,p'];have z:WK .s (b:Int)=some ([]:kH):=by unfold WK;rw[zA (show(0:Int)<=(b:Int) by omega),zA (show(b:Int)<=1048576 by omega)];rfl
 refine Eq.trans (VD z) ?_;rw[show iter (fun x:Int×kH=>FR X' ls x.1 x.2) ((0:Int),([]:kH))=_ from y,p'];rfl
theorem yn{s:L8}(h:Fc s=true):s.length<=1024:=by
 by_cases d:s.length<=1048576
 ·rw[FH s d,aI,aI]at h;have:=zD h.1.2;omega
 ·exfalso;have b:=qj s;rw[h]at b;unfold py at b;have c:(s != ([]:L8))=true:=by
   cases s with
   |nil=>exact absurd (bG _) d|cons a l=>rfl
  rw[c,zF,l6 (by omega)]at b;cases b
theorem zn{s:L8}(h:Gy s=true):s.length<=1024:=by rw[EH,aI,aI]at h;have:=zD h.1.2;omega
theorem qI{n:Nat}{may:L8->Bool}{l:kH}(h:oh n may l=true):(∀t∈l,may t=true)/\j8 l/\l.length<=n:=by unfold oh at h;simp only[aI,zE,bR]at h;exact⟨h.1.1,ypE.1 h.1.2,h.2⟩
theorem yuQ{c:Cl}(h:Ha c=true):U6 c.1=true/\c.2.1.length<=64/\oh 16 Fc c.2.2.1=true/\oh 16 Gy c.2.2.2.1=true:=by
 unfold Ha at h;simp only[aI,cH,zE,beq_iff_eq]at h;obtain⟨⟨⟨b,a⟩,d⟩,e⟩:=h;refine⟨b,?_,d,e⟩;rcases a with a|a
 ·rw[a];exact bG _
 ·omega
theorem wz{c:Cl}(h:Ha c=true):(DF c).length<=1024/\(∀t∈DF c,t.length<=1024)/\(W7 c.2.2.1).length<=2000/\(W7 c.2.2.2.1).length<=2000:=by
 obtain⟨_,j,b,d⟩:=yuQ h;obtain⟨e,_,k⟩:=qI b;obtain⟨f,_,m⟩:=qI d;have l1:=kM (l:=c.2.2.1) (by omega) fun t a=>yn (e t a);have l2:=kM (l:=c.2.2.2.1) (by omega) fun t a=>zn (f t a);have g:(W7 c.2.2.1).length=c.2.2.1.length+1:=rfl;have i:(W7 c.2.2.2.1).length=c.2.2.2.1.length+1:=rfl;refine⟨?_,fun t a=>?_,by omega,by omega⟩
 ·unfold DF;simp only[aD,aQ,cN,g,i];omega
 ·unfold DF at a;rcases bH.1 a with a|a
  ·rcases aN.1 a with rfl|a
   ·omega
   ·rw[aZ.1 a];simp only[aD,EF];omega
  ·rcases bH.1 a with a|a
   ·exact l1.2 t a
   ·exact l2.2 t a
def ES(g:u6):Prop:=g.1.length<=24/\(g.2.1.length<=64/\∀t∈g.2.1,t.length<=24)/\(g.2.2.1.length<=64/\∀t∈g.2.2.1,t.length<=24)/\(g.2.2.2.1.length<=64/\∀t∈g.2.2.2.1,t.length<=24)/\1<=g.2.2.2.2/\g.2.2.2.2<=1099511627776
theorem M0.Og{B:Int}{s:PS}(h:M0 B s){i:Nat}(e:i<3){x:L8}(b:k9 i s x=true):U6 x=true:=by
 match i,e with
 |0,_=>obtain⟨v,a⟩:=kS.n0.1 (show J' j' s.1 x=true from b);exact(h.us x v a).2.1
 |1,_=>obtain⟨v,a⟩:=kS.n0.1 (show J' j' s.2.1 x=true from b);exact(h.gn x v a).1
 |2,_=>obtain⟨v,a⟩:=kS.n0.1 (show J' j' s.2.2.1 x=true from b);have c:=h.ro x v a;have d:=Z3 c.2;rw[c.1]at d;exact d
theorem rI{B:Int}(hB:B<=1099511627776){s:PS}(h:M0 B s):∀g∈n1 s,ES g:=fun g d=>by obtain⟨p,hp,rfl⟩:=aY.1 d;have b:=h.gn p.1 p.2 hp;have c:=fun i e=>(h.gl p.1 p.2 hp i e).2;refine⟨ph b.1,⟨h.Z4 hp (i:=0) (by decide),fun t a=>ph (h.Og (i:=0) (by decide) (c 0 (by decide) t a))⟩,⟨h.Z4 hp (i:=1) (by decide),fun t a=>ph (h.Og (i:=1) (by decide) (c 1 (by decide) t a))⟩,⟨h.Z4 hp (i:=2) (by decide),fun t a=>ph (h.Og (i:=2) (by decide) (c 2 (by decide) t a))⟩,b.2.1,?_⟩;have:=b.2.2;show p.2.2<=_;omega
theorem xz{g:u6}(h:ES g):(cv g).length<=1024/\(∀t∈cv g,t.length<=1024):=by
 obtain⟨_,⟨k,b⟩,⟨m,c⟩,⟨n,d⟩,d1,d2⟩:=h;have l1:=kM (l:=g.2.1) (by omega) fun t a=>bB (b t a) (by decide);have l2:=kM (l:=g.2.2.1) (by omega) fun t a=>bB (c t a) (by decide);have e:=kM (l:=g.2.2.2.1) (by omega) fun t a=>bB (d t a) (by decide);have f:(W7 g.2.1).length=g.2.1.length+1:=rfl;have i:(W7 g.2.2.1).length=g.2.2.1.length+1:=rfl;have j:(W7 g.2.2.2.1).length=g.2.2.2.1.length+1:=rfl;refine⟨?_,fun t a=>?_⟩
 ·unfold cv;simp only[aD,aQ,cN,f,i,j];omega
 ·unfold cv at a;rcases bH.1 a with a|a
  ·rw[aZ.1 a];exact uX (by omega)
  ·rcases bH.1 a with a|a
   ·exact l1.2 t a
   ·rcases bH.1 a with a|a
    ·exact l2.2 t a
    ·exact e.2 t a
theorem xdS{k:L8}{ts:kH}{a:kG}(h:ts.length<=1024/\∀t∈ts,t.length<=1024)(b:a.length<=1048576):ON X' k ts a=some (a++[(k,pa ts)]):=by unfold ON;rw[ypW h.2 h.1,p',O7 (by simp;omega),p']
theorem vX{γ:Type}{es:List γ}{s:PS}{f:γ->L8×L8}{body:Int×UM×GM×RM×CM×MM×List γ×kG->Option ((Int×UM×GM×RM×CM×MM×List γ×kG)⊕(UM×GM×RM×CM×MM×kG))}(n:es.length<=1024) (d:∀(i:Nat) (c:i<es.length) (a:kG),a.length<=8192->body ((i:Int),s.1,s.2.1,s.2.2.1,s.2.2.2.1,s.2.2.2.2,es,a)=some (.inl (((i+1:Nat):Int),s.1,s.2.1,s.2.2.1,s.2.2.2.1,s.2.2.2.2,es,a++[f es[i]]))) (e:∀a,body ((es.length:Int),s.1,s.2.1,s.2.2.1,s.2.2.2.1,s.2.2.2.2,es,a)=some (.inr (s.1,s.2.1,s.2.2.1,s.2.2.2.1,s.2.2.2.2,a))) (a:kG) (h:a.length<=4096):iter body ((0:Int),s.1,s.2.1,s.2.2.1,s.2.2.2.1,s.2.2.2.2,es,a)=some (s.1,s.2.1,s.2.2.1,s.2.2.2.1,s.2.2.2.2,a++es.map f):=by
 have key:∀(k i:Nat) (a:kG),k+i=es.length->a.length+k<=8192->∀g,k<g->X9 body g ((i:Int),s.1,s.2.1,s.2.2.1,s.2.2.2.1,s.2.2.2.2,es,a)=some (s.1,s.2.1,s.2.2.1,s.2.2.2.1,s.2.2.2.2,a++(es.drop i).map f):=by
  intro k;induction k with
  |zero=>
   intro i a c _ g j;obtain⟨g,rfl⟩:∃m,g=m+1:=⟨g-1,by omega⟩;have c:i=es.length:=by omega
   subst c;rw[Ba (e a),bT,eN,bJ]
  |succ k l=>
   intro i a c h g j;obtain⟨g,rfl⟩:∃m,g=m+1:=⟨g-1,by omega⟩;have b:i<es.length:=by omega
   rw[sb (d i b a (by omega)),l (i+1) _ (by omega) (by simp;omega) g (by omega),bA b,bF,aU];rfl
 have:=key es.length 0 a (by omega) (by omega) FU (by unfold FU;omega);rw[bQ]at this;exact this
theorem Qq(a:L8){n:L8}(b:a.length<=64)(h:n.length<=24):X0 a n=some (a++n):=O7 (by omega)
theorem Rq{B:Int}{s:PS}(h:M0 B s):∀r∈X1 s,Gq r=true:=fun r a=>by obtain⟨p,hp,rfl⟩:=aY.1 a;exact(h.ro p.1 p.2 hp).2
theorem Sq{B:Int}{s:PS}(h:M0 B s):∀c∈U1 s,Ha c=true:=fun c a=>by obtain⟨p,hp,rfl⟩:=aY.1 a;exact(h.cl p.1 p.2 hp).2
theorem Tq{B:Int}{s:PS}(h:M0 B s):∀u∈n3 s,U6 u.1=true/\Fc u.2.1=true/\1<=u.2.2.2/\u.2.2.2<=B:=fun u a=>by obtain⟨p,hp,rfl⟩:=aY.1 a;have:=h.us p.1 p.2 hp;have e:p.2.1=p.1:=this.1;exact⟨by rw[e];exact this.2.1,this.2.2⟩
theorem IS{p:L8}(h:ia p=true):p.length<=26:=by obtain⟨c,l,rfl,_,a⟩:=GH h;have:=ph a;simp only[aQ];omega
theorem wX{B:Int}{s:PS}(h:M0 B s):∀m∈Y1 s,ia m.1=true/\ia m.2=true:=fun m a=>by obtain⟨p,hp,rfl⟩:=aY.1 a;have:=h.ma p hp;exact⟨this.1,this.2.1⟩
theorem xbD:∀{l:kH},l.Nodup->Cc l=true
 |[],_=>rfl|x::l,h=>by have a:=List.nodup_cons.1 h;unfold Cc;rw[xbD a.2,Bool.and_true,Bool.not_eq_true',fV];intro y b;simp only[beq_iff_eq];exact fun e=>a.1 (by rw[<-e];exact b)
theorem yz{p:L8}(h:ia p=true):(124:UInt8)∉p:=by
 obtain⟨c,l,rfl,b,a⟩:=GH h;rw[Iy,aI,aI,bR]at a;intro hm;rcases aN.1 hm with e|hm
 ·rcases b with rfl|rfl<;>cases e
 ·rcases aN.1 hm with e|hm
  ·cases e
  ·have:=a.2 _ hm;rw[PE]at this;cases this
theorem Uq:∀{a c:L8} {b d:L8},(124:UInt8)∉a->(124:UInt8)∉c->a++124::b=c++124::d->a=c/\b=d
 |[],[],b,d,_,_,e=>⟨rfl,by simpa using e⟩|[],x::c,b,d,_,f,e=>by
  have:(124:UInt8)=x:=by injection e
  exact absurd (by rw[this];exact aO) f
 |x::a,[],b,d,g,_,e=>by
  have:x=(124:UInt8):=by injection e
  exact absurd (by rw[this];exact aO) g
 |x::a,y::c,b,d,g,f,e=>by
  have i:x=y:=by injection e
  have j:a++124::b=c++124::d:=by injection e
  obtain⟨k,l⟩:=Uq (fun h=>g (aM _ h)) (fun h=>f (aM _ h)) j;exact⟨by rw[i,k],l⟩
theorem ae{B:Int}{s:PS}(h:M0 B s):((Lj s).map (·.1)).Nodup:=by
 have nd:∀{γ t:Type} {n:List (L8×γ)} {pre:L8} {f:t->L8×L8} {g:L8×γ->t},Ri O' n->(∀p∈n,(f (g p)).1=pre++p.1)->(((n.map g).map f).map (·.1)).Nodup:=fun {γ t n pre f g} A u=>by
  have e:((n.map g).map f).map (·.1)=(n.map (·.1)).map (pre ++ ·):=by rw[cW,cW,cW];exact List.map_congr_left fun p hp=>u p hp
  rw[e];refine List.Pairwise.map _ (fun a b m e=>m (iT e)) (j8.nodup (bZ.2 A))
 have C:(((U1 s).map y9).map (·.1)).Nodup:=nd (g:=fun p:L8×Cl=>p.2) (pre:=[99,108,105,101,110,116,47]) h.cR fun p hp=>by show _++p.2.1=_;rw[(h.cl p.1 p.2 hp).1]
 have D:(((n1 s).map ra).map (·.1)).Nodup:=nd (g:=fun p:L8×Gr=>(p.1,p.2.1.1,p.2.1.2.1,p.2.1.2.2,p.2.2)) (pre:=[103,114,111,117,112,47]) h.gR fun p hp=>rfl;have n4:(((X1 s).map Ja).map (·.1)).Nodup:=nd (g:=fun p:L8×Ro=>p.2) (pre:=[114,111,108,101,47]) h.rR fun p hp=>by show _++p.2.1=_;rw[(h.ro p.1 p.2 hp).1]
 have n5:(((n3 s).map Ka).map (·.1)).Nodup:=nd (g:=fun p:L8×Us=>p.2) (pre:=[117,115,101,114,47]) h.uR fun p hp=>by show _++p.2.1=_;rw[(h.us p.1 p.2 hp).1]
 have F:(((Y1 s).map sa).map (·.1)).Nodup:=by rw[cW];have G:(Y1 s).Nodup:=(bZ.2 (h.mR.imp fun {p q} w=>yy.Cb w):(s.2.2.2.2.map (·.1)).Pairwise (· ≠ ·));refine bZ.2 (List.Pairwise.imp_of_mem (fun {a b} j d m e=>?_) G);have e:[109,97,121,47]++a.1++[124]++a.2=[109,97,121,47]++b.1++[124]++b.2:=e;rw[aU,aU,aU,aU]at e;obtain⟨i,y⟩:=Uq (yz (wX h a j).1) (yz (wX h b d).1) (iT e);exact m (Prod.ext i y)
 have r:∀{γ:Type} {l:List γ} {f:γ->L8×L8} {c:UInt8},(∀x,(f x).1.head? = some c)->∀k∈(l.map f).map (·.1),k.head? = some c:=fun {γ l f c} u k z=>by rw[cW]at z;obtain⟨x,_,rfl⟩:=aY.1 z;exact u x
 have d1:=r (l:=U1 s) (f:=y9) (c:=99) fun _=>rfl;have d2:=r (l:=n1 s) (f:=ra) (c:=103) fun _=>rfl;have d3:=r (l:=Y1 s) (f:=sa) (c:=109) fun _=>rfl;have d4:=r (l:=X1 s) (f:=Ja) (c:=114) fun _=>rfl;have d5:=r (l:=n3 s) (f:=Ka) (c:=117) fun _=>rfl;unfold Lj;simp only[cC]at *;refine dZ.2 ⟨C,dZ.2 ⟨D,dZ.2 ⟨F,dZ.2 ⟨n4,n5,fun a j b d e=>?_⟩,fun a j b d e=>?_⟩,fun a j b d e=>?_⟩,fun a j b d e=>?_⟩
 ·have i:=d4 a j;have y:=d5 b d;rw[e,y]at i;cases i
 ·have i:=d3 a j;rw[e]at i;rcases bH.1 d with d|d
  ·rw[d4 b d]at i;cases i
  ·rw[d5 b d]at i;cases i
 ·have i:=d2 a j;rw[e]at i;rcases bH.1 d with d|d
  ·rw[d3 b d]at i;cases i
  ·rcases bH.1 d with d|d
   ·rw[d4 b d]at i;cases i
   ·rw[d5 b d]at i;cases i
 ·have i:=d1 a j;rw[e]at i;rcases bH.1 d with d|d
  ·rw[d2 b d]at i;cases i
  ·rcases bH.1 d with d|d
   ·rw[d3 b d]at i;cases i
   ·rcases bH.1 d with d|d
    ·rw[d4 b d]at i;cases i
    ·rw[d5 b d]at i;cases i
theorem FF{B:Int}(hB:B<=1099511627776){s:PS}(h:M0 B s):vL X' s.1 s.2.1 s.2.2.1 s.2.2.2.1 s.2.2.2.2=some (pI s,s):=by
 have V:(U1 s).length<=32:=by unfold U1;rw[aE];exact h.cL
 have X:(n1 s).length<=32:=by unfold n1;rw[aE];exact h.gL
 have Y:(Y1 s).length<=64:=by unfold Y1;rw[aE];exact h.mL
 have Z:(X1 s).length<=32:=by unfold X1;rw[aE];exact h.rL
 have lu:(n3 s).length<=64:=by unfold n3;rw[aE];exact h.uL
 unfold vL;rw[yvR h,p'];simp only
 rw[vX (s:=s) (es:=U1 s) (f:=y9) (by omega) (fun i b a C=>by
  obtain⟨c,J⟩:∃c,(U1 s)[i]=c:=⟨_,rfl⟩;have p:=Sq h _ (bC b);rw[J]at p;obtain⟨t1,t2,t3,t4⟩:=wz p;obtain⟨j,D,F,G⟩:=yuQ p;have N:=(qI F).2.2;have O:=(qI G).2.2;simp only;unfold zrY;simp only
  rw[X5 (by omega),av b,p',Y6 rfl b,p',J,Qq _ (by decide) (ph j),p',CS,p',CS,p',O7 (by simp only[EF];omega),p',CS,p',O7 (by simp only[aD,EF];omega),p',CS,p',O7 (by simp only[aD,EF];omega),p',YN (by omega),p',YN (by omega),p',Pq (fun l hl=>by
   rcases aN.1 hl with rfl|hl
   ·simp
   ·rcases aN.1 hl with rfl|hl
    ·exact t3
    ·rw[aZ.1 hl];exact t4) (by simp),p']
  have e:[[c.2.1,uf c.2.2.2.2.1++uf c.2.2.2.2.2.1++uf c.2.2.2.2.2.2.1++uf c.2.2.2.2.2.2.2],W7 c.2.2.1,W7 c.2.2.2.1].flatten=DF c:=by unfold DF;simp only[fB,gQ,bJ]
  rw[e,xdS (k:=[99,108,105,101,110,116,47]++c.1) (ts:=DF c) ⟨t1,t2⟩ (by omega),p',Y7 (by omega)]
  rfl) (fun a=>by
  simp only;unfold zrY;simp only
  rw[l6 (by omega)]) [] (by simp),p']
 simp only;rw[xcV h,p'];simp only
 rw[vX (s:=s) (es:=n1 s) (f:=ra) (by omega) (fun i b a C=>by
  obtain⟨g,I⟩:∃g,(n1 s)[i]=g:=⟨_,rfl⟩;have q:=rI hB h _ (bC b);rw[I]at q;obtain⟨t1,t2⟩:=xz q;obtain⟨j,D,F,G,N,O⟩:=q;obtain⟨n,z⟩:∃n:Nat,g.2.2.2.2=(n:Int):=⟨g.2.2.2.2.toNat,by omega⟩;simp only;unfold zrQ;simp only
  rw[X5 (by omega),av b,p',Y6 rfl b,p',I,Qq _ (by decide) j,p',z,xfL n (by omega),p',YN (by omega),p',YN (by omega),p',YN (by omega),p',Pq (fun l hl=>by
   have K:(W7 g.2.1).length=g.2.1.length+1:=rfl;have e2:(W7 g.2.2.1).length=g.2.2.1.length+1:=rfl;have e3:(W7 g.2.2.2.1).length=g.2.2.2.1.length+1:=rfl;rcases aN.1 hl with rfl|hl
   ·simp
   ·rcases aN.1 hl with rfl|hl
    ·omega
    ·rcases aN.1 hl with rfl|hl
     ·omega
     ·rw[aZ.1 hl];omega) (by simp),p']
  have e:[[db n],W7 g.2.1,W7 g.2.2.1,W7 g.2.2.2.1].flatten=cv g:=by unfold cv;rw[z,bY];simp only[fB,gQ,bJ]
  rw[e,xdS (k:=[103,114,111,117,112,47]++g.1) (ts:=cv g) ⟨t1,t2⟩ (by omega),p',Y7 (by omega)]
  rfl) (fun a=>by
  simp only;unfold zrQ;simp only
  rw[l6 (by omega)]) _ (by simp only[bP,aE];omega),p']
 simp only;rw[Oq h,p'];simp only
 have Q:∀(k i:Nat) (a:kG),k+i=(Y1 s).length->a.length+k<=8192->∀g,k<g->X9 (fun x:Int×UM×GM×RM×CM×MM×kG=>xW X' (Y1 s,s) x.1 x.2.1 x.2.2.1 x.2.2.2.1 x.2.2.2.2.1 x.2.2.2.2.2.1 x.2.2.2.2.2.2) g ((i:Int),s.1,s.2.1,s.2.2.1,s.2.2.2.1,s.2.2.2.2,a)=some (s.1,s.2.1,s.2.2.1,s.2.2.2.1,s.2.2.2.2,a++((Y1 s).drop i).map sa):=by
  intro k;induction k with
  |zero=>
   intro i a b _ g I;obtain⟨g,rfl⟩:∃m,g=m+1:=⟨g-1,by omega⟩;have b:i=(Y1 s).length:=by omega
   subst b;rw[bT,eN,bJ];refine Ba ?_;simp only;unfold xW;rw[l6 (by simp only;omega)]
  |succ k R=>
   intro i a b C g I;obtain⟨g,rfl⟩:∃m,g=m+1:=⟨g-1,by omega⟩;have w:i<(Y1 s).length:=by omega
   rw[bA w,bF,show a++(sa (Y1 s)[i]::((Y1 s).drop (i+1)).map sa)=(a++[sa (Y1 s)[i]])++((Y1 s).drop (i+1)).map sa by rw[aU];rfl,<-R (i+1) (a++[sa (Y1 s)[i]]) (by omega) (by simp;omega) g (by omega)];refine sb ?_;have A:=wX h _ (bC w);have p1:=IS A.1;have p2:=IS A.2;simp only;unfold xW;simp only;rw[X5 (by omega),Y6 rfl w,p',O7 (by simp;omega),p',O7 (by simp;omega),p',O7 (by simp;omega),p'];unfold zpP;rw[ypW (fun _ h=>by cases h) (by simp),p',O7 (by simp;omega),p',p',Y7 (by omega)];rfl
 rw[show iter _ ((0:Int),s.1,s.2.1,s.2.2.1,s.2.2.2.1,s.2.2.2.2,_)=_ from Q (Y1 s).length 0 _ (by omega) (by simp only[bP,aD,aE];omega) FU (by unfold FU;omega),p',bQ];simp only;rw[Ij h,p'];simp only
 rw[vX (s:=s) (es:=X1 s) (f:=Ja) (by omega) (fun i b a C=>by
  obtain⟨r,L⟩:∃r,(X1 s)[i]=r:=⟨_,rfl⟩;have y:=Rq h _ (bC b);rw[L]at y;have j:=qI (Y4 y);have l1:=kM (l:=r.2) (by omega) fun t d=>zn (j.1 t d);simp only;unfold zrV;simp only;rw[X5 (by omega),av b,p',Y6 rfl b,p',L,Qq _ (by decide) (ph (Z3 y)),p',YN (by omega),p',xdS (k:=[114,111,108,101,47]++r.1) (ts:=W7 r.2) ⟨by omega,l1.2⟩ (by omega),p',Y7 (by omega)]
  rfl) (fun a=>by
  simp only;unfold zrV;simp only
  rw[l6 (by omega)]) _ (by simp only[bP,aD,aE];omega),p']
 simp only;rw[Hj h,p'];simp only
 rw[vX (s:=s) (es:=n3 s) (f:=Ka) (by omega) (fun i b a C=>by
  obtain⟨u,M⟩:∃u,(n3 s)[i]=u:=⟨_,rfl⟩;obtain⟨j,D,F,G⟩:=Tq h _ (bC b);rw[M]at j D F G;obtain⟨n,z⟩:∃n:Nat,u.2.2.2=(n:Int):=⟨u.2.2.2.toNat,by omega⟩;simp only;unfold zrX;simp only;rw[X5 (by omega),av b,p',Y6 rfl b,p',M,Qq _ (by decide) (ph j),p',CS,p',z,xfL n (by omega),p'];unfold zoY
  have d:∀t∈[u.2.1,uf u.2.2.1,db n],t.length<=1024:=fun t d=>by
   rcases aN.1 d with rfl|d
   ·exact yn D
   ·rcases aN.1 d with rfl|d
    ·rw[EF];decide
    ·rw[aZ.1 d];exact uX (by omega)
  rw[ypW d (by simp),p',O7 (by simp;omega),p',p',Y7 (by omega)];have e:Ka u=([117,115,101,114,47]++u.1,pa [u.2.1,uf u.2.2.1,db n]):=by unfold Ka txU;rw[z,bY]
  rw[e]) (fun a=>by
  simp only;unfold zrX;simp only
  rw[l6 (by omega)]) _ (by simp only[bP,aD,aE];omega),p']
 simp only;have U:((([]++(U1 s).map y9)++(n1 s).map ra)++(Y1 s).map sa++(X1 s).map Ja)++(n3 s).map Ka=Lj s:=by unfold Lj;simp only[bP,aU]
 rw[U];have K:ZG (Lj s)=some (pI s):=by
  unfold ZG pI;have hl:(Lj s).length<1152921504606846976:=by unfold Lj;simp only[aD,aE];omega
  rw[xbD (ae h),zA hl];rfl
 rw[K,p']
def zz:TE:=[(3,⟨.int .i64,1,[.v (.i .i64) (show Int from 0)],(.i .i64),8⟩),
 (9,⟨.s,1,[.v .s (show Bs from [])],.s,16⟩),
 (22,⟨.sl 9,1,[.Y'],(.sl .s),24⟩),
 (31,⟨.sl 33,1,[.Y'],(.sl (.pr .s .s)),24⟩),
 (33,⟨.st [(9,0),(9,1)],2,[.v .s (show Bs from []),.v .s (show Bs from [])],(.pr .s .s),32⟩),
 (34,⟨.pt 128,1,[.v7],.un,8⟩),
 (45,⟨.sl 53,1,[.Y'],(.sl (.pr (.i .i64) (.pr (.i .i64) (.pr .s (.pr .s (.pr .b (.pr (.pr .s (.sl .s)) (.pr .s (.pr .s (.pr (.sl .s) (.pr (.sl .s) (.pr .b (.pr .b (.pr .b .b)))))))))))))),24⟩),
 (53,⟨.st [(3,0),(3,1),(9,2),(9,3),(4,4),(49,5),(51,7)],15,[.v (.i .i64) (show Int from 0),.v (.i .i64) (show Int from 0),.v .s (show Bs from []),.v .s (show Bs from []),.v .b (show Bool from false),.v .s (show Bs from []),.Y',.v .s (show Bs from []),.v .s (show Bs from []),.Y',.Y',.v .b (show Bool from false),.v .b (show Bool from false),.v .b (show Bool from false),.v .b (show Bool from false)],(.pr (.i .i64) (.pr (.i .i64) (.pr .s (.pr .s (.pr .b (.pr (.pr .s (.sl .s)) (.pr .s (.pr .s (.pr (.sl .s) (.pr (.sl .s) (.pr .b (.pr .b (.pr .b .b))))))))))))),184⟩)]
theorem Mj:P3 aA zz:=NG (by kernel_rfl) (by kernel_rfl)
theorem Az:Tryz.prog.follows .mixedOrders=true:=by kernel_rfl
theorem fscWkG {G : List (Nat × Obj)} {o : D'} [kb G] [Xa G o] {Γ : CT} {η : HT} {f : FuncId} {fn : Func} {c : SC} (a : ∀ B, GB G B -> X6 aA Γ B) (hf : Tryz.prog.funcs[f]? = some fn) (i : (fn.name == "runtime.NumGoroutine") = false := by kernel_rfl) (j : fn.body.isNone = false := by kernel_rfl) (l : Nat.ble c.I.sl.length fn.ntmps = true := by kernel_rfl) (r : aJ fn.results.toList.length c.nr = true := by kernel_rfl) (e : Ms zz Γ η fn c.I c.outs = c.p := by kernel_rfl) : P' aA G f c := jc (G := G) (o := o) <| af Az Mj a hf (Y5 hf i j) l r e
theorem lM {G : List (Nat × Obj)} {o : D'} [kb G] [Xa G o] {Γ : CT} {η : HT} {f : FuncId} {fn : Func} {c : PC} (a : ∀ B, GB G B -> X6 aA Γ B) (hf : Tryz.prog.funcs[f]? = some fn) (i : (fn.name == "runtime.NumGoroutine") = false := by kernel_rfl) (j : fn.body.isNone = false := by kernel_rfl) (l : Nat.ble c.ash.length fn.ntmps = true := by kernel_rfl) (r : c.cl = false := by kernel_rfl) (e : zw zz Γ η fn c.ash c.rts = c.p := by kernel_rfl) : Z0 aA G f c := jc (G := G) (o := o) <| Ze Az Mj a hf (Y5 hf i j) l r e
section
variable {tabs:List (Nat×Obj)}[kb tabs]{o:D'}[Xa tabs o]
def JS(_o:D')(b:kD)(e:kD)(a:Int):Option (Int⊕(Bool⊕Unit)):=
 bif decide (a<(b.length:Int))then((idx b a).bind fun c=>(idx e a).bind fun d=>bif(!((c.1==d.1)&&(c.2==d.2)))then some (.inr (.inl false))else some (.inl (P0 (a+1))))else some (.inr (.inr ()))
def xX(o:D')(a:kD)(b:kD):Option (Bool):=
 bif((a.length:Int) != (b.length:Int))then(some false)else((iter (JS o a b) 0).bind fun c=>match c with
 |.inl d=>(some d)|.inr _=>(some true))
def ztB(o:D'):PC:=⟨[(.h (.sl (.pr .s .s))),(.h (.sl (.pr .s .s)))],[.b],fun x=>xX o x.1 x.2,false⟩
theorem ydX:Z0 aA tabs 27 (ztB o):=lM (o:=o) (η:=[(200004,.loop [] ⟨[(5,hI)],[]⟩ [0,1] [(some 1000000,⟨[(4,hB)],[]⟩),(some 0,⟨[],[]⟩)]),
 (4000006,.x7 (j7 0 9))]) (Γ:=⟨[],[],false,[]⟩) (X4 trivial trivial) Tryz.func27
end
theorem yuY(l:kH)(x:L8):x∈Lib.compact l↔x∈l:=by
 have key:∀(m:Nat),m<=l.length->(x∈xDg l.toArray m↔∃j,j<m/\l.toArray[j]! = x):=by
  intro m;induction m with
  |zero=>intro _;simp[xDg]|succ m f=>
   intro n;rw[Lib.compactUpTo_succ,bH,f (by omega)];cases c:Lib.keeps l.toArray m with
   |true=>
    rw[zJ rfl,aZ];constructor
    ·rintro(⟨j,a,e⟩|e)
     ·exact⟨j,by omega,e⟩
     ·exact⟨m,by omega,e.symm⟩
    ·rintro⟨j,a,e⟩;by_cases b:j=m
     ·subst b;exact .inr e.symm
     ·exact .inl ⟨j,by omega,e⟩
   |false=>
    rw[zI (by simp)];have g:0<m/\l.toArray[m]! = l.toArray[m-1]!:=by
     by_cases i:m=0
     ·subst i;rw[Lib.keeps_lt_one _ 0 (by omega)]at c;cases c
     ·refine⟨by omega,Classical.byContradiction fun d=>?_⟩;rw[Lib.keeps_pos d]at c;cases c
    constructor
    ·rintro(⟨j,a,e⟩|h)
     ·exact⟨j,by omega,e⟩
     ·cases h
    ·rintro⟨j,a,e⟩;by_cases b:j=m
     ·subst b;exact .inl ⟨j-1,by omega,by rw[<-g.2];exact e⟩
     ·exact .inl ⟨j,by omega,e⟩
 show x∈xDg l.toArray l.length↔_;rw[key l.length (aL _)];constructor
 ·rintro⟨j,a,rfl⟩;rw[getElem!_pos l.toArray j (by simpa using a)];simp
 ·intro k;obtain⟨j,a,rfl⟩:=List.getElem_of_mem k;refine⟨j,a,?_⟩;rw[getElem!_pos l.toArray j (by simpa using a)];simp
def O9(s:PS)(n:L8):kH:=(Q3 2 (r6 j' s.2.1 n zG)).flatMap fun r=>(r6 j' s.2.2.1 r zR).2
noncomputable def GF(s:PS)(u:L8):kH:=Lib.compact (Mi ((Y8 s.2.1 u).flatMap (O9 s)))
theorem ju{s:PS}(f:Ri O' s.2.1)(h:Ri O' s.2.2.1){u x:L8}:x∈GF s u↔∃n g k r,sf s.2.1 u n/\(n,g)∈s.2.1/\k∈Q3 2 g/\(k,r)∈s.2.2.1/\x∈r.2:=by
 unfold GF;rw[yuY];have i:x∈Mi ((Y8 s.2.1 u).flatMap (O9 s))↔x∈(Y8 s.2.1 u).flatMap (O9 s):=(jh De _).mem_iff;rw[i,gE];constructor
 ·rintro⟨n,b,a⟩;have b:=sX.1 b;obtain⟨g,d⟩:=kS.n0.1 b.key;unfold O9 at a;rw[yzQ f d]at a;obtain⟨k,e,a⟩:=gE.1 a;rw[pb]at a;cases c:W0 j' s.2.2.1 k with
  |none=>rw[c]at a;cases a
  |some r=>rw[c]at a;exact⟨n,g,k,r,b,d,e,kS.get_some c,a⟩
 ·rintro⟨n,g,k,r,b,d,e,c,a⟩;refine⟨n,sX.2 b,?_⟩;unfold O9;rw[yzQ f d];refine gE.2 ⟨k,e,?_⟩;rw[pb,kS.get_mem h c];exact a
theorem Nj{s:PS}{g:Gr}(h:(Q3 2 g).length<=64)(e:∀k,(r6 j' s.2.2.1 k zR).2.length<=16):∀(f i:Nat) (a:kH),f+i=(Q3 2 g).length->a.length+16*f<=1048576->∀n,f<n ->
  X9 (fun x:Int×UM×GM×RM×CM×MM×kH=>uW X' g x.1 x.2.1 x.2.2.1 x.2.2.2.1 x.2.2.2.2.1 x.2.2.2.2.2.1 x.2.2.2.2.2.2) n ((i:Int),s.1,s.2.1,s.2.2.1,s.2.2.2.1,s.2.2.2.2,a)=some (s.1,s.2.1,s.2.2.1,s.2.2.2.1,s.2.2.2.2,a++((Q3 2 g).drop i).flatMap fun r=>(r6 j' s.2.2.1 r zR).2)
 |0,i,a,c,_,n+1,_=>by
  have c:i=(Q3 2 g).length:=by omega
  subst c;rw[bT,List.flatMap_nil,bJ];refine Ba ?_;simp only;unfold uW;rw[l6 (by show ¬((Q3 2 g).length:Int)<((Q3 2 g).length:Int);omega)]
 |f+1,i,a,c,l,n+1,m=>by
  have b:i<(Q3 2 g).length:=by omega
  have d:=e (Q3 2 g)[i];have j:(r6 j' s.2.2.1 (Q3 2 g)[i] (([]:L8),([]:kH))).2.length<=16:=d;rw[bA b,cO,<-aU,<-Nj h e f (i+1) (a++(r6 j' s.2.2.1 (Q3 2 g)[i] zR).2) (by omega) (by rw[aD];omega) n (by omega)];refine sb ?_;simp only;unfold uW;rw[X5 (by show(i:Int)<((Q3 2 g).length:Int);omega),show idx g.1.2.2 (i:Int)=some (Q3 2 g)[i]from Y6 rfl b,p'];simp only;rw[O7 (by omega),p',Y7 (by omega)]
theorem Bz{B:Int}{s:PS}(h:M0 B s)(u:L8):vH X' u s.1 s.2.1 s.2.2.1 s.2.2.2.1 s.2.2.2.2=some (GF s u,s):=by
 have q:∀k,(r6 j' s.2.2.1 k zR).2.length<=16:=fun k=>by
  rw[pb];cases c:W0 j' s.2.2.1 k with
  |none=>exact bG _|some r=>exact UL (h.ro k r (kS.get_some c)).2
 have c:∀n,(Q3 2 (r6 j' s.2.1 n zG)).length<=64:=fun n=>by
  rw[pb];cases c:W0 j' s.2.1 n with
  |none=>exact bG _|some g=>exact h.Z4 (kS.get_some c) (by decide)
 have d:∀n,(O9 s n).length<=1024:=fun n=>by
  have:∀l:kH,(l.flatMap fun r=>(r6 j' s.2.2.1 r zR).2).length<=16*l.length:=by
   intro l;induction l with
   |nil=>exact bG _|cons a l j=>have:=q a;rw[cO,aD,aQ];omega
  have w:=this (Q3 2 (r6 j' s.2.1 n zG));have t:=c n;unfold O9;omega
 have y:(Y8 s.2.1 u).length<=32:=by unfold Y8;exact bB (List.length_filter_le _ _) (by rw[aE];exact h.gL)
 unfold vH;rw[nz h,p'];have key:∀(f i:Nat) (b:kH),f+i=(Y8 s.2.1 u).length->b.length+1024*f<=65536->∀n,f<n ->
   X9 (fun x:Int×UM×GM×RM×CM×MM×kH=>vW X' (Y8 s.2.1 u,s) x.1 x.2.1 x.2.2.1 x.2.2.2.1 x.2.2.2.2.1 x.2.2.2.2.2.1 x.2.2.2.2.2.2) n ((i:Int),s.1,s.2.1,s.2.2.1,s.2.2.2.1,s.2.2.2.2,b)=some (s.1,s.2.1,s.2.2.1,s.2.2.2.1,s.2.2.2.2,b++((Y8 s.2.1 u).drop i).flatMap (O9 s)):=by
  intro f;induction f with
  |zero=>
   intro i b p _ n z;obtain⟨n,rfl⟩:∃m,n=m+1:=⟨n-1,by omega⟩;have p:i=(Y8 s.2.1 u).length:=by omega
   subst p;rw[bT,List.flatMap_nil,bJ];refine Ba ?_;simp only;unfold vW;simp only;rw[l6 (by omega)]
  |succ f j=>
   intro i b p F n z;obtain⟨n,rfl⟩:∃m,n=m+1:=⟨n-1,by omega⟩;have e:i<(Y8 s.2.1 u).length:=by omega
   have w:=d (Y8 s.2.1 u)[i];have t:=c (Y8 s.2.1 u)[i];rw[bA e,cO,<-aU,<-j (i+1) (b++O9 s (Y8 s.2.1 u)[i]) (by omega) (by rw[aD];omega) n (by omega)];refine sb ?_;simp only;unfold vW;simp only;rw[X5 (by omega),Y6 rfl e,p'];rw[show iter _ ((0:Int),s.1,s.2.1,s.2.2.1,s.2.2.2.1,s.2.2.2.2,b)=_ from Nj (s:=s) (g:=r6 j' s.2.1 (Y8 s.2.1 u)[i] zG) t q (Q3 2 (r6 j' s.2.1 (Y8 s.2.1 u)[i] zG)).length 0 b (by omega) (by omega) FU (by unfold FU;omega),p',bQ,Y7 (by omega)];rfl
 rw[show iter _ ((0:Int),s.1,s.2.1,s.2.2.1,s.2.2.2.1,s.2.2.2.2,([]:kH))=_ from key (Y8 s.2.1 u).length 0 [] (by omega) (by simp;omega) FU (by unfold FU;omega),p',bQ,bP];have A:((Y8 s.2.1 u).flatMap (O9 s)).length<=1048576:=by
  have:∀l:kH,(l.flatMap (O9 s)).length<=1024*l.length:=by
   intro l;induction l with
   |nil=>exact bG _|cons a l j=>have:=d a;rw[cO,aD,aQ];omega
  have:=this (Y8 s.2.1 u);omega
 have C:VQ ((Y8 s.2.1 u).flatMap (O9 s))=some (Mi ((Y8 s.2.1 u).flatMap (O9 s))):=by unfold VQ;rw[zA (by omega)];rfl
 have D:WQ (Mi ((Y8 s.2.1 u).flatMap (O9 s)))=some (GF s u):=by unfold WQ;have:(Mi ((Y8 s.2.1 u).flatMap (O9 s))).length=((Y8 s.2.1 u).flatMap (O9 s)).length:=(jh De _).length_eq;rw[zA (by omega)];rfl
 simp only;rw[C,p',D,p']
theorem ku(l:kG)(e:l.length<=1048576):xX X' l l=some true:=by
 have key:∀(f i:Nat),f+i=l.length->∀g,f<g->X9 (JS X' l l) g (i:Int)=some (.inr ()):=by
  intro f;induction f with
  |zero=>
   intro i a g c;obtain⟨g,rfl⟩:∃m,g=m+1:=⟨g-1,by omega⟩;have a:i=l.length:=by omega
   subst a;refine Ba ?_;unfold JS;rw[l6 (by omega)]
  |succ f d=>
   intro i a g c;obtain⟨g,rfl⟩:∃m,g=m+1:=⟨g-1,by omega⟩;have b:i<l.length:=by omega
   refine(sb ?_).trans (d (i+1) (by omega) g (by omega));unfold JS;rw[X5 (by omega),Y6 rfl b,p',p',beq_self_eq_true,beq_self_eq_true,Y7 (by omega)];rfl
 unfold xX;rw[bne_self_eq_false,zH,show iter (JS X' l l) (0:Int)=_ from key l.length 0 (by omega) FU (by unfold FU;omega),p']
theorem mu{B:Int}{s:PS}(h:M0 B s):(pI s).length<=1048576:=by have e:(pI s).length=(Lj s).length:=(jh _ _).length_eq;rw[e];unfold Lj U1 n1 Y1 X1 n3;simp only[aD,aE];have:=h.uL;have:=h.gL;have:=h.rL;have:=h.cL;have:=h.mL;omega
inductive ja where
 |c (c:Cl)
 |g (g:u6)
 |m (m:L8×L8)
 |r (r:Ro)
 |u (u:Us)
def ja.row:ja->L8×L8
 |.c x=>y9 x|.g x=>ra x|.m x=>sa x|.r x=>Ja x|.u x=>Ka x
def ja.ok:ja->Prop
 |.c x=>Ha x=true|.g x=>U6 x.1=true/\1<=x.2.2.2.2/\x.2.2.2.2<=1099511627776|.m x=>ia x.1=true/\ia x.2=true|.r x=>Gq x=true|.u x=>U6 x.1=true/\Fc x.2.1=true/\1<=x.2.2.2/\x.2.2.2<=1099511627776
def ja.sm:ja->Prop
 |.g x=>(x.2.1.length<=1048576/\x.2.2.1.length<=1048576/\x.2.2.2.1.length<=1048576)/\(pa (cv x)).length<4294967281/\(cv x).length<4294967281|_=>True
def ja.put(s:PS):ja->PS
 |.c x=>(s.1,s.2.1,s.2.2.1,Y0 j' O' s.2.2.2.1 x.1 x,s.2.2.2.2)|.g x=>(s.1,Y0 j' O' s.2.1 x.1 ((x.2.1,x.2.2.1,x.2.2.2.1),x.2.2.2.2),s.2.2)|.m x=>(s.1,s.2.1,s.2.2.1,s.2.2.2.1,Y0 W8 V9 s.2.2.2.2 x ())|.r x=>(s.1,s.2.1,Y0 j' O' s.2.2.1 x.1 x,s.2.2.2)|.u x=>(Y0 j' O' s.1 x.1 x,s.2)
abbrev LM:Type:=List (L8×kH)
abbrev R7:Type:=Bool×UM×GM×RM×CM×MM×LM
abbrev R8:Type:=Bool×UM×GM×RM×CM×MM×kH×LM
section
variable {κ γ:Type}{eq lt:κ->κ->Bool}
end
def Q'(s:PS):List ja:=(U1 s).map .c++((n1 s).map .g++((Y1 s).map .m++((X1 s).map .r++(n3 s).map .u)))
def Sm(l:kH):Prop:=l.length<=1048576/\∀t∈l,t.length<=1048576
theorem Sm.tail{t:L8}{l:kH}(h:Sm (t::l)):Sm l:=⟨bB (Nat.le_succ _) h.1,fun x a=>h.2 x (aM _ a)⟩
theorem Sm.drop{l:kH}(h:Sm l)(n:Nat):Sm (l.drop n):=⟨bB (List.drop_sublist n l).length_le h.1,fun x a=>h.2 x (List.mem_of_mem_drop a)⟩
def sI(G:GM):Prop:=∀k g,(k,g)∈G->∀x∈Q3 1 g,¬Reach G x k
structure o7 (s:PS):Prop where
 uR:Ri O' s.1
 gR:Ri O' s.2.1
 rR:Ri O' s.2.2.1
 cR:Ri O' s.2.2.2.1
 mR:Ri V9 s.2.2.2.2
 us:∀k u,(k,u)∈s.1->u.1=k/\U6 k=true/\Fc u.2.1=true/\1<=u.2.2.2/\u.2.2.2<=1099511627776
 gn:∀k g,(k,g)∈s.2.1->U6 k=true/\1<=g.2/\g.2<=1099511627776
 ro:∀k r,(k,r)∈s.2.2.1->r.1=k/\Gq r=true
 cl:∀k c,(k,c)∈s.2.2.2.1->c.1=k/\Ha c=true
 ma:∀p,p∈s.2.2.2.2->ia p.1.1=true/\ia p.1.2=true
 sz:∀k g,(k,g)∈s.2.1->∀i,i<3->(Q3 i g).length<=1048576
 gz:s.2.1.length<=1048576
structure Vq (s:PS):Prop where
 uL:s.1.length<=64
 gL:s.2.1.length<=32
 rL:s.2.2.1.length<=32
 cL:s.2.2.2.1.length<=32
 mL:s.2.2.2.2.length<=64
 gl:∀k g,(k,g)∈s.2.1->∀i,i<3->j8 (Q3 i g)/\∀x∈Q3 i g,k9 i s x=true
 ma:∀p,p∈s.2.2.2.2->s9 s p.1.1=true/\s9 s p.1.2=true
 nc:sI s.2.1
theorem yxA{b:Type}{q r:b->Bool}:∀{l:List b},(∀p∈l,q p=true->r p=true)->(l.filter q).Sublist (l.filter r)
 |[],_=>.slnil|x::l,h=>by
  have a:=yxA (l:=l) fun p hp=>h p (aM _ hp);rw[List.filter_cons,List.filter_cons];cases c:q x with
  |false=>
   cases d:r x with
   |false=>exact a|true=>exact a.cons x
  |true=>rw[h x aO c];exact a.cons_cons x
open Classical in
theorem mM{G:GM}(h:sI G):IL G:=by
 refine⟨fun x=>(G.filter fun p=>decide (Reach G x p.1)).length,fun n g b x c=>?_⟩;have a:(G.filter fun p=>decide (Reach G x p.1)).Sublist (G.filter fun p=>decide (Reach G n p.1)):=by refine yxA fun p _ hp=>?_;exact zA ((Reach.step .refl b c).trans (zD hp))
 rcases Nat.lt_or_ge (G.filter fun p=>decide (Reach G x p.1)).length (G.filter fun p=>decide (Reach G n p.1)).length with h1|h1
 ·exact h1
 ·have e:=a.eq_of_length_le h1;have d:(n,g)∈G.filter fun p=>decide (Reach G n p.1):=cE.2 ⟨b,zA .refl⟩;rw[<-e]at d;exact absurd (zD (cE.1 d).2) (h n g b x c)
theorem o7.inv{s:PS}(h:o7 s)(w:Vq s):M0 1099511627776 s where
 uR:=h.uR
 gR:=h.gR
 rR:=h.rR
 cR:=h.cR
 mR:=h.mR
 uL:=w.uL
 gL:=w.gL
 rL:=w.rL
 cL:=w.cL
 mL:=w.mL
 us:=h.us
 gn:=h.gn
 gl:=w.gl
 ro:=h.ro
 cl:=h.cl
 ma:=fun p hp=>⟨(h.ma p hp).1,(h.ma p hp).2,(w.ma p hp).1,(w.ma p hp).2⟩
 ac:=mM w.nc
end Go.Proofs.YtopanhneegpgcaaGreatDoor.Am
