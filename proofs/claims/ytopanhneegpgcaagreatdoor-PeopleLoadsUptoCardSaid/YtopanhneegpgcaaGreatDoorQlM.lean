/- Parts of one proof. Conditions: as each theorem says. -/
import Derived.Test.YtopanhneegpgcaaGreatDoorRows
import Derived.Test.YtopanhneegpgcaaGreatDoorTie
import Derived.Test.YtopanhneegpgcaaGreatDoorCards
import Derived.ProofKit
import Derived.OpenShut
import Derived.Carry
import Derived.JoinedCond
import Derived.ChangeMaps5
import Derived.Deep.SlicePairs
import Derived.Deep.DeepHandedRow
import Derived.Lib.LaidTab
import Derived.SevenTiedAt
import Derived.KernelRfl
import Derived.Test.YtopanhneegpgcaaGreatDoorQlL
open Array renaming length_toList->iB
open Bool renaming and_eq_true->aF,false_eq_true->dV,not_true->bM,or_eq_true->bY
open Int renaming toNat_natCast->bT
open List renaming all_eq_true->aY,any_eq_false->eL,any_eq_true->dK,append_assoc->aU,append_cancel_left->iQ,append_nil->bK,cons_append->bG,cons_ne_nil->gC,contains_iff_mem->cF,drop_drop->eA,drop_eq_getElem_cons->aX,drop_eq_nil_of_le->eX,drop_length->bX,drop_zero->bQ,ext_getElem?->bS,findIdx?_cons->jH,findIdx?_eq_none_iff->iK,findIdx?_eq_some_iff_getElem->gI,flatMap_cons->dE,flatten_cons->fR,flatten_nil->gM,getElem?_drop->bR,getElem?_eq_getElem->aO,getElem?_eq_none->cQ,getElem?_eq_some_iff->aD,getElem?_take->cZ,getElem_mem->bE,length_append->aC,length_cons->aN,length_drop->bH,length_map->aE,length_nil->cC,map->cU,map_append->cT,map_cons->bF,map_map->dF,map_nil->fA,mem_append->bD,mem_cons->aK,mem_cons_of_mem->aL,mem_cons_self->aM,mem_flatMap->gP,mem_map->aR,mem_singleton->aT,nil_append->bL,nodup_append->eN,pairwise_map->bI,sum_cons->iL,take_add_one->jO,take_of_length_le->cX
open Nat renaming add_mul->cB,beq->aG,eq_of_beq_eq_true->aB,eq_zero_or_pos->eY,le_refl->aI,le_trans->bC,mul_le_mul_left->jD,one_mul->eZ,sub_add_cancel->gF,zero_le->aZ
open Option renaming bind_eq_some_iff->fL,isSome_none->iG,map_some->bO,toList_some->jI
open Go.Proofs.Tryz renaming prog->aA
namespace Go.Proofs.YtopanhneegpgcaaGreatDoor.Am
open Go Go.RowKit
theorem ri_keysB{γ:Type}{es:List (L8×γ)}(hR:Ri kltS es):zmM (es.map (·.1))=true:=yaM.2 (bI.2 hR)
theorem zvM{γ:Type}{es:List (L8×γ)}(hR:Ri kltS es)(hl:es.length<=1048576)(hk:∀p∈es,p.1.length<=68719476736):zqR es=some (es.map (·.1),es):=by unfold zqR yiF;rw[zA hl,ri_keysB hR,aY.2 fun p hp=>zA (hk p hp)];rfl
theorem ycT{γ δ:Type}{es:List (L8×γ)}{body:Int×List (L8×γ)×List δ->Option ((Int×List (L8×γ)×List δ)⊕(List (L8×γ)×List δ))}{tell:L8×γ->δ}(hl:es.length<=1048576) (hb:∀(i:Nat) (hi:i<es.length) (acc:List δ),acc.length<=1048576->body ((i:Int),es,acc)=some (.inl (((i+1:Nat):Int),es,acc++[tell es[i]]))) (he:∀acc,body ((es.length:Int),es,acc)=some (.inr (es,acc))):iter body ((0:Int),es,([]:List δ))=some (es,es.map tell):=by
 have key:∀(f i:Nat) (acc:List δ),f+i=es.length->acc.length+f<=1048576->∀g,f<g->ziC body g ((i:Int),es,acc)=some (es,acc++(es.drop i).map tell):=by
  intro f;induction f with
  |zero=>
   intro i acc hi _ g hg;obtain⟨g,rfl⟩:∃m,g=m+1:=⟨g-1,by omega⟩;have hi:i=es.length:=by omega
   subst hi;rw[zaW (he acc),bX,fA,bK]
  |succ f ih=>
   intro i acc hi ha g hg;obtain⟨g,rfl⟩:∃m,g=m+1:=⟨g-1,by omega⟩;have hlt:i<es.length:=by omega
   rw[zaV (hb i hlt acc (by omega)),ih (i+1) _ (by omega) (by simp;omega) g (by omega),aX hlt,bF,aU];rfl
 have:=key es.length 0 [] (by omega) (by simp;omega) FU (by unfold FU;omega);rw[bQ,bL]at this;exact this
def usE(s:PS):List Us:=s.1.map (·.2)
def grE(s:PS):List (L8×List L8×List L8×List L8×Int):=s.2.1.map fun p=>(p.1,p.2.1.1,p.2.1.2.1,p.2.1.2.2,p.2.2)
def roE(s:PS):List Ro:=s.2.2.1.map (·.2)
def clE(s:PS):List Cl:=s.2.2.2.1.map (·.2)
def maE(s:PS):List (L8×L8):=s.2.2.2.2.map (·.1)
theorem yvE{n:Nat}(h:n<=1048576):chk (decide ((0:Int)<=(n:Int))&&decide ((n:Int)<=(LIM:Int)))=some ():=by rw[zA (show(0:Int)<=(n:Int) by omega),zA (show(n:Int)<=(LIM:Int) by unfold LIM;omega)];rfl
theorem mk0{α:Type}(z:α):Go.Proofs.YtopanhneegpgcaaGreatDoor.mkL (0:Int) z=some []:=rfl
theorem get_at{γ:Type}{es:List (L8×γ)}(hR:Ri kltS es){i:Nat}(hi:i<es.length)(z:γ):zeD keqS es es[i].1 z=es[i].2:=by rw[zjY,kS.get_mem hR (k:=es[i].1) (v:=es[i].2) (bE hi)];rfl
theorem yvN{γ:Type}{es:List (L8×γ)}{i:Nat}(hi:i<es.length):idx (es.map (·.1)) (i:Int)=some es[i].1:=by rw[zbD rfl (by rw[aE];exact hi),List.getElem_map]
theorem yvI{B:Int}{s:PS}(h:PInv B s):zgC zaB s.1 s.2.1 s.2.2.1 s.2.2.2.1 s.2.2.2.2=some (s.1,s.2.1,s.2.2.1,s.2.2.2.1,s.2.2.2.2,usE s):=by
 have hl:=h.uL;unfold zgC zsO zzO;rw[yvE (by omega),zaA,mk0,zaA,zaA,zvM h.uR (by omega) fun p hp=>bC (ziL (h.us p.1 p.2 hp).2.1) (by decide),zaA];rw[ycT (es:=s.1) (tell:=fun p:L8×Us=>p.2) (by omega) (fun i hi acc ha=>?_) fun acc=>?_,zaA,zaA]
 ·rfl
 ·unfold zqP zjT;simp only;rw[zaX (by rw[aE];omega),yvN hi,zaA,get_at h.uR hi,zaA,zfN (by simp;omega),zaA,zfA (by omega)]
 ·unfold zqP;simp only;rw[zaY (by rw[aE];omega)]
theorem yqD{B:Int}{s:PS}(h:PInv B s):zfM zaB s.1 s.2.1 s.2.2.1 s.2.2.2.1 s.2.2.2.2=some (s.1,s.2.1,s.2.2.1,s.2.2.2.1,s.2.2.2.2,grE s):=by
 have hl:=h.gL;unfold zfM zsH zzB;rw[yvE (by omega),zaA,mk0,zaA,zaA,zvM h.gR (by omega) fun p hp=>bC (ziL (h.gn p.1 p.2 hp).1) (by decide),zaA];rw[ycT (es:=s.2.1) (tell:=fun p:L8×Gr=>(p.1,p.2.1.1,p.2.1.2.1,p.2.1.2.2,p.2.2)) (by omega) (fun i hi acc ha=>?_) fun acc=>?_,zaA,zaA]
 ·rfl
 ·have hm:(s.2.1[i].1,s.2.1[i].2)∈s.2.1:=bE hi;have e:∀l:List L8,l.length<=64->ziQ zaB l=some l:=fun l hl=>by unfold ziQ;rw[zmZ _ (by omega),zaA]
  unfold zqQ;simp only;rw[zaX (by rw[aE];omega),yvN hi,zaA,get_at h.gR hi];unfold zwY;rw[e s.2.1[i].2.1.1 (h.lst_len hm (i:=0) (by decide)),zaA,e s.2.1[i].2.1.2.1 (h.lst_len hm (i:=1) (by decide)),zaA,e s.2.1[i].2.1.2.2 (h.lst_len hm (i:=2) (by decide)),zaA,zaA,zfN (by simp;omega),zaA,zfA (by omega)]
 ·unfold zqQ;simp only;rw[zaY (by rw[aE];omega)]
theorem yaJ{r:Ro}(h:ydO r=true):r.2.length<=16:=by unfold ydO zxD at h;simp only[aF,zD]at h;exact h.2.2
theorem ywD{c:Cl}(h:cliB c=true):c.2.2.1.length<=16/\c.2.2.2.1.length<=16:=by unfold cliB zxD at h;simp only[aF,zD]at h;exact⟨h.1.2.2,h.2.2⟩
theorem ytK{B:Int}{s:PS}(h:PInv B s):zgK zaB s.1 s.2.1 s.2.2.1 s.2.2.2.1 s.2.2.2.2=some (s.1,s.2.1,s.2.2.1,s.2.2.2.1,s.2.2.2.2,roE s):=by
 have hl:=h.rL;unfold zgK zsD zzA
 rw[yvE (by omega),zaA,mk0,zaA,zaA,zvM h.rR (by omega) fun p hp=>by
  have h1:=h.ro p.1 p.2 hp;have h2:=zbH h1.2;rw[h1.1]at h2
  exact bC (ziL h2) (by decide),zaA]
 rw[ycT (es:=s.2.2.1) (tell:=fun p:L8×Ro=>p.2) (by omega) (fun i hi acc ha=>?_) fun acc=>?_,zaA,zaA]
 ·rfl
 ·have hm:(s.2.2.1[i].1,s.2.2.1[i].2)∈s.2.2.1:=bE hi;have h1:=yaJ (h.ro _ _ hm).2;unfold zqT zjQ;simp only;rw[zaX (by rw[aE];omega),yvN hi,zaA,get_at h.rR hi,copR_ok (by omega),zaA,zaA,zfN (by simp;omega),zaA,zfA (by omega)]
 ·unfold zqT;simp only;rw[zaY (by rw[aE];omega)]
theorem cli_nm{c:Cl}(h:cliB c=true):nmB c.1=true:=by unfold cliB at h;simp only[aF]at h;exact h.1.1.1
theorem ylI{B:Int}{s:PS}(h:PInv B s):zeP zaB s.1 s.2.1 s.2.2.1 s.2.2.2.1 s.2.2.2.2=some (s.1,s.2.1,s.2.2.1,s.2.2.2.1,s.2.2.2.2,clE s):=by
 have hl:=h.cL;unfold zeP zuB yaG
 rw[yvE (by omega),zaA,mk0,zaA,zaA,zvM h.cR (by omega) fun p hp=>by
  have h1:=h.cl p.1 p.2 hp;have h2:=cli_nm h1.2;rw[h1.1]at h2
  exact bC (ziL h2) (by decide),zaA]
 rw[ycT (es:=s.2.2.2.1) (tell:=fun p:L8×Cl=>p.2) (by omega) (fun i hi acc ha=>?_) fun acc=>?_,zaA,zaA]
 ·rfl
 ·have hm:(s.2.2.2.1[i].1,s.2.2.2.1[i].2)∈s.2.2.2.1:=bE hi;have h1:=ywD (h.cl _ _ hm).2;unfold zsB ziK;simp only;rw[zaX (by rw[aE];omega),yvN hi,zaA,get_at h.cR hi,copC_ok (by omega) (by omega),zaA,zaA,zfN (by simp;omega),zaA,zfA (by omega)]
 ·unfold zsB;simp only;rw[zaY (by rw[aE];omega)]
theorem yqH:∀{l:List (L8×L8)},(l.Pairwise fun x y=>kltM x y=true)->yeZ l=true
 |[],_=>rfl|[_],_=>rfl|x::y::l,h=>by have hc:=List.pairwise_cons.1 h;unfold yeZ;rw[aF];exact⟨hc.1 y aM,yqH hc.2⟩
theorem xbY{B:Int}{s:PS}(h:PInv B s):zgZ zaB s.1 s.2.1 s.2.2.1 s.2.2.2.1 s.2.2.2.2=some (maE s,s):=by
 have hl:=h.mL;unfold zgZ zyU;rw[zaA];have e:ycO s.2.2.2.2=some (s.2.2.2.2.map (·.1),s.2.2.2.2):=by unfold ycO;rw[zA (by omega),yqH (bI.2 h.mR)];rfl
 rw[e,zaA];rfl
inductive InG (G:GM) (u:L8):L8->Prop
 |dir {n:L8} {g:Gr}:(n,g)∈G->u∈lst 0 g->InG G u n
 |sub {n x:L8} {g:Gr}:(n,g)∈G->x∈lst 1 g->InG G u x->InG G u n
theorem InG.key{G:GM}{u n:L8}(h:InG G u n):mhas keqS G n=true:=by
 cases h with
 |dir h _=>exact kS.has_iff.2 ⟨_,h⟩|sub h _ _=>exact kS.has_iff.2 ⟨_,h⟩
open Classical in
noncomputable def inE(G:GM)(u:L8):List L8:=(G.map (·.1)).filter fun n=>decide (InG G u n)
open Classical in
theorem ynQ{G:GM}{u n:L8}:n∈inE G u↔InG G u n:=by unfold inE;rw[List.mem_filter,zD];refine⟨fun h=>h.2,fun h=>⟨?_,h⟩⟩;obtain⟨g,hg⟩:=kS.has_iff.1 h.key;exact aR.2 ⟨_,hg,rfl⟩
theorem xaY{G:GM}(hR:Ri kltS G)(u:L8):RiL (inE G u):=(show RiL (G.map (·.1))from bI.2 hR).sublist List.filter_sublist
theorem cont_ok(l:List L8)(z:SM)(hl:l.length<=1048576):zgG zaB l z=some (l.any (fun x=>mhas keqS z x),z):=by
 have key:∀(f i:Nat),f+i=l.length->∀g,f<g->ziC (fun x:Int×SM=>zfP zaB l x.1 x.2) g ((i:Int),z)=some (match (l.drop i).findIdx? (fun x=>mhas keqS z x) with
   |some k=>.inl (((i+k:Nat):Int),z)|none=>.inr z):=by
  intro f;induction f with
  |zero=>
   intro i hi g hg;obtain⟨g,rfl⟩:∃m,g=m+1:=⟨g-1,by omega⟩;have hi:i=l.length:=by omega
   subst hi;rw[bX];refine zaW ?_;unfold zfP;simp only;rw[zaY (by omega)];rfl
  |succ f ih=>
   intro i hi g hg;obtain⟨g,rfl⟩:∃m,g=m+1:=⟨g-1,by omega⟩;have hlt:i<l.length:=by omega
   rw[aX hlt,jH];have hb:zfP zaB l (i:Int) z=bif mhas keqS z l[i]then some (.inr (.inl ((i:Int),z)))else some (.inl (((i+1:Nat):Int),z)):=by unfold zfP zmP;rw[zaX (by omega),zbD rfl hlt,zaA,zaA,zfA (by omega)]
   cases hm:mhas keqS z l[i] with
   |true=>rw[hm]at hb;rw[zaW (b:=.inl ((i:Int),z)) hb];rfl|false=>
    rw[hm]at hb;rw[zaV (s':=(((i+1:Nat):Int),z)) hb,ih (i+1) (by omega) g (by omega)];simp only[if_false,dV];cases (l.drop (i+1)).findIdx? (fun x=>mhas keqS z x) with
    |none=>rfl|some k=>simp only[bO];congr 4;omega
 have h0:=key l.length 0 (by omega) FU (by unfold FU;omega);unfold zgG zoO;rw[show iter (fun x:Int×SM=>zfP zaB l x.1 x.2) ((0:Int),z)=_ from h0,zaA,bQ];cases hf:l.findIdx? (fun x=>mhas keqS z x) with
 |none=>simp only[zaA];rw[show l.any (fun x=>mhas keqS z x)=false from eL.2 fun x hx=>by rw[iK.1 hf x hx];simp];rfl|some k=>
  simp only[zaA]
  rw[show l.any (fun x=>mhas keqS z x)=true from dK.2 (by
   obtain⟨hk,h1,_⟩:=gI.1 hf
   exact⟨l[k],bE hk,h1⟩)]
  rw[zA (show(((0+k:Nat)):Int)≥0 by omega)]
abbrev T7:Type:=Bool×UM×GM×RM×CM×MM×SM
abbrev T8:Type:=Bool×UM×GM×RM×CM×MM×List L8×SM
theorem in_rng{B:Int}{s:PS}(h:PInv B s)(u:L8):∃z:SM,Ri kltS z/\(∀n,mhas keqS z n=true↔InG s.2.1 u n)/\rngA (ztZ zaB u) (Sum.inl (true,s.1,s.2.1,s.2.2.1,s.2.2.2.1,s.2.2.2.2,([]:SM)))=some (s.1,s.2.1,s.2.2.1,s.2.2.2.1,s.2.2.2.2,z):=by
 obtain⟨z,hz,hzm⟩:∃z:SM,Ri kltS z/\∀n,mhas keqS z n=true↔InG s.2.1 u n:=by
  refine⟨(inE s.2.1 u).map fun n=>(n,()),bI.2 (xaY h.gR u),fun n=>?_⟩;rw[kS.has_iff,<-ynQ];constructor
  ·rintro⟨v,hv⟩;obtain⟨m,hm,e⟩:=aR.1 hv;cases e;exact hm
  ·exact fun hn=>⟨(),aR.2 ⟨n,hn,rfl⟩⟩
 refine⟨z,hz,hzm,?_⟩
 -- a set that is no more than what it shall be
 let ok:SM->Prop:=fun t=>Ri kltS t/\∀n,mhas keqS t n=true->InG s.2.1 u n
 have okl:∀t,ok t->t.length<=s.2.1.length:=fun t ht=>by
  have hn:(t.map (·.1)).Nodup:=(bI.2 (ht.1.imp fun {p q} hpq=>kS.lt_ne hpq):(t.map (·.1)).Pairwise (· ≠ ·));have:=zjR hn (m:=s.2.1.map (·.1)) fun x hx=>by obtain⟨p,hp,rfl⟩:=aR.1 hx;obtain⟨g,hg⟩:=kS.has_iff.1 (ht.2 p.1 (kS.has_iff.2 ⟨p.2,hp⟩)).key;exact aR.2 ⟨_,hg,rfl⟩
  simpa using this
 -- nothing is to come of a group
 let done:SM->L8->Gr->Prop:=fun t n g=>mhas keqS t n=true∨(u∉lst 0 g/\∀x∈lst 1 g,mhas keqS t x=false)
 have fin:∀t,ok t->(∀n g,(n,g)∈s.2.1->done t n g)->t=z:=fun t ht hd=>by
  refine kS.ext_get ht.1 hz fun n=>?_;have:mhas keqS t n=mhas keqS z n:=by
   rw[Bool.eq_iff_iff,hzm];refine⟨ht.2 n,fun hn=>?_⟩;induction hn with
   |dir hg hu=>
    rcases hd _ _ hg with h1|⟨h1,_⟩
    ·exact h1
    ·exact absurd hu h1
   |sub hg hx _ ih=>
    rcases hd _ _ hg with h1|⟨_,h1⟩
    ·exact h1
    ·rw[h1 _ hx]at ih;cases ih
  rw[ybO,ybO]at this;cases h1:mget keqS t n with
  |none=>cases h2:mget keqS z n with
   |none=>rfl|some v=>rw[h1,h2]at this;cases this
  |some v=>cases h2:mget keqS z n with
   |none=>rw[h1,h2]at this;cases this
   |some w=>rfl
 refine ybF (S:=T7⊕T8) (fun x=>by
  cases x with
  |inl x=>exact gC _ _|inr x=>exact znD _ _ _) (fun x=>match x with
   |.inl y=>∃t,y=(y.1,s.1,s.2.1,s.2.2.1,s.2.2.2.1,s.2.2.2.2,t)/\ok t/\(y.1=false->∀n g,(n,g)∈s.2.1->done t n g)|.inr y=>∃left t,y=(y.1,s.1,s.2.1,s.2.2.1,s.2.2.2.1,s.2.2.2.2,left,t)/\ok t/\left.length<=s.2.1.length/\(y.1=false->∀n g,(n,g)∈s.2.1->n∉left->done t n g))
  (fun x=>match x with
   |.inl y=>(s.2.1.length-y.2.2.2.2.2.2.length)*(s.2.1.length+3)+bif y.1 then s.2.1.length+2 else 0
   |.inr y=>(s.2.1.length-y.2.2.2.2.2.2.2.length)*(s.2.1.length+3)+y.2.2.2.2.2.2.1.length+1+bif y.1 then s.2.1.length+3 else 0) (fun x hx o ho=>?_) ⟨[],rfl,⟨.nil,fun n h=>by cases h⟩,fun h=>by cases h⟩
 cases x with
 |inl y=>
  obtain⟨t,hy,ht,hd⟩:=hx;obtain⟨more,y2⟩:=y;have hy2:y2=(s.1,s.2.1,s.2.2.1,s.2.2.2.1,s.2.2.2.2,t):=congrArg Prod.snd hy;subst hy2;have ho:o=znI zaB more s.1 s.2.1 s.2.2.1 s.2.2.2.1 s.2.2.2.2 t:=aT.1 ho;unfold znI at ho;cases more with
  |true=>refine .inl ⟨_,ho,⟨cU Prod.fst s.2.1,t,rfl,ht,by rw[aE];exact aI _,fun _ n g hg hn=>absurd (aR.2 ⟨_,hg,rfl⟩) hn⟩,?_⟩;show(s.2.1.length-t.length)*(s.2.1.length+3)+(cU Prod.fst s.2.1).length+1+0<(s.2.1.length-t.length)*(s.2.1.length+3)+(s.2.1.length+2);rw[aE];omega
  |false=>right;rw[<-fin t ht (hd rfl)];exact ho
 |inr y=>
  obtain⟨left,t,hy,ht,hll,hd⟩:=hx;obtain⟨more,y2⟩:=y;have hy2:y2=(s.1,s.2.1,s.2.2.1,s.2.2.2.1,s.2.2.2.2,left,t):=congrArg Prod.snd hy;subst hy2;have ho:o∈znM zaB u more s.1 s.2.1 s.2.2.1 s.2.2.2.1 s.2.2.2.2 left t:=ho;unfold znM at ho;rcases yjW ho with⟨he,rfl⟩|⟨p,hp,rfl⟩
  ·refine .inl ⟨_,rfl,⟨t,rfl,ht,fun hm n g hg=>hd hm n g hg fun hn=>?_⟩,?_⟩
   ·have:=kS.rngC_mem.2 ⟨hg,hn⟩;rw[he]at this;cases this
   ·show(s.2.1.length-t.length)*(s.2.1.length+3)+(bif more then s.2.1.length+2 else 0)<(s.2.1.length-t.length)*(s.2.1.length+3)+left.length+1+(bif more then s.2.1.length+3 else 0);cases more<;>simp only[zE,zF]<;>omega
  ·obtain⟨hp1,hp2⟩:=kS.rngC_mem.1 hp;have hgl:=h.gl p.1 p.2 hp1;have hlen:∀i,i<3->(lst i p.2).length<=64:=fun i hi=>h.lst_len hp1 hi;have hd1:=kS.rngD_len hp2;rw[kS.get_mem h.gR (k:=p.1) (v:=p.2) hp1,zaA];simp only
   have stay:done t p.1 p.2->(∃s',(some (.inl (.inr (more,s.1,s.2.1,s.2.2.1,s.2.2.2.1,s.2.2.2.2,rngD keqS left p.1,t))):Option ((T7⊕T8)⊕(UM×GM×RM×CM×MM×SM)))=some (.inl s')/\(match s' with
     |.inl y=>∃t,y=(y.1,s.1,s.2.1,s.2.2.1,s.2.2.2.1,s.2.2.2.2,t)/\ok t/\(y.1=false->∀n g,(n,g)∈s.2.1->done t n g)|.inr y=>∃left t,y=(y.1,s.1,s.2.1,s.2.2.1,s.2.2.2.1,s.2.2.2.2,left,t)/\ok t/\left.length<=s.2.1.length/\(y.1=false->∀n g,(n,g)∈s.2.1->n∉left->done t n g))/\(match s' with
     |.inl y=>(s.2.1.length-y.2.2.2.2.2.2.length)*(s.2.1.length+3)+bif y.1 then s.2.1.length+2 else 0
     |.inr y=>(s.2.1.length-y.2.2.2.2.2.2.2.length)*(s.2.1.length+3)+y.2.2.2.2.2.2.1.length+1+bif y.1 then s.2.1.length+3 else 0)<(s.2.1.length-t.length)*(s.2.1.length+3)+left.length+1+bif more then s.2.1.length+3 else 0):=fun hdn=>by
    refine⟨_,rfl,⟨_,t,rfl,ht,by omega,fun hm n g hg hn=>?_⟩,?_⟩
    ·by_cases e:n=p.1
     ·subst e;have:=kS.get_mem h.gR (k:=p.1) (v:=g) hg;rw[kS.get_mem h.gR (k:=p.1) (v:=p.2) hp1]at this;cases this;exact hdn
     ·exact hd hm n g hg fun hn2=>hn (kS.rngD_mem.2 ⟨hn2,e⟩)
    ·simp only;omega
   have add:InG s.2.1 u p.1->mhas keqS t p.1=false->(∃s',(some (.inl (.inr (true,s.1,s.2.1,s.2.2.1,s.2.2.2.1,s.2.2.2.2,rngD keqS left p.1,mset keqS kltS t p.1 ()))):Option ((T7⊕T8)⊕(UM×GM×RM×CM×MM×SM)))=some (.inl s')/\(match s' with
     |.inl y=>∃t,y=(y.1,s.1,s.2.1,s.2.2.1,s.2.2.2.1,s.2.2.2.2,t)/\ok t/\(y.1=false->∀n g,(n,g)∈s.2.1->done t n g)|.inr y=>∃left t,y=(y.1,s.1,s.2.1,s.2.2.1,s.2.2.2.1,s.2.2.2.2,left,t)/\ok t/\left.length<=s.2.1.length/\(y.1=false->∀n g,(n,g)∈s.2.1->n∉left->done t n g))/\(match s' with
     |.inl y=>(s.2.1.length-y.2.2.2.2.2.2.length)*(s.2.1.length+3)+bif y.1 then s.2.1.length+2 else 0
     |.inr y=>(s.2.1.length-y.2.2.2.2.2.2.2.length)*(s.2.1.length+3)+y.2.2.2.2.2.2.1.length+1+bif y.1 then s.2.1.length+3 else 0)<(s.2.1.length-t.length)*(s.2.1.length+3)+left.length+1+bif more then s.2.1.length+3 else 0):=fun hin hno=>by
    have ht2:ok (mset keqS kltS t p.1 ()):=by
     refine⟨kS.set_ri ht.1,fun n hn=>?_⟩;rw[ybO,kS.set_get ht.1]at hn;by_cases e:keqS p.1 n=true
     ·rw[<-kS.e.1 e];exact hin
     ·rw[zH e,<-ybO]at hn;exact ht.2 n hn
    refine⟨_,rfl,⟨_,_,rfl,ht2,by omega,fun hm=>by cases hm⟩,?_⟩;have hlen2:=okl _ ht2;have e:(mset keqS kltS t p.1 ()).length=t.length+1:=by rw[set_len,hno,zH (by simp)]
    simp only[zE];rw[e]at hlen2 ⊢;obtain⟨d,hd⟩:∃d,s.2.1.length-t.length=d+1:=⟨s.2.1.length-t.length-1,by omega⟩;rw[hd,show s.2.1.length-(t.length+1)=d by omega,Nat.succ_mul];have:(bif more then s.2.1.length+3 else 0)≥0:=aZ _;omega
   cases h1:mhas keqS t p.1 with
   |true=>exact .inl (stay (.inl h1))|false=>
    rw[zF,show zgG zaB p.2.1.2.1 t=_ from cont_ok _ t (show(lst 1 p.2).length<=_ by have:=hlen 1 (by decide);omega),zaA];simp only;cases h2:p.2.1.2.1.any fun x=>mhas keqS t x with
    |true=>obtain⟨x,hx,hxt⟩:=dK.1 h2;exact .inl (add (.sub hp1 hx (ht.2 x hxt)) h1)
    |false=>
     rw[zF,show zjK zaB p.2.1.1 u=_ from has_ok u (hgl 0 (by decide)).1 (show(lst 0 p.2).length<=_ by have:=hlen 0 (by decide);omega),zaA];cases h3:p.2.1.1.contains u with
     |true=>exact .inl (add (.dir hp1 (cF.1 h3)) h1)|false=>
      refine .inl (stay (.inr ⟨fun hu=>?_,fun x hx=>?_⟩))
      ·rw[cF.2 (show u∈p.2.1.1 from hu)]at h3;cases h3
      ·have:=eL.1 h2 x hx;simpa using this
theorem in_ok{B:Int}{s:PS}(h:PInv B s)(u:L8):zdA zaB u s.1 s.2.1 s.2.2.1 s.2.2.2.1 s.2.2.2.2=some (inE s.2.1 u,s):=by
 obtain⟨z,hz,hzm,hr⟩:=in_rng h u;have hl:=h.gL;have hkey:∀p∈z,mhas keqS s.2.1 p.1=true:=fun p hp=>((hzm p.1).1 (kS.has_iff.2 ⟨p.2,hp⟩)).key;have hzl:z.length<=32:=by
  have hn:(z.map (·.1)).Nodup:=(bI.2 (hz.imp fun {p q} hpq=>kS.lt_ne hpq):(z.map (·.1)).Pairwise (· ≠ ·));have:=zjR hn (m:=s.2.1.map (·.1)) fun x hx=>by obtain⟨p,hp,rfl⟩:=aR.1 hx;obtain⟨g,hg⟩:=kS.has_iff.1 (hkey p hp);exact aR.2 ⟨_,hg,rfl⟩
  rw[aE,aE]at this;omega
 unfold zdA ybQ
 rw[hr,zaA,zaA,zvM hz (by omega) fun p hp=>by
  obtain⟨g,hg⟩:=kS.has_iff.1 (hkey p hp)
  exact bC (ziL (h.gn p.1 g hg).1) (by decide),zaA]
 have e:z.map (·.1)=inE s.2.1 u:=by
  refine RiL.ext (bI.2 hz) (xaY h.gR u) fun n=>?_;rw[ynQ,<-hzm,kS.has_iff];constructor
  ·intro hn;obtain⟨p,hp,rfl⟩:=aR.1 hn;exact⟨p.2,hp⟩
  ·rintro⟨v,hv⟩;exact aR.2 ⟨_,hv,rfl⟩
 rw[e]
end Go.Proofs.YtopanhneegpgcaaGreatDoor.Am
namespace Go.Proofs.YtopanhneegpgcaaGreatDoor
open Go Go.RowKit
section
open Go Go.RowKit Go.ChangeShapes Go.WideShapes Go.ChangeAt
section
variable {H:Type}{enc:TypeId×Value->H}{P:Program}{W W':World}
theorem yiB(hl:laidOutB P=true)(hx:Below W.heap.size W W'):∀{ts:List TypeId} {vs:LV} {ds:List (DataW H)} {ps:List MemPlace},ts.all (fun t=>P.readableRec t&&decide (t<P.types.size))=true ->
  DataW.TrodAll enc P W 0 (fun _=>true) true ts vs ds ps->(∀x∈ps,x.block<W.heap.size)->DataW.TrodAll enc P W' 0 (fun b=>decide (b<W.heap.size)) true ts vs ds ps
 |[],vs,ds,ps,_,h,_=>by obtain⟨rfl,rfl,rfl⟩:=trodAll_nil h;exact trodAll_mk0
 |t::ts,vs,ds,ps,ha,h,hlt=>by
  obtain⟨v,vs',d,ds',p,q,rfl,rfl,rfl,h0,hr⟩:=trodAll_cons h;simp only[List.all_cons,aF,zD]at ha
  exact trodAll_cons_mk (Below.trod hl ha.1.1 ha.1.2 h0 hx fun x hx=>hlt x (bD.2 (.inl hx)))
   (yiB hl hx ha.2 hr fun x hx=>hlt x (bD.2 (.inr hx)))
theorem trodAll_length:∀{ts:List TypeId} {vs:LV} {ds:List (DataW H)} {ps:List MemPlace} {w:World} {b:Nat} {sp:Nat->Bool} {hd:Bool},DataW.TrodAll enc P w b sp hd ts vs ds ps->vs.length=ts.length/\ds.length=ts.length
 |[],vs,ds,ps,_,_,_,_,h=>by obtain⟨rfl,rfl,rfl⟩:=trodAll_nil h;exact⟨rfl,rfl⟩
 |t::ts,vs,ds,ps,_,_,_,_,h=>by obtain⟨v,vs',d,ds',p,q,rfl,rfl,rfl,h0,hr⟩:=trodAll_cons h;have:=trodAll_length hr;simp[this.1,this.2]
theorem law_post{f:Func}{s:ChangeSpec}{args:Array Value}{ds gs:List (DataW H)}{before:List MemPlace}{B:TypeId}{n:Nat}(hl:laidOutB P=true)(hv:s.vars=[]) (hp:f.params.toList.all (fun t=>P.readableRec t&&decide (t<P.types.size))=true) (hn:f.params.toList.length=n) (hB:P.underlying B=some .bool) (hr:f.resultTypes = #[B]) (hfn:∀ds:List (DataW H),ds.length=n->(s.fn H (ds++[])).results=[.lit (.bool true)]/\(s.fn H (ds++[])).args=ds/\(s.fn H (ds++[])).vars=[]) (hW:DataW.Whole enc P f.params.toList s.vars false W args.toList ds gs before) (hx:Ext W W'):s.post enc P f false true false false W args (.bool true) W':=by
 have hW':=hW;obtain⟨p,q,hA,hV,rfl,_,_⟩:=hW;rw[hv]at hV;obtain⟨rfl,rfl⟩:=trodVars_none hV;have hA:DataW.TrodAll enc P W 0 (fun _=>true) true f.params.toList args.toList ds p:=hA;have hlen:=trodAll_length hA;obtain⟨f1,f2,f3⟩:=hfn ds (hlen.2.trans hn);refine⟨ds,[],p++[],[],p,[],hW',?_,?_,?_,Below.frame hx _,fun h=>by cases h⟩
 ·rw[f1,hr];exact trodAll_mk1 (shut_bool hB _)
 ·rw[f2];exact yiB hl hx hp hA fun x hxp=>by simpa using hW'.lt x (by simp[hxp])
 ·rw[f3,hv];exact rfl
variable {b0:Nat}{T E:TypeId}{v:Value}
theorem rowAt_le{fits:TypeId->Bool}:∀{d:Nat} {e:TypeId} {count off n:Nat},rowAt P fits d e count off n=true->off<=count*P.cellsOf e
 |0,_,_,_,_,h=>by simp[rowAt]at h
 |d+1,e,count,off,n,h=>by
  unfold rowAt at h;by_cases hs:P.cellsOf e=0
  ·simp[hs]at h
  ·have hd:=Nat.div_add_mod off (P.cellsOf e);have hm:=Nat.mod_lt off (Nat.pos_of_ne_zero hs);simp only[hs,if_false,bY,aF,zD,beq_iff_eq]at h;rcases h with⟨⟨h1,h2⟩,_⟩|⟨h1,_⟩
   ·have h3:P.cellsOf e*(off/P.cellsOf e)<=P.cellsOf e*count:=jD _ (by omega);rw[Nat.mul_comm count];omega
   ·have h3:P.cellsOf e*(off/P.cellsOf e+1)<=P.cellsOf e*count:=jD _ (by omega);rw[Nat.mul_add,Nat.mul_one]at h3;rw[Nat.mul_comm count];omega
theorem yoJ:∀{d:Nat} {e:TypeId} {count off:Nat} {u:TypeId} {n:Nat},liesAt P d e count off u n=true->off<=count*P.cellsOf e
 |0,_,_,_,_,_,h=>by simp[liesAt]at h
 |d+1,e,count,off,u,n,h=>by
  unfold liesAt at h;rw[bY]at h;rcases h with h|h
  ·exact rowAt_le h
  ·split at h
   ·exact yoJ h
   ·cases h
theorem ok_place{a:Addr}{len cap:Nat}(hu:P.underlying T=some (.slice E))(h:Value.okWide P W .any b0 T (.slice (some a) len cap)):
  a.spot=none/\∃cs R fz,W.heap[a.block]? = some (.cells cs R fz)/\a.off<=cs.size:=by
 simp only[Value.okWide,Cell.okWide,Cell.ok,hu]at h;obtain⟨_,_,_,h2,row,cells,h3,h4⟩:=h;refine⟨h2,?_⟩;unfold World.shape? at h3;split at h3
 ·rename_i c elem fz hb;simp only[Option.some.injEq,Prod.mk.injEq]at h3;obtain⟨rfl,rfl⟩:=h3;have h5:=yoJ h4;have h6:=Nat.div_mul_le_self c.size (P.cellsOf elem);exact⟨c,_,fz,hb,by omega⟩
 ·cases h3
theorem ok_slice(hu:P.underlying T=some (.slice E))(h:Value.okWide P W .any b0 T v):v = .slice none 0 0∨∃a len cap,v = .slice (some a) len cap:=by
 simp only[Value.okWide,Cell.okWide,Cell.ok,hu]at h;cases v with
 |slice a len cap=>
  cases a with
  |none=>
   left;cases len with
   |zero=>cases cap with
    |zero=>rfl|succ n=>simp at h
   |succ n=>simp at h
  |some a=>exact .inr ⟨a,len,cap,rfl⟩
 |_=>simp at h
theorem ywC{l r:List (DataW H)}:Rows.uptoBulkAll (l++r)=Rows.uptoBulkAll l+Rows.uptoBulkAll r:=by
 induction l with
 |nil=>simp[Rows.uptoBulkAll]|cons x l ih=>simp only[bG,Rows.uptoBulkAll,ih];omega
end
end
end Go.Proofs.YtopanhneegpgcaaGreatDoor
namespace Go.Proofs.YtopanhneegpgcaaGreatDoor.Am
open Go Go.RowKit Go.ChangeShapes Go.WideShapes Go.ChangeAt
def dsz:(t:Ty)->den t->Nat
 |.s,x=>List.length x+1|.pr a c,x=>dsz a x.1+dsz c x.2|.un,_=>0|.sl e,x=>(cU (dsz e) x).sum+1|_,_=>1
def fOk(q:TypeId->Ty->Bool)(c:TypeId->Nat):List Field->Nat->Ty->Bool
 |[],_,t=>match t with
  |.un=>true|_=>false
 |[f],off,t=>(q f.type t&&(aG f.offset off&&aG (c f.type) (tsz t)))||(match t with
  |.pr a .un=>q f.type a&&(aG f.offset off&&aG (c f.type) (tsz a))|_=>false)
 |f::g::fs,off,t=>match t with
  |.pr a r=>(q f.type a&&(aG f.offset off&&aG (c f.type) (tsz a)))&&fOk q c (g::fs) (off+tsz a) r|_=>false
def tyOk(P:Program):Nat->TypeId->Ty->Bool
 |0,_,_=>false|n+1,T,t=>match P.underlying T,t with
  |some (.int k),.i k'=>(ikEq k k').isSome|some .bool,.b=>true|some .string,.s=>true|some (.slice E),.sl e=>tyOk P n E e&&(aG (P.cellsOf E) (tsz e)&&Nat.blt 0 (tsz e))|some (.struct fs),t=>(aG (P.cellsOf T) (tsz t) && !(one t))&&fOk (tyOk P n) P.cellsOf fs.toList 0 t|_,_=>false
section
variable {H:Type}{enc:TypeId×Value->H}{P:Program}{W:World}{sp:Nat->Bool}{S:Mem}
theorem toI_wf:∀{k:IntKind} {n:Int},(Lit.int k n).wf=true->toI k (ofI k n)=n:=fun {k n} h=>by rw[xaK];cases k<;>simp[Lit.wf,IntKind.min,IntKind.max,IntKind.signed,IntKind.bits]at h<;>simp[IntKind.wrap,IntKind.signed,IntKind.bits]<;>omega
theorem ypK{a c:Ty}{cs:LV}{x:den a}{y:den c}(hx:rep a S (cs.take (tsz a)) x)(hy:rep c S (cs.drop (tsz a)) y):rep (.pr a c) S cs (x,y):=
 ⟨_,_,(List.take_append_drop (tsz a) cs).symm,hx,hy⟩
theorem rep_un:rep .un S ([]:LV) ():=rfl
theorem yqP{q:TypeId->Ty->Bool}{fuel:Nat}(hq:∀(T:TypeId) (t:Ty),q T t=true->∀cs d ps,DataW.trod enc P W 0 sp true fuel T cs=some (d,ps)->∃x:den t,rep t S cs x/\dsz t x<=Rows.uptoBulk d){cs:LV}:∀(fs:List Field) (off:Nat) (t:Ty) (xs:List (DataW H×List MemPlace)),fOk q P.cellsOf fs off t=true->cs.length=off+tsz t ->
   A2 (fun(f:Field) y=>DataW.trod enc P W 0 sp true fuel f.type ((cs.drop f.offset).take (P.cellsOf f.type))=some y) fs xs ->
   ∃x:den t,rep t S (cs.drop off) x/\dsz t x<=Rows.uptoBulkAll (xs.map (·.1))
 |[],off,t,xs,h,hl,hA=>by
  cases t<;>simp only[fOk]at h<;>try (cases h;done)
  cases hA;refine⟨(),?_,aZ _⟩;rw[eX (by rw[hl];exact aI _)];exact rep_un
 |[f],off,t,xs,h,hl,hA=>by
  cases hA with
  | @cons _ y _ _ h1 h2=>
   cases h2;simp only[fOk,bY]at h;rcases h with h|h
   ·rw[aF,aF]at h;obtain⟨h0,h2,h3⟩:=h;have h2:=aB h2;have h3:=aB h3;obtain⟨x,hx,hd⟩:=hq _ _ h0 _ _ _ h1;refine⟨x,?_,by simp only[bF,fA,Rows.uptoBulkAll];omega⟩;rw[h2,h3,cX (by rw[bH];omega)]at hx;exact hx
   ·cases t with
    |pr a c=>
     cases c with
     |un=>rw[aF,aF]at h;obtain⟨h0,h2,h3⟩:=h;have h2:=aB h2;have h3:=aB h3;obtain⟨x,hx,hd⟩:=hq _ _ h0 _ _ _ h1;rw[h2,h3]at hx;have hl:cs.length=off+tsz a:=hl;refine⟨(x,()),ypK hx ?_,by simp only[bF,fA,Rows.uptoBulkAll];show dsz a x+0<=_;omega⟩;rw[eX (by rw[bH];omega)];exact rep_un
     |_=>simp at h
    |_=>simp at h
 |f::g::fs,off,t,xs,h,hl,hA=>by
  cases t with
  |pr a r=>
   simp only[fOk]at h;rw[aF,aF,aF]at h;obtain⟨⟨h1,h2,h3⟩,h4⟩:=h;have h2:=aB h2;have h3:=aB h3;have hl:cs.length=off+(tsz a+tsz r):=hl;cases hA with
   | @cons _ y _ ys g1 g2=>obtain⟨x,hx,hd⟩:=hq _ _ h1 _ _ _ g1;obtain⟨z,hz,he⟩:=yqP hq (g::fs) (off+tsz a) r ys h4 (by omega) g2;rw[h2,h3]at hx;refine⟨(x,z),ypK hx (by rw[eA];exact hz),?_⟩;simp only[bF,Rows.uptoBulkAll];show dsz a x+dsz r z<=_;omega
  |_=>simp[fOk]at h
theorem A2_get{α β:Type}{R:α->β->Prop}:∀{l:List α} {m:List β},l.length=m.length->(∀(i:Nat) (a:α) (b:β),l[i]? = some a->m[i]? = some b->R a b)->A2 R l m
 |[],[],_,_=>.nil|[],_::_,h,_=>by cases h
 |_::_,[],h,_=>by cases h
 |a::l,b::m,h,hR=>.cons (hR 0 a b rfl rfl) (A2_get (by simpa using h) fun i a b ha hb=>hR (i+1) a b (by simpa using ha) (by simpa using hb))
theorem xcH{e:Ty}:∀{xs:List (den e)} {cs ds:LV} {x:den e},@RL (den e) (rpD e) S cs xs->rep e S ds x->@RL (den e) (rpD e) S (cs++ds) (xs++[x])
 |[],cs,ds,x,h,hx=>by have h:cs=[]:=h;subst h;exact⟨ds,[],by simp,hx,rfl⟩
 |y::xs,cs,ds,x,h,hx=>by obtain⟨c,d,rfl,h1,h2⟩:=h;exact⟨c,d++ds,by simp,h1,xcH h2 hx⟩
theorem sl_of{T E:TypeId}{e:Ty}{fuel:Nat}(hu:P.underlying T=some (.slice E))(hc:P.cellsOf E=tsz e)(hz:0<tsz e)(hq:∀(m:Nat) (cs:LV) (d:DataW H) (ps:List MemPlace),DataW.trod enc P W 0 (fun _=>true) true m E cs=some (d,ps)->∃x:den e,rep e (zwE W) cs x/\dsz e x<=Rows.uptoBulk d){cs:LV}{d:DataW H}{ps:List MemPlace}(hd:DataW.trod enc P W 0 (fun _=>true) true fuel T cs=some (d,ps)):∃xs:List (den e),rep (.sl e) (zwE W) cs xs/\dsz (.sl e) xs<=Rows.uptoBulk d:=by
 rcases DataW.trod_slice hu hd with⟨rfl,h2⟩|⟨a,len,cap,elems,rest,m,rfl,rfl,h2,_,hlc,_,hel,hget,hrest,_⟩
 ·cases h2;exact⟨[],⟨_,rfl,[],.inl ⟨⟨none,rfl⟩,rfl,rfl⟩,rfl⟩,aI _⟩
 ·cases h2;by_cases hcap:cap=0
  ·subst hcap;obtain rfl:len=0:=by omega
   refine⟨[],⟨_,rfl,[],.inl ⟨⟨some a,rfl⟩,rfl,rfl⟩,rfl⟩,?_⟩;show 0+1<=_;simp only[Rows.uptoBulk];omega
  have h0:∃us,W.cells? 0 a (P.cellsOf E)=some us:=by
   by_cases hl0:len=0
   ·subst hl0;obtain⟨g1,g2⟩:=hrest rfl;have g3:=g2 0 (by omega);rw[aO (by omega:0<rest.length)]at g3;obtain⟨us,hus,_⟩:=fL.1 g3;rw[show a.add ((0+0)*P.cellsOf E)=a by simp[Addr.add]]at hus;exact⟨us,hus⟩
   ·have g3:=hget 0 (by omega);rw[aO (by omega:0<elems.length)]at g3;obtain⟨us,hus,_⟩:=fL.1 g3;rw[show a.add (0*P.cellsOf E)=a by simp[Addr.add]]at hus;exact⟨us,hus⟩
  obtain⟨us,hus⟩:=h0;obtain⟨_,hul,huc⟩:=World.cells?_some hus;have hc0:=huc 0 (by omega);rw[show a.add 0=a by simp[Addr.add],aO (by omega:0<us.length)]at hc0;obtain⟨blk,off,spot⟩:=a;obtain⟨cs,R,fz,hb,hsp,ho⟩:∃cs R fz,W.heap[blk]? = some (.cells cs R fz)/\spot=none/\off<=cs.size:=by
   unfold World.cell? at hc0
   dsimp only at hc0
   split at hc0
   ·rename_i c R fz hb;cases spot with
    |some s=>simp at hc0|none=>rw[zH (by simp)]at hc0;have:=(Array.getElem?_eq_some_iff.1 hc0).1;exact⟨c,R,fz,hb,rfl,Nat.le_of_lt this⟩
   ·cases hc0
  subst hsp;have ad:∀j,(⟨blk,off,none⟩:Addr).add j=⟨blk,off+j,none⟩:=fun j=>by simp[Addr.add]
  have each:∀i,i<len->∃y x,elems[i]? = some y/\rep e (zwE W) (piece cs.toList (off+i*tsz e) (tsz e)) x/\dsz e x<=Rows.uptoBulk y.1/\off+(i+1)*tsz e<=cs.toList.length:=fun i hi=>by
   have hg:=hget i hi;obtain⟨y,hy⟩:∃y,elems[i]? = some y:=⟨_,aO (by omega)⟩;rw[hy]at hg;obtain⟨us,hus,hg⟩:=fL.1 hg;obtain⟨_,hul,huc⟩:=World.cells?_some hus;obtain⟨x,hx,hdx⟩:=hq m us y.1 y.2 hg;rw[hc,ad]at huc;rw[hc]at hul;have hcell:∀j,j<tsz e->cs.toList[off+i*tsz e+j]? = us[j]?:=fun j hj=>by have:=huc j hj;rw[show(⟨blk,off+i*tsz e,none⟩:Addr).add j=⟨blk,off+i*tsz e+j,none⟩ by simp[Addr.add]]at this;simp only[World.cell?,hb,iG,zH (show ¬(false=true) by decide)]at this;simpa using this
   have hlen:off+(i+1)*tsz e<=cs.toList.length:=by have h1:=hcell (tsz e-1) (by omega);rw[aO (by omega:tsz e-1<us.length)]at h1;have:=(aD.1 h1).1;rw[cB];omega
   refine⟨y,x,hy,?_,hdx,hlen⟩;have:piece cs.toList (off+i*tsz e) (tsz e)=us:=by
    apply bS;intro j;rw[zbB,cZ];by_cases hj:j<tsz e
    ·rw[zI hj,bR];exact hcell j hj
    ·rw[zH hj,cQ (by omega)]
   rw[this];exact hx
  have key:∀k,k<=len->∃xs:List (den e),xs.length=k/\@RL (den e) (rpD e) (zwE W) (piece cs.toList off (k*tsz e)) xs/\(cU (dsz e) xs).sum<=Rows.uptoBulkAll ((elems.take k).map (·.1)):=by
   intro k;induction k with
   |zero=>intro _;exact⟨[],rfl,by simp[piece,RL],aZ _⟩|succ k ih=>
    intro hk;obtain⟨xs,h1,h2,h3⟩:=ih (by omega);obtain⟨y,x,g1,g2,g3,_⟩:=each k (by omega);refine⟨xs++[x],by simp[h1],?_,?_⟩
    ·have e2:piece cs.toList off ((k+1)*tsz e)=piece cs.toList off (k*tsz e)++piece cs.toList (off+k*tsz e) (tsz e):=by rw[zbB,zbB,zbB,cB,eZ,List.take_add,eA]
     rw[e2];exact xcH h2 g2
    ·rw[jO,g1];simp only[jI,cT,bF,fA,List.sum_append,iL,List.sum_nil,ywC,Rows.uptoBulkAll];omega
  obtain⟨xs,h1,h2,h3⟩:=key len (aI _);have hfit:off+len*tsz e<=cs.toList.length:=by
   rcases eY len with h0|h0
   ·subst h0;rw[iB];omega
   ·obtain⟨_,_,_,_,_,h4⟩:=each (len-1) (by omega)
    rwa[gF h0]at h4
  refine⟨xs,⟨_,rfl,piece cs.toList off (len*tsz e),?_,h2⟩,?_⟩
  ·right;refine⟨blk,off,cap,cs.toList,R,fz,?_,by rw[h1];exact hlc,by simpa[zwE]using hb,?_,?_⟩
   ·rw[h1]
   ·rw[h1];show _+_*(rpD e).sz<=_;rw[zpS];exact hfit
   ·rw[h1];show piece _ _ (_*(rpD e).sz)=_;rw[zpS]
  ·rw[cX (by omega)]at h3;show(cU (dsz e) xs).sum+1<=_;simp only[Rows.uptoBulk];omega
theorem ylR:∀(n:Nat) (T:TypeId) (t:Ty),tyOk P n T t=true->∀(fuel:Nat) (cs:LV) (d:DataW H) (ps:List MemPlace),DataW.trod enc P W 0 (fun _=>true) true fuel T cs=some (d,ps)->∃x:den t,rep t (zwE W) cs x/\dsz t x<=Rows.uptoBulk d
 |0,_,_,h,_,_,_,_,_=>by cases h
 |n+1,T,t,h,fuel,cs,d,ps,hd=>by
  unfold tyOk at h;split at h
  ·rename_i k k' hu;obtain⟨hk,_⟩:=Option.isSome_iff_exists.1 h;obtain rfl:=hk.down;obtain⟨m,rfl,he,hw⟩:=DataW.trod_int hu hd;cases he;exact⟨ofI _ m,(by show [Value.int _ m]=[.int _ (toI _ (ofI _ m))];rw[toI_wf hw]),aI 1⟩
  ·rename_i hu;obtain⟨b,rfl,he⟩:=DataW.trod_bool hu hd;cases he;exact⟨b,rfl,aI 1⟩
  ·rename_i hu;obtain⟨s,rfl,he,_⟩:=DataW.trod_string hu hd;cases he;exact⟨s.data.toList,(by show [Value.string s]=[str s.data.toList];simp[str]),aI _⟩
  ·rename_i E e hu;rw[aF,aF]at h;obtain⟨h1,h2,h3⟩:=h;exact sl_of hu (aB h2) (by rw[zpD]at h3;simpa using h3) (fun m cs d ps hd=>ylR n E e h1 m cs d ps hd) hd
  ·rename_i fs hu;rw[aF,aF]at h;obtain⟨⟨h1,_⟩,h2⟩:=h;have h1:=aB h1;obtain⟨xs,fuel,rfl,he,hl,hxl,hm⟩:=DataW.trod_struct hu hd;cases he;obtain⟨x,hx,hb⟩:=yqP (S:=zwE W) (fuel:=fuel) (fun T' t' hq cs d ps=>ylR n T' t' hq fuel cs d ps) fs.toList 0 _ xs h2 (by rw[hl,h1];omega) (A2_get (by simp[hxl]) fun i f y hf hy=>(hm i f (by simpa using hf)).trans hy);exact⟨x,by simpa using hx,by simp only[Rows.uptoBulk];omega⟩
  ·cases h
variable {b0:Nat}{T E:TypeId}{v:Value}
theorem slice_ok{n:Nat}{e:Ty}(hu:P.underlying T=some (.slice E))(he:tyOk P n E e=true)(hc:P.cellsOf E=tsz e)(hz:0<tsz e)(h:Value.okWide P W .any b0 T v){d:DataW H}{ps:List MemPlace}(hd:DataW.Trod enc P W 0 (fun _=>true) true T v d ps):∃xs:List (den e),@RdS (den e) (rpD e) (zwE W) v xs/\dsz (.sl e) xs<=Rows.uptoBulk d:=by
 obtain⟨fuel,hf⟩:=hd;have hv:=ok_slice hu h;have hcells:v.cells.toList=[v]:=by rcases hv with rfl|⟨a,len,cap,rfl⟩<;>rfl
 rw[hcells]at hf;rcases DataW.trod_slice hu hf with⟨h1,h2⟩|⟨a,len,cap,elems,rest,m,rfl,h1,h2,_,hlc,_,hel,hget,_,_⟩
 ·simp only[List.cons.injEq,and_true]at h1;subst h1;cases h2;exact⟨[],⟨[],.inl ⟨⟨none,rfl⟩,rfl,rfl⟩,rfl⟩,aI _⟩
 ·simp only[List.cons.injEq,and_true]at h1;subst h1;cases h2;obtain⟨hsp,cs,R,fz,hb,ho⟩:=ok_place hu h;obtain⟨blk,off,spot⟩:=a
  dsimp only at hsp hb ho
  subst hsp;have ad:∀j,(⟨blk,off,none⟩:Addr).add j=⟨blk,off+j,none⟩:=fun j=>by simp[Addr.add]
  have each:∀i,i<len->∃y x,elems[i]? = some y/\rep e (zwE W) (piece cs.toList (off+i*tsz e) (tsz e)) x/\dsz e x<=Rows.uptoBulk y.1/\off+(i+1)*tsz e<=cs.toList.length:=fun i hi=>by
   have hg:=hget i hi;obtain⟨y,hy⟩:∃y,elems[i]? = some y:=⟨_,aO (by omega)⟩;rw[hy]at hg;obtain⟨us,hus,hg⟩:=fL.1 hg;obtain⟨_,hul,huc⟩:=World.cells?_some hus;obtain⟨x,hx,hdx⟩:=ylR n E e he m us y.1 y.2 hg;rw[hc,ad]at huc;rw[hc]at hul;have hcell:∀j,j<tsz e->cs.toList[off+i*tsz e+j]? = us[j]?:=fun j hj=>by have:=huc j hj;rw[show(⟨blk,off+i*tsz e,none⟩:Addr).add j=⟨blk,off+i*tsz e+j,none⟩ by simp[Addr.add]]at this;simp only[World.cell?,hb,iG,zH (show ¬(false=true) by decide)]at this;simpa using this
   have hlen:off+(i+1)*tsz e<=cs.toList.length:=by have h1:=hcell (tsz e-1) (by omega);rw[aO (by omega:tsz e-1<us.length)]at h1;have:=(aD.1 h1).1;rw[cB];omega
   refine⟨y,x,hy,?_,hdx,hlen⟩;have:piece cs.toList (off+i*tsz e) (tsz e)=us:=by
    apply bS;intro j;rw[zbB,cZ];by_cases hj:j<tsz e
    ·rw[zI hj,bR];exact hcell j hj
    ·rw[zH hj,cQ (by omega)]
   rw[this];exact hx
  have key:∀k,k<=len->∃xs:List (den e),xs.length=k/\@RL (den e) (rpD e) (zwE W) (piece cs.toList off (k*tsz e)) xs/\(cU (dsz e) xs).sum<=Rows.uptoBulkAll ((elems.take k).map (·.1)):=by
   intro k;induction k with
   |zero=>intro _;exact⟨[],rfl,by simp[piece,RL],aZ _⟩|succ k ih=>
    intro hk;obtain⟨xs,h1,h2,h3⟩:=ih (by omega);obtain⟨y,x,g1,g2,g3,_⟩:=each k (by omega);refine⟨xs++[x],by simp[h1],?_,?_⟩
    ·have e2:piece cs.toList off ((k+1)*tsz e)=piece cs.toList off (k*tsz e)++piece cs.toList (off+k*tsz e) (tsz e):=by rw[zbB,zbB,zbB,cB,eZ,List.take_add,eA]
     rw[e2];exact xcH h2 g2
    ·rw[jO,g1];simp only[jI,cT,bF,fA,List.sum_append,iL,List.sum_nil,ywC,Rows.uptoBulkAll];omega
  obtain⟨xs,h1,h2,h3⟩:=key len (aI _);have hfit:off+len*tsz e<=cs.toList.length:=by
   rcases eY len with h0|h0
   ·subst h0;rw[iB];omega
   ·obtain⟨_,_,_,_,_,h4⟩:=each (len-1) (by omega)
    rwa[gF h0]at h4
  refine⟨xs,⟨piece cs.toList off (len*tsz e),?_,h2⟩,?_⟩
  ·right;refine⟨blk,off,cap,cs.toList,R,fz,?_,by rw[h1];exact hlc,by simpa[zwE]using hb,?_,?_⟩
   ·rw[h1]
   ·rw[h1];show _+_*(rpD e).sz<=_;rw[zpS];exact hfit
   ·rw[h1];show piece _ _ (_*(rpD e).sz)=_;rw[zpS]
  ·rw[cX (by omega)]at h3;show(cU (dsz e) xs).sum+1<=_;simp only[Rows.uptoBulk];omega
def argOk(P:Program)(T:TypeId)(t:Ty):Bool:=match P.underlying T,t with
 |some (.slice E),.sl e=>tyOk P 8 E e&&(aG (P.cellsOf E) (tsz e)&&Nat.blt 0 (tsz e))|_,t=>tyOk P 8 T t
theorem argD_ok{t:Ty}(ha:argOk P T t=true)(h:Value.okWide P W .any b0 T v){d:DataW H}{ps:List MemPlace}(hd:DataW.Trod enc P W 0 (fun _=>true) true T v d ps):∃x:den t,rep1 t (zwE W) v x/\dsz t x<=Rows.uptoBulk d:=by
 unfold argOk at ha;split at ha
 ·rename_i E e hu;rw[aF,aF]at ha;obtain⟨h1,h2,h3⟩:=ha;obtain⟨xs,g1,g2⟩:=slice_ok hu h1 (aB h2) (by rw[zpD]at h3;simpa using h3) h hd;exact⟨xs,⟨v,rfl,g1⟩,g2⟩
 ·obtain⟨fuel,hf⟩:=hd;obtain⟨x,hx,hb⟩:=ylR 8 T _ ha fuel _ _ _ hf;refine⟨x,?_,hb⟩;unfold rep1;unfold tyOk at ha;split at ha
  ·rename_i hu;have hv:v.cells.toList=[v]:=by simp only[Value.okWide,Cell.okWide,Cell.ok]at h;cases v<;>simp_all<;>rfl
   rw[hv]at hx;rw[zI (show one (.i _)=true from rfl)];exact hx
  ·rename_i hu;have hv:v.cells.toList=[v]:=by simp only[Value.okWide,Cell.okWide,Cell.ok]at h;cases v<;>simp_all<;>rfl
   rw[hv]at hx;rw[zI (show one .b=true from rfl)];exact hx
  ·rename_i hu;have hv:v.cells.toList=[v]:=by simp only[Value.okWide,Cell.okWide,Cell.ok]at h;cases v<;>simp_all<;>rfl
   rw[hv]at hx;rw[zI (show one .s=true from rfl)];exact hx
  ·rename_i hu hno;exact(hno _ _ hu rfl).elim
  ·rename_i fs hu _;rw[aF,aF]at ha;simp only[Value.okWide,hu]at h;obtain⟨cs,rfl,_,_⟩:=h;rw[zH (by simpa using ha.1.2)];exact⟨cs.toList,by simp,hx⟩
  ·cases ha
def posT:Ty->Bool
 |.un=>false|.pr a c=>posT a||posT c|_=>true
theorem ysO:∀{e:Ty},posT e=true->∀x:den e,1<=dsz e x
 |.i _,_,_=>aI 1|.b,_,_=>aI 1|.s,_,_=>Nat.le_add_left 1 _|.er,_,_=>aI 1|.sl _,_,_=>Nat.le_add_left 1 _|.mp _ _,_,_=>aI 1|.pr a c,h,x=>by
  show 1<=dsz a x.1+dsz c x.2;have h:(posT a||posT c)=true:=h;rw[bY]at h;rcases h with h|h
  ·have:=ysO h x.1;omega
  ·have:=ysO h x.2;omega
theorem xaA{e:Ty}(he:posT e=true):∀xs:List (den e),xs.length+1<=dsz (.sl e) xs
 |[]=>aI 1|x::xs=>by have h1:=ysO he x;have h2:xs.length+1<=(cU (dsz e) xs).sum+1:=xaA he xs;show(x::xs).length+1<=(cU (dsz e) (x::xs)).sum+1;simp only[aN,bF,iL];omega
theorem rep1_vr{t:Ty}{S:Mem}{E:List EI}{v:Value}{x:den t}(h:rep1 t S v x):VR S E (svOf t x) v:=xcV (l:=[t]) h
end
end Go.Proofs.YtopanhneegpgcaaGreatDoor.Am
namespace Go.Proofs.YtopanhneegpgcaaGreatDoor.Am
open Go Go.RowKit
theorem dsz_in{e:Ty}{x:den e}:∀{xs:List (den e)},x∈xs->dsz e x<=dsz (.sl e) xs
 |y::ys,h=>by
  show _<=(cU (dsz e) (y::ys)).sum+1;simp only[bF,iL];rcases aK.1 h with rfl|h
  ·omega
  ·have:dsz e x<=(cU (dsz e) ys).sum+1:=dsz_in h;omega
abbrev s0:PS:=(([]:UM),([]:GM),([]:RM),([]:CM),([]:MM))
theorem xdG:znP zaB=some s0:=rfl
theorem yhN(l:List L8)(x:L8)(hl:l.length<=1048576):zcG zaB l x=some (l.contains x):=by
 have key:∀(f i:Nat),f+i=l.length->∀g,f<g->ziC (zeA zaB l x) g (i:Int)=some (bif(l.drop i).contains x then .inl true else .inr ()):=by
  intro f;induction f with
  |zero=>
   intro i hi g hg;obtain⟨g,rfl⟩:∃m,g=m+1:=⟨g-1,by omega⟩;have hi:i=l.length:=by omega
   subst hi;rw[bX];refine zaW ?_;unfold zeA;rw[zaY (by omega)];rfl
  |succ f ih=>
   intro i hi g hg;obtain⟨g,rfl⟩:∃m,g=m+1:=⟨g-1,by omega⟩;have hlt:i<l.length:=by omega
   have hb:zeA zaB l x (i:Int)=bif l[i]==x then some (.inr (.inl true))else some (.inl ((i+1:Nat):Int)):=by unfold zeA;rw[zaX (by omega),zbD rfl hlt,zaA,zfA (by omega)]
   rw[aX hlt,List.contains_cons];cases hx:l[i]==x with
   |true=>rw[hx]at hb;rw[zaW (b:=.inl true) hb,show(x==l[i])=true by rw[beq_iff_eq]at hx ⊢;exact hx.symm];rfl|false=>rw[hx]at hb;rw[zaV (s':=((i+1:Nat):Int)) hb,ih (i+1) (by omega) g (by omega),show(x==l[i])=false by rw[beq_eq_false_iff_ne]at hx ⊢;exact fun e=>hx e.symm,Bool.false_or]
 have h0:=key l.length 0 (by omega) FU (by unfold FU;omega);unfold zcG;rw[show iter (zeA zaB l x) (0:Int)=_ from h0,zaA,bQ];cases l.contains x<;>rfl
theorem zzG{α:Type}{l:List α}{i:Nat}(h:i<l.length):chk (decide ((0:Int)<=(i:Int))&&decide ((i:Int)<(l.length:Int)))=some ():=by rw[zA (show(0:Int)<=(i:Int) by omega),zA (show(i:Int)<(l.length:Int) by omega)];rfl
theorem run_it{σ β:Type}{body:Int×σ->Option ((Int×σ)⊕β)}{n:Nat}(hn:n<=1048576)(s:σ){b:β}(hb:∀i:Nat,i<n->body ((i:Int),s)=some (.inl (((i+1:Nat):Int),s)))(he:body ((n:Int),s)=some (.inr b)):iter body ((0:Int),s)=some b:=by
 have key:∀(f i:Nat),f+i=n->∀g,f<g->ziC body g ((i:Int),s)=some b:=by
  intro f;induction f with
  |zero=>
   intro i hi g hg;obtain⟨g,rfl⟩:∃m,g=m+1:=⟨g-1,by omega⟩;have hi:i=n:=by omega
   subst hi;exact zaW he
  |succ f ih=>intro i hi g hg;obtain⟨g,rfl⟩:∃m,g=m+1:=⟨g-1,by omega⟩;rw[zaV (hb i (by omega))];exact ih (i+1) (by omega) g (by omega)
 exact key n 0 (by omega) FU (by unfold FU;omega)
def dgE(b:Bool):L8:=bif b then [49]else [48]
def lisE(l:List L8):List L8:=Lib.decDigits l.length::l
abbrev GrT:Type:=L8×List L8×List L8×List L8×Int
def txC(c:Cl):List L8:=[c.2.1,dgE c.2.2.2.2.1++dgE c.2.2.2.2.2.1++dgE c.2.2.2.2.2.2.1++dgE c.2.2.2.2.2.2.2]++(lisE c.2.2.1++lisE c.2.2.2.1)
def txG(g:GrT):List L8:=[Lib.decDigits g.2.2.2.2.toNat]++(lisE g.2.1++(lisE g.2.2.1++lisE g.2.2.2.1))
def txU(u:Us):List L8:=[u.2.1,dgE u.2.2.1,Lib.decDigits u.2.2.2.toNat]
def rowC(c:Cl):L8×L8:=([99,108,105,101,110,116,47]++c.1,zdC (txC c))
def rowG(g:GrT):L8×L8:=([103,114,111,117,112,47]++g.1,zdC (txG g))
def rowM(m:L8×L8):L8×L8:=([109,97,121,47]++m.1++[124]++m.2,zdC [])
def rowR(r:Ro):L8×L8:=([114,111,108,101,47]++r.1,zdC (lisE r.2))
def rowU(u:Us):L8×L8:=([117,115,101,114,47]++u.1,zdC (txU u))
def ybL(s:PS):List (L8×L8):=(clE s).map rowC++((grE s).map rowG++((maE s).map rowM++((roE s).map rowR++(usE s).map rowU)))
def rowsE(s:PS):List (L8×L8):=yfR (ybL s)
theorem ydI(b:Bool):ziI zaB b=some (dgE b):=by cases b<;>rfl
theorem yhR(b:Bool):(dgE b).length=1:=by cases b<;>rfl
theorem zwA{l:List L8}(h:l.length<=1024):zeN zaB l=some (lisE l):=by unfold zeN;rw[ysQ _ (by omega),zaA,zfN (by simp;omega),zaA];rfl
theorem ycU{n:Nat}(h:n<=1099511627777):(Lib.decDigits n).length<=1024:=bC (zwP 13 n (by decide) (by omega)) (by decide)
theorem ybX{l:List L8}(h:l.length<=1000)(ht:∀t∈l,t.length<=1024):(lisE l).length<=1001/\∀t∈lisE l,t.length<=1024:=by
 unfold lisE;refine⟨by simp;omega,fun t h'=>?_⟩;rcases aK.1 h' with rfl|h'
 ·exact ycU (by omega)
 ·exact ht t h'
theorem xbT{ls:List (List L8)}(h:∀l∈ls,l.length<=2000)(hl:ls.length<=8):zmB zaB ls=some ls.flatten:=by
 have k1:∀(f i a:Nat),f+i=ls.length->a<=2000*i->∀g,f<g->∃b:Nat,b<=16000/\ziC (fun x:Int×Int=>zkK zaB ls x.1 x.2) g ((a:Int),(i:Int))=some (b:Int):=by
  intro f;induction f with
  |zero=>intro i a hi ha g hg;obtain⟨g,rfl⟩:∃m,g=m+1:=⟨g-1,by omega⟩;refine⟨a,by omega,zaW ?_⟩;unfold zkK;simp only;rw[zaY (by omega)]
  |succ f ih=>
   intro i a hi ha g hg;obtain⟨g,rfl⟩:∃m,g=m+1:=⟨g-1,by omega⟩;have hlt:i<ls.length:=by omega
   have hll:=h _ (bE hlt);obtain⟨b,hb,e⟩:=ih (i+1) (a+ls[i].length) (by omega) (by omega) g (by omega);refine⟨b,hb,(zaV ?_).trans e⟩;unfold zkK;simp only;rw[zaX (by omega),zbD rfl hlt,zaA,show w64 ((a:Int)+(ls[i].length:Int))=((a+ls[i].length:Nat):Int) by rw[zuG (by omega) (by omega)];omega,zaY (by omega),zfA (by omega)]
 have k2:∀(f i:Nat) (acc:List L8),f+i=ls.length->acc.length<=2000*i->∀g,f<g->ziC (fun x:Int×List L8=>zkP zaB ls x.1 x.2) g ((i:Int),acc)=some (acc++(ls.drop i).flatten):=by
  intro f;induction f with
  |zero=>
   intro i acc hi ha g hg;obtain⟨g,rfl⟩:∃m,g=m+1:=⟨g-1,by omega⟩;have hi:i=ls.length:=by omega
   subst hi;rw[bX,gM,bK];refine zaW ?_;unfold zkP;simp only;rw[zaY (by omega)]
  |succ f ih=>
   intro i acc hi ha g hg;obtain⟨g,rfl⟩:∃m,g=m+1:=⟨g-1,by omega⟩;have hlt:i<ls.length:=by omega
   have hll:=h _ (bE hlt);rw[aX hlt,fR,<-aU,<-ih (i+1) (acc++ls[i]) (by omega) (by rw[aC];omega) g (by omega)];refine zaV ?_;unfold zkP;simp only;rw[zaX (by omega),zbD rfl hlt,zaA,zfN (by omega),zaA,zfA (by omega)]
 obtain⟨b,hb,e1⟩:=k1 ls.length 0 0 (by omega) (by omega) FU (by unfold FU;omega);have e2:=k2 ls.length 0 [] (by omega) (by simp) FU (by unfold FU;omega);unfold zmB;rw[show iter (fun x:Int×Int=>zkK zaB ls x.1 x.2) ((0:Int),(0:Int))=_ from e1,zaA];have e3:ysM .s (b:Int)=some ([]:List L8):=by unfold ysM;rw[zA (show(0:Int)<=(b:Int) by omega),zA (show(b:Int)<=1048576 by omega)];rfl
 refine Eq.trans (bind_ok e3) ?_;rw[show iter (fun x:Int×List L8=>zkP zaB ls x.1 x.2) ((0:Int),([]:List L8))=_ from e2,zaA];rfl
theorem yqY{s:L8}(h:txB s=true):s.length<=1024:=by
 by_cases hs:s.length<=1048576
 ·rw[tx_is s hs,aF,aF]at h;have:=zC h.1.2;omega
 ·exfalso;have h1:=xcI s;rw[h]at h1;unfold zfV at h1;have hne:(s != ([]:L8))=true:=by
   cases s with
   |nil=>exact absurd (aZ _) hs|cons a l=>rfl
  rw[hne,zE,zaY (by omega)]at h1;cases h1
theorem ypV{s:L8}(h:scB s=true):s.length<=1024:=by rw[sc_is,aF,aF]at h;have:=zC h.1.2;omega
theorem zoX{n:Nat}{may:L8->Bool}{l:List L8}(h:zxD n may l=true):(∀t∈l,may t=true)/\RiL l/\l.length<=n:=by unfold zxD at h;simp only[aF,zD,aY]at h;exact⟨h.1.1,yaM.1 h.1.2,h.2⟩
theorem ydA{c:Cl}(h:cliB c=true):nmB c.1=true/\c.2.1.length<=64/\zxD 16 txB c.2.2.1=true/\zxD 16 scB c.2.2.2.1=true:=by
 unfold cliB at h;simp only[aF,bY,zD,beq_iff_eq]at h;obtain⟨⟨⟨h1,h2⟩,h3⟩,h4⟩:=h;refine⟨h1,?_,h3,h4⟩;rcases h2 with h2|h2
 ·rw[h2];exact aZ _
 ·omega
theorem txC_ok{c:Cl}(h:cliB c=true):(txC c).length<=1024/\(∀t∈txC c,t.length<=1024)/\(lisE c.2.2.1).length<=2000/\(lisE c.2.2.2.1).length<=2000:=by
 obtain⟨_,h2,h3,h4⟩:=ydA h;obtain⟨a1,_,a3⟩:=zoX h3;obtain⟨b1,_,b3⟩:=zoX h4;have l1:=ybX (l:=c.2.2.1) (by omega) fun t ht=>yqY (a1 t ht);have l2:=ybX (l:=c.2.2.2.1) (by omega) fun t ht=>ypV (b1 t ht);have e1:(lisE c.2.2.1).length=c.2.2.1.length+1:=rfl;have e2:(lisE c.2.2.2.1).length=c.2.2.2.1.length+1:=rfl;refine⟨?_,fun t ht=>?_,by omega,by omega⟩
 ·unfold txC;simp only[aC,aN,cC,e1,e2];omega
 ·unfold txC at ht;rcases bD.1 ht with ht|ht
  ·rcases aK.1 ht with rfl|ht
   ·omega
   ·rw[aT.1 ht];simp only[aC,yhR];omega
  ·rcases bD.1 ht with ht|ht
   ·exact l1.2 t ht
   ·exact l2.2 t ht
def GrOk(g:GrT):Prop:=g.1.length<=24/\(g.2.1.length<=64/\∀t∈g.2.1,t.length<=24)/\(g.2.2.1.length<=64/\∀t∈g.2.2.1,t.length<=24)/\(g.2.2.2.1.length<=64/\∀t∈g.2.2.2.1,t.length<=24)/\1<=g.2.2.2.2/\g.2.2.2.2<=1099511627776
theorem PInv.hasK_nm{B:Int}{s:PS}(h:PInv B s){i:Nat}(hi:i<3){x:L8}(hx:hasK i s x=true):nmB x=true:=by
 match i,hi with
 |0,_=>obtain⟨v,hv⟩:=kS.has_iff.1 (show mhas keqS s.1 x=true from hx);exact(h.us x v hv).2.1
 |1,_=>obtain⟨v,hv⟩:=kS.has_iff.1 (show mhas keqS s.2.1 x=true from hx);exact(h.gn x v hv).1
 |2,_=>obtain⟨v,hv⟩:=kS.has_iff.1 (show mhas keqS s.2.2.1 x=true from hx);have h1:=h.ro x v hv;have h2:=zbH h1.2;rw[h1.1]at h2;exact h2
theorem gr_ok{B:Int}(hB:B<=1099511627776){s:PS}(h:PInv B s):∀g∈grE s,GrOk g:=fun g hg=>by obtain⟨p,hp,rfl⟩:=aR.1 hg;have h1:=h.gn p.1 p.2 hp;have h2:=fun i hi=>(h.gl p.1 p.2 hp i hi).2;refine⟨ziL h1.1,⟨h.lst_len hp (i:=0) (by decide),fun t ht=>ziL (h.hasK_nm (i:=0) (by decide) (h2 0 (by decide) t ht))⟩,⟨h.lst_len hp (i:=1) (by decide),fun t ht=>ziL (h.hasK_nm (i:=1) (by decide) (h2 1 (by decide) t ht))⟩,⟨h.lst_len hp (i:=2) (by decide),fun t ht=>ziL (h.hasK_nm (i:=2) (by decide) (h2 2 (by decide) t ht))⟩,h1.2.1,?_⟩;have:=h1.2.2;show p.2.2<=_;omega
theorem txG_ok{g:GrT}(h:GrOk g):(txG g).length<=1024/\(∀t∈txG g,t.length<=1024):=by
 obtain⟨_,⟨a1,a2⟩,⟨b1,b2⟩,⟨c1,c2⟩,d1,d2⟩:=h;have l1:=ybX (l:=g.2.1) (by omega) fun t ht=>bC (a2 t ht) (by decide);have l2:=ybX (l:=g.2.2.1) (by omega) fun t ht=>bC (b2 t ht) (by decide);have l3:=ybX (l:=g.2.2.2.1) (by omega) fun t ht=>bC (c2 t ht) (by decide);have e1:(lisE g.2.1).length=g.2.1.length+1:=rfl;have e2:(lisE g.2.2.1).length=g.2.2.1.length+1:=rfl;have e3:(lisE g.2.2.2.1).length=g.2.2.2.1.length+1:=rfl;refine⟨?_,fun t ht=>?_⟩
 ·unfold txG;simp only[aC,aN,cC,e1,e2,e3];omega
 ·unfold txG at ht;rcases bD.1 ht with ht|ht
  ·rw[aT.1 ht];exact ycU (by omega)
  ·rcases bD.1 ht with ht|ht
   ·exact l1.2 t ht
   ·rcases bD.1 ht with ht|ht
    ·exact l2.2 t ht
    ·exact l3.2 t ht
theorem ysA{k:L8}{ts:List L8}{acc:List (L8×L8)}(h:ts.length<=1024/\∀t∈ts,t.length<=1024)(ha:acc.length<=1048576):zdH zaB k ts acc=some (acc++[(k,zdC ts)]):=by unfold zdH;rw[yeN h.2 h.1,zaA,zfN (by simp;omega),zaA]
theorem ylX{γ:Type}{es:List γ}{s:PS}{f:γ->L8×L8}{body:Int×UM×GM×RM×CM×MM×List γ×List (L8×L8)->Option ((Int×UM×GM×RM×CM×MM×List γ×List (L8×L8))⊕(UM×GM×RM×CM×MM×List (L8×L8)))}(hl:es.length<=1024) (hb:∀(i:Nat) (hi:i<es.length) (acc:List (L8×L8)),acc.length<=8192->body ((i:Int),s.1,s.2.1,s.2.2.1,s.2.2.2.1,s.2.2.2.2,es,acc)=some (.inl (((i+1:Nat):Int),s.1,s.2.1,s.2.2.1,s.2.2.2.1,s.2.2.2.2,es,acc++[f es[i]]))) (he:∀acc,body ((es.length:Int),s.1,s.2.1,s.2.2.1,s.2.2.2.1,s.2.2.2.2,es,acc)=some (.inr (s.1,s.2.1,s.2.2.1,s.2.2.2.1,s.2.2.2.2,acc))) (acc:List (L8×L8)) (ha:acc.length<=4096):iter body ((0:Int),s.1,s.2.1,s.2.2.1,s.2.2.2.1,s.2.2.2.2,es,acc)=some (s.1,s.2.1,s.2.2.1,s.2.2.2.1,s.2.2.2.2,acc++es.map f):=by
 have key:∀(k i:Nat) (acc:List (L8×L8)),k+i=es.length->acc.length+k<=8192->∀g,k<g->ziC body g ((i:Int),s.1,s.2.1,s.2.2.1,s.2.2.2.1,s.2.2.2.2,es,acc)=some (s.1,s.2.1,s.2.2.1,s.2.2.2.1,s.2.2.2.2,acc++(es.drop i).map f):=by
  intro k;induction k with
  |zero=>
   intro i acc hi _ g hg;obtain⟨g,rfl⟩:∃m,g=m+1:=⟨g-1,by omega⟩;have hi:i=es.length:=by omega
   subst hi;rw[zaW (he acc),bX,fA,bK]
  |succ k ih=>
   intro i acc hi ha g hg;obtain⟨g,rfl⟩:∃m,g=m+1:=⟨g-1,by omega⟩;have hlt:i<es.length:=by omega
   rw[zaV (hb i hlt acc (by omega)),ih (i+1) _ (by omega) (by simp;omega) g (by omega),aX hlt,bF,aU];rfl
 have:=key es.length 0 acc (by omega) (by omega) FU (by unfold FU;omega);rw[bQ]at this;exact this
theorem app_c(a:L8){n:L8}(ha:a.length<=64)(h:n.length<=24):app a n=some (a++n):=zfN (by omega)
theorem roE_mem{B:Int}{s:PS}(h:PInv B s):∀r∈roE s,ydO r=true:=fun r hr=>by obtain⟨p,hp,rfl⟩:=aR.1 hr;exact(h.ro p.1 p.2 hp).2
theorem clE_mem{B:Int}{s:PS}(h:PInv B s):∀c∈clE s,cliB c=true:=fun c hc=>by obtain⟨p,hp,rfl⟩:=aR.1 hc;exact(h.cl p.1 p.2 hp).2
theorem usE_mem{B:Int}{s:PS}(h:PInv B s):∀u∈usE s,nmB u.1=true/\txB u.2.1=true/\1<=u.2.2.2/\u.2.2.2<=B:=fun u hu=>by obtain⟨p,hp,rfl⟩:=aR.1 hu;have:=h.us p.1 p.2 hp;have e:p.2.1=p.1:=this.1;exact⟨by rw[e];exact this.2.1,this.2.2⟩
theorem yjF{p:L8}(h:prB p=true):p.length<=26:=by obtain⟨c,l,rfl,_,hl⟩:=ymV h;have:=ziL hl;simp only[aN];omega
theorem ysG{B:Int}{s:PS}(h:PInv B s):∀m∈maE s,prB m.1=true/\prB m.2=true:=fun m hm=>by obtain⟨p,hp,rfl⟩:=aR.1 hm;have:=h.ma p hp;exact⟨this.1,this.2.1⟩
theorem yrB:∀{l:List L8},l.Nodup->nodupB l=true
 |[],_=>rfl|x::l,h=>by have hc:=List.nodup_cons.1 h;unfold nodupB;rw[yrB hc.2,Bool.and_true,Bool.not_eq_true',eL];intro y hy;simp only[beq_iff_eq];exact fun e=>hc.1 (by rw[<-e];exact hy)
theorem yuX{p:L8}(h:prB p=true):(124:UInt8)∉p:=by
 obtain⟨c,l,rfl,hc,hl⟩:=ymV h;rw[nm_is,aF,aF,aY]at hl;intro hm;rcases aK.1 hm with e|hm
 ·rcases hc with rfl|rfl<;>cases e
 ·rcases aK.1 hm with e|hm
  ·cases e
  ·have:=hl.2 _ hm;rw[let_bar]at this;cases this
theorem xeF:∀{a c:L8} {b d:L8},(124:UInt8)∉a->(124:UInt8)∉c->a++124::b=c++124::d->a=c/\b=d
 |[],[],b,d,_,_,e=>⟨rfl,by simpa using e⟩|[],x::c,b,d,_,hc,e=>by
  have:(124:UInt8)=x:=by injection e
  exact absurd (by rw[this];exact aM) hc
 |x::a,[],b,d,ha,_,e=>by
  have:x=(124:UInt8):=by injection e
  exact absurd (by rw[this];exact aM) ha
 |x::a,y::c,b,d,ha,hc,e=>by
  have e1:x=y:=by injection e
  have e2:a++124::b=c++124::d:=by injection e
  obtain⟨h1,h2⟩:=xeF (fun h=>ha (aL _ h)) (fun h=>hc (aL _ h)) e2;exact⟨by rw[e1,h1],h2⟩
theorem rows_nodup{B:Int}{s:PS}(h:PInv B s):((ybL s).map (·.1)).Nodup:=by
 have nd:∀{γ δ:Type} {es:List (L8×γ)} {pre:L8} {f:δ->L8×L8} {g:L8×γ->δ},Ri kltS es->(∀p∈es,(f (g p)).1=pre++p.1)->(((es.map g).map f).map (·.1)).Nodup:=fun {γ δ es pre f g} hR hf=>by
  have e:((es.map g).map f).map (·.1)=(es.map (·.1)).map (pre ++ ·):=by rw[dF,dF,dF];exact List.map_congr_left fun p hp=>hf p hp
  rw[e];refine List.Pairwise.map _ (fun a b hab e=>hab (iQ e)) (RiL.nodup (bI.2 hR))
 have n1:(((clE s).map rowC).map (·.1)).Nodup:=nd (g:=fun p:L8×Cl=>p.2) (pre:=[99,108,105,101,110,116,47]) h.cR fun p hp=>by show _++p.2.1=_;rw[(h.cl p.1 p.2 hp).1]
 have n2:(((grE s).map rowG).map (·.1)).Nodup:=nd (g:=fun p:L8×Gr=>(p.1,p.2.1.1,p.2.1.2.1,p.2.1.2.2,p.2.2)) (pre:=[103,114,111,117,112,47]) h.gR fun p hp=>rfl;have n4:(((roE s).map rowR).map (·.1)).Nodup:=nd (g:=fun p:L8×Ro=>p.2) (pre:=[114,111,108,101,47]) h.rR fun p hp=>by show _++p.2.1=_;rw[(h.ro p.1 p.2 hp).1]
 have n5:(((usE s).map rowU).map (·.1)).Nodup:=nd (g:=fun p:L8×Us=>p.2) (pre:=[117,115,101,114,47]) h.uR fun p hp=>by show _++p.2.1=_;rw[(h.us p.1 p.2 hp).1]
 have n3:(((maE s).map rowM).map (·.1)).Nodup:=by rw[dF];have hn:(maE s).Nodup:=(bI.2 (h.mR.imp fun {p q} hpq=>kSS.lt_ne hpq):(s.2.2.2.2.map (·.1)).Pairwise (· ≠ ·));refine bI.2 (List.Pairwise.imp_of_mem (fun {a b} ha hb hab e=>?_) hn);have e:[109,97,121,47]++a.1++[124]++a.2=[109,97,121,47]++b.1++[124]++b.2:=e;rw[aU,aU,aU,aU]at e;obtain⟨h1,h2⟩:=xeF (yuX (ysG h a ha).1) (yuX (ysG h b hb).1) (iQ e);exact hab (Prod.ext h1 h2)
 have hd:∀{γ:Type} {l:List γ} {f:γ->L8×L8} {c:UInt8},(∀x,(f x).1.head? = some c)->∀k∈(l.map f).map (·.1),k.head? = some c:=fun {γ l f c} hf k hk=>by rw[dF]at hk;obtain⟨x,_,rfl⟩:=aR.1 hk;exact hf x
 have d1:=hd (l:=clE s) (f:=rowC) (c:=99) fun _=>rfl;have d2:=hd (l:=grE s) (f:=rowG) (c:=103) fun _=>rfl;have d3:=hd (l:=maE s) (f:=rowM) (c:=109) fun _=>rfl;have d4:=hd (l:=roE s) (f:=rowR) (c:=114) fun _=>rfl;have d5:=hd (l:=usE s) (f:=rowU) (c:=117) fun _=>rfl;unfold ybL;simp only[cT]at *;refine eN.2 ⟨n1,eN.2 ⟨n2,eN.2 ⟨n3,eN.2 ⟨n4,n5,fun a ha b hb e=>?_⟩,fun a ha b hb e=>?_⟩,fun a ha b hb e=>?_⟩,fun a ha b hb e=>?_⟩
 ·have h1:=d4 a ha;have h2:=d5 b hb;rw[e,h2]at h1;cases h1
 ·have h1:=d3 a ha;rw[e]at h1;rcases bD.1 hb with hb|hb
  ·rw[d4 b hb]at h1;cases h1
  ·rw[d5 b hb]at h1;cases h1
 ·have h1:=d2 a ha;rw[e]at h1;rcases bD.1 hb with hb|hb
  ·rw[d3 b hb]at h1;cases h1
  ·rcases bD.1 hb with hb|hb
   ·rw[d4 b hb]at h1;cases h1
   ·rw[d5 b hb]at h1;cases h1
 ·have h1:=d1 a ha;rw[e]at h1;rcases bD.1 hb with hb|hb
  ·rw[d2 b hb]at h1;cases h1
  ·rcases bD.1 hb with hb|hb
   ·rw[d3 b hb]at h1;cases h1
   ·rcases bD.1 hb with hb|hb
    ·rw[d4 b hb]at h1;cases h1
    ·rw[d5 b hb]at h1;cases h1
theorem rows_ok{B:Int}(hB:B<=1099511627776){s:PS}(h:PInv B s):zdM zaB s.1 s.2.1 s.2.2.1 s.2.2.2.1 s.2.2.2.2=some (rowsE s,s):=by
 have lc:(clE s).length<=32:=by unfold clE;rw[aE];exact h.cL
 have lg:(grE s).length<=32:=by unfold grE;rw[aE];exact h.gL
 have lm:(maE s).length<=64:=by unfold maE;rw[aE];exact h.mL
 have lr:(roE s).length<=32:=by unfold roE;rw[aE];exact h.rL
 have lu:(usE s).length<=64:=by unfold usE;rw[aE];exact h.uL
 unfold zdM;rw[ylI h,zaA];simp only
 rw[ylX (s:=s) (es:=clE s) (f:=rowC) (by omega) (fun i hi acc ha=>by
  obtain⟨c,hc⟩:∃c,(clE s)[i]=c:=⟨_,rfl⟩;have hcb:=clE_mem h _ (bE hi);rw[hc]at hcb;obtain⟨t1,t2,t3,t4⟩:=txC_ok hcb;obtain⟨q1,q2,q3,q4⟩:=ydA hcb;have q5:=(zoX q3).2.2;have q6:=(zoX q4).2.2;simp only;unfold zlS;simp only
  rw[zaX (by omega),zzG hi,zaA,zbD rfl hi,zaA,hc,app_c _ (by decide) (ziL q1),zaA,ydI,zaA,ydI,zaA,zfN (by simp only[yhR];omega),zaA,ydI,zaA,zfN (by simp only[aC,yhR];omega),zaA,ydI,zaA,zfN (by simp only[aC,yhR];omega),zaA,zwA (by omega),zaA,zwA (by omega),zaA,xbT (fun l hl=>by
   rcases aK.1 hl with rfl|hl
   ·simp
   ·rcases aK.1 hl with rfl|hl
    ·exact t3
    ·rw[aT.1 hl];exact t4) (by simp),zaA]
  have e:[[c.2.1,dgE c.2.2.2.2.1++dgE c.2.2.2.2.2.1++dgE c.2.2.2.2.2.2.1++dgE c.2.2.2.2.2.2.2],lisE c.2.2.1,lisE c.2.2.2.1].flatten=txC c:=by unfold txC;simp only[fR,gM,bK]
  rw[e,ysA (k:=[99,108,105,101,110,116,47]++c.1) (ts:=txC c) ⟨t1,t2⟩ (by omega),zaA,zfA (by omega)]
  rfl) (fun acc=>by
  simp only;unfold zlS;simp only
  rw[zaY (by omega)]) [] (by simp),zaA]
 simp only;rw[yqD h,zaA];simp only
 rw[ylX (s:=s) (es:=grE s) (f:=rowG) (by omega) (fun i hi acc ha=>by
  obtain⟨g,hg⟩:∃g,(grE s)[i]=g:=⟨_,rfl⟩;have hgb:=gr_ok hB h _ (bE hi);rw[hg]at hgb;obtain⟨t1,t2⟩:=txG_ok hgb;obtain⟨q1,q2,q3,q4,q5,q6⟩:=hgb;obtain⟨n,hn⟩:∃n:Nat,g.2.2.2.2=(n:Int):=⟨g.2.2.2.2.toNat,by omega⟩;simp only;unfold zlP;simp only
  rw[zaX (by omega),zzG hi,zaA,zbD rfl hi,zaA,hg,app_c _ (by decide) q1,zaA,hn,ysQ n (by omega),zaA,zwA (by omega),zaA,zwA (by omega),zaA,zwA (by omega),zaA,xbT (fun l hl=>by
   have e1:(lisE g.2.1).length=g.2.1.length+1:=rfl;have e2:(lisE g.2.2.1).length=g.2.2.1.length+1:=rfl;have e3:(lisE g.2.2.2.1).length=g.2.2.2.1.length+1:=rfl;rcases aK.1 hl with rfl|hl
   ·simp
   ·rcases aK.1 hl with rfl|hl
    ·omega
    ·rcases aK.1 hl with rfl|hl
     ·omega
     ·rw[aT.1 hl];omega) (by simp),zaA]
  have e:[[Lib.decDigits n],lisE g.2.1,lisE g.2.2.1,lisE g.2.2.2.1].flatten=txG g:=by unfold txG;rw[hn,bT];simp only[fR,gM,bK]
  rw[e,ysA (k:=[103,114,111,117,112,47]++g.1) (ts:=txG g) ⟨t1,t2⟩ (by omega),zaA,zfA (by omega)]
  rfl) (fun acc=>by
  simp only;unfold zlP;simp only
  rw[zaY (by omega)]) _ (by simp only[bL,aE];omega),zaA]
 simp only;rw[xbY h,zaA];simp only
 have hm:∀(k i:Nat) (acc:List (L8×L8)),k+i=(maE s).length->acc.length+k<=8192->∀g,k<g->ziC (fun x:Int×UM×GM×RM×CM×MM×List (L8×L8)=>ziG zaB (maE s,s) x.1 x.2.1 x.2.2.1 x.2.2.2.1 x.2.2.2.2.1 x.2.2.2.2.2.1 x.2.2.2.2.2.2) g ((i:Int),s.1,s.2.1,s.2.2.1,s.2.2.2.1,s.2.2.2.2,acc)=some (s.1,s.2.1,s.2.2.1,s.2.2.2.1,s.2.2.2.2,acc++((maE s).drop i).map rowM):=by
  intro k;induction k with
  |zero=>
   intro i acc hi _ g hg;obtain⟨g,rfl⟩:∃m,g=m+1:=⟨g-1,by omega⟩;have hi:i=(maE s).length:=by omega
   subst hi;rw[bX,fA,bK];refine zaW ?_;simp only;unfold ziG;rw[zaY (by simp only;omega)]
  |succ k ih=>
   intro i acc hi ha g hg;obtain⟨g,rfl⟩:∃m,g=m+1:=⟨g-1,by omega⟩;have hlt:i<(maE s).length:=by omega
   rw[aX hlt,bF,show acc++(rowM (maE s)[i]::((maE s).drop (i+1)).map rowM)=(acc++[rowM (maE s)[i]])++((maE s).drop (i+1)).map rowM by rw[aU];rfl,<-ih (i+1) (acc++[rowM (maE s)[i]]) (by omega) (by simp;omega) g (by omega)];refine zaV ?_;have hmm:=ysG h _ (bE hlt);have p1:=yjF hmm.1;have p2:=yjF hmm.2;simp only;unfold ziG;simp only;rw[zaX (by omega),zbD rfl hlt,zaA,zfN (by simp;omega),zaA,zfN (by simp;omega),zaA,zfN (by simp;omega),zaA];unfold zjS;rw[yeN (fun _ h=>by cases h) (by simp),zaA,zfN (by simp;omega),zaA,zaA,zfA (by omega)];rfl
 rw[show iter _ ((0:Int),s.1,s.2.1,s.2.2.1,s.2.2.2.1,s.2.2.2.2,_)=_ from hm (maE s).length 0 _ (by omega) (by simp only[bL,aC,aE];omega) FU (by unfold FU;omega),zaA,bQ];simp only;rw[ytK h,zaA];simp only
 rw[ylX (s:=s) (es:=roE s) (f:=rowR) (by omega) (fun i hi acc ha=>by
  obtain⟨r,hr⟩:∃r,(roE s)[i]=r:=⟨_,rfl⟩;have hrb:=roE_mem h _ (bE hi);rw[hr]at hrb;have q1:=zoX (zbR hrb);have l1:=ybX (l:=r.2) (by omega) fun t ht=>ypV (q1.1 t ht);simp only;unfold zlX;simp only;rw[zaX (by omega),zzG hi,zaA,zbD rfl hi,zaA,hr,app_c _ (by decide) (ziL (zbH hrb)),zaA,zwA (by omega),zaA,ysA (k:=[114,111,108,101,47]++r.1) (ts:=lisE r.2) ⟨by omega,l1.2⟩ (by omega),zaA,zfA (by omega)]
  rfl) (fun acc=>by
  simp only;unfold zlX;simp only
  rw[zaY (by omega)]) _ (by simp only[bL,aC,aE];omega),zaA]
 simp only;rw[yvI h,zaA];simp only
 rw[ylX (s:=s) (es:=usE s) (f:=rowU) (by omega) (fun i hi acc ha=>by
  obtain⟨u,hu⟩:∃u,(usE s)[i]=u:=⟨_,rfl⟩;obtain⟨q1,q2,q3,q4⟩:=usE_mem h _ (bE hi);rw[hu]at q1 q2 q3 q4;obtain⟨n,hn⟩:∃n:Nat,u.2.2.2=(n:Int):=⟨u.2.2.2.toNat,by omega⟩;simp only;unfold zlR;simp only;rw[zaX (by omega),zzG hi,zaA,zbD rfl hi,zaA,hu,app_c _ (by decide) (ziL q1),zaA,ydI,zaA,hn,ysQ n (by omega),zaA];unfold zjZ
  have ht:∀t∈[u.2.1,dgE u.2.2.1,Lib.decDigits n],t.length<=1024:=fun t ht=>by
   rcases aK.1 ht with rfl|ht
   ·exact yqY q2
   ·rcases aK.1 ht with rfl|ht
    ·rw[yhR];decide
    ·rw[aT.1 ht];exact ycU (by omega)
  rw[yeN ht (by simp),zaA,zfN (by simp;omega),zaA,zaA,zfA (by omega)];have e:rowU u=([117,115,101,114,47]++u.1,zdC [u.2.1,dgE u.2.2.1,Lib.decDigits n]):=by unfold rowU txU;rw[hn,bT]
  rw[e]) (fun acc=>by
  simp only;unfold zlR;simp only
  rw[zaY (by omega)]) _ (by simp only[bL,aC,aE];omega),zaA]
 simp only;have e0:((([]++(clE s).map rowC)++(grE s).map rowG)++(maE s).map rowM++(roE s).map rowR)++(usE s).map rowU=ybL s:=by unfold ybL;simp only[bL,aU]
 rw[e0];have e1:yeY (ybL s)=some (rowsE s):=by
  unfold yeY rowsE;have hl:(ybL s).length<1152921504606846976:=by unfold ybL;simp only[aC,aE];omega
  rw[yrB (rows_nodup h),zA hl];rfl
 rw[e1,zaA]
def τWkG:TE:=[(3,⟨.int .i64,1,[.v (.i .i64) (show Int from 0)],(.i .i64),8⟩),
 (9,⟨.s,1,[.v .s (show Bs from [])],.s,16⟩),
 (22,⟨.sl 9,1,[.nils],(.sl .s),24⟩),
 (31,⟨.sl 33,1,[.nils],(.sl (.pr .s .s)),24⟩),
 (33,⟨.st [(9,0),(9,1)],2,[.v .s (show Bs from []),.v .s (show Bs from [])],(.pr .s .s),32⟩),
 (34,⟨.pt 128,1,[.nilp],.un,8⟩),
 (45,⟨.sl 53,1,[.nils],(.sl (.pr (.i .i64) (.pr (.i .i64) (.pr .s (.pr .s (.pr .b (.pr (.pr .s (.sl .s)) (.pr .s (.pr .s (.pr (.sl .s) (.pr (.sl .s) (.pr .b (.pr .b (.pr .b .b)))))))))))))),24⟩),
 (53,⟨.st [(3,0),(3,1),(9,2),(9,3),(4,4),(49,5),(51,7)],15,[.v (.i .i64) (show Int from 0),.v (.i .i64) (show Int from 0),.v .s (show Bs from []),.v .s (show Bs from []),.v .b (show Bool from false),.v .s (show Bs from []),.nils,.v .s (show Bs from []),.v .s (show Bs from []),.nils,.nils,.v .b (show Bool from false),.v .b (show Bool from false),.v .b (show Bool from false),.v .b (show Bool from false)],(.pr (.i .i64) (.pr (.i .i64) (.pr .s (.pr .s (.pr .b (.pr (.pr .s (.sl .s)) (.pr .s (.pr .s (.pr (.sl .s) (.pr (.sl .s) (.pr .b (.pr .b (.pr .b .b))))))))))))),184⟩)]
theorem τ_okWkG:TEok aA τWkG:=yrP (by kernel_rfl) (by kernel_rfl)
theorem mixWkG:Tryz.prog.follows .mixedOrders=true:=by kernel_rfl
theorem fscWkG {G : List (Nat × Obj)} {o : Ops} [zrD G] [zoW G o] {Γ : CT} {η : HT} {f : FuncId} {fn : Func} {c : SC} (hΓ : ∀ B, GB G B -> CTok aA Γ B) (hf : Tryz.prog.funcs[f]? = some fn) (i : (fn.name == "runtime.NumGoroutine") = false := by kernel_rfl) (j : fn.body.isNone = false := by kernel_rfl) (l : Nat.ble c.I.sl.length fn.ntmps = true := by kernel_rfl) (r : aG fn.results.toList.length c.nr = true := by kernel_rfl) (e : fnS τWkG Γ η fn c.I c.outs = c.p := by kernel_rfl) : SCok aA G f c := witO (G := G) (o := o) <| xbF mixWkG τ_okWkG hΓ hf (isFn hf i j) l r e
theorem fpcWkG {G : List (Nat × Obj)} {o : Ops} [zrD G] [zoW G o] {Γ : CT} {η : HT} {f : FuncId} {fn : Func} {c : PC} (hΓ : ∀ B, GB G B -> CTok aA Γ B) (hf : Tryz.prog.funcs[f]? = some fn) (i : (fn.name == "runtime.NumGoroutine") = false := by kernel_rfl) (j : fn.body.isNone = false := by kernel_rfl) (l : Nat.ble c.ash.length fn.ntmps = true := by kernel_rfl) (r : c.cl = false := by kernel_rfl) (e : fnP τWkG Γ η fn c.ash c.rts = c.p := by kernel_rfl) : PCok aA G f c := witO (G := G) (o := o) <| yyR mixWkG τ_okWkG hΓ hf (isFn hf i j) l r e
section
variable {tabs:List (Nat×Obj)}[zrD tabs]{o:Ops}[zoW tabs o]
def zdL(_o:Ops)(v0:List (Bs×Bs))(v1:List (Bs×Bs))(v2:Int):Option (Int⊕(Bool⊕Unit)):=
 bif decide (v2<(v0.length:Int))then((idx v0 v2).bind fun v3=>(idx v1 v2).bind fun v4=>bif(!((v3.1==v4.1)&&(v3.2==v4.2)))then some (.inr (.inl false))else some (.inl (w64 (v2+1))))else some (.inr (.inr ()))
def zcV(o:Ops)(v0:List (Bs×Bs))(v1:List (Bs×Bs)):Option (Bool):=
 bif((v0.length:Int) != (v1.length:Int))then(some false)else((iter (zdL o v0 v1) (0:Int)).bind fun v5=>match v5 with
 |.inl v6=>(some v6)|.inr _v7=>(some true))
def zmK(o:Ops):PC:=⟨[(.h (.sl (.pr .s .s))),(.h (.sl (.pr .s .s)))],[.b],fun x=>zcV o x.1 x.2,false⟩
theorem zuF:PCok aA tabs 27 (zmK o):=fpcWkG (o:=o) (η:=[(200004,.loop [] ⟨[(5,hI)],[]⟩ [0,1] [(some 1000000,⟨[(4,hB)],[]⟩),(some 0,⟨[],[]⟩)]),
 (4000006,.sch (zpu 0 9))]) (Γ:=⟨[],[],false,[]⟩) (ctok trivial trivial) Tryz.func27
end
theorem yhJ(l:List L8)(x:L8):x∈Lib.compact l↔x∈l:=by
 have key:∀(m:Nat),m<=l.length->(x∈Lib.compactUpTo l.toArray m↔∃j,j<m/\l.toArray[j]! = x):=by
  intro m;induction m with
  |zero=>intro _;simp[Lib.compactUpTo]|succ m ih=>
   intro hm;rw[Lib.compactUpTo_succ,bD,ih (by omega)];cases hk:Lib.keeps l.toArray m with
   |true=>
    rw[zI rfl,aT];constructor
    ·rintro(⟨j,hj,e⟩|e)
     ·exact⟨j,by omega,e⟩
     ·exact⟨m,by omega,e.symm⟩
    ·rintro⟨j,hj,e⟩;by_cases hjm:j=m
     ·subst hjm;exact .inr e.symm
     ·exact .inl ⟨j,by omega,e⟩
   |false=>
    rw[zH (by simp)];have h2:0<m/\l.toArray[m]! = l.toArray[m-1]!:=by
     by_cases h0:m=0
     ·subst h0;rw[Lib.keeps_lt_one _ 0 (by omega)]at hk;cases hk
     ·refine⟨by omega,Classical.byContradiction fun hne=>?_⟩;rw[Lib.keeps_pos hne]at hk;cases hk
    constructor
    ·rintro(⟨j,hj,e⟩|h)
     ·exact⟨j,by omega,e⟩
     ·cases h
    ·rintro⟨j,hj,e⟩;by_cases hjm:j=m
     ·subst hjm;exact .inl ⟨j-1,by omega,by rw[<-h2.2];exact e⟩
     ·exact .inl ⟨j,by omega,e⟩
 show x∈Lib.compactUpTo l.toArray l.length↔_;rw[key l.length (aI _)];constructor
 ·rintro⟨j,hj,rfl⟩;rw[getElem!_pos l.toArray j (by simpa using hj)];simp
 ·intro hx;obtain⟨j,hj,rfl⟩:=List.getElem_of_mem hx;refine⟨j,hj,?_⟩;rw[getElem!_pos l.toArray j (by simpa using hj)];simp
def scpE(s:PS)(n:L8):List L8:=(lst 2 (zeD keqS s.2.1 n zG)).flatMap fun r=>(zeD keqS s.2.2.1 r zR).2
noncomputable def ycS(s:PS)(u:L8):List L8:=Lib.compact (zyZ ((inE s.2.1 u).flatMap (scpE s)))
theorem xeK{s:PS}(hG:Ri kltS s.2.1)(hR:Ri kltS s.2.2.1){u x:L8}:x∈ycS s u↔∃n g k r,InG s.2.1 u n/\(n,g)∈s.2.1/\k∈lst 2 g/\(k,r)∈s.2.2.1/\x∈r.2:=by
 unfold ycS;rw[yhJ];have hs:x∈zyZ ((inE s.2.1 u).flatMap (scpE s))↔x∈(inE s.2.1 u).flatMap (scpE s):=(zeY leS _).mem_iff;rw[hs,gP];constructor
 ·rintro⟨n,hn,hx⟩;have hn:=ynQ.1 hn;obtain⟨g,hg⟩:=kS.has_iff.1 hn.key;unfold scpE at hx;rw[yuP hG hg]at hx;obtain⟨k,hk,hx⟩:=gP.1 hx;rw[zjY]at hx;cases hr:mget keqS s.2.2.1 k with
  |none=>rw[hr]at hx;cases hx
  |some r=>rw[hr]at hx;exact⟨n,g,k,r,hn,hg,hk,kS.get_some hr,hx⟩
 ·rintro⟨n,g,k,r,hn,hg,hk,hr,hx⟩;refine⟨n,ynQ.2 hn,?_⟩;unfold scpE;rw[yuP hG hg];refine gP.2 ⟨k,hk,?_⟩;rw[zjY,kS.get_mem hR hr];exact hx
theorem ytY{s:PS}{g:Gr}(hl:(lst 2 g).length<=64)(hr:∀k,(zeD keqS s.2.2.1 k zR).2.length<=16):∀(f i:Nat) (acc:List L8),f+i=(lst 2 g).length->acc.length+16*f<=1048576->∀n,f<n ->
  ziC (fun x:Int×UM×GM×RM×CM×MM×List L8=>zhJ zaB g x.1 x.2.1 x.2.2.1 x.2.2.2.1 x.2.2.2.2.1 x.2.2.2.2.2.1 x.2.2.2.2.2.2) n ((i:Int),s.1,s.2.1,s.2.2.1,s.2.2.2.1,s.2.2.2.2,acc)=some (s.1,s.2.1,s.2.2.1,s.2.2.2.1,s.2.2.2.2,acc++((lst 2 g).drop i).flatMap fun r=>(zeD keqS s.2.2.1 r zR).2)
 |0,i,acc,hi,_,n+1,_=>by
  have hi:i=(lst 2 g).length:=by omega
  subst hi;rw[bX,List.flatMap_nil,bK];refine zaW ?_;simp only;unfold zhJ;rw[zaY (by show ¬((lst 2 g).length:Int)<((lst 2 g).length:Int);omega)]
 |f+1,i,acc,hi,ha,n+1,hn=>by
  have hlt:i<(lst 2 g).length:=by omega
  have h16:=hr (lst 2 g)[i];have h17:(zeD keqS s.2.2.1 (lst 2 g)[i] (([]:L8),([]:List L8))).2.length<=16:=h16;rw[aX hlt,dE,<-aU,<-ytY hl hr f (i+1) (acc++(zeD keqS s.2.2.1 (lst 2 g)[i] zR).2) (by omega) (by rw[aC];omega) n (by omega)];refine zaV ?_;simp only;unfold zhJ;rw[zaX (by show(i:Int)<((lst 2 g).length:Int);omega),show idx g.1.2.2 (i:Int)=some (lst 2 g)[i]from zbD rfl hlt,zaA];simp only;rw[zfN (by omega),zaA,zfA (by omega)]
theorem holds_ok{B:Int}{s:PS}(h:PInv B s)(u:L8):zcJ zaB u s.1 s.2.1 s.2.2.1 s.2.2.2.1 s.2.2.2.2=some (ycS s u,s):=by
 have hr:∀k,(zeD keqS s.2.2.1 k zR).2.length<=16:=fun k=>by
  rw[zjY];cases hg:mget keqS s.2.2.1 k with
  |none=>exact aZ _|some r=>exact yaJ (h.ro k r (kS.get_some hg)).2
 have hg:∀n,(lst 2 (zeD keqS s.2.1 n zG)).length<=64:=fun n=>by
  rw[zjY];cases hg:mget keqS s.2.1 n with
  |none=>exact aZ _|some g=>exact h.lst_len (kS.get_some hg) (by decide)
 have hsl:∀n,(scpE s n).length<=1024:=fun n=>by
  have:∀l:List L8,(l.flatMap fun r=>(zeD keqS s.2.2.1 r zR).2).length<=16*l.length:=by
   intro l;induction l with
   |nil=>exact aZ _|cons a l ih=>have:=hr a;rw[dE,aC,aN];omega
  have h1:=this (lst 2 (zeD keqS s.2.1 n zG));have h2:=hg n;unfold scpE;omega
 have hil:(inE s.2.1 u).length<=32:=by unfold inE;exact bC (List.length_filter_le _ _) (by rw[aE];exact h.gL)
 unfold zcJ;rw[in_ok h,zaA];have key:∀(f i:Nat) (acc:List L8),f+i=(inE s.2.1 u).length->acc.length+1024*f<=65536->∀n,f<n ->
   ziC (fun x:Int×UM×GM×RM×CM×MM×List L8=>zhV zaB (inE s.2.1 u,s) x.1 x.2.1 x.2.2.1 x.2.2.2.1 x.2.2.2.2.1 x.2.2.2.2.2.1 x.2.2.2.2.2.2) n ((i:Int),s.1,s.2.1,s.2.2.1,s.2.2.2.1,s.2.2.2.2,acc)=some (s.1,s.2.1,s.2.2.1,s.2.2.2.1,s.2.2.2.2,acc++((inE s.2.1 u).drop i).flatMap (scpE s)):=by
  intro f;induction f with
  |zero=>
   intro i acc hi _ n hn;obtain⟨n,rfl⟩:∃m,n=m+1:=⟨n-1,by omega⟩;have hi:i=(inE s.2.1 u).length:=by omega
   subst hi;rw[bX,List.flatMap_nil,bK];refine zaW ?_;simp only;unfold zhV;simp only;rw[zaY (by omega)]
  |succ f ih=>
   intro i acc hi ha n hn;obtain⟨n,rfl⟩:∃m,n=m+1:=⟨n-1,by omega⟩;have hlt:i<(inE s.2.1 u).length:=by omega
   have h1:=hsl (inE s.2.1 u)[i];have h2:=hg (inE s.2.1 u)[i];rw[aX hlt,dE,<-aU,<-ih (i+1) (acc++scpE s (inE s.2.1 u)[i]) (by omega) (by rw[aC];omega) n (by omega)];refine zaV ?_;simp only;unfold zhV;simp only;rw[zaX (by omega),zbD rfl hlt,zaA];rw[show iter _ ((0:Int),s.1,s.2.1,s.2.2.1,s.2.2.2.1,s.2.2.2.2,acc)=_ from ytY (s:=s) (g:=zeD keqS s.2.1 (inE s.2.1 u)[i] zG) h2 hr (lst 2 (zeD keqS s.2.1 (inE s.2.1 u)[i] zG)).length 0 acc (by omega) (by omega) FU (by unfold FU;omega),zaA,bQ,zfA (by omega)];rfl
 rw[show iter _ ((0:Int),s.1,s.2.1,s.2.2.1,s.2.2.2.1,s.2.2.2.2,([]:List L8))=_ from key (inE s.2.1 u).length 0 [] (by omega) (by simp;omega) FU (by unfold FU;omega),zaA,bQ,bL];have hfl:((inE s.2.1 u).flatMap (scpE s)).length<=1048576:=by
  have:∀l:List L8,(l.flatMap (scpE s)).length<=1024*l.length:=by
   intro l;induction l with
   |nil=>exact aZ _|cons a l ih=>have:=hsl a;rw[dE,aC,aN];omega
  have:=this (inE s.2.1 u);omega
 have e1:ypL ((inE s.2.1 u).flatMap (scpE s))=some (zyZ ((inE s.2.1 u).flatMap (scpE s))):=by unfold ypL;rw[zA (by omega)];rfl
 have e2:zzE (zyZ ((inE s.2.1 u).flatMap (scpE s)))=some (ycS s u):=by unfold zzE;have:(zyZ ((inE s.2.1 u).flatMap (scpE s))).length=((inE s.2.1 u).flatMap (scpE s)).length:=(zeY leS _).length_eq;rw[zA (by omega)];rfl
 simp only;rw[e1,zaA,e2,zaA]
theorem yhB(l:List (L8×L8))(hl:l.length<=1048576):zcV zaB l l=some true:=by
 have key:∀(f i:Nat),f+i=l.length->∀g,f<g->ziC (zdL zaB l l) g (i:Int)=some (.inr ()):=by
  intro f;induction f with
  |zero=>
   intro i hi g hg;obtain⟨g,rfl⟩:∃m,g=m+1:=⟨g-1,by omega⟩;have hi:i=l.length:=by omega
   subst hi;refine zaW ?_;unfold zdL;rw[zaY (by omega)]
  |succ f ih=>
   intro i hi g hg;obtain⟨g,rfl⟩:∃m,g=m+1:=⟨g-1,by omega⟩;have hlt:i<l.length:=by omega
   refine(zaV ?_).trans (ih (i+1) (by omega) g (by omega));unfold zdL;rw[zaX (by omega),zbD rfl hlt,zaA,zaA,beq_self_eq_true,beq_self_eq_true,zfA (by omega)];rfl
 unfold zcV;rw[bne_self_eq_false,zF,show iter (zdL zaB l l) (0:Int)=_ from key l.length 0 (by omega) FU (by unfold FU;omega),zaA]
theorem xaO(o:Ops)(s:L8):zuL o s=zmX o s:=rfl
theorem cut_b{m:UInt8}{d r:L8}(h:m∉d)(hl:(d++m::r).length<=1048576):zaB.cut (d++m::r) [m]=some (d,r,true):=by show cutP _ [m]=_;unfold cutP;rw[zA (show(d++m::r).length<4294967281 by omega),ymO h];rfl
theorem ycC(t:L8)(l:List L8)(b:Bool):zcH zaB (t::l) b=some (t,l,b):=by unfold zcH;rw[show(((t::l).length:Int)==0)=false from beq_eq_false_iff_ne.2 (by rw[aN];omega),zF,show idx (t::l) (0:Int)=some t from zbD (i:=0) rfl (by simp),zaA,show subL (t::l) (1:Int)=some l from zsI (n:=1) (by simp),zaA]
theorem rd_num{n:Nat}(h:n<1000000000000000)(l:List L8):zcW zaB (Lib.decDigits n::l) false=some ((n:Int),l,false):=by unfold zcW;rw[ycC,zaA];simp only;rw[yhF n h,zaA];rfl
theorem ynO{l rest:List L8}(h:l.length<=1048576):zbX zaB (lisE l++rest) false=some (l,rest,false):=by unfold zbX;rw[show lisE l++rest=Lib.decDigits l.length::(l++rest)from rfl,rd_num (by omega),zaA];unfold zmE;simp only[zF];rw[zaY (by rw[aC];omega),zaA];simp only;rw[zpP (by rw[aC];omega),zaA,zmZ _ (by rw[List.length_take];omega),zaA,zsI (by rw[aC];omega),zaA,List.take_left',List.drop_left']<;>rfl
theorem ysF{l:List L8}(h:l.length<=1048576):zbX zaB (lisE l) false=some (l,[],false):=by
 have:=ynO (l:=l) (rest:=[]) h
 rwa[bK]at this
theorem rd_ver{n:Int}(h1:1<=n)(h2:n<=1099511627776)(l:List L8):zcO zaB (Lib.decDigits n.toNat::l) false=some (n,l,false):=by
 unfold zcO;rw[rd_num (by omega),zaA];have e:(n.toNat:Int)=n:=by omega
 simp only[zF,e];rw[zaY (by omega),zB (by omega)]
theorem yhY(b:Bool)(l:List L8):zcF zaB (dgE b) l false=some (b,l,false):=by cases b<;>rfl
inductive Ent where
 |c (c:Cl)
 |g (g:GrT)
 |m (m:L8×L8)
 |r (r:Ro)
 |u (u:Us)
def Ent.row:Ent->L8×L8
 |.c x=>rowC x|.g x=>rowG x|.m x=>rowM x|.r x=>rowR x|.u x=>rowU x
def Ent.ok:Ent->Prop
 |.c x=>cliB x=true|.g x=>nmB x.1=true/\1<=x.2.2.2.2/\x.2.2.2.2<=1099511627776|.m x=>prB x.1=true/\prB x.2=true|.r x=>ydO x=true|.u x=>nmB x.1=true/\txB x.2.1=true/\1<=x.2.2.2/\x.2.2.2<=1099511627776
def Ent.sm:Ent->Prop
 |.g x=>(x.2.1.length<=1048576/\x.2.2.1.length<=1048576/\x.2.2.2.1.length<=1048576)/\(zdC (txG x)).length<4294967281/\(txG x).length<4294967281|_=>True
def Ent.put(s:PS):Ent->PS
 |.c x=>(s.1,s.2.1,s.2.2.1,mset keqS kltS s.2.2.2.1 x.1 x,s.2.2.2.2)|.g x=>(s.1,mset keqS kltS s.2.1 x.1 ((x.2.1,x.2.2.1,x.2.2.2.1),x.2.2.2.2),s.2.2)|.m x=>(s.1,s.2.1,s.2.2.1,s.2.2.2.1,mset keqM kltM s.2.2.2.2 x ())|.r x=>(s.1,s.2.1,mset keqS kltS s.2.2.1 x.1 x,s.2.2.2)|.u x=>(mset keqS kltS s.1 x.1 x,s.2)
theorem ydK{k n:L8}{ts:List L8}(hk:(47:UInt8)∉k)(hl:(k++47::n).length<=1048576)(hf:(zdC ts).length<4294967281)(hn:ts.length<4294967281)(s t:PS)(h:zbI zaB (ts,true) (k,n,true) s=some (.inr (true,t.1,t.2.1,t.2.2.1,t.2.2.2.1,t.2.2.2.2,[],false))):
  zaM zaB (k++47::n,zdC ts) s.1 s.2.1 s.2.2.1 s.2.2.2.1 s.2.2.2.2=some (true,t):=by
 unfold zaM;rw[xaO,yuF ts hf hn,zaA];simp only;rw[show zaB.cut (k++47::n) ([47]:L8)=_ from cut_b hk hl,zaA];unfold ziM;simp only[bM,zF,zaA];rw[h,zaA];rfl
theorem ysW{ts:List L8}(ht:∀t∈ts,t.length<=1024)(hn:ts.length<=1024):(zdC ts).length<4294967281:=by have:=yiA ts ht;omega
theorem takes_u{x:Us}(h:(Ent.u x).ok)(s:PS):zaM zaB (rowU x) s.1 s.2.1 s.2.2.1 s.2.2.2.1 s.2.2.2.2=some (true,(Ent.u x).put s):=by
 obtain⟨h1,h2,h3,h4⟩:=h;have hk:=ziL h1;have hm:=yqY h2
 have e:=ydK (k:=[117,115,101,114]) (n:=x.1) (ts:=txU x) (by decide) (by simp;omega) (ysW (fun t ht=>by
  rcases aK.1 ht with rfl|ht
  ·exact hm
  ·rcases aK.1 ht with rfl|ht
   ·rw[yhR];decide
   ·rw[aT.1 ht];exact ycU (by omega)) (by simp[txU])) (by simp[txU]) s ((Ent.u x).put s)
 refine e ?_;unfold zbI;simp only;rw[show(([117,115,101,114]:L8)==[99,108,105,101,110,116])=false from rfl,show(([117,115,101,114]:L8)==[103,114,111,117,112])=false from rfl,show(([117,115,101,114]:L8)==[109,97,121])=false from rfl,show(([117,115,101,114]:L8)==[114,111,108,101])=false from rfl,show(([117,115,101,114]:L8)==[117,115,101,114])=true from rfl];simp only[zF,zE];unfold txU;rw[ycC,zaA,ycC,zaA];simp only;rw[yhY,zaA];simp only;rw[rd_ver h3 h4,zaA];simp only;rw[ynL,h1,zaA,zE,xcI,h2,zaA];rfl
theorem takes_r{x:Ro}(h:ydO x=true)(s:PS):zaM zaB (rowR x) s.1 s.2.1 s.2.2.1 s.2.2.2.1 s.2.2.2.2=some (true,(Ent.r x).put s):=by have hn:=zbH h;have hr:=zoX (zbR h);have hk:=ziL hn;have hl:=ybX (l:=x.2) (by omega) fun t ht=>ypV (hr.1 t ht);have e:=ydK (k:=[114,111,108,101]) (n:=x.1) (ts:=lisE x.2) (by decide) (by simp;omega) (ysW hl.2 (by omega)) (by omega) s ((Ent.r x).put s);refine e ?_;unfold zbI;simp only;rw[show(([114,111,108,101]:L8)==[99,108,105,101,110,116])=false from rfl,show(([114,111,108,101]:L8)==[103,114,111,117,112])=false from rfl,show(([114,111,108,101]:L8)==[109,97,121])=false from rfl,show(([114,111,108,101]:L8)==[114,111,108,101])=true from rfl];simp only[zF,zE];rw[ysF (by omega),zaA];simp only;rw[xaI (r:=(x.1,x.2)) (by simp only;omega),zaA,show ydO (x.1,x.2)=true from h];rfl
theorem takes_m{x:L8×L8}(h:prB x.1=true/\prB x.2=true)(s:PS):zaM zaB (rowM x) s.1 s.2.1 s.2.2.1 s.2.2.2.1 s.2.2.2.2=some (true,(Ent.m x).put s):=by have h1:=yjF h.1;have h2:=yjF h.2;have e:=ydK (k:=[109,97,121]) (n:=x.1++124::x.2) (ts:=[]) (by decide) (by simp;omega) (by decide) (by decide) s ((Ent.m x).put s);rw[show rowM x=([109,97,121]++47::(x.1++124::x.2),zdC [])from by unfold rowM;simp];refine e ?_;unfold zbI;simp only;rw[show(([109,97,121]:L8)==[99,108,105,101,110,116])=false from rfl,show(([109,97,121]:L8)==[103,114,111,117,112])=false from rfl,show(([109,97,121]:L8)==[109,97,121])=true from rfl];simp only[zF,zE];rw[show zaB.cut (x.1++124::x.2) ([124]:L8)=_ from cut_b (yuX h.1) (by simp;omega),zaA];simp only[zE];rw[yxT,h.1,zaA,zE,yxT,h.2,zaA];rfl
theorem takes_c{x:Cl}(h:cliB x=true)(s:PS):zaM zaB (rowC x) s.1 s.2.1 s.2.2.1 s.2.2.2.1 s.2.2.2.2=some (true,(Ent.c x).put s):=by
 obtain⟨p1,p2,p3,p4⟩:=ydA h;have hk:=ziL p1;have ht:=txC_ok h;have r3:=zoX p3;have r4:=zoX p4;have e:=ydK (k:=[99,108,105,101,110,116]) (n:=x.1) (ts:=txC x) (by decide) (by simp;omega) (ysW ht.2.1 ht.1) (by have:=ht.1;omega) s ((Ent.c x).put s);refine e ?_;unfold zbI;simp only;rw[show(([99,108,105,101,110,116]:L8)==[99,108,105,101,110,116])=true from rfl];simp only[zE];unfold txC;generalize hfl:dgE x.2.2.2.2.1++dgE x.2.2.2.2.2.1++dgE x.2.2.2.2.2.2.1++dgE x.2.2.2.2.2.2.2=fl;have hf4:fl.length=4:=by rw[<-hfl];simp[yhR]
 simp only[bG,bL];rw[ycC,zaA,ycC,zaA];simp only;rw[show((fl.length:Int) != 4)=false by rw[hf4];rfl,zF];have f1:subH fl (1:Int)=some (dgE x.2.2.2.2.1):=by rw[<-hfl];generalize x.2.2.2.2=q;obtain⟨a,b,c,d⟩:=q;cases a<;>cases b<;>cases c<;>cases d<;>rfl
 have f2:sub3 fl (1:Int) (2:Int)=some (dgE x.2.2.2.2.2.1):=by rw[<-hfl];generalize x.2.2.2.2=q;obtain⟨a,b,c,d⟩:=q;cases a<;>cases b<;>cases c<;>cases d<;>rfl
 have f3:sub3 fl (2:Int) (3:Int)=some (dgE x.2.2.2.2.2.2.1):=by rw[<-hfl];generalize x.2.2.2.2=q;obtain⟨a,b,c,d⟩:=q;cases a<;>cases b<;>cases c<;>cases d<;>rfl
 have f4:subL fl (3:Int)=some (dgE x.2.2.2.2.2.2.2):=by rw[<-hfl];generalize x.2.2.2.2=q;obtain⟨a,b,c,d⟩:=q;cases a<;>cases b<;>cases c<;>cases d<;>rfl
 rw[f1,zaA,f2,zaA,f3,zaA,f4,zaA,yhY,zaA];simp only;rw[yhY,zaA];simp only;rw[yhY,zaA];simp only;rw[yhY,zaA];simp only;rw[ynO (by omega),zaA];simp only;rw[ysF (by omega),zaA];simp only;rw[cli_ok (c:=(x.1,x.2.1,x.2.2.1,x.2.2.2.1,x.2.2.2.2.1,x.2.2.2.2.2.1,x.2.2.2.2.2.2.1,x.2.2.2.2.2.2.2)) (by simp only;omega) (by simp only;omega) (by simp only;omega),zaA,show cliB _=true from h];rfl
theorem takes_g{x:GrT}(h:(Ent.g x).sm)(h':(Ent.g x).ok)(s:PS):zaM zaB (rowG x) s.1 s.2.1 s.2.2.1 s.2.2.2.1 s.2.2.2.2=some (true,(Ent.g x).put s):=by
 obtain⟨hn,d1,d2⟩:=h';have hk:=ziL hn;obtain⟨⟨a1,b1,c1⟩,t1,t2⟩:=h;have e:=ydK (k:=[103,114,111,117,112]) (n:=x.1) (ts:=txG x) (by decide) (by simp;omega) t1 t2 s ((Ent.g x).put s);refine e ?_;unfold zbI;simp only;rw[show(([103,114,111,117,112]:L8)==[99,108,105,101,110,116])=false from rfl,show(([103,114,111,117,112]:L8)==[103,114,111,117,112])=true from rfl];simp only[zF,zE];unfold txG;simp only[bG,bL];rw[rd_ver d1 d2,zaA];simp only
 have key:∀g,4<=g->ziC (fun(y:Int×UM×GM×RM×CM×MM×List L8×Bool×List L8×List L8×List L8×Int)=>zaO zaB y.1 y.2.1 y.2.2.1 y.2.2.2.1 y.2.2.2.2.1 y.2.2.2.2.2.1 y.2.2.2.2.2.2.1 y.2.2.2.2.2.2.2.1 y.2.2.2.2.2.2.2.2.1 y.2.2.2.2.2.2.2.2.2.1 y.2.2.2.2.2.2.2.2.2.2.1 y.2.2.2.2.2.2.2.2.2.2.2) g ((0:Int),s.1,s.2.1,s.2.2.1,s.2.2.2.1,s.2.2.2.2,lisE x.2.1++(lisE x.2.2.1++lisE x.2.2.2.1),false,([]:List L8),([]:List L8),([]:List L8),x.2.2.2.2)=some (s.1,s.2.1,s.2.2.1,s.2.2.2.1,s.2.2.2.2,([]:List L8),false,x.2.1,x.2.2.1,x.2.2.2.1,x.2.2.2.2):=by
  intro g hg;obtain⟨g,rfl⟩:∃m,g=m+1+1+1+1:=⟨g-4,by omega⟩
  rw[zaV (s':=((1:Int),s.1,s.2.1,s.2.2.1,s.2.2.2.1,s.2.2.2.2,lisE x.2.2.1++lisE x.2.2.2.1,false,x.2.1,([]:List L8),([]:List L8),x.2.2.2.2)) (by
   unfold zaO;simp only
   rw[zaX (by decide),ynO (by omega),zaA,zaX trivial];rfl)]
  rw[zaV (s':=((2:Int),s.1,s.2.1,s.2.2.1,s.2.2.2.1,s.2.2.2.2,lisE x.2.2.2.1,false,x.2.1,x.2.2.1,([]:List L8),x.2.2.2.2)) (by
   unfold zaO;simp only
   rw[zaX (by decide),ynO (by omega),zaA,zaY (by decide),zaX trivial];rfl)]
  rw[zaV (s':=((3:Int),s.1,s.2.1,s.2.2.1,s.2.2.2.1,s.2.2.2.2,([]:List L8),false,x.2.1,x.2.2.1,x.2.2.2.1,x.2.2.2.2)) (by
   unfold zaO;simp only
   rw[zaX (by decide),ysF (by omega),zaA,zaY (by decide),zaY (by decide),zaX trivial];rfl)]
  refine zaW ?_;unfold zaO;simp only;rw[zaY (by decide)]
 rw[show iter (fun(y:Int×UM×GM×RM×CM×MM×List L8×Bool×List L8×List L8×List L8×Int)=>zaO zaB y.1 y.2.1 y.2.2.1 y.2.2.2.1 y.2.2.2.2.1 y.2.2.2.2.2.1 y.2.2.2.2.2.2.1 y.2.2.2.2.2.2.2.1 y.2.2.2.2.2.2.2.2.1 y.2.2.2.2.2.2.2.2.2.1 y.2.2.2.2.2.2.2.2.2.2.1 y.2.2.2.2.2.2.2.2.2.2.2) _=_ from key FU (by unfold FU;omega),zaA];simp only;rw[ynL,hn,zaA];rfl
theorem yvJ{x:Ent}(h:x.ok)(k:x.sm)(s:PS):zaM zaB x.row s.1 s.2.1 s.2.2.1 s.2.2.2.1 s.2.2.2.2=some (true,x.put s):=by
 cases x with
 |c x=>exact takes_c h s|g x=>exact takes_g k h s|m x=>exact takes_m h s|r x=>exact takes_r h s|u x=>exact takes_u h s
theorem rising{l:List L8}(hr:RiL l){may:L8->Bool}(hh:∀x∈l,may x=true)(hl:l.length<=1048576){s:PS}{body:Int×PS->Option ((Int×PS)⊕((Bool×PS)⊕PS))} (hb:∀(k:Nat) (hk:k<l.length),body ((k:Int),s)=bif !(may l[k])then some (.inr (.inl (false,s)))else bif decide ((k:Int)>(0:Int))then((idx l (w64 ((k:Int)-(1:Int)))).bind fun v15=>bif(Op.bytesLess l[k] v15||l[k]==v15)then some (.inr (.inl (false,s)))else some (.inl (w64 ((k:Int)+(1:Int)),s)))else some (.inl (w64 ((k:Int)+(1:Int)),s))) (he:body ((l.length:Int),s)=some (.inr (.inr s))):iter body ((0:Int),s)=some (.inr s):=by
 refine run_it hl s (fun i hi=>?_) he;have hb:=hb i hi;rw[hh _ (bE hi),bM,zF,zfA (by omega)]at hb;rw[hb];cases i with
 |zero=>rfl|succ k=>
  rw[zA (show(((k+1:Nat):Int))>0 by omega),zE,show w64 (((k+1:Nat):Int)-1)=(k:Int) by rw[zuG (by omega) (by omega)];omega,zbD rfl (show k<l.length by omega),zaA];have h1:kltS l[k] l[k+1]=true:=List.pairwise_iff_getElem.1 hr k (k+1) (by omega) hi (by omega);have h2:Op.bytesLess l[k+1] l[k]=false:=by
   show kltS l[k+1] l[k]=false;cases hy:kltS l[k+1] l[k] with
   |false=>rfl|true=>have:=kS.tr h1 hy;rw[kS.irr]at this;cases this
  rw[h2,beq_false_of_ne (kS.lt_ne h1).symm];rfl
theorem xcQ{l:List L8}(hr:RiL l){s:PS}(hh:∀x∈l,hasK 0 s x=true)(hl:l.length<=1048576):zgH zaB l (l.length:Int) s.1 s.2.1 s.2.2.1 s.2.2.2.1 s.2.2.2.2=some (true,s):=by
 unfold zgH
 rw[show iter (fun x:Int×PS=>zgR zaB l x.1 x.2.1 x.2.2.1 x.2.2.2.1 x.2.2.2.2.1 x.2.2.2.2.2) ((0:Int),s)=_ from rising hr (may:=hasK 0 s) hh hl (fun k hk=>by
  unfold zgR zeO;simp only
  rw[zaX (by omega),zbD rfl hk,zaA,zaA];rfl) (by unfold zgR;simp only;rw[zaY (by omega)]),zaA]
 simp only;rw[zA (by omega)]
theorem xaM{l:List L8}(hr:RiL l){s:PS}(hh:∀x∈l,hasK 1 s x=true)(hl:l.length<=1048576):zgL zaB l (l.length:Int) s.1 s.2.1 s.2.2.1 s.2.2.2.1 s.2.2.2.2=some (true,s):=by
 unfold zgL
 rw[show iter (fun x:Int×PS=>zgU zaB l x.1 x.2.1 x.2.2.1 x.2.2.2.1 x.2.2.2.2.1 x.2.2.2.2.2) ((0:Int),s)=_ from rising hr (may:=hasK 1 s) hh hl (fun k hk=>by
  unfold zgU zeS;simp only
  rw[zaX (by omega),zbD rfl hk,zaA,zaA];rfl) (by unfold zgU;simp only;rw[zaY (by omega)]),zaA]
 simp only;rw[zA (by omega)]
theorem yzQ{l:List L8}(hr:RiL l){s:PS}(hh:∀x∈l,hasK 2 s x=true)(hl:l.length<=1048576):zgB zaB l (l.length:Int) s.1 s.2.1 s.2.2.1 s.2.2.2.1 s.2.2.2.2=some (true,s):=by
 unfold zgB
 rw[show iter (fun x:Int×PS=>zgV zaB l x.1 x.2.1 x.2.2.1 x.2.2.2.1 x.2.2.2.2.1 x.2.2.2.2.2) ((0:Int),s)=_ from rising hr (may:=hasK 2 s) hh hl (fun k hk=>by
  unfold zgV zeV;simp only
  rw[zaX (by omega),zbD rfl hk,zaA,zaA];rfl) (by unfold zgV;simp only;rw[zaY (by omega)]),zaA]
 simp only;rw[zA (by omega)]
abbrev WB:Type:=UM×GM×RM×CM×MM×List L8×List L8×List L8×Int×List L8
theorem ynC{s:PS}{g:Gr}(hgl:∀i,i<3->RiL (lst i g)/\∀x∈lst i g,hasK i s x=true)(hlen:∀i,i<3->(lst i g).length<=1048576)(left:List L8):
  iter (fun x:Int×WB=>zbG zaB x.1 x.2.1 x.2.2.1 x.2.2.2.1 x.2.2.2.2.1 x.2.2.2.2.2.1 x.2.2.2.2.2.2.1 x.2.2.2.2.2.2.2.1 x.2.2.2.2.2.2.2.2.1 x.2.2.2.2.2.2.2.2.2.1 x.2.2.2.2.2.2.2.2.2.2) ((0:Int),s.1,s.2.1,s.2.2.1,s.2.2.2.1,s.2.2.2.2,g.1.1,g.1.2.1,g.1.2.2,g.2,left)=some (.inr (s.1,s.2.1,s.2.2.1,s.2.2.2.1,s.2.2.2.2,left)):=by
 have r3:=xcQ (hgl 0 (by decide)).1 (s:=s) (hgl 0 (by decide)).2 (hlen 0 (by decide));have r4:=xaM (hgl 1 (by decide)).1 (s:=s) (hgl 1 (by decide)).2 (hlen 1 (by decide));have r5:=yzQ (hgl 2 (by decide)).1 (s:=s) (hgl 2 (by decide)).2 (hlen 2 (by decide));refine run_it (n:=3) (by decide) (s.1,s.2.1,s.2.2.1,s.2.2.2.1,s.2.2.2.2,g.1.1,g.1.2.1,g.1.2.2,g.2,left) (fun i hi=>?_) ?_
 ·match i,hi with
  |0,_=>unfold zbG zcX;simp only;rw[zaX (by decide),zaX (by decide),zaA];simp only;rw[show zgH zaB g.1.1 (g.1.1.length:Int) s.1 s.2.1 s.2.2.1 s.2.2.2.1 s.2.2.2.2=_ from r3,zaA];rfl|1,_=>unfold zbG zcX;simp only;rw[zaX (by decide),zaY (by decide),zaX (by decide),zaA];simp only;rw[show zgL zaB g.1.2.1 (g.1.2.1.length:Int) s.1 s.2.1 s.2.2.1 s.2.2.2.1 s.2.2.2.2=_ from r4,zaA];rfl|2,_=>unfold zbG zcX;simp only;rw[zaX (by decide),zaY (by decide),zaY (by decide),zaX (by decide),zaA];simp only;rw[show zgB zaB g.1.2.2 (g.1.2.2.length:Int) s.1 s.2.1 s.2.2.1 s.2.2.2.1 s.2.2.2.2=_ from r5,zaA];rfl
 ·unfold zbG;simp only;rw[zaY (by decide)]
theorem lists_it{B:Int}{s:PS}(h:PInv B s){k:L8}{g:Gr}(hg:(k,g)∈s.2.1)(left:List L8):
  iter (fun x:Int×WB=>zbG zaB x.1 x.2.1 x.2.2.1 x.2.2.2.1 x.2.2.2.2.1 x.2.2.2.2.2.1 x.2.2.2.2.2.2.1 x.2.2.2.2.2.2.2.1 x.2.2.2.2.2.2.2.2.1 x.2.2.2.2.2.2.2.2.2.1 x.2.2.2.2.2.2.2.2.2.2) ((0:Int),s.1,s.2.1,s.2.2.1,s.2.2.2.1,s.2.2.2.2,g.1.1,g.1.2.1,g.1.2.2,g.2,left)=some (.inr (s.1,s.2.1,s.2.2.1,s.2.2.2.1,s.2.2.2.2,left)):=ynC (h.gl k g hg) (fun i hi=>bC (h.lst_len hg hi) (by decide)) left
theorem xdQ{B:Int}{s:PS}(h:PInv B s):rngA (fun x:T6 (List L8)=>zbU zaB x.1 x.2.1 x.2.2.1 x.2.2.2.1 x.2.2.2.2.1 x.2.2.2.2.2) (s.1,s.2.1,s.2.2.1,s.2.2.2.1,s.2.2.2.2,cU Prod.fst s.2.1)=some (.inl s):=by
 refine ybF (fun x=>znD _ _ _) (fun x=>x=(s.1,s.2.1,s.2.2.1,s.2.2.2.1,s.2.2.2.2,x.2.2.2.2.2)) (fun x=>x.2.2.2.2.2.length) (fun x hx o ho=>?_) rfl;obtain⟨left,rfl⟩:∃left,x=(s.1,s.2.1,s.2.2.1,s.2.2.2.1,s.2.2.2.2,left):=⟨_,hx⟩;have ho:o∈zbU zaB s.1 s.2.1 s.2.2.1 s.2.2.2.1 s.2.2.2.2 left:=ho;unfold zbU at ho;rcases yjW ho with⟨_,rfl⟩|⟨p,hp,rfl⟩
 ·exact .inr rfl
 ·obtain⟨hp1,hp2⟩:=kS.rngC_mem.1 hp;left;rw[kS.get_mem h.gR (k:=p.1) (v:=p.2) hp1,zaA];unfold zcM;simp only[zaA];rw[lists_it h (k:=p.1) (g:=p.2) hp1,zaA];exact⟨_,rfl,rfl,kS.rngD_len hp2⟩
theorem xfD{B:Int}{s:PS}(h:PInv B s):rngA (fun x:T6 (List (L8×L8))=>zbW zaB x.1 x.2.1 x.2.2.1 x.2.2.2.1 x.2.2.2.2.1 x.2.2.2.2.2) (s.1,s.2.1,s.2.2.1,s.2.2.2.1,s.2.2.2.2,cU Prod.fst s.2.2.2.2)=some (.inl s):=by
 refine ybF (fun x=>znD _ _ _) (fun x=>x=(s.1,s.2.1,s.2.2.1,s.2.2.2.1,s.2.2.2.2,x.2.2.2.2.2)) (fun x=>x.2.2.2.2.2.length) (fun x hx o ho=>?_) rfl;obtain⟨left,rfl⟩:∃left,x=(s.1,s.2.1,s.2.2.1,s.2.2.2.1,s.2.2.2.2,left):=⟨_,hx⟩;have ho:o∈zbW zaB s.1 s.2.1 s.2.2.1 s.2.2.2.1 s.2.2.2.2 left:=ho;unfold zbW at ho;rcases yjW ho with⟨_,rfl⟩|⟨p,hp,rfl⟩
 ·exact .inr rfl
 ·obtain⟨hp1,hp2⟩:=kSS.rngC_mem.1 hp;obtain⟨m1,m2,m3,m4⟩:=h.ma p hp1;left;rw[show mget (keq (.pr .s .s)) s.2.2.2.2 p.1=some p.2 from kSS.get_mem h.mR (k:=p.1) (v:=p.2) hp1,zaA];rw[ygA m1,zaA,m3];simp only[bM,zF];rw[ygA m2,zaA,m4];exact⟨_,rfl,rfl,kSS.rngD_len hp2⟩
abbrev LM:Type:=List (L8×List L8)
def zyT(G:GM):LM:=mmap (fun _ g=>lst 1 g) G
theorem zoS{G:GM}{k:L8}{l:List L8}:(k,l)∈zyT G↔∃g,(k,g)∈G/\l=lst 1 g:=by
 unfold zyT mmap;rw[aR];constructor
 ·rintro⟨p,hp,e⟩;cases e;exact⟨p.2,hp,rfl⟩
 ·rintro⟨g,hg,rfl⟩;exact⟨_,hg,rfl⟩
theorem ywP{s:PS}(hG:Ri kltS s.2.1):rngA (fun x:UM×GM×RM×CM×MM×List L8×LM=>zeW zaB x.1 x.2.1 x.2.2.1 x.2.2.2.1 x.2.2.2.2.1 x.2.2.2.2.2.1 x.2.2.2.2.2.2) (s.1,s.2.1,s.2.2.1,s.2.2.2.1,s.2.2.2.2,cU Prod.fst s.2.1,([]:LM))=some (s.1,s.2.1,s.2.2.1,s.2.2.2.1,s.2.2.2.2,zyT s.2.1):=by
 refine ybF (fun x=>znD _ _ _) (fun x=>∃left acc,x=(s.1,s.2.1,s.2.2.1,s.2.2.2.1,s.2.2.2.2,left,acc)/\Ri kltS acc/\∀k l,(k,l)∈acc↔(k,l)∈zyT s.2.1/\k∉left) (fun x=>x.2.2.2.2.2.1.length) (fun x hx o ho=>?_) ⟨_,_,rfl,.nil,fun k l=>⟨(fun h=>by cases h),(fun hh=>by
  obtain⟨g,hg,_⟩:=zoS.1 hh.1
  exact absurd (aR.2 ⟨_,hg,rfl⟩) hh.2)⟩⟩
 obtain⟨left,acc,rfl,hR,hm⟩:=hx;have ho:o∈zeW zaB s.1 s.2.1 s.2.2.1 s.2.2.2.1 s.2.2.2.2 left acc:=ho;unfold zeW at ho;rcases yjW ho with⟨he,rfl⟩|⟨p,hp,rfl⟩
 ·right;have e:acc=zyT s.2.1:=kS.ext hR (ymH hG) fun q=>by obtain⟨k,l⟩:=q;rw[hm k l];refine⟨fun hh=>hh.1,fun hh=>⟨hh,fun hn=>?_⟩⟩;obtain⟨g,hg,_⟩:=zoS.1 hh;have:=kS.rngC_mem.2 ⟨hg,hn⟩;rw[he]at this;cases this
  rw[e]
 ·obtain⟨hp1,hp2⟩:=kS.rngC_mem.1 hp;left;rw[kS.get_mem hG (k:=p.1) (v:=p.2) hp1,zaA];refine⟨_,rfl,⟨_,_,rfl,kS.set_ri hR,fun k l=>?_⟩,kS.rngD_len hp2⟩;rw[kS.set_mem hR,hm k l];constructor
  ·rintro(e|⟨⟨h1,h2⟩,h3⟩)
   ·cases e;exact⟨zoS.2 ⟨p.2,hp1,rfl⟩,fun hn=>(kS.rngD_mem.1 hn).2 rfl⟩
   ·exact⟨h1,fun hn=>h2 (kS.rngD_mem.1 hn).1⟩
  ·rintro⟨h1,h2⟩;by_cases e:k=p.1
   ·left;subst e;obtain⟨g,hg,rfl⟩:=zoS.1 h1;have:=kS.get_mem hG hg;rw[kS.get_mem hG (k:=p.1) (v:=p.2) hp1]at this;cases this;rfl
   ·exact .inr ⟨⟨h1,fun hn=>h2 (kS.rngD_mem.2 ⟨hn,e⟩)⟩,e⟩
theorem root0_ok{B:Int}{s:PS}(h:PInv B s):rngA (fun x:UM×GM×RM×CM×MM×List L8×LM=>zeW zaB x.1 x.2.1 x.2.2.1 x.2.2.2.1 x.2.2.2.2.1 x.2.2.2.2.2.1 x.2.2.2.2.2.2) (s.1,s.2.1,s.2.2.1,s.2.2.2.1,s.2.2.2.2,cU Prod.fst s.2.1,([]:LM))=some (s.1,s.2.1,s.2.2.1,s.2.2.2.1,s.2.2.2.2,zyT s.2.1):=ywP h.gR
theorem ytV(l:List L8)(z:LM)(hl:l.length<=1048576):zhY zaB l z=some (l.any (fun x=>mhas keqS z x),z):=by
 have key:∀(f i:Nat),f+i=l.length->∀g,f<g->ziC (fun x:Int×LM=>zeZ zaB l x.1 x.2) g ((i:Int),z)=some (match (l.drop i).findIdx? (fun x=>mhas keqS z x) with
   |some k=>.inl (((i+k:Nat):Int),z)|none=>.inr z):=by
  intro f;induction f with
  |zero=>
   intro i hi g hg;obtain⟨g,rfl⟩:∃m,g=m+1:=⟨g-1,by omega⟩;have hi:i=l.length:=by omega
   subst hi;rw[bX];refine zaW ?_;unfold zeZ;simp only;rw[zaY (by omega)];rfl
  |succ f ih=>
   intro i hi g hg;obtain⟨g,rfl⟩:∃m,g=m+1:=⟨g-1,by omega⟩;have hlt:i<l.length:=by omega
   rw[aX hlt,jH];have hb:zeZ zaB l (i:Int) z=bif mhas keqS z l[i]then some (.inr (.inl ((i:Int),z)))else some (.inl (((i+1:Nat):Int),z)):=by unfold zeZ ziP;rw[zaX (by omega),zbD rfl hlt,zaA,zaA,zfA (by omega)]
   cases hm:mhas keqS z l[i] with
   |true=>rw[hm]at hb;rw[zaW (b:=.inl ((i:Int),z)) hb];rfl|false=>
    rw[hm]at hb;rw[zaV (s':=(((i+1:Nat):Int),z)) hb,ih (i+1) (by omega) g (by omega)];simp only[if_false,dV];cases (l.drop (i+1)).findIdx? (fun x=>mhas keqS z x) with
    |none=>rfl|some k=>simp only[bO];congr 4;omega
 have h0:=key l.length 0 (by omega) FU (by unfold FU;omega);unfold zhY znL;rw[show iter (fun x:Int×LM=>zeZ zaB l x.1 x.2) ((0:Int),z)=_ from h0,zaA,bQ];cases hf:l.findIdx? (fun x=>mhas keqS z x) with
 |none=>simp only[zaA];rw[show l.any (fun x=>mhas keqS z x)=false from eL.2 fun x hx=>by rw[iK.1 hf x hx];simp];rfl|some k=>
  simp only[zaA]
  rw[show l.any (fun x=>mhas keqS z x)=true from dK.2 (by
   obtain⟨hk,h1,_⟩:=gI.1 hf
   exact⟨l[k],bE hk,h1⟩)]
  rw[zA (show(((0+k:Nat)):Int)≥0 by omega)]
theorem acy_nil{G:GM}(ha:Acy G){t:LM}(hs:∀k l,(k,l)∈t->(k,l)∈zyT G)(hd:∀k l,(k,l)∈t->∃x∈l,mhas keqS t x=true):t=[]:=by
 obtain⟨r,hr⟩:=ha;have key:∀(n:Nat) k l,(k,l)∈t->r k<n->False:=by
  intro n;induction n with
  |zero=>intro k l _ h;omega|succ n ih=>intro k l hk hn;obtain⟨x,hx,hh⟩:=hd k l hk;obtain⟨v,hv⟩:=kS.has_iff.1 hh;obtain⟨g,hg,rfl⟩:=zoS.1 (hs k l hk);have:=hr k g hg x hx;exact ih x v hv (by omega)
 cases t with
 |nil=>rfl|cons p t=>exact(key (r p.1+1) p.1 p.2 aM (by omega)).elim
abbrev R7:Type:=Bool×UM×GM×RM×CM×MM×LM
abbrev R8:Type:=Bool×UM×GM×RM×CM×MM×List L8×LM
theorem root_rng{B:Int}{s:PS}(h:PInv B s):rngA (zjO zaB) (Sum.inl (true,s.1,s.2.1,s.2.2.1,s.2.2.2.1,s.2.2.2.2,zyT s.2.1))=some (s.1,s.2.1,s.2.2.1,s.2.2.2.1,s.2.2.2.2,([]:LM)):=by
 let ok:LM->Prop:=fun t=>t.Sublist (zyT s.2.1);have hN:(zyT s.2.1).length=s.2.1.length:=by unfold zyT mmap;rw[aE]
 have okl:∀t,ok t->t.length<=s.2.1.length:=fun t ht=>by rw[<-hN];exact ht.length_le
 have okR:∀t,ok t->Ri kltS t:=fun t ht=>List.Pairwise.sublist ht (ymH h.gR);let done:LM->L8->List L8->Prop:=fun t k l=>∃x∈l,mhas keqS t x=true;have fin:∀t,ok t->(∀k l,(k,l)∈t->done t k l)->t=[]:=fun t ht hd=>acy_nil h.ac (fun k l hk=>ht.subset hk) hd
 refine ybF (S:=R7⊕R8) (fun x=>by
  cases x with
  |inl x=>exact gC _ _|inr x=>exact znD _ _ _) (fun x=>match x with
   |.inl y=>∃t,y=(y.1,s.1,s.2.1,s.2.2.1,s.2.2.2.1,s.2.2.2.2,t)/\ok t/\(y.1=false->t=[])|.inr y=>∃left t,y=(y.1,s.1,s.2.1,s.2.2.1,s.2.2.2.1,s.2.2.2.2,left,t)/\ok t/\left.length<=s.2.1.length/\(y.1=false->∀k l,(k,l)∈t->k∉left->done t k l))
  (fun x=>match x with
   |.inl y=>y.2.2.2.2.2.2.length*(2*s.2.1.length+6)+bif y.1 then s.2.1.length+2 else 0
   |.inr y=>y.2.2.2.2.2.2.2.length*(2*s.2.1.length+6)+y.2.2.2.2.2.2.1.length+1+bif y.1 then s.2.1.length+2 else 0) (fun x hx o ho=>?_) ⟨_,rfl,List.Sublist.refl _,fun h=>by cases h⟩
 cases x with
 |inl y=>
  obtain⟨t,hy,ht,hd⟩:=hx;obtain⟨more,y2⟩:=y;have hy2:y2=(s.1,s.2.1,s.2.2.1,s.2.2.2.1,s.2.2.2.2,t):=congrArg Prod.snd hy;subst hy2;have ho:o=zeU zaB more s.1 s.2.1 s.2.2.1 s.2.2.2.1 s.2.2.2.2 t:=aT.1 ho;unfold zeU at ho;cases more with
  |true=>refine .inl ⟨_,ho,⟨cU Prod.fst t,t,rfl,ht,by rw[aE];exact okl t ht,fun _ k l hk hn=>absurd (aR.2 ⟨_,hk,rfl⟩) hn⟩,?_⟩;show t.length*(2*s.2.1.length+6)+(cU Prod.fst t).length+1+0<t.length*(2*s.2.1.length+6)+(s.2.1.length+2);have:=okl t ht;rw[aE];omega
  |false=>right;rw[<-hd rfl];exact ho
 |inr y=>
  obtain⟨left,t,hy,ht,hll,hd⟩:=hx;obtain⟨more,y2⟩:=y;have hy2:y2=(s.1,s.2.1,s.2.2.1,s.2.2.2.1,s.2.2.2.2,left,t):=congrArg Prod.snd hy;subst hy2;have ho:o∈zeM zaB more s.1 s.2.1 s.2.2.1 s.2.2.2.1 s.2.2.2.2 left t:=ho;unfold zeM at ho;rcases yjW ho with⟨he,rfl⟩|⟨p,hp,rfl⟩
  ·refine .inl ⟨_,rfl,⟨t,rfl,ht,fun hm=>fin t ht fun k l hk=>hd hm k l hk fun hn=>?_⟩,?_⟩
   ·have:=kS.rngC_mem.2 ⟨hk,hn⟩;rw[he]at this;cases this
   ·show t.length*(2*s.2.1.length+6)+(bif more then s.2.1.length+2 else 0)<t.length*(2*s.2.1.length+6)+left.length+1+(bif more then s.2.1.length+2 else 0);omega
  ·obtain⟨hp1,hp2⟩:=kS.rngC_mem.1 hp;obtain⟨g,hg,hpl⟩:=zoS.1 (ht.subset (show(p.1,p.2)∈t from hp1));have hlen:p.2.length<=64:=by rw[hpl];exact h.lst_len hg (by decide)
   have hd1:=kS.rngD_len hp2;rw[kS.get_mem (okR t ht) (k:=p.1) (v:=p.2) hp1,zaA,ytV _ _ (by omega),zaA];left;cases h2:p.2.any fun x=>mhas keqS t x with
   |true=>
    obtain⟨x,hx,hxt⟩:=dK.1 h2;refine⟨_,rfl,⟨_,t,rfl,ht,by omega,fun hm k l hk hn=>?_⟩,?_⟩
    ·by_cases e:k=p.1
     ·subst e;have:=kS.get_mem (okR t ht) hk;rw[kS.get_mem (okR t ht) (k:=p.1) (v:=p.2) hp1]at this;cases this;exact⟨x,hx,hxt⟩
     ·exact hd hm k l hk fun hn2=>hn (kS.rngD_mem.2 ⟨hn2,e⟩)
    ·simp only;omega
   |false=>
    have hsub:=ysC (eq:=keqS) t p.1;have hlt:(mdel keqS t p.1).length<t.length:=by
     rcases Nat.lt_or_ge (mdel keqS t p.1).length t.length with h1|h1
     ·exact h1
     ·have e:mdel keqS t p.1=t:=hsub.eq_of_length_le h1;have:=(kS.del_mem (okR t ht) (k:=p.1) (p:=p)).1 (by rw[e];exact hp1);exact absurd rfl this.2
    refine⟨_,rfl,⟨_,_,rfl,hsub.trans ht,by omega,fun hm=>by cases hm⟩,?_⟩;simp only[zE];have h3:=okl t ht;obtain⟨d,hd⟩:∃d,t.length=(mdel keqS t p.1).length+1+d:=⟨t.length-(mdel keqS t p.1).length-1,by omega⟩;have h4:((mdel keqS t p.1).length+1)*(2*s.2.1.length+6)<=t.length*(2*s.2.1.length+6):=Nat.mul_le_mul_right _ (by omega);rw[Nat.succ_mul]at h4;have h5:0<=(bif more then s.2.1.length+2 else 0):=aZ _;omega
theorem rooted_ok{B:Int}{s:PS}(h:PInv B s):zbV zaB s.1 s.2.1 s.2.2.1 s.2.2.2.1 s.2.2.2.2=some (true,s):=by unfold zbV;rw[root0_ok h,zaA,root_rng h,zaA];rfl
theorem whole_ok{B:Int}{s:PS}(h:PInv B s):zbK zaB s.1 s.2.1 s.2.2.1 s.2.2.2.1 s.2.2.2.2=some (true,s):=by have h1:=h.uL;have h2:=h.gL;have h3:=h.rL;have h4:=h.cL;have h5:=h.mL;unfold zbK zhT;rw[zaY (by omega),zaY (by omega),zaY (by omega),zaY (by omega),zaY (by omega),zaA];simp only;rw[xdQ h,zaA];simp only;rw[xfD h,zaA];simp only;rw[rooted_ok h,zaA]
end Go.Proofs.YtopanhneegpgcaaGreatDoor.Am
