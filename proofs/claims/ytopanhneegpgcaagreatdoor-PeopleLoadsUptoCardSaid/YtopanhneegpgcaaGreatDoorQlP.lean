/- Parts of one proof. Conditions: as each theorem says. -/
import Derived.Stop.LaidErr
import Derived.Test.YtopanhneegpgcaaGreatDoorQlO
open Bool renaming and_eq_true->aF,and_self->gN,eq_iff_iff->eD,not_true->bM
open Int renaming le_refl->fW,toNat_natCast->bT
open List renaming Pairwise->iN,all_eq_true->aY,append_assoc->aU,append_nil->bK,cons_append->bG,contains_iff_mem->cF,drop_eq_getElem_cons->aX,drop_length->bX,drop_zero->bQ,flatMap_cons->dE,foldl_append->fE,foldl_cons->dI,getElem?_eq_getElem->aO,getElem?_eq_none->cQ,getElem_map->dD,getElem_mem->bE,getElem_take->dT,length->dO,length_append->aC,length_cons->aN,length_filter_le->gQ,length_map->aE,length_take->bA,map_congr_left->dR,map_cons->bF,map_map->dF,mem_append->bD,mem_cons->aK,mem_cons_of_mem->aL,mem_cons_self->aM,mem_iff_getElem->dY,mem_map->aR,mem_singleton->aT,nil_append->bL,pairwise_append->dH,pairwise_cons->aW,pairwise_filterMap->eP,pairwise_iff_getElem->bW,pairwise_map->bI,pairwise_singleton->bZ,takeWhile_append_dropWhile->cM,takeWhile_cons->eS,take_left->fH,take_of_length_le->cX
open Nat renaming le_refl->aI,le_trans->bC,lt_or_ge->cY,zero_add->aV,zero_le->aZ
open Option renaming bind->aQ,map_some->bO
open Go.Proofs.Tryz renaming prog->aA
namespace Go.Proofs.YtopanhneegpgcaaGreatDoor.Am
open Go Go.RowKit
def toR(s:PS):List Us×List GrT×List Ro×List Cl×List (L8×L8):=(usE s,grE s,roE s,clE s,maE s)
theorem ygR{γ:Type}{l:List γ}{key:γ->L8}(hl:l.length<=1048576)(x:L8){body:Int->Option (Int⊕Int)} (hb:∀(k:Nat) (hk:k<l.length),body (k:Int)=bif kltS (key l[k]) x then some (.inl (w64 ((k:Int)+1)))else some (.inr (k:Int))) (he:body (l.length:Int)=some (.inr (l.length:Int))):
  iter body (0:Int)=some ((ziN x (l.map key):Nat):Int):=by
 have keyy:∀(f i:Nat),f+i=l.length->∀g,f<g->ziC body g (i:Int)=some ((i+ziN x ((l.drop i).map key):Nat):Int):=by
  intro f;induction f with
  |zero=>
   intro i hi g hg;obtain⟨g,rfl⟩:∃m,g=m+1:=⟨g-1,by omega⟩;have hi:i=l.length:=by omega
   subst hi;rw[zaW he,bX];rfl
  |succ f ih=>
   intro i hi g hg;obtain⟨g,rfl⟩:∃m,g=m+1:=⟨g-1,by omega⟩;have hlt:i<l.length:=by omega
   have h1:=hb i hlt;rw[aX hlt,bF];unfold ziN;rw[eS];cases hp:kltS (key l[i]) x with
   |false=>rw[hp]at h1;rw[zaW (b:=(i:Int)) h1];simp|true=>rw[hp,zfA (by omega)]at h1;have:=ih (i+1) (by omega) g (by omega);unfold ziN at this;rw[zaV (s':=((i+1:Nat):Int)) h1,this];simp only[if_true,aN];congr 2;omega
 have h0:=keyy l.length 0 (by omega) FU (by unfold FU;omega);rw[bQ,aV]at h0;exact h0
theorem ygE{γ:Type}{l:List γ}{key:γ->L8}(hr:RiL (l.map key))(x:L8):(bif decide (((ziN x (l.map key):Nat):Int)<(l.length:Int))then(aQ (idx l ((ziN x (l.map key):Nat):Int)) fun v5=>some (((ziN x (l.map key):Nat):Int),(key v5==x)))else some (((ziN x (l.map key):Nat):Int),false))=some (((ziN x (l.map key):Nat):Int),(l.map key).contains x):=by
 rw[ynA hr (x:=x)];by_cases h:ziN x (l.map key)<l.length
 ·rw[zaX (by omega),zbD rfl h,zaA,aO (show ziN x (l.map key)<(l.map key).length by rw[aE];exact h),dD]
 ·rw[zaY (by omega),cQ (show(l.map key).length<=ziN x (l.map key) by rw[aE];omega)]
theorem yeH{γ:Type}{es:List (L8×γ)}(h:Ri kltS es):RiL (es.map (·.1)):=bI.2 h
theorem yaN{γ:Type}{es:List (L8×γ)}(x:L8):(es.map (·.1)).contains x=mhas keqS es x:=by rw[eD,cF,kS.has_iff,aR];exact⟨fun⟨p,hp,e⟩=>⟨p.2,by rw[<-e];exact hp⟩,fun⟨v,hv⟩=>⟨_,hv,rfl⟩⟩
theorem yzW{s:PS}(h:PPre s):(usE s).map (·.1)=s.1.map (·.1):=by unfold usE;rw[dF];exact dR fun p hp=>(h.us p.1 p.2 hp).1
theorem yzN(s:PS):(grE s).map (·.1)=s.2.1.map (·.1):=by unfold grE;rw[dF];exact dR fun p hp=>rfl
theorem xbQ{s:PS}(h:PPre s):(roE s).map (·.1)=s.2.2.1.map (·.1):=by unfold roE;rw[dF];exact dR fun p hp=>(h.ro p.1 p.2 hp).1
theorem xeS{s:PS}(h:PPre s):(clE s).map (·.1)=s.2.2.2.1.map (·.1):=by unfold clE;rw[dF];exact dR fun p hp=>(h.cl p.1 p.2 hp).1
def Lns(s:PS):Prop:=s.1.length<=1048576/\s.2.1.length<=1048576/\s.2.2.1.length<=1048576/\s.2.2.2.1.length<=1048576/\s.2.2.2.2.length<=1048576
theorem ywB{s:PS}(h:PPre s)(hl:Lns s)(x:L8):zcZ zaB (toR s) x=some ((ziN x (s.1.map (·.1)):Int),mhas keqS s.1 x):=by
 have hlen:(usE s).length<=1048576:=by unfold usE;rw[aE];exact hl.1
 unfold zcZ
 rw[ygR (l:=usE s) (key:=(·.1)) hlen x (fun k hk=>by
  unfold zgW toR;simp only
  rw[zaX (by omega),zbD rfl hk,zaA];rfl) (by
  unfold zgW toR;simp only
  rw[zaY (by omega)]),zaA]
 refine(ygE (l:=usE s) (key:=(·.1)) (by rw[yzW h];exact yeH h.uR) x).trans ?_;rw[yzW h,yaN]
theorem ypY{s:PS}(h:PPre s)(hl:Lns s)(x:L8):zbN zaB (toR s) x=some ((ziN x (s.2.1.map (·.1)):Int),mhas keqS s.2.1 x):=by
 have hlen:(grE s).length<=1048576:=by unfold grE;rw[aE];exact hl.2.1
 unfold zbN
 rw[ygR (l:=grE s) (key:=(·.1)) hlen x (fun k hk=>by
  unfold zfW toR;simp only
  rw[zaX (by omega),zbD rfl hk,zaA];rfl) (by
  unfold zfW toR;simp only
  rw[zaY (by omega)]),zaA]
 refine(ygE (l:=grE s) (key:=(·.1)) (by rw[yzN s];exact yeH h.gR) x).trans ?_;rw[yzN s,yaN]
theorem xaU{s:PS}(h:PPre s)(hl:Lns s)(x:L8):zbP zaB (toR s) x=some ((ziN x (s.2.2.1.map (·.1)):Int),mhas keqS s.2.2.1 x):=by
 have hlen:(roE s).length<=1048576:=by unfold roE;rw[aE];exact hl.2.2.1
 unfold zbP
 rw[ygR (l:=roE s) (key:=(·.1)) hlen x (fun k hk=>by
  unfold zgY toR;simp only
  rw[zaX (by omega),zbD rfl hk,zaA];rfl) (by
  unfold zgY toR;simp only
  rw[zaY (by omega)]),zaA]
 refine(ygE (l:=roE s) (key:=(·.1)) (by rw[xbQ h];exact yeH h.rR) x).trans ?_;rw[xbQ h,yaN]
theorem yyI{s:PS}(h:PPre s)(hl:Lns s)(x:L8):zdS zaB (toR s) x=some ((ziN x (s.2.2.2.1.map (·.1)):Int),mhas keqS s.2.2.2.1 x):=by
 have hlen:(clE s).length<=1048576:=by unfold clE;rw[aE];exact hl.2.2.2.1
 unfold zdS
 rw[ygR (l:=clE s) (key:=(·.1)) hlen x (fun k hk=>by
  unfold zfQ toR;simp only
  rw[zaX (by omega),zbD rfl hk,zaA];rfl) (by
  unfold zfQ toR;simp only
  rw[zaY (by omega)]),zaA]
 refine(ygE (l:=clE s) (key:=(·.1)) (by rw[xeS h];exact yeH h.cR) x).trans ?_;rw[xeS h,yaN]
theorem xbW{s:PS}(h:PPre s)(hl:Lns s){k:Nat}(hk:k<3)(x:L8):zdX zaB (toR s) (k:Int) x=some (hasK k s x):=by
 unfold zdX zjM
 match k,hk with
 |0,_=>rw[show(((0:Nat):Int)==0)=true from rfl,zE,ywB h hl,zaA];show _=some (mhas keqS s.1 x);cases mhas keqS s.1 x<;>rfl
 |1,_=>rw[show(((1:Nat):Int)==0)=false from rfl,zF,show(((1:Nat):Int)==1)=true from rfl,zE,ypY h hl,zaA];show _=some (mhas keqS s.2.1 x);cases mhas keqS s.2.1 x<;>rfl
 |2,_=>rw[show(((2:Nat):Int)==0)=false from rfl,zF,show(((2:Nat):Int)==1)=false from rfl,zF,xaU h hl,zaA];show _=some (mhas keqS s.2.2.1 x);cases mhas keqS s.2.2.1 x<;>rfl
theorem dis_ok{s:PS}(h:PPre s)(hl:Lns s){p:L8}(hp:prB p=true):zdK zaB (toR s) p=some (thB s p):=by
 have hlen:=yjF hp;unfold zdK;rw[ydP (by omega),hp,zaA,bM,zF];obtain⟨c,l,rfl,hc,_⟩:=ymV hp;rw[show idx (c::58::l) (0:Int)=some c from rfl,zaA,show subL (c::58::l) (2:Int)=some l from by rw[show(2:Int)=((2:Nat):Int)from rfl,zsI (by simp)];rfl];rcases hc with rfl|rfl
 ·rw[show(((117:UInt8).toNat:Int)==((99:UInt8).toNat:Int))=false from rfl,zF,zaA,ywB h hl,zaA];rfl
 ·rw[show(((99:UInt8).toNat:Int)==((99:UInt8).toNat:Int))=true from rfl,zE,zaA,yyI h hl,zaA];rfl
theorem yeR{s:PS}(h:PPre s)(hl:Lns s){k:Nat}(hk:k<3){l:List L8}(hll:l.length<=1048576):zaS zaB (toR s) (k:Int) l=some (l.all (hasK k s)&&zmM l):=by
 have:=ypG (may:=hasK k s) (n:=l.length) (body:=zdF zaB (toR s) (k:Int) l) hll (fun i hi=>by
  unfold zdF
  rw[zaX (by omega),zbD rfl hi,zaA,xbW h hl hk,zaA,zaA]) (by
  unfold zdF
  rw[zaY (by omega)])
 rw[zA (fW _)]at this;unfold zaS;refine this.trans ?_;unfold zxD;rw[zA (aI _),Bool.and_true]
theorem yqB{s:PS}(h:PPre s)(hl:Lns s)(x:L8):(∃g,(x,g)∈s.2.1/\zaN zaB (toR s) x=some ((x,g.1.1,g.1.2.1,g.1.2.2,g.2),true))∨((∀g,(x,g)∉s.2.1)/\zaN zaB (toR s) x=some ((([]:L8),([]:List L8),([]:List L8),([]:List L8),(0:Int)),false)):=by
 unfold zaN;rw[ypY h hl,zaA];simp only;cases hh:mhas keqS s.2.1 x with
 |false=>refine .inr ⟨fun g hg=>?_,rfl⟩;rw[kS.has_iff.2 ⟨g,hg⟩]at hh;cases hh
 |true=>
  left;rw[bM,zF];have hr:=ynA (yeH h.gR) (x:=x);rw[yaN,hh]at hr;generalize ziN x (s.2.1.map (·.1))=j at hr ⊢;by_cases hj:j<s.2.1.length
  ·rw[aO (show j<(s.2.1.map (·.1)).length by rw[aE];exact hj),dD]at hr;have e:(s.2.1[j]).1=x:=by have:=hr.symm;simpa using this
   refine⟨(s.2.1[j]).2,by rw[<-e];exact bE hj,?_⟩;have hg:(toR s).2.1=grE s:=rfl;rw[hg,zbD rfl (show j<(grE s).length by unfold grE;rw[aE];exact hj),zaA];unfold grE;rw[dD,e]
  ·rw[cQ (by rw[aE];omega)]at hr;cases hr
def ybV(l:List L8)(x:L8):List L8:=bif l.contains x then l else l++[x]
theorem yqZ:∀(m l:List L8),l.Nodup->(m.foldl ybV l).Nodup/\(∃n,m.foldl ybV l=l++n)/\∀y,y∈m.foldl ybV l↔y∈l∨y∈m
 |[],l,h=>⟨h,⟨[],by simp⟩,fun y=>by simp⟩|x::m,l,h=>by
  have h1:(ybV l x).Nodup/\(∃n,ybV l x=l++n)/\∀y,y∈ybV l x↔y∈l∨y=x:=by
   unfold ybV;cases hc:l.contains x with
   |true=>exact⟨h,⟨[],by simp⟩,fun y=>⟨.inl,fun hh=>hh.elim id fun e=>by rw[e];exact cF.1 hc⟩⟩|false=>
    have hn:x∉l:=fun hm=>by rw[cF.2 hm]at hc;cases hc
    exact⟨List.nodup_append.2 ⟨h,bZ _ _,fun a ha b hb e=>hn (by rw[<-aT.1 hb,<-e];exact ha)⟩,⟨[x],rfl⟩,fun y=>by simp⟩
  obtain⟨i1,⟨n2,i2⟩,i3⟩:=yqZ m (ybV l x) h1.1;obtain⟨n1,e1⟩:=h1.2.1;refine⟨i1,⟨n1++n2,by rw[dI,i2,e1,aU]⟩,fun y=>?_⟩;rw[dI,i3 y,h1.2.2 y,aK,or_assoc]
theorem yuQ{g:GrT}(hg:g.2.2.1.length<=1048576):∀(f i:Nat) (l:List L8),f+i=g.2.2.1.length->l.length+f<=1048576->∀n,f<n ->
  ziC (fun x:Int×List L8×GrT=>zaT zaB x.1 x.2.1 x.2.2.1 x.2.2.2.1 x.2.2.2.2.1 x.2.2.2.2.2.1 x.2.2.2.2.2.2) n ((i:Int),l,g)=some ((g.2.2.1.drop i).foldl ybV l)
 |0,i,l,hi,_,n+1,_=>by
  have hi:i=g.2.2.1.length:=by omega
  subst hi;refine zaW ?_;simp only;unfold zaT;rw[zaY (by omega),bX];rfl
 |f+1,i,l,hi,hl,n+1,hn=>by
  have hlt:i<g.2.2.1.length:=by omega
  rw[aX hlt,dI];have hp:(ybV l g.2.2.1[i]).length<=l.length+1:=by unfold ybV;cases l.contains g.2.2.1[i]<;>simp
  rw[<-yuQ hg f (i+1) (ybV l g.2.2.1[i]) (by omega) (by omega) n (by omega)];refine zaV ?_;simp only;unfold zaT;rw[zaX (by omega),zbD rfl hlt,zaA,yhN _ _ (by omega),zaA,zaA,zfA (by omega)];unfold ybV;cases l.contains g.2.2.1[i] with
  |true=>rfl|false=>rw[Bool.not_false,zE,zfN (by simp;omega),zaA];rfl
theorem xdS{s:PS}(h:PPre s)(hl:Lns s)(hf:∀k g,(k,g)∈s.2.1->RiL (lst 1 g)/\∀y∈lst 1 g,mhas keqS s.2.1 y=true)(hg32:s.2.1.length<=32)(x:L8):
  T (zcA zaB (toR s) x) fun l=>l.length<=33/\∀y,y∈l↔Reach s.2.1 x y:=by
 -- all that can be reached are groups, or the first one
 have cl:∀y,Reach s.2.1 x y->y=x∨mhas keqS s.2.1 y=true:=fun y hy=>by
  induction hy with
  |refl=>exact .inl rfl|step _ hg hy _=>exact .inr ((hf _ _ hg).2 _ hy)
 have bound:∀l:List L8,l.Nodup->(∀y∈l,Reach s.2.1 x y)->l.length<=s.2.1.length+1:=fun l hn hr=>by
  have:=zjR hn (m:=x::s.2.1.map (·.1)) fun y hy=>by
   rcases cl y (hr y hy)with e|e
   ·rw[e];exact aM
   ·obtain⟨g,hg⟩:=kS.has_iff.1 e;exact aL _ (aR.2 ⟨_,hg,rfl⟩)
  simpa using this
 unfold zcA;refine(T.iter (s:=((0:Int),([x]:List L8))) (fun z:Int×List L8=>∃i:Nat,z.1=(i:Int)/\i<=z.2.length/\z.2.Nodup/\x∈z.2/\(∀y∈z.2,Reach s.2.1 x y)/\∀(j:Nat) (hj:j<z.2.length),j<i->∀g,(z.2[j],g)∈s.2.1->∀y∈lst 1 g,y∈z.2) (fun z=>((s.2.1.length+2:Nat)-z.1).toNat) (fun l:List L8=>l.length<=33/\∀y,y∈l↔Reach s.2.1 x y) (fun z hz=>?_) ⟨0,rfl,aZ _,bZ _ _,aM,fun y hy=>by rw[aT.1 hy];exact .refl,fun j _ hj=>by omega⟩ (by simp only;omega)).bind fun l hl=>T.ok hl;obtain⟨i,hi,hil,hn,hx,hr,hc⟩:=hz;obtain⟨z1,l⟩:=z;have hi:z1=(i:Int):=hi;subst hi;have hb:=bound l hn hr;simp only at hil hn hx hr hc ⊢;unfold zcK;rcases cY i l.length with hlt|hge
 ·rw[zaX (by omega),zzG hlt,zaA,zbD rfl hlt,zaA]
  have step:∀g:GrT,g.2.2.1.length<=1048000->(∀y∈g.2.2.1,Reach s.2.1 x y)->(∀g',(l[i],g')∈s.2.1->∀y∈lst 1 g',y∈g.2.2.1)->∀b:Bool,zaN zaB (toR s) l[i]=some (g,b)->T (aQ (zaN zaB (toR s) l[i]) fun v5=>aQ (iter (fun x:Int×List L8×GrT=>zaT zaB x.1 x.2.1 x.2.2.1 x.2.2.2.1 x.2.2.2.2.1 x.2.2.2.2.2.1 x.2.2.2.2.2.2) ((0:Int),l,v5.1)) fun v17=>(some (.inl (w64 ((i:Int)+(1:Int)),v17)):Option ((Int×List L8)⊕List L8))) fun r=>match r with
    |.inl s'=>(∃i:Nat,s'.1=(i:Int)/\i<=s'.2.length/\s'.2.Nodup/\x∈s'.2/\(∀y∈s'.2,Reach s.2.1 x y)/\∀(j:Nat) (hj:j<s'.2.length),j<i->∀g,(s'.2[j],g)∈s.2.1->∀y∈lst 1 g,y∈s'.2)/\((s.2.1.length+2:Nat)-s'.1).toNat<((s.2.1.length+2:Nat)-(i:Int)).toNat|.inr l=>l.length<=33/\∀y,y∈l↔Reach s.2.1 x y:=fun g hgl hgr hgs b hG=>by
   have hin:=yuQ (g:=g) (by omega) g.2.2.1.length 0 l (by omega) (by omega) FU (by unfold FU;omega);rw[hG,zaA];simp only;rw[show iter (fun x:Int×List L8×GrT=>zaT zaB x.1 x.2.1 x.2.2.1 x.2.2.2.1 x.2.2.2.2.1 x.2.2.2.2.2.1 x.2.2.2.2.2.2) ((0:Int),l,g)=_ from hin,zaA,bQ,zfA (by omega)];obtain⟨p1,⟨n,p2⟩,p3⟩:=yqZ g.2.2.1 l hn;refine T.ok ⟨⟨i+1,rfl,?_,p1,(p3 x).2 (.inl hx),fun y hy=>?_,fun j hj hji g' hg' y hy=>?_⟩,by simp only;omega⟩
   ·simp only;rw[p2,aC];omega
   ·rcases(p3 y).1 hy with hy|hy
    ·exact hr y hy
    ·exact hgr y hy
   ·simp only at hg' ⊢;have hjl:j<l.length:=by omega
    have ej:(g.2.2.1.foldl ybV l)[j]'hj=l[j]:=by
     have:(g.2.2.1.foldl ybV l)[j]? = l[j]?:=by rw[p2,List.getElem?_append_left hjl]
     rw[aO hj,aO hjl]at this;exact osi this
    rw[ej]at hg';rw[p3 y];rcases cY j i with hlt2|hge2
    ·exact .inl (hc j hjl hlt2 g' hg' y hy)
    ·obtain rfl:j=i:=by omega
     exact .inr (hgs g' hg' y hy)
  rcases yqB h hl l[i]with⟨g,hg,e⟩|⟨hno,e⟩
  ·refine(step (l[i],g.1.1,g.1.2.1,g.1.2.2,g.2) ?_ (fun y hy=>(hr _ (bE hlt)).step hg hy) (fun g' hg' y hy=>?_) true e).mono fun r hr=>by cases r<;>exact hr
   ·-- what a group has in it are groups
    have hh:=hf _ _ hg;have:=hh.1.sub_len (m:=s.2.1.map (·.1)) fun y hy=>by obtain⟨g',hg'⟩:=kS.has_iff.1 (hh.2 y hy);exact aR.2 ⟨_,hg',rfl⟩
    rw[aE]at this;show(lst 1 g).length<=1048000;omega
   ·have eg:=kS.get_mem h.gR hg';rw[kS.get_mem h.gR hg]at eg;cases eg;exact hy
  ·exact(step _ (aZ _) (fun y hy=>by cases hy) (fun g' hg'=>absurd hg' (hno g')) false e).mono fun r hr=>by cases r<;>exact hr
 ·have e:i=l.length:=by omega
  subst e;rw[zaY (by omega)];refine T.ok ⟨by omega,fun y=>⟨hr y,fun hy=>?_⟩⟩;induction hy with
  |refl=>exact hx|step _ hg hy ih=>obtain⟨j,hj,rfl⟩:=dY.1 ih;exact hc j hj hj _ hg _ hy
def ytC(s:PS)(g:GrT):Bool:=(g.2.1.all (hasK 0 s)&&zmM g.2.1)&&((g.2.2.1.all (hasK 1 s)&&zmM g.2.2.1)&&(g.2.2.2.1.all (hasK 2 s)&&zmM g.2.2.2.1))
theorem yoN{s:PS}{p:L8×Gr}:ytC s (p.1,p.2.1.1,p.2.1.2.1,p.2.1.2.2,p.2.2)=true↔Fine s p.2:=by
 unfold ytC Fine;simp only[aF,aY,yaM];constructor
 ·rintro⟨⟨a1,a2⟩,⟨b1,b2⟩,c1,c2⟩ i hi
  match i,hi with
  |0,_=>exact⟨a2,a1⟩|1,_=>exact⟨b2,b1⟩|2,_=>exact⟨c2,c1⟩
 ·intro h;have h0:=h 0 (by decide);have h1:=h 1 (by decide);have h2:=h 2 (by decide);exact⟨⟨h0.2,h0.1⟩,⟨h1.2,h1.1⟩,h2.2,h2.1⟩
theorem dfine_it{s:PS}(h:PPre s)(hl:Lns s):iter (zdT zaB (toR s)) (0:Int)=some (bif(grE s).all (ytC s)then .inr ()else .inl false):=by
 have hlen:(grE s).length<=1048576:=by unfold grE;rw[aE];exact hl.2.1
 refine yjL (l:=grE s) (p:=ytC s) (by omega) (fun k hk=>?_) ?_
 ·unfold zdT;have hg:(toR s).2.1=grE s:=rfl;rw[hg,zaX (by omega),zbD rfl hk,zaA];obtain⟨p,hp,hpe⟩:=aR.1 (bE hk);have hsz:=h.sz p.1 p.2 hp;have z0:(grE s)[k].2.1.length<=1048576:=by rw[<-hpe];exact hsz 0 (by decide)
  have z1:(grE s)[k].2.2.1.length<=1048576:=by rw[<-hpe];exact hsz 1 (by decide)
  have z2:(grE s)[k].2.2.2.1.length<=1048576:=by rw[<-hpe];exact hsz 2 (by decide)
  rw[show zaS zaB (toR s) (0:Int) (grE s)[k].2.1=_ from yeR h hl (k:=0) (by decide) z0,show zaS zaB (toR s) (1:Int) (grE s)[k].2.2.1=_ from yeR h hl (k:=1) (by decide) z1,show zaS zaB (toR s) (2:Int) (grE s)[k].2.2.2.1=_ from yeR h hl (k:=2) (by decide) z2];unfold ytC;simp only[zaA,zfA (show k<1099511627776 by omega)];cases ((grE s)[k].2.1.all (hasK 0 s)&&zmM (grE s)[k].2.1)<;>cases ((grE s)[k].2.2.1.all (hasK 1 s)&&zmM (grE s)[k].2.2.1)<;>cases ((grE s)[k].2.2.2.1.all (hasK 2 s)&&zmM (grE s)[k].2.2.2.1)<;>rfl
 ·unfold zdT;have hg:(toR s).2.1=grE s:=rfl;rw[hg,zaY (by omega)]
open Classical in
noncomputable def ysU(s:PS)(g:GrT):Bool:=g.2.2.1.all fun x=>!decide (Reach s.2.1 x g.1)
open Classical in
theorem dfree_it{s:PS}(h:PPre s)(hl:Lns s)(hf:∀k g,(k,g)∈s.2.1->Fine s g)(hg32:s.2.1.length<=32):iter (zdV zaB (toR s)) (0:Int)=some (bif(grE s).all (ysU s)then .inr ()else .inl false):=by
 have hlen:(grE s).length<=1048576:=by unfold grE;rw[aE];exact hl.2.1
 have hg:(toR s).2.1=grE s:=rfl;refine yjL (l:=grE s) (p:=ysU s) (by omega) (fun k hk=>?_) ?_
 ·unfold zdV;rw[hg,zaX (by omega)];obtain⟨p,hp,hpe⟩:=aR.1 (bE hk);have z1:(grE s)[k].2.2.1.length<=1048576:=by rw[<-hpe];exact h.sz p.1 p.2 hp 1 (by decide)
  have inner:iter (zdO zaB (toR s) (k:Int)) (0:Int)=some (bif(grE s)[k].2.2.1.all (fun x=>!decide (Reach s.2.1 x (grE s)[k].1))then .inr ()else .inl false):=by
   refine yjL (l:=(grE s)[k].2.2.1) (p:=fun x=>!decide (Reach s.2.1 x (grE s)[k].1)) (by omega) (fun i hi=>?_) ?_
   ·unfold zdO;rw[hg,zbD rfl hk,zaA,zaX (by omega),zaA,zbD rfl hi,zaA,zaA];obtain⟨l,e1,e2,e3⟩:=xdS h hl (fun k g hkg=>hf k g hkg 1 (by decide)) hg32 ((grE s)[k].2.2.1[i]);rw[e1,zaA,yhN _ _ (by omega),zaA,zfA (by omega)];have:l.contains (grE s)[k].1=decide (Reach s.2.1 (grE s)[k].2.2.1[i] (grE s)[k].1):=by rw[eD,cF,e3,decide_eq_true_iff]
    rw[this];cases decide (Reach s.2.1 (grE s)[k].2.2.1[i] (grE s)[k].1)<;>rfl
   ·unfold zdO;rw[hg,zbD rfl hk,zaA,zaY (by omega)]
  rw[inner,zaA,zfA (by omega)];unfold ysU;cases (grE s)[k].2.2.1.all (fun x=>!decide (Reach s.2.1 x (grE s)[k].1))<;>rfl
 ·unfold zdV;rw[hg,zaY (by omega)]
theorem dmay_it{s:PS}(h:PPre s)(hl:Lns s):iter (zdR zaB (toR s)) (0:Int)=some (bif(maE s).all (fun m=>thB s m.1&&thB s m.2)then .inr ()else .inl false):=by
 have hlen:(maE s).length<=1048576:=by unfold maE;rw[aE];exact hl.2.2.2.2
 have hg:(toR s).2.2.2.2=maE s:=rfl;refine yjL (l:=maE s) (p:=fun m=>thB s m.1&&thB s m.2) (by omega) (fun k hk=>?_) ?_
 ·unfold zdR;obtain⟨p,hp,hpe⟩:=aR.1 (bE hk);obtain⟨m1,m2⟩:=h.ma p hp;rw[hpe]at m1 m2;rw[hg,zaX (by omega),zbD rfl hk,zaA,dis_ok h hl m1,zaA,zaA,dis_ok h hl m2,zaA,zfA (by omega)];cases thB s (maE s)[k].1<;>cases thB s (maE s)[k].2<;>rfl
 ·unfold zdR;rw[hg,zaY (by omega)]
theorem xdF{s:PS}(h:PPre s)(hl:Lns s):(zoH s/\zcU zaB (toR s)=some true)∨(¬zoH s/\zcU zaB (toR s)=some false):=by
 have l1:(toR s).1.length=s.1.length:=by show(usE s).length=_;unfold usE;rw[aE]
 have l2:(toR s).2.1.length=s.2.1.length:=by show(grE s).length=_;unfold grE;rw[aE]
 have l3:(toR s).2.2.1.length=s.2.2.1.length:=by show(roE s).length=_;unfold roE;rw[aE]
 have l4:(toR s).2.2.2.1.length=s.2.2.2.1.length:=by show(clE s).length=_;unfold clE;rw[aE]
 have l5:(toR s).2.2.2.2.length=s.2.2.2.2.length:=by show(maE s).length=_;unfold maE;rw[aE]
 unfold zcU zjF;rw[l1,l2,l3,l4,l5];by_cases c1:(s.1.length:Int)>64
 ·rw[zaX c1,zaA];exact .inr ⟨fun w=>by have:=w.uL;omega,rfl⟩
 rw[zaY c1];by_cases c2:(s.2.1.length:Int)>32
 ·rw[zaX c2,zaA];exact .inr ⟨fun w=>by have:=w.gL;omega,rfl⟩
 rw[zaY c2];by_cases c3:(s.2.2.1.length:Int)>32
 ·rw[zaX c3,zaA];exact .inr ⟨fun w=>by have:=w.rL;omega,rfl⟩
 rw[zaY c3];by_cases c4:(s.2.2.2.1.length:Int)>32
 ·rw[zaX c4,zaA];exact .inr ⟨fun w=>by have:=w.cL;omega,rfl⟩
 rw[zaY c4];by_cases c5:(s.2.2.2.2.length:Int)>64
 ·rw[zaX c5,zaA];exact .inr ⟨fun w=>by have:=w.mL;omega,rfl⟩
 rw[zaY c5,zaA];simp only;rw[dfine_it h hl,zaA];cases a1:(grE s).all (ytC s) with
 |false=>
  refine .inr ⟨fun w=>?_,rfl⟩;have:(grE s).all (ytC s)=true:=aY.2 fun g hg=>by obtain⟨p,hp,rfl⟩:=aR.1 hg;exact yoN.2 (w.gl p.1 p.2 hp)
  rw[this]at a1;cases a1
 |true=>
  have hf:∀k g,(k,g)∈s.2.1->Fine s g:=fun k g hkg=>yoN (p:=(k,g)).1 (aY.1 a1 _ (aR.2 ⟨(k,g),hkg,rfl⟩));simp only[zE];rw[dfree_it h hl hf (by omega),zaA];cases a2:(grE s).all (ysU s) with
  |false=>
   refine .inr ⟨fun w=>?_,rfl⟩;have:(grE s).all (ysU s)=true:=aY.2 fun g hg=>by obtain⟨p,hp,rfl⟩:=aR.1 hg;unfold ysU;exact aY.2 fun x hx=>by have:=w.nc p.1 p.2 hp x hx;simpa using this
   rw[this]at a2;cases a2
  |true=>
   simp only[zE];rw[dmay_it h hl,zaA];cases a3:(maE s).all (fun m=>thB s m.1&&thB s m.2) with
   |false=>
    refine .inr ⟨fun w=>?_,rfl⟩;have:(maE s).all (fun m=>thB s m.1&&thB s m.2)=true:=aY.2 fun m hm=>by obtain⟨p,hp,rfl⟩:=aR.1 hm;have:=w.ma p hp;rw[this.1,this.2];rfl
    rw[this]at a3;cases a3
   |true=>
    refine .inl ⟨⟨by omega,by omega,by omega,by omega,by omega,hf,fun p hp=>?_,fun k g hkg x hx=>?_⟩,rfl⟩
    ·have:=aY.1 a3 p.1 (aR.2 ⟨p,hp,rfl⟩);exact⟨zbH this,zbR this⟩
    ·have:=aY.1 a2 _ (aR.2 ⟨(k,g),hkg,rfl⟩);unfold ysU at this;have:=aY.1 this x hx;simpa using this
def d0:RS:=(([]:List (L8×L8)),([]:List Us),([]:List GrT),([]:List Ro),([]:List Cl))
def bldD(L:List Ent):RS:=L.foldl (fun s e=>e.putD s) d0
theorem xaP(L:List Ent)(e:Ent):bldD (L++[e])=e.putD (bldD L):=by unfold bldD;rw[fE];rfl
theorem insM_len(x:L8×L8)(l:List (L8×L8)):(insM x l).length=l.length+1:=by unfold insM;rw[aC,aN,<-Nat.add_assoc,<-aC,cM]
theorem putD_len(e:Ent){s:RS}{n:Nat}(h:s.1.length<=n/\s.2.1.length<=n/\s.2.2.1.length<=n/\s.2.2.2.1.length<=n/\s.2.2.2.2.length<=n):(e.putD s).1.length<=n+1/\(e.putD s).2.1.length<=n+1/\(e.putD s).2.2.1.length<=n+1/\(e.putD s).2.2.2.1.length<=n+1/\(e.putD s).2.2.2.2.length<=n+1:=by obtain⟨a,b,c,d,f⟩:=h;cases e<;>simp only[Ent.putD,aC,aN,List.length_nil,insM_len]<;>refine⟨?_,?_,?_,?_,?_⟩<;>omega
theorem ytT:∀(L:List Ent),(bldD L).1.length<=L.length/\(bldD L).2.1.length<=L.length/\(bldD L).2.2.1.length<=L.length/\(bldD L).2.2.2.1.length<=L.length/\(bldD L).2.2.2.2.length<=L.length:=by
 have key:∀(L:List Ent) (s:RS) (n:Nat),(s.1.length<=n/\s.2.1.length<=n/\s.2.2.1.length<=n/\s.2.2.2.1.length<=n/\s.2.2.2.2.length<=n)->let t:=L.foldl (fun s e=>e.putD s) s;t.1.length<=n+L.length/\t.2.1.length<=n+L.length/\t.2.2.1.length<=n+L.length/\t.2.2.2.1.length<=n+L.length/\t.2.2.2.2.length<=n+L.length:=by
  intro L;induction L with
  |nil=>intro s n h;exact h|cons e L ih=>intro s n h;have:=ih (e.putD s) (n+1) (putD_len e h);simp only[dI,aN];rw[show n+(L.length+1)=n+1+L.length by omega];exact this
 intro L;have:=key L d0 0 ⟨aI _,aI _,aI _,aI _,aI _⟩;rw[aV]at this;exact this
theorem ytS(v:S5)(i:Int):(match v with
 |.inl v14=>(bif(!v14.1)then some (.inr (.inl (125:Int)))else some (.inl (w64 (i+(1:Int)),v14.2)))|.inr v15=>(match v15 with
 |.inl v16=>(bif(!v16.1)then some (.inr (.inl (125:Int)))else some (.inl (w64 (i+(1:Int)),v16.2)))|.inr v17=>(match v17 with
 |.inl v18=>(bif(!v18.1)then some (.inr (.inl (125:Int)))else some (.inl (w64 (i+(1:Int)),v18.2.1,v18.2.2.1,v18.2.2.2.2.2,v18.2.2.2.1,v18.2.2.2.2.1)))|.inr v19=>(match v19 with
 |.inl v20=>(bif(!v20.1)then some (.inr (.inl (125:Int)))else some (.inl (w64 (i+(1:Int)),v20.2.1,v20.2.2.1,v20.2.2.2.1,v20.2.2.2.2.2,v20.2.2.2.2.1)))|.inr v21=>(bif(!v21.1)then some (.inr (.inl (125:Int)))else some (.inl (w64 (i+(1:Int)),v21.2.1,v21.2.2.2.2.2,v21.2.2.1,v21.2.2.2.1,v21.2.2.2.2.1)))))):Option ((Int×RS)⊕(Int⊕(List Us×List GrT×List Ro×List Cl×List (L8×L8)))))=bif !(nrm v).1 then some (.inr (.inl (125:Int)))else some (.inl (w64 (i+1),(nrm v).2)):=by
 rcases v with v|v|v|v|v<;>rfl
def GoodD(rows:List (L8×L8))(L:List Ent):Prop:=zmF rows L/\∀e∈L,e.sd
def endD(s:RS):List Us×List GrT×List Ro×List Cl×List (L8×L8):=(s.2.1,s.2.2.1,s.2.2.2.1,s.2.2.2.2,s.1)
theorem dload_t{rows:List (L8×L8)}(hl:rows.length<=1048575)(hz:∀x∈rows,x.1.length<=1048576/\x.2.length<=1048576):
  T (iter (fun x:Int×RS=>zlH zaB rows x.1 x.2.1 x.2.2.1 x.2.2.2.1 x.2.2.2.2.1 x.2.2.2.2.2) ((0:Int),d0)) fun r=>(∃L,zmF rows L/\r = .inr (endD (bldD L)))∨((¬∃L,GoodD rows L)/\r = .inl 125):=by
 refine T.iter (fun x:Int×RS=>∃i:Nat,x.1=(i:Int)/\i<=rows.length/\∃L,zmF (rows.take i) L/\x.2=bldD L) (fun x:Int×RS=>((rows.length:Int)-x.1).toNat) _ (fun x hx=>?_) ⟨0,rfl,aZ _,[],⟨(fun e h=>by cases h),rfl,List.Pairwise.nil⟩,rfl⟩ (by simp only;omega);obtain⟨i,hi,hil,L,⟨hok,hrow,hris⟩,hs⟩:=hx;obtain⟨x1,x2⟩:=x;have hi:x1=(i:Int):=hi;have hs:x2=bldD L:=hs;subst hi;have hLi:L.length=i:=by have:=congrArg dO hrow;rw[bA,aE]at this;omega
 have hsm:RSm x2:=by have h9:=ytT L;have e9:x2=bldD L:=hs;rw[e9];exact⟨by omega,by omega,by omega,by omega,by omega⟩
 simp only;unfold zlH;by_cases hlt:i<rows.length
 ·have hmem:=bE hlt;have hzi:=hz _ hmem;have htk:rows.take (i+1)=rows.take i++[rows[i]]:=List.take_succ_eq_append_getElem hlt;rw[zaX (by omega)]
  have look:(∀y∈rows.take i,kltS y.1 rows[i].1=true)->T (aQ (zaR zaB rows[i] x2.1 x2.2.1 x2.2.2.1 x2.2.2.2.1 x2.2.2.2.2) fun v=>(bif !(nrm v).1 then some (.inr (.inl (125:Int)))else some (.inl (w64 ((i:Int)+(1:Int)),(nrm v).2)):Option ((Int×RS)⊕(Int⊕(List Us×List GrT×List Ro×List Cl×List (L8×L8)))))) fun r=>match r with
    |.inl s'=>(∃j:Nat,s'.1=(j:Int)/\j<=rows.length/\∃L,zmF (rows.take j) L/\s'.2=bldD L)/\((rows.length:Int)-s'.1).toNat<((rows.length:Int)-(i:Int)).toNat|.inr b=>(∃L,zmF rows L/\b = .inr (endD (bldD L)))∨((¬∃L,GoodD rows L)/\b = .inl 125):=fun hup=>by
   by_cases he:∃e:Ent,e.ok/\e.sd/\e.row=rows[i]
   ·obtain⟨e,h3,h5,h4⟩:=he;obtain⟨v,hv1,hv2⟩:=drow_c h3 h5 (by rw[h4];exact hzi.2) hsm;rw[h4]at hv1;rw[hv1,zaA,hv2,bM,zF,zfA (by omega)];refine T.ok ⟨⟨i+1,rfl,hlt,L++[e],⟨fun y hy=>?_,?_,?_⟩,?_⟩,by simp only;omega⟩
    ·rcases bD.1 hy with hy|hy
     ·exact hok y hy
     ·rw[aT.1 hy];exact h3
    ·rw[htk,hrow,List.map_append];simp[h4]
    ·rw[htk];exact dH.2 ⟨hris,bZ _ _,fun a ha b hb=>by rw[aT.1 hb];exact hup a ha⟩
    ·simp only;rw[xaP,<-hs]
   ·refine(drow_t hzi.1 hzi.2 hsm).bind fun v hv=>?_
    have no:¬∃L,GoodD rows L:=fun⟨L',hL'⟩=>he (by
     have hm:rows[i]∈L'.map Ent.row:=by rw[<-hL'.1.2.1];exact hmem
     obtain⟨e,h5,h6⟩:=aR.1 hm
     exact⟨e,hL'.1.1 e h5,hL'.2 e h5,h6⟩)
    cases hb:(nrm v).1 with
    |false=>exact T.ok (.inr ⟨no,rfl⟩)|true=>exact absurd (hv hb) he
  have fin:∀{P:((Int×RS)⊕(Int⊕(List Us×List GrT×List Ro×List Cl×List (L8×L8))))->Prop} {o:Option S5},T (aQ o fun v=>(bif !(nrm v).1 then some (.inr (.inl (125:Int)))else some (.inl (w64 ((i:Int)+(1:Int)),(nrm v).2)):Option ((Int×RS)⊕(Int⊕(List Us×List GrT×List Ro×List Cl×List (L8×L8)))))) P->∀{f:S5->Option ((Int×RS)⊕(Int⊕(List Us×List GrT×List Ro×List Cl×List (L8×L8))))},(∀v,f v=bif !(nrm v).1 then some (.inr (.inl (125:Int)))else some (.inl (w64 ((i:Int)+(1:Int)),(nrm v).2)))->T (aQ o f) P:=fun h f hf=>by rw[show f=_ from funext hf];exact h
  unfold zpL;cases i with
  |zero=>rw[zaY (by omega),zaA];simp only;rw[zbD rfl hlt,zaA];exact fin ((look fun y hy=>by cases hy).mono fun r hr=>by cases r<;>exact hr) fun v=>ytS v _
  |succ i=>
   have hp:i<rows.length:=by omega
   rw[zaX (by omega),zbD rfl hlt,zaA,show w64 (((i+1:Nat):Int)-1)=(i:Int) by rw[zuG (by omega) (by omega)];omega,zbD rfl hp,zaA];cases hq:(Op.bytesLess rows[i+1].1 rows[i].1||rows[i+1].1==rows[i].1) with
   |true=>
    refine T.ok (.inr ⟨fun⟨L',hL'⟩=>?_,rfl⟩);have h1:=bW.1 hL'.1.2.2 i (i+1) hp hlt (by omega);have h2:Op.bytesLess rows[i+1].1 rows[i].1=false:=by
     show kltS _ _=false;cases hy:kltS rows[i+1].1 rows[i].1 with
     |false=>rfl|true=>have:=kS.tr h1 hy;rw[kS.irr]at this;cases this
    rw[h2,beq_false_of_ne (kS.lt_ne h1).symm]at hq;cases hq
   |false=>
    rw[zF,zaA];simp only;rw[zaA];refine fin ((look fun y hy=>?_).mono fun r hr=>by cases r<;>exact hr) fun v=>ytS v _;have hq1:=(or_f hq).1;have hq2:rows[i+1].1≠rows[i].1:=by have:=(or_f hq).2;simpa using this
    have hk:kltS rows[i].1 rows[i+1].1=true:=kS.tri (show kltS rows[i+1].1 rows[i].1=false from hq1) hq2;obtain⟨j,hj,rfl⟩:=dY.1 hy;have hj2:j<i+1:=by rw[bA]at hj;omega
    rw[dT];rcases cY j i with h|h
    ·have hji:=bW.1 hris j i (by rw[bA];omega) (by rw[bA];omega) h;rw[dT,dT]at hji;exact kS.tr hji hk
    ·obtain rfl:j=i:=by omega
     exact hk
 ·have hi:i=rows.length:=by omega
  subst hi;rw[zaY (by omega)];rw[List.take_length]at hrow hris;exact T.ok (.inl ⟨L,⟨hok,hrow,hris⟩,by rw[<-hs];rfl⟩)
theorem yhE(a b:L8):∀p:L8,kltS (p++a) (p++b)=kltS a b
 |[]=>rfl|x::p=>by have ih:=yhE a b p;show Op.bytesLess (x::(p++a)) (x::(p++b))=_;have e1:kltS (p++a) (p++b)=Op.bytesLess (p++a) (p++b):=rfl;rw[e1]at ih;rw[<-ih,bytesLess_eq,bytesLess_eq];exact decide_eq_decide.2 (by rw[List.cons_lt_cons_iff];simp)
theorem ykE:∀(L:List Ent) (t:RS),L.foldl (fun s e=>e.putD s) t=((L.filterMap eM).foldl (fun m p=>insM p.1 m) t.1,t.2.1++(L.filterMap eU).map (·.2),t.2.2.1++(L.filterMap eG).map (fun p=>(p.1,p.2.1.1,p.2.1.2.1,p.2.1.2.2,p.2.2)),t.2.2.2.1++(L.filterMap eR).map (·.2),t.2.2.2.2++(L.filterMap eC).map (·.2))
 |[],t=>by simp
 |e::L,t=>by rw[dI,ykE L];cases e<;>simp[Ent.putD,eU,eG,eR,eC,eM,List.filterMap_cons]
theorem ydD{κ γ:Type}{eq lt:κ->κ->Bool}(o:KO eq lt){l:List (κ×γ)}(h:Ri lt l):sets eq lt l []=l:=o.sets_perm h (List.Perm.refl _)
theorem rise_U{rows:List (L8×L8)}{L:List Ent}(h:zmF rows L):Ri kltS (L.filterMap eU):=by
 have h3:=h.2.2;rw[h.2.1]at h3;show iN _ _;rw[eP];refine(bI.1 h3).imp fun {a b} hab p hp q hq=>?_;cases a<;>cases b<;>first|(cases hp;done)|(cases hq;done)|skip
 cases hp;cases hq;exact(yhE _ _ [117,115,101,114,47]).symm.trans hab
theorem rise_G{rows:List (L8×L8)}{L:List Ent}(h:zmF rows L):Ri kltS (L.filterMap eG):=by
 have h3:=h.2.2;rw[h.2.1]at h3;show iN _ _;rw[eP];refine(bI.1 h3).imp fun {a b} hab p hp q hq=>?_;cases a<;>cases b<;>first|(cases hp;done)|(cases hq;done)|skip
 cases hp;cases hq;exact(yhE _ _ [103,114,111,117,112,47]).symm.trans hab
theorem rise_R{rows:List (L8×L8)}{L:List Ent}(h:zmF rows L):Ri kltS (L.filterMap eR):=by
 have h3:=h.2.2;rw[h.2.1]at h3;show iN _ _;rw[eP];refine(bI.1 h3).imp fun {a b} hab p hp q hq=>?_;cases a<;>cases b<;>first|(cases hp;done)|(cases hq;done)|skip
 cases hp;cases hq;exact(yhE _ _ [114,111,108,101,47]).symm.trans hab
theorem rise_C{rows:List (L8×L8)}{L:List Ent}(h:zmF rows L):Ri kltS (L.filterMap eC):=by
 have h3:=h.2.2;rw[h.2.1]at h3;show iN _ _;rw[eP];refine(bI.1 h3).imp fun {a b} hab p hp q hq=>?_;cases a<;>cases b<;>first|(cases hp;done)|(cases hq;done)|skip
 cases hp;cases hq;exact(yhE _ _ [99,108,105,101,110,116,47]).symm.trans hab
theorem ynT{x y:L8×L8}{l:List (L8×L8)}:y∈insM x l↔y=x∨y∈l:=by
 unfold insM;rw[bD,aK]
 conv=>rhs;rw[<-cM (p:=fun y=>kltM y x) (l:=l),bD]
 constructor
 ·rintro(h|h|h)
  ·exact .inr (.inl h)
  ·exact .inl h
  ·exact .inr (.inr h)
 ·rintro(h|h|h)
  ·exact .inr (.inl h)
  ·exact .inl h
  ·exact .inr (.inr h)
theorem insM_ri{x:L8×L8}:∀{l:List (L8×L8)},l.Pairwise (fun a b=>kltM a b=true)->x∉l->(insM x l).Pairwise fun a b=>kltM a b=true
 |[],_,_=>bZ _ _|y::l,h,hn=>by
  have h':=aW.1 h;have hxy:x≠y:=fun e=>hn (by rw[e];exact aM);unfold insM;rw[eS,List.dropWhile_cons];cases hc:kltM y x with
  |true=>
   have ih:=insM_ri h'.2 fun hm=>hn (aL _ hm);simp only[if_true,bG];refine aW.2 ⟨fun z hz=>?_,ih⟩;rcases ynT.1 hz with rfl|hz
   ·exact hc
   ·exact h'.1 z hz
  |false=>
   have hxy2:kltM x y=true:=kSS.tri hc fun e=>hxy e.symm;simp only[Bool.false_eq_true,if_false,bL];refine aW.2 ⟨fun z hz=>?_,h⟩;rcases aK.1 hz with rfl|hz
   ·exact hxy2
   ·exact kSS.tr hxy2 (h'.1 z hz)
theorem ypB:∀(l:List ((L8×L8)×Unit)) (m:List (L8×L8)),m.Pairwise (fun a b=>kltM a b=true)->(l.map (·.1)).Nodup->(∀p∈l,p.1∉m)->(l.foldl (fun m p=>insM p.1 m) m).Pairwise (fun a b=>kltM a b=true)/\∀y,y∈l.foldl (fun m p=>insM p.1 m) m↔y∈l.map (·.1)∨y∈m
 |[],m,h,_,_=>⟨h,fun y=>by simp⟩|p::l,m,h,hn,hd=>by
  rw[bF,List.nodup_cons]at hn
  have ih:=ypB l (insM p.1 m) (insM_ri h (hd p aM)) hn.2 (fun q hq hm=>by
   rcases ynT.1 hm with e|hm
   ·exact hn.1 (aR.2 ⟨q,hq,e⟩)
   ·exact hd q (aL _ hq) hm)
  refine⟨ih.1,fun y=>?_⟩;rw[dI,ih.2 y,ynT,bF,aK];constructor
  ·rintro(h|h|h)
   ·exact .inl (.inr h)
   ·exact .inl (.inl h)
   ·exact .inr h
  ·rintro((h|h)|h)
   ·exact .inr (.inl h)
   ·exact .inl h
   ·exact .inr (.inr h)
theorem xcA{l m:List (L8×L8)}(h1:l.Pairwise fun a b=>kltM a b=true)(h2:m.Pairwise fun a b=>kltM a b=true)(h:∀y,y∈l↔y∈m):l=m:=by
 have e:l.map (fun x=>(x,()))=m.map (fun x=>(x,())):=kSS.ext (bI.2 h1) (bI.2 h2) fun p=>by rw[aR,aR];exact⟨fun⟨x,hx,e⟩=>⟨x,(h x).1 hx,e⟩,fun⟨x,hx,e⟩=>⟨x,(h x).2 hx,e⟩⟩
 have e2:∀n:List (L8×L8),(n.map (fun x=>(x,()))).map (·.1)=n:=fun n=>by rw[dF];exact yuO fun x _=>rfl
 have:=congrArg (List.map (·.1)) e
 rwa[e2,e2]at this
theorem yzM{rows:List (L8×L8)}{L:List Ent}(h:zmF rows L):endD (bldD L)=toR (bld L s0):=by
 have m:=xcP h;have nd:((L.filterMap eM).map (·.1)).Nodup:=ydT h fun a b p q ha hb e=>by cases a<;>cases b<;>first|(cases ha;done)|(cases hb;done)|(cases ha;cases hb;exact congrArg (fun m=>(rowM m).1) e)
 have f:=ypB (L.filterMap eM) [] List.Pairwise.nil nd (fun p _ hp=>by cases hp)
 have eM':(L.filterMap eM).foldl (fun m p=>insM p.1 m) []=maE (bld L s0):=by
  refine xcA f.1 (bI.2 m.1) fun y=>?_;rw[f.2 y];unfold maE;rw[aR,aR];constructor
  ·rintro(⟨p,hp,e⟩|hy)
   ·exact⟨p,(m.2 p).2 hp,e⟩
   ·cases hy
  ·rintro⟨p,hp,e⟩;exact .inl ⟨p,(m.2 p).1 hp,e⟩
 have eb:=yiU L s0;unfold bldD;rw[ykE];unfold toR endD;simp only;rw[show d0.1=([]:List (L8×L8))from rfl,eM'];unfold usE grE roE clE;rw[eb];simp only;rw[ydD kS (rise_U h),ydD kS (rise_G h),ydD kS (rise_R h),ydD kS (rise_C h)];rfl
theorem lns_of{rows:List (L8×L8)}{L:List Ent}(h:zmF rows L)(hl:rows.length<=1048575):Lns (bld L s0):=by
 have e:=yzM h;have hb:=ytT L;have hL:L.length<=1048575:=by have:=congrArg dO h.2.1;rw[aE]at this;omega
 unfold endD toR usE grE roE clE maE at e;have e1:=congrArg (fun q=>q.1.length) e;have e2:=congrArg (fun q=>q.2.1.length) e;have e3:=congrArg (fun q=>q.2.2.1.length) e;have e4:=congrArg (fun q=>q.2.2.2.1.length) e;have e5:=congrArg (fun q=>q.2.2.2.2.length) e;simp only[aE]at e1 e2 e3 e4 e5;exact⟨by omega,by omega,by omega,by omega,by omega⟩
theorem sd_of{rows:List (L8×L8)}{L:List Ent}(h:zmF rows L)(w:zoH (bld L s0)):∀e∈L,e.sd:=fun e he=>by
 cases e with
 |g x=>
  have hm:(x.1,((x.2.1,x.2.2.1,x.2.2.2.1),x.2.2.2.2))∈(bld L s0).2.1:=((yzA h).2 _).2 (List.mem_filterMap.2 ⟨_,he,rfl⟩);have hf:=w.gl _ _ hm
  have sub:∀{γ:Type} {l:List L8} {es:List (L8×γ)},RiL l->(∀y∈l,mhas keqS es y=true)->l.length<=es.length:=fun {γ l es} hl hh=>by
   have:=hl.sub_len (m:=es.map (·.1)) fun y hy=>by obtain⟨v,hv⟩:=kS.has_iff.1 (hh y hy);exact aR.2 ⟨_,hv,rfl⟩
   rwa[aE]at this
  have h0:=sub (hf 0 (by decide)).1 (hf 0 (by decide)).2;have h1:=sub (hf 1 (by decide)).1 (hf 1 (by decide)).2;have h2:=sub (hf 2 (by decide)).1 (hf 2 (by decide)).2;have u:=w.uL;have g:=w.gL;have r:=w.rL;exact⟨bC h0 (by omega),bC h1 (by omega),bC h2 (by omega)⟩
 |c x=>trivial|m x=>trivial|r x=>trivial|u x=>trivial
theorem ypR{rows:List (L8×L8)}(hl:rows.length<=1048575)(hz:∀x∈rows,x.1.length<=1048576/\x.2.length<=1048576):(∃L,zmF rows L/\zoH (bld L s0)/\zeC zaB rows=some (.inr (0,toR (bld L s0))))∨((¬∃L,zmF rows L/\zoH (bld L s0))/\zeC zaB rows=some (.inl 125)):=by
 obtain⟨r,h1,h2⟩:=dload_t hl hz;have hz2:∀x∈rows,x.2.length<=1048576:=fun x hx=>(hz x hx).2;unfold zeC;rw[show iter _ ((0:Int),([]:List (L8×L8)),([]:List Us),([]:List GrT),([]:List Ro),([]:List Cl))=_ from h1,zaA];rcases h2 with⟨L,hL,rfl⟩|⟨hno,rfl⟩
 ·have hp:=pre_of hL (by omega) hz2;simp only;rw[yzM hL];rcases xdF hp (lns_of hL hl)with⟨w,e⟩|⟨w,e⟩
  ·rw[e,zaA];exact .inl ⟨L,hL,w,rfl⟩
  ·rw[e,zaA];refine .inr ⟨fun⟨L',hL',w'⟩=>w ?_,rfl⟩;have e1:=ydQ hL (by omega) hz2;rw[ydQ hL' (by omega) hz2]at e1;have e3:bld L' s0=bld L s0:=by injection e1 with e1;injection e1
   rw[<-e3];exact w'
 ·exact .inr ⟨fun⟨L',hL',w'⟩=>hno ⟨L',hL',sd_of hL' w'⟩,rfl⟩
def zqY(l:List L8)(x:L8):List L8:=bif l.contains x then l else ynN x l
theorem yoW{l:List L8}{x y:L8}:y∈zqY l x↔y∈l∨y=x:=by
 unfold zqY;cases hc:l.contains x with
 |true=>exact⟨.inl,fun h=>h.elim id fun e=>by rw[e];exact cF.1 hc⟩|false=>rw[zF,yzX];exact or_comm
theorem withB_ri{l:List L8}{x:L8}(h:RiL l):RiL (zqY l x):=by
 unfold zqY;cases hc:l.contains x with
 |true=>exact h|false=>exact withL_ri h fun hm=>by rw[cF.2 hm]at hc;cases hc
theorem ydH{l:List L8}{x:L8}:(zqY l x).length<=l.length+1:=by
 unfold zqY;cases l.contains x with
 |true=>exact Nat.le_succ _|false=>rw[zF,xcO];exact aI _
theorem xdT{l:List L8}{x:L8}(h:x∈l):zqY l x=l:=by unfold zqY;rw[cF.2 h];rfl
theorem xdP:∀(m l:List L8),RiL l->RiL (m.foldl zqY l)/\(∀y,y∈m.foldl zqY l↔y∈l∨y∈m)/\(m.foldl zqY l).length<=l.length+m.length
 |[],l,h=>⟨h,fun y=>by simp,by simp⟩|x::m,l,h=>by
  obtain⟨h1,h2,h3⟩:=xdP m (zqY l x) (withB_ri h);have:=ydH (l:=l) (x:=x);refine⟨h1,fun y=>?_,?_⟩
  ·rw[dI,h2 y,yoW,aK,or_assoc]
  ·rw[dI,aN];omega
theorem ysK(x:L8)(l:List L8):l.take (ziN x l)++[x]++l.drop (ziN x l)=ynN x l:=by
 unfold ynN ziN
 have h1:l.take (l.takeWhile fun y=>kltS y x).length=l.takeWhile fun y=>kltS y x:=by
  conv=>lhs;arg 2;rw[<-cM (p:=fun y=>kltS y x) (l:=l)]
  exact List.take_left' rfl
 have h2:l.drop (l.takeWhile fun y=>kltS y x).length=l.dropWhile fun y=>kltS y x:=by
  conv=>lhs;arg 2;rw[<-cM (p:=fun y=>kltS y x) (l:=l)]
  exact List.drop_left' rfl
 rw[h1,h2,aU];rfl
theorem yuJ{l:List L8}(x:L8)(hl:l.length<=1048576):zfZ zaB l x=some (zqY l x):=by
 have hr:=xbR x l;unfold zfZ;rw[yhN _ _ hl,zaA];unfold zqY;cases hc:l.contains x with
 |true=>rfl|false=>
  rw[zF,ygR (l:=l) (key:=fun y=>y) hl x (fun k hk=>by
   unfold zlG
   rw[zaX (by omega),zbD rfl hk,zaA];rfl) (by
   unfold zlG
   rw[zaY (by omega)]),zaA,List.map_id']
  rw[zpP hr,zaA,zsI hr,zaA,zmZ _ (by rw[bA];omega),zaA,zfN (by rw[bA];simp;omega),zaA,zfN (by rw[aC,bA,List.length_drop];simp;omega),ysK];rfl
theorem reach_in{G:GM}{u n y:L8}(h:Reach G n y):InG G u y->InG G u n:=by
 induction h with
 |refl=>exact id|step _ hg hx ih=>exact fun hi=>ih (.sub hg hx hi)
theorem in_reach{G:GM}{u n:L8}(h:InG G u n):∃y g,Reach G n y/\(y,g)∈G/\u∈lst 0 g:=by
 induction h with
 |dir hg hu=>exact⟨_,_,.refl,hg,hu⟩|sub hg hx _ ih=>obtain⟨y,g,h1,h2,h3⟩:=ih;exact⟨y,g,(Reach.step .refl hg hx).trans h1,h2,h3⟩
theorem ykV{s:PS}(h:PPre s)(hl:Lns s)(x:L8):∃(g:GrT) (b:Bool),zaN zaB (toR s) x=some (g,b)/\g.2.1=lst 0 (zeD keqS s.2.1 x zG)/\g.2.2.1=lst 1 (zeD keqS s.2.1 x zG)/\g.2.2.2.1=lst 2 (zeD keqS s.2.1 x zG):=by
 rcases yqB h hl x with⟨g,hg,e⟩|⟨hn,e⟩
 ·refine⟨_,_,e,?_⟩;rw[zjY,kS.get_mem h.gR hg];exact⟨rfl,rfl,rfl⟩
 ·refine⟨_,_,e,?_⟩;rw[zjY,kS.no_get hn];exact⟨rfl,rfl,rfl⟩
theorem xeW{s:PS}(h:PPre s)(hl:Lns s)(x:L8):∃(r:Ro) (b:Bool),zeG zaB (toR s) x=some (r,b)/\r.2=(zeD keqS s.2.2.1 x zR).2:=by
 unfold zeG;rw[xaU h hl,zaA];simp only;cases hh:mhas keqS s.2.2.1 x with
 |false=>
  rw[ybO]at hh;rw[zjY];cases hg:mget keqS s.2.2.1 x with
  |none=>exact⟨_,_,rfl,rfl⟩|some r=>rw[hg]at hh;cases hh
 |true=>
  rw[bM,zF];have hr:=ynA (yeH h.rR) (x:=x);rw[yaN,hh]at hr;generalize ziN x (s.2.2.1.map (·.1))=j at hr ⊢;by_cases hj:j<s.2.2.1.length
  ·rw[aO (show j<(s.2.2.1.map (·.1)).length by rw[aE];exact hj),dD]at hr;have e:(s.2.2.1[j]).1=x:=by have:=hr.symm;simpa using this
   have hm:(x,(s.2.2.1[j]).2)∈s.2.2.1:=by rw[<-e];exact bE hj
   have hg:(toR s).2.2.1=roE s:=rfl;rw[hg,zbD rfl (show j<(roE s).length by unfold roE;rw[aE];exact hj),zaA];refine⟨_,_,rfl,?_⟩;rw[zjY,kS.get_mem h.rR hm];unfold roE;rw[dD];rfl
  ·rw[cQ (by rw[aE];omega)]at hr;cases hr
abbrev DSt:Type:=List Us×List GrT×List Ro×List Cl×List (L8×L8)
theorem yiT{σ τ β γ:Type}{b1:σ->Option (σ⊕β)}{b2:τ->Option (τ⊕γ)}(F:σ->τ)(G:β->γ)(h:∀a,b2 (F a)=(b1 a).map (Sum.map F G)):∀(n:Nat) (a:σ),ziC b2 n (F a)=(ziC b1 n a).map G
 |0,_=>rfl|n+1,a=>by
  show jn (b2 (F a)) (ziC b2 n) some=Option.map G (jn (b1 a) (ziC b1 n) some);rw[h a];cases b1 a with
  |none=>rfl|some r=>cases r with
   |inl s=>exact yiT F G h n s|inr b=>rfl
theorem ygH{s:PS}(x:L8):zbM zaB x (usE s) (grE s) (roE s) (clE s) (maE s)=(zaN zaB (toR s) x).map fun r=>(r.1,r.2,toR s):=by
 unfold zbM zaN toR;cases zbN zaB (usE s,grE s,roE s,clE s,maE s) x with
 |none=>rfl|some v=>
  rw[zaA,zaA];cases v.2 with
  |false=>rfl|true=>simp only[bM,zF];cases idx (grE s) v.1<;>rfl
theorem dRole_s{s:PS}(x:L8):zeF zaB x (usE s) (grE s) (roE s) (clE s) (maE s)=(zeG zaB (toR s) x).map fun r=>(r.1,r.2,toR s):=by
 unfold zeF zeG toR;cases zbP zaB (usE s,grE s,roE s,clE s,maE s) x with
 |none=>rfl|some v=>
  rw[zaA,zaA];cases v.2 with
  |false=>rfl|true=>simp only[bM,zF];cases idx (roE s) v.1<;>rfl
theorem dBelow_s{s:PS}(x:L8):zdZ zaB x (usE s) (grE s) (roE s) (clE s) (maE s)=(zcA zaB (toR s) x).map fun l=>(usE s,grE s,roE s,clE s,maE s,l):=by
 have inner:∀(l:List L8) (g:GrT),iter (fun x:Int×List Us×List GrT×List Ro×List Cl×List (L8×L8)×List L8×GrT=>zdD zaB x.1 x.2.1 x.2.2.1 x.2.2.2.1 x.2.2.2.2.1 x.2.2.2.2.2.1 x.2.2.2.2.2.2.1 x.2.2.2.2.2.2.2.1 x.2.2.2.2.2.2.2.2.1 x.2.2.2.2.2.2.2.2.2.1 x.2.2.2.2.2.2.2.2.2.2.1 x.2.2.2.2.2.2.2.2.2.2.2) ((0:Int),usE s,grE s,roE s,clE s,maE s,l,g)=(iter (fun x:Int×List L8×GrT=>zaT zaB x.1 x.2.1 x.2.2.1 x.2.2.2.1 x.2.2.2.2.1 x.2.2.2.2.2.1 x.2.2.2.2.2.2) ((0:Int),l,g)).map fun l=>(usE s,grE s,roE s,clE s,maE s,l):=fun l g=>by
  refine yiT (fun z:Int×List L8×GrT=>(z.1,usE s,grE s,roE s,clE s,maE s,z.2)) (fun l=>(usE s,grE s,roE s,clE s,maE s,l)) (fun z=>?_) FU ((0:Int),l,g);obtain⟨k,l,n,u,b,r,v⟩:=z;simp only;unfold zdD zaT;cases decide (k<(b.length:Int)) with
  |false=>rfl|true=>
   rw[zE,zE];cases idx b k with
   |none=>rfl|some y=>
    simp only[zaA];cases zcG zaB l y with
    |none=>rfl|some c=>
     simp only[zaA];cases c with
     |true=>rfl|false=>simp only[Bool.not_false,zE];cases app l [y]<;>rfl
 unfold zdZ zcA
 have e:iter (fun x:Int×List Us×List GrT×List Ro×List Cl×List (L8×L8)×List L8=>zfO zaB x.1 x.2.1 x.2.2.1 x.2.2.2.1 x.2.2.2.2.1 x.2.2.2.2.2.1 x.2.2.2.2.2.2) ((0:Int),usE s,grE s,roE s,clE s,maE s,[x])=(iter (fun x:Int×List L8=>zcK zaB (toR s) x.1 x.2) ((0:Int),[x])).map fun l=>(usE s,grE s,roE s,clE s,maE s,l):=by
  refine yiT (fun z:Int×List L8=>(z.1,usE s,grE s,roE s,clE s,maE s,z.2)) (fun l=>(usE s,grE s,roE s,clE s,maE s,l)) (fun z=>?_) FU ((0:Int),[x]);obtain⟨k,l⟩:=z;simp only;unfold zfO zcK;cases decide (k<(l.length:Int)) with
  |false=>rfl|true=>
   rw[zE,zE];cases chk (decide ((0:Int)<=k)&&true) with
   |none=>rfl|some _=>
    rw[zaA,zaA];cases idx l k with
    |none=>rfl|some y=>
     rw[zaA,zaA,ygH];cases zaN zaB (toR s) y with
     |none=>rfl|some g=>rw[bO,zaA,zaA];simp only;rw[show iter (fun x:Int×List Us×List GrT×List Ro×List Cl×List (L8×L8)×List L8×GrT=>zdD zaB x.1 x.2.1 x.2.2.1 x.2.2.2.1 x.2.2.2.2.1 x.2.2.2.2.2.1 x.2.2.2.2.2.2.1 x.2.2.2.2.2.2.2.1 x.2.2.2.2.2.2.2.2.1 x.2.2.2.2.2.2.2.2.2.1 x.2.2.2.2.2.2.2.2.2.2.1 x.2.2.2.2.2.2.2.2.2.2.2) ((0:Int),(toR s).1,(toR s).2.1,(toR s).2.2.1,(toR s).2.2.2.1,(toR s).2.2.2.2,l,g.1)=_ from inner l g.1];cases iter (fun x:Int×List L8×GrT=>zaT zaB x.1 x.2.1 x.2.2.1 x.2.2.2.1 x.2.2.2.2.1 x.2.2.2.2.2.1 x.2.2.2.2.2.2) ((0:Int),l,g.1)<;>rfl
 rw[show iter _ ((0:Int),usE s,grE s,roE s,clE s,maE s,[x])=_ from e];cases iter (fun x:Int×List L8=>zcK zaB (toR s) x.1 x.2) ((0:Int),[x])<;>rfl
theorem lst_mg{s:PS}(h:PPre s){i:Nat}(hi:i<3)(x:L8):(lst i (zeD keqS s.2.1 x zG)).length<=1048576:=by
 rw[zjY];cases hg:mget keqS s.2.1 x with
 |none=>
  match i,hi with
  |0,_=>exact aZ _|1,_=>exact aZ _|2,_=>exact aZ _
 |some g=>exact h.sz x g (kS.get_some hg) i hi
theorem grE_at{s:PS}{i:Nat}(hi:i<s.2.1.length)(hg:i<(grE s).length):((grE s)[i]'hg).1=(s.2.1[i]).1:=by
 have h:(grE s)[i]? = (s.2.1[i]?).map fun p=>(p.1,p.2.1.1,p.2.1.2.1,p.2.1.2.2,p.2.2):=by unfold grE;rw[List.getElem?_map]
 rw[aO hg,aO hi]at h;rw[osi h]
def dirB(G:GM)(u y:L8):Bool:=(lst 0 (zeD keqS G y zG)).contains u
theorem xfI{s:PS}(h:PPre s)(hl:Lns s){i:Nat}(hi:i<s.2.1.length)(u:L8){bl:List L8}(hb:bl.length<=1048576):∀(f k:Nat) (acc:List L8),f+k=bl.length->acc.length+f<=1048576->∀n,f<n ->
  ziC (fun x:List L8×Int×List Us×List GrT×List Ro×List Cl×List (L8×L8)×List L8=>zcY zaB u (i:Int) x.1 x.2.1 x.2.2.1 x.2.2.2.1 x.2.2.2.2.1 x.2.2.2.2.2.1 x.2.2.2.2.2.2.1 x.2.2.2.2.2.2.2) n (acc,(k:Int),usE s,grE s,roE s,clE s,maE s,bl)=some (bif(bl.drop k).any (dirB s.2.1 u)then zqY acc (s.2.1[i]).1 else acc,toR s)
 |0,k,acc,hk,_,n+1,_=>by
  have hk:k=bl.length:=by omega
  subst hk;refine zaW ?_;simp only;unfold zcY;rw[zaY (by omega),bX];rfl
 |f+1,k,acc,hk,ha,n+1,hn=>by
  have hlt:k<bl.length:=by omega
  have hig:i<(grE s).length:=by unfold grE;rw[aE];exact hi
  have hnm:((grE s)[i]'hig).1=(s.2.1[i]).1:=grE_at (by omega) hig;obtain⟨g,b,e,e0,_,_⟩:=ykV h hl bl[k];have z0:=lst_mg h (i:=0) (by decide) bl[k];rw[aX hlt,List.any_cons];have hw:(zqY acc (s.2.1[i]).1).length<=acc.length+1:=ydH;cases hd:dirB s.2.1 u bl[k] with
  |true=>
   have ih:=xfI h hl hi u hb f (k+1) (zqY acc (s.2.1[i]).1) (by omega) (by omega) n (by omega);rw[xdT (yoW.2 (.inr rfl))]at ih;rw[Bool.true_or,zE];refine(zaV ?_).trans (ih.trans ?_)
   ·simp only;unfold zcY;rw[zaX (by omega),zzG hlt,zaA,zbD rfl hlt,zaA,ygH,e,bO,zaA];simp only;rw[yhN _ _ (by rw[e0];exact z0),zaA,e0,show(lst 0 (zeD keqS s.2.1 bl[k] zG)).contains u=true from hd,zE,show(toR s).2.1=grE s from rfl,zbD rfl hig,zaA,hnm,yuJ _ (by omega),zaA,zfA (by omega)];rfl
   ·cases (bl.drop (k+1)).any (dirB s.2.1 u)<;>rfl
  |false=>have ih:=xfI h hl hi u hb f (k+1) acc (by omega) (by omega) n (by omega);rw[Bool.false_or];refine(zaV ?_).trans ih;simp only;unfold zcY;rw[zaX (by omega),zzG hlt,zaA,zbD rfl hlt,zaA,ygH,e,bO,zaA];simp only;rw[yhN _ _ (by rw[e0];exact z0),zaA,e0,show(lst 0 (zeD keqS s.2.1 bl[k] zG)).contains u=false from hd,zF,zfA (by omega)];rfl
theorem wh_lns{s:PS}(w:zoH s):Lns s:=by have:=w.uL;have:=w.gL;have:=w.rL;have:=w.cL;have:=w.mL;exact⟨by omega,by omega,by omega,by omega,by omega⟩
open Classical in
theorem dir_any{s:PS}(h:PPre s){u n:L8}{l:List L8}(hm:∀y,y∈l↔Reach s.2.1 n y):l.any (dirB s.2.1 u)=decide (InG s.2.1 u n):=by
 rw[eD,List.any_eq_true,decide_eq_true_iff];constructor
 ·rintro⟨y,hy,hd⟩;have hd:u∈lst 0 (zeD keqS s.2.1 y zG):=cF.1 hd;rw[zjY]at hd;cases hg:mget keqS s.2.1 y with
  |none=>rw[hg]at hd;cases hd
  |some g=>rw[hg]at hd;exact reach_in ((hm y).1 hy) (.dir (kS.get_some hg) hd)
 ·intro hn;obtain⟨y,g,h1,h2,h3⟩:=in_reach hn;refine⟨y,(hm y).2 h1,cF.2 ?_⟩;rw[zjY,kS.get_mem h.gR h2];exact h3
open Classical in
theorem dIn_s{s:PS}(h:PPre s)(w:zoH s)(u:L8):zdJ zaB u (usE s) (grE s) (roE s) (clE s) (maE s)=some (inE s.2.1 u,toR s):=by
 have hl:=wh_lns w;have hgl:=w.gL;have key:∀(f i:Nat) (acc:List L8),f+i=s.2.1.length->acc.length+f<=1024->∀n,f<n ->
   ziC (fun x:List L8×Int×DSt=>zdB zaB u x.1 x.2.1 x.2.2.1 x.2.2.2.1 x.2.2.2.2.1 x.2.2.2.2.2.1 x.2.2.2.2.2.2) n (acc,(i:Int),toR s)=some ((((s.2.1.map (·.1)).drop i).filter fun n=>decide (InG s.2.1 u n)).foldl zqY acc,toR s):=by
  intro f;induction f with
  |zero=>
   intro i acc hi _ n hn;obtain⟨n,rfl⟩:∃m,n=m+1:=⟨n-1,by omega⟩;have hi:i=s.2.1.length:=by omega
   subst hi;refine zaW ?_;unfold zdB;simp only;rw[show(toR s).2.1=grE s from rfl,zaY (by unfold grE;rw[aE];omega),List.drop_eq_nil_of_le (by rw[aE];omega)];rfl
  |succ f ih=>
   intro i acc hi ha n hn;obtain⟨n,rfl⟩:∃m,n=m+1:=⟨n-1,by omega⟩;have hlt:i<s.2.1.length:=by omega
   have hig:i<(grE s).length:=by unfold grE;rw[aE];exact hlt
   have him:i<(s.2.1.map (·.1)).length:=by rw[aE];exact hlt
   have hnm:((grE s)[i]'hig).1=(s.2.1[i]).1:=grE_at (by omega) hig;have hw:(zqY acc (s.2.1[i]).1).length<=acc.length+1:=ydH;obtain⟨l,e1,e2,e3⟩:=xdS h hl (fun k g hkg=>w.gl k g hkg 1 (by decide)) hgl (s.2.1[i]).1;have ein:=xfI h hl hlt u (bl:=l) (by omega) l.length 0 acc (by omega) (by omega) FU (by unfold FU;omega);rw[bQ,dir_any h e3]at ein;rw[aX him,dD,List.filter_cons];have step:zdB zaB u acc (i:Int) (usE s) (grE s) (roE s) (clE s) (maE s)=some (.inl (bif decide (InG s.2.1 u (s.2.1[i]).1)then zqY acc (s.2.1[i]).1 else acc,((i+1:Nat):Int),toR s)):=by unfold zdB;rw[zaX (by omega),zbD rfl hig,zaA,hnm,dBelow_s,e1,bO,zaA];rw[show iter _ (acc,(0:Int),usE s,grE s,roE s,clE s,maE s,l)=_ from ein,zaA,zfA (by omega)]
   refine(zaV step).trans ?_;by_cases hd:InG s.2.1 u (s.2.1[i]).1
   ·rw[zA hd,zI rfl,dI];exact ih (i+1) (zqY acc (s.2.1[i]).1) (by omega) (by omega) n (by omega)
   ·rw[zB hd,zH (by simp)];exact ih (i+1) acc (by omega) (by omega) n (by omega)
 unfold zdJ;rw[show iter _ (([]:List L8),(0:Int),usE s,grE s,roE s,clE s,maE s)=_ from key s.2.1.length 0 [] (by omega) (by simp;omega) FU (by unfold FU;omega),zaA,bQ];have hin:((s.2.1.map (·.1)).filter fun n=>decide (InG s.2.1 u n))=inE s.2.1 u:=rfl;rw[hin];obtain⟨h1,h2,_⟩:=xdP (inE s.2.1 u) [] List.Pairwise.nil;rw[h1.ext (xaY h.gR u) fun x=>by rw[h2 x];simp]
theorem yxP{l:List L8}(hs:l.Pairwise fun a b=>leS a b=true):RiL (Lib.compact l):=by
 have gat:∀(j:Nat) (hj:j<l.length),l.toArray[j]! = l[j]:=fun j hj=>by rw[getElem!_pos l.toArray j (by simpa using hj)];simp
 have lt_of:∀{a b:L8},leS a b=true->a≠b->kltS a b=true:=fun {a b} h hn=>kS.tri (show kltS b a=false by
  unfold leS at h;show Op.bytesLess b a=false;cases hb:Op.bytesLess b a with
  |false=>rfl|true=>rw[hb]at h;cases h) (Ne.symm hn)
 have key:∀m,m<=l.length->RiL (Lib.compactUpTo l.toArray m)/\∀x∈Lib.compactUpTo l.toArray m,∃(j:Nat) (hj:j<l.length),j<m/\l[j]=x:=by
  intro m;induction m with
  |zero=>intro _;exact⟨List.Pairwise.nil,fun x hx=>by cases hx⟩|succ m ih=>
   intro hm;obtain⟨h1,h2⟩:=ih (by omega);rw[Lib.compactUpTo_succ];cases hk:Lib.keeps l.toArray m with
   |false=>
    rw[zH (by simp),bK]
    exact⟨h1,fun x hx=>by
     obtain⟨j,hj,hjm,e⟩:=h2 x hx
     exact⟨j,hj,by omega,e⟩⟩
   |true=>
    rw[zI rfl,gat m (by omega)];refine⟨dH.2 ⟨h1,bZ _ _,fun x hx y hy=>?_⟩,fun x hx=>?_⟩
    ·rw[aT.1 hy];obtain⟨j,hj,hjm,rfl⟩:=h2 x hx;have hne:l[m-1]≠l[m]:=fun e=>by have:Lib.keeps l.toArray m=false:=Lib.keeps_neg (by omega) (by rw[gat m (by omega),gat (m-1) (by omega)];exact e.symm);rw[this]at hk;cases hk
     have e1:kltS l[m-1] l[m]=true:=lt_of (bW.1 hs _ _ (by omega) (by omega) (by omega)) hne;by_cases he:l[j]=l[m-1]
     ·rw[he];exact e1
     ·have hjn:j≠m-1:=fun e=>by subst e;exact he rfl
      exact kS.tr (lt_of (bW.1 hs _ _ (by omega) (by omega) (by omega)) he) e1
    ·rcases bD.1 hx with hx|hx
     ·obtain⟨j,hj,hjm,e⟩:=h2 x hx;exact⟨j,hj,by omega,e⟩
     ·rw[aT.1 hx];exact⟨m,by omega,by omega,rfl⟩
 exact(key l.length (aI _)).1
theorem yvX(s:PS)(u:L8):RiL (ycS s u):=yxP (ziF ycK ydG _)
theorem holds_W(s:PS)(u:L8):((inE s.2.1 u).flatMap (scpE s)).foldl zqY []=ycS s u:=by obtain⟨h1,h2,_⟩:=xdP ((inE s.2.1 u).flatMap (scpE s)) [] List.Pairwise.nil;refine h1.ext (yvX s u) fun x=>?_;rw[h2 x];unfold ycS;rw[yhJ];have hs:x∈zyZ ((inE s.2.1 u).flatMap (scpE s))↔x∈(inE s.2.1 u).flatMap (scpE s):=(zeY leS _).mem_iff;rw[hs];simp
theorem dHo_in{s:PS}{g:GrT}{r:Ro}(hr:r.2.length<=1048576):∀(f j:Nat) (acc:List L8),f+j=r.2.length->acc.length+f<=1048576->∀n,f<n ->
  ziC (fun x:List L8×Int×List Us×List GrT×List Ro×List Cl×List (L8×L8)×L8×List L8×List L8×List L8×Int×Ro=>zdE zaB x.1 x.2.1 x.2.2.1 x.2.2.2.1 x.2.2.2.2.1 x.2.2.2.2.2.1 x.2.2.2.2.2.2.1 x.2.2.2.2.2.2.2.1 x.2.2.2.2.2.2.2.2.1 x.2.2.2.2.2.2.2.2.2.1 x.2.2.2.2.2.2.2.2.2.2.1 x.2.2.2.2.2.2.2.2.2.2.2.1 x.2.2.2.2.2.2.2.2.2.2.2.2.1 x.2.2.2.2.2.2.2.2.2.2.2.2.2) n (acc,(j:Int),usE s,grE s,roE s,clE s,maE s,g.1,g.2.1,g.2.2.1,g.2.2.2.1,g.2.2.2.2,r)=some ((r.2.drop j).foldl zqY acc,usE s,grE s,roE s,clE s,maE s,g)
 |0,j,acc,hj,_,n+1,_=>by
  have hj:j=r.2.length:=by omega
  subst hj;refine zaW ?_;simp only;unfold zdE;rw[zaY (by omega),bX];rfl
 |f+1,j,acc,hj,ha,n+1,hn=>by
  have hlt:j<r.2.length:=by omega
  have hw:(zqY acc r.2[j]).length<=acc.length+1:=ydH;rw[aX hlt,dI];refine(zaV ?_).trans (dHo_in hr f (j+1) _ (by omega) (by omega) n (by omega));simp only;unfold zdE;rw[zaX (by omega),zbD rfl hlt,zaA,yuJ _ (by omega),zaA,zfA (by omega)]
theorem xfS{s:PS}(h:PPre s)(hl:Lns s){g:GrT}(hgl:g.2.2.2.1.length<=1048576)(hr:∀k,(zeD keqS s.2.2.1 k zR).2.length<=16):∀(f k:Nat) (acc:List L8),RiL acc->f+k=g.2.2.2.1.length->acc.length+16*f<=1048576->∀n,f<n ->
  ziC (fun x:List L8×Int×List Us×List GrT×List Ro×List Cl×List (L8×L8)×GrT=>zdI zaB x.1 x.2.1 x.2.2.1 x.2.2.2.1 x.2.2.2.2.1 x.2.2.2.2.2.1 x.2.2.2.2.2.2.1 x.2.2.2.2.2.2.2.1 x.2.2.2.2.2.2.2.2.1 x.2.2.2.2.2.2.2.2.2.1 x.2.2.2.2.2.2.2.2.2.2.1 x.2.2.2.2.2.2.2.2.2.2.2) n (acc,(k:Int),usE s,grE s,roE s,clE s,maE s,g)=some (((g.2.2.2.1.drop k).flatMap fun r=>(zeD keqS s.2.2.1 r zR).2).foldl zqY acc,toR s)
 |0,k,acc,_,hk,_,n+1,_=>by
  have hk:k=g.2.2.2.1.length:=by omega
  subst hk;refine zaW ?_;simp only;unfold zdI;rw[zaY (by omega),bX];rfl
 |f+1,k,acc,hri,hk,ha,n+1,hn=>by
  have hlt:k<g.2.2.2.1.length:=by omega
  have h16:=hr g.2.2.2.1[k];obtain⟨r,b,e,e2⟩:=xeW h hl g.2.2.2.1[k];rw[<-e2]at h16;obtain⟨w1,w2,w3⟩:=xdP r.2 acc hri;rw[aX hlt,dE,fE,<-e2];refine(zaV ?_).trans (xfS h hl hgl hr f (k+1) _ w1 (by omega) (by omega) n (by omega));simp only;unfold zdI;rw[zaX (by omega),zbD rfl hlt,zaA,dRole_s,e,bO,zaA];simp only;have ein:=dHo_in (s:=s) (g:=g) (r:=r) (by omega) r.2.length 0 acc (by omega) (by omega) FU (by unfold FU;omega);rw[bQ]at ein;rw[show iter _ (acc,(0:Int),(toR s).1,(toR s).2.1,(toR s).2.2.1,(toR s).2.2.2.1,(toR s).2.2.2.2,g.1,g.2.1,g.2.2.1,g.2.2.2.1,g.2.2.2.2,r)=_ from ein,zaA,zfA (by omega)]
theorem dHolds_s{s:PS}(h:PPre s)(w:zoH s)(u:L8):zcR zaB u (usE s) (grE s) (roE s) (clE s) (maE s)=some (ycS s u,toR s):=by
 have hl:=wh_lns w;have hv:=h.inv w
 have hr:∀k,(zeD keqS s.2.2.1 k zR).2.length<=16:=fun k=>by
  rw[zjY];cases hg:mget keqS s.2.2.1 k with
  |none=>exact aZ _|some r=>exact yaJ (h.ro k r (kS.get_some hg)).2
 have hg:∀n,(lst 2 (zeD keqS s.2.1 n zG)).length<=64:=fun n=>by
  rw[zjY];cases hg:mget keqS s.2.1 n with
  |none=>exact aZ _|some g=>exact hv.lst_len (kS.get_some hg) (by decide)
 have hsl:∀n,(scpE s n).length<=1024:=fun n=>by
  have:∀l:List L8,(l.flatMap fun r=>(zeD keqS s.2.2.1 r zR).2).length<=16*l.length:=by
   intro l;induction l with
   |nil=>exact aZ _|cons a l ih=>have:=hr a;rw[dE,aC,aN];omega
  have h1:=this (lst 2 (zeD keqS s.2.1 n zG));have h2:=hg n;unfold scpE;omega
 have hil:(inE s.2.1 u).length<=32:=by unfold inE;exact bC (gQ _ _) (by rw[aE];exact w.gL)
 have key:∀(f i:Nat) (acc:List L8),RiL acc->f+i=(inE s.2.1 u).length->acc.length+1024*f<=65536->∀n,f<n ->
   ziC (fun x:List L8×Int×DSt=>zdG zaB (inE s.2.1 u,toR s) x.1 x.2.1 x.2.2.1 x.2.2.2.1 x.2.2.2.2.1 x.2.2.2.2.2.1 x.2.2.2.2.2.2) n (acc,(i:Int),toR s)=some ((((inE s.2.1 u).drop i).flatMap (scpE s)).foldl zqY acc,toR s):=by
  intro f;induction f with
  |zero=>
   intro i acc _ hi _ n hn;obtain⟨n,rfl⟩:∃m,n=m+1:=⟨n-1,by omega⟩;have hi:i=(inE s.2.1 u).length:=by omega
   subst hi;refine zaW ?_;unfold zdG;simp only;rw[zaY (by omega),bX];rfl
  |succ f ih=>
   intro i acc hri hi ha n hn;obtain⟨n,rfl⟩:∃m,n=m+1:=⟨n-1,by omega⟩;have hlt:i<(inE s.2.1 u).length:=by omega
   obtain⟨g,b,e,_,_,e2⟩:=ykV h hl (inE s.2.1 u)[i];have z2:=hg (inE s.2.1 u)[i];have z3:=hsl (inE s.2.1 u)[i];obtain⟨w1,w2,w3⟩:=xdP (scpE s (inE s.2.1 u)[i]) acc hri;rw[aX hlt,dE,fE];refine(zaV ?_).trans (ih (i+1) _ w1 (by omega) (by omega) n (by omega));unfold zdG;simp only;rw[zaX (by omega),zbD rfl hlt,zaA,show zbM zaB (inE s.2.1 u)[i] (toR s).1 (toR s).2.1 (toR s).2.2.1 (toR s).2.2.2.1 (toR s).2.2.2.2=_ from ygH (s:=s) (inE s.2.1 u)[i],e,bO,zaA];simp only;have em:=xfS h hl (g:=g) (by rw[e2];omega) hr g.2.2.2.1.length 0 acc hri (by omega) (by rw[e2];omega) FU (by rw[e2];unfold FU;omega);rw[bQ,e2]at em;rw[show iter _ (acc,(0:Int),(toR s).1,(toR s).2.1,(toR s).2.2.1,(toR s).2.2.2.1,(toR s).2.2.2.2,g)=_ from em,zaA,zfA (by omega)];rfl
 unfold zcR;rw[dIn_s h w,zaA];simp only;rw[show iter _ (([]:List L8),(0:Int),toR s)=_ from key (inE s.2.1 u).length 0 [] List.Pairwise.nil (by omega) (by simp;omega) FU (by unfold FU;omega),zaA,bQ];rw[holds_W]
theorem yiW{σ R τ:Type}{n:Nat}{st:σ}{out:τ}{body:Int×σ->Option ((Int×σ)⊕(R⊕τ))}(hn:n<=1048576)(hb:∀i,i<n->body ((i:Int),st)=some (.inl (((i+1:Nat):Int),st)))(he:body ((n:Int),st)=some (.inr (.inr out))):iter body ((0:Int),st)=some (.inr out):=by
 have key:∀(f i:Nat),f+i=n->∀g,f<g->ziC body g ((i:Int),st)=some (.inr out):=by
  intro f;induction f with
  |zero=>
   intro i hi g hg;obtain⟨g,rfl⟩:∃m,g=m+1:=⟨g-1,by omega⟩;have hi:i=n:=by omega
   subst hi;exact zaW he
  |succ f ih=>intro i hi g hg;obtain⟨g,rfl⟩:∃m,g=m+1:=⟨g-1,by omega⟩;exact(zaV (hb i (by omega))).trans (ih (i+1) (by omega) g (by omega))
 exact key n 0 (by omega) FU (by unfold FU;omega)
theorem zzU{a:List L8}(h:a.length<=1048576):zbL zaB a a=some true:=by
 have key:∀(f i:Nat),f+i=a.length->∀g,f<g->ziC (zfK zaB a a) g (i:Int)=some (.inr ()):=by
  intro f;induction f with
  |zero=>
   intro i hi g hg;obtain⟨g,rfl⟩:∃m,g=m+1:=⟨g-1,by omega⟩;have hi:i=a.length:=by omega
   subst hi;refine zaW ?_;unfold zfK;rw[zaY (by omega)]
  |succ f ih=>
   intro i hi g hg;obtain⟨g,rfl⟩:∃m,g=m+1:=⟨g-1,by omega⟩;have hlt:i<a.length:=by omega
   refine(zaV ?_).trans (ih (i+1) (by omega) g (by omega));unfold zfK;rw[zaX (by omega),zbD rfl hlt,zaA,zaA,bne_self_eq_false,zfA (by omega)];rfl
 unfold zbL;rw[bne_self_eq_false,zF,show iter (zfK zaB a a) (0:Int)=_ from key a.length 0 (by omega) FU (by unfold FU;omega),zaA]
theorem dsameG_r{g:GrT}(h0:g.2.1.length<=1048576)(h1:g.2.2.1.length<=1048576)(h2:g.2.2.2.1.length<=1048576):zfE zaB g g=some true:=by unfold zfE;simp only[beq_self_eq_true,zE];rw[zzU h0,zaA,zE,zzU h1,zaA,zE,zzU h2,zaA]
theorem dsameR_r{r:Ro}(h:r.2.length<=1048576):zfT zaB r r=some true:=by unfold zfT;simp only[beq_self_eq_true,zE];rw[zzU h,zaA]
theorem dsameC_r{c:Cl}(h0:c.2.2.1.length<=1048576)(h1:c.2.2.2.1.length<=1048576):zeL zaB c c=some true:=by unfold zeL;simp only[beq_self_eq_true,zE];rw[zzU h0,zaA,zE,zzU h1,zaA]
theorem yvK{α:Type}{f:α->List L8}{c:Nat}:∀{l:List α},(∀x∈l,(f x).length<=c)->(l.flatMap f).length<=c*l.length
 |[],_=>aZ _|x::l,h=>by have h1:=h x aM;have h2:=yvK (l:=l) fun y hy=>h y (aL _ hy);rw[dE,aC,aN,Nat.mul_add];omega
theorem in_len{s:PS}(w:zoH s)(u:L8):(inE s.2.1 u).length<=1048576:=by have:=w.gL;unfold inE;exact bC (gQ _ _) (by rw[aE];omega)
theorem yyB{s:PS}(h:PPre s)(w:zoH s)(u:L8):(ycS s u).length<=1048576:=by
 have h1:=(yvX s u).sub_len (m:=s.2.2.1.flatMap fun p=>p.2.2) fun x hx=>by obtain⟨n,g,k,r,_,_,_,hr,hx⟩:=(xeK h.gR h.rR).1 hx;exact List.mem_flatMap.2 ⟨_,hr,hx⟩
 have h2:=yvK (f:=fun p:L8×Ro=>p.2.2) (c:=16) (l:=s.2.2.1) fun p hp=>yaJ (h.ro p.1 p.2 hp).2;have:=w.rL;omega
abbrev TS:Type:=List Us×List GrT×List Ro×List Cl×List (L8×L8)×UM×GM×RM×CM×MM
theorem shows_ok{s:PS}(h:PPre s)(w:zoH s):zhX zaB (usE s) (grE s) (roE s) (clE s) (maE s) s.1 s.2.1 s.2.2.1 s.2.2.2.1 s.2.2.2.2=some (true,usE s,grE s,roE s,clE s,maE s,s):=by
 have hv:=h.inv w;have lu:(usE s).length<=64:=by unfold usE;rw[aE];exact w.uL
 have lg:(grE s).length<=32:=by unfold grE;rw[aE];exact w.gL
 have lr:(roE s).length<=32:=by unfold roE;rw[aE];exact w.rL
 have lc:(clE s).length<=32:=by unfold clE;rw[aE];exact w.cL
 have lm:(maE s).length<=64:=by unfold maE;rw[aE];exact w.mL
 unfold zhX;rw[yvI hv,zaA];simp only;rw[yqD hv,zaA];simp only;rw[ytK hv,zaA];simp only;rw[ylI hv,zaA];simp only;rw[xbY hv,zaA];have hj:zjX zaB (usE s) (grE s) (roE s) (clE s) (maE s) (s.1,s.2.1,s.2.2.1,s.2.2.2.1,s.2.2.2.2,usE s) (s.1,s.2.1,s.2.2.1,s.2.2.2.1,s.2.2.2.2,grE s) (s.1,s.2.1,s.2.2.1,s.2.2.2.1,s.2.2.2.2,roE s) (s.1,s.2.1,s.2.2.1,s.2.2.2.1,s.2.2.2.2,clE s) (maE s,s)=some (.inr (usE s,grE s,roE s,clE s,maE s,s.1,s.2.1,s.2.2.1,s.2.2.2.1,s.2.2.2.2,usE s,grE s,roE s,clE s)):=by unfold zjX;simp only[bne_self_eq_false,zF]
 rw[hj,zaA];simp only
 have l1:=yiW (body:=fun x:Int×List Us×List GrT×List Ro×List Cl×List (L8×L8)×UM×GM×RM×CM×MM×List Us×List GrT×List Ro×List Cl=>zhI zaB x.1 x.2.1 x.2.2.1 x.2.2.2.1 x.2.2.2.2.1 x.2.2.2.2.2.1 x.2.2.2.2.2.2.1 x.2.2.2.2.2.2.2.1 x.2.2.2.2.2.2.2.2.1 x.2.2.2.2.2.2.2.2.2.1 x.2.2.2.2.2.2.2.2.2.2.1 x.2.2.2.2.2.2.2.2.2.2.2.1 x.2.2.2.2.2.2.2.2.2.2.2.2.1 x.2.2.2.2.2.2.2.2.2.2.2.2.2.1 x.2.2.2.2.2.2.2.2.2.2.2.2.2.2) (n:=(usE s).length) (st:=(usE s,grE s,roE s,clE s,maE s,s.1,s.2.1,s.2.2.1,s.2.2.2.1,s.2.2.2.2,usE s,grE s,roE s,clE s)) (out:=(usE s,grE s,roE s,clE s,maE s,s.1,s.2.1,s.2.2.1,s.2.2.2.1,s.2.2.2.2,grE s,roE s,clE s)) (by omega) (fun i hi=>by
  simp only;unfold zhI;rw[zaX (by omega),zzG hi];simp only[zaA];rw[zbD rfl hi];simp only[zaA,beq_self_eq_true,decide_true,gN,bM,zF];rw[in_ok hv,zaA];simp only;rw[dIn_s h w,zaA];simp only;rw[zzU (in_len w _),zaA,bM,zF,holds_ok hv,zaA];simp only;rw[show zcR zaB (usE s)[i].1 (toR s).1 (toR s).2.1 (toR s).2.2.1 (toR s).2.2.2.1 (toR s).2.2.2.2=_ from dHolds_s h w _,zaA];simp only;rw[zzU (yyB h w _),zaA,bM,zF,zfA (by omega)]
  rfl) (by
  simp only;unfold zhI
  rw[zaY (by omega)])
 rw[l1,zaA];simp only
 have l2:=yiW (body:=fun x:Int×List Us×List GrT×List Ro×List Cl×List (L8×L8)×UM×GM×RM×CM×MM×List GrT×List Ro×List Cl=>zhC zaB x.1 x.2.1 x.2.2.1 x.2.2.2.1 x.2.2.2.2.1 x.2.2.2.2.2.1 x.2.2.2.2.2.2.1 x.2.2.2.2.2.2.2.1 x.2.2.2.2.2.2.2.2.1 x.2.2.2.2.2.2.2.2.2.1 x.2.2.2.2.2.2.2.2.2.2.1 x.2.2.2.2.2.2.2.2.2.2.2.1 x.2.2.2.2.2.2.2.2.2.2.2.2.1 x.2.2.2.2.2.2.2.2.2.2.2.2.2) (n:=(grE s).length) (st:=(usE s,grE s,roE s,clE s,maE s,s.1,s.2.1,s.2.2.1,s.2.2.2.1,s.2.2.2.2,grE s,roE s,clE s)) (out:=(usE s,grE s,roE s,clE s,maE s,s.1,s.2.1,s.2.2.1,s.2.2.2.1,s.2.2.2.2,roE s,clE s)) (by omega) (fun i hi=>by
  simp only;unfold zhC;obtain⟨p,hp,hpe⟩:=aR.1 (bE hi);rw[zaX (by omega),zzG hi];simp only[zaA];rw[zbD rfl hi];simp only[zaA]
  rw[dsameG_r (by rw[<-hpe];exact h.sz p.1 p.2 hp 0 (by decide)) (by rw[<-hpe];exact h.sz p.1 p.2 hp 1 (by decide)) (by rw[<-hpe];exact h.sz p.1 p.2 hp 2 (by decide)),zaA,bM,zF,zfA (by omega)]) (by
  simp only;unfold zhC
  rw[zaY (by omega)])
 rw[l2,zaA];simp only
 have l3:=yiW (body:=fun x:Int×List Us×List GrT×List Ro×List Cl×List (L8×L8)×UM×GM×RM×CM×MM×List Ro×List Cl=>zhE zaB x.1 x.2.1 x.2.2.1 x.2.2.2.1 x.2.2.2.2.1 x.2.2.2.2.2.1 x.2.2.2.2.2.2.1 x.2.2.2.2.2.2.2.1 x.2.2.2.2.2.2.2.2.1 x.2.2.2.2.2.2.2.2.2.1 x.2.2.2.2.2.2.2.2.2.2.1 x.2.2.2.2.2.2.2.2.2.2.2.1 x.2.2.2.2.2.2.2.2.2.2.2.2) (n:=(roE s).length) (st:=(usE s,grE s,roE s,clE s,maE s,s.1,s.2.1,s.2.2.1,s.2.2.2.1,s.2.2.2.2,roE s,clE s)) (out:=(usE s,grE s,roE s,clE s,maE s,s.1,s.2.1,s.2.2.1,s.2.2.2.1,s.2.2.2.2,clE s)) (by omega) (fun i hi=>by
  simp only;unfold zhE;obtain⟨p,hp,hpe⟩:=aR.1 (bE hi);have hz:(roE s)[i].2.length<=1048576:=by rw[<-hpe];exact bC (yaJ (h.ro p.1 p.2 hp).2) (by decide)
  rw[zaX (by omega),zzG hi];simp only[zaA];rw[zbD rfl hi];simp only[zaA]
  rw[dsameR_r hz,zaA,bM,zF,zfA (by omega)]) (by
  simp only;unfold zhE
  rw[zaY (by omega)])
 rw[l3,zaA];simp only
 have l4:=yiW (body:=fun x:Int×List Us×List GrT×List Ro×List Cl×List (L8×L8)×UM×GM×RM×CM×MM×List Cl=>zhH zaB x.1 x.2.1 x.2.2.1 x.2.2.2.1 x.2.2.2.2.1 x.2.2.2.2.2.1 x.2.2.2.2.2.2.1 x.2.2.2.2.2.2.2.1 x.2.2.2.2.2.2.2.2.1 x.2.2.2.2.2.2.2.2.2.1 x.2.2.2.2.2.2.2.2.2.2.1 x.2.2.2.2.2.2.2.2.2.2.2) (n:=(clE s).length) (st:=(usE s,grE s,roE s,clE s,maE s,s.1,s.2.1,s.2.2.1,s.2.2.2.1,s.2.2.2.2,clE s)) (out:=(usE s,grE s,roE s,clE s,maE s,s.1,s.2.1,s.2.2.1,s.2.2.2.1,s.2.2.2.2)) (by omega) (fun i hi=>by
  simp only;unfold zhH;obtain⟨p,hp,hpe⟩:=aR.1 (bE hi);have hz:=ywD (h.cl p.1 p.2 hp).2;have z0:(clE s)[i].2.2.1.length<=1048576:=by rw[<-hpe];exact bC hz.1 (by decide)
  have z1:(clE s)[i].2.2.2.1.length<=1048576:=by rw[<-hpe];exact bC hz.2 (by decide)
  rw[zaX (by omega),zzG hi];simp only[zaA];rw[zbD rfl hi];simp only[zaA]
  rw[dsameC_r z0 z1,zaA,bM,zF,zfA (by omega)]) (by
  simp only;unfold zhH
  rw[zaY (by omega)])
 rw[l4,zaA];simp only
 have l5:=yiW (body:=fun x:Int×TS=>zhL zaB (maE s,s) x.1 x.2.1 x.2.2.1 x.2.2.2.1 x.2.2.2.2.1 x.2.2.2.2.2.1 x.2.2.2.2.2.2.1 x.2.2.2.2.2.2.2.1 x.2.2.2.2.2.2.2.2.1 x.2.2.2.2.2.2.2.2.2.1 x.2.2.2.2.2.2.2.2.2.2) (n:=(maE s).length) (st:=(usE s,grE s,roE s,clE s,maE s,s.1,s.2.1,s.2.2.1,s.2.2.2.1,s.2.2.2.2)) (out:=(usE s,grE s,roE s,clE s,maE s,s.1,s.2.1,s.2.2.1,s.2.2.2.1,s.2.2.2.2)) (by omega) (fun i hi=>by
  simp only;unfold zhL;obtain⟨p,hp,hpe⟩:=aR.1 (bE hi);have hm:mhas (keq (.pr .s .s)) s.2.2.2.2 ((maE s)[i].1,(maE s)[i].2)=true:=by show mhas keqM s.2.2.2.2 (maE s)[i]=true;rw[<-hpe];exact kSS.has_iff.2 ⟨p.2,hp⟩
  simp only;rw[zaX (by omega),zbD rfl hi];simp only[zaA,beq_self_eq_true,gN,bM,zF];unfold znK;simp only;rw[hm,zaA];simp only[bM,zF]
  rw[zfA (by omega)]) (by
  simp only;unfold zhL;simp only
  rw[zaY (by omega)])
 rw[l5,zaA]
theorem loads_t(rows:List (L8×L8))(hl:rows.length<=1048575)(hb:∀x∈rows,x.1.length<=1048576/\x.2.length<=1048576):zeH zaB rows=some true:=by
 have hz2:∀x∈rows,x.2.length<=1048576:=fun x hx=>(hb x hx).2;have hB:∀w:L8×L8,idx (rows++[w]) (rows.length:Int)=some w:=fun w=>by rw[zbD (i:=rows.length) rfl (by simp)];simp
 unfold zeH;rw[zmZ rows (by omega),zaA,zfN (by simp;omega),zaA,zpP (by simp),zaA];simp only[bT,fH];rcases load_any (rows:=rows) (by omega) hb with⟨L,hL,hp,w,e1⟩|⟨hno,e1⟩
 ·rcases ypR hl hb with⟨L',hL',w',e2⟩|⟨hno,_⟩
  ·have e3:bld L' s0=bld L s0:=by have e4:=ydQ hL (by omega) hz2;rw[ydQ hL' (by omega) hz2]at e4;injection e4 with e4;injection e4
   rw[e3]at e2;rw[e1,zaA];simp only;rw[e2,zaA];simp only;have hj:zgP zaB rows (rows++[(([98,101,104,105,110,100]:L8),([]:L8))]) (0,bld L s0) (0,toR (bld L s0))=some (.inr (usE (bld L s0),grE (bld L s0),roE (bld L s0),clE (bld L s0),maE (bld L s0),bld L s0)):=by unfold zgP;simp only[bne_self_eq_false,zF,bT,fH];rw[yhB rows (by omega),zaA,bM,zF,zfA (by omega),zpP (by simp),zaA,cX (by simp),hB,zaA];simp only[bne_self_eq_false,zF];rfl
   rw[hj,zaA];simp only;rw[shows_ok hp w,zaA];simp only[zE];rw[rows_ok (fW _) (hp.inv w),zaA,xcD hL hp w];simp only;rw[yhB rows (by omega),zaA];rfl
  ·exact absurd ⟨L,hL,w⟩ hno
 ·rcases ypR hl hb with⟨L',hL',w',_⟩|⟨_,e2⟩
  ·exact absurd ⟨L',hL',w'⟩ hno
  ·rw[e1,zaA];simp only;rw[e2,zaA];simp only;have hj:zgX zaB rows (rows++[(([98,101,104,105,110,100]:L8),([]:L8))]) 125 125=some (.inr ()):=by unfold zgX;simp only[bne_self_eq_false,zF,bT,fH];rw[yhB rows (by omega),zaA,bM,zF,zfA (by omega),zpP (by simp),zaA,cX (by simp),hB,zaA];simp only[bne_self_eq_false,zF]
   rw[hj,zaA];rfl
theorem yyM(v0:List (L8×L8))(hk:dsz (.sl (.pr .s .s)) v0<=1048576):zeH zaB v0=some true:=by have h1:v0.length+1<=dsz (.sl (.pr .s .s)) v0:=xaA (e:=.pr .s .s) rfl v0;refine loads_t v0 (by omega) fun x hx=>?_;have h2:dsz (.pr .s .s) x<=dsz (.sl (.pr .s .s)) v0:=dsz_in (e:=.pr .s .s) hx;have h3:dsz (.pr .s .s) x=(x.1.length+1)+(x.2.length+1):=rfl;omega
end Go.Proofs.YtopanhneegpgcaaGreatDoor.Am
namespace Go.Proofs.YtopanhneegpgcaaGreatDoor
open Go Go.RowKit
section
open Go Go.RowKit Go.ChangeShapes Go.WideShapes Go.ChangeAt
attribute [local irreducible] Value.okWide
theorem tabs_of{W:World}(h:W.ShapedOpen aA)(hL:laidMet aA Rows.peopleLoadsUptoRow.laid W):∃G:List (Nat×Obj),Am.zrD G/\Am.GS G (zwE W):=by
 obtain⟨m,hm⟩:=Tryz.laysM219.s1_3 W h;have hm:W.cell? ⟨0,0,none⟩=some (.int .i64 m):=hm;have h0:∃c E fz,W.heap[0]? = some (.cells c E fz)/\c[0]? = some (.int .i64 m):=by
  unfold World.cell? at hm;split at hm
  ·rename_i c E fz hb;simp only[Option.isSome_none,zH (show ¬(false=true) by decide)]at hm;exact⟨c,E,fz,hb,hm⟩
  ·cases hm
 obtain⟨c,E,fz,h1,h2⟩:=h0;have hT := Lib.tabIs_of_head (P := aA) (k := .u64) (zs := Lib.pow10Tab) (g := 3) (t := 298) (e := 249) (n := 20) (by kernel_rfl) (by kernel_rfl) (by kernel_rfl) (by kernel_rfl) (by kernel_rfl) (by kernel_rfl) (show laidMet aA (("internal/strconv.uint64pow10", Lib.tabData .u64 Lib.pow10Tab) :: _) W from hL.tail.tail);have h3:∃T f,W.heap[3]? = some (.cells yyV.toArray T f):=by
  unfold Lib.TabIs World.var? at hT;rw [show Tryz.prog.globalNamed "internal/strconv.uint64pow10" = some 3 by kernel_rfl, Option.bind_some] at hT;split at hT
  ·rename_i cs T f hb;cases hT;exact⟨T,f,hb⟩
  ·cases hT
 obtain⟨T,f,h4⟩:=h3;refine⟨[(0,.cells c E fz),(3,.cells yyV.toArray T f)],⟨fun S hS=>⟨⟨c,E,fz,m,hS _ (aM ..),h2⟩,T,f,hS _ (aL _ (aM ..))⟩⟩,fun p hp=>?_⟩;rcases aK.1 hp with rfl|hp
 ·exact h1
 ·rcases aK.1 hp with rfl|hp
  ·exact h4
  ·cases hp
theorem yaX(H:Type)(enc:TypeId×Value->H)(W:World)(base:Nat)(args:Array Value)(ds gs:List (DataW H))(before:List MemPlace) (hval:∀(j:Nat) t v,Tryz.f5.params[j]? = some t->args[j]? = some v->Value.okWide aA W .any base t v) (hW:DataW.Whole enc aA Tryz.f5.params.toList Rows.peopleLoadsSpec.vars false W args.toList ds gs before) (hk:Rows.uptoSmall H (ds++gs)=true) (hsh:W.ShapedOpen aA) (hL:laidMet aA Rows.peopleLoadsUptoRow.laid W):Calls aA 5 args W fun e W'=>∃v,e = .returned v/\Rows.peopleLoadsSpec.post enc aA Tryz.f5 false true false false W args v W':=by
 have hW':=hW;obtain⟨p,q,hA0,hV,rfl,_,_⟩:=hW;have hA:DataW.TrodAll enc aA W 0 (fun _=>true) true Tryz.f5.params.toList args.toList ds p:=hA0;rw[Tryz.params5]at hA hval;obtain⟨v0,vs0,d0,ds0,p0,q0,hargs,rfl,rfl,t0,r0⟩:=trodAll_cons hA;obtain⟨rfl,rfl,rfl⟩:=trodAll_nil r0;obtain rfl:args = #[v0]:=by cases args;simp_all
 obtain⟨rfl,rfl⟩:=trodVars_none hV;obtain⟨x0,e0,b0⟩:=Am.argD_ok (t:=(.sl (.pr .s .s))) (show Am.argOk aA 31 (.sl (.pr .s .s))=true by kernel_rfl) (hval 0 31 v0 rfl rfl) t0;simp only[bK,Rows.uptoSmall,zD,Rows.uptoBulkAll]at hk;obtain⟨G,hG,hGS⟩:=tabs_of hsh hL;refine((Am.yfN (tabs:=G) (o:=Am.zaB)).ok (zwE W) W [v0] (x0) true hGS (subMem W) (.cons (Am.rep1_vr e0) .nil) (Am.yyM x0 (by omega))).mono fun e W' ⟨hx,v,he,hr,_⟩=>?_;have hr:[v]=[Value.bool true]:=hr;rw[(List.cons.inj hr).1]at he;subst he;refine⟨_,rfl,law_post (B:=4) (n:=1) (by kernel_rfl) rfl (by kernel_rfl) (by kernel_rfl) (by kernel_rfl) (by kernel_rfl) (fun ds hds=>?_) hW' hx⟩
 match ds,hds with
 |[x0],_=>exact⟨rfl,rfl,rfl⟩
theorem own_none:ownKnob Tryz.prog.godebug=none:=by kernel_rfl
def ykQ:DataW Unit->LV
 |.lit (.int k n)=>[.int k n]|.agg l=>go l|_=>[]
where go:List (DataW Unit)->LV
 |[]=>[]|d::l=>ykQ d++go l
def zxA(l:LV):Obj->Obj
 |.cells _ t frozen=>.cells l.toArray t frozen|o=>o
noncomputable def yjD(os:Os):World:={ World.holding aA os ⟨#[],#[],[]⟩with heap:=(((((((((World.holding aA os ⟨#[],#[],[]⟩).heap).modify 6 (zxA (ykQ Rows.laid_math_bits_deBruijn32tab))).modify 7 (zxA (ykQ Rows.laid_math_bits_deBruijn64tab))).modify 3 (zxA (ykQ Rows.laid_internal_strconv_uint64pow10))).modify 5 (zxA (ykQ Rows.laid_unicode_utf8_acceptRanges))).modify 2 (zxA [.iface 312 (.pointer (some ⟨(World.holding aA os ⟨#[],#[],[]⟩).heap.size+0,0,none⟩))])).modify 1 (zxA [.iface 312 (.pointer (some ⟨(World.holding aA os ⟨#[],#[],[]⟩).heap.size+1,0,none⟩))])).modify 4 (zxA (ykQ Go.Pinned.utf8First))) ++ #[.cells #[.string ⟨#[118,97,108,117,101,32,111,117,116,32,111,102,32,114,97,110,103,101]⟩] 314,.cells #[.string ⟨#[105,110,118,97,108,105,100,32,115,121,110,116,97,120]⟩] 314] }
theorem yaW(os:Os):laidMet aA Rows.peopleLoadsUptoRow.laid ((yjD os).forCall (fun _ _=>0) ⟨#[],#[.slice none 0 0],[]⟩).memory:=
 laidMet_of_run' 8 (by kernel_rfl) (by kernel_rfl)
theorem yeC(os:Os){H:Type}(enc:TypeId×Value->H):∃places,DataW.whole enc aA ((yjD os).forCall (fun _ _=>0) ⟨#[],#[.slice none 0 0],[]⟩).memory Tryz.f5.params.toList Rows.peopleLoadsSpec.vars false (#[.slice none 0 0]:Array Value).toList 8=some ([.nil],[],places):=
 ⟨[],by kernel_rfl⟩
set_option maxRecDepth 100000 in
theorem ydN(os:Os)(started:os.Started)(H:Type)(enc:TypeId×Value->H)(F:Stop.Interp):
  ReturnsInHanded {} Tryz.checked os 5 .any ((Rows.OpenSpec.upto Rows.peopleLoadsSpec).preRow enc aA Tryz.f5 Rows.peopleLoadsUptoRow.domain false Rows.peopleLoadsUptoRow.laid) (((Rows.OpenSpec.upto Rows.peopleLoadsSpec).at F).post enc aA Tryz.f5 false true false false):=by
 obtain⟨places,hx⟩:=yeC os enc
 refine returnsInHanded_of_row (C:=Tryz.checked) (s:=Rows.OpenSpec.upto Rows.peopleLoadsSpec) own_none started (by kernel_rfl) Tryz.func5
  (witness_row_at (enc:=enc) (C:=Tryz.checked) false (yjD os) #[.slice none 0 0] rfl (by kernel_rfl) (by kernel_rfl) (by kernel_rfl)
   (OpenSpec.preRow_of_cond 8 hx (by kernel_rfl) (fun k hk=>by cases hk;kernel_rfl) (by kernel_rfl) (yaW os))) ?_
 intro W base args ds gs before hval hW _ hcond _ hL hsh _;exact yaX H enc W base args ds gs before hval hW (hcond _ rfl) hsh hL
set_option maxRecDepth 100000 in
set_option maxHeartbeats 40000000 in
theorem ydS:joinedFacts Tryz.pinned.checked.prog 5 Tryz.f5 (Rows.OpenSpec.upto Rows.peopleLoadsSpec).bare Rows.peopleLoadsUptoRow=true:=by
 simp only[joinedFacts,aF]
 repeat' refine And.intro ?_ ?_
 all_goals (as_aux_lemma=>kernel_rfl)
theorem yjN:Rows.PeopleLoadsUptoSaid:=
 OpenClaim.holds_of_cond 5 Tryz.f5 rfl rfl rfl rfl rfl rfl rfl ⟨rfl,rfl,rfl,rfl,rfl⟩ rfl rfl rfl rfl rfl (by kernel_rfl) Tryz.func5 ydS
  (zC (by kernel_rfl)) (by unfold Func.isWrapper;first|(rw[zI (by decide +kernel)];kernel_rfl)|(rw[zH (by decide +kernel)];exact⟨rfl,rfl⟩))
  (fun os started H enc _ F=>by rw[OpenClaim.pre_eq_preRow];exact ydN os started H enc F)
theorem ydR (f : FuncId) (fn : Func) (hf : Tryz.pinned.checked.prog.funcNamed "seneschal/seneschallaw12.PeopleLoads" = some f) (hfn : Tryz.pinned.checked.prog.funcs[f]? = some fn) :
  true=Tryz.pinned.checked.prog.looks []/\∀(j:Nat) t,fn.params[j]? = some t->Tryz.pinned.checked.prog.wantsStandIn t=false:=by
 obtain rfl : f = 5 := osi ((show Tryz.prog.funcNamed "seneschal/seneschallaw12.PeopleLoads" = some 5 by kernel_rfl).symm.trans hf) |>.symm;obtain rfl:fn=Tryz.f5:=(osi (Tryz.func5.symm.trans hfn)).symm;refine⟨by kernel_rfl,fun j t ht=>?_⟩;rw[Tryz.params5]at ht;have hm:t∈[31]:=by simpa using Array.mem_of_getElem? ht
 have hall:([31].all fun u=>!Tryz.prog.wantsStandIn u)=true:=by kernel_rfl
 exact(show Tryz.prog.wantsStandIn t=false by simpa using aY.1 hall t hm)
theorem peopleLoads_said : Rows.PeopleLoadsUptoCardSaid :=
 Claim7.holds_tied_plain_at .later [] _ _ _ _ yjN (fun _ h=>by cases h) (by as_aux_lemma=>kernel_rfl) (fun _ h=>by cases h) peopleLoadsUpto_row_tie rfl ⟨rfl,rfl⟩ (by as_aux_lemma=>kernel_rfl) rfl ydR (by as_aux_lemma=>kernel_rfl)
end
end Go.Proofs.YtopanhneegpgcaaGreatDoor
