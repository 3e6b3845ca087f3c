/- Parts of one proof. Conditions: as each theorem says. -/
import Derived.KernelRfl
import Derived.Test.YtmbcolbbekbccaaGreatRows
import Derived.ProofKit
import Derived.OpenShut
import Derived.Carry
import Derived.JoinedCond
import Derived.ChangeMaps5
import Derived.Deep.SlicePairs
import Derived.Deep.DeepHandedRow
import Derived.Lib.LaidTab
import Derived.SevenTiedAt
import Derived.Test.YtmbcolbbekbccaaGreatQkO
open Array renaming length_toList->iC
open Bool renaming and_eq_true->aK,not_true->dM,or_eq_true->cJ
open List renaming cons_append->bN,drop_drop->eC,drop_eq_nil_of_le->eR,ext_getElem?->aX,getElem?_drop->bB,getElem?_eq_getElem->aI,getElem?_eq_none->bT,getElem?_eq_some_iff->aC,getElem?_take->bK,length->eT,length_append->aE,length_drop->bO,length_eq_zero_iff->cV,length_map->bL,length_singleton->fV,map->gM,map_append->dP,map_cons->bS,map_nil->fI,mem_append->cI,mem_singleton->aW,sum_cons->iQ,take_add_one->gL,take_of_length_le->dJ
open Nat renaming add_mul->bD,beq->aG,eq_of_beq_eq_true->aB,eq_zero_or_pos->gJ,le_of_lt->cW,le_refl->aJ,lt_trans->bQ,mod_eq_of_lt->aP,mod_lt->aZ,mul_comm->cA,mul_le_mul_left->gZ,one_mul->cR,pos_of_ne_zero->cN,sub_add_cancel->fM,zero_le->bX
open Option renaming bind->aA,bind_eq_some_iff->fJ,isSome_none->iI,toList_some->jF
open Go.Proofs.Tryz renaming prog->aD
namespace Go.Proofs.YtmbcolbbekbccaaGreat.Am
open Go Go.RowKit
noncomputable def cdec(p:Prop):Bool:=@decide p (Classical.propDecidable p)
theorem ylX{p:Prop}:cdec p=true↔p:=@decide_eq_true_iff p (Classical.propDecidable p)
abbrev kyT:Ty:=.pr .s (.pr .s (.pr .s numT))
abbrev memT:Ty:=.pr (.i .u32) (.pr (.i .i32) (.pr (.i .u32) ptT))
abbrev kgT:Ty:=.pr memT memT
abbrev kpT:Ty:=.pm 117 kyT kgT
abbrev Kp:Type:=(Bs×Bs×Bs×Qw)×(UInt32×Int×UInt32×Qw×Qw×Bool)×UInt32×Int×UInt32×Qw×Qw×Bool
def memV(o:UInt32)(q:P9):UInt32×Int×UInt32×P9:=(o,(0:Int),(0:UInt32),q)
def q0:P9:=((0,0,0,0),(0,0,0,0),false)
def kpV(s k m:Bs)(d:W4)(r:P9):Kp:=((s,k,m,d),memV 0 q0,memV 1 r)
noncomputable def ybD(s:Bs):Option Kp:=aA (ziY s) fun x=>aA (zaZ (x.2.2.2.1,x.2.2.2.2.1,x.2.2.2.2.2.1,x.2.2.2.2.2.2.1)) fun r=>
 bif cdec (x=k19 x.1 x.2.1 x.2.2.1 (x.2.2.2.1,x.2.2.2.2.1,x.2.2.2.2.2.1,x.2.2.2.2.2.2.1) 0 0 q0)then some (kpV x.1 x.2.1 x.2.2.1 (x.2.2.2.1,x.2.2.2.2.1,x.2.2.2.2.2.1,x.2.2.2.2.2.2.1) r)else none
noncomputable def zxO(x:Kp):Option P9:=aA (zaZ x.1.2.2.2) fun r=>bif cdec (x=kpV x.1.1 x.1.2.1 x.1.2.2.1 x.1.2.2.2 r)then some r else none
theorem yrG{s:Bs}{d:Kp}(h:ybD s=some d):∃s1 k1 m1 d1 r,ziY s=some (k19 s1 k1 m1 d1 0 0 q0)/\zaZ d1=some r/\d=kpV s1 k1 m1 d1 r:=by unfold ybD at h;obtain⟨x,hx,h⟩:=bnd h;obtain⟨r,hr,h⟩:=bnd h;obtain⟨hxe,h⟩:=zaJ h;exact⟨x.1,x.2.1,x.2.2.1,(x.2.2.2.1,x.2.2.2.2.1,x.2.2.2.2.2.1,x.2.2.2.2.2.2.1),r,hx.trans (congrArg some (ylX.1 hxe)),hr,(osi h).symm⟩
theorem ymL{x:Kp}{r:P9}(h:zxO x=some r):∃s1 k1 m1 d1,zaZ d1=some r/\x=kpV s1 k1 m1 d1 r:=by unfold zxO at h;obtain⟨r1,hr,h⟩:=bnd h;obtain⟨hxe,h⟩:=zaJ h;cases h;exact⟨x.1.1,x.1.2.1,x.1.2.2.1,x.1.2.2.2,hr,ylX.1 hxe⟩
theorem yoJ{s k m:Bs}{d:W4}{r:P9}{o:UInt32}{q:P9}(hr:zaZ d=some r)(h:o=0/\q=q0∨o=1/\q=r):zmZ.p (k19 s k m d o 0 q)=some (r,k19 s k m d 1 0 r):=by
 have h1:doP (k19 s k m d o 0 q)=some (k19 s k m d 1 0 r):=by
  rcases h with⟨rfl,rfl⟩|⟨rfl,rfl⟩
  ·show(aA (zaZ d) fun r=>some (k19 s k m d 1 0 r))=_;rw[hr];rfl
  ·rfl
 show aA (doP (k19 s k m d o 0 q)) _=_;rw[h1];rfl
section
variable {G:List (Nat×Obj)}
noncomputable def yiN:SC:=⟨⟨[(0,.h .s)],[]⟩,1,[(none,⟨[(0,.h kpT)],[]⟩)],fun(s:Bs)=>ybD s⟩
theorem yuZ[ycO G]:SCok aD G 72 yiN:=by
 have h:=yfZ (tabs:=G);refine⟨h.fn,fun S w us E L (s:Bs) (d:den kpT) hG hul R hy=>?_⟩;have hy:ybD s=some d:=hy;obtain⟨s1,k1,m1,d1,r,hx,hr,rfl⟩:=yrG hy;have hL:L=[]:=cV.1 R.lL;have hE:E=[]:=cV.1 R.lE;subst hL;subst hE;refine(h.ok S w us [] [] s (k19 s1 k1 m1 d1 0 0 q0) hG hul R hx).mono ?_;rintro e w' ⟨v,hv,S',E',L',σo,V',hout,hS,_,R2,_,_,hres⟩;have hσ:σo=⟨[(0,.ptr 0 0)],[.blk 117 (keyS s1 k1 m1 d1 0 0 q0)]⟩:=(osi (hout (γ:=St) fun _ σ=>some σ)).symm;subst hσ;obtain⟨r0,e0,h1,h2,b,us1,rfl,rfl,hc⟩:=R2.obj 0 _ rfl;have hu:=zpK (l:=keyS s1 k1 m1 d1 0 0 q0) rfl hc;have hu:us1=keyC s1 k1 m1 d1 0 0 q0:=hu;subst hu;have hL:L'=[.blk b (keyC s1 k1 m1 d1 0 0 q0) 117]:=by
  have h3:L'.length=1:=R2.lL
  match L',h3,h1 with
  |[_],_,h1=>cases h1;rfl
 subst hL;have hw:w'.heap[b]? = some (.cells (keyC s1 k1 m1 d1 0 0 q0).toArray 117 (0,0)):=R2.hs.own 0 _ rfl;obtain⟨S'',hle,hb,H⟩:=HS.fix R2.hs (k:=0) rfl (b:=b) (o:=vm (encF kyT (s1,k1,m1,d1)) (encF memT (memV 0 q0)) (encF memT (memV 1 r)) 117) rfl (yqK rfl (.inl hw));obtain⟨b',hV,e',he',hbb⟩:=(show VB S' E' (.ptr 0 0) (V' 0)from R2.sl 0);have hbb:b=b':=hbb b (osi (he'.symm.trans h2));subst hbb;refine⟨v,hv,S'',[],[],⟨[(0,.v kpT (kpV s1 k1 m1 d1 r))],[]⟩,V',fun k=>rfl,Mem.le_trans hS hle,Pin.refl _ _,⟨H,rfl,rfl,fun i o ho=>?_,fun t=>?_⟩,fun i ver e T xs hi=>?_,aJ _,hres⟩
 ·cases i<;>cases ho
 ·cases t with
  |zero=>exact(⟨V' 0,b,_,_,_,_,rfl,hV,hb,rfl,zqI (t:=kyT) (x:=(s1,k1,m1,d1)) rfl,zqI (t:=kgT) (x:=(memV 0 q0,memV 1 r)) rfl,rfl⟩:rep kpT S'' [V' 0] (kpV s1 k1 m1 d1 r))|succ t=>trivial
 ·cases i<;>cases hi
noncomputable def yiS:SC:=⟨⟨[(0,.h kpT)],[]⟩,1,[(none,⟨[(0,.h ptT)],[]⟩)],fun(x:den kpT)=>zxO x⟩
theorem yyJ[hT:ycO G]:SCokX aD G true 82 yiS:=by
 have h:=zuG (tabs:=G);refine⟨h.fn,fun S w us E L (x:den kpT) (r:P9) hG hul R hy=>?_⟩;have hy:zxO x=some r:=hy;obtain⟨s1,k1,m1,d1,hr,rfl⟩:=ymL hy;have hL:L=[]:=cV.1 R.lL;have hE:E=[]:=cV.1 R.lE;subst hL;subst hE;have hul:us.length=1:=hul;obtain⟨u,rfl⟩:∃u,us=[u]:=by
  match us,hul with
  |[u],_=>exact⟨u,rfl⟩
 obtain⟨u,b,p,a,c,T,e1,rfl,hb,hl,hp,hg,rfl⟩:=(show rep kpT S [u] (kpV s1 k1 m1 d1 r)from R.sl 0);cases e1;have hpe:p=encF kyT (s1,k1,m1,d1):=zyV (S:=S) (E:=[]) rfl (zgL kyT hp);have hge:a++c=encF memT (memV 0 q0)++encF memT (memV 1 r):=zyV (t:=kgT) (x:=(memV 0 q0,memV 1 r)) (S:=S) (E:=[]) rfl (zgL kgT hg);have hal:a.length=(encF memT (memV 0 q0)).length:=by have h1:=congrArg eT hge;have h2:(encF memT (memV 0 q0)).length=12:=rfl;have h3:(encF memT (memV 1 r)).length=12:=rfl;rw[aE,aE]at h1;omega
 obtain⟨rfl,rfl⟩:=List.append_inj hge hal;subst hpe;obtain⟨o,q,hw,hoq⟩:∃o q,w.heap[b]? = some (.cells (keyC s1 k1 m1 d1 o 0 q).toArray 117 (0,0))/\(o=0/\q=q0∨o=1/\q=r):=by
  rcases yvB hl (R.hs.sub b _ hb)with h1|h1
  ·exact⟨0,q0,h1,.inl ⟨rfl,rfl⟩⟩
  ·exact⟨1,r,h1,.inr ⟨rfl,rfl⟩⟩
 have hlt:b<w.heap.size:=by
  rcases Nat.lt_or_ge b w.heap.size with h1|h1
  ·exact h1
  ·rw[Array.getElem?_eq_none h1]at hw;cases hw
 have hp1:=yoJ (s:=s1) (k:=k1) (m:=m1) hr hoq;have hX:b∈mayL true S [] w:=List.mem_append_right _ (yaT.2 ⟨hlt,_,hb,rfl⟩);have hself:wo1 S (some b) b=none:=by unfold wo1;rw[zA rfl];rfl
 have hG1:GS G (wo1 S (some b)):=fun p hp=>by
  have hne:(some b:Option Nat)≠some p.1:=fun e=>by cases e;have h1:=hG p hp;rw[hb]at h1;have h2:=List.all_eq_true.1 hT.ok p hp;rw[<-osi h1]at h2;cases h2
  rw[zyX hne];exact hG p hp
 have R1:RelV ⟨wo1 S (some b),zcC [.blk b (keyC s1 k1 m1 d1 o 0 q) 117],w⟩ (wo1 S (some b)) [.blk b] [.blk b (keyC s1 k1 m1 d1 o 0 q) 117] ⟨[(0,.ptr 0 0)],[.blk 117 (keyS s1 k1 m1 d1 o 0 q)]⟩ (fun t=>[Value.pointer (some ⟨b,0,none⟩)].getD t undef) w:=by
  refine⟨⟨Fr.refl _ _,fun b' o' h'=>R.hs.sub b' o' (xdB b' o' h'),fun _ _ _=>rfl,fun k r' hk=>?_,fun k r' b' hk hb'=>?_,fun i j r' t b' hi hj _ _=>?_⟩,rfl,rfl,fun i ob hi=>?_,fun t=>?_⟩
  ·match k,hk with
   |0,hk=>cases hk;exact hw
  ·match k,hk with
   |0,hk=>cases hk;cases hb';exact⟨.inr (aW.2 rfl),hself⟩
  ·match i,j,hi,hj with
   |0,0,_,_=>rfl
  ·match i,hi with
   |0,hi=>cases hi;exact⟨_,_,rfl,rfl,b,_,rfl,rfl,zsX rfl⟩
  ·cases t with
   |zero=>exact(⟨b,rfl,_,rfl,fun b' h=>(by cases h;rfl)⟩:VB _ [.blk b] (.ptr 0 0) (.pointer (some ⟨b,0,none⟩)))|succ t=>trivial
 refine(h.ok _ w [_] _ _ (k19 s1 k1 m1 d1 o 0 q) (r,k19 s1 k1 m1 d1 1 0 r) hG1 rfl R1 hp1).mono ?_;rintro e w' ⟨v,hv,S',E',L',σo,V',hout,hS,hP,R2,_,_,hres⟩;have hσ:σo=⟨[(0,svOf ptT r)],[.blk 117 (keyS s1 k1 m1 d1 1 0 r)]⟩:=(osi (hout (γ:=St) fun _ σ=>some σ)).symm;subst hσ;obtain⟨r0,e0,h1,h2,b2,us1,rfl,rfl,hc⟩:=R2.obj 0 _ rfl;have hb2:b2=b:=by
  obtain⟨e',h3,h4⟩:=hP 0 (.blk b) (by decide) rfl;rw[h2]at h3;cases h3;rcases h4 with⟨_,_,_,h4,_⟩|⟨_,h4⟩
  ·cases h4
  ·rcases h4 with h4|h4|⟨_,_,_,_,_,_,_,h4,_⟩|⟨_,_,_,_,_,_,h4,_⟩
   ·cases h4
   ·cases h4;rfl
   ·cases h4
   ·cases h4
 subst hb2;have hu:=zpK (l:=keyS s1 k1 m1 d1 1 0 r) rfl hc;have hu:us1=keyC s1 k1 m1 d1 1 0 r:=hu;subst hu;have hL:L'=[.blk b2 (keyC s1 k1 m1 d1 1 0 r) 117]:=by
  have h3:L'.length=1:=R2.lL
  match L',h3,h1 with
  |[_],_,h1=>cases h1;rfl
 subst hL;have hw2:w'.heap[b2]? = some (.cells (keyC s1 k1 m1 d1 1 0 r).toArray 117 (0,0)):=R2.hs.own 0 _ rfl;obtain⟨S'',hle,hb3,H⟩:=HS.fix R2.hs (k:=0) rfl (b:=b2) (o:=vm (encF kyT (s1,k1,m1,d1)) (encF memT (memV 0 q0)) (encF memT (memV 1 r)) 117) rfl (yqK rfl (.inr hw2));have hV:V' 0=encW ptT r:=zpX rfl (R2.sl 0)
 have hSS:Mem.le S S'':=fun b' o' h'=>by
  by_cases hne:b'=b2
  ·subst hne;rw[hb3];rw[hb]at h';exact h'
  ·exact hle _ _ (hS _ _ ((zyX (fun e=>hne (osi e).symm)).trans h'))
 refine⟨v,hv,S'',[],[],⟨[(0,svOf ptT r)],[]⟩,V',fun k=>rfl,hSS,Pin.refl _ _,⟨⟨⟨H.fr.os,H.fr.tape,H.fr.output,H.fr.size,fun k hk hx=>H.fr.block k hk fun h3=>hx (by cases aW.1 h3;exact hX)⟩,H.sub,fun b' hb' hx=>?_,H.own,fun k r' b' hk=>?_,H.inj⟩,rfl,rfl,fun i o ho=>?_,fun t=>?_⟩,fun i ver e T xs hi=>?_,aJ _,hres⟩
 ·by_cases hne:b'=b2
  ·subst hne;rw[hb3];exact hb.symm
  ·have h3:=H.keep b' hb' fun h3=>absurd (aW.1 h3) hne;exact h3.trans (zyX fun e=>hne (osi e).symm)
 ·cases hk
 ·cases i<;>cases ho
 ·cases t with
  |zero=>rw[hV];exact xdI (t:=ptT) (x:=r) rfl|succ t=>trivial
 ·cases i<;>cases hi
end
section
variable {P:Program}{G:List (Nat×Obj)}
end
section
variable {P:Program}{G:List (Nat×Obj)}
end
def hole:Code->List Bool->Code
 |.seq a b,q::p=>bif q then hole a p else hole b p
 |.cond _ a b,q::p=>bif q then hole a p else hole b p
 |.block _ b,p=>hole b p|.loop b,[]=>b|_,_=>.skip
section
variable {β:Type}{τ:TE}{Γ:CT}{η:HT}{N0 n:Nat}{P:Program}{B:Bas}{S0:Mem}{E0:List EI}{m0:FM}{D:List Nat}
def OnK(N0 n:Nat)(B:Bas)(S0:Mem)(E0:List EI)(m0:FM)(D:List Nat){β:Type}(k:Ex->St->Option β)(r:β)(Q:Exit->Act->World->Prop):Prop:=
 ∀e σ S E L m w,k e σ=some r->Mem.le S0 S->Pin N0 E0 E->Agr D m0 m->Rel n B S E L σ m w->Q (exQ e) (fr n m) w
theorem OnK.blk{k:Ex->St->Option β}{r:β}{Q:Exit->Act->World->Prop}{id:Nat}(h:OnK N0 n B S0 E0 m0 D k r Q):OnK N0 n B S0 E0 m0 D (blk id k) r (Exit.inBlock id Q):=fun e σ S E L m w hk hS hP hA R=>by
 cases e with
 |normal=>exact h .normal _ _ _ _ _ _ hk hS hP hA R|ret=>exact h .ret _ _ _ _ _ _ hk hS hP hA R|exit i=>
  simp only[Am.blk]at hk;cases hb:aG i id with
  |true=>rw[hb]at hk;have:=aB hb;subst this;exact zgE (h .normal _ _ _ _ _ _ hk hS hP hA R)|false=>rw[hb]at hk;exact ypJ hb (h (.exit i) _ _ _ _ _ _ hk hS hP hA R)
theorem OnK.nx{k:Ex->St->Option β}{r:β}{Q:Exit->Act->World->Prop}{g:St->Option β}{N:Act->World->Prop}(h:OnK N0 n B S0 E0 m0 D k r Q)(hn:∀σ S E L m w,g σ=some r->Mem.le S0 S->Pin N0 E0 E->Agr D m0 m->Rel n B S E L σ m w->N (fr n m) w):OnK N0 n B S0 E0 m0 D (nx k g) r (Exit.then N Q):=fun e σ S E L m w hk hS hP hA R=>by
 cases e with
 |normal=>exact hn _ _ _ _ _ _ hk hS hP hA R|ret=>exact h .ret _ _ _ _ _ _ hk hS hP hA R|exit i=>exact h (.exit i) _ _ _ _ _ _ hk hS hP hA R
theorem OnK.run(hm:P.follows .mixedOrders=true)(hτ:TEok P τ)(hΓ:CTok P Γ B){k:Ex->St->Option β}{r:β}{Q:Exit->Act->World->Prop}(h:OnK N0 n B S0 E0 m0 D k r Q){c:Code}(hD:∀t,hasN (ziJ c) t=true->hasN D t=true):∀σ S E L m w,run N0 n τ Γ η c σ k=some r->Mem.le S0 S->Pin N0 E0 E->Agr D m0 m->Rel n B S E L σ m w->c.wp P Q (fr n m) w:=fun _σ S E L m w hr hS hP hA R=>
 zoJ hm hτ hΓ c R k r Q hr fun e σ' S' E' L' m' w' h1 h2 h3 h4 R1=>h e σ' S' E' L' m' w' h1 (Mem.le_trans hS h2) (hP.trans h3) (hA.trans (h4.mono hD)) R1
end
def τWkR:TE:=[(9,⟨.s,1,[.v .s (show Bs from [])],.s,16⟩),
 (24,⟨.ar 4 22,4,[.v (.i .u64) (show UInt64 from 0),.v (.i .u64) (show UInt64 from 0),.v (.i .u64) (show UInt64 from 0),.v (.i .u64) (show UInt64 from 0)],(.pr (.i .u64) (.pr (.i .u64) (.pr (.i .u64) (.i .u64)))),32⟩),
 (37,⟨.pt 103,1,[.nilp],.un,8⟩),
 (40,⟨.sl 9,1,[.nils],(.sl .s),24⟩),
 (99,⟨.pt 117,1,[.nilp],kpT,8⟩),
 (101,⟨.sl 99,1,[.nils],(.sl kpT),24⟩),
 (103,⟨.st [(101,0)],1,[.nils],(.pr (.sl kpT) .un),24⟩),
 (117,⟨.st [(9,0),(9,1),(9,2),(24,3),(115,7),(26,10)],19,[.v .s (show Bs from []),.v .s (show Bs from []),.v .s (show Bs from []),.v (.i .u64) (show UInt64 from 0),.v (.i .u64) (show UInt64 from 0),.v (.i .u64) (show UInt64 from 0),.v (.i .u64) (show UInt64 from 0),.v (.i .u32) (show UInt32 from 0),.v (.i .i32) (show Int from 0),.v (.i .u32) (show UInt32 from 0),.v (.i .u64) (show UInt64 from 0),.v (.i .u64) (show UInt64 from 0),.v (.i .u64) (show UInt64 from 0),.v (.i .u64) (show UInt64 from 0),.v (.i .u64) (show UInt64 from 0),.v (.i .u64) (show UInt64 from 0),.v (.i .u64) (show UInt64 from 0),.v (.i .u64) (show UInt64 from 0),.v .b (show Bool from false)],(.pr .s (.pr .s (.pr .s (.pr (.pr (.i .u64) (.pr (.i .u64) (.pr (.i .u64) (.i .u64)))) (.pr (.pr .un (.pr (.pr .un (.i .u32)) (.pr .un (.pr (.i .i32) (.i .u32))))) (.pr (.pr (.i .u64) (.pr (.i .u64) (.pr (.i .u64) (.i .u64)))) (.pr (.pr (.i .u64) (.pr (.i .u64) (.pr (.i .u64) (.i .u64)))) .b))))))),168⟩)]
theorem τ_okWkR:TEok aD τWkR:=ypG (by kernel_rfl) (by kernel_rfl)
theorem zoL:Tryz.prog.follows .mixedOrders=true:=by kernel_rfl
abbrev zjV:OSh:=.blk 103 [(.own 1)]
abbrev yyI:OSh:=.blk 103 [(.own 2)]
abbrev ymQ:OSh:=.blk 103 [(.own 3)]
section
variable {tabs:List (Nat×Obj)}[ycO tabs]
noncomputable def zhG(v0:Bs):Option ((List Kp)):=
 (ybD v0).bind fun v1=>some ([v1]:List Kp)
noncomputable def zpN:SC:=⟨⟨[(0,hS)],[]⟩,1,[(none,⟨[(0,(.ptr 0 0))],[zjV,.osl kpT 99]⟩)],fun x=>zhG x⟩
theorem zxT:SCokX aD tabs true 16 zpN:=wit (G:=tabs)<|zrE (η:=[]) (Γ:=⟨[],[(72,yiN)],false,[(999999998,[])]⟩) zoL τ_okWkR (zwN trivial ⟨yuZ.x,trivial⟩) Tryz.func16 (isFn Tryz.func16) (by kernel_rfl) (by kernel_rfl) (by kernel_rfl)
def zfV(v0:List Kp):Option ((Kp×List Kp)):=
 (chk (decide ((0:Int)<=w64 ((v0.length:Int)-1))&&decide (w64 ((v0.length:Int)-1)<(v0.length:Int)))).bind fun _=>(idx v0 (w64 ((v0.length:Int)-1))).bind fun v1=>some (v1,v0)
def zhQ:SC:=⟨⟨[(0,(.ptr 0 0))],[zjV,.osl kpT 99]⟩,1,[(none,⟨[(0,(.h kpT))],[zjV,.osl kpT 99]⟩)],fun x=>zfV x⟩
theorem zlM:SCokX aD tabs true 76 zhQ:=wit (G:=tabs)<|zrE (η:=[(4000001,.sch (zpu 0 13))]) (Γ:=⟨[],[],false,[(999999998,[])]⟩) zoL τ_okWkR (zwN trivial trivial) Tryz.func76 (isFn Tryz.func76) (by kernel_rfl) (by kernel_rfl) (by kernel_rfl)
def ziO(v0:Bs)(v1:List Kp):Option ((Bs×Bs×List Kp)):=
 (zfV v1).bind fun v2=>(macP v2.1.1.2.2.1 v0).bind fun v3=>some (v2.1.1.2.1,v3,v2.2)
def zoH:SC:=⟨⟨[(0,(.ptr 0 0)),(1,hS)],[zjV,.osl kpT 99]⟩,2,[(none,⟨[(0,hS),(1,hS)],[zjV,.osl kpT 99]⟩)],fun x=>ziO x.1 x.2⟩
theorem zvM:SCokX aD tabs true 19 zoH:=wit (G:=tabs)<|zrE (η:=[(4000002,.sch (zpu 0 9++[(.mn,9,[]),(.pu,10,[]),(.pu,11,[])]))]) (Γ:=⟨[(46,znP)],[(76,zhQ)],false,[(999999998,[])]⟩) zoL τ_okWkR (zwN ⟨zrL,trivial⟩ ⟨zlM,trivial⟩) Tryz.func19 (isFn Tryz.func19) (by kernel_rfl) (by kernel_rfl) (by kernel_rfl)
noncomputable def zfN(v0:Bs)(v1:List Kp):Option ((Bs×Bs×Int×List Kp)):=
 (zfV v1).bind fun v2=>(yzR v2.1.1.2.2.2 v0).bind fun v3=>bif(v3.2 != 0)then some (([]:Bs),([]:Bs),v3.2,v2.2)else some (v2.1.1.2.1,v3.1,(0:Int),v2.2)
noncomputable def znF:SC:=⟨⟨[(0,(.ptr 0 0)),(1,hS)],[zjV,.osl kpT 99]⟩,3,[(none,⟨[(0,hS),(1,hS),(2,hI)],[zjV,.osl kpT 99]⟩)],fun x=>zfN x.1 x.2⟩
theorem ztY:SCokX aD tabs true 29 znF:=wit (G:=tabs)<|zrE (η:=[]) (Γ:=⟨[(12,zvA)],[(76,zhQ)],false,[(999999998,[])]⟩) zoL τ_okWkR (zwN ⟨yeE,trivial⟩ ⟨zlM,trivial⟩) Tryz.func29 (isFn Tryz.func29) (by kernel_rfl) (by kernel_rfl) (by kernel_rfl)
def zcI(v0:Bs)(v1:List Kp)(v2:Int)(v3:List Kp):Option ((Int×List Kp)⊕((Kp×List Kp)⊕(List Kp))):=
 bif decide (v2<(v1.length:Int))then((chk (decide ((0:Int)<=v2)&&decide (v2<(v3.length:Int)))).bind fun _=>(idx v3 v2).bind fun v4=>bif(v4.1.2.1==v0)then some (.inr (.inl (v4,v3)))else some (.inl (w64 (v2+1),v3)))else some (.inr (.inr v3))
def zeG(v0:Bs)(v1:List Kp):Option ((Kp×List Kp)⊕(List Kp)):=
 (iter (fun x=>zcI v0 v1 x.1 x.2) ((0:Int),v1)).bind fun v5=>match v5 with
 |.inl v6=>some (.inl v6)|.inr v7=>some (.inr v7)
def zgT:SC:=⟨⟨[(0,(.ptr 0 0)),(1,hS)],[zjV,.osl kpT 99]⟩,1,[(none,⟨[(0,(.h kpT))],[zjV,.osl kpT 99]⟩),(none,⟨[(0,.nilp)],[zjV,.osl kpT 99]⟩)],fun x=>zeG x.1 x.2⟩
theorem zjD:SCokX aD tabs true 73 zgT:=wit (G:=tabs)<|zrE (η:=[(200002,.loop [] ⟨[(10,(.own 1)),(12,hI)],[zjV,.osl kpT 99]⟩ [1,11] [(some 1000000,⟨[(4,(.h kpT))],[zjV,.osl kpT 99]⟩),(some 0,⟨[],[zjV,.osl kpT 99]⟩)])]) (Γ:=⟨[],[],false,[(999999998,[])]⟩) zoL τ_okWkR (zwN trivial trivial) Tryz.func73 (isFn Tryz.func73) (by kernel_rfl) (by kernel_rfl) (by kernel_rfl)
noncomputable def zdO(v0:Bs)(v1:List Kp):Option ((Int×List Kp)⊕(Int×List Kp)):=
 (ybD v0).bind fun v2=>(zeG v2.1.2.1 v1).bind fun v3=>match v3 with
 |.inl v4=>some (.inl ((80:Int),v4.2))|.inr v5=>(bif((v5.length:Int)==8)then some (.inl ((82:Int),v5))else((app v5 ([v2]:List Kp)).bind fun v6=>some (.inr ((0:Int),v6))))
noncomputable def zmY:SC:=⟨⟨[(0,(.ptr 0 0)),(1,hS)],[zjV,.osl kpT 99]⟩,1,[(none,⟨[(0,hI)],[zjV,.osl kpT 99]⟩),(none,⟨[(0,hI)],[yyI,.dead,.osl kpT 99]⟩)],fun x=>zdO x.1 x.2⟩
theorem ztX:SCokX aD tabs true 17 zmY:=wit (G:=tabs)<|zrE (η:=[]) (Γ:=⟨[],[(72,yiN),(73,zgT)],false,[(999999998,[])]⟩) zoL τ_okWkR (zwN trivial ⟨yuZ.x,⟨zjD,trivial⟩⟩) Tryz.func17 (isFn Tryz.func17) (by kernel_rfl) (by kernel_rfl) (by kernel_rfl)
def yyA:SC:=⟨⟨[(0,(.h (.sl kpT)))],[]⟩,1,[(none,⟨[(0,(.own 0))],[.osl kpT 99]⟩)],fun xs=>app [] xs⟩
theorem yyX:SCok aD tabs 80 yyA:=wit (G:=tabs)<|yxL zoL τ_okWkR Tryz.func80 (isFn Tryz.func80) rfl (by kernel_rfl) (by kernel_rfl) (by kernel_rfl) (fun _=>by kernel_rfl)
def yfQ:SC:=⟨⟨[(0,(.own 0))],[.osl kpT 99]⟩,1,[(none,⟨[(0,(.own 1))],[.osl kpT 99,.osl kpT 99]⟩)],fun(xs:List Kp)=>(app [] xs).bind fun r=>some (xs,r)⟩
theorem ytM:SCok aD tabs 80 yfQ:=wit (G:=tabs)<|ynA rfl rfl yyX
def zgV(v0:List Kp):Option (((List Kp)×List Kp)):=
 ((fun(xs:List Kp)=>(app ([]:List Kp) xs).bind fun r=>some (xs,r)) v0).bind fun v1=>some v1
def zlZ:SC:=⟨⟨[(0,(.ptr 0 0))],[zjV,.osl kpT 99]⟩,1,[(none,⟨[(0,(.ptr 2 0))],[zjV,.osl kpT 99,ymQ,.osl kpT 99]⟩)],fun x=>zgV x⟩
theorem ztF:SCokX aD tabs true 23 zlZ:=wit (G:=tabs)<|zrE (η:=[]) (Γ:=⟨[],[(80,yfQ)],false,[(999999998,[])]⟩) zoL τ_okWkR (zwN trivial ⟨ytM.x,trivial⟩) Tryz.func23 (isFn Tryz.func23) (by kernel_rfl) (by kernel_rfl) (by kernel_rfl)
def zcH(v0:List Kp)(v1:Int)(v2:List Kp)(v3:List Bs):Option ((Int×(List Kp)×List Bs)⊕(((List Kp)×List Bs))):=
 bif decide (v1<(v0.length:Int))then((chk (decide ((0:Int)<=v1)&&decide (v1<(v2.length:Int)))).bind fun _=>(idx v2 v1).bind fun v4=>(app v3 ([v4.1.2.1]:List Bs)).bind fun v5=>some (.inl (w64 (v1+1),v2,v5)))else some (.inr (v2,v3))
def zeF(v0:List Kp):Option (((List Kp)×List Bs)):=
 (iter (fun x=>zcH v0 x.1 x.2.1 x.2.2) ((0:Int),v0,([]:List Bs))).bind fun v6=>some v6
def znE:SC:=⟨⟨[(0,(.ptr 0 0))],[zjV,.osl kpT 99]⟩,1,[(none,⟨[(0,(.own 2))],[zjV,.osl kpT 99,.osl .s 9]⟩)],fun x=>zeF x⟩
theorem zuI:SCokX aD tabs true 26 znE:=wit (G:=tabs)<|zrE (η:=[(200003,.loop [.sl 3 .s 9] ⟨[(3,(.own 2)),(9,(.own 1)),(11,hI)],[zjV,.osl kpT 99,.osl .s 9]⟩ [2,10] [(some 0,⟨[(3,(.own 2))],[zjV,.osl kpT 99,.osl .s 9]⟩)])]) (Γ:=⟨[],[],false,[(999999998,[])]⟩) zoL τ_okWkR (zwN trivial trivial) Tryz.func26 (isFn Tryz.func26) (by kernel_rfl) (by kernel_rfl) (by kernel_rfl)
def zdU(v0:Bs)(v1:Bs)(v2:Bs)(v3:List Kp):Option ((Bool×List Kp)):=
 (zeG v0 v3).bind fun v4=>match v4 with
 |.inl v5=>((macP v5.1.1.2.2.1 v1).bind fun v7=>(yzD v7 v2).bind fun v8=>some (v8,v5.2))|.inr v6=>some (false,v6)
def zlT:SC:=⟨⟨[(0,(.ptr 0 0)),(1,hS),(2,hS),(3,hS)],[zjV,.osl kpT 99]⟩,1,[(none,⟨[(0,hB)],[zjV,.osl kpT 99]⟩)],fun x=>zdU x.1 x.2.1 x.2.2.1 x.2.2.2⟩
theorem ztM:SCokX aD tabs true 21 zlT:=wit (G:=tabs)<|zrE (η:=[]) (Γ:=⟨[(46,znP),(79,zuY)],[(73,zgT)],false,[(999999998,[])]⟩) zoL τ_okWkR (zwN ⟨zrL,⟨ydI,trivial⟩⟩ ⟨zjD,trivial⟩) Tryz.func21 (isFn Tryz.func21) (by kernel_rfl) (by kernel_rfl) (by kernel_rfl)
noncomputable def zdL(v0:Bs)(v1:Bs)(v2:Bs)(v3:List Kp):Option ((Bool×List Kp)):=
 (zeG v0 v3).bind fun v4=>match v4 with
 |.inl v5=>((zxO v5.1).bind fun v7=>(ydG v7 v1 v2).bind fun v8=>some (v8,v5.2))|.inr v6=>some (false,v6)
noncomputable def zkV:SC:=⟨⟨[(0,(.ptr 0 0)),(1,hS),(2,hS),(3,hS)],[zjV,.osl kpT 99]⟩,1,[(none,⟨[(0,hB)],[zjV,.osl kpT 99]⟩)],fun x=>zdL x.1 x.2.1 x.2.2.1 x.2.2.2⟩
theorem zrX:SCokX aD tabs true 33 zkV:=wit (G:=tabs)<|zrE (η:=[]) (Γ:=⟨[(14,zrD)],[(73,zgT),(82,yiS)],false,[(999999998,[])]⟩) zoL τ_okWkR (zwN ⟨zzF,trivial⟩ ⟨zjD,⟨yyJ,trivial⟩⟩) Tryz.func33 (isFn Tryz.func33) (by kernel_rfl) (by kernel_rfl) (by kernel_rfl)
noncomputable def zkT(v3:(List Kp))(v4:(List Kp)):Option (Bool⊕((List Kp)×List Kp)):=
 (some true).bind fun v5=>bif(!v5)then some (.inl false)else some (.inr (v3,v4))
noncomputable def zfG(v2:List Bs)(v11:Int)(v12:List Kp)(v13:List Kp):Option ((Int×(List Kp)×List Kp)⊕(Bool⊕((List Kp)×List Kp))):=
 bif decide (v11<(v2.length:Int))then((idx v2 v11).bind fun v14=>(idx v2 v11).bind fun v15=>(zdO v14 v12).bind fun v16=>match v16 with
 |.inl v17=>((zdO v15 v13).bind fun v19=>match v19 with
 |.inl v20=>(bif(v17.1 != v20.1)then some (.inr (.inl false))else some (.inl (w64 (v11+1),v17.2,v20.2)))|.inr v21=>(bif(v17.1 != v21.1)then some (.inr (.inl false))else some (.inl (w64 (v11+1),v17.2,v21.2))))
 |.inr v18=>((zdO v15 v13).bind fun v22=>match v22 with
 |.inl v23=>(bif(v18.1 != v23.1)then some (.inr (.inl false))else some (.inl (w64 (v11+1),v18.2,v23.2)))|.inr v24=>(bif(v18.1 != v24.1)then some (.inr (.inl false))else some (.inl (w64 (v11+1),v18.2,v24.2)))))else some (.inr (.inr (v12,v13)))
noncomputable def zhS(v9:(Bs×Bs×List Kp))(v27:(List Kp)×List Kp)(v28:((List Kp)×List Kp)):Option (Bool⊕((List Kp)×(List Kp)×List Kp)):=
 (zeF v28.1).bind fun v29=>bif decide ((v29.2.length:Int)>8)then some (.inl false)else((zeF v29.1).bind fun v30=>bif decide ((v30.2.length:Int)<1)then some (.inl false)else((zeF v30.1).bind fun v31=>(chk (decide ((0:Int)<=0)&&decide ((0:Int)<(v31.2.length:Int)))).bind fun _=>(idx v31.2 (0:Int)).bind fun v32=>bif(v32 != v9.1)then some (.inl false)else some (.inr (v31.1,v27.2,v28.2))))
noncomputable def zhL(v1:Bs)(v9:(Bs×Bs×List Kp))(v35:(List Kp)×(List Kp)×List Kp):Option (Bool⊕((List Kp)×(List Kp)×List Kp)):=
 (zdU v9.1 v1 v9.2.1 v35.1).bind fun v36=>bif(!v36.1)then some (.inl false)else((zdU v9.1 v1 v9.2.1 v35.2.2).bind fun v37=>bif(!v37.1)then some (.inl false)else((zdU v9.1 v1 v9.2.1 v35.2.1).bind fun v38=>bif(!v38.1)then some (.inl false)else some (.inr (v36.2,v38.2,v37.2))))
noncomputable def ziP(v0:Bs)(v1:Bs)(v2:List Bs):Option (Bool):=
 (zhG v0).bind fun v3=>(zhG v0).bind fun v4=>(zkT v3 v4).bind fun v6=>match v6 with
 |.inl v7=>(some v7)|.inr v8=>((ziO v1 v8.1).bind fun v9=>(zfN v1 v9.2.2).bind fun v10=>(iter (fun x=>zfG v2 x.1 x.2.1 x.2.2) ((0:Int),v10.2.2.2,v8.2)).bind fun v25=>match v25 with
 |.inl v26=>(some v26)|.inr v27=>((zgV v27.1).bind fun v28=>(zhS v9 v27 v28).bind fun v33=>match v33 with
 |.inl v34=>(some v34)|.inr v35=>((zhL v1 v9 v35).bind fun v39=>match v39 with
 |.inl v40=>(some v40)|.inr v41=>(bif(v10.2.2.1 != 0)then(bif(v10.1==([]:Bs))then(some (v10.2.1==([]:Bs)))else(some false))else(bif(v10.1==v9.1)then((zdL v10.1 v1 v10.2.1 v41.1).bind fun v42=>bif v42.1 then((zdL v10.1 v1 v10.2.1 v41.2.2).bind fun v43=>bif v43.1 then((zdL v10.1 v1 v10.2.1 v41.2.1).bind fun v44=>some v44.1)else(some false))else(some false))else(some false))))))
noncomputable def zrY:PC:=⟨[hS,hS,(.h (.sl .s))],[.b],fun x=>ziP x.1 x.2.1 x.2.2,false⟩
theorem yiA:PCok aD tabs 8 zrY:=wit (G:=tabs)<|fn_pcM (η:=[(2000004,.join [] [1,2] [(some 1000000,⟨[(6,hB)],[]⟩),(none,⟨[(7,(.ptr 0 0)),(8,(.ptr 1 0))],[yyI,ymQ,.osl kpT 99,.osl kpT 99]⟩)]),
 (200007,.loop [] ⟨[(7,(.ptr 0 0)),(8,(.ptr 1 0)),(14,hI)],[yyI,ymQ,.osl kpT 99,.osl kpT 99]⟩ [1,2,9,10,11,12,13] [(some 1000000,⟨[(6,hB)],[]⟩),(some 0,⟨[(7,(.ptr 0 0)),(8,(.ptr 1 0))],[yyI,ymQ,.osl kpT 99,.osl kpT 99]⟩)]),
 (2000014,.join [] [1,9,10,11,12,13] [(some 1000000,⟨[(6,hB)],[]⟩),(none,⟨[(7,(.ptr 0 0)),(8,(.ptr 1 0)),(15,(.ptr 2 0))],[ymQ,.blk 103 [(.own 4)],.blk 103 [(.own 5)],.osl kpT 99,.osl kpT 99,.osl kpT 99]⟩)]),
 (2000016,.join [] [1,9,11,12,13] [(some 1000000,⟨[(6,hB)],[]⟩),(none,⟨[(7,(.ptr 0 0)),(8,(.ptr 1 0)),(15,(.ptr 2 0))],[ymQ,.blk 103 [(.own 4)],.blk 103 [(.own 5)],.osl kpT 99,.osl kpT 99,.osl kpT 99]⟩)]),
 (4000009,.sch (zpu 0 5++[(.pu,6,[0,2]),(.pu,7,[0,2]),(.pu,8,[0,2]),(.pu,9,[0,2]),(.pu,10,[0,2]),(.mn,5,[0,2]),(.mn,11,[1,3]),(.pu,12,[])]))]) (Γ:=⟨[(11,yiU)],[(16,zpN),(19,zoH),(29,znF),(17,zmY),(23,zlZ),(26,znE),(21,zlT),(33,zkV)],false,[(999999998,[])]⟩) zoL τ_okWkR (zwN ⟨yxH,trivial⟩ ⟨zxT,⟨zvM,⟨ztY,⟨ztX,⟨ztF,⟨zuI,⟨ztM,⟨zrX,trivial⟩⟩⟩⟩⟩⟩⟩⟩) (ycO.ok (G:=tabs)) (fun _=>rfl) Tryz.func8 (isFn Tryz.func8) (by kernel_rfl) rfl (by kernel_rfl)
end
end Go.Proofs.YtmbcolbbekbccaaGreat.Am
namespace Go.Proofs.YtmbcolbbekbccaaGreat
open Go Go.RowKit
section
open Go Go.RowKit Go.ChangeShapes Go.WideShapes Go.ChangeAt
section
variable {H:Type}{enc:TypeId×Value->H}{P:Program}{W W':World}
theorem zwO(hl:laidOutB P=true)(hx:Below W.heap.size W W'):∀{ts:List TypeId} {vs:LV} {ds:List (DataW H)} {ps:List MemPlace},ts.all (fun t=>P.readableRec t&&decide (t<P.types.size))=true ->
  DataW.TrodAll enc P W 0 (fun _=>true) true ts vs ds ps->(∀x∈ps,x.block<W.heap.size)->DataW.TrodAll enc P W' 0 (fun b=>decide (b<W.heap.size)) true ts vs ds ps
 |[],vs,ds,ps,_,h,_=>by obtain⟨rfl,rfl,rfl⟩:=trodAll_nil h;exact trodAll_mk0
 |t::ts,vs,ds,ps,ha,h,hlt=>by
  obtain⟨v,vs',d,ds',p,q,rfl,rfl,rfl,h0,hr⟩:=trodAll_cons h;simp only[List.all_cons,aK,zD]at ha
  exact trodAll_cons_mk (Below.trod hl ha.1.1 ha.1.2 h0 hx fun x hx=>hlt x (cI.2 (.inl hx)))
   (zwO hl hx ha.2 hr fun x hx=>hlt x (cI.2 (.inr hx)))
theorem trodAll_length:∀{ts:List TypeId} {vs:LV} {ds:List (DataW H)} {ps:List MemPlace} {w:World} {b:Nat} {sp:Nat->Bool} {hd:Bool},DataW.TrodAll enc P w b sp hd ts vs ds ps->vs.length=ts.length/\ds.length=ts.length
 |[],vs,ds,ps,_,_,_,_,h=>by obtain⟨rfl,rfl,rfl⟩:=trodAll_nil h;exact⟨rfl,rfl⟩
 |t::ts,vs,ds,ps,_,_,_,_,h=>by obtain⟨v,vs',d,ds',p,q,rfl,rfl,rfl,h0,hr⟩:=trodAll_cons h;have:=trodAll_length hr;simp[this.1,this.2]
theorem yzM{f:Func}{s:ChangeSpec}{args:Array Value}{ds gs:List (DataW H)}{before:List MemPlace}{B:TypeId}{n:Nat}(hl:laidOutB P=true)(hv:s.vars=[]) (hp:f.params.toList.all (fun t=>P.readableRec t&&decide (t<P.types.size))=true) (hn:f.params.toList.length=n) (hB:P.underlying B=some .bool) (hr:f.resultTypes = #[B]) (hfn:∀ds:List (DataW H),ds.length=n->(s.fn H (ds++[])).results=[.lit (.bool true)]/\(s.fn H (ds++[])).args=ds/\(s.fn H (ds++[])).vars=[]) (hW:DataW.Whole enc P f.params.toList s.vars false W args.toList ds gs before) (hx:Ext W W'):s.post enc P f false true false false W args (.bool true) W':=by
 have hW':=hW;obtain⟨p,q,hA,hV,rfl,_,_⟩:=hW;rw[hv]at hV;obtain⟨rfl,rfl⟩:=trodVars_none hV;have hA:DataW.TrodAll enc P W 0 (fun _=>true) true f.params.toList args.toList ds p:=hA;have hlen:=trodAll_length hA;obtain⟨f1,f2,f3⟩:=hfn ds (hlen.2.trans hn);refine⟨ds,[],p++[],[],p,[],hW',?_,?_,?_,Below.frame hx _,fun h=>by cases h⟩
 ·rw[f1,hr];exact trodAll_mk1 (shut_bool hB _)
 ·rw[f2];exact zwO hl hx hp hA fun x hxp=>by simpa using hW'.lt x (by simp[hxp])
 ·rw[f3,hv];exact rfl
variable {b0:Nat}{T E:TypeId}{v:Value}
theorem ywU{fits:TypeId->Bool}:∀{d:Nat} {e:TypeId} {count off n:Nat},rowAt P fits d e count off n=true->off<=count*P.cellsOf e
 |0,_,_,_,_,h=>by simp[rowAt]at h
 |d+1,e,count,off,n,h=>by
  unfold rowAt at h;by_cases hs:P.cellsOf e=0
  ·simp[hs]at h
  ·have hd:=Nat.div_add_mod off (P.cellsOf e);have hm:=aZ off (cN hs);simp only[hs,if_false,cJ,aK,zD,beq_iff_eq]at h;rcases h with⟨⟨h1,h2⟩,_⟩|⟨h1,_⟩
   ·have h3:P.cellsOf e*(off/P.cellsOf e)<=P.cellsOf e*count:=gZ _ (by omega);rw[cA count];omega
   ·have h3:P.cellsOf e*(off/P.cellsOf e+1)<=P.cellsOf e*count:=gZ _ (by omega);rw[Nat.mul_add,Nat.mul_one]at h3;rw[cA count];omega
theorem ydR:∀{d:Nat} {e:TypeId} {count off:Nat} {u:TypeId} {n:Nat},liesAt P d e count off u n=true->off<=count*P.cellsOf e
 |0,_,_,_,_,_,h=>by simp[liesAt]at h
 |d+1,e,count,off,u,n,h=>by
  unfold liesAt at h;rw[cJ]at h;rcases h with h|h
  ·exact ywU h
  ·split at h
   ·exact ydR h
   ·cases h
theorem yzK{a:Addr}{len cap:Nat}(hu:P.underlying T=some (.slice E))(h:Value.okWide P W .any b0 T (.slice (some a) len cap)):
  a.spot=none/\∃cs R fz,W.heap[a.block]? = some (.cells cs R fz)/\a.off<=cs.size:=by
 simp only[Value.okWide,Cell.okWide,Cell.ok,hu]at h;obtain⟨_,_,_,h2,row,cells,h3,h4⟩:=h;refine⟨h2,?_⟩;unfold World.shape? at h3;split at h3
 ·rename_i c elem fz hb;simp only[Option.some.injEq,Prod.mk.injEq]at h3;obtain⟨rfl,rfl⟩:=h3;have h5:=ydR h4;have h6:=Nat.div_mul_le_self c.size (P.cellsOf elem);exact⟨c,_,fz,hb,by omega⟩
 ·cases h3
theorem ok_slice(hu:P.underlying T=some (.slice E))(h:Value.okWide P W .any b0 T v):v = .slice none 0 0∨∃a len cap,v = .slice (some a) len cap:=by
 simp only[Value.okWide,Cell.okWide,Cell.ok,hu]at h;cases v with
 |slice a len cap=>
  cases a with
  |none=>
   left;cases len with
   |zero=>cases cap with
    |zero=>rfl|succ n=>simp at h
   |succ n=>simp at h
  |some a=>exact .inr ⟨a,len,cap,rfl⟩
 |_=>simp at h
theorem ykC{l r:List (DataW H)}:Rows.uptoBulkAll (l++r)=Rows.uptoBulkAll l+Rows.uptoBulkAll r:=by
 induction l with
 |nil=>simp[Rows.uptoBulkAll]|cons x l ih=>simp only[bN,Rows.uptoBulkAll,ih];omega
end
end
end Go.Proofs.YtmbcolbbekbccaaGreat
namespace Go.Proofs.YtmbcolbbekbccaaGreat.Am
open Go Go.RowKit Go.ChangeShapes Go.WideShapes Go.ChangeAt
def dsz:(t:Ty)->den t->Nat
 |.s,x=>eT x+1|.pr a c,x=>dsz a x.1+dsz c x.2|.un,_=>0|.sl e,x=>(gM (dsz e) x).sum+1|_,_=>1
def fOk(q:TypeId->Ty->Bool)(c:TypeId->Nat):List Field->Nat->Ty->Bool
 |[],_,t=>match t with
  |.un=>true|_=>false
 |[f],off,t=>(q f.type t&&(aG f.offset off&&aG (c f.type) (tsz t)))||(match t with
  |.pr a .un=>q f.type a&&(aG f.offset off&&aG (c f.type) (tsz a))|_=>false)
 |f::g::fs,off,t=>match t with
  |.pr a r=>(q f.type a&&(aG f.offset off&&aG (c f.type) (tsz a)))&&fOk q c (g::fs) (off+tsz a) r|_=>false
def tyOk(P:Program):Nat->TypeId->Ty->Bool
 |0,_,_=>false|n+1,T,t=>match P.underlying T,t with
  |some (.int k),.i k'=>(ikEq k k').isSome|some .bool,.b=>true|some .string,.s=>true|some (.slice E),.sl e=>tyOk P n E e&&(aG (P.cellsOf E) (tsz e)&&Nat.blt 0 (tsz e))|some (.struct fs),t=>(aG (P.cellsOf T) (tsz t) && !(one t))&&fOk (tyOk P n) P.cellsOf fs.toList 0 t|_,_=>false
section
variable {H:Type}{enc:TypeId×Value->H}{P:Program}{W:World}{sp:Nat->Bool}{S:Mem}
theorem toI_wf:∀{k:IntKind} {n:Int},(Lit.int k n).wf=true->toI k (ofI k n)=n:=fun {k n} h=>by rw[yvE];cases k<;>simp[Lit.wf,IntKind.min,IntKind.max,IntKind.signed,IntKind.bits]at h<;>simp[IntKind.wrap,IntKind.signed,IntKind.bits]<;>omega
theorem ygH{a c:Ty}{cs:LV}{x:den a}{y:den c}(hx:rep a S (cs.take (tsz a)) x)(hy:rep c S (cs.drop (tsz a)) y):rep (.pr a c) S cs (x,y):=
 ⟨_,_,(List.take_append_drop (tsz a) cs).symm,hx,hy⟩
theorem xaT:rep .un S ([]:LV) ():=rfl
theorem yfS{q:TypeId->Ty->Bool}{fuel:Nat}(hq:∀(T:TypeId) (t:Ty),q T t=true->∀cs d ps,DataW.trod enc P W 0 sp true fuel T cs=some (d,ps)->∃x:den t,rep t S cs x/\dsz t x<=Rows.uptoBulk d){cs:LV}:∀(fs:List Field) (off:Nat) (t:Ty) (xs:List (DataW H×List MemPlace)),fOk q P.cellsOf fs off t=true->cs.length=off+tsz t ->
   A2 (fun(f:Field) y=>DataW.trod enc P W 0 sp true fuel f.type ((cs.drop f.offset).take (P.cellsOf f.type))=some y) fs xs ->
   ∃x:den t,rep t S (cs.drop off) x/\dsz t x<=Rows.uptoBulkAll (xs.map (·.1))
 |[],off,t,xs,h,hl,hA=>by
  cases t<;>simp only[fOk]at h<;>try (cases h;done)
  cases hA;refine⟨(),?_,bX _⟩;rw[eR (by rw[hl];exact aJ _)];exact xaT
 |[f],off,t,xs,h,hl,hA=>by
  cases hA with
  | @cons _ y _ _ h1 h2=>
   cases h2;simp only[fOk,cJ]at h;rcases h with h|h
   ·rw[aK,aK]at h;obtain⟨h0,h2,h3⟩:=h;have h2:=aB h2;have h3:=aB h3;obtain⟨x,hx,hd⟩:=hq _ _ h0 _ _ _ h1;refine⟨x,?_,by simp only[bS,fI,Rows.uptoBulkAll];omega⟩;rw[h2,h3,dJ (by rw[bO];omega)]at hx;exact hx
   ·cases t with
    |pr a c=>
     cases c with
     |un=>rw[aK,aK]at h;obtain⟨h0,h2,h3⟩:=h;have h2:=aB h2;have h3:=aB h3;obtain⟨x,hx,hd⟩:=hq _ _ h0 _ _ _ h1;rw[h2,h3]at hx;have hl:cs.length=off+tsz a:=hl;refine⟨(x,()),ygH hx ?_,by simp only[bS,fI,Rows.uptoBulkAll];show dsz a x+0<=_;omega⟩;rw[eR (by rw[bO];omega)];exact xaT
     |_=>simp at h
    |_=>simp at h
 |f::g::fs,off,t,xs,h,hl,hA=>by
  cases t with
  |pr a r=>
   simp only[fOk]at h;rw[aK,aK,aK]at h;obtain⟨⟨h1,h2,h3⟩,h4⟩:=h;have h2:=aB h2;have h3:=aB h3;have hl:cs.length=off+(tsz a+tsz r):=hl;cases hA with
   | @cons _ y _ ys g1 g2=>obtain⟨x,hx,hd⟩:=hq _ _ h1 _ _ _ g1;obtain⟨z,hz,he⟩:=yfS hq (g::fs) (off+tsz a) r ys h4 (by omega) g2;rw[h2,h3]at hx;refine⟨(x,z),ygH hx (by rw[eC];exact hz),?_⟩;simp only[bS,Rows.uptoBulkAll];show dsz a x+dsz r z<=_;omega
  |_=>simp[fOk]at h
theorem xcA{α β:Type}{R:α->β->Prop}:∀{l:List α} {m:List β},l.length=m.length->(∀(i:Nat) (a:α) (b:β),l[i]? = some a->m[i]? = some b->R a b)->A2 R l m
 |[],[],_,_=>.nil|[],_::_,h,_=>by cases h
 |_::_,[],h,_=>by cases h
 |a::l,b::m,h,hR=>.cons (hR 0 a b rfl rfl) (xcA (by simpa using h) fun i a b ha hb=>hR (i+1) a b (by simpa using ha) (by simpa using hb))
theorem yvT{e:Ty}:∀{xs:List (den e)} {cs ds:LV} {x:den e},@RL (den e) (rpD e) S cs xs->rep e S ds x->@RL (den e) (rpD e) S (cs++ds) (xs++[x])
 |[],cs,ds,x,h,hx=>by have h:cs=[]:=h;subst h;exact⟨ds,[],by simp,hx,rfl⟩
 |y::xs,cs,ds,x,h,hx=>by obtain⟨c,d,rfl,h1,h2⟩:=h;exact⟨c,d++ds,by simp,h1,yvT h2 hx⟩
theorem zzE{T E:TypeId}{e:Ty}{fuel:Nat}(hu:P.underlying T=some (.slice E))(hc:P.cellsOf E=tsz e)(hz:0<tsz e)(hq:∀(m:Nat) (cs:LV) (d:DataW H) (ps:List MemPlace),DataW.trod enc P W 0 (fun _=>true) true m E cs=some (d,ps)->∃x:den e,rep e (zsI W) cs x/\dsz e x<=Rows.uptoBulk d){cs:LV}{d:DataW H}{ps:List MemPlace}(hd:DataW.trod enc P W 0 (fun _=>true) true fuel T cs=some (d,ps)):∃xs:List (den e),rep (.sl e) (zsI W) cs xs/\dsz (.sl e) xs<=Rows.uptoBulk d:=by
 rcases DataW.trod_slice hu hd with⟨rfl,h2⟩|⟨a,len,cap,elems,rest,m,rfl,rfl,h2,_,hlc,_,hel,hget,hrest,_⟩
 ·cases h2;exact⟨[],⟨_,rfl,[],.inl ⟨⟨none,rfl⟩,rfl,rfl⟩,rfl⟩,aJ _⟩
 ·cases h2;by_cases hcap:cap=0
  ·subst hcap;obtain rfl:len=0:=by omega
   refine⟨[],⟨_,rfl,[],.inl ⟨⟨some a,rfl⟩,rfl,rfl⟩,rfl⟩,?_⟩;show 0+1<=_;simp only[Rows.uptoBulk];omega
  have h0:∃us,W.cells? 0 a (P.cellsOf E)=some us:=by
   by_cases hl0:len=0
   ·subst hl0;obtain⟨g1,g2⟩:=hrest rfl;have g3:=g2 0 (by omega);rw[aI (by omega:0<rest.length)]at g3;obtain⟨us,hus,_⟩:=fJ.1 g3;rw[show a.add ((0+0)*P.cellsOf E)=a by simp[Addr.add]]at hus;exact⟨us,hus⟩
   ·have g3:=hget 0 (by omega);rw[aI (by omega:0<elems.length)]at g3;obtain⟨us,hus,_⟩:=fJ.1 g3;rw[show a.add (0*P.cellsOf E)=a by simp[Addr.add]]at hus;exact⟨us,hus⟩
  obtain⟨us,hus⟩:=h0;obtain⟨_,hul,huc⟩:=World.cells?_some hus;have hc0:=huc 0 (by omega);rw[show a.add 0=a by simp[Addr.add],aI (by omega:0<us.length)]at hc0;obtain⟨blk,off,spot⟩:=a;obtain⟨cs,R,fz,hb,hsp,ho⟩:∃cs R fz,W.heap[blk]? = some (.cells cs R fz)/\spot=none/\off<=cs.size:=by
   unfold World.cell? at hc0
   dsimp only at hc0
   split at hc0
   ·rename_i c R fz hb;cases spot with
    |some s=>simp at hc0|none=>rw[zG (by simp)]at hc0;have:=(Array.getElem?_eq_some_iff.1 hc0).1;exact⟨c,R,fz,hb,rfl,cW this⟩
   ·cases hc0
  subst hsp;have ad:∀j,(⟨blk,off,none⟩:Addr).add j=⟨blk,off+j,none⟩:=fun j=>by simp[Addr.add]
  have each:∀i,i<len->∃y x,elems[i]? = some y/\rep e (zsI W) (piece cs.toList (off+i*tsz e) (tsz e)) x/\dsz e x<=Rows.uptoBulk y.1/\off+(i+1)*tsz e<=cs.toList.length:=fun i hi=>by
   have hg:=hget i hi;obtain⟨y,hy⟩:∃y,elems[i]? = some y:=⟨_,aI (by omega)⟩;rw[hy]at hg;obtain⟨us,hus,hg⟩:=fJ.1 hg;obtain⟨_,hul,huc⟩:=World.cells?_some hus;obtain⟨x,hx,hdx⟩:=hq m us y.1 y.2 hg;rw[hc,ad]at huc;rw[hc]at hul;have hcell:∀j,j<tsz e->cs.toList[off+i*tsz e+j]? = us[j]?:=fun j hj=>by have:=huc j hj;rw[show(⟨blk,off+i*tsz e,none⟩:Addr).add j=⟨blk,off+i*tsz e+j,none⟩ by simp[Addr.add]]at this;simp only[World.cell?,hb,iI,zG (show ¬(false=true) by decide)]at this;simpa using this
   have hlen:off+(i+1)*tsz e<=cs.toList.length:=by have h1:=hcell (tsz e-1) (by omega);rw[aI (by omega:tsz e-1<us.length)]at h1;have:=(aC.1 h1).1;rw[bD];omega
   refine⟨y,x,hy,?_,hdx,hlen⟩;have:piece cs.toList (off+i*tsz e) (tsz e)=us:=by
    apply aX;intro j;rw[zaL,bK];by_cases hj:j<tsz e
    ·rw[zH hj,bB];exact hcell j hj
    ·rw[zG hj,bT (by omega)]
   rw[this];exact hx
  have key:∀k,k<=len->∃xs:List (den e),xs.length=k/\@RL (den e) (rpD e) (zsI W) (piece cs.toList off (k*tsz e)) xs/\(gM (dsz e) xs).sum<=Rows.uptoBulkAll ((elems.take k).map (·.1)):=by
   intro k;induction k with
   |zero=>intro _;exact⟨[],rfl,by simp[piece,RL],bX _⟩|succ k ih=>
    intro hk;obtain⟨xs,h1,h2,h3⟩:=ih (by omega);obtain⟨y,x,g1,g2,g3,_⟩:=each k (by omega);refine⟨xs++[x],by simp[h1],?_,?_⟩
    ·have e2:piece cs.toList off ((k+1)*tsz e)=piece cs.toList off (k*tsz e)++piece cs.toList (off+k*tsz e) (tsz e):=by rw[zaL,zaL,zaL,bD,cR,List.take_add,eC]
     rw[e2];exact yvT h2 g2
    ·rw[gL,g1];simp only[jF,dP,bS,fI,List.sum_append,iQ,List.sum_nil,ykC,Rows.uptoBulkAll];omega
  obtain⟨xs,h1,h2,h3⟩:=key len (aJ _);have hfit:off+len*tsz e<=cs.toList.length:=by
   rcases gJ len with h0|h0
   ·subst h0;rw[iC];omega
   ·obtain⟨_,_,_,_,_,h4⟩:=each (len-1) (by omega)
    rwa[fM h0]at h4
  refine⟨xs,⟨_,rfl,piece cs.toList off (len*tsz e),?_,h2⟩,?_⟩
  ·right;refine⟨blk,off,cap,cs.toList,R,fz,?_,by rw[h1];exact hlc,ylJ hb rfl,?_,?_⟩
   ·rw[h1]
   ·rw[h1];show _+_*(rpD e).sz<=_;rw[zgX];exact hfit
   ·rw[h1];show piece _ _ (_*(rpD e).sz)=_;rw[zgX]
  ·rw[dJ (by omega)]at h3;show(gM (dsz e) xs).sum+1<=_;simp only[Rows.uptoBulk];omega
theorem yaU:∀(n:Nat) (T:TypeId) (t:Ty),tyOk P n T t=true->∀(fuel:Nat) (cs:LV) (d:DataW H) (ps:List MemPlace),DataW.trod enc P W 0 (fun _=>true) true fuel T cs=some (d,ps)->∃x:den t,rep t (zsI W) cs x/\dsz t x<=Rows.uptoBulk d
 |0,_,_,h,_,_,_,_,_=>by cases h
 |n+1,T,t,h,fuel,cs,d,ps,hd=>by
  unfold tyOk at h;split at h
  ·rename_i k k' hu;obtain⟨hk,_⟩:=Option.isSome_iff_exists.1 h;obtain rfl:=hk.down;obtain⟨m,rfl,he,hw⟩:=DataW.trod_int hu hd;cases he;exact⟨ofI _ m,(by show [Value.int _ m]=[.int _ (toI _ (ofI _ m))];rw[toI_wf hw]),aJ 1⟩
  ·rename_i hu;obtain⟨b,rfl,he⟩:=DataW.trod_bool hu hd;cases he;exact⟨b,rfl,aJ 1⟩
  ·rename_i hu;obtain⟨s,rfl,he,_⟩:=DataW.trod_string hu hd;cases he;exact⟨s.data.toList,(by show [Value.string s]=[str s.data.toList];simp[str]),aJ _⟩
  ·rename_i E e hu;rw[aK,aK]at h;obtain⟨h1,h2,h3⟩:=h;exact zzE hu (aB h2) (by rw[zhR]at h3;simpa using h3) (fun m cs d ps hd=>yaU n E e h1 m cs d ps hd) hd
  ·rename_i fs hu;rw[aK,aK]at h;obtain⟨⟨h1,_⟩,h2⟩:=h;have h1:=aB h1;obtain⟨xs,fuel,rfl,he,hl,hxl,hm⟩:=DataW.trod_struct hu hd;cases he;obtain⟨x,hx,hb⟩:=yfS (S:=zsI W) (fuel:=fuel) (fun T' t' hq cs d ps=>yaU n T' t' hq fuel cs d ps) fs.toList 0 _ xs h2 (by rw[hl,h1];omega) (xcA (by simp[hxl]) fun i f y hf hy=>(hm i f (by simpa using hf)).trans hy);exact⟨x,by simpa using hx,by simp only[Rows.uptoBulk];omega⟩
  ·cases h
variable {b0:Nat}{T E:TypeId}{v:Value}
theorem yxA{n:Nat}{e:Ty}(hu:P.underlying T=some (.slice E))(he:tyOk P n E e=true)(hc:P.cellsOf E=tsz e)(hz:0<tsz e)(h:Value.okWide P W .any b0 T v){d:DataW H}{ps:List MemPlace}(hd:DataW.Trod enc P W 0 (fun _=>true) true T v d ps):∃xs:List (den e),@RdS (den e) (rpD e) (zsI W) v xs/\dsz (.sl e) xs<=Rows.uptoBulk d:=by
 obtain⟨fuel,hf⟩:=hd;have hv:=ok_slice hu h;have hcells:v.cells.toList=[v]:=by rcases hv with rfl|⟨a,len,cap,rfl⟩<;>rfl
 rw[hcells]at hf;rcases DataW.trod_slice hu hf with⟨h1,h2⟩|⟨a,len,cap,elems,rest,m,rfl,h1,h2,_,hlc,_,hel,hget,_,_⟩
 ·simp only[List.cons.injEq,and_true]at h1;subst h1;cases h2;exact⟨[],⟨[],.inl ⟨⟨none,rfl⟩,rfl,rfl⟩,rfl⟩,aJ _⟩
 ·simp only[List.cons.injEq,and_true]at h1;subst h1;cases h2;obtain⟨hsp,cs,R,fz,hb,ho⟩:=yzK hu h;obtain⟨blk,off,spot⟩:=a
  dsimp only at hsp hb ho
  subst hsp;have ad:∀j,(⟨blk,off,none⟩:Addr).add j=⟨blk,off+j,none⟩:=fun j=>by simp[Addr.add]
  have each:∀i,i<len->∃y x,elems[i]? = some y/\rep e (zsI W) (piece cs.toList (off+i*tsz e) (tsz e)) x/\dsz e x<=Rows.uptoBulk y.1/\off+(i+1)*tsz e<=cs.toList.length:=fun i hi=>by
   have hg:=hget i hi;obtain⟨y,hy⟩:∃y,elems[i]? = some y:=⟨_,aI (by omega)⟩;rw[hy]at hg;obtain⟨us,hus,hg⟩:=fJ.1 hg;obtain⟨_,hul,huc⟩:=World.cells?_some hus;obtain⟨x,hx,hdx⟩:=yaU n E e he m us y.1 y.2 hg;rw[hc,ad]at huc;rw[hc]at hul;have hcell:∀j,j<tsz e->cs.toList[off+i*tsz e+j]? = us[j]?:=fun j hj=>by have:=huc j hj;rw[show(⟨blk,off+i*tsz e,none⟩:Addr).add j=⟨blk,off+i*tsz e+j,none⟩ by simp[Addr.add]]at this;simp only[World.cell?,hb,iI,zG (show ¬(false=true) by decide)]at this;simpa using this
   have hlen:off+(i+1)*tsz e<=cs.toList.length:=by have h1:=hcell (tsz e-1) (by omega);rw[aI (by omega:tsz e-1<us.length)]at h1;have:=(aC.1 h1).1;rw[bD];omega
   refine⟨y,x,hy,?_,hdx,hlen⟩;have:piece cs.toList (off+i*tsz e) (tsz e)=us:=by
    apply aX;intro j;rw[zaL,bK];by_cases hj:j<tsz e
    ·rw[zH hj,bB];exact hcell j hj
    ·rw[zG hj,bT (by omega)]
   rw[this];exact hx
  have key:∀k,k<=len->∃xs:List (den e),xs.length=k/\@RL (den e) (rpD e) (zsI W) (piece cs.toList off (k*tsz e)) xs/\(gM (dsz e) xs).sum<=Rows.uptoBulkAll ((elems.take k).map (·.1)):=by
   intro k;induction k with
   |zero=>intro _;exact⟨[],rfl,by simp[piece,RL],bX _⟩|succ k ih=>
    intro hk;obtain⟨xs,h1,h2,h3⟩:=ih (by omega);obtain⟨y,x,g1,g2,g3,_⟩:=each k (by omega);refine⟨xs++[x],by simp[h1],?_,?_⟩
    ·have e2:piece cs.toList off ((k+1)*tsz e)=piece cs.toList off (k*tsz e)++piece cs.toList (off+k*tsz e) (tsz e):=by rw[zaL,zaL,zaL,bD,cR,List.take_add,eC]
     rw[e2];exact yvT h2 g2
    ·rw[gL,g1];simp only[jF,dP,bS,fI,List.sum_append,iQ,List.sum_nil,ykC,Rows.uptoBulkAll];omega
  obtain⟨xs,h1,h2,h3⟩:=key len (aJ _);have hfit:off+len*tsz e<=cs.toList.length:=by
   rcases gJ len with h0|h0
   ·subst h0;rw[iC];omega
   ·obtain⟨_,_,_,_,_,h4⟩:=each (len-1) (by omega)
    rwa[fM h0]at h4
  refine⟨xs,⟨piece cs.toList off (len*tsz e),?_,h2⟩,?_⟩
  ·right;refine⟨blk,off,cap,cs.toList,R,fz,?_,by rw[h1];exact hlc,ylJ hb rfl,?_,?_⟩
   ·rw[h1]
   ·rw[h1];show _+_*(rpD e).sz<=_;rw[zgX];exact hfit
   ·rw[h1];show piece _ _ (_*(rpD e).sz)=_;rw[zgX]
  ·rw[dJ (by omega)]at h3;show(gM (dsz e) xs).sum+1<=_;simp only[Rows.uptoBulk];omega
def argOk(P:Program)(T:TypeId)(t:Ty):Bool:=match P.underlying T,t with
 |some (.slice E),.sl e=>tyOk P 8 E e&&(aG (P.cellsOf E) (tsz e)&&Nat.blt 0 (tsz e))|_,t=>tyOk P 8 T t
theorem argD_ok{t:Ty}(ha:argOk P T t=true)(h:Value.okWide P W .any b0 T v){d:DataW H}{ps:List MemPlace}(hd:DataW.Trod enc P W 0 (fun _=>true) true T v d ps):∃x:den t,rep1 t (zsI W) v x/\dsz t x<=Rows.uptoBulk d:=by
 unfold argOk at ha;split at ha
 ·rename_i E e hu;rw[aK,aK]at ha;obtain⟨h1,h2,h3⟩:=ha;obtain⟨xs,g1,g2⟩:=yxA hu h1 (aB h2) (by rw[zhR]at h3;simpa using h3) h hd;exact⟨xs,⟨v,rfl,g1⟩,g2⟩
 ·obtain⟨fuel,hf⟩:=hd;obtain⟨x,hx,hb⟩:=yaU 8 T _ ha fuel _ _ _ hf;refine⟨x,?_,hb⟩;unfold rep1;unfold tyOk at ha;split at ha
  ·rename_i hu;have hv:v.cells.toList=[v]:=by simp only[Value.okWide,Cell.okWide,Cell.ok]at h;cases v<;>simp_all<;>rfl
   rw[hv]at hx;rw[zH (show one (.i _)=true from rfl)];exact hx
  ·rename_i hu;have hv:v.cells.toList=[v]:=by simp only[Value.okWide,Cell.okWide,Cell.ok]at h;cases v<;>simp_all<;>rfl
   rw[hv]at hx;rw[zH (show one .b=true from rfl)];exact hx
  ·rename_i hu;have hv:v.cells.toList=[v]:=by simp only[Value.okWide,Cell.okWide,Cell.ok]at h;cases v<;>simp_all<;>rfl
   rw[hv]at hx;rw[zH (show one .s=true from rfl)];exact hx
  ·rename_i hu hno;exact(hno _ _ hu rfl).elim
  ·rename_i fs hu _;rw[aK,aK]at ha;simp only[Value.okWide,hu]at h;obtain⟨cs,rfl,_,_⟩:=h;rw[zG (by simpa using ha.1.2)];exact⟨cs.toList,by simp,hx⟩
  ·cases ha
def posT:Ty->Bool
 |.un=>false|.pr a c=>posT a||posT c|_=>true
theorem yiQ:∀{e:Ty},posT e=true->∀x:den e,1<=dsz e x
 |.i _,_,_=>aJ 1|.b,_,_=>aJ 1|.s,_,_=>Nat.le_add_left 1 _|.er,_,_=>aJ 1|.sl _,_,_=>Nat.le_add_left 1 _|.mp _ _,_,_=>aJ 1|.jk _,_,_=>aJ 1|.pt _,_,_=>aJ 1|.pm _ _ _,_,_=>aJ 1|.pr a c,h,x=>by
  show 1<=dsz a x.1+dsz c x.2;have h:(posT a||posT c)=true:=h;rw[cJ]at h;rcases h with h|h
  ·have:=yiQ h x.1;omega
  ·have:=yiQ h x.2;omega
theorem yvO{e:Ty}(he:posT e=true):∀xs:List (den e),xs.length+1<=dsz (.sl e) xs
 |[]=>aJ 1|x::xs=>by have h1:=yiQ he x;have h2:xs.length+1<=(gM (dsz e) xs).sum+1:=yvO he xs;show(x::xs).length+1<=(gM (dsz e) (x::xs)).sum+1;simp only[List.length_cons,bS,iQ];omega
theorem rep1_vr{t:Ty}{S:Mem}{E:List EI}{v:Value}{x:den t}(h:rep1 t S v x):VR S E (svOf t x) v:=yqA (l:=[t]) h
end
end Go.Proofs.YtmbcolbbekbccaaGreat.Am
namespace Go.Proofs.YtmbcolbbekbccaaGreat.Am
open Go Go.RowKit
theorem xcN{e:Ty}{x:den e}:∀{xs:List (den e)},x∈xs->dsz e x<=dsz (.sl e) xs
 |y::ys,h=>by
  show _<=(gM (dsz e) (y::ys)).sum+1;simp only[bS,iQ];rcases List.mem_cons.1 h with rfl|h
  ·omega
  ·have:dsz e x<=(gM (dsz e) ys).sum+1:=xcN h;omega
end Go.Proofs.YtmbcolbbekbccaaGreat.Am
namespace Go.Proofs.YtmbcolbbekbccaaGreat
open Go Go.RowKit
theorem nn_256:nn<256^32:=yaJ
theorem yrS{a:Nat}(h:a<nn):ofOK 1 (be 32 a)=true/\bval (be 32 a)=a:=by have hb:=ywB 32 a (bQ h nn_256);exact⟨by simp only[ofOK,zgP,hb,BEq.rfl,Bool.true_and];exact zA h,hb⟩
theorem ylI{p:Ap}{e r t:Nat}(hr:zoR r=true)(ht:zoR t=true)(h1:(verP p e r t).2.2=false)(h2:(verP p e r t).1%nn=r):verB p e (be 32 r) (be 32 t)=true:=by obtain⟨o1,v1⟩:=yrS (zjL.1 hr).2;obtain⟨o2,v2⟩:=yrS (zjL.1 ht).2;simp only[verB,o1,o2,v1,v2,hr,ht,h1,h2,BEq.rfl,Bool.not_false,Bool.and_self]
theorem gx_on(k:Nat):onT (cmul k GG)=true:=zuC yeB k
theorem yfI{p:Ap}(hp:AL p)(hi:p.2.2=false)(ho:onT p=true){s:Bs}(hs:s.length<=68719470000){r t:Nat}(h:verB p (eF s) (be 32 r) (be 32 t)=true):
  zeN (ptW p) s (be 32 r++be 32 t)=some true:=by
 have l:(be 32 r++be 32 t).length=64:=by rw[aE,zgP,zgP]
 rw[ypV hp hs (by rw[l];decide),l,hi,ho,List.take_left' (zgP 32 r),List.drop_left' (zgP 32 r),h];rfl
theorem fits_ok{d k:Nat}(hd:zoR d=true)(hk:k<nn){s:Bs}(hs:s.length<=68719470000)(ho:okB d k (eF s)=true):
  zeN (ptW (cmul d GG)) s (sigF d k (eF s))=some true/\zeN (ptW (cmul d GG)) s (be 32 (gx k%nn)++be 32 ((nn-th d k (eF s))%nn))=some true:=by
 obtain⟨d0,dn⟩:=zjL.1 hd;simp only[okB,aK,bne_iff_ne]at ho;obtain⟨k0,r0,t0⟩:=ho;have hq:=yrC (cN d0) dn;have tl:th d k (eF s)<nn:=aZ _ yeG;have tm:th d k (eF s)%nn≠0:=by rw[aP tl];exact t0
 have km:k%nn≠0:=by rw[aP hk];exact k0
 have fr:zoR (gx k%nn)=true:=zjL.2 ⟨r0,aZ _ yeG⟩;have ft:zoR (th d k (eF s))=true:=zjL.2 ⟨t0,tl⟩;have hu:=yrC (cN k0) hk;have e2:(nn-th d k (eF s))%nn=nn-th d k (eF s):=aP (by omega);have ft2:zoR ((nn-th d k (eF s))%nn)=true:=by rw[e2];exact zjL.2 ⟨by omega,by omega⟩
 have v1:verP (cmul d GG) (eF s) (gx k%nn) (th d k (eF s))=cmul k GG:=fits_pt hk km tm;have v2:verP (cmul d GG) (eF s) (gx k%nn) ((nn-th d k (eF s))%nn)=cneg (cmul k GG):=xdT km (by rw[e2,aP (by omega)];omega) (by rw[e2,Nat.add_sub_cancel' (cW tl),Nat.mod_self]);have cn:=cneg_x (gx_on k);constructor
 ·exact yfI (zgG _ _) hq (gx_on d) hs (ylI fr ft (by rw[v1];exact hu) (by rw[v1];rfl))
 ·exact yfI (zgG _ _) hq (gx_on d) hs (ylI fr ft2 (by rw[v2,cn.2];exact hu) (by rw[v2,cn.1];rfl))
end Go.Proofs.YtmbcolbbekbccaaGreat
namespace Go.Proofs.YtmbcolbbekbccaaGreat.Am
open Go Go.RowKit
abbrev L8:Type:=Bs
def dN(s:L8):Nat:=bif dF s==0 then 1 else dF s
theorem xaX(s:L8):prF s=tv (dN s):=by
 unfold prF dN;cases dF s==0 with
 |true=>rw[zE,zE]|false=>rw[zF,zF]
theorem yhE(s:L8):zoR (dN s)=true:=by
 have h:dF s<nn:=aZ _ yeG;refine zjL.2 ?_;unfold dN;cases e:dF s==0 with
 |true=>rw[zE];exact⟨by decide,by decide⟩|false=>rw[zF];exact⟨by simpa using e,h⟩
theorem dN_lt(s:L8):dN s<zaC:=bQ (zjL.1 (yhE s)).2 yaJ
def pF(s:L8):P9:=ptW (cmul (dN s) GG)
theorem yrT(s:L8):zaZ (prF s)=some (pF s):=by rw[xaX,yhS (dN_lt s)];rfl
def kyE(s:L8):Kp:=kpV s (kidF s) (mkF s) (prF s) (pF s)
def kyL(L:List L8):List Kp:=L.map kyE
theorem zjT(L:List L8):(kyL L).length=L.length:=by simp[kyL]
theorem yoY{L:List L8}{k:Nat}(h:k<L.length):idx (kyL L) (k:Int)=some (kyE L[k]):=by rw[zuW rfl (by rw[zjT];exact h)];simp[kyL]
theorem yxB{k n:Nat}(h:k<n):chk (decide ((0:Int)<=(k:Int))&&decide ((k:Int)<(n:Int)))=some ():=by rw[zA (show(0:Int)<=(k:Int) by omega),zA (show(k:Int)<(n:Int) by omega)];rfl
theorem app_z{α:Type}{l:List α}(h:l.length<=1048576):app ([]:List α) l=some l:=by rw[zhD (by simp;omega)];rfl
theorem yqW{k s:L8}(hk:k.length<=1048576)(hs:s.length<=1048576):macP k s=some (macF k s):=by unfold macP;rw[zA (show k.length<=68719470000 by omega),zA (show s.length<=68719460000 by omega)];rfl
theorem yqI(s:L8):(mkF s).length=32:=zdB _ _
theorem u64_z(a:UInt64):decide ((a.toNat:Int)=(((0:UInt64).toNat:Nat):Int))=(a==0):=by rw[Bool.eq_iff_iff,zD,beq_iff_eq];exact⟨fun h=>UInt64.toNat_inj.1 (Int.ofNat.inj h),fun h=>by rw[h]⟩
theorem j0_o(s:L8):zpM (tv (dF s))=some (prF s):=by unfold zpM zbQ;rw[zaB];simp only[u64_z];rw[show(((tv (dF s)).1==(0:UInt64))&&(((tv (dF s)).2.1==(0:UInt64))&&(((tv (dF s)).2.2.1==(0:UInt64))&&((tv (dF s)).2.2.2==(0:UInt64)))))=(dF s==0)from ytW (dF_lt s),prF];cases dF s==0<;>rfl
theorem red_o(s:L8):yaR 1 (macF [107,101,121] s)=some (tv (dF s)):=by unfold yaR zdC;rw[zkX (zA (by rw[zdB];decide))];rfl
theorem mades_o{s:L8}(h:s.length<=1048576):ziY s=some (k19 s (kidF s) (mkF s) (prF s) 0 0 q0):=by unfold ziY;rw[yqW (by decide) h,zaB,red_o,zaB,j0_o,zaB,yqW (by decide) h,zaB,show(9:Int)=((9:Nat):Int)from rfl,zxB (by rw[zdB];decide),zaB];unfold ybU;rw[zA (show(List.take 9 (macF [107,105,100] s)).length<=4194304 by rw[List.length_take,zdB];decide),zE,zaB,yqW (by decide) h,zaB];rfl
theorem made_k{s k m:L8}{d:W4}{r:P9}(h1:ziY s=some (k19 s k m d 0 0 q0))(h2:zaZ d=some r):ybD s=some (kpV s k m d r):=by have ht:zaZ ((k19 s k m d 0 0 q0).2.2.2.1,(k19 s k m d 0 0 q0).2.2.2.2.1,(k19 s k m d 0 0 q0).2.2.2.2.2.1,(k19 s k m d 0 0 q0).2.2.2.2.2.2.1)=some r:=h2;unfold ybD;rw[h1,zaB,ht,zaB];exact zoI (ylX.2 rfl)
theorem xcD{s:L8}(h:s.length<=1048576):ybD s=some (kyE s):=made_k (mades_o h) (yrT s)
theorem xfH(s:L8):zxO (kyE s)=some (pF s):=by unfold zxO;rw[show zaZ (kyE s).1.2.2.2=_ from yrT s,zaB];exact zoI (ylX.2 rfl)
theorem yuE{L:List L8}(hL:L.length<=8)(kid:L8):zeG kid (kyL L)=some (match zjO L kid with
  |some s=>.inl (kyE s,kyL L)|none=>.inr (kyL L)):=by
 have hn:plF L kid<=L.length:=List.findIdx_le_length
 have key:iter (fun x:Int×List Kp=>zcI kid (kyL L) x.1 x.2) ((0:Int),kyL L)=some (match zjO L kid with
   |some s=>.inl (kyE s,kyL L)|none=>.inr (kyL L)):=by
  refine zeV (fun k=>((k:Int),kyL L)) (plF L kid) (by omega) _ (fun k hk=>?_) ?_
  ·simp only;unfold zcI;have hk2:k<L.length:=by omega
   rw[ziR (by rw[zjT];omega),yxB (by rw[zjT];exact hk2),zaB,yoY hk2,zaB,zpA (show((kyE L[k]).1.2.1==kid)=false by simpa[kyE,kpV]using List.not_of_lt_findIdx hk),w64s k (by omega)]
  ·simp only;unfold zcI;by_cases h:plF L kid<L.length
   ·rw[ziR (by rw[zjT];omega),yxB (by rw[zjT];exact h),zaB,yoY h,zaB,zoI (show((kyE (L[plF L kid]'h)).1.2.1==kid)=true from List.findIdx_getElem (w:=h)),zjO,aI h]
   ·rw[zjF (by rw[zjT];omega),zjO,bT (by omega)]
 unfold zeG;rw[key,zaB];cases zjO L kid<;>rfl
def Rk(z:L8)(L:List L8):Prop:=(∃R,L=z::R)/\L.length<=8
theorem xcG{z:L8}{L:List L8}(h:Rk z L):zjO L (kidF z)=some z:=by obtain⟨⟨R,rfl⟩,_⟩:=h;unfold zjO plF;rw[List.findIdx_cons,BEq.rfl];rfl
theorem turn_o{z:L8}{L:List L8}(hL:Rk z L){s:L8}(h:s.length<=1048576):∃(c:Int) (M:List L8),Rk z M/\(zdO s (kyL L)=some (.inl (c,kyL M))∨zdO s (kyL L)=some (.inr (c,kyL M))):=by
 obtain⟨⟨R,hR⟩,h8⟩:=hL;unfold zdO;rw[xcD h,zaB,show(kyE s).1.2.1=kidF s from rfl,yuE h8,zaB];cases e:zjO L (kidF s) with
 |some q=>exact⟨80,L,⟨⟨R,hR⟩,h8⟩,.inl rfl⟩|none=>
  simp only;rw[zjT];by_cases e8:L.length=8
  ·rw[zoI (by rw[beq_iff_eq];omega)];exact⟨82,L,⟨⟨R,hR⟩,h8⟩,.inl rfl⟩
  ·rw[zpA (by rw[beq_eq_false_iff_ne];omega),zhD (by rw[zjT,fV];omega),zaB];exact⟨0,L++[s],⟨⟨R++[s],by rw[hR];rfl⟩,by rw[aE,fV];omega⟩,.inr (by simp[kyL])⟩
theorem ylT(s:L8):zfV (kyL [s])=some (kyE s,kyL [s]):=rfl
theorem ysU{L:List L8}(h8:L.length<=8):zeF (kyL L)=some (kyL L,L.map kidF):=by
 have key:iter (fun x:Int×List Kp×List L8=>zcH (kyL L) x.1 x.2.1 x.2.2) ((0:Int),kyL L,([]:List L8))=some (kyL L,L.map kidF):=by
  refine zeV (fun k=>((k:Int),kyL L,(L.take k).map kidF)) L.length (by omega) _ (fun k hk=>?_) ?_
  ·simp only;unfold zcH;rw[ziR (by rw[zjT];omega),yxB (by rw[zjT];exact hk),zaB,yoY hk,zaB,zhD (by simp;omega),zaB,w64s k (by omega),ztJ hk,dP];rfl
  ·simp only;unfold zcH;rw[zjF (by rw[zjT];omega),List.take_length]
 unfold zeF;rw[key];rfl
theorem yrY{L:List L8}(h8:L.length<=8):zgV (kyL L)=some (kyL L,kyL L):=by unfold zgV;simp only;rw[app_z (by rw[zjT];omega),zaB,zaB]
theorem xeN{z:L8}{L:List L8}(hL:Rk z L){m:L8}(hm:m.length<=1048576):zdU (kidF z) m (macF (mkF z) m) (kyL L)=some (true,kyL L):=by unfold zdU;rw[yuE hL.2,xcG hL,zaB];simp only;rw[show(kyE z).1.2.2.1=mkF z from rfl,yqW (by rw[yqI];decide) hm,zaB];unfold yzD;rw[zA (show(macF (mkF z) m).length<=68719476736 by rw[zdB];decide),BEq.rfl];rfl
theorem yxX{z:L8}{L:List L8}(hL:Rk z L){m g:L8}(h:ydG (pF z) m g=some true):zdL (kidF z) m g (kyL L)=some (true,kyL L):=by unfold zdL;rw[yuE hL.2,xcG hL,zaB];simp only;rw[xfH,zaB,h,zaB]
theorem sign_o(z:L8){m:L8}(hm:m.length<=1048576):(∃g,zfN m (kyL [z])=some (kidF z,g,0,kyL [z])/\ydG (pF z) m g=some true)∨zfN m (kyL [z])=some ([],[],81,kyL [z]):=by
 have hs:m.length<=68719470000:=by omega
 have e:yzR (prF z) m=some (endF (tryF (dN z) (eF m) (yfE (dN z) (eF m)) 0 16)):=by unfold yzR;rw[xaX,xfB (dN_lt z) hs,yhE,zE]
 unfold zfN;rw[ylT,zaB,show(kyE z).1.2.2.2=prF z from rfl,e,zaB];cases ht:tryF (dN z) (eF m) (yfE (dN z) (eF m)) 0 16 with
 |none=>exact .inr rfl|some g=>obtain⟨k,hk,ho,rfl⟩:=ylH ht;exact .inl ⟨_,rfl,(fits_ok (yhE z) hk hs ho).1⟩
theorem yjM(v0:L8)(v1:L8)(v2:List L8)(hk:dsz .s v0+(dsz .s v1+dsz (.sl .s) v2)<=1048576):ziP v0 v1 v2=some true:=by
 have f0:dsz .s v0=v0.length+1:=rfl;have f1:dsz .s v1=v1.length+1:=rfl;have hl:v2.length+1<=dsz (.sl .s) v2:=yvO (e:=.s) rfl v2;have ho:∀o∈v2,o.length<=1048576:=fun o ho=>by have h1:dsz .s o<=dsz (.sl .s) v2:=xcN (e:=.s) ho;have h2:dsz .s o=o.length+1:=rfl;omega
 have h1:v1.length<=1048576:=by omega
 have key:∀(f i:Nat) (L:List L8),Rk v0 L->f+i=v2.length->∀g,f<g->∃M,Rk v0 M/\zpU (fun x:Int×List Kp×List Kp=>zfG v2 x.1 x.2.1 x.2.2) g ((i:Int),kyL L,kyL L)=some (.inr (kyL M,kyL M)):=by
  intro f;induction f with
  |zero=>intro i L hL hi g hg;obtain⟨g,rfl⟩:∃k,g=k+1:=⟨g-1,by omega⟩;refine⟨L,hL,zkR ?_⟩;simp only;unfold zfG;rw[zjF (by omega)]
  |succ f ih=>
   intro i L hL hi g hg;obtain⟨g,rfl⟩:∃k,g=k+1:=⟨g-1,by omega⟩;have hlt:i<v2.length:=by omega
   obtain⟨c,M,hM,e⟩:=turn_o hL (ho _ (List.getElem_mem hlt));obtain⟨K,hK,e2⟩:=ih (i+1) M hM (by omega) g (by omega);refine⟨K,hK,(ziX (s':=(((i+1:Nat):Int),kyL M,kyL M)) ?_).trans e2⟩;simp only;unfold zfG;rw[ziR (by omega),zuW rfl hlt,zaB,zaB];rcases e with e|e
   all_goals
    rw[e,zaB];simp only;rw[zaB];simp only;rw[bne_self_eq_false,zF,w64s i (by omega)]
 obtain⟨M,hM,e⟩:=key v2.length 0 [v0] ⟨⟨[],rfl⟩,by simp⟩ (by omega) FU (by unfold FU;omega);have h8:=hM.2;have e0:zhG v0=some (kyL [v0]):=by unfold zhG;rw[xcD (by omega),zaB];rfl
 have e1:zkT (kyL [v0]) (kyL [v0])=some (.inr (kyL [v0],kyL [v0])):=rfl;have e2:ziO v1 (kyL [v0])=some (kidF v0,macF (mkF v0) v1,kyL [v0]):=by unfold ziO;rw[ylT,zaB,show(kyE v0).1.2.2.1=mkF v0 from rfl,yqW (by rw[yqI];decide) h1,zaB];rfl
 have e3:zhS (kidF v0,macF (mkF v0) v1,kyL [v0]) (kyL M,kyL M) (kyL M,kyL M)=some (.inr (kyL M,kyL M,kyL M)):=by
  obtain⟨R,hR⟩:=hM.1;have hlen:1<=M.length:=by rw[hR];simp
  have c0:chk (decide ((0:Int)<=(0:Int))&&decide ((0:Int)<((M.map kidF).length:Int)))=some ():=yxB (k:=0) (by rw[bL];exact hlen);have i0:idx (M.map kidF) (0:Int)=some (kidF v0):=by rw[show(0:Int)=((0:Nat):Int)from rfl,zuW rfl (by rw[bL];exact hlen)];simp[hR]
  unfold zhS;simp only;rw[ysU h8,zaB,zjF (by rw[bL];omega),ysU h8,zaB,zjF (by rw[bL];omega),ysU h8,zaB,c0,zaB,i0,zaB,bne_self_eq_false,zF]
 have e4:zhL v1 (kidF v0,macF (mkF v0) v1,kyL [v0]) (kyL M,kyL M,kyL M)=some (.inr (kyL M,kyL M,kyL M)):=by unfold zhL;simp only;rw[xeN hM h1,zaB,dM,zF,zaB,dM,zF,zaB,dM,zF]
 unfold ziP;rw[e0,zaB,zaB,e1,zaB];simp only;rw[e2,zaB];simp only;rcases sign_o v0 h1 with⟨g,e5,e6⟩|e5
 ·rw[e5,zaB];simp only;rw[show iter _ ((0:Int),kyL [v0],kyL [v0])=_ from e,zaB];simp only;rw[yrY h8,zaB,e3,zaB];simp only;rw[e4,zaB];simp only;rw[bne_self_eq_false,zF,BEq.rfl,zE,yxX hM e6,zaB,zE,zaB,zE,zaB]
 ·rw[e5,zaB];simp only;rw[show iter _ ((0:Int),kyL [v0],kyL [v0])=_ from e,zaB];simp only;rw[yrY h8,zaB,e3,zaB];simp only;rw[e4,zaB];rfl
end Go.Proofs.YtmbcolbbekbccaaGreat.Am
namespace Go.Proofs.YtmbcolbbekbccaaGreat
open Go Go.RowKit
section
open Go Go.RowKit Go.ChangeShapes Go.WideShapes Go.ChangeAt
attribute [local irreducible] Value.okWide
theorem zuO:ownKnob Tryz.prog.godebug=none:=by kernel_rfl
theorem zoP(H:Type)(enc:TypeId×Value->H)(W:World)(base:Nat)(args:Array Value)(ds gs:List (DataW H))(before:List MemPlace) (hval:∀(j:Nat) t v,Tryz.f8.params[j]? = some t->args[j]? = some v->Value.okWide aD W .any base t v) (hW:DataW.Whole enc aD Tryz.f8.params.toList Rows.signRingKeepsSpec.vars false W args.toList ds gs before) (hk:Rows.uptoSmall H (ds++gs)=true):Calls aD 8 args W fun e W'=>∃v,e = .returned v/\Rows.signRingKeepsSpec.post enc aD Tryz.f8 false true false false W args v W':=by
 have hW':=hW;obtain⟨p,q,hA0,hV,rfl,_,_⟩:=hW;have hA:DataW.TrodAll enc aD W 0 (fun _=>true) true Tryz.f8.params.toList args.toList ds p:=hA0;rw[Tryz.params8]at hA hval;obtain⟨v0,vs0,d0,ds0,p0,q0,hargs,rfl,rfl,t0,r0⟩:=trodAll_cons hA;obtain⟨v1,vs1,d1,ds1,p1,q1,rfl,rfl,rfl,t1,r1⟩:=trodAll_cons r0;obtain⟨v2,vs2,d2,ds2,p2,q2,rfl,rfl,rfl,t2,r2⟩:=trodAll_cons r1;obtain⟨rfl,rfl,rfl⟩:=trodAll_nil r2;obtain rfl:args = #[v0,v1,v2]:=by cases args;simp_all
 obtain⟨rfl,rfl⟩:=trodVars_none hV;obtain⟨x0,e0,b0⟩:=Am.argD_ok (t:=.s) (show Am.argOk aD 9 .s=true by kernel_rfl) (hval 0 9 v0 rfl rfl) t0;obtain⟨x1,e1,b1⟩:=Am.argD_ok (t:=.s) (show Am.argOk aD 9 .s=true by kernel_rfl) (hval 1 9 v1 rfl rfl) t1;obtain⟨x2,e2,b2⟩:=Am.argD_ok (t:=(.sl .s)) (show Am.argOk aD 40 (.sl .s)=true by kernel_rfl) (hval 2 40 v2 rfl rfl) t2;simp only[List.append_nil,Rows.uptoSmall,zD,Rows.uptoBulkAll]at hk;refine((Am.yiA (tabs:=[])).ok (zsI W) W [v0,v1,v2] (x0,x1,x2) true (fun p hp=>by cases hp) (subMem W) (.cons (Am.rep1_vr e0) (.cons (Am.rep1_vr e1) (.cons (Am.rep1_vr e2) .nil))) (Am.yjM x0 x1 x2 (by omega))).mono fun e W' ⟨hx,v,he,hr,_⟩=>?_;have hr:[v]=[Value.bool true]:=hr;rw[(List.cons.inj hr).1]at he;subst he;refine⟨_,rfl,yzM (B:=4) (n:=3) (by kernel_rfl) rfl (by kernel_rfl) (by kernel_rfl) (by kernel_rfl) (by kernel_rfl) (fun ds hds=>?_) hW' hx⟩
 match ds,hds with
 |[x0,x1,x2],_=>exact⟨rfl,rfl,rfl⟩
set_option maxRecDepth 100000 in
theorem zqW(os:Os)(started:os.Started)(H:Type)(enc:TypeId×Value->H)(F:Stop.Interp):
  ReturnsInHanded {} Tryz.checked os 8 .any ((Rows.OpenSpec.upto Rows.signRingKeepsSpec).pre6 enc aD Tryz.f8 Rows.signRingKeepsUptoRow.domain false) (((Rows.OpenSpec.upto Rows.signRingKeepsSpec).at F).post enc aD Tryz.f8 false true false false):=by
 refine returnsInHanded_of_cond (C:=Tryz.checked) (s:=Rows.OpenSpec.upto Rows.signRingKeepsSpec) (k:=Rows.uptoSmall) rfl zuO started (by kernel_rfl) Tryz.func8
  (OpenSpec.witness (enc:=enc) (C:=Tryz.checked) (s:=Rows.OpenSpec.upto Rows.signRingKeepsSpec) (k:=Rows.uptoSmall) rfl false ⟨#[],#[.string ⟨#[]⟩,.string ⟨#[]⟩,.slice none 0 0],[]⟩ 8 (by kernel_rfl) (by kernel_rfl) (by kernel_rfl)
   (x:=([.lit (.string []),.lit (.string []),.nil],[],[])) (by kernel_rfl) rfl (by kernel_rfl)) ?_
 intro W base args ds gs before hval hW _ hk _;exact zoP H enc W base args ds gs before hval hW hk
theorem signRingKeeps_said : Rows.SignRingKeepsUptoSaid :=
 OpenClaim.holds_of_cond 8 Tryz.f8 rfl rfl rfl rfl rfl rfl rfl ⟨rfl,rfl,rfl,rfl,rfl⟩ rfl rfl rfl rfl rfl (by as_aux_lemma=>kernel_rfl) Tryz.func8 (by as_aux_lemma=>kernel_rfl)
  (zC (by kernel_rfl)) (by unfold Func.isWrapper;first|(rw[zH (by decide +kernel)];kernel_rfl)|(rw[zG (by decide +kernel)];exact⟨rfl,rfl⟩))
  (fun os started H enc _ F=>zqW os started H enc F)
end
end Go.Proofs.YtmbcolbbekbccaaGreat
