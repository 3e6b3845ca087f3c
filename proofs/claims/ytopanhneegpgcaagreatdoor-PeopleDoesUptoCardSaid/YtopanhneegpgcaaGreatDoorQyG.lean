/- Parts of one proof. Conditions: as each theorem says. -/
import Derived.Test.YtopanhneegpgcaaGreatDoorQyF
open Array renaming ext'->dY
open List renaming all_cons->cT,all_eq_true->bR,append_assoc->aU,append_nil->bJ,cons_append->bS,eq_nil_of_length_eq_zero->aW,eraseIdx_sublist->iY,ext_getElem?->bN,getElem?_append_left->aF,getElem?_append_right->aG,getElem?_cons_succ->cD,getElem?_drop->bU,getElem?_eq_getElem->aH,getElem?_eq_none->cB,getElem?_eq_some_iff->aC,getElem?_map->cF,getElem?_set_ne->aS,getElem?_set_self->aP,getElem?_take->dE,length_append->aD,length_cons->aQ,length_drop->bL,length_map->aE,map_congr_left->dI,map_cons->bF,map_id->fI,mem_cons->aN,mem_cons_of_mem->aM,mem_cons_self->aO,mem_map->aY,mem_of_getElem?->bO,nil_append->bP,pairwise_cons->bD,range'->eQ,range'_succ->eX,replicate->bI
open Nat renaming add_mul->cA,beq->aJ,beq_refl->eJ,ble_eq->gF,eq_of_beq_eq_true->aB,le_of_ble_eq_true->bK,le_of_eq->eI,le_refl->aL,le_trans->bB,lt_of_lt_of_le->cQ,lt_of_not_le->dV,mul_le_mul->gA,mul_le_mul_right->dK,mul_one->dQ,sub_self->eK,zero_add->aV,zero_mul->gX
open Option renaming getD_some->dH,map_some->aX
open Go.Builtin renaming append_->ue,firstCells->mN,lenOf->rG,zeroCells->Wa
open Go.Instr renaming mapUpdate->QU,sliceBounds->ee
namespace Go.Proofs.YtopanhneegpgcaaGreatDoor.Am
open Go Go.RowKit
def GS(G:List (Nat×Obj))(S:Mem):Prop:=∀p∈G,S p.1=some p.2
def GB(G:List (Nat×Obj))(B:r9):Prop:=∀p∈G,p.1<B.w0.heap.size/\p.1∉B.X/\B.S0 p.1=some p.2
def At(B:r9)(S:Mem)(w:World):Prop:=∃S' L,Mem.le S' S/\HS B S' w L
theorem At.gs{G:List (Nat×Obj)}{B:r9}{S:Mem}{w:World}(h:At B S w)(b:GB G B):GS G S:=fun p hp=>by obtain⟨S',L,a,H⟩:=h;obtain⟨c,d,e⟩:=b p hp;exact a _ _ ((H.keep _ c d).trans e)
structure Z0 (P:Program) (G:List (Nat×Obj)) (f:FuncId) (c:PC):Prop where
 fn:s8 P f
 ok:∀(S:Mem) (w:World) (us:LV) (a:b8 (c.ash.flatMap Sh.o8)) (y:b8 c.rts),GS G S->Sub S w->A2 (VR S []) (Wb c.ash (rc _ a)).1 us->c.p a=some y ->
  Calls P f us.toArray w fun e w'=>Ext w w'/\∃v,e = .returned v/\Be (gr S w w') c.rts v y/\(c.cl=true->∃a n,v = .slice a n n)
theorem RU{S:Mem}{E:List EI}{c:PC}{y:b8 c.rts}{v:Value}(h:Be S c.rts v y)(p:c.cl=true->∃a n,v = .slice a n n):VR S E (Se c y) v:=by
 have f:VR S E (Kh c.rts y) v:=Uo h;unfold Se clS;cases q:c.cl with
 |false=>exact f|true=>
  obtain⟨a,n,rfl⟩:=p q;simp only[zF];split
  ·rename_i e i s;rw[s]at f;obtain⟨v,j,d⟩:=(show VB S E (.v (.sl e) i) (.slice a n n)from f);injection j with j;subst j;have t:n=i.length:=by
    obtain⟨z,b,_⟩:=d;rcases b with⟨⟨A,b⟩,u,_⟩|⟨C,o,D,G,T2,H,b,_⟩
    ·injection b with b l x;rw[l,<-u]
    ·injection b with b l x
   subst t;exact(⟨d,a,rfl⟩:VB S E (.cl e i) _)
  ·exact f
def sg(V:Nat->Value):Nat->Nat->LV
 |_,0=>[]|i,n+1=>V i::sg V (i+1) n
def gh:LV->Value
 |[u]=>u|l=>.tuple l.toArray
def Sa(hp:List AO):Prop:=∀(i a:Nat) (e:Ty) (T:TypeId) (b:List (den e)),hp[i]? = some (.H' a e T b)->a=0
structure P' (P:Program) (G:List (Nat×Obj)) (f:FuncId) (c:SC):Prop where
 fn:s8 P f
 ok:∀(S:Mem) (w:World) (us:LV) (E:List EI) (L:List Q0) (a:b8 c.I.o8) (d:DS c.outs),GS G S->us.length=c.I.sl.length->l3 ⟨S,U5 L,w⟩ S E L (c.I.put a) (fun t=>us.getD t undef) w->c.p a=some d ->
  Calls P f us.toArray w fun e w'=>∃v,e = .returned v/\∃S' E' L' σo V',(∀{γ:Type} (k:Ex->St->Option γ),out [] c.outs d k=k .normal σo)/\Mem.le S S'/\l8 c.I.hp.length E E'/\l3 ⟨S,U5 L,w⟩ S' E' L' σo V' w'/\Sa σo.hp/\c.I.hp.length<=σo.hp.length/\v=gh (sg V' 0 c.nr)
structure PCB (P:Program) (B:r9) (f:FuncId) (c:PC):Prop where
 fn:s8 P f
 ok:∀(S:Mem) (w:World) (us:LV) (a:b8 (c.ash.flatMap Sh.o8)) (y:b8 c.rts),At B S w->Sub S w->A2 (VR S []) (Wb c.ash (rc _ a)).1 us->c.p a=some y ->
  Calls P f us.toArray w fun e w'=>Ext w w'/\∃v,e = .returned v/\Be (gr S w w') c.rts v y/\(c.cl=true->∃a n,v = .slice a n n)
structure SU (P:Program) (B:r9) (f:FuncId) (c:SC):Prop where
 fn:s8 P f
 ok:∀(S:Mem) (w:World) (us:LV) (E:List EI) (L:List Q0) (a:b8 c.I.o8) (d:DS c.outs),At B S w->us.length=c.I.sl.length->l3 ⟨S,U5 L,w⟩ S E L (c.I.put a) (fun t=>us.getD t undef) w->c.p a=some d ->
  Calls P f us.toArray w fun e w'=>∃v,e = .returned v/\∃S' E' L' σo V',(∀{γ:Type} (k:Ex->St->Option γ),out [] c.outs d k=k .normal σo)/\Mem.le S S'/\l8 c.I.hp.length E E'/\l3 ⟨S,U5 L,w⟩ S' E' L' σo V' w'/\Sa σo.hp/\c.I.hp.length<=σo.hp.length/\v=gh (sg V' 0 c.nr)
structure X6 (P:Program) (Γ:CT) (B:r9):Prop where
 pc:∀f c,Ds Γ.pc f=some c->PCB P B f c
 sc:∀f c,c∈ze Γ.sc f->SU P B f c
section
variable {n:Nat}{P:Program}{B:r9}{S S':Mem}{E E':List EI}{L L':List Q0}{σ:St}{m:FM}{w w':World}
theorem e9.all{b:Nat}{cs:LV}{T:TypeId}{fz:Nat×Nat}(h:w.heap[b]? = some (.cells cs.toArray T fz)):e9 (Re w) b 0 cs:=⟨cs,T,fz,h,by omega,by rw[P9];simp⟩
theorem Rel.Uw(R:Rel n B S E L σ m w):Ns S (Re w) E σ.hp:=⟨fun id o e T z u h c=>by
  obtain⟨p,q,d,f,v,v',s,A,rfl,rfl,i,j⟩:=R.P6 h;obtain⟨_,t,a,l⟩:=c;rw[f]at a;cases a;rw[(l _ _ _ rfl).2 rfl];exact⟨v',rfl,j.rd R.hs.sub (x8.KP R.hs d i (gd e))⟩,fun id T s u h c=>by
  obtain⟨p,q,d,f,b,x,rfl,rfl,i⟩:=R.P6 h;obtain⟨C,y,t,a,l⟩:=c;rw[f]at a;cases a;cases l _ rfl
  exact⟨b,x,y,e9.all (R.hs.own id _ d),i⟩⟩
theorem ZJ(R:Rel n B S E L σ m w){x:Operand}{ash:List Operand}{f:Nat}{xs:List SV}(h:kw σ x ash=some (f,xs)):∃(first cap:Array Value) (l:LV),o0 n m x = .func (.func f) first cap/\first.toList++ash.map (o0 n m)++cap.toList=l/\A2 (VR S E) xs l:=by
 unfold kw at h;split at h
 ·rename_i p a c d e has;cases h;obtain⟨b,ws,i,j,o⟩:=p7 R e;have up:∀{l:List SV} {b:LV},A2 (VA (VB S E)) l b->A2 (VR S E) l b:=fun h=>h.imp fun _ _ h=>VR.of (h.imp fun _ _=>VB.c);exact⟨b.toArray,ws.toArray,_,i,rfl,((up j).X0 (ng R has)).X0 (up o)⟩
 ·cases h
theorem TU{a γ:Type}{g:Nat->a->γ}:∀{l:List a} {j i:Nat},(Qa g j l)[i]? = (l[i]?).map (g (j+i))
 |[],_,_=>by simp[Qa]
 |x::l,j,0=>by simp[Qa]
 |x::l,j,i+1=>by simp only[Qa,cD];rw[TU (l:=l)];congr 1;rw[show j+1+i=j+(i+1) by omega]
theorem tg{a γ:Type}{g:Nat->a->γ}:∀{l:List a} {j:Nat},(Qa g j l).length=l.length
 |[],_=>rfl|x::l,j=>by simp[Qa,tg (l:=l)]
theorem yuL{i:Nat}:∀{os:List X3} {ids:List Nat} {k0 k:Nat},aa i os ids k0=some k->∃j o,k=k0+j/\os[j]? = some o/\live o=true/\ids[j]? = some i
 |[],_,_,_,h=>by cases h
 |_::_,[],_,_,h=>by cases h
 |o::os,id::ids,k0,k,h=>by
  unfold aa at h;cases a:live o&&aJ id i with
  |true=>rw[a]at h;cases h;have:=aB (Y4 a);subst this;exact⟨0,o,rfl,rfl,Z3 a,rfl⟩
  |false=>rw[a]at h;obtain⟨j,b,f,c,d,e⟩:=yuL (k0:=k0+1) h;exact⟨j+1,b,by omega,by simpa using c,d,by simpa using e⟩
theorem Cp{i:Nat}:∀{os:List X3} {ids:List Nat} {k0 j:Nat} {o:X3},os[j]? = some o->live o=true->ids[j]? = some i->∃k,aa i os ids k0=some k
 |[],_,_,_,_,h,_,_=>by simp at h
 |_::_,[],_,_,_,_,_,h=>by simp at h
 |o::os,id::ids,k0,j,e,a,c,b=>by
  unfold aa;cases d:live o&&aJ id i with
  |true=>exact⟨_,rfl⟩|false=>
   cases j with
   |zero=>simp at a b;subst a;subst b;rw[c,eJ]at d;cases d
   |succ j=>exact Cp (j:=j) (by simpa using a) c (by simpa using b)
theorem HS.Vw(H:HS B S w L):HS ⟨S,U5 L,w⟩ S w L:=
 ⟨Fr.refl _ _,H.sub,fun _ _ _=>rfl,H.own,fun k r b a c=>⟨.inr (Dh.2 ⟨k,r,a,c⟩),(H.old k r b a c).2⟩,H.inj⟩
theorem HS.back{l p:List Q0}(H:HS B S w L)(c:HS ⟨S,U5 l,w⟩ S' w' L')(t:∀b∈U5 l,b∈U5 L) (z:∀i r,Y3 p i=some r->r = .H' (.slice none 0 0) 0 0 [] [] 0∨(∃j,Y3 L' j=some r)∨(∃j,Y3 L j=some r/\∀b,r.has b->b∉U5 l)) (A:∀i j r s b,Y3 p i=some r->Y3 p j=some s->r.has b->s.has b->i=j):HS B S' w' p:=by
 have own:∀b,b∈U5 L->B.w0.heap.size<=b∨b∈B.X:=fun b a=>by obtain⟨k,r,q,C⟩:=Dh.1 a;exact(H.old k r b q C).1
 refine⟨⟨c.fr.os.trans H.fr.os,c.fr.tape.trans H.fr.tape,c.fr.output.trans H.fr.output,bB H.fr.size c.fr.size,fun k q o=>?_⟩,c.sub,fun b a o=>?_,fun i r u=>?_,fun i r b u a=>?_,A⟩
 ·have e:k∉U5 l:=fun v=>by
   rcases own k (t k v)with h|h
   ·omega
   ·exact o h
  exact(c.fr.block k (cQ q H.fr.size) e).trans (H.fr.block k q o)
 ·have e:b∉U5 l:=fun v=>by
   rcases own b (t b v)with h|h
   ·omega
   ·exact o h
  exact(c.keep b (cQ a H.fr.size) e).trans (H.keep b a o)
 ·rcases z i r u with rfl|⟨j,d⟩|⟨j,d,x⟩
  ·exact .inl ⟨rfl,rfl,rfl,rfl⟩
  ·exact c.own j r d
  ·exact Q0.holds_of (H.own j r d) fun b a=>c.fr.block b (H.a8 d a) (x b a)
 ·rcases z i r u with rfl|⟨j,d⟩|⟨j,d,x⟩
  ·cases a
  ·obtain⟨f,y⟩:=c.old j r b d a;refine⟨?_,y⟩;rcases f with f|f
   ·exact .inl (bB H.fr.size f)
   ·exact own b (t b f)
  ·obtain⟨f,y⟩:=H.old j r b d a;exact⟨f,(c.keep b (H.a8 d a) (x b a)).trans y⟩
def ug(F vf:Nat->Nat)(E' E2:List EI):Prop:=∀(k:Nat) c,E'[k]? = some c->∃a,E2[F k]? = some a/\(∀b,a = .N' b->c = .N' b)/\(∀r v s,a = .H' r v s->vf k<=r/\(vf k=r->c = .H' 0 v s))/\(∀g b ck d,a = .mp g b ck d->∃e,c = .mp e b ck d)/\∀r v f,a≠.U4 r v f
section
variable {F vf:Nat->Nat}{E2:List EI}
theorem xdV(p:ug F vf E' E2){x:SV}{u:Value}(h:VB S E' x u):VB S E2 (tl F vf x) u:=by
 cases x with
 |ptr id t=>obtain⟨b,I,e,a,o⟩:=h;obtain⟨c,d,f,_,_,_⟩:=p id e a;exact⟨b,I,c,d,fun H A=>o H (f H A)⟩
 |own id q=>obtain⟨j,e,a,o⟩:=h;obtain⟨c,d,_,f,_,_⟩:=p id e a;refine⟨j,c,d,fun r v s l=>?_⟩;obtain⟨y,C⟩:=f r v s l;refine⟨y,fun D=>?_⟩;obtain⟨J,G⟩:=o _ _ _ (C D);exact G (by omega)
 |mpr id=>obtain⟨j,e,a,o⟩:=h;obtain⟨c,d,_,_,f,_⟩:=p id e a;refine⟨j,c,d,fun g b ck M l=>?_⟩;obtain⟨N,y⟩:=f g b ck M l;exact o _ _ _ _ y
 |ep id q i t=>obtain⟨j,e,a,o⟩:=h;obtain⟨c,d,_,f,_,_⟩:=p id e a;refine⟨j,c,d,fun r v s l=>?_⟩;obtain⟨y,C⟩:=f r v s l;refine⟨y,fun D=>?_⟩;obtain⟨J,G⟩:=o _ _ _ (C D);exact G (by omega)
 |fs id q=>obtain⟨j,e,a,o⟩:=h;obtain⟨c,d,_,_,_,f⟩:=p id e a;exact⟨j,c,d,fun r v z l=>absurd l (f r v z)⟩
 |fe id q i=>obtain⟨j,e,a,o⟩:=h;obtain⟨c,d,_,_,_,f⟩:=p id e a;exact⟨j,c,d,fun r v z l=>absurd l (f r v z)⟩
 |fp id i t=>obtain⟨j,e,a,o⟩:=h;obtain⟨c,d,_,_,_,f⟩:=p id e a;exact⟨j,c,d,fun r v z l=>absurd l (f r v z)⟩
 |v=>exact h|Y'=>exact h|v7=>exact h|z6=>exact h|xb=>exact h|ye=>exact h|cl=>exact h|nn=>exact h|rp=>exact h|_=>exact h.elim
theorem Ws{x:SV}(h:oa x=true):oa (tl F vf x)=true:=by cases x<;>first|rfl|cases h
theorem DD{x:SV}(h:oa x=true):Is F vf x=tl F vf x:=by cases x<;>first|rfl|cases h
theorem ED{x:SV}(h:oa x=true):nw F vf x=bd F vf x:=by cases x<;>first|rfl|cases h
theorem ki(a:ug F vf E' E2){x:SV}{u:Value}(h:VA (VB S E') x u):VA (VB S E2) (Is F vf x) u:=by
 cases x with
 |ag l=>obtain⟨c,d,h⟩:=h;exact⟨c,d,h.map (f:=tl F vf) fun _ _=>xdV a⟩
 |_=>rw[DD rfl];exact VA.of (xdV a h.b) (Ws rfl)
theorem BQ(d:ug F vf E' E2){x:SV}{u:Value}(h:VC S E' x u):VC S E2 (bd F vf x) u:=by
 cases x with
 |fn g a c=>obtain⟨e,ws,i,j,l⟩:=h;exact⟨e,ws,i,j.map (f:=Is F vf) fun _ _=>ki d,l.map (f:=Is F vf) fun _ _=>ki d⟩
 |_=>exact(xdV d h.b).c
theorem Xs{x:SV}(h:oa x=true):oa (bd F vf x)=true:=by cases x<;>first|rfl|cases h
theorem FD(a:ug F vf E' E2){x:SV}{u:Value}(h:VA (VC S E') x u):VA (VC S E2) (nw F vf x) u:=by
 cases x with
 |ag l=>obtain⟨c,d,h⟩:=h;exact⟨c,d,h.map (f:=bd F vf) fun _ _=>BQ a⟩
 |_=>rw[ED rfl];exact VA.of (BQ a h.b) (Xs rfl)
end
def ec:EI->EI->EI
 |_,.N' b=>.N' b|.H' r _ _,.H' _ v s=>.H' r v s|.mp g _ _ _,.mp a b ck c=>.mp (a+g) b ck c|_,_=>.dead
def GD:X3->AO->Bool
 |.N' _ _,.N' _ _=>true|.H' _ _,.H' _ _ _ _=>true|.mp _ _ _,.mp _ _ _ _=>true|.it _ _ _,.it _ _ _ _ _=>true|.is,.is _ _=>true|.qu _ _,.qu _ _ _ _=>true|.U4 _ _,.U4 _ _ _ _=>true|_,_=>false
theorem ypN{ρ:List Nat}{hp:List AO}:∀{os:List X3} {ids:List Nat} {q:List SV} {k id:Nat} {o:X3},Hb ρ hp os ids=some q->os[k]? = some o->live o=true->ids[k]? = some id->∃b,hp[id]? = some b/\GD o b=true
 |[],_,_,_,_,_,_,h,_,_=>by simp at h
 |_::_,[],_,_,_,_,_,_,_,h=>by simp at h
 |o::os,i::ids,q,k,id,A,h,x,C,y=>by
  have t:∀{q},Hb ρ hp os ids=some q->k≠0->∃b,hp[id]? = some b/\GD A b=true:=fun {q} G a=>by
   cases k with
   |zero=>exact absurd rfl a|succ k=>exact ypN G (by simpa using x) C (by simpa using y)
  have u:∀{b},k=0->V5 hp i=some b->GD o b=true->∃b,hp[id]? = some b/\GD A b=true:=fun {b} a H c=>by subst a;simp only[aQ,Nat.zero_lt_succ,aH,List.getElem_cons_zero,Option.some.injEq]at x y;subst x;subst y;exact⟨b,by rw[<-Fa];exact H,c⟩
  cases o with
  |dead=>simp only[Hb]at h;refine t h fun e=>?_;subst e;simp at x;subst x;cases C
  |N' T l=>
   simp only[Hb]at h;split at h
   ·rename_i v U d;by_cases a:k=0
    ·exact u a d rfl
    ·cases c:aJ T v with
     |false=>rw[c]at h;cases h
     |true=>
      rw[c]at h;simp only[zF]at h;split at h
      ·rename_i s;exact t s a
      ·cases h
   ·cases h
  |H' e T=>
   simp only[Hb]at h;split at h
   ·rename_i z I v J d;by_cases a:k=0
    ·exact u a d rfl
    ·cases c:aJ T v with
     |false=>rw[c]at h;cases h
     |true=>
      rw[c]at h;simp only[zF]at h;split at h
      ·rename_i s;exact t s a
      ·cases h
   ·cases h
  |qu e T=>
   simp only[Hb]at h;split at h
   ·rename_i z I v J d;by_cases a:k=0
    ·exact u a d rfl
    ·cases c:aJ T v with
     |false=>rw[c]at h;cases h
     |true=>
      rw[c]at h;simp only[zF]at h;split at h
      ·rename_i s;exact t s a
      ·cases h
   ·cases h
  |mp kp W X=>
   simp only[Hb]at h;split at h
   ·rename_i g M Y Z d;by_cases a:k=0
    ·exact u a d rfl
    ·split at h
     ·rename_i s;exact t s a
     ·cases h
   ·cases h
  |is=>
   simp only[Hb]at h;split at h
   ·rename_i l p q1 d s;by_cases a:k=0
    ·exact u a d rfl
    ·exact t s a
   ·cases h
  |U4 T f=>
   simp only[Hb]at h;split at h
   ·rename_i r v f' N d;by_cases a:k=0
    ·exact u a d rfl
    ·cases c:aJ T v with
     |false=>rw[c]at h;cases h
     |true=>
      rw[c]at h;simp only[zF]at h;split at h
      ·rename_i O;exact t O a
      ·cases h
   ·cases h
  |it j kp K=>
   simp only[Hb]at h;split at h
   ·rename_i Q g M R N D d hm;by_cases a:k=0
    ·exact u a d rfl
    ·split at h
     ·obtain⟨_,h⟩:=r7 h;split at h
      ·rename_i s;exact t s a
      ·cases h
     ·cases h
   ·cases h
theorem Rl{x:AO}{r':Q0}{e':EI}(a:pw x=true)(b:OR S' E' x r' e'):∀r v c,e'≠.U4 r v c:=fun r v c d=>by
 subst d;cases x with
 |N'=>obtain⟨_,_,_,h,_⟩:=b;cases h
 |H'=>obtain⟨_,_,_,_,_,h,_⟩:=b;cases h
 |mp=>obtain⟨_,_,_,_,h,_⟩:=b;cases h
 |it=>cases a
 |is=>cases a
 |qu=>cases a
 |U4=>cases a
 |wa=>cases a
 |dead=>cases b.2
theorem mi{F vf:Nat->Nat}{E2:List EI}(Z:ug F vf E' E2){o:X3}{p x:AO}{r0 r':Q0}{e e':EI}(hk:GD o p=true)(q:OR S E p r0 e)(i:(∃r v s,Dk o (some e) = .H' r v s/\(e' = .dead∨∃r' v',e' = .H' r' v' s/\(r'=0->r=0/\v'=v)))∨((∀r v s,Dk o (some e)≠.H' r v s)/\Bc (Dk o (some e)) e'))(d:OR S' E' x r' e')(a:pw x=true)(J:sU o=true)(hv:∀u e T (xs:List (den e)),x = .H' u e T xs->u=0):
  OR S' E2 (vl F vf p (some x)) r' (ec e e')/\e.le (ec e e'):=by
 have dead:e' = .dead->OR S' E2 (vl F vf p (some x)) r' (ec e e')/\e.le (ec e e'):=fun A=>by
  subst A;cases x with
  |N'=>obtain⟨_,_,_,h,_⟩:=d;cases h
  |H'=>obtain⟨_,_,_,_,_,h,_⟩:=d;cases h
  |mp=>obtain⟨_,_,_,_,h,_⟩:=d;cases h
  |it=>cases a
  |is=>cases a
  |qu=>cases a
  |U4=>cases a
  |wa=>cases a
  |dead=>
   have C:vl F vf p (some .dead) = .dead:=by cases p<;>rfl
   have M:ec e .dead = .dead:=by cases e<;>rfl
   rw[C,M];refine⟨⟨d.1,rfl⟩,?_⟩;cases e with
   |N'=>exact .inr rfl|H'=>exact .inr (.inl rfl)|mp=>exact .inl rfl|U4=>exact .inr (.inl rfl)|dead=>rfl
 have QT:∀{b:Nat},e = .N' b->Dk o (some e) = .N' b->OR S' E2 (vl F vf p (some x)) r' (ec e e')/\e.le (ec e e'):=fun {b} A hb=>by
  subst A;rw[hb]at i;rcases i with⟨_,_,_,h,_⟩|⟨_,i⟩
  ·cases h
  ·rcases i with h|h|⟨_,_,_,_,_,_,_,h,_⟩|⟨_,_,_,_,_,_,h,_⟩
   ·exact dead h
   ·have h:e' = .N' b:=h;subst h;cases x with
    |N' T2 D=>
     obtain⟨b2,N,G,H,z⟩:=d;cases H;have C:vl F vf p (some (.N' T2 D)) = .N' T2 (D.map (bd F vf)):=by cases p<;>rfl
     rw[C];exact⟨⟨b,N,G,rfl,z.map (f:=bd F vf) fun _ _=>BQ Z⟩,.inl rfl⟩
    |H'=>obtain⟨_,_,_,_,_,h,_⟩:=d;cases h
    |mp=>obtain⟨_,_,_,_,h,_⟩:=d;cases h
    |it=>cases a
    |is=>cases a
    |qu=>cases a
    |U4=>cases a
    |wa=>cases a
    |dead=>cases d.2
   ·cases h
   ·cases h
 cases o with
 |dead=>cases hk
 |N' T l=>
  cases p with
  |N' X cs=>obtain⟨b,us,_,rfl,_⟩:=q;exact QT rfl rfl
  |_=>cases hk
 |it j kp K=>
  cases p with
  |it=>obtain⟨b,_,_,_,_,rfl,_⟩:=q;exact QT rfl rfl
  |_=>cases hk
 |qu=>cases J
 |is=>
  cases p with
  |is=>obtain⟨b,_,rfl⟩:=q;exact QT rfl rfl
  |_=>cases hk
 |U4 T f=>
  cases p with
  |U4 u X f' ks=>
   obtain⟨v,rs,ms,bs,_,rfl,_⟩:=q;rcases i with⟨_,_,_,h,_⟩|⟨_,i⟩
   ·cases h
   ·rcases i with h|h|⟨_,_,_,_,_,_,_,h,_⟩|⟨_,_,_,_,_,_,_,h⟩
    ·exact dead h
    ·exact absurd h (Rl a d _ _ _)
    ·cases h
    ·exact absurd h (Rl a d _ _ _)
  |_=>cases hk
 |H' e0 T=>
  cases p with
  |H' u t X xs=>
   obtain⟨v,v',cs,rs,_,rfl,_,_⟩:=q;rcases i with⟨r1,v1,s1,h,i⟩|⟨hn,_⟩
   ·cases h;rcases i with i|⟨r2,v2,rfl,i⟩
    ·exact dead i
    ·cases x with
     |H' Y t2 T2 xs2=>
      have:=hv _ _ _ _ rfl;subst this;obtain⟨v3,v4,O,Q,G,H,z,R⟩:=d;injection H with C M e3;subst C;subst M;obtain⟨_,e4⟩:=i rfl;refine⟨⟨v3,_,O,Q,G,?_,z,R⟩,?_⟩
      ·show EI.H' u v2 (l0 t)=_;rw[e3]
      ·exact .inl (by rw[e4];rfl)
     |N'=>obtain⟨_,_,_,h,_⟩:=d;cases h
     |mp=>obtain⟨_,_,_,_,h,_⟩:=d;cases h
     |it=>cases a
     |is=>cases a
     |qu=>cases a
     |U4=>cases a
     |wa=>cases a
     |dead=>cases d.2
   ·exact absurd rfl (hn _ _ _)
  |_=>cases hk
 |mp kp K V=>
  cases p with
  |mp g K' V' es=>
   obtain⟨b,Q',ck,_,rfl,_,_⟩:=q;rcases i with⟨_,_,_,h,_⟩|⟨_,i⟩
   ·cases h
   ·have key:∀{I y c},e' = .mp I b y c->(I=0->y=ck/\T9 Q' c)->OR S' E2 (vl F vf (.mp g K' V' es) (some x)) r' (ec (.mp g b ck Q') e')/\(EI.mp g b ck Q').le (ec (.mp g b ck Q') e'):=fun {I y c} A hg=>by
     subst A;cases x with
     |mp g2 K2 V2 U=>
      obtain⟨b2,W,ck2,G,H,z,R⟩:=d;cases H;refine⟨⟨b,c,y,G,rfl,z,R⟩,.inr ⟨_,_,_,rfl,?_⟩⟩;by_cases q:I=0
      ·obtain⟨h5,h6⟩:=hg q;exact .inr ⟨by omega,h5.symm,h6⟩
      ·exact .inl (by omega)
     |N'=>obtain⟨_,_,_,h,_⟩:=d;cases h
     |H'=>obtain⟨_,_,_,_,_,h,_⟩:=d;cases h
     |it=>cases a
     |is=>cases a
     |qu=>cases a
     |U4=>cases a
     |wa=>cases a
     |dead=>cases d.2
    rcases i with h|h|⟨g1,b1,c1,es1,g2,c2,U,h,h',z⟩|⟨_,_,_,_,_,_,h,_⟩
    ·exact dead h
    ·exact key h fun _=>⟨rfl,T9.refl _⟩
    ·cases h;exact key h' fun q=>⟨(z q).2.1,(z q).2.2⟩
    ·cases h
  |_=>cases hk
end
section
variable {β:Type}{τ:TE}{Γ:CT}{n:Nat}{P:Program}{B:r9}{S S':Mem}{E E':List EI}{L L':List Q0}{σ σo:St}{m:FM}{w w':World}{dst:Option Tmp}{g:Option (Nat×Bool)}{ty:TypeId}{pos:String}{aft:Array Edge}{T:TypeId}{k:SV->St->Option β}{r:β}
def j6(n:Nat)(B:r9)(S:Mem)(E:List EI)(m:FM)(k:SV->St->Option β)(r:β)(v:Value)(w':World):Prop:=
 ∃x a S' E' L',k x a=some r/\Mem.le S S'/\V4 E E'/\Rel n B S' E' L' a m w'/\VR S' E' x v
def vg(n:Nat)(B:r9)(S:Mem)(E:List EI)(m:FM)(k:SV->St->Option β)(r:β)(F:List Q0->Prop)(v:Value)(w':World):Prop:=
 ∃x a S' E' L',k x a=some r/\Mem.le S S'/\V4 E E'/\Rel n B S' E' L' a m w'/\VR S' E' x v/\F L'
theorem vg.two{k:SV->St->Option β}{r:β}{F:List Q0->Prop}{v:Value}(h:vg n B S E m k r F v w'):j6 n B S E m k r v w':=by obtain⟨x,a,S',E',L',b,c,d,e,f,_⟩:=h;exact⟨x,a,S',E',L',b,c,d,e,f⟩
def Z5(n:Nat)(B:r9)(S:Mem)(E:List EI)(L:List Q0)(I:List Nat)(m:FM)(k:SV->St->Option β)(r:β)(v:Value)(w':World):Prop:=
 ∃x a S' E' L',k x a=some r/\Mem.le S S'/\V4 E E'/\Rel n B S' E' L' a m w'/\VR S' E' x v/\∀i,j0 I i=false->i<L.length->Y3 L' i=Y3 L i
theorem Z5.two{I:List Nat}{k:SV->St->Option β}{r:β}{v:Value}(h:Z5 n B S E L I m k r v w'):j6 n B S E m k r v w':=by obtain⟨x,a,S',E',L',b,c,d,e,f,_⟩:=h;exact⟨x,a,S',E',L',b,c,d,e,f⟩
theorem Z5.sub{I b:List Nat}{k:SV->St->Option β}{r:β}{v:Value}(h:Z5 n B S E L I m k r v w')(hI:∀i,j0 b i=false->i<L.length->j0 I i=false):Z5 n B S E L b m k r v w':=by obtain⟨x,a,S',E',L',d,e,f,j,l,o⟩:=h;exact⟨x,a,S',E',L',d,e,f,j,l,fun i p c=>o i (hI i p c) c⟩
theorem UU{L:List Q0}{r:Q0}{i:Nat}(a:i<L.length):Y3 (L++[r]) i=Y3 L i:=by rw[N7,N7,aF a]
theorem VU{id j:Nat}(h:j0 [id] j=false):id≠j:=fun e=>by subst e;simp[j0]at h
theorem ua.two{o:Oper}(R:Rel n B S E L σ m w)(h:ua P S E (o0 n m) o (fun x=>k x σ) r (fun w'=>HS B S w' L)):outcome P (j6 n B S E m k r) ((execOp (o0 n m) o).run P w):=by obtain⟨z,u,a,b,c⟩:=h;rw[c w R.hs];exact⟨z,σ,S,E,L,a,Mem.le_refl _,V4.refl _,R,b⟩
theorem l3.call{V:Nat->Value}(R:l3 B S E L σ V w){w':World}(a:Ext w w'):l3 B (gr S w w') E L σ V w':=
 ⟨R.hs.call a,R.lL,R.lE,fun i o h=>by
  obtain⟨r,e,b,c,d⟩:=R.obj i o h
  exact⟨r,e,b,c,d.mono (nG R.hs.sub) (V4.refl E)⟩,fun t=>(R.sl t).mono (nG R.hs.sub) (V4.refl E)⟩
theorem Dp{V:Nat->Value}{F vf:Nat->Nat}{E2:List EI}(c:ug F vf E' E2){sl:List (Nat×SV)}(d:∀t,VR S' E' (z7 sl t) (V t)):∀(nr i:Nat),(Qh sl i nr).all Ib=true->A2 (VA (VC S' E2)) ((Qh sl i nr).map (nw F vf)) (sg V i nr)
 |0,_,_=>.nil|nr+1,i,a=>by simp only[Qh,cT,Bool.and_eq_true]at a;exact .cons (FD c ((d i).b a.1)) (Dp c d nr (i+1) a.2)
theorem HD:∀{xs:List SV} {us:LV},A2 (VA (VC S E)) xs us->VR S E (yJ xs) (gh us)
 |_,_,.nil=>⟨[],rfl,.nil⟩|_,_,.cons a .nil=>VR.of a|_,_,.cons a (.cons b t)=>⟨_,rfl,.cons a (.cons b t)⟩
theorem ni(R:Rel n B S E L σ m w){os:List X3}{ρ:List Nat}{V':Nat->Value}{nr:Nat}{q:List SV}(hlen:os.length=ρ.length)(hd:Wf os ρ=true)(I:Hb ρ σ.hp os ρ=some q) (hS:Mem.le S S') (hP:l8 os.length (tc E os ρ) E') (R':l3 ⟨S,U5 (ib L os ρ),w⟩ S' E' L' σo V' w') (hV:Sa σo.hp) (hle:os.length<=σo.hp.length) (hn:(Qh σo.sl 0 nr).all Ib=true) (hni:σo.hp.all pw=true) (hqs:os.all sU=true) (h:k (yJ ((Qh σo.sl 0 nr).map (nw (Zf os ρ σ.hp.length) fun id=>mw σ.hp (Zf os ρ σ.hp.length id)))) ⟨σ.sl,ow (Zf os ρ σ.hp.length) (fun id=>mw σ.hp (Zf os ρ σ.hp.length id)) os ρ σo.hp σ.hp++(.dead::(σo.hp.drop os.length).map (ul (Zf os ρ σ.hp.length) fun id=>mw σ.hp (Zf os ρ σ.hp.length id)))⟩=some r):
  vg n B S E m k r (fun L2=>∀i,i<L.length->aa i os ρ 0=none->L2[i]? = L[i]?) (gh (sg V' 0 nr)) w':=by
 let E2:List EI:=Qa (fun i e=>match aa i os ρ 0 with
  |some k=>ec e (E'[k]?.getD .dead)|none=>e) 0 E++(.dead::E'.drop os.length)
 let L2:List Q0:=Qa (fun i r=>match aa i os ρ 0 with
  |some k=>(L'[k]?).getD Bd|none=>r) 0 L++(Bd::L'.drop os.length)
 let F:=Zf os ρ σ.hp.length;let vf:=fun id=>mw σ.hp (F id);have hnq:∀{k:Nat} {o:X3},os[k]? = some o->sU o=true:=fun {k o} y=>bR.1 hqs o (bO y);have z:∀{k:Nat} {x:AO},σo.hp[k]? = some x->pw x=true:=fun {k x} W=>bR.1 hni x (bO W)
 have hE2:∀i,i<σ.hp.length->E2[i]? = (E[i]?).map fun e=>match aa i os ρ 0 with
  |some k=>ec e (E'[k]?.getD .dead)|none=>e:=fun i A=>by
  show(Qa _ 0 E++_)[i]? = _;rw[aF (by rw[tg,R.lE];exact A),TU];simp only[aV]
 have hL2:∀i,i<σ.hp.length->L2[i]? = (L[i]?).map fun r=>match aa i os ρ 0 with
  |some k=>(L'[k]?).getD Bd|none=>r:=fun i A=>by
  show(Qa _ 0 L++_)[i]? = _;rw[aF (by rw[tg,R.lL];exact A),TU];simp only[aV]
 have hE2b:E2[σ.hp.length]? = some .dead:=by show(Qa _ 0 E++_)[_]? = _;rw[aG (by rw[tg,R.lE];exact aL _),tg,R.lE,eK];rfl
 have hL2b:L2[σ.hp.length]? = some Bd:=by show(Qa _ 0 L++_)[_]? = _;rw[aG (by rw[tg,R.lL];exact aL _),tg,R.lL,eK];rfl
 have hE2n:∀j,E2[σ.hp.length+1+j]? = E'[os.length+j]?:=fun j=>by show(Qa _ 0 E++_)[_]? = _;rw[aG (by rw[tg,R.lE];omega),tg,R.lE,show σ.hp.length+1+j-σ.hp.length=j+1 by omega,cD,bU]
 have hL2n:∀j,L2[σ.hp.length+1+j]? = L'[os.length+j]?:=fun j=>by show(Qa _ 0 L++_)[_]? = _;rw[aG (by rw[tg,R.lL];omega),tg,R.lL,show σ.hp.length+1+j-σ.hp.length=j+1 by omega,cD,bU]
 have one:∀{i k:Nat},aa i os ρ 0=some k->∃o ao r0 e x N H,os[k]? = some o/\live o=true/\ρ[k]? = some i/\i<σ.hp.length/\σ.hp[i]? = some ao/\GD o ao=true/\L[i]? = some r0/\E[i]? = some e/\OR S E ao r0 e/\σo.hp[k]? = some x/\L'[k]? = some N/\E'[k]? = some H/\OR S' E' x N H /\
   ((∃r v s,Dk o (some e) = .H' r v s/\(H = .dead∨∃N v',H = .H' N v' s/\(N=0->r=0/\v'=v)))∨((∀r v s,Dk o (some e)≠.H' r v s)/\Bc (Dk o (some e)) H)):=fun {i k} hk=>by
  obtain⟨j,o,d,p,D,C⟩:=yuL hk;rw[aV]at d;subst d;obtain⟨ao,u,Q⟩:=ypN I p D C;have A:i<σ.hp.length:=(aC.1 u).1;obtain⟨r0,e,h7,h8,X⟩:=R.obj i ao u;have hko:k<os.length:=(aC.1 p).1;have hkx:k<σo.hp.length:=cQ hko hle;obtain⟨N,H,G,Y,O⟩:=R'.obj k _ (aH hkx);obtain⟨o',g4,g5⟩:=Ql E os ρ k i hlen C;rw[p]at g4;cases g4;rw[h8]at g5;obtain⟨e1,g6,g7⟩:=hP k _ hko g5;rw[Y]at g6;cases g6;exact⟨o,ao,r0,e,_,N,H,p,D,C,A,u,Q,h7,h8,X,aH hkx,G,Y,O,g7⟩
 have uniq:∀{k o i},os[k]? = some o->live o=true->ρ[k]? = some i->aa i os ρ 0=some k:=fun {k o i} d p D=>by obtain⟨k',hk'⟩:=Cp (k0:=0) d p D;obtain⟨j,o',C,u,Q,h7⟩:=yuL hk';rw[aV]at C;subst C;have:=NU hd d p D u Q h7;subst this;exact hk'
 have hF:∀{k o i},os[k]? = some o->live o=true->ρ[k]? = some i->F k=i:=fun {k o i} d p D=>by show Zf os ρ σ.hp.length k=i;unfold Zf;rw[Fa,Fa,d,D];simp only[p,zF]
 have J:ug F vf E' E2:=fun k H hk=>by
  by_cases hko:k<os.length
  ·have y:=aH hko;have hρ:=aH (l:=ρ) (i:=k) (by omega);cases hlv:live os[k] with
   |false=>
    have:F k=σ.hp.length:=by show Zf os ρ σ.hp.length k=_;unfold Zf;rw[Fa,Fa,y,hρ];simp only[hlv,zH]
    exact⟨.dead,by rw[this];exact hE2b,fun _ h=>(by cases h),fun _ _ _ h=>(by cases h),fun _ _ _ _ h=>(by cases h),fun _ _ _ h=>(by cases h)⟩
   |true=>
    have hs:=uniq y hlv hρ;obtain⟨o,ao,r0,e,x,N,e1,d,p,D,C,u,Q,h7,h8,X,G,Y,O,g4,g5⟩:=one hs;rw[hk]at O;cases O;have hFk:=hF d p D;refine⟨ec e H,by rw[hFk,hE2 _ C,h8,aX,hs];simp only[hk,dH],fun b c=>?_,fun r v s c=>?_,fun g b ck es c=>?_,fun r v bs c=>?_⟩
    ·cases H with
     |N' b'=>cases e<;>(cases c;rfl)
     |H' r v s=>cases e<;>cases c
     |mp=>cases e<;>cases c
     |U4=>cases e<;>cases c
     |dead=>cases e<;>cases c
    ·cases H with
     |N' b'=>cases e<;>cases c
     |H' r1 v1 s1=>
      cases e with
      |H' r0' v0 s0=>
       cases c;have hvf:vf k=r:=by
        show mw σ.hp (F k)=r;rw[hFk];unfold mw;rw[Fa,u];cases ao with
        |H' ver t T' xs=>obtain⟨_,_,_,_,_,M,_⟩:=X;cases M;rfl
        |N'=>obtain⟨_,_,_,M,_⟩:=X;cases M
        |mp=>obtain⟨_,_,_,_,M,_⟩:=X;cases M
        |it=>obtain⟨_,_,_,_,_,M,_⟩:=X;cases M
        |is=>obtain⟨_,_,M⟩:=X;cases M
        |qu=>cases o<;>first|(cases Q;done)|(cases hnq d;done)
        |U4=>obtain⟨_,_,_,_,_,M,_⟩:=X;cases M
        |wa=>obtain⟨_,_,_,_,_,_,_,M,_⟩:=X;cases M
        |dead=>cases X.2
       refine⟨eI hvf,fun _=>?_⟩;cases x with
       |H' ver t T' xs=>have:=hV _ _ _ _ _ G;subst this;obtain⟨_,_,_,_,_,M,_⟩:=g4;cases M;rfl
       |N'=>obtain⟨_,_,_,M,_⟩:=g4;cases M
       |mp=>obtain⟨_,_,_,_,M,_⟩:=g4;cases M
       |it=>cases z G
       |is=>cases z G
       |qu=>cases z G
       |U4=>cases z G
       |wa=>cases z G
       |dead=>cases g4.2
      |_=>cases c
     |mp=>cases e<;>cases c
     |U4=>cases e<;>cases c
     |dead=>cases e<;>cases c
    ·cases H with
     |N' b'=>cases e<;>cases c
     |H' r v s=>cases e<;>cases c
     |mp G b1 c1 es1=>cases e<;>first|(cases c;exact⟨_,rfl⟩)|cases c
     |U4=>cases e<;>cases c
     |dead=>cases e<;>cases c
    ·cases H<;>cases e<;>cases c
  ·have hFk:F k=σ.hp.length+1+(k-os.length):=by show Zf os ρ σ.hp.length k=_;unfold Zf;rw[Fa,cB (by omega)]
   have hvf:vf k=0:=by show mw σ.hp (F k)=0;unfold mw;rw[hFk,Fa,cB (by omega)]
   refine⟨H,by rw[hFk,hE2n,show os.length+(k-os.length)=k by omega];exact hk,fun b c=>c,fun r v s c=>⟨by omega,fun h0=>?_⟩,fun g b ck es c=>⟨g,c⟩,?_⟩
   ·rw[c,<-h0,hvf]
   ·have hkl:k<σo.hp.length:=by rw[<-R'.lE];exact(aC.1 hk).1
    obtain⟨N,e1,G,Y,O⟩:=R'.obj k _ (aH hkl);rw[hk]at Y;cases Y;exact Rl (z (aH hkl)) O
 have hEE:V4 E E2:=fun i a ha=>by
  have A:i<σ.hp.length:=by rw[<-R.lE];exact(aC.1 ha).1
  cases hs:aa i os ρ 0 with
  |none=>exact⟨a,by rw[hE2 i A,ha,aX,hs],a.le_refl⟩|some k=>
   obtain⟨o,ao,r0,e,x,N,H,d,p,D,C,u,Q,h7,h8,X,G,Y,O,g4,g5⟩:=one hs;have hea:a=e:=by rw[h8]at ha;exact(ka ha).symm
   rw[hea];exact⟨ec e H,by rw[hE2 i A,h8,aX,hs];simp only[O,dH],(mi J Q X g5 g4 (z G) (hnq d) fun ver e T xs W=>hV k ver e T xs (by rw[G,W])).2⟩
 have U:∀b∈U5 (ib L os ρ),∃k i o r,os[k]? = some o/\live o=true/\ρ[k]? = some i/\Y3 L i=some r/\r.has b:=fun b c=>by
  obtain⟨k,r,d,p⟩:=Dh.1 c;rcases wN L os ρ k r d with rfl|⟨o,i,D,C,u,Q⟩
  ·cases p
  ·exact⟨k,i,o,r,D,C,u,Q,p⟩
 have src:∀i q,L2[i]? = some q->(∃k,q=Bd∨(L'[k]? = some q/\((aa i os ρ 0=some k/\i<σ.hp.length)∨(i=σ.hp.length+1+(k-os.length)/\os.length<=k))))∨(L[i]? = some q/\aa i os ρ 0=none/\i<σ.hp.length):=fun i q I=>by
  by_cases A:i<σ.hp.length
  ·rw[hL2 i A]at I;cases hLi:L[i]? with
   |none=>rw[hLi]at I;cases I
   |some r0=>
    rw[hLi,aX]at I;cases hs:aa i os ρ 0 with
    |none=>rw[hs]at I;cases I;exact .inr ⟨rfl,rfl,A⟩
    |some k=>
     rw[hs]at I;simp only[Option.some.injEq]at I;cases hk:L'[k]? with
     |none=>rw[hk]at I;exact .inl ⟨k,.inl I.symm⟩|some q'=>rw[hk]at I;simp only[dH]at I;subst I;exact .inl ⟨k,.inr ⟨hk,.inl ⟨rfl,A⟩⟩⟩
  ·by_cases hi2:i=σ.hp.length
   ·subst hi2;rw[hL2b]at I;cases I;exact .inl ⟨0,.inl rfl⟩
   ·have:i=σ.hp.length+1+(i-σ.hp.length-1):=by omega
    rw[this,hL2n]at I;exact .inl ⟨os.length+(i-σ.hp.length-1),.inr ⟨I,.inr ⟨by omega,by omega⟩⟩⟩
 have hH:HS B S' w' L2:=by
  refine HS.back R.hs R'.hs (fun b c=>?_) (fun i q A=>?_) (fun i j q s b A hj c Z=>?_)
  ·obtain⟨k,i,o,r,_,_,_,d,p⟩:=U b c;exact Dh.2 ⟨i,r,d,p⟩
  ·rw[N7]at A;rcases src i q A with⟨k,rfl|⟨d,_⟩⟩|⟨d,p,_⟩
   ·exact .inl rfl
   ·exact .inr (.inl ⟨k,by rw[N7];exact d⟩)
   ·refine .inr (.inr ⟨i,by rw[N7];exact d,fun b c hm=>?_⟩);obtain⟨k,i',o,N,D,C,u,Q,h7⟩:=U b hm;have:=R.hs.inj i i' q N b (by rw[N7];exact d) Q c h7;subst this;rw[uniq D C u]at p;cases p
  ·rw[N7]at A hj;have old:∀{i:Nat} {q:Q0} {b:Nat},L[i]? = some q->aa i os ρ 0=none->q.has b->b<w.heap.size/\b∉U5 (ib L os ρ):=fun {i q b} d p D=>by refine⟨R.hs.a8 (by rw[N7];exact d) D,fun hm=>?_⟩;obtain⟨k,i',o,N,C,u,Q,h7,h8⟩:=U b hm;have:=R.hs.inj i i' q N b (by rw[N7];exact d) h7 D h8;subst this;rw[uniq C u Q]at p;cases p
   have new:∀{k:Nat} {q:Q0} {b:Nat},L'[k]? = some q->q.has b->w.heap.size<=b∨b∈U5 (ib L os ρ):=fun {k q b} d p=>(R'.hs.old k q b (by rw[N7];exact d) p).1;rcases src i q A with⟨k,rfl|⟨d,p⟩⟩|⟨d,p,D⟩
   ·cases c
   ·rcases src j s hj with⟨k',rfl|⟨C,u⟩⟩|⟨C,u,Q⟩
    ·cases Z
    ·have:=R'.hs.inj k k' q s b (by rw[N7];exact d) (by rw[N7];exact C) c Z;subst this;rcases p with⟨p,h2'⟩|⟨p,h2'⟩
     ·obtain⟨o,_,_,_,_,_,_,G,_,Y,_⟩:=one p;rcases u with⟨u,h5'⟩|⟨u,h5'⟩
      ·obtain⟨_,_,_,_,_,_,_,_,_,O,_⟩:=one u;rw[Y]at O;cases O;rfl
      ·have:=(aC.1 G).1;omega
     ·rcases u with⟨u,h5'⟩|⟨u,h5'⟩
      ·obtain⟨_,_,_,_,_,_,_,G,_,_⟩:=one u;have:=(aC.1 G).1;omega
      ·omega
    ·obtain⟨k1,k2⟩:=old C u Z;rcases new d c with h|h
     ·omega
     ·exact absurd h k2
   ·rcases src j s hj with⟨k',rfl|⟨C,u⟩⟩|⟨C,u,Q⟩
    ·cases Z
    ·obtain⟨k1,k2⟩:=old d p c;rcases new C Z with h|h
     ·omega
     ·exact absurd h k2
    ·exact R.hs.inj i j q s b (by rw[N7];exact d) (by rw[N7];exact C) c Z
 have hlen2:(ow F vf os ρ σo.hp σ.hp++(.dead::(σo.hp.drop os.length).map (ul F vf))).length=σ.hp.length+1+(σo.hp.length-os.length):=by unfold ow;simp[tg];omega
 refine⟨_,_,S',E2,L2,h,hS,hEE,⟨hH,?_,?_,fun i o y=>?_,fun t=>(R.sl t).mono hS hEE⟩,?_,fun i A hs=>?_⟩
 ·show L2.length=_;rw[hlen2];show(Qa _ 0 L++_).length=_;simp[tg,R.lL,R'.lL];omega
 ·show E2.length=_;rw[hlen2];show(Qa _ 0 E++_).length=_;simp[tg,R.lE,R'.lE];omega
 ·have y:(ow F vf os ρ σo.hp σ.hp++(.dead::(σo.hp.drop os.length).map (ul F vf)))[i]? = some o:=y;by_cases A:i<σ.hp.length
  ·rw[aF (by unfold ow;rw[tg];exact A)]at y;unfold ow at y;rw[TU,aV]at y;cases hs:aa i os ρ 0 with
   |none=>
    cases hao:σ.hp[i]? with
    |none=>rw[hao]at y;cases y
    |some ao=>rw[hao,aX,hs]at y;cases y;obtain⟨r0,e0,d,p,D⟩:=R.obj i ao hao;exact⟨r0,e0,by rw[hL2 i A,d,aX,hs],by rw[hE2 i A,p,aX,hs],D.mono hS hEE⟩
   |some k=>obtain⟨o',ao,r0,e,x,N,H,d,p,D,C,u,Q,h7,h8,X,G,Y,O,g4,g5⟩:=one hs;rw[u,aX,hs]at y;simp only[Fa,G]at y;cases y;refine⟨N,ec e H,by rw[hL2 i A,h7,aX,hs];simp only[Y,dH],by rw[hE2 i A,h8,aX,hs];simp only[O,dH],?_⟩;exact(mi J Q X g5 g4 (z G) (hnq d) fun ver e T xs W=>hV k ver e T xs (by rw[G,W])).1
  ·by_cases hi2:i=σ.hp.length
   ·subst hi2;rw[aG (by unfold ow;rw[tg];exact aL _)]at y;unfold ow at y;rw[tg,eK]at y;cases y;exact⟨Bd,.dead,hL2b,hE2b,rfl,rfl⟩
   ·have hi3:i=σ.hp.length+1+(i-σ.hp.length-1):=by omega
    rw[aG (by unfold ow;rw[tg];omega)]at y;unfold ow at y;rw[tg,show i-σ.hp.length=(i-σ.hp.length-1)+1 by omega,cD,cF,bU]at y;cases W:σo.hp[os.length+(i-σ.hp.length-1)]? with
    |none=>rw[W]at y;cases y
    |some x=>
     rw[W]at y;cases y;obtain⟨N,H,G,Y,O⟩:=R'.obj _ x W;refine⟨N,H,by rw[hi3,hL2n];exact G,by rw[hi3,hE2n];exact Y,?_⟩;cases x with
     |N' T cs=>obtain⟨b,us,d,p,D⟩:=O;exact⟨b,us,d,p,D.map (f:=bd F vf) fun _ _=>BQ J⟩
     |H'=>exact O|mp=>exact O|it=>cases z W
     |is=>cases z W
     |qu=>cases z W
     |U4=>cases z W
     |wa=>cases z W
     |dead=>exact O
 ·exact HD (Dp J R'.sl nr 0 hn)
 ·rw[hL2 i (by rw[<-R.lL];exact A)];simp only[hs];cases L[i]? <;> rfl
theorem j6.up{b:Mem}{c:List EI}{v:Value}(h:j6 n B b c m k r v w')(hS:Mem.le S b)(d:V4 E c):j6 n B S E m k r v w':=by obtain⟨x,a,S',E',L',e,f,i,j,l⟩:=h;exact⟨x,a,S',E',L',e,Mem.le_trans hS f,d.trans i,j,l⟩
theorem WU:∀{xs:List SV} {us:LV} (i t:Nat),A2 (VR S E) xs us->VR S E (z7 (Q5 i xs) t) (if i<=t then us.getD (t-i) undef else undef)
 |_,_,i,t,.nil=>trivial|x::xs,u::us,i,t,.cons a r=>by
  unfold Q5 z7;cases b:aJ i t with
  |true=>have:=aB b;subst this;simp only[zF,aL,if_true,eK,List.getD_cons_zero];exact a|false=>
   have c:i≠t:=fun e=>by subst e;rw[eJ]at b;cases b
   have:=WU (i+1) t r;simp only[zH];by_cases h:i<=t
   ·rw[zJ h];rw[zJ (by omega)]at this;rw[show t-i=(t-(i+1))+1 by omega,List.getD_cons_succ];exact this
   ·rw[zI h];rw[zI (by omega)]at this;exact this
theorem yzY{s:c7}{ρ:List Nat}{σ:St}{x:b8 s.o8}(h:s.Zc ρ σ=some x):Wf s.hp ρ=true/\∃q,Hb ρ σ.hp s.hp ρ=some q:=by
 unfold c7.Zc at h;obtain⟨a,h⟩:=r7 h;split at h
 ·rename_i b;exact⟨Z3 a,_,b⟩
 ·cases h
theorem xcI{x:Operand}{ash:List Operand}{at_:Array TypeId}{f:Nat}{xs:List SV}(R:Rel n B S E L σ m w)(hx:kw σ x ash=some (f,xs)):∀{l:List SC},(∀c∈l,SU P B f c)->Ou σ x ash xs k l=some r ->
  outcome P (j6 n B S E m k r) ((execOp (o0 n m) ⟨dst,.call ⟨.value x,ash.toArray,at_⟩,ty,pos,aft,g⟩).run P w)
 |[],_,h=>by cases h
 |c::l,hc,h=>by
  unfold Ou at h;have rest:Ou σ x ash xs k l=some r->outcome P (j6 n B S E m k r) ((execOp (o0 n m) ⟨dst,.call ⟨.value x,ash.toArray,at_⟩,ty,pos,aft,g⟩).run P w):=fun h=>xcI (at_:=at_) R hx (fun c' N=>hc c' (aM _ N)) h;cases O:aJ xs.length c.I.sl.length with
  |false=>rw[O]at h;exact rest h|true=>
   rw[O]at h;have z:=aB O;simp only[zF]at h;split at h
   ·rename_i f' i Q;obtain⟨A,E1,J,U,W,u⟩:=fh (c.I.need 0 ⟨Q5 0 xs,σ.hp⟩) R;generalize hσ1:x5 σ (c.I.need 0 ⟨Q5 0 xs,σ.hp⟩)=b at *;split at h
    ·rename_i a ha;obtain⟨d,hd,h⟩:=x9 h;obtain⟨first,cap,M,j,C,hA⟩:=ZJ u Q;obtain⟨_,_,us0,o,D,X⟩:=ZJ R hx;have Y:f'=f:=by rw[o]at j;cases j;rfl
     have Z:M.length=c.I.sl.length:=by rw[o]at j;cases j;rw[<-z,X.len,<-D,<-C]
     subst Y
     have RB:l3 B A E1 J ⟨Q5 0 i,b.hp⟩ (fun t=>M.getD t undef) w:=⟨u.hs,u.lL,u.lE,u.obj,fun t=>by
      have:=WU 0 t hA
      simpa using this⟩
     have hl:=zQ b.hp.length (cw b.hp 0 c.I.hp (FG 0 0++c.I.sl.flatMap fun p=>p.2.V3 (z7 (Q5 0 i) p.1))) c.I.hp 0;have G:=OU RB hl ha;obtain⟨y,q,hq⟩:=yzY ha;have RI':l3 ⟨A,U5 (ib J c.I.hp (c.I.Td 0 ⟨Q5 0 i,b.hp⟩)),w⟩ A (tc E1 c.I.hp (c.I.Td 0 ⟨Q5 0 i,b.hp⟩)) (ib J c.I.hp (c.I.Td 0 ⟨Q5 0 i,b.hp⟩)) (c.I.put a) (fun t=>M.getD t undef) w:=⟨HS.Vw G.hs,G.lL,G.lE,G.obj,G.sl⟩;have s:=hc c aO;refine XM s.fn j (by simpa using C) ((s.ok A w M _ _ a d ⟨A,J,Mem.le_refl _,u.hs⟩ Z RI' hd).mono ?_);rintro e w' ⟨v,he,S',E',L',σo,V',H,hS',hP',R',hV,hle,hv⟩;refine⟨v,he,?_⟩;rw[H]at h;unfold qw at h;obtain⟨hn,h⟩:=r7 h;subst hv;exact(ni u hl y hq hS' hP' R' hV hle (Z3 hn) (Z3 (Y4 hn)) (Y4 (Y4 hn)) h).two.up U W
    ·exact rest h
   ·cases h
theorem Sl{x:Operand}{ash:List Operand}{at_:Array TypeId}{f:Nat}{xs:List SV}{c:SC}(R:Rel n B S E L σ m w)(O:kw σ x ash=some (f,xs))(Q:SU P B f c)(o:cg (c.I.need 0 ⟨Q5 0 xs,σ.hp⟩)=true)(h:Ou σ x ash xs k [c]=some r):
  outcome P (vg n B S E m k r (fun Y=>∀i,i<L.length->aa i c.I.hp (c.I.Td 0 ⟨Q5 0 xs,σ.hp⟩) 0=none->Y[i]? = L[i]?)) ((execOp (o0 n m) ⟨dst,.call ⟨.value x,ash.toArray,at_⟩,ty,pos,aft,g⟩).run P w):=by
 unfold Ou at h;have b:c.I.need 0 ⟨Q5 0 xs,σ.hp⟩=[]:=by
  cases Z:c.I.need 0 ⟨Q5 0 xs,σ.hp⟩ with
  |nil=>rfl|cons a l=>rw[Z]at o;cases o
 rw[b]at h;simp only[x5]at h;cases A:aJ xs.length c.I.sl.length with
 |false=>rw[A]at h;cases h
 |true=>
  rw[A]at h;have s:=aB A;simp only[zF,O]at h;split at h
  ·rename_i a U;obtain⟨d,hd,h⟩:=x9 h;obtain⟨first,cap,z,C,D,W⟩:=ZJ R O;have G:z.length=c.I.sl.length:=by rw[<-s,W.len]
   have RB:l3 B S E L ⟨Q5 0 xs,σ.hp⟩ (fun t=>z.getD t undef) w:=⟨R.hs,R.lL,R.lE,R.obj,fun t=>by
    have:=WU 0 t W
    simpa using this⟩
   have X:=zQ σ.hp.length (cw σ.hp 0 c.I.hp (FG 0 0++c.I.sl.flatMap fun p=>p.2.V3 (z7 (Q5 0 xs) p.1))) c.I.hp 0;have u:=OU RB X U;obtain⟨j,q,hq⟩:=yzY U;have H:l3 ⟨S,U5 (ib L c.I.hp (c.I.Td 0 ⟨Q5 0 xs,σ.hp⟩)),w⟩ S (tc E c.I.hp (c.I.Td 0 ⟨Q5 0 xs,σ.hp⟩)) (ib L c.I.hp (c.I.Td 0 ⟨Q5 0 xs,σ.hp⟩)) (c.I.put a) (fun t=>z.getD t undef) w:=⟨HS.Vw u.hs,u.lL,u.lE,u.obj,u.sl⟩;refine XM Q.fn C (by simpa using D) ((Q.ok S w z _ _ a d ⟨S,L,Mem.le_refl _,R.hs⟩ G H hd).mono ?_);rintro e w' ⟨v,he,S',E',L',σo,V',y,J,M,R',hV,N,hv⟩;refine⟨v,he,?_⟩;rw[y]at h;unfold qw at h;obtain⟨o,h⟩:=r7 h;subst hv;exact ni R X j hq J M R' hV N (Z3 o) (Z3 (Y4 o)) (Y4 (Y4 o)) h
  ·cases h
theorem xaK{W:List Nat}{i:Nat}(a:j0 W i=false):∀{os:List X3} {ρ:List Nat} (k:Nat),Th W os ρ=true->aa i os ρ k=none
 |[],_,_,_=>rfl|_::_,[],_,_=>rfl|o::os,id::c,k,h=>by
  unfold Th at h;unfold aa;have b:=Z3 h;rw[xaK a (k+1) (Y4 h)];cases d:live o with
  |false=>rfl|true=>
   cases e:aJ id i with
   |false=>rfl|true=>have:=aB e;subst this;rw[d,a]at b;cases b
theorem XU{S2:Mem}{d:List AO}{c:PC}{xs:List SV}{us:LV}{a:b8 (c.ash.flatMap Sh.o8)}(hS:Mem.le S S2)(j:Ns S S2 E d)(h:Ue c d xs=some a)(l:A2 (VR S E) xs us):A2 (VR S2 []) (Wb c.ash (rc _ a)).1 us:=by
 unfold Ue at h;split at h
 ·rename_i p hp;obtain⟨o,q⟩:=tp (E':=[]) (ρ:=[]) hS j (fun k u s=>by simp at s) rfl ⟨fun i r e T xs b=>by simp at b,fun i r T f v b=>by simp at b,fun i r e T xs b=>by simp at b⟩ hp l;have:=YZ [] o h;rw[this];have t:=(q []).1
  rwa[bJ]at t
 ·cases h
theorem Ys{x:Operand}{ash:List Operand}{at_:Array TypeId}(o:X6 P Γ B)(R:Rel n B S E L σ m w)(h:wl Γ σ x ash k=some r):
  outcome P (j6 n B S E m k r) ((execOp (o0 n m) ⟨dst,.call ⟨.value x,ash.toArray,at_⟩,ty,pos,aft,g⟩).run P w):=by
 unfold wl at h;split at h
 ·rename_i f J l;have sc:Ou σ x ash J k (ze Γ.sc f)=some r->outcome P (j6 n B S E m k r) ((execOp (o0 n m) ⟨dst,.call ⟨.value x,ash.toArray,at_⟩,ty,pos,aft,g⟩).run P w):=fun h=>xcI (dst:=dst) (g:=g) (ty:=ty) (pos:=pos) (aft:=aft) (at_:=at_) R l (fun c z=>o.sc f c z) h;split at h
  ·rename_i c z;have i:=o.pc _ _ z;obtain⟨_,_,p,b,d,A⟩:=ZJ R l;cases hs:c.rts.any bw with
   |true=>
    rw[hs]at h;simp only[zF]at h;obtain⟨u,O,M,Q,U,q⟩:=fh (J.flatMap owns) R;split at h
    ·rename_i Z W C;split at h
     ·rename_i a D;obtain⟨y,G,h⟩:=x9 h;obtain⟨first,X,N,s,H,Y⟩:=ZJ q C;have j:=XU (Mem.le_refl u) Pu D Y;refine XM i.fn b (by simpa using d) ?_;have:N=p:=by rw[b]at s;cases s;rw[<-d,<-H]
      subst this;exact(i.ok u w N a y ⟨u,M,Mem.le_refl _,q.hs⟩ q.hs.sub j G).mono fun e w' ⟨l,v,I,t⟩=>⟨v,I,_,_,gr u w w',O,M,h,Mem.le_trans Q (nG q.hs.sub),U,q.call l,RU t.1 t.2⟩
     ·exact sc h
    ·cases h
   |false=>
    rw[hs]at h;simp only[zH]at h;split at h
    ·rename_i a D;obtain⟨y,G,h⟩:=x9 h;have j:=XU R.hs.sub R.Uw D A;refine XM i.fn b (by simpa using d) ?_;exact(i.ok (Re w) w p a y ⟨S,L,R.hs.sub,R.hs⟩ (Xk w) j G).mono fun e w' ⟨l,v,I,t⟩=>⟨v,I,_,_,gr S w w',E,L,h,nG R.hs.sub,V4.refl E,R.call l,RU (xbK hs t.1) t.2⟩
    ·exact sc h
  ·exact sc h
 ·cases h
theorem l4.cells{f:TI}(h:l4 P T f)(hs:f.agg=true∨f.sz=1):(zV f).cells=(f.z.map zc).toArray:=by
 unfold zV;cases b:f.agg with
 |true=>rfl|false=>
  rcases hs with hs|hs
  ·rw[b]at hs;cases hs
  ·have a:=h.zl;rw[hs]at a
   match c:f.z,a with
   |[x],_=>have:=h.z;rw[c]at this;simp only[cT,List.all_nil,Bool.and_true]at this;exact cells_one (OG (S:=fun _=>none) (E:=[]) this).one
theorem YU{e:TI}{E':TypeId}(d:P.underlying T=some (.slice E'))(h:l4 P E' e)(a:Yb e=true):Qe P T E' (zV e) (e.z.map zc) e.nb e.sz:=by
 unfold Yb at a;obtain⟨i,f,j,l,o⟩:=h.i;have b:=Z3 (Z3 a);rw[eo]at b;refine⟨d,⟨i,f,j,l,o⟩,h.cells ?_,by rw[aE];exact h.zl,zD b,bK (Y4 (Z3 a))⟩;have c:=Y4 a;cases p:e.agg with
 |true=>exact .inl rfl|false=>rw[p]at c;exact .inr (aB c)
theorem VC.ns:∀{l:List SV} {us:LV},A2 (VC S E) l us->∀u∈us,u.oneCell'=true
 |_,_,.nil,_,h=>by cases h
 |_,_,.cons a t,u,h=>by
  rcases aN.1 h with rfl|h
  ·exact a.one
  ·exact VC.ns t u h
theorem Ww{f:TI}{a x:Operand}{id c:Nat}{p:TypeId}{cs:List SV}{e:SV}(u:l4 P T f)(R:Rel n B S E L σ m w)(v:VR S E (.ptr id c) (o0 n m a))(y:VR S E e (o0 n m x))(z:V5 σ.hp id=some (.N' p cs)) (i:(aJ (ea e).length f.sz&&Nat.ble (c+f.sz) cs.length&&Ib e)=true) (h:k .undef ⟨σ.sl,O6 σ.hp id (.N' p (Sd cs c (ea e)))⟩=some r):
  outcome P (j6 n B S E m k r) ((execOp (o0 n m) ⟨dst,.store T a x,ty,pos,aft,g⟩).run P w):=by
 obtain⟨J,M,A,q,b,N,rfl,rfl,s⟩:=R.P6 z;obtain⟨O,C,Q,t,D⟩:=v;rw[q]at t;cases t;cases D _ rfl;obtain⟨j,G⟩:=BU (y.b (Y4 i));have H:=aB (Z3 (Z3 i));have I:=bK (Y4 (Z3 i));obtain⟨w',l,o⟩:=YT (g:=g) (ty:=ty) (pos:=pos) (aft:=aft) (P:=P) u.l0 R.hs C A rfl G (by rw[<-j.len,H]) (VC.ns j) (by rw[<-s.len,gF];exact I);have d:(execOp (o0 n m) ⟨dst,.store T a x,ty,pos,aft,g⟩).run P w = .ok .skip w':=l;rw[d];exact⟨_,_,S,E,_,h,Mem.le_refl _,V4.refl _,R.Ts q o ⟨b,_,rfl,rfl,uQ c s j⟩,trivial⟩
theorem Tl{t:Ty}{u:Value}{y:den t}(h:a7 t S u y):u7 t S u.cells.toList y:=by
 unfold a7 at h;split at h
 ·have:=cells_one ((Q9 t).one h u (by simp));rw[show u.cells=[u].toArray from this];exact h
 ·obtain⟨a,rfl,h⟩:=h;simpa[Value.cells]using h
theorem xfS{T':TypeId}{b:Nat}{us:LV}{cs:List SV}{w':World}(R:Rel n B S E L σ m w)(H:HS B S w' (.N' b us T'::L))(a:A2 (VC S E) cs us)(h:k (.ptr σ.hp.length 0) ⟨σ.sl,σ.hp++[.N' T' cs]⟩=some r):
  Z5 n B S E L [] m k r (.pointer (some ⟨b,0,none⟩)) w':=
 ⟨_,_,S,E++[.N' b],_,h,Mem.le_refl _,V4.push E _,R.snoc (e:=.N' b) (o:=.N' T' cs) H ⟨b,us,rfl,rfl,a.imp fun _ _=>VC.mono (Mem.le_refl _) (V4.push E _)⟩,
  ⟨b,rfl,.N' b,(by rw[<-R.lE];simp:(E++[EI.N' b])[σ.hp.length]? = some (EI.N' b)),fun f c=>by cases c;rfl⟩,fun i _ d=>UU d⟩
theorem RL.wg{l:Bs}:@RL (den (.i .u8)) (Q9 (.i .u8)) S (W9 l) l:=by
 have:∀{l:Bs} {a:LV},RL S a l->@RL (den (.i .u8)) (Q9 (.i .u8)) S a l:=fun {l}=>by
  induction l with
  |nil=>intro a h;exact h|cons x l b=>intro a h;obtain⟨c,d,e,f,j⟩:=h;exact⟨c,d,e,f,b j⟩
 exact this (RL.Vk l)
theorem xeT{a:Type}{ys r:List a}(h:X0 [] ys=some r):r=ys:=(Rr h).2.symm
theorem Xw(a:P3 P τ)(R:Rel n B S E L σ m w){T T':TypeId}{e:Ty}{y:SV}{ys:List (den e)}{u:Value}(c:VR S E y u)(h:sw τ σ.hp T T' e y=some ys):(T=T'/\∃cs,RL S cs ys/\∀w',HS B S w' L->Oe w' u ys.length (l0 e) cs)∨(P.underlying T'=some .string/\∃(l:Bs) (d:Ty.i .u8=e),u=str l/\ys=Ob (by rw[d]:Ty.sl (.i .u8)=Ty.sl e) (show Bs from l)):=by
 unfold sw at h;cases b:aJ T T' with
 |true=>rw[b]at h;exact .inl ⟨aB b,IU R c h⟩|false=>
  rw[b]at h;simp only[]at h;split at h
  ·rename_i o p q z4 f;split at h
   ·rename_i l;split at h
    ·rename_i j _;cases h;exact .inr ⟨(a _ _ f).str rfl,l,j,vS c,rfl⟩
    ·cases h
   ·cases h
  ·cases h
theorem CQ{e:Ty}{E':TypeId}{v:Value}{xs:List (den e)}{cs rs:LV}{w':World}(R:Rel n B S E L σ m w)(H:HS B S w' (.H' v xs.length (l0 e) cs rs E'::L))(b:RL S cs xs)(h:k (.own σ.hp.length 0) ⟨σ.sl,σ.hp++[.H' 0 e E' xs]⟩=some r):Z5 n B S E L [] m k r v w':=
 ⟨_,_,S,E++[.H' 0 v (l0 e)],_,h,Mem.le_refl _,V4.push E _,R.snoc (e:=.H' 0 v (l0 e)) (o:=.H' 0 e E' xs) H ⟨v,v,cs,rs,rfl,rfl,b,.inl rfl⟩,⟨by
  rcases H.own 0 _ rfl with⟨a,_⟩|⟨_,_,_,a,_⟩<;>rw[a]<;>rfl,.H' 0 v (l0 e),(by rw[<-R.lE];simp:(E++[EI.H' 0 v (l0 e)])[σ.hp.length]? = some (EI.H' 0 v (l0 e))),fun f v' j c=>by cases c;exact⟨aL _,fun _=>rfl⟩⟩,fun i _ d=>UU d⟩
theorem ysV{T E:TypeId}{z v2:Value}{zl c:LV}{I sz M ty:Nat}{a:Option Addr}(p:Qe P T E z zl I sz)(H:HS B S w L)(J:Oe w v2 M sz c)(h1:∀u∈c,u.oneCell'=true)(O:M<=68719476736):∃w' v' rs',(ue #[T,T] ty #[.slice a 0 0,v2]).run P w = .ok v' w'/\((M=0/\v' = .slice a 0 0/\w'=w)∨HS B S w' (.H' v' M sz c rs' E::L)):=by
 obtain⟨i,q,Q,s,R⟩:=p.Tb;have f:=p.small;have l:M*I<=140737488355328:=by
  calc M*I<=68719476736*2048:=gA O f
   _=140737488355328:=by decide
 obtain⟨v,x⟩:=J.first (P:=P);by_cases hM:M=0
 ·subst hM;have d:=J.len;have hn:c=[]:=aW (by omega);subst hn;refine⟨w,.slice a 0 0,[],?_,.inl ⟨rfl,rfl,rfl⟩⟩;cases a with
  |none=>simp[ue,Go.underlying,p.wc,sizeOf,typeInfo,q,s,v,x]|some a=>simp[ue,Go.underlying,p.wc,sizeOf,typeInfo,q,s,v,x,storeCells]
 ·cases a with
  |none=>obtain⟨w',v',rs',h2,h3⟩:=ZT (ty:=ty) (N:=0) (k:=0) p (H.na sz E) rfl J h1 (by omega);rw[aV,bP]at h3;exact⟨w',v',rs',h2,.inr h3⟩
  |some a=>
   rcases J with⟨_,h,_⟩|⟨b2,o2,c2,cs2,T2,fz2,rfl,hc2,U,W,y⟩
   ·exact absurd h hM
   ·have d:c.length=M*sz:=by rw[<-y];exact SI W
    have t:∀j u,c[j]? = some u->w.cell? ((⟨b2,o2,none⟩:Addr).add j)=some u:=fun j u A=>by have hjl:=(aC.1 A).1;rw[yd,yk U];rw[<-y,P9,dE,zJ (by omega),bU]at A;exact A
    have C:=growslice_fits (bytes:=I) (need:=0+M) (old:=0) (by omega) (by rw[aV];exact l);have e:=run_append_grow (P:=P) w T ty E i z p.wc q Q a 0 0 [] (by simp) (fun j u A=>by simp at A) ⟨b2,o2,none⟩ M c2 c (by rw[s];exact d) t (by omega) (by omega) (by rw[R];exact C);have X:=grownCap_ge w (0+M) 0 E;generalize hG:grownCap w (0+M) 0 E=G at e X;have Y:∀n,(Wa z.cells n).toList.length=n*sz:=fun n=>by rw[GP _ _ p.cells,p.len]
    have D:=Y (G-(0+M));generalize hZ:Wa z.cells (G-(0+M))=Z at e D;have o:([]:LV).toArray++c.toArray++Z=(c++Z.toList).toArray:=by apply dY;simp
    rw[o]at e;refine⟨_,_,Z.toList,e,.inr ?_⟩;refine H.push (Ext.trans (Ext.drew w) (Ext.alloc w.drew _)) (.inr ⟨w.heap.size,G,(0,0),by rw[aV],by omega,d,?_,Od w.drew _,.inl rfl⟩) fun b O=>?_
    ·refine eI (Eq.symm ?_);simp only[aD,D,d,<-cA];congr 1;omega
    ·cases O;exact aL _
theorem kK{x y:Operand}{T T':TypeId}{v:Value}(h:(ue #[T,T'] ty #[o0 n m x,o0 n m y]).run P w = .ok v w'):(execOp (o0 n m) ⟨dst,.call ⟨.builtin .append,#[x,y],#[T,T']⟩,ty,pos,aft,g⟩).run P w = .ok (.value v) w':=by simp[execOp,resolve,invoke,builtin,h]
theorem xaY{T E T2:TypeId}{z:Value}{zl:LV}{y ty:Nat}{l:Bs}{a:Option Addr}(o:Qe P T E z zl y 1)(A:P.underlying T2=some .string)(H:HS B S w L)(C:l.length<=68719476736):∃w' v' rs',(ue #[T,T2] ty #[.slice a 0 0,str l]).run P w = .ok v' w'/\((l=[]/\v' = .slice a 0 0/\w'=w)∨HS B S w' (.H' v' l.length 1 (W9 l) rs' E::L)):=by
 cases a with
 |none=>obtain⟨w',v',rs',X,R⟩:=dU (ty:=ty) (N:=0) (k:=0) (l:=l) o A (H.na 1 E) rfl (by omega);rw[aV,bP]at R;exact⟨w',v',rs',X,.inr R⟩
 |some a=>
  obtain⟨i,p,D,I,J⟩:=o.Tb;have e:=o.small;have f:(0+l.length)*y<=140737488355328:=by
   rw[aV]
   calc l.length*y<=68719476736*2048:=gA C e
    _=140737488355328:=by decide
  have d:(⟨l.toArray⟩:ByteArray).size=l.length:=Lr l;have q:(Array.map (fun b:UInt8=>Value.int IntKind.u8 (b.toNat:Int)) (⟨l.toArray⟩:ByteArray).data)=(W9 l).toArray:=by simp[W9]
  have s:(mN 1 l.length (str l)).run P w = .ok (W9 l).toArray w:=by
   have Y:(⟨l.toArray⟩:ByteArray).extract 0 l.length=⟨l.toArray⟩:=by rw[YM];simp
   simp only[mN,Y,Sem.run_pure];rw[<-q]
  have t:(rG (str l)).run P w = .ok l.length w:=by simp[rG,d]
  by_cases hM:l.length=0
  ·have hn:l=[]:=aW hM;subst hn;have U:=t;have W:=s;simp only[List.length_nil]at U W;exact⟨w,.slice (some a) 0 0,[],by simp[ue,Go.underlying,o.wc,A,sizeOf,typeInfo,p,I,U,W,storeCells,W9],.inl ⟨rfl,rfl,rfl⟩⟩
  ·have v:=growslice_fits (bytes:=y) (need:=0+l.length) (old:=0) (by omega) f;have c:=Lib.run_append_grow_string (P:=P) w T T2 ty E i z o.wc A p D a 0 0 [] (by simp) (fun j u hj=>by simp at hj) ⟨l.toArray⟩ (by rw[d];omega) (by rw[d];omega) (by rw[J,d];exact v);rw[d]at c;have M:=grownCap_ge w (0+l.length) 0 E;generalize hG:grownCap w (0+l.length) 0 E=G at c M;have O:∀n,(Wa z.cells n).toList.length=n:=fun n=>by rw[GP _ _ o.cells,o.len,dQ]
   have x:=O (G-(0+l.length));generalize hZ:Wa z.cells (G-(0+l.length))=Z at c x;have Q:Lib.strCells ⟨l.toArray⟩=W9 l:=by simp[Lib.strCells,W9]
   rw[Q]at c;have h:([]:LV).toArray++(W9 l).toArray++Z=(W9 l++Z.toList).toArray:=by apply dY;simp
   rw[h]at c;refine⟨_,_,Z.toList,c,.inr ?_⟩;refine H.push (Ext.trans (Ext.drew w) (Ext.alloc w.drew _)) (.inr ⟨w.heap.size,G,(0,0),by rw[aV],by omega,by rw[qo,dQ],?_,Od w.drew _,.inl rfl⟩) fun b C=>?_
   ·simp only[aD,x,qo];omega
   ·cases C;exact aL _
theorem xN{f:TI}{e:Ty}{T E':TypeId}(a:P.underlying T=some (.slice E'))(b:l4 P E' f)(c:Yb f=true)(d:f.sz=l0 e):Qe P T E' (zV f) (f.z.map zc) f.nb (l0 e):=by rw[<-d];exact YU a b c
theorem HS.putAt{q:Q0}{i:Nat}(H:HS B S w (q::Me L i))(y:i<L.length):HS B S w (Za L i q):=by
 have key:∀j s,Y3 (Za L i q) j=some s->∃a,Y3 (q::Me L i) a=some s/\((j=i/\a=0)∨(j≠i/\a=(if j<i then j else j-1)+1)):=fun j s h=>by
  by_cases l:j=i
  ·subst l;rw[N7,gp,aP y]at h;exact⟨0,h,.inl ⟨rfl,rfl⟩⟩
  ·rw[uo l]at h;refine⟨_,?_,.inr ⟨l,rfl⟩⟩;show Y3 (Me L i) _=some s;rw[QI];by_cases c:j<i
   ·rw[zJ c,zJ c];exact h
   ·rw[zI c,zI (by omega),show j-1+1=j by omega];exact h
 refine⟨H.fr,H.sub,H.keep,fun j s h=>?_,fun j s b h o=>?_,fun j z s x b h c o p=>?_⟩
 ·obtain⟨a,d,_⟩:=key j s h;exact H.own a s d
 ·obtain⟨a,d,_⟩:=key j s h;exact H.old a s b d o
 ·obtain⟨a,d,t⟩:=key j s h;obtain⟨u,A,v⟩:=key z x c;have:=H.inj a u s x b d A o p;subst this;rcases t with⟨t,e⟩|⟨t,e⟩<;>rcases v with⟨v,f⟩|⟨v,f⟩
  ·omega
  ·omega
  ·omega
  ·split at e<;>split at f<;>omega
theorem ywY{x y:Operand}{T T' E':TypeId}{f:TI}{id c:Nat}{e:Ty}{xs ys r':List (den e)}{sy:SV}(hτ:P3 P τ)(R:Rel n B S E L σ m w)(hT:P.underlying T=some (.slice E'))(hE:l4 P E' f)(hs:Yb f=true)(hz:f.sz=l0 e)(hx:VR S E (.own id c) (o0 n m x))(hy:VR S E sy (o0 n m y))(hc:V5 σ.hp id=some (.H' c e E' xs))(hys:sw τ σ.hp T T' e sy=some ys)(ha:X0 xs ys=some r') (h:k (.own id (c+1)) ⟨σ.sl,O6 σ.hp id (.H' (c+1) e E' r')⟩=some r):outcome P (Z5 n B S E L [id] m k r) ((execOp (o0 n m) ⟨dst,.call ⟨.builtin .append,#[x,y],#[T,T']⟩,ty,pos,aft,g⟩).run P w):=by
 obtain⟨r0,e0,o,D,v,v',Z,O,rfl,rfl,h3,U⟩:=R.P6 hc;obtain⟨h4,e1,h5,h6⟩:=hx;rw[D]at h5;cases h5;have A:=(h6 _ _ _ rfl).2 rfl;have I:=xN hT hE hs hz;obtain⟨J,Q⟩:=Rr ha;have hid:id<E.length:=(aC.1 D).1
 have fin:∀{w':World} {u:Value} {cs' rs':LV},(ue #[T,T'] ty #[o0 n m x,o0 n m y]).run P w = .ok u w'->HS B S w' (Za L id (.H' u r'.length (l0 e) cs' rs' E'))->RL S cs' r'->outcome P (Z5 n B S E L [id] m k r) ((execOp (o0 n m) ⟨dst,.call ⟨.builtin .append,#[x,y],#[T,T']⟩,ty,pos,aft,g⟩).run P w):=fun {w' u cs' rs'} b H hl=>by
  rw[kK b];have W:u.oneCell'=true:=by have hlk:Y3 (Za L id (.H' u r'.length (l0 e) cs' rs' E')) id=some (.H' u r'.length (l0 e) cs' rs' E'):=ZM o;rcases H.own id _ hlk with⟨A,_⟩|⟨_,_,_,A,_⟩<;>rw[A]<;>rfl
  refine⟨_,_,S,_,_,h,Mem.le_refl _,V4.set D (.inr (.inr ⟨c+1,u,rfl,by omega⟩)),R.Gb D (.inr (.inr ⟨c+1,u,rfl,by omega⟩)) (Mem.le_refl _) H ⟨u,u,cs',rs',rfl,rfl,hl,.inl rfl⟩,⟨W,.H' (c+1) u (l0 e),by rw[aP hid],fun r1 v1 s1 X=>by cases X;exact⟨aL _,fun _=>rfl⟩⟩,fun j q _=>uo fun e=>VU q (by omega)⟩
 rcases Xw hτ R hy hys with⟨rfl,ds,C,hw⟩|⟨Y,l,he,hu,d⟩
 ·have s:r'.length=xs.length+ys.length:=by rw[<-Q,aD]
  rcases U with rfl|⟨rfl,h0,_,p,rfl⟩
  ·obtain⟨w',u,rs',b,H⟩:=ZT (ty:=ty) I R.hs o (hw w R.hs) C.one J;refine fin (by rw[A];exact b) (by rw[s];exact H) ?_;rw[<-Q];exact h3.append C
  ·have M:xs=[]:=aW h0;subst M;have t:r'=ys:=by rw[<-Q];rfl
   subst t;have N:Z=[]:=h3;subst N;obtain⟨w',u,rs',b,i⟩:=ysV (ty:=ty) (a:=p) I (R.hs.rm id) (hw w R.hs) C.one (by simpa using J);rcases i with⟨hM,rfl,rfl⟩|H
   ·have hr0:r'=[]:=aW hM;subst hr0;rw[kK (by rw[A];exact b)];refine⟨_,_,S,_,_,h,Mem.le_refl _,V4.set D (.inr (.inr ⟨c+1,.slice p 0 0,rfl,by omega⟩)),R.Gb (r':=.H' (.slice none 0 0) 0 (l0 e) [] O E') D (.inr (.inr ⟨c+1,.slice p 0 0,rfl,by omega⟩)) (Mem.le_refl _) ?_ ⟨.slice none 0 0,.slice p 0 0,[],O,rfl,rfl,rfl,.inr ⟨rfl,rfl,by assumption,p,rfl⟩⟩,⟨rfl,.H' (c+1) (.slice p 0 0) (l0 e),by rw[aP hid],fun r1 v1 s1 X=>by cases X;exact⟨aL _,fun _=>rfl⟩⟩,fun j q _=>uo fun e=>VU q (by omega)⟩;have:Za L id (.H' (.slice none 0 0) 0 (l0 e) [] O E')=L:=by
     rw[gp];rw[N7]at o;apply bN;intro j;by_cases q:id=j
     ·subst q;rw[aP (aC.1 o).1,o];rfl
     ·rw[aS q]
    rw[this];exact R.hs
   ·refine fin (by rw[A];exact b) (HS.putAt H ?_) C;rw[N7]at o;exact(aC.1 o).1
 ·subst he;have d:ys=(show Bs from l):=d;have G:Qe P T E' (zV f) (f.z.map zc) f.nb 1:=I;have s:r'.length=xs.length+l.length:=by rw[<-Q,aD,d];rfl
  have J:xs.length+l.length<=68719476736:=by rw[d]at J;exact J
  rcases U with rfl|⟨rfl,h0,_,p,rfl⟩
  ·have hrl:RL S (Z++W9 l) r':=by rw[<-Q,d];exact h3.append RL.wg
   obtain⟨w',u,rs',b,H⟩:=dU (ty:=ty) (T2:=T') (l:=l) G Y R.hs o J;refine fin (cs':=Z++W9 l) (rs':=rs') (by rw[A,hu];exact b) (by rw[s];exact H) hrl
  ·have M:xs=[]:=aW h0;subst M;have t:r'=(show Bs from l):=by rw[<-Q,d];rfl
   have N:Z=[]:=h3;subst N;obtain⟨w',u,rs',b,i⟩:=xaY (ty:=ty) (a:=p) (T2:=T') (l:=l) G Y (R.hs.rm id) (by simpa using J);rcases i with⟨rfl,rfl,rfl⟩|H
   ·rw[kK (by rw[A,hu];exact b)];subst t;refine⟨_,_,S,_,_,h,Mem.le_refl _,V4.set D (.inr (.inr ⟨c+1,.slice p 0 0,rfl,by omega⟩)),R.Gb (r':=.H' (.slice none 0 0) 0 1 [] O E') D (.inr (.inr ⟨c+1,.slice p 0 0,rfl,by omega⟩)) (Mem.le_refl _) ?_ ⟨.slice none 0 0,.slice p 0 0,[],O,rfl,rfl,rfl,.inr ⟨rfl,rfl,by assumption,p,rfl⟩⟩,⟨rfl,.H' (c+1) (.slice p 0 0) 1,by rw[aP hid];rfl,fun r1 v1 s1 X=>by cases X;exact⟨aL _,fun _=>rfl⟩⟩,fun j q _=>uo fun e=>VU q (by omega)⟩;have:Za L id (.H' (.slice none 0 0) 0 1 [] O E')=L:=by
     rw[gp];rw[N7]at o;apply bN;intro j;by_cases q:id=j
     ·subst q;rw[aP (aC.1 o).1,o];rfl
     ·rw[aS q]
    rw[this];exact R.hs
   ·refine fin (cs':=W9 l) (rs':=rs') (by rw[A,hu];exact b) (HS.putAt (by rw[t];exact H) ?_) (by rw[t];exact RL.wg);rw[N7]at o;exact(aC.1 o).1
theorem l3.grow{V:Nat->Value}(R:l3 B S E L σ V w)(H:HS B S' w' L)(hS:Mem.le S S'):l3 B S' E L σ V w':=
 ⟨H,R.lL,R.lE,fun i o h=>by
  obtain⟨r,e,a,b,c⟩:=R.obj i o h
  exact⟨r,e,a,b,c.mono hS (V4.refl E)⟩,fun t=>(R.sl t).mono hS (V4.refl E)⟩
theorem l3.run{V:Nat->Value}(R:l3 B S E L σ V w)(H:HS B S w' L):l3 B S E L σ V w':=R.grow H (Mem.le_refl S)
theorem Ep(sz:Nat):∀(n k i:Nat),i<n->ch ((eQ k n).map fun i=>(i*sz,sz)) i=some ((k+i)*sz,sz)
 |0,_,_,h=>by omega
 |n+1,k,0,_=>by simp[eX,ch]
 |n+1,k,i+1,h=>by simp only[eX,bF,ch];rw[Ep sz n (k+1) i (by omega),show k+1+i=k+(i+1) by omega]
theorem Fp:∀(pre l c:LV),lay (pre++l) pre.length c=pre++lay l 0 c
 |[],_,_=>rfl|x::pre,l,c=>by
  cases c with
  |nil=>cases l<;>rfl
  |cons y c=>simp only[bS,aQ,lay];rw[Fp pre l (y::c)]
theorem qi:∀(a c r:LV),a.length=c.length->lay (a++r) 0 c=c++r
 |[],[],r,_=>by cases r<;>rfl
 |[],_::_,_,h=>by simp at h
 |_::_,[],_,h=>by simp at h
 |x::a,y::c,r,h=>by simp only[bS,lay];rw[qi a c r (by simpa using h)]
theorem Ul(R:Rel n B S E L σ m w){e:Ty}{sz:Nat}(v:sz=l0 e):∀{ps:List (Nat×Operand)} {i:Nat} {ys:List (den e)} {pre:LV} {zl:LV} {N:Nat},Js σ e i ps=some ys->pre.length=i*sz->zl.length=sz->i+ps.length=N->∃us,ko ((eQ 0 N).map fun i=>(i*sz,sz)) (pre++(bI ps.length zl).flatten) (zv (o0 n m) ps)=some (pre++us)/\RL S us ys/\ys.length=ps.length
 |[],i,ys,pre,zl,N,h,hp,a,l=>by cases h;exact⟨[],by simp[zv,ko],rfl,rfl⟩
 |(j,x)::ps,i,ys,pre,zl,N,h,hp,a,l=>by
  unfold Js at h;cases o:aJ i j with
  |false=>rw[o]at h;cases h
  |true=>
   rw[o]at h;have p:=aB o;subst p;simp only[zF]at h;split at h
   ·rename_i I q;split at h
    ·rename_i y A C s;cases h;have z:=Tl (SG (Mem.le_refl S) Pu C (p7 R q));have b:(o0 n m x).cells.toList.length=sz:=by rw[(Q9 e).len z,gd,v]
     obtain⟨us,D,G,H⟩:=Ul R v (pre:=pre++(o0 n m x).cells.toList) (i:=i+1) (zl:=zl) (N:=N) s (by rw[aD,hp,b,cA,Nat.one_mul]) a (by simp only[aQ]at l;omega);refine⟨(o0 n m x).cells.toList++us,?_,⟨_,_,rfl,z,G⟩,by simp[H]⟩;have c:=Ep sz N 0 i (by simp only[aQ]at l;omega);rw[aV]at c;have d:(bI (ps.length+1) zl).flatten=zl++(bI ps.length zl).flatten:=by rw[List.replicate_succ,List.flatten_cons]
     have f:lay (pre++(bI (ps.length+1) zl).flatten) (i*sz) (o0 n m x).cells.toList=(pre++(o0 n m x).cells.toList)++(bI ps.length zl).flatten:=by rw[<-hp,Fp,d,qi _ _ _ (by rw[a,b]),aU]
     simp only[zv,ko,c,aQ];have t:aJ (o0 n m x).cells.toList.length sz=true:=by rw[b];exact eJ sz
     have u:Nat.ble (i*sz+sz) (pre++(bI (ps.length+1) zl).flatten).length=true:=by rw[gF,aD,d,aD,hp,a];omega
     rw[t,u];simp only[Bool.and_self,zF];rw[f,D,aU]
    ·cases h
   ·cases h
theorem xaF{T E':TypeId}{f:TI}{N:Nat}{ps:List (Nat×Operand)}{ys:List (den f.ty)}(R:Rel n B S E L σ m w)(o:P.underlying T=some (.slice E'))(e:l4 P E' f)(hs:Yb f=true)(b:f.sz=l0 f.ty)(p:N=ps.length)(s:N*f.sz<=65536)(q:Js σ f.ty 0 ps=some ys) (h:k (.own σ.hp.length 0) ⟨σ.sl,σ.hp++[.H' 0 f.ty E' ys]⟩=some r):outcome P (Z5 n B S E L [] m k r) ((execOp (o0 n m) ⟨dst,.buildSlice T N ps.toArray,ty,pos,aft,g⟩).run P w):=by subst p;have c:=xN o e hs b;obtain⟨t,d,j,l⟩:=Ul R b (pre:=[]) (i:=0) (zl:=f.z.map zc) (N:=ps.length) q (by simp) (by rw[aE,e.zl]) (by simp);simp only[bP]at d;rw[b]at d;obtain⟨w',v,a,H⟩:=Gh (dst:=dst) (ty:=ty) (pos:=pos) (aft:=aft) (g:=g) c R.hs rfl d (by rw[gF,<-b];omega) (by rw[j.len,l];congr 1;exact gd f.ty);rw[a];rw[<-l]at H;exact CQ R H j h
theorem lK{K V:Ty}:MR S K V [] []:=⟨⟨[],.nil,.nil⟩,.nil,.nil⟩
theorem Vl{T Kt Vt:TypeId}{a c:Ty}(R:Rel n B S E L σ m w)(h:k (.mpr σ.hp.length) ⟨σ.sl,σ.hp++[.mp 0 a c []]⟩=some r):outcome P (j6 n B S E m k r) ((execOp (o0 n m) ⟨dst,.makeMap T none,ty,pos,aft,g⟩).run P w):=by
 have d:(execOp (o0 n m) ⟨dst,.makeMap T none,ty,pos,aft,g⟩).run P w = .ok (.value (.map (some w.heap.size))) (w.alloc (.map #[] 0)):=by simp[execOp,Instr.makeMap]
 rw[d];have H:HS B S (w.alloc (.map #[] 0)) (.obj w.heap.size (.map #[] 0)::L):=R.hs.push (Ext.alloc w _) (Od w _) fun b f=>by cases f;exact aL _
 exact⟨_,_,S,E++[.mp 0 w.heap.size 0 []],_,h,Mem.le_refl _,V4.push E _,R.snoc (e:=.mp 0 w.heap.size 0 []) (o:=.mp 0 a c []) H ⟨w.heap.size,[],0,rfl,rfl,lK,fun l i=>by cases i⟩,
  ⟨rfl,.mp 0 w.heap.size 0 [],by rw[<-R.lE];simp,fun g b ck p j=>by cases j;rfl⟩⟩
theorem A2.Yw{c γ:Type}{R:c->γ->Prop}:∀{l:List c} {m:List γ},A2 R l m->∀b∈m,∃a∈l,R a b
 |_,_,.nil,b,h=>by cases h
 |_,_,.cons a t,b,h=>by
  rcases aN.1 h with rfl|h
  ·exact⟨_,aO,a⟩
  ·obtain⟨x,d,e⟩:=A2.Yw t b h;exact⟨x,aM _ d,e⟩
theorem Zw{T Kt Vt:TypeId}{y:TI}{x:Operand}{id gn:Nat}{K V:Ty}{es:List (den K×den V)}(_hτ:P3 P τ)(R:Rel n B S E L σ m w)(z:P.underlying T=some (.map Kt Vt))(A:VR S E (.mpr id) (o0 n m x))(C:V5 σ.hp id=some (.mp gn K V es))(i:Es τ y.td K=true) (h:k (.ptr σ.hp.length 0) ⟨σ.sl,σ.hp++[.it id gn K none (es.map Prod.fst)]⟩=some r):outcome P (j6 n B S E m k r) ((execOp (o0 n m) ⟨dst,.range T x,ty,pos,aft,g⟩).run P w):=by
 have d:=RJ i;obtain⟨Z,D,G,j,a,Q',ck,rfl,rfl,I,g4⟩:=R.P6 C;obtain⟨_,D,v,J⟩:=A;rw[j]at v;cases v;have M:=J _ _ _ _ rfl;have N:w.heap[a]? = some (.map Q'.toArray ck):=R.hs.own id _ G;have f:(execOp (o0 n m) ⟨dst,.range T x,ty,pos,aft,g⟩).run P w = .ok (.value (.pointer (some ⟨w.heap.size,0,none⟩))) (w.alloc (.mapIter (some a) ck #[] ck)):=by simp only[execOp,M,Sem.run_bind,run_range_map w T Kt Vt a Q'.toArray ck z N,Result.andThen_ok,Sem.run_pure]
 rw[f];have H:HS B S (w.alloc (.mapIter (some a) ck #[] ck)) (.obj w.heap.size (.mapIter (some a) ck #[] ck)::L):=R.hs.push (Ext.alloc w _) (Od w _) fun b i=>by cases i;exact aL _
 obtain⟨l,O,Q⟩:=I.perm
 refine⟨_,_,S,E++[.N' w.heap.size],_,h,Mem.le_refl _,V4.push E _,R.snoc (e:=.N' w.heap.size) (o:=.it id gn K none (es.map Prod.fst)) H ⟨w.heap.size,a,ck,#[],rfl,rfl,d,.mp gn a ck Q',?_,fun g' b U W X=>?_⟩,
  ⟨w.heap.size,rfl,.N' w.heap.size,by rw[<-R.lE];simp,fun b' q=>by cases q;rfl⟩⟩
 ·rw[aF (aC.1 j).1];exact j
 ·cases X;refine⟨aL _,fun _=>⟨rfl,rfl,fun Y s=>⟨⟨fun h=>by simp at h,fun h=>?_⟩,fun c t=>by cases t⟩⟩⟩;obtain⟨p,hp,u⟩:=A2.Yw Q Y s;exact absurd (Nl d u.1) (h p.1 (aY.2 ⟨p,O.mem_iff.1 hp,rfl⟩))
section
variable {K V:Ty}
theorem xeW(b:Ud K=true)(k:den K):∀n,Instr.sameBits (n+1) (kv K k) (kv K k)=true:=fun n=>by
 cases K with
 |i q=>simp[Instr.sameBits,kv]|s=>
  have key:∀l:Bs,((⟨l.toArray⟩:ByteArray)==⟨l.toArray⟩)=true:=fun l=>by rw[Nw];simp
  exact key k
 |pr a c=>
  cases a<;>cases c<;>first|(cases b;done)|skip
  have key:∀l:Bs,((⟨l.toArray⟩:ByteArray)==⟨l.toArray⟩)=true:=fun l=>by rw[Nw];simp
  have d:∀x y:Bs,Instr.sameBits (n+1) (.agg [str x,str y].toArray) (.agg [str x,str y].toArray)=true:=fun x y=>by simp[Instr.sameBits];exact⟨key x,key y⟩
  exact d (show Bs×Bs from k).1 (show Bs×Bs from k).2
 |_=>cases b
theorem Wl{T Kt Vt:TypeId}{b ck:Nat}{Q':List MapEntry}{k:den K}{v:Value}{o:Option (Nat×Value)}(hu:P.underlying T=some (.map Kt Vt))(hK:Rs P Kt K)(hh:w.heap[b]? = some (.map Q'.toArray ck))(hf:∀w,(Instr.findKey Kt (kv K k) Q').run P w = .ok o w) (hkey:∀i u,o=some (i,u)->∃en,Q'[i]? = some en/\en.key=kv K k):(Instr.mapUpdate T (.map (some b)) (kv K k) v).run P w = .ok () { w with heap:=w.heap.setIfInBounds b (match o with
    |some (i,_)=>.map (Q'.toArray.modify i fun e=>{ e with key:=kv K k,val:=v }) ck|none=>.map (Q'.toArray.push { key:=kv K k,val:=v,born:=ck }) (ck+1)) }:=by
 have t:(getObj b).run P w = .ok (.map Q'.toArray ck) w:=DU hh;have a:∀h:Obj,(setObj b h).run P w = .ok () { w with heap:=w.heap.setIfInBounds b h }:=fun h=>by simp[setObj,Sem.run,hh]
 have y:=hK.ck false k w;have d:=hf w;cases o with
 |none=>simp[QU,Go.underlying,hu,t,y,d,a]|some p=>
  obtain⟨i,u⟩:=p;obtain⟨en,z,A⟩:=hkey i u rfl;have C:(Instr.keyThatStays (((Q'.toArray[i]?).map (·.key)).getD (kv K k)) (kv K k)).run P w = .ok (kv K k) w:=by
   have:((Q'.toArray[i]?).map (·.key)).getD (kv K k)=kv K k:=by simp[z,A]
   rw[this];unfold Instr.keyThatStays;rw[zJ (xeW hK.ok k 9999)];simp
  have j:(Instr.keyThatStays ((Option.map (fun x=>x.key) Q'[i]?).getD (kv K k)) (kv K k)).run P w = .ok (kv K k) w:=by simpa using C
  simp[QU,Go.underlying,hu,t,y,d,j,a]
theorem Xl{T Kt Vt:TypeId}{b ck:Nat}{Q':List MapEntry}{k:den K}{o:Option (Nat×Value)}{T2:TypeId}(hu:P.underlying T=some (.map Kt Vt))(hK:Rs P Kt K)(hh:w.heap[b]? = some (.map Q'.toArray ck))(hf:∀w,(Instr.findKey Kt (kv K k) Q').run P w = .ok o w):(Builtin.delete_ #[T,T2] ty #[.map (some b),kv K k]).run P w = .ok (.tuple #[]) { w with heap:=w.heap.setIfInBounds b (match o with
    |some (i,_)=>.map (Q'.toArray.eraseIdxIfInBounds i) ck|none=>.map Q'.toArray ck) }:=by
 have h:(getObj b).run P w = .ok (.map Q'.toArray ck) w:=DU hh;have a:∀d:Obj,(setObj b d).run P w = .ok () { w with heap:=w.heap.setIfInBounds b d }:=fun d=>by simp[setObj,Sem.run,hh]
 have j:=hK.ck Q'.isEmpty k w;have c:=hf w;cases o with
 |none=>simp[Builtin.delete_,Go.underlying,hu,h,j,c,a]|some p=>obtain⟨i,u⟩:=p;simp[Builtin.delete_,Go.underlying,hu,h,j,c,a]
variable {γ:Type}
theorem yN(a:Ud K=true){p q:den K×γ}(h:o5 K p.1 q.1=false):o5 K q.1 p.1=false:=(SJ a).2 fun e=>(SJ a).1 h e.symm
theorem yxW(a:Ud K=true){k:den K}{v:γ}:∀{es:List (den K×γ)},es.Pairwise (fun p q=>o5 K p.1 q.1=false)->Z9 (o5 K) es k v=es.map fun q=>bif o5 K q.1 k then(k,v)else q
 |[],_=>rfl|q::es,h=>by
  obtain⟨c,d⟩:=bD.1 h;unfold Z9;cases b:o5 K q.1 k with
  |true=>
   have e:=(Ml a).1 b;simp only[zF,bF,b];congr 1;symm
   conv=>rhs;rw[<-fI es]
   refine dI fun p hp=>?_;have:=c p hp;rw[e]at this;rw[yN (p:=(k,v)) (q:=p) a this];rfl
  |false=>simp only[zH,bF,b];rw[yxW a d]
theorem Gp(b:Ud K=true){k:den K}{v:γ}:∀{l:List (den K×γ)} {j:Nat} {p:den K×γ},l.Pairwise (fun p q=>o5 K p.1 q.1=false)->l[j]? = some p->p.1=k->l.set j (k,v)=l.map fun q=>bif o5 K q.1 k then(k,v)else q
 |[],_,_,_,h,_=>by simp at h
 |q::l,0,p,h,hp,e=>by
  obtain⟨c,d⟩:=bD.1 h;simp at hp;subst hp;rw[List.set_cons_zero,bF,(Ml b).2 e];congr 1;symm
  conv=>rhs;rw[<-fI l]
  refine dI fun p hp=>?_;have:=c p hp;rw[e]at this;rw[yN (p:=(k,v)) (q:=p) b this];rfl
 |q::l,j+1,p,h,hp,e=>by
  obtain⟨c,d⟩:=bD.1 h;have a:l[j]? = some p:=by simpa using hp
  rw[List.set_cons_succ,bF,Gp b d a e];have:=c p (bO a);rw[e]at this;rw[this];rfl
theorem A2.set{c d:Type}{R:c->d->Prop}{a:c}{b:d}(h:R a b):∀{l:List c} {m:List d} (j:Nat),A2 R l m->A2 R (l.set j a) (m.set j b)
 |_,_,_,.nil=>.nil|_,_,0,.cons _ t=>.cons h t|_,_,j+1,.cons x t=>.cons x (A2.set h j t)
theorem A2.erase{a b:Type}{R:a->b->Prop}:∀{l:List a} {m:List b} (j:Nat),A2 R l m->A2 R (l.eraseIdx j) (m.eraseIdx j)
 |_,_,_,.nil=>.nil|_,_,0,.cons _ t=>t|_,_,j+1,.cons x t=>.cons x (A2.erase j t)
theorem ysH(lt:den K->den K->Bool)(k:den K)(v:γ):∀es:List (den K×γ),(ab lt es k v).Perm ((k,v)::es)
 |[]=>.refl _|q::es=>by
  unfold ab;cases lt q.1 k with
  |true=>exact((ysH lt k v es).cons q).trans (.swap _ _ _)|false=>exact .refl _
theorem xaG(a:Ud K=true){k:den K}:∀{es:List (den K×γ)},J' (o5 K) es k=false->l5 (o5 K) es k=es
 |[],_=>rfl|q::es,h=>by unfold J' at h;rw[Bool.or_eq_false_iff]at h;unfold l5;rw[h.1,zH,xaG a h.2]
theorem xcS(a:Ud K=true){k:den K}:∀{es:List (den K×γ)} {p:den K×γ},es.Pairwise (fun p q=>o5 K p.1 q.1=false)->p∈es->p.1=k->(p::l5 (o5 K) es k).Perm es
 |[],_,_,h,_=>by cases h
 |q::es,p,h,hp,e=>by
  obtain⟨b,c⟩:=bD.1 h;unfold l5;rcases aN.1 hp with rfl|hp
  ·rw[(Ml a).2 e];exact .refl _
  ·have:=b p hp;rw[e]at this;rw[this];exact(List.Perm.swap _ _ _).trans ((xcS a c hp e).cons q)
theorem ti:∀{es:List (den K×γ)} {k:den K},(l5 (o5 K) es k).Sublist es
 |[],_=>.slnil|q::es,k=>by
  unfold l5;cases o5 K q.1 k with
  |true=>exact .cons _ (List.Sublist.refl _)|false=>exact .cons_cons _ ti
theorem yvU{a:Type}:∀{l:List a} {j:Nat} {p:a},l[j]? = some p->(p::l.eraseIdx j).Perm l
 |[],_,_,h=>by simp at h
 |x::l,0,p,h=>by simp at h;subst h;exact .refl _
 |x::l,j+1,p,h=>(List.Perm.swap _ _ _).trans ((yvU (by simpa using h)).cons x)
theorem MR.u7(e:Ud K=true){es l:List (den K×den V)}{Q':List MapEntry}{k:den K}{v:den V}{u:Value}{j:Nat}{p:den K×den V}{d:MapEntry}(A:l.Perm es)(C:A2 (fun p d=>a7 K S d.key p.1/\a7 V S d.val p.2) l Q')(c:es.Pairwise fun p q=>o5 K p.1 q.1=false)(s:(Q'.map (·.born)).Nodup) (D:l[j]? = some p) (o:Q'[j]? = some d) (G:p.1=k) (I:a7 V S u v):MR S K V (Z9 (o5 K) es k v) (Q'.set j { d with key:=kv K k,val:=u })/\T9 Q' (Q'.set j { d with key:=kv K k,val:=u }):=by
 have t:l.Pairwise fun p q=>o5 K p.1 q.1=false:=(A.pairwise_iff fun {a b} h=>yN e h).2 c;refine⟨⟨⟨l.set j (k,v),?_,C.set ⟨TG e,I⟩ j⟩,?_,?_⟩,fun x y=>?_⟩
 ·rw[Gp e t D G,yxW e c];exact A.map _
 ·rw[yxW e c,List.pairwise_map];refine c.imp fun {a b} h=>?_
  have key:∀q:den K×den V,(bif o5 K q.1 k then(k,v)else q).1=q.1:=fun q=>by
   cases J:o5 K q.1 k with
   |true=>exact((Ml e).1 J).symm|false=>rfl
  rw[key,key];exact h
 ·rw[List.map_set];have:(Q'.map (·.born)).set j d.born=Q'.map (·.born):=by
   apply bN;intro i;by_cases f:j=i
   ·subst f;have z:=(aC.1 o).1;rw[aP (by simpa using z),cF,o];rfl
   ·rw[aS f]
  rw[this];exact s
 ·rcases List.mem_or_eq_of_mem_set y with y|rfl
  ·exact⟨x,y,rfl,rfl⟩
  ·obtain⟨M,H,N⟩:=C.at (n:=j) (a:=p) (by rw[Fa];exact D);rw[o]at H;cases H;exact⟨d,bO o,by rw[Nl e N.1,G],rfl⟩
end
theorem HS.ax{id b ck ck':Nat}{Q' ents':List MapEntry}(H:HS B S w L)(hk:Y3 L id=some (.obj b (.map Q'.toArray ck))):HS B S { w with heap:=w.heap.setIfInBounds b (.map ents'.toArray ck') } (Za L id (.obj b (.map ents'.toArray ck'))):=by
 have f:=H.own id _ hk;have a:b<w.heap.size:=lt_of_heap f;refine H.Gb hk (by simp) rfl rfl rfl (fun i h c=>?_) ?_ fun j d=>.inl d
 ·have:i≠b:=fun e=>c (by rw[e];rfl);simp[Ne.symm this]
 ·show(w.heap.setIfInBounds b _)[b]? = _;simp[a]
theorem Qu{c d:Value->World->Prop}{x:Result Next}(h:outcome P c x)(b:∀v w,c v w->d v w):outcome P d x:=by
 cases x with
 |ok nx w=>
  cases nx with
  |value v=>exact b _ _ h|skip=>exact b _ _ h|enter f a=>refine Calls.mono (show Calls P f a w _ from h) fun e w' hp=>?_;cases e<;>first|exact b _ w' hp|exact hp
  |row row a=>exact Rows.mono h b|_=>exact h
 |halt=>exact h
theorem xcB{T Kt Vt:TypeId}{kt:TI}{a b c:Operand}{id gn:Nat}{K V:Ty}{es:List (den K×den V)}{xk xv:SV}{key:den K}{v:den V}{keep:Bool}(hτ:P3 P τ)(R:Rel n B S E L σ m w)(hT:P.underlying T=some (.map Kt Vt))(hk:j3 τ Kt=some kt)(hx:VR S E (.mpr id) (o0 n m a))(hy:VR S E xk (o0 n m b))(hz:VR S E xv (o0 n m c))(hc:V5 σ.hp id=some (.mp gn K V es)) (hkey:Ea [] K xk=some key) (hv:Ea [] V xv=some v) (hb:Es τ kt.td K=true) (h:(bif keep then Option.bind (o6 (J' (o5 K) es key)) fun _=>k .undef ⟨σ.sl,O6 σ.hp id (.mp gn K V (Z9 (o5 K) es key v))⟩
   else k .undef ⟨σ.sl,O6 σ.hp id (.mp (gn+1) K V (Y0 (o5 K) (Ho K) es key v))⟩)=some r):
  outcome P (j6 n B S E m k r) ((execOp (o0 n m) ⟨dst,.mapUpdate T a b c,ty,pos,aft,g⟩).run P w):=by
 have hK:=TZ hτ hk hb;have d:=hK.ok;obtain⟨r0,e0,g1,g2,D,Q',ck,rfl,rfl,N,g4⟩:=R.P6 hc;obtain⟨_,e0,h8,h9⟩:=hx;rw[g2]at h8;cases h8;have hm:=h9 _ _ _ _ rfl;have hkv:o0 n m b=kv K key:=Nl d (SG (Mem.le_refl S) Pu hkey hy);have H:a7 V S (o0 n m c) v:=SG (Mem.le_refl S) Pu hv hz;obtain⟨l,hl,U⟩:=N.perm;obtain⟨o,hf,I⟩:=og hK key U;obtain⟨h5,_⟩:=MR.fnd d hl N.ne U I (o0 n m c) v H;have hh:=R.hs.own id _ g1
 have f:=Wl (v:=o0 n m c) hT hK hh hf (fun i u ho=>by
  subst ho;cases I with
  | @yes j p s q1 O q3=>
   simp only[aV];obtain⟨z,q4,q5⟩:=U.at (n:=j) (a:=p) (by rw[Fa];exact q1);rw[O]at q4;cases q4
   exact⟨s,O,by rw[Nl d q5.1,q3]⟩)
 have fin:∀{g' ck':Nat} {ents':List MapEntry} {J:List (den K×den V)},(QU T (.map (some D)) (kv K key) (o0 n m c)).run P w = .ok () { w with heap:=w.heap.setIfInBounds D (.map ents'.toArray ck') }->MR S K V J ents'->(∀s∈ents',s.born<ck')->(EI.mp gn D ck Q').le (.mp g' D ck' ents')->k .undef ⟨σ.sl,O6 σ.hp id (.mp g' K V J)⟩=some r->outcome P (j6 n B S E m k r) ((execOp (o0 n m) ⟨dst,.mapUpdate T a b c,ty,pos,aft,g⟩).run P w):=fun {g' ck' ents' J} hr A C W hk'=>by
  have hr':(execOp (o0 n m) ⟨dst,.mapUpdate T a b c,ty,pos,aft,g⟩).run P w = .ok .skip { w with heap:=w.heap.setIfInBounds D (.map ents'.toArray ck') }:=by simp[execOp,hm,hkv,hr]
  rw[hr'];exact⟨.undef,_,S,_,_,hk',Mem.le_refl _,V4.set g2 W,R.Gb g2 W (Mem.le_refl _) (HS.ax R.hs g1) ⟨D,ents',ck',rfl,rfl,A,C⟩,trivial⟩
 cases I with
 |no hno=>
  have X:J' (o5 K) es key=false:=h5;cases keep with
  |true=>obtain⟨_,Y,_⟩:=x9 h;rw[X]at Y;cases Y
  |false=>
   have h:k .undef ⟨σ.sl,O6 σ.hp id (.mp (gn+1) K V (Y0 (o5 K) (Ho K) es key v))⟩=some r:=h;have M:Y0 (o5 K) (Ho K) es key v=ab (Ho K) es key v:=by unfold Y0;rw[X];rfl
   rw[M]at h;have hnk:∀q∈es,o5 K q.1 key=false:=fun q hq=>(SJ d).2 (hno q (hl.mem_iff.2 hq));refine fin (ck':=ck+1) (ents':=Q'++[{ key:=kv K key,val:=o0 n m c,born:=ck }]) (by rw[f];simp) ⟨⟨l++[(key,v)],?_,U.X0 (.cons ⟨TG d,H⟩ .nil)⟩,?_,?_⟩ (fun s he=>?_) (.inr ⟨_,_,_,rfl,.inl (by omega)⟩) h
   ·exact(List.perm_append_singleton (key,v) l).trans ((hl.cons _).trans (ysH _ _ _ _).symm)
   ·refine((ysH (Ho K) key v es).pairwise_iff fun {a b} h=>yN d h).2 ?_;exact bD.2 ⟨fun q hq=>yN (p:=q) (q:=(key,v)) d (hnk q hq),N.ne⟩
   ·rw[List.map_append,List.nodup_append];refine⟨N.nd,by simp,fun x hx y hy=>?_⟩;obtain⟨s,he,rfl⟩:=aY.1 hx;have:=g4 s he;simp at hy;subst hy;exact Nat.ne_of_lt this
   ·rcases List.mem_append.1 he with he|he
    ·exact Nat.lt_succ_of_lt (g4 s he)
    ·simp at he;subst he;exact Nat.lt_succ_self ck
 | @yes j p s q1 O q3=>
  have hh1:J' (o5 K) es key=true:=h5;simp only[aV]at f;obtain⟨A,G⟩:=MR.u7 d hl U N.ne N.nd q1 O q3 H;have t:(QU T (.map (some D)) (kv K key) (o0 n m c)).run P w = .ok () { w with heap:=w.heap.setIfInBounds D (.map (Q'.set j { s with key:=kv K key,val:=o0 n m c }).toArray ck) }:=by
   rw[f];congr 3
   have:Q'.toArray.modify j (fun e=>{ e with key:=kv K key,val:=o0 n m c })=(Q'.set j { s with key:=kv K key,val:=o0 n m c }).toArray:=by
    apply dY;apply bN;intro i;simp only[Array.toList_modify];rw[List.getElem?_modify,List.getElem?_set];by_cases Z:j=i
    ·subst Z;simp[O];have:=(aC.1 O).1;omega
    ·simp[Z]
   rw[this]
  have C:∀z∈Q'.set j { s with key:=kv K key,val:=o0 n m c },z.born<ck:=fun z he=>by obtain⟨e2,k1,_,k2⟩:=G z he;rw[<-k2];exact g4 e2 k1
  cases keep with
  |true=>obtain⟨_,_,h⟩:=x9 h;exact fin t A C (.inr ⟨_,_,_,rfl,.inr ⟨rfl,rfl,G⟩⟩) h
  |false=>
   have h:k .undef ⟨σ.sl,O6 σ.hp id (.mp (gn+1) K V (Y0 (o5 K) (Ho K) es key v))⟩=some r:=h;have M:Y0 (o5 K) (Ho K) es key v=Z9 (o5 K) es key v:=by unfold Y0;rw[hh1];rfl
   rw[M]at h;exact fin t A C (.inr ⟨_,_,_,rfl,.inl (by omega)⟩) h
theorem Zs{T T2 Kt Vt:TypeId}{Q:TI}{a b:Operand}{id gn:Nat}{K V:Ty}{es:List (den K×den V)}{xk:SV}{key:den K}(u:P3 P τ)(R:Rel n B S E L σ m w)(hT:P.underlying T=some (.map Kt Vt))(hk:j3 τ Kt=some Q)(hx:VR S E (.mpr id) (o0 n m a))(hy:VR S E xk (o0 n m b))(hc:V5 σ.hp id=some (.mp gn K V es)) (q:Ea [] K xk=some key) (hb:Es τ Q.td K=true) (h:k (.Bb []) ⟨σ.sl,O6 σ.hp id (.mp gn K V (l5 (o5 K) es key))⟩=some r):
  outcome P (j6 n B S E m k r) ((execOp (o0 n m) ⟨dst,.call ⟨.builtin .delete,#[a,b],#[T,T2]⟩,ty,pos,aft,g⟩).run P w):=by
 have v:=TZ u hk hb;have d:=v.ok;obtain⟨r0,e0,U,x,i,Q',ck,rfl,rfl,s,g4⟩:=R.P6 hc;obtain⟨_,e0,W,h9⟩:=hx;rw[x]at W;cases W;have hm:=h9 _ _ _ _ rfl;have y:o0 n m b=kv K key:=Nl d (SG (Mem.le_refl S) Pu q hy);obtain⟨l,z,X⟩:=s.perm;obtain⟨o,hf,A⟩:=og v key X;have hh:=R.hs.own id _ U;have c:=Xl (ty:=ty) (T2:=T2) hT v hh hf
 have fin:∀{ents':List MapEntry} {f:List (den K×den V)},(Builtin.delete_ #[T,T2] ty #[.map (some i),kv K key]).run P w = .ok (.tuple #[]) { w with heap:=w.heap.setIfInBounds i (.map ents'.toArray ck) }->MR S K V f ents'->T9 Q' ents'->k (.Bb []) ⟨σ.sl,O6 σ.hp id (.mp gn K V f)⟩=some r->outcome P (j6 n B S E m k r) ((execOp (o0 n m) ⟨dst,.call ⟨.builtin .delete,#[a,b],#[T,T2]⟩,ty,pos,aft,g⟩).run P w):=fun {ents' f} hr C Y D=>by
  have G:(execOp (o0 n m) ⟨dst,.call ⟨.builtin .delete,#[a,b],#[T,T2]⟩,ty,pos,aft,g⟩).run P w = .ok (.value (.tuple #[])) { w with heap:=w.heap.setIfInBounds i (.map ents'.toArray ck) }:=by simp[execOp,resolve,invoke,builtin,hm,y,hr]
  rw[G];have t:(EI.mp gn i ck Q').le (.mp gn i ck ents'):=.inr ⟨_,_,_,rfl,.inr ⟨rfl,rfl,Y⟩⟩;exact⟨.Bb [],_,S,_,_,D,Mem.le_refl _,V4.set x t,R.Gb x t (Mem.le_refl _) (HS.ax R.hs U) ⟨i,ents',ck,rfl,rfl,C,fun Z H=>by obtain⟨e2,k1,_,k2⟩:=Y Z H;rw[<-k2];exact g4 e2 k1⟩,⟨[],rfl,.nil⟩⟩
 cases A with
 |no I=>
  have J:J' (o5 K) es key=false:=by rw[<-Bool.not_eq_true,GU d];rintro⟨p,hp,e⟩;exact I p (z.mem_iff.2 hp) e
  rw[xaG d J]at h;exact fin c s (T9.refl _) h
 | @yes j p Z q1 q2 q3=>
  simp only[aV]at c;have M:p∈es:=z.mem_iff.1 (bO q1);refine fin (ents':=Q'.eraseIdx j) ?_ ⟨⟨l.eraseIdx j,?_,X.erase j⟩,?_,?_⟩ (fun N H=>⟨N,(iY Q' j).subset H,rfl,rfl⟩) h
  ·rw[c];have O:=(aC.1 q2).1;congr 3;simp[Array.eraseIdxIfInBounds,O]
  ·exact(List.perm_cons p).1 ((yvU q1).trans (z.trans (xcS d s.ne M q3).symm))
  ·exact s.ne.sublist ti
  ·exact s.nd.sublist ((iY Q' j).map _)
theorem xfC{T E:TypeId}{z v2:Value}{zl a ps cs rs:LV}{nb sz n M p b q c f k ty:Nat}(O:Qe P T E z zl nb sz)(H:HS B S w L)(hk:Y3 L k=some (.H' (sl b 0 (p+n) c) (p+n) sz (ps++cs) rs E))(t:ps.length=p*sz)(hn:n<=f)(C:(q=p*sz/\c=p+f)∨f=0)(hr:Oe w v2 M sz a)(h1:∀u∈a,u.oneCell'=true)(hb:n+M<=68719476736):∃w' b2 q2 c2,(ue #[T,T] ty #[sl b q n f,v2]).run P w = .ok (sl b2 q2 (n+M) c2) w'/\n+M<=c2/\∃p2 c3 ps2 rs2,HS B S w' (Za L k (.H' (sl b2 0 (p2+(n+M)) c3) (p2+(n+M)) sz (ps2++(cs++a)) rs2 E))/\ps2.length=p2*sz/\((q2=p2*sz/\c3=p2+c2)∨c2=0):=by
 obtain⟨i,Q,hi2,D,hi4⟩:=O.Tb;have hpos:=O.pos;have I:=O.small;have J:(n+M)*nb<=140737488355328:=by
  calc (n+M)*nb<=68719476736*2048:=gA hb I
   _=140737488355328:=by decide
 obtain⟨hf1,hf2⟩:=hr.first (P:=P);have l:=hr.len;have hzl:∀n,(Wa z.cells n).toList.length=n*sz:=fun n=>by rw[GP _ _ O.cells,O.len]
 rcases H.own k _ hk with⟨h,_⟩|⟨b0,c0,fz,hv,g1,g2,g3,g4,g5⟩
 ·cases h
 ·injection hv with e1 e2 e3;injection e1 with e1;injection e1 with e1 _ _;subst e1;subst e3;have v:cs.length=n*sz:=by rw[aD,t,cA]at g2;omega
  by_cases d:n+M<=f
  ·by_cases R:f=0
   ·obtain rfl:M=0:=by omega
    obtain rfl:n=0:=by omega
    have hn0:a=[]:=aW (by omega);subst hn0;refine⟨w,b,q,f,?_,d,p,c,ps,rs,?_,t,.inr R⟩
    ·simp[ue,Go.underlying,O.wc,sizeOf,typeInfo,Q,D,hf1,hf2,sl,R,storeCells]
    ·rw[bJ,aV];refine H.Gb hk (aL _) rfl rfl rfl (fun _ _ _=>rfl) (.inr ⟨b,c,fz,rfl,g1,g2,g3,g4,g5⟩) fun b' x=>.inl x
   ·obtain⟨rfl,rfl⟩:q=p*sz/\c=p+f:=by
     rcases C with C|C
     ·exact C
     ·exact absurd C R
    have hcap:p*sz+(n*sz+M*sz)<=(p+f)*sz:=by rw[<-cA,<-cA];exact dK sz (by omega)
    obtain⟨w',he,x,hs,q4,q5,q6,q7⟩:=DP (P:=P) (b:=b) (o:=p*sz+n*sz) a 0 w (ps++cs++rs) h1 g4 g5 (by omega);have hlay:lay (ps++cs++rs) (p*sz+n*sz+0) a=ps++(cs++a)++rs.drop a.length:=by
     have U:=g3;rw[aD]at U;have W:(ps++cs).length=p*sz+n*sz:=by rw[aD,t,v]
     rw[Nat.add_zero,<-W,<-aU ps cs a];generalize ps++cs=A at W U ⊢;apply bN;intro j;rw[Df,aU A a];by_cases y:j<A.length
     ·rw[zI (by omega),aF (by omega),aF (by omega)]
     ·by_cases hj2:j<A.length+a.length
      ·rw[zJ ⟨by omega,hj2,by simp only[aD]at U W y hj2 ⊢;omega⟩,aG (by omega),aF (by omega)]
      ·rw[zI (by omega),aG (by omega),aG (by omega),aG (by omega),bU];congr 1;omega
    rw[hlay]at x;have hll:(ps++(cs++a)++rs.drop a.length).length=(ps++cs++rs).length:=by rw[aD]at g3;simp only[aD,bL]at g3 ⊢;omega
    refine⟨w',b,p*sz,f,?_,d,p,p+f,ps,rs.drop a.length,?_,t,.inl ⟨rfl,rfl⟩⟩
    ·simp[ue,Go.underlying,O.wc,sizeOf,typeInfo,Q,D,hf1,hf2,d,sl,yd,he]
    ·refine H.Gb hk (by omega) q4 q5 q6 (fun j _ hne=>q7 j fun e=>hne (by rw[e];rfl)) (.inr ⟨b,p+f,fz,rfl,by omega,?_,by rw[hll];exact g3,x,by rw[hll];exact g5⟩) fun b' x=>.inl x;rw[aD,aD,t,v,l];simp only[cA]
  ·rcases hr with⟨_,h,_⟩|⟨b2,o2,c2,cs2,T2,fz2,rfl,hc2,hb2,ho2,hp2⟩
   ·omega
   ·have X:∀j u,a[j]? = some u->w.cell? ((⟨b2,o2,none⟩:Addr).add j)=some u:=fun j u y=>by have hjl:=(aC.1 y).1;rw[yd,yk hb2];rw[<-hp2,P9,dE,zJ (by omega),bU]at y;exact y
    have holds:∀j u,cs[j]? = some u->w.cell? ((⟨b,q,none⟩:Addr).add j)=some u:=fun j u y=>by
     have hjl:=(aC.1 y).1;have hn0:n≠0:=fun e=>by rw[e,gX]at v;omega
     obtain⟨rfl,rfl⟩:q=p*sz/\c=p+f:=by
      rcases C with C|C
      ·exact C
      ·omega
     rw[yd,yk g4,aU,<-t,aG (by omega),Nat.add_sub_cancel_left,aF hjl];exact y
    have hfit:=growslice_fits (bytes:=nb) (dV d) J;have s:=run_append_grow (P:=P) w T ty E i z O.wc Q hi2 ⟨b,q,none⟩ n f cs (by rw[D];exact v) holds ⟨b2,o2,none⟩ M c2 a (by rw[D];exact l) X (dV d) (by omega) (by rw[hi4];exact hfit);have Y:=grownCap_ge w (n+M) f E;generalize hG:grownCap w (n+M) f E=G at s Y;have hZl:=hzl (G-(n+M));generalize hZ:Wa z.cells (G-(n+M))=Z at s hZl;have N:cs.toArray++a.toArray++Z=(cs++a++Z.toList).toArray:=by apply dY;simp
    rw[N]at s;refine⟨_,w.heap.size,0,G,s,Y,0,G,[],Z.toList,?_,by simp,.inl ⟨by rw[gX],by rw[aV]⟩⟩;rw[aV,bP];refine H.Gb hk (by simp) rfl rfl rfl (fun j y _=>?_) (.inr ⟨w.heap.size,G,(0,0),rfl,Y,?_,?_,?_,.inl rfl⟩) fun b hb=>?_
    ·exact(Ext.trans (Ext.drew w) (Ext.alloc w.drew _)).block j y
    ·rw[aD,v,l,cA]
    ·refine eI (Eq.symm ?_);simp only[aD,hZl,v,l,<-cA];congr 1;omega
    ·exact Od w.drew _
    ·cases hb;exact .inr (aL _)
theorem bt{x y:Operand}{T E':TypeId}{f:TI}{id a:Nat}{e:Ty}{xs ys r':List (den e)}{D:SV}(R:Rel n B S E L σ m w)(M:P.underlying T=some (.slice E'))(N:l4 P E' f)(hs:Yb f=true)(O:f.sz=l0 e)(Q:VR S E (.own id a) (o0 n m x))(U:VR S E D (o0 n m y))(W:V5 σ.hp id=some (.qu a e E' xs))(v:Tf σ.hp (.sl e) D=some ys)(X:X0 xs ys=some r') (h:k (.own id (a+1)) ⟨σ.sl,O6 σ.hp id (.qu (a+1) e E' r')⟩=some r):outcome P (Z5 n B S E L [id] m k r) ((execOp (o0 n m) ⟨dst,.call ⟨.builtin .append,#[x,y],#[T,T]⟩,ty,pos,aft,g⟩).run P w):=by
 obtain⟨r0,e0,Y,o,b,c,p,ps,Z,rs,q,c',rfl,rfl,g1,g2,g3,g4⟩:=R.P6 W;obtain⟨h4,e1,G,h6⟩:=Q;rw[o]at G;cases G;have hv:=(h6 _ _ _ rfl).2 rfl;have z:=xN M N hs O;obtain⟨hb,I⟩:=Rr X;have hid:id<E.length:=(aC.1 o).1;obtain⟨ds,i,hw⟩:=IU R U v;have l:r'.length=xs.length+ys.length:=by rw[<-I,aD]
 obtain⟨w',s,t,u,d,J,p2,c3,A,C,H,k2,k3⟩:=xfC (ty:=ty) z R.hs Y g1 g3 g4 (hw w R.hs) i.one hb;rw[kK (by rw[hv];exact d)];rw[<-l]at H J d ⊢;refine⟨_,_,S,_,_,h,Mem.le_refl _,V4.set o (.inr (.inr ⟨a+1,sl s t r'.length u,rfl,by omega⟩)),R.Gb o (.inr (.inr ⟨a+1,sl s t r'.length u,rfl,by omega⟩)) (Mem.le_refl _) H ⟨s,c3,p2,A,Z++ds,C,t,u,rfl,rfl,k2,?_,J,k3⟩,⟨rfl,.H' (a+1) (sl s t r'.length u) (l0 e),by rw[aP hid],fun r1 v1 s1 hq=>by cases hq;exact⟨aL _,fun _=>rfl⟩⟩,fun j hj _=>uo fun e=>VU hj (by omega)⟩;rw[<-I];exact g2.append i
theorem bx{x G:Operand}{E' E2:TypeId}{f:TI}{id d:Nat}{a:Int}{Z:IntKind}{e:Ty}{xs r':List (den e)}(R:Rel n B S E L σ m w)(O:P.underlying T=some (.slice E'))(hE:l4 P E' f)(hz:f.sz=l0 e)(hx:VR S E (.own id d) (o0 n m x))(t:o0 n m G = .int Z a)(hc:V5 σ.hp id=some (.qu d e E2 xs))(ha:T4 xs a=some r') (h:k (.own id (d+1)) ⟨σ.sl,O6 σ.hp id (.qu (d+1) e E2 r')⟩=some r):outcome P (j6 n B S E m k r) ((execOp (o0 n m) ⟨dst,.slice T x (some G) none none,ty,pos,aft,g⟩).run P w):=by
 obtain⟨r0,e0,Q,A,b,c,p,C,i,U,q,s,rfl,rfl,g1,W,g3,g4⟩:=R.P6 hc;obtain⟨h4,e1,X,h6⟩:=hx;rw[A]at X;cases X;have Y:=(h6 _ _ _ rfl).2 rfl;have u:∀w,(sizeOf E').run P w = .ok (l0 e) w:=fun w=>by rw[<-hz];exact hE.l0 w
 obtain⟨I,D,J⟩:=UT ha;have hid:id<E.length:=(aC.1 A).1;generalize hj:a.toNat=j at I D J;have M:i.length=xs.length*l0 e:=by have:=W.len;rw[gd]at this;exact this
 have v:r'.length=xs.length-j:=by rw[<-J,bL]
 have y:(execOp (o0 n m) ⟨dst,.slice T x (some G) none none,ty,pos,aft,g⟩).run P w = .ok (.value (sl b (if s=j then q else q+j*l0 e) r'.length (s-j))) w:=by
  rw[v];by_cases l:s=j
  ·simp[execOp,Instr.sliceAt,Go.underlying,O,Instr.slice,ee,Y,t,sl,ie I D,u w,l]
  ·simp[execOp,Instr.sliceAt,Go.underlying,O,Instr.slice,ee,Y,t,sl,ie I D,u w,l,yd]
 rw[y];have o:C++i=(C++i.take (j*l0 e))++i.drop (j*l0 e):=by rw[aU,List.take_append_drop]
 have hjl:j*l0 e<=i.length:=by rw[M];exact dK _ D
 have z:p+xs.length=(p+j)+r'.length:=by omega
 have H:HS B S w (Za L id (.H' (sl b 0 ((p+j)+r'.length) c) ((p+j)+r'.length) (l0 e) ((C++i.take (j*l0 e))++i.drop (j*l0 e)) U E2)):=by rw[<-z,<-o];exact R.hs.Gb Q (aL _) rfl rfl rfl (fun _ _ _=>rfl) (R.hs.own id _ Q) fun b' N=>.inl N
 refine⟨_,_,S,_,_,h,Mem.le_refl _,V4.set A (.inr (.inr ⟨d+1,_,rfl,by omega⟩)),R.Gb A (.inr (.inr ⟨d+1,_,rfl,by omega⟩)) (Mem.le_refl _) H ⟨b,c,p+j,C++i.take (j*l0 e),i.drop (j*l0 e),U,if s=j then q else q+j*l0 e,s-j,rfl,rfl,?_,?_,by omega,?_⟩,⟨rfl,.H' (d+1) _ (l0 e),by rw[aP hid],fun r1 v1 s1 hq=>by cases hq;exact⟨aL _,fun _=>rfl⟩⟩⟩
 ·rw[aD,List.length_take,g1,cA];omega
 ·rw[<-J];have:=RL.drop j W;rw[show Rp.sz (den e)=l0 e from gd e]at this;exact this
 ·by_cases l:s=j
  ·right;omega
  ·left;rw[zI l];rcases g4 with⟨rfl,rfl⟩|g4
   ·exact⟨by rw[cA],by omega⟩
   ·omega
theorem xdM{x y:Operand}{T T':TypeId}(u:P3 P τ)(R:Rel n B S E L σ m w)(h:xl τ Γ σ (.call ⟨.builtin .append,⟨[x,y]⟩,⟨[T,T']⟩⟩) k=some r):
  outcome P (Z5 n B S E L (We σ x) m k r) ((execOp (o0 n m) ⟨dst,.call ⟨.builtin .append,⟨[x,y]⟩,⟨[T,T']⟩⟩,ty,pos,aft,g⟩).run P w):=by
 simp only[xl]at h;split at h
 ·rename_i E' z1 z2 z3 z4 sx sy hT Z hy;have X:=(u _ _ hT).sl rfl;have v:=p7 R hy;split at h
  ·rename_i f hf;have Y:=u _ _ hf;obtain⟨hs,b⟩:=r7 h;clear h;have h:=b;clear b;have z:=p7 R Z;split at h
   ·rename_i id ver;split at h
    ·rename_i M e E2 xs hc;obtain⟨j,b⟩:=r7 h;clear h;have h:=b;clear b;have e1:=aB (Z3 (Z3 j));have e2:=aB (Y4 (Z3 j));have C:=aB (Y4 j);subst e1;subst e2;split at h
     ·rename_i A d;obtain⟨O,t,b⟩:=x9 h;clear h;have h:=b;clear b;have D:We σ x=[id]:=by unfold We;rw[Z]
      rw[D];exact ywY u R X Y hs C z v hc d t h
     ·cases h
    ·rename_i M e E2 xs hc;obtain⟨j,b⟩:=r7 h;clear h;have h:=b;clear b;have e1:=aB (Z3 (Z3 (Z3 j)));have e2:=aB (Y4 (Z3 (Z3 j)));have C:=aB (Y4 (Z3 j));have e4:=aB (Y4 j);subst e1;subst e2;subst e4;split at h
     ·rename_i A d;obtain⟨O,t,b⟩:=x9 h;clear h;have h:=b;clear b;have D:We σ x=[id]:=by unfold We;rw[Z]
      rw[D];exact bt R X Y hs C z v hc d t h
     ·cases h
    ·cases h
   ·obtain⟨j,b⟩:=r7 h;clear h;have h:=b;clear b;have C:=aB j;split at h
    ·rename_i A d;obtain⟨O,t,b⟩:=x9 h;clear h;have h:=b;clear b;have:=xeT t;subst this;have p:=xN X Y hs C;have q:o0 n m x = .slice none 0 0:=z;rcases Xw u R v d with⟨rfl,ds,s,hw⟩|⟨hu2,l,I,huu,Q⟩
     ·obtain⟨w',v',U,c,H⟩:=ZT (ty:=ty) (N:=0) (k:=0) p (R.hs.na (l0 f.ty) E') rfl (hw w R.hs) s.one (by have:=(Rr t).1;simpa using this);rw[kK (by rw[q];exact c)];rw[aV,bP]at H;exact(CQ R H s h).sub fun _ _ _=>rfl
     ·have W:l0 f.ty=1:=by rw[<-I];rfl
      rw[W]at p;have hb2:=(Rr t).1;have key:∀{e:Ty} (I:Ty.i .u8=e) {A:List (den e)},A=Ob (by rw[I]:Ty.sl (.i .u8)=Ty.sl e) (show Bs from l)->A.length=l.length/\RL S (W9 l) A:=fun {e} I {A} h=>by subst I;subst h;exact⟨rfl,RL.wg⟩
      obtain⟨k1,k2⟩:=key I Q;obtain⟨w',v',U,c,H⟩:=dU (ty:=ty) (N:=0) (k:=0) (l:=l) p hu2 (R.hs.na 1 E') rfl (by rw[<-k1];simpa using hb2);rw[kK (by rw[q,huu];exact c)];rw[aV,bP,<-k1]at H;exact(CQ R (by rw[W];exact H) k2 h).sub fun _ _ _=>rfl
    ·cases h
   ·obtain⟨j,b⟩:=r7 h;clear h;have h:=b;clear b;have C:=aB (Z3 j);have e4:=aB (Y4 j);subst e4;split at h
    ·rename_i A d;obtain⟨O,t,b⟩:=x9 h;clear h;have h:=b;clear b;have:=xeT t;subst this;have p:=xN X Y hs C;obtain⟨hSl,J,q⟩:=z;obtain⟨ds,s,hw⟩:=IU R v d;obtain⟨w',v',U,c,G⟩:=ysV (ty:=ty) (a:=J) p R.hs (hw w R.hs) s.one (by have:=(Rr t).1;simpa using this);rw[kK (by rw[q];exact c)];rcases G with⟨h0,rfl,rfl⟩|H
     ·have hr0:O=[]:=aW h0;subst hr0;have H:HS B S w' (.H' (.slice none 0 0) 0 (l0 f.ty) [] [] E'::L):=R.hs.na _ _;exact⟨_,_,S,E++[.H' 0 (.slice J 0 0) (l0 f.ty)],_,h,Mem.le_refl _,V4.push E _,R.snoc (e:=.H' 0 (.slice J 0 0) (l0 f.ty)) (o:=.H' 0 f.ty E' []) H ⟨.slice none 0 0,.slice J 0 0,[],[],rfl,rfl,rfl,.inr ⟨rfl,rfl,by rw[<-q];exact hSl,J,rfl⟩⟩,⟨rfl,.H' 0 (.slice J 0 0) (l0 f.ty),by rw[<-R.lE];simp,fun O v' s' b=>by cases b;exact⟨aL _,fun _=>rfl⟩⟩,fun i _ hi=>UU hi⟩
     ·exact(CQ R H s h).sub fun _ _ _=>rfl
    ·cases h
   ·cases h
  ·cases h
 ·cases h
theorem ID{o:Op}(c:P3 P τ)(_hΓ:X6 P Γ B)(R:Rel n B S E L σ m w)(h:xl τ Γ σ o k=some r):
  outcome P (j6 n B S E m k r) ((execOp (o0 n m) ⟨dst,o,ty,pos,aft,g⟩).run P w):=by
 unfold xl at h;split at h
 ·rename_i x y T T';exact Qu (xdM (Γ:=Γ) c R (by unfold xl;exact h)) fun _ _ hp=>hp.two
 ·rename_i T N ps;split at h
  ·rename_i E' M O Q z4 z;split at h
   ·rename_i f hf;obtain⟨s,q⟩:=r7 h;clear h;have h:=q;clear q;split at h
    ·rename_i ys hys;obtain⟨ps⟩:=ps;obtain⟨Z,E1,L1,d,j,A⟩:=fh (Ad σ (ps.map (·.2))) R;have:=xaF (dst:=dst) (g:=g) (ty:=ty) (pos:=pos) (aft:=aft) A ((c _ _ z).sl rfl) (c _ _ hf) (Z3 (Z3 (Z3 s))) (aB (Y4 (Z3 (Z3 s)))) (aB (Y4 (Z3 s))) (bK (Y4 s)) hys h;exact Qu this fun v w' hp=>j6.up hp.two d j
    ·cases h
   ·cases h
  ·cases h
 ·rename_i T x lo hi;split at h
  ·rename_i id ver G;split at h
   ·rename_i ver' e E2 xs C;split at h
    ·rename_i a f hlo hf;obtain⟨s,q⟩:=r7 h;clear h;have h:=q;clear q;have e1:=aB (Z3 s);have e3:=aB (Y4 s);subst e1;obtain⟨r',ha,q⟩:=x9 h;clear h;have h:=q;clear q;obtain⟨E3,hu,hE⟩:=EU c hf;rcases UJ R hlo with⟨_,hh⟩|⟨x1,q1,c1,rfl,hh,e4⟩
     ·cases hh
     ·cases hh;exact bx R hu hE e3 (p7 R G) e4 C ha h
    ·cases h
   ·obtain⟨Z,E1,L1,d,j,A⟩:=yQ R id;exact Qu ((JU c A h).two A) fun v w' hp=>j6.up hp d j
  ·exact(JU c R h).two R
 ·rename_i T;split at h
  ·split at h
   ·exact Vl (Kt:=0) (Vt:=0) R h
   ·cases h
  ·cases h
 ·rename_i x;split at h
  ·rename_i i G;split at h
   ·rename_i l p C;obtain⟨r0,e0,g1,g2,b,rfl,rfl⟩:=R.P6 C;obtain⟨b',W,e1,h8,h9⟩:=p7 R G;rw[g2]at h8;cases h8;have:=h9 _ rfl;subst this;obtain⟨w',t,H⟩:=xC (P:=P) (dst:=dst) (ty:=ty) (pos:=pos) (aft:=aft) (g:=g) R.hs W g1;rw[t];have A:=R.Ts (o':=.is l (Vr l p)) g2 H ⟨b,rfl,rfl⟩;cases hp:decide (p<l.length) with
    |true=>rw[hp]at h;refine⟨_,_,S,_,_,h,Mem.le_refl _,V4.refl _,A,⟨[.bool true,.int .i64 (p:Int),.int .i32 (Lu l p)],by unfold IP;rw[hp];rfl,.cons (show u7 .b S [.bool true] true from rfl) (.cons (show u7 (.i .i64) S [.int .i64 (p:Int)] (p:Int)from rfl) (.cons (show u7 (.i .i32) S [.int .i32 (Lu l p)] (Lu l p)from rfl) .nil))⟩⟩|false=>rw[hp]at h;refine⟨_,_,S,_,_,h,Mem.le_refl _,V4.refl _,A,⟨[.bool false],by unfold IP;rw[hp];rfl,.cons (show u7 .b S [.bool false] false from rfl) .nil⟩⟩
   ·cases h
  ·cases h
 ·rename_i T x;split at h
  ·rename_i M O Q z4 l z G;obtain⟨w',b,t,H⟩:=Qv (P:=P) (dst:=dst) (ty:=ty) (pos:=pos) (aft:=aft) (g:=g) R.hs ((c _ _ z).str rfl) (vS (p7 R G));rw[t];exact⟨_,_,S,E++[.N' b],_,h,Mem.le_refl _,V4.push E _,R.snoc (e:=.N' b) (o:=.is l 0) H ⟨b,rfl,rfl⟩,⟨b,rfl,.N' b,by rw[<-R.lE];simp,fun b' hb'=>by cases hb';rfl⟩⟩
  ·rename_i Kt Vt M O Q z4 id z G;split at h
   ·rename_i kt gn K V es U C;obtain⟨s,h⟩:=r7 h;exact Zw c R ((c _ _ z).map rfl) (p7 R G) C s h
   ·cases h
  ·cases h
 ·rename_i T mm x y;split at h
  ·rename_i Kt Vt M O Q z4 z;split at h
   ·rename_i kt id xk xv U X Y h3;obtain⟨Z,E1,L1,d,j,A⟩:=fh (Ad σ [y]) R;split at h
    ·rename_i gn K V es C;split at h
     ·rename_i key v u W;obtain⟨s,q⟩:=r7 h;clear h;have h:=q;clear q;have I:=(p7 R X).mono d j;have J:=(p7 R Y).mono d j;exact Qu (xcB c A ((c _ _ z).map rfl) U I J (p7 A h3) C u W s h) fun v w' hp=>j6.up hp d j
     ·cases h
    ·cases h
   ·cases h
  ·cases h
 ·rename_i T mm x y;split at h
  ·rename_i Kt Vt M O Q z4 z;split at h
   ·rename_i kt id xk xv U X Y h3;obtain⟨Z,E1,L1,d,j,A⟩:=fh (Ad σ [y]) R;split at h
    ·rename_i gn K V es C;split at h
     ·rename_i key v u W;obtain⟨s,q⟩:=r7 h;clear h;have h:=q;clear q;have I:=(p7 R X).mono d j;have J:=(p7 R Y).mono d j;refine Qu (?_:outcome P (j6 n B Z E1 m k r) ((execOp (o0 n m) ⟨dst,.mapUpdate T mm x y,ty,pos,aft,g⟩).run P w)) fun v w' hp=>j6.up hp d j;exact(xcB c A ((c _ _ z).map rfl) U I J (p7 A h3) C u W s h)
     ·cases h
    ·cases h
   ·cases h
  ·cases h
 ·rename_i mm x T T2;split at h
  ·rename_i Kt Vt M O Q z4 z;split at h
   ·rename_i kt id xk U X Y;split at h
    ·rename_i gn K V es C;split at h
     ·rename_i key u;obtain⟨s,q⟩:=r7 h;clear h;have h:=q;clear q;exact Zs c R ((c _ _ z).map rfl) U (p7 R X) (p7 R Y) C u s h
     ·cases h
    ·cases h
   ·cases h
  ·cases h
 ·rename_i T D x;split at h
  ·rename_i M O Q z4 E' y1 y2 y3 y4 z hD;split at h
   ·rename_i x1 x2 x3 x4 l hE G;obtain⟨s,q⟩:=r7 h;clear h;have h:=q;clear q;obtain⟨w',v,t,rs,H⟩:=uC (dst:=dst) (ty:=ty) (pos:=pos) (aft:=aft) (g:=g) ((c _ _ z).str rfl) ((c _ _ hD).sl rfl) ((c _ _ hE).int rfl) R.hs (vS (p7 R G)) (aB s);rw[t];exact(CQ (e:=.i .u8) (xs:=(show List (den (.i .u8))from l)) R H RL.wg h).two
   ·cases h
  ·exact(pg c R h).two R
 ·exact(pg c R h).two R
theorem xg{o:Op}(c:P3 P τ)(l:X6 P Γ B)(R:Rel n B S E L σ m w)(h:yl τ Γ σ o T k=some r):
  outcome P (j6 n B S E m k r) ((execOp (o0 n m) ⟨dst,o,ty,pos,aft,g⟩).run P w):=by
 unfold yl at h;split at h
 ·rename_i x ash at_;obtain⟨ash⟩:=ash;exact Ys (ash:=ash) l R h
 ·rename_i i nn cc;split at h
  ·rename_i E' z1 z2 z3 z4 q a1 q' a2 j u y;split at h
   ·rename_i e N;split at h
    ·rename_i z O;obtain⟨hs,h⟩:=r7 h;obtain⟨_,t,h⟩:=x9 h;obtain⟨Q,U,h⟩:=x9 h;have t:=Kv t;have W:=(c _ _ j).sl rfl;have A:=c _ _ N;have p:=uN (Mem.le_refl S) (Pu (E:=E)) e.ty O (PG A.z);have s:l0 e.ty=e.sz:=by rw[<-gd,<-(Q9 e.ty).len p,aE,A.zl]
     obtain⟨w',v,X,J,Y,C,Z⟩:=vC (dst:=dst) (ty:=ty) (pos:=pos) (aft:=aft) (g:=g) (YU W A hs) (by rw[gd];exact s) R.hs (vI (p7 R u)) (vI (p7 R y)) p U (zD (Z3 t)) (zD (Y4 t));rw[X];rw[<-s]at C
     exact⟨_,_,S,E++[.H' 0 v (l0 e.ty)],_,h,Mem.le_refl _,V4.push E _,R.snoc (e:=.H' 0 v (l0 e.ty)) (o:=.H' 0 e.ty E' Q) C ⟨v,v,J,Y,rfl,rfl,Z,.inl rfl⟩,⟨by
      rcases C.own 0 _ rfl with⟨M,_⟩|⟨_,_,_,M,_⟩<;>rw[M]<;>rfl,.H' 0 v (l0 e.ty),(by rw[<-R.lE];simp:(E++[EI.H' 0 v (l0 e.ty)])[σ.hp.length]? = some (EI.H' 0 v (l0 e.ty))),fun r' v' s' hq=>by cases hq;exact⟨aL _,fun _=>rfl⟩⟩⟩
    ·cases h
   ·cases h
  ·cases h
 ·rename_i i a x;split at h
  ·rename_i f id off sv j D G;split at h
   ·rename_i B' J hc;obtain⟨d,h⟩:=r7 h;exact Ww (c _ _ j) R (p7 R D) (p7 R G) hc d h
   ·cases h
  ·cases h
 ·rename_i i;split at h
  ·rename_i f j;obtain⟨d,h⟩:=r7 h;have H:=c _ _ j;have I:(zV f).cells.toList=f.z.map zc:=by
    rw[H.cells (by
     cases D:f.agg with
     |true=>exact .inl rfl|false=>rw[D]at d;exact .inr (aB d))]
   obtain⟨w',b,u,y⟩:=vZ (dst:=dst) (ty:=ty) (pos:=pos) (aft:=aft) (g:=g) (e:=o0 n m) R.hs H.zero I;rw[u];exact(xfS R y (PG H.z) h).two
  ·cases h
 ·rename_i i x;split at h
  ·rename_i f sv j G;obtain⟨d,h⟩:=r7 h;obtain⟨h6,h7⟩:=BU ((p7 R G).b (Y4 d));have:∃w' b,(execOp (o0 n m) ⟨dst,.box i x,ty,pos,aft,g⟩).run P w = .ok (.value (.pointer (some ⟨b,0,none⟩))) w'/\HS B S w' (.N' b (o0 n m x).cells.toList i::L):=by refine⟨w.alloc (.cells (o0 n m x).cells.toList.toArray i),w.heap.size,?_,R.hs.push (Ext.alloc w _) (Od w _) fun b d=>by cases d;exact aL _⟩;simp[execOp,CB]
   obtain⟨w',b,h8,h9⟩:=this;rw[h8];exact(xfS R h9 h6 h).two
  ·cases h
 ·exact ID c l R h
end
end Go.Proofs.YtopanhneegpgcaaGreatDoor.Am
