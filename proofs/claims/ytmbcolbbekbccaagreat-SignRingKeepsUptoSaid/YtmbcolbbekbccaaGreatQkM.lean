/- Parts of one proof. Conditions: as each theorem says. -/
import Derived.Test.YtmbcolbbekbccaaGreatQkL
open Array renaming ext'->dS
open List renaming all_cons->cO,all_eq_true->bH,append_assoc->bG,append_nil->cC,cons_append->bN,eq_nil_of_length_eq_zero->aU,eraseIdx_sublist->iZ,ext_getElem?->aX,getElem?_append_left->aF,getElem?_append_right->aH,getElem?_cons_succ->cD,getElem?_drop->bB,getElem?_eq_getElem->aI,getElem?_eq_none->bT,getElem?_eq_some_iff->aC,getElem?_map->bI,getElem?_set_ne->aM,getElem?_set_self->aL,getElem?_take->bK,length_append->aE,length_cons->aN,length_drop->bO,length_map->bL,length_nil->aV,map_congr_left->iB,map_cons->bS,mem_cons->aT,mem_cons_of_mem->aS,mem_cons_self->bC,mem_map->eH,mem_of_getElem?->bJ,nil_append->cF,pairwise_cons->dR,range'->cZ,range'_succ->eK,replicate->aO
open Nat renaming add_mul->bD,add_zero->cQ,beq->aG,beq_refl->dX,ble->bM,ble_eq->eV,eq_of_beq_eq_true->aB,le_of_ble_eq_true->aR,le_of_eq->dW,le_refl->aJ,le_trans->aY,lt_of_lt_of_le->bE,lt_of_not_le->dU,mul_le_mul->dE,mul_le_mul_right->cE,mul_one->bY,one_mul->cR,sub_self->dY,zero_add->aQ,zero_mul->eI
open Option renaming getD_some->fE,map_some->bA
namespace Go.Proofs.YtmbcolbbekbccaaGreat.Am
open Go Go.RowKit
def GS(G:List (Nat×Obj))(S:Mem):Prop:=∀p∈G,S p.1=some p.2
def GB(G:List (Nat×Obj))(B:Bas):Prop:=∀p∈G,p.1<B.w0.heap.size/\B.S0 p.1=some p.2
def At(B:Bas)(S:Mem)(w:World):Prop:=∃S' L,Mem.le S' S/\HS B S' w L
theorem At.gs{G:List (Nat×Obj)}{B:Bas}{S:Mem}{w:World}(h:At B S w)(hG:GB G B):GS G S:=fun p hp=>by obtain⟨S',L,hle,H⟩:=h;obtain⟨h1,h3⟩:=hG p hp;exact hle _ _ ((H.keep _ h1 (fun _=>by rw[h3];simp)).trans h3)
structure PCok (P:Program) (G:List (Nat×Obj)) (f:FuncId) (c:PC):Prop where
 fn:IsFn P f
 ok:∀(S:Mem) (w:World) (us:LV) (a:zcM (c.ash.flatMap Sh.tys)) (y:zcM c.rts),GS G S->Sub S w->A2 (VR S []) (putL c.ash (zhN _ a)).1 us->c.p a=some y ->
  Calls P f us.toArray w fun e w'=>Ext w w'/\∃v,e = .returned v/\repR (gr S w w') c.rts v y/\(c.cl=true->∃a n,v = .slice a n n)
theorem zwB{S:Mem}{E:List EI}{c:PC}{y:zcM c.rts}{v:Value}(h:repR S c.rts v y)(hc:c.cl=true->∃a n,v = .slice a n n):VR S E (yiH c y) v:=by
 have h1:VR S E (yvW c.rts y) v:=yqA h;unfold yiH clS;cases hb:c.cl with
 |false=>exact h1|true=>
  obtain⟨a,n,rfl⟩:=hc hb;simp only[zE];split
  ·rename_i e xs hx;rw[hx]at h1;obtain⟨v,hv,hrd⟩:=(show VB S E (.v (.sl e) xs) (.slice a n n)from h1);injection hv with hv;subst hv;have hn:n=xs.length:=by
    obtain⟨cs,k1,_⟩:=hrd;rcases k1 with⟨⟨a0,k1⟩,k2,_⟩|⟨b',o,c2,ds,T2,fz,k1,_⟩
    ·injection k1 with k1 k3 k4;rw[k3,<-k2]
    ·injection k1 with k1 k3 k4
   subst hn;exact(⟨hrd,a,rfl⟩:VB S E (.cl e xs) _)
  ·exact h1
def zvK(V:Nat->Value):Nat->Nat->LV
 |_,0=>[]|i,n+1=>V i::zvK V (i+1) n
def zwM:LV->Value
 |[u]=>u|l=>.tuple l.toArray
def Ver0(hp:List AO):Prop:=∀(i ver:Nat) (e:Ty) (T:TypeId) (xs:List (den e)),hp[i]? = some (.osl ver e T xs)->ver=0
structure SCok (P:Program) (G:List (Nat×Obj)) (f:FuncId) (c:SC):Prop where
 fn:IsFn P f
 ok:∀(S:Mem) (w:World) (us:LV) (E:List EI) (L:List Res) (a:zcM c.I.tys) (d:DS c.outs),GS G S->us.length=c.I.sl.length->RelV ⟨S,zcC L,w⟩ S E L (c.I.put a) (fun t=>us.getD t undef) w->c.p a=some d ->
  Calls P f us.toArray w fun e w'=>∃v,e = .returned v/\∃S' E' L' σo V',(∀{γ:Type} (k:Ex->St->Option γ),out [] c.outs d k=k .normal σo)/\Mem.le S S'/\Pin c.I.hp.length E E'/\RelV ⟨S,zcC L,w⟩ S' E' L' σo V' w'/\Ver0 σo.hp/\c.I.hp.length<=σo.hp.length/\v=zwM (zvK V' 0 c.nr)
structure SCokX (P:Program) (G:List (Nat×Obj)) (m:Bool) (f:FuncId) (c:SC):Prop where
 fn:IsFn P f
 ok:∀(S:Mem) (w:World) (us:LV) (E:List EI) (L:List Res) (a:zcM c.I.tys) (d:DS c.outs),GS G S->us.length=c.I.sl.length->RelV ⟨S,mayL m S L w,w⟩ S E L (c.I.put a) (fun t=>us.getD t undef) w->c.p a=some d ->
  Calls P f us.toArray w fun e w'=>∃v,e = .returned v/\∃S' E' L' σo V',(∀{γ:Type} (k:Ex->St->Option γ),out [] c.outs d k=k .normal σo)/\Mem.le S S'/\Pin c.I.hp.length E E'/\RelV ⟨S,mayL m S L w,w⟩ S' E' L' σo V' w'/\Ver0 σo.hp/\c.I.hp.length<=σo.hp.length/\v=zwM (zvK V' 0 c.nr)
theorem SCok.x{P:Program}{G:List (Nat×Obj)}{f:FuncId}{c:SC}{m:Bool}(h:SCok P G f c):SCokX P G m f c:=
 ⟨h.fn,fun S w us E L a d hG hul R hp=>(h.ok S w us E L a d hG hul ⟨HS.lendX R.hs false,R.lL,R.lE,R.obj,R.sl⟩ hp).mono fun _ _ ⟨v,hv,S',E',L',σo,V',h1,h2,h3,R',h4⟩=>⟨v,hv,S',E',L',σo,V',h1,h2,h3,⟨HS.wide (fun _=>ydL) R'.hs,R'.lL,R'.lE,R'.obj,R'.sl⟩,h4⟩⟩
theorem SCokX.plain{P:Program}{G:List (Nat×Obj)}{f:FuncId}{c:SC}(h:SCokX P G false f c):SCok P G f c:=⟨h.fn,h.ok⟩
structure PCB (P:Program) (B:Bas) (f:FuncId) (c:PC):Prop where
 fn:IsFn P f
 ok:∀(S:Mem) (w:World) (us:LV) (a:zcM (c.ash.flatMap Sh.tys)) (y:zcM c.rts),At B S w->Sub S w->A2 (VR S []) (putL c.ash (zhN _ a)).1 us->c.p a=some y ->
  Calls P f us.toArray w fun e w'=>Ext w w'/\∃v,e = .returned v/\repR (gr S w w') c.rts v y/\(c.cl=true->∃a n,v = .slice a n n)
structure SCB (P:Program) (m:Bool) (B:Bas) (f:FuncId) (c:SC):Prop where
 fn:IsFn P f
 ok:∀(S:Mem) (w:World) (us:LV) (E:List EI) (L:List Res) (a:zcM c.I.tys) (d:DS c.outs),At B S w->us.length=c.I.sl.length->RelV ⟨S,mayL m S L w,w⟩ S E L (c.I.put a) (fun t=>us.getD t undef) w->c.p a=some d ->
  Calls P f us.toArray w fun e w'=>∃v,e = .returned v/\∃S' E' L' σo V',(∀{γ:Type} (k:Ex->St->Option γ),out [] c.outs d k=k .normal σo)/\Mem.le S S'/\Pin c.I.hp.length E E'/\RelV ⟨S,mayL m S L w,w⟩ S' E' L' σo V' w'/\Ver0 σo.hp/\c.I.hp.length<=σo.hp.length/\v=zwM (zvK V' 0 c.nr)
structure CTok (P:Program) (Γ:CT) (B:Bas):Prop where
 pc:∀f c,pcAt Γ.pc f=some c->PCB P B f c
 sc:∀f c,c∈scAt Γ.sc f->SCB P (mbOf Γ) B f c
 mb:MB (mbOf Γ) B
 nj:jnOf Γ=true->NoJ B.S0
section
variable {n:Nat}{P:Program}{B:Bas}{S S':Mem}{E E':List EI}{L L':List Res}{σ:St}{m:FM}{w w':World}
theorem CellAt.all{b:Nat}{cs:LV}{T:TypeId}{fz:Nat×Nat}(hb:S b=none)(h:w.heap[b]? = some (.cells cs.toArray T fz)):CellAt (ztE S w) b 0 cs:=⟨cs,T,fz,ybF hb h rfl,by omega,by rw[zaL];simp⟩
theorem Rel.own_ok(R:Rel n B S E L σ m w):ztP S (ztE S w) E σ.hp:=⟨fun id ver e T xs u h hv=>by
  obtain⟨r0,e0,h1,h2,v,v',cs,rs,rfl,rfl,h3,hsm⟩:=R.objN h;obtain⟨_,e1,h4,h5⟩:=hv;rw[h2]at h4;cases h4;rw[(h5 _ _ _ rfl).2 rfl];exact⟨v',rfl,hsm.rd (leOn S w) (RdS.ofOwn R.hs h1 h3 (zgX e))⟩,fun id T cs u h hv=>by
  obtain⟨r0,e0,h1,h2,b,us,rfl,rfl,h3⟩:=R.objN h;obtain⟨b1,hu,e1,h4,h5⟩:=hv;rw[h2]at h4;cases h4;cases h5 _ rfl
  exact⟨b,us,hu,CellAt.all (R.hs.old id _ b h1 rfl).2 (R.hs.own id _ h1),h3⟩⟩
theorem zlC(R:Rel n B S E L σ m w){x:Operand}{ash:List Operand}{f:Nat}{xs:List SV}(h:zoG σ x ash=some (f,xs)):∃(first cap:Array Value) (l:LV),evO n m x = .func (.func f) first cap/\first.toList++ash.map (evO n m)++cap.toList=l/\A2 (VR S E) xs l:=by
 unfold zoG at h;split at h
 ·rename_i f' a c xs' hx has;cases h;obtain⟨us,ws,hu,h1,h2⟩:=zbM R hx;have up:∀{l:List SV} {us:LV},A2 (VA (VB S E)) l us->A2 (VR S E) l us:=fun h=>h.imp fun _ _ h=>VR.of (h.imp fun _ _=>VB.c);exact⟨us.toArray,ws.toArray,_,hu,rfl,((up h1).app (yjD R has)).app (up h2)⟩
 ·cases h
theorem ycQ{α γ:Type}{g:Nat->α->γ}:∀{l:List α} {j i:Nat},(mapI g j l)[i]? = (l[i]?).map (g (j+i))
 |[],_,_=>by simp[mapI]
 |x::l,j,0=>by simp[mapI]
 |x::l,j,i+1=>by simp only[mapI,cD];rw[ycQ (l:=l)];congr 1;rw[show j+1+i=j+(i+1) by omega]
theorem zdS{α γ:Type}{g:Nat->α->γ}:∀{l:List α} {j:Nat},(mapI g j l).length=l.length
 |[],_=>rfl|x::l,j=>by simp[mapI,zdS (l:=l)]
theorem zyR{i:Nat}:∀{os:List OSh} {ids:List Nat} {k0 k:Nat},srcK i os ids k0=some k->∃j o,k=k0+j/\os[j]? = some o/\live o=true/\ids[j]? = some i
 |[],_,_,_,h=>by cases h
 |_::_,[],_,_,h=>by cases h
 |o::os,id::ids,k0,k,h=>by
  unfold srcK at h;cases hb:live o&&aG id i with
  |true=>rw[hb]at h;cases h;have:=aB (zaW hb);subst this;exact⟨0,o,rfl,rfl,zaT hb,rfl⟩
  |false=>rw[hb]at h;obtain⟨j,o',h1,h2,h3,h4⟩:=zyR (k0:=k0+1) h;exact⟨j+1,o',by omega,by simpa using h2,h3,by simpa using h4⟩
theorem yoI{i:Nat}:∀{os:List OSh} {ids:List Nat} {k0 j:Nat} {o:OSh},os[j]? = some o->live o=true->ids[j]? = some i->∃k,srcK i os ids k0=some k
 |[],_,_,_,_,h,_,_=>by simp at h
 |_::_,[],_,_,_,_,_,h=>by simp at h
 |o::os,id::ids,k0,j,o',h1,h2,h3=>by
  unfold srcK;cases hb:live o&&aG id i with
  |true=>exact⟨_,rfl⟩|false=>
   cases j with
   |zero=>simp at h1 h3;subst h1;subst h3;rw[h2,dX]at hb;cases hb
   |succ j=>exact yoI (j:=j) (by simpa using h1) h2 (by simpa using h3)
theorem HS.lend(H:HS B S w L):HS ⟨S,zcC L,w⟩ S w L:=
 ⟨Fr.refl _ _,H.sub,fun _ _ _=>rfl,H.own,fun k r b hk hb=>⟨.inr (zcV.2 ⟨k,r,hk,hb⟩),(H.old k r b hk hb).2⟩,H.inj⟩
theorem HS.back{mb:Bool}{L1 L2:List Res}(hm:MB mb B)(H:HS B S w L)(H':HS ⟨S,mayL mb S L1 w,w⟩ S' w' L')(h1:∀b∈zcC L1,b∈zcC L) (h2:∀i r,lkR L2 i=some r->r = .osl (.slice none 0 0) 0 0 [] [] 0∨(∃j,lkR L' j=some r)∨(∃j,lkR L j=some r/\∀b,r.has b->b∉zcC L1)) (h3:∀i j r s b,lkR L2 i=some r->lkR L2 j=some s->r.has b->s.has b->i=j):HS B S' w' L2:=by
 have own:∀b,b∈zcC L->B.w0.heap.size<=b∨b∈B.X:=fun b hb=>by obtain⟨k,r,hk,hr⟩:=zcV.1 hb;exact(H.old k r b hk hr).1
 have may:∀b,b∈mayL mb S L1 w->B.w0.heap.size<=b∨b∈B.X:=fun b hb=>by
  rcases zqJ hb with hb|⟨h4,h5,o,h6,h7⟩
  ·exact own b (h1 b hb)
  ·by_cases hx:b∈B.X
   ·exact .inr hx
   ·by_cases hs:b<B.w0.heap.size
    ·exact .inr (hm h4 b o hs ((H.keep b hs (fun e=>absurd e hx)).symm.trans h6) h7)
    ·exact .inl (by omega)
 have away:∀{j r b},lkR L j=some r->r.has b->b∉zcC L1->b∉mayL mb S L1 w:=fun {j r b} hj hb hn hm=>by
  rcases zqJ hm with h|⟨_,_,o,h6,_⟩
  ·exact hn h
  ·rw[(H.old j r b hj hb).2]at h6;cases h6
 refine⟨⟨H'.fr.os.trans H.fr.os,H'.fr.tape.trans H.fr.tape,H'.fr.output.trans H.fr.output,aY H.fr.size H'.fr.size,fun k hk hx=>?_⟩,H'.sub,fun b hb hx=>?_,fun i r hi=>?_,fun i r b hi hb=>?_,h3⟩
 ·have hnk:k∉mayL mb S L1 w:=fun hm=>by
   rcases may k hm with h|h
   ·omega
   ·exact hx h
  exact(H'.fr.block k (bE hk H.fr.size) hnk).trans (H.fr.block k hk hx)
 ·rw[<-H.keep b hb hx];refine H'.keep b (bE hb H.fr.size) fun hm=>?_;rcases may b hm with h|h
  ·omega
  ·have:=hx h;show S b≠none
   rwa[H.keep b hb hx]
 ·rcases h2 i r hi with rfl|⟨j,hj⟩|⟨j,hj,hn⟩
  ·exact .inl ⟨rfl,rfl,rfl,rfl⟩
  ·exact H'.own j r hj
  ·exact Res.holds_of (H.own j r hj) fun b hb=>H'.fr.block b (H.res_lt hj hb) (away hj hb (hn b hb))
 ·rcases h2 i r hi with rfl|⟨j,hj⟩|⟨j,hj,hn⟩
  ·cases hb
  ·obtain⟨h4,h5⟩:=H'.old j r b hj hb;refine⟨?_,h5⟩;rcases h4 with h4|h4
   ·exact .inl (aY H.fr.size h4)
   ·exact may b h4
  ·obtain⟨h4,h5⟩:=H.old j r b hj hb;exact⟨h4,(H'.keep b (H.res_lt hj hb) (fun e=>absurd e (away hj hb (hn b hb)))).trans h5⟩
def Link(F vf:Nat->Nat)(E' E2:List EI):Prop:=∀(k:Nat) e',E'[k]? = some e'->∃e2,E2[F k]? = some e2/\(∀b,e2 = .blk b->e' = .blk b)/\(∀r v s,e2 = .osl r v s->vf k<=r/\(vf k=r->e' = .osl 0 v s))/\(∀g b ck es,e2 = .mp g b ck es->∃g',e' = .mp g' b ck es)/\∀r v bs,e2≠.fam r v bs
section
variable {F vf:Nat->Nat}{E2:List EI}
theorem yhO(hl:Link F vf E' E2){x:SV}{u:Value}(h:VB S E' x u):VB S E2 (renB F vf x) u:=by
 cases x with
 |ptr id off=>obtain⟨b,hu,e,h1,h2⟩:=h;obtain⟨e2,h3,h4,_,_,_⟩:=hl id e h1;exact⟨b,hu,e2,h3,fun b' hb'=>h2 b' (h4 b' hb')⟩
 |own id ver=>obtain⟨h0,e,h1,h2⟩:=h;obtain⟨e2,h3,_,h4,_,_⟩:=hl id e h1;refine⟨h0,e2,h3,fun r v s hr=>?_⟩;obtain⟨h5,h6⟩:=h4 r v s hr;refine⟨h5,fun he=>?_⟩;obtain⟨h7,h8⟩:=h2 _ _ _ (h6 he);exact h8 (by omega)
 |mpr id=>obtain⟨h0,e,h1,h2⟩:=h;obtain⟨e2,h3,_,_,h4,_⟩:=hl id e h1;refine⟨h0,e2,h3,fun g b ck es hr=>?_⟩;obtain⟨g',h5⟩:=h4 g b ck es hr;exact h2 _ _ _ _ h5
 |ep id ver i off=>obtain⟨h0,e,h1,h2⟩:=h;obtain⟨e2,h3,_,h4,_,_⟩:=hl id e h1;refine⟨h0,e2,h3,fun r v s hr=>?_⟩;obtain⟨h5,h6⟩:=h4 r v s hr;refine⟨h5,fun he=>?_⟩;obtain⟨h7,h8⟩:=h2 _ _ _ (h6 he);exact h8 (by omega)
 |fs id ver=>obtain⟨h0,e,h1,h2⟩:=h;obtain⟨e2,h3,_,_,_,h4⟩:=hl id e h1;exact⟨h0,e2,h3,fun r v bs hr=>absurd hr (h4 r v bs)⟩
 |fe id ver i=>obtain⟨h0,e,h1,h2⟩:=h;obtain⟨e2,h3,_,_,_,h4⟩:=hl id e h1;exact⟨h0,e2,h3,fun r v bs hr=>absurd hr (h4 r v bs)⟩
 |fp id i off=>obtain⟨h0,e,h1,h2⟩:=h;obtain⟨e2,h3,_,_,_,h4⟩:=hl id e h1;exact⟨h0,e2,h3,fun r v bs hr=>absurd hr (h4 r v bs)⟩
 |v=>exact h|nils=>exact h|nilp=>exact h|nilm=>exact h|nilf=>exact h|emp=>exact h|cl=>exact h|nn=>exact h|rm=>exact h|rp=>exact h|jp=>exact h|_=>exact h.elim
theorem yuW{x:SV}(h:noag x=true):noag (renB F vf x)=true:=by cases x<;>first|rfl|cases h
theorem renV_eq{x:SV}(h:noag x=true):renV F vf x=renB F vf x:=by cases x<;>first|rfl|cases h
theorem renA_eq{x:SV}(h:noag x=true):renA F vf x=renC F vf x:=by cases x<;>first|rfl|cases h
theorem yiY(hl:Link F vf E' E2){x:SV}{u:Value}(h:VA (VB S E') x u):VA (VB S E2) (renV F vf x) u:=by
 cases x with
 |ag l=>obtain⟨us,hu,h⟩:=h;exact⟨us,hu,h.map (f:=renB F vf) fun _ _=>yhO hl⟩
 |_=>rw[renV_eq rfl];exact VA.of (yhO hl h.b) (yuW rfl)
theorem zxH(hl:Link F vf E' E2){x:SV}{u:Value}(h:VC S E' x u):VC S E2 (renC F vf x) u:=by
 cases x with
 |fn g a c=>obtain⟨us,ws,hu,h1,h2⟩:=h;exact⟨us,ws,hu,h1.map (f:=renV F vf) fun _ _=>yiY hl,h2.map (f:=renV F vf) fun _ _=>yiY hl⟩
 |_=>exact(yhO hl h.b).c
theorem ypE{x:SV}(h:noag x=true):noag (renC F vf x)=true:=by cases x<;>first|rfl|cases h
theorem renA_ok(hl:Link F vf E' E2){x:SV}{u:Value}(h:VA (VC S E') x u):VA (VC S E2) (renA F vf x) u:=by
 cases x with
 |ag l=>obtain⟨us,hu,h⟩:=h;exact⟨us,hu,h.map (f:=renC F vf) fun _ _=>zxH hl⟩
 |_=>rw[renA_eq rfl];exact VA.of (zxH hl h.b) (ypE rfl)
end
def mrgE:EI->EI->EI
 |_,.blk b=>.blk b|.osl r _ _,.osl _ v s=>.osl r v s|.mp g _ _ _,.mp g' b ck es=>.mp (g'+g) b ck es|_,_=>.dead
def yaW:OSh->AO->Bool
 |.blk _ _,.blk _ _=>true|.osl _ _,.osl _ _ _ _=>true|.mp _ _ _,.mp _ _ _ _=>true|.it _ _ _,.it _ _ _ _ _=>true|.is,.is _ _=>true|.qu _ _,.qu _ _ _ _=>true|.fam _ _,.fam _ _ _ _=>true|_,_=>false
theorem ztS{ρ:List Nat}{hp:List AO}:∀{os:List OSh} {ids:List Nat} {q:List SV} {k id:Nat} {o:OSh},zhU ρ hp os ids=some q->os[k]? = some o->live o=true->ids[k]? = some id->∃ao,hp[id]? = some ao/\yaW o ao=true
 |[],_,_,_,_,_,_,h,_,_=>by simp at h
 |_::_,[],_,_,_,_,_,_,_,h=>by simp at h
 |o::os,i::ids,q,k,id,o',h,h1,hl,h2=>by
  have tl:∀{q},zhU ρ hp os ids=some q->k≠0->∃ao,hp[id]? = some ao/\yaW o' ao=true:=fun {q} hq hk=>by
   cases k with
   |zero=>exact absurd rfl hk|succ k=>exact ztS hq (by simpa using h1) hl (by simpa using h2)
  have hd:∀{ao},k=0->atN hp i=some ao->yaW o ao=true->∃ao,hp[id]? = some ao/\yaW o' ao=true:=fun {ao} hk ha hb=>by subst hk;simp only[aN,Nat.zero_lt_succ,aI,List.getElem_cons_zero,Option.some.injEq]at h1 h2;subst h1;subst h2;exact⟨ao,by rw[<-zcT];exact ha,hb⟩
  cases o with
  |dead=>simp only[zhU]at h;refine tl h fun e=>?_;subst e;simp at h1;subst h1;cases hl
  |blk T l=>
   simp only[zhU]at h;split at h
   ·rename_i T' cs hc;by_cases hk:k=0
    ·exact hd hk hc rfl
    ·cases hb:aG T T' with
     |false=>rw[hb]at h;cases h
     |true=>
      rw[hb]at h;simp only[zE]at h;split at h
      ·rename_i h3;exact tl h3 hk
      ·cases h
   ·cases h
  |osl e T=>
   simp only[zhU]at h;split at h
   ·rename_i ver e' T' ys hc;by_cases hk:k=0
    ·exact hd hk hc rfl
    ·cases hb:aG T T' with
     |false=>rw[hb]at h;cases h
     |true=>
      rw[hb]at h;simp only[zE]at h;split at h
      ·rename_i h3;exact tl h3 hk
      ·cases h
   ·cases h
  |qu e T=>
   simp only[zhU]at h;split at h
   ·rename_i ver e' T' ys hc;by_cases hk:k=0
    ·exact hd hk hc rfl
    ·cases hb:aG T T' with
     |false=>rw[hb]at h;cases h
     |true=>
      rw[hb]at h;simp only[zE]at h;split at h
      ·rename_i h3;exact tl h3 hk
      ·cases h
   ·cases h
  |mp kp K1 V1=>
   simp only[zhU]at h;split at h
   ·rename_i g K' V' es hc;by_cases hk:k=0
    ·exact hd hk hc rfl
    ·split at h
     ·rename_i h3;exact tl h3 hk
     ·cases h
   ·cases h
  |is=>
   simp only[zhU]at h;split at h
   ·rename_i l p q1 hc h3;by_cases hk:k=0
    ·exact hd hk hc rfl
    ·exact tl h3 hk
   ·cases h
  |fam T f=>
   simp only[zhU]at h;split at h
   ·rename_i r T' f' ks hc;by_cases hk:k=0
    ·exact hd hk hc rfl
    ·cases hb:aG T T' with
     |false=>rw[hb]at h;cases h
     |true=>
      rw[hb]at h;simp only[zE]at h;split at h
      ·rename_i h4;exact tl h4 hk
      ·cases h
   ·cases h
  |it j kp K=>
   simp only[zhU]at h;split at h
   ·rename_i mid g K' cur ks mid' hc hm;by_cases hk:k=0
    ·exact hd hk hc rfl
    ·split at h
     ·obtain⟨_,h⟩:=zaJ h;split at h
      ·rename_i h3;exact tl h3 hk
      ·cases h
     ·cases h
   ·cases h
theorem yrQ{x:AO}{r':Res}{e':EI}(hno:noIt x=true)(hx:OR S' E' x r' e'):∀r v bs,e'≠.fam r v bs:=fun r v bs he=>by
 subst he;cases x with
 |blk=>obtain⟨_,_,_,h,_⟩:=hx;cases h
 |osl=>obtain⟨_,_,_,_,_,h,_⟩:=hx;cases h
 |mp=>obtain⟨_,_,_,_,h,_⟩:=hx;cases h
 |it=>cases hno
 |is=>cases hno
 |qu=>cases hno
 |fam=>cases hno
 |famO=>cases hno
 |dead=>cases hx.2
theorem ykB{F vf:Nat->Nat}{E2:List EI}(hl:Link F vf E' E2){o:OSh}{ao x:AO}{r0 r':Res}{e e':EI}(hk:yaW o ao=true)(h0:OR S E ao r0 e)(hP:(∃r v s,reI o (some e) = .osl r v s/\(e' = .dead∨∃r' v',e' = .osl r' v' s/\(r'=0->r=0/\v'=v)))∨((∀r v s,reI o (some e)≠.osl r v s)/\PinI (reI o (some e)) e'))(hx:OR S' E' x r' e')(hno:noIt x=true)(hnq:noQ o=true)(hv:∀ver e T (xs:List (den e)),x = .osl ver e T xs->ver=0):
  OR S' E2 (renO F vf ao (some x)) r' (mrgE e e')/\e.le (mrgE e e'):=by
 have dead:e' = .dead->OR S' E2 (renO F vf ao (some x)) r' (mrgE e e')/\e.le (mrgE e e'):=fun he=>by
  subst he;cases x with
  |blk=>obtain⟨_,_,_,h,_⟩:=hx;cases h
  |osl=>obtain⟨_,_,_,_,_,h,_⟩:=hx;cases h
  |mp=>obtain⟨_,_,_,_,h,_⟩:=hx;cases h
  |it=>cases hno
  |is=>cases hno
  |qu=>cases hno
  |fam=>cases hno
  |famO=>cases hno
  |dead=>
   have e1:renO F vf ao (some .dead) = .dead:=by cases ao<;>rfl
   have e2:mrgE e .dead = .dead:=by cases e<;>rfl
   rw[e1,e2];refine⟨⟨hx.1,rfl⟩,?_⟩;cases e with
   |blk=>exact .inr rfl|osl=>exact .inr (.inl rfl)|mp=>exact .inl rfl|fam=>exact .inr (.inl rfl)|dead=>rfl
 have asB:∀{b:Nat},e = .blk b->reI o (some e) = .blk b->OR S' E2 (renO F vf ao (some x)) r' (mrgE e e')/\e.le (mrgE e e'):=fun {b} he hb=>by
  subst he;rw[hb]at hP;rcases hP with⟨_,_,_,h,_⟩|⟨_,hP⟩
  ·cases h
  ·rcases hP with h|h|⟨_,_,_,_,_,_,_,h,_⟩|⟨_,_,_,_,_,_,h,_⟩
   ·exact dead h
   ·have h:e' = .blk b:=h;subst h;cases x with
    |blk T2 cs2=>
     obtain⟨b2,us2,h1,h2,h3⟩:=hx;cases h2;have e1:renO F vf ao (some (.blk T2 cs2)) = .blk T2 (cs2.map (renC F vf)):=by cases ao<;>rfl
     rw[e1];exact⟨⟨b,us2,h1,rfl,h3.map (f:=renC F vf) fun _ _=>zxH hl⟩,.inl rfl⟩
    |osl=>obtain⟨_,_,_,_,_,h,_⟩:=hx;cases h
    |mp=>obtain⟨_,_,_,_,h,_⟩:=hx;cases h
    |it=>cases hno
    |is=>cases hno
    |qu=>cases hno
    |fam=>cases hno
    |famO=>cases hno
    |dead=>cases hx.2
   ·cases h
   ·cases h
 cases o with
 |dead=>cases hk
 |blk T l=>
  cases ao with
  |blk T' cs=>obtain⟨b,us,_,rfl,_⟩:=h0;exact asB rfl rfl
  |_=>cases hk
 |it j kp K=>
  cases ao with
  |it=>obtain⟨b,_,_,_,_,rfl,_⟩:=h0;exact asB rfl rfl
  |_=>cases hk
 |qu=>cases hnq
 |is=>
  cases ao with
  |is=>obtain⟨b,_,rfl⟩:=h0;exact asB rfl rfl
  |_=>cases hk
 |fam T f=>
  cases ao with
  |fam ver T' f' ks=>
   obtain⟨v,rs,ms,bs,_,rfl,_⟩:=h0;rcases hP with⟨_,_,_,h,_⟩|⟨_,hP⟩
   ·cases h
   ·rcases hP with h|h|⟨_,_,_,_,_,_,_,h,_⟩|⟨_,_,_,_,_,_,_,h⟩
    ·exact dead h
    ·exact absurd h (yrQ hno hx _ _ _)
    ·cases h
    ·exact absurd h (yrQ hno hx _ _ _)
  |_=>cases hk
 |osl e0 T=>
  cases ao with
  |osl ver t T' xs=>
   obtain⟨v,v',cs,rs,_,rfl,_,_⟩:=h0;rcases hP with⟨r1,v1,s1,h,hP⟩|⟨hn,_⟩
   ·cases h;rcases hP with hP|⟨r2,v2,rfl,hP⟩
    ·exact dead hP
    ·cases x with
     |osl ver2 t2 T2 xs2=>
      have:=hv _ _ _ _ rfl;subst this;obtain⟨v3,v4,cs3,rs3,h1,h2,h3,h4⟩:=hx;injection h2 with e1 e2 e3;subst e1;subst e2;obtain⟨_,e4⟩:=hP rfl;refine⟨⟨v3,_,cs3,rs3,h1,?_,h3,h4⟩,?_⟩
      ·show EI.osl ver v2 (tsz t)=_;rw[e3]
      ·exact .inl (by rw[e4];rfl)
     |blk=>obtain⟨_,_,_,h,_⟩:=hx;cases h
     |mp=>obtain⟨_,_,_,_,h,_⟩:=hx;cases h
     |it=>cases hno
     |is=>cases hno
     |qu=>cases hno
     |fam=>cases hno
     |famO=>cases hno
     |dead=>cases hx.2
   ·exact absurd rfl (hn _ _ _)
  |_=>cases hk
 |mp kp K V=>
  cases ao with
  |mp g K' V' es=>
   obtain⟨b,ents,ck,_,rfl,_,_⟩:=h0;rcases hP with⟨_,_,_,h,_⟩|⟨_,hP⟩
   ·cases h
   ·have key:∀{g' ck' ents'},e' = .mp g' b ck' ents'->(g'=0->ck'=ck/\Fewer ents ents')->OR S' E2 (renO F vf (.mp g K' V' es) (some x)) r' (mrgE (.mp g b ck ents) e')/\(EI.mp g b ck ents).le (mrgE (.mp g b ck ents) e'):=fun {g' ck' ents'} he hg=>by
     subst he;cases x with
     |mp g2 K2 V2 es2=>
      obtain⟨b2,ents2,ck2,h1,h2,h3,h4⟩:=hx;cases h2;refine⟨⟨b,ents',ck',h1,rfl,h3,h4⟩,.inr ⟨_,_,_,rfl,?_⟩⟩;by_cases h0:g'=0
      ·obtain⟨h5,h6⟩:=hg h0;exact .inr ⟨by omega,h5.symm,h6⟩
      ·exact .inl (by omega)
     |blk=>obtain⟨_,_,_,h,_⟩:=hx;cases h
     |osl=>obtain⟨_,_,_,_,_,h,_⟩:=hx;cases h
     |it=>cases hno
     |is=>cases hno
     |qu=>cases hno
     |fam=>cases hno
     |famO=>cases hno
     |dead=>cases hx.2
    rcases hP with h|h|⟨g1,b1,c1,es1,g2,c2,es2,h,h',h3⟩|⟨_,_,_,_,_,_,h,_⟩
    ·exact dead h
    ·exact key h fun _=>⟨rfl,Fewer.refl _⟩
    ·cases h;exact key h' fun h0=>⟨(h3 h0).2.1,(h3 h0).2.2⟩
    ·cases h
  |_=>cases hk
end
section
variable {β:Type}{τ:TE}{Γ:CT}{n:Nat}{P:Program}{B:Bas}{S S':Mem}{E E':List EI}{L L':List Res}{σ σo:St}{m:FM}{w w':World}{dst:Option Tmp}{g:Option (Nat×Bool)}{ty:TypeId}{pos:String}{aft:Array Edge}{T:TypeId}{k:SV->St->Option β}{r:β}
def Post2(n:Nat)(B:Bas)(S:Mem)(E:List EI)(m:FM)(k:SV->St->Option β)(r:β)(v:Value)(w':World):Prop:=
 ∃x σ' S' E' L',k x σ'=some r/\Mem.le S S'/\ELe E E'/\Rel n B S' E' L' σ' m w'/\VR S' E' x v
def Post2L(n:Nat)(B:Bas)(S:Mem)(E:List EI)(m:FM)(k:SV->St->Option β)(r:β)(F:List Res->Prop)(v:Value)(w':World):Prop:=
 ∃x σ' S' E' L',k x σ'=some r/\Mem.le S S'/\ELe E E'/\Rel n B S' E' L' σ' m w'/\VR S' E' x v/\F L'
theorem Post2L.two{k:SV->St->Option β}{r:β}{F:List Res->Prop}{v:Value}(h:Post2L n B S E m k r F v w'):Post2 n B S E m k r v w':=by obtain⟨x,σ',S',E',L',h1,h2,h3,h4,h5,_⟩:=h;exact⟨x,σ',S',E',L',h1,h2,h3,h4,h5⟩
def Post2F(n:Nat)(B:Bas)(S:Mem)(E:List EI)(L:List Res)(I:List Nat)(m:FM)(k:SV->St->Option β)(r:β)(v:Value)(w':World):Prop:=
 ∃x σ' S' E' L',k x σ'=some r/\Mem.le S S'/\ELe E E'/\Rel n B S' E' L' σ' m w'/\VR S' E' x v/\∀i,hasN I i=false->i<L.length->lkR L' i=lkR L i
theorem Post2F.two{I:List Nat}{k:SV->St->Option β}{r:β}{v:Value}(h:Post2F n B S E L I m k r v w'):Post2 n B S E m k r v w':=by obtain⟨x,σ',S',E',L',h1,h2,h3,h4,h5,_⟩:=h;exact⟨x,σ',S',E',L',h1,h2,h3,h4,h5⟩
theorem Post2F.sub{I I':List Nat}{k:SV->St->Option β}{r:β}{v:Value}(h:Post2F n B S E L I m k r v w')(hI:∀i,hasN I' i=false->i<L.length->hasN I i=false):Post2F n B S E L I' m k r v w':=by obtain⟨x,σ',S',E',L',h1,h2,h3,h4,h5,h6⟩:=h;exact⟨x,σ',S',E',L',h1,h2,h3,h4,h5,fun i hi hl=>h6 i (hI i hi hl) hl⟩
theorem zvW{L:List Res}{r:Res}{i:Nat}(hi:i<L.length):lkR (L++[r]) i=lkR L i:=by rw[zaX,zaX,aF hi]
theorem ycL{id j:Nat}(h:hasN [id] j=false):id≠j:=fun e=>by subst e;simp[hasN]at h
theorem Ok1.two{o:Oper}(R:Rel n B S E L σ m w)(h:Ok1 P S E (evO n m) o (fun x=>k x σ) r (fun w'=>HS B S w' L)):outcome P (Post2 n B S E m k r) ((execOp (evO n m) o).run P w):=by obtain⟨z,u,h1,h2,h3⟩:=h;rw[h3 w R.hs];exact⟨z,σ,S,E,L,h1,Mem.le_refl _,ELe.refl _,R,h2⟩
theorem RelV.call{V:Nat->Value}(R:RelV B S E L σ V w){w':World}(hx:Ext w w'):RelV B (gr S w w') E L σ V w':=
 ⟨R.hs.call hx,R.lL,R.lE,fun i o h=>by
  obtain⟨r,e,h1,h2,h3⟩:=R.obj i o h
  exact⟨r,e,h1,h2,h3.mono (yiC R.hs.sub) (ELe.refl E)⟩,fun t=>(R.sl t).mono (yiC R.hs.sub) (ELe.refl E)⟩
theorem yrK{V:Nat->Value}{F vf:Nat->Nat}{E2:List EI}(hl:Link F vf E' E2){sl:List (Nat×SV)}(hs:∀t,VR S' E' (lkS sl t) (V t)):∀(nr i:Nat),(resL sl i nr).all notu=true->A2 (VA (VC S' E2)) ((resL sl i nr).map (renA F vf)) (zvK V i nr)
 |0,_,_=>.nil|nr+1,i,hn=>by simp only[resL,cO,Bool.and_eq_true]at hn;exact .cons (renA_ok hl ((hs i).b hn.1)) (yrK hl hs nr (i+1) hn.2)
theorem resT_ok:∀{xs:List SV} {us:LV},A2 (VA (VC S E)) xs us->VR S E (resT xs) (zwM us)
 |_,_,.nil=>⟨[],rfl,.nil⟩|_,_,.cons a .nil=>VR.of a|_,_,.cons a (.cons b t)=>⟨_,rfl,.cons a (.cons b t)⟩
theorem yjZ{mb:Bool}(hm:MB mb B)(R:Rel n B S E L σ m w){os:List OSh}{ρ:List Nat}{V':Nat->Value}{nr:Nat}{q:List SV}(hlen:os.length=ρ.length)(hd:dist os ρ=true)(hq:zhU ρ σ.hp os ρ=some q) (hS:Mem.le S S') (hP:Pin os.length (reE E os ρ) E') (R':RelV ⟨S,mayL mb S (reL L os ρ) w,w⟩ S' E' L' σo V' w') (hV:Ver0 σo.hp) (hle:os.length<=σo.hp.length) (hn:(resL σo.sl 0 nr).all notu=true) (hni:σo.hp.all noIt=true) (hqs:os.all noQ=true) (h:k (resT ((resL σo.sl 0 nr).map (renA (ziL os ρ σ.hp.length) fun id=>zxQ σ.hp (ziL os ρ σ.hp.length id)))) ⟨σ.sl,zoW (ziL os ρ σ.hp.length) (fun id=>zxQ σ.hp (ziL os ρ σ.hp.length id)) os ρ σo.hp σ.hp++(.dead::(σo.hp.drop os.length).map (renN (ziL os ρ σ.hp.length) fun id=>zxQ σ.hp (ziL os ρ σ.hp.length id)))⟩=some r):
  Post2L n B S E m k r (fun L2=>∀i,i<L.length->srcK i os ρ 0=none->L2[i]? = L[i]?) (zwM (zvK V' 0 nr)) w':=by
 let E2:List EI:=mapI (fun i e=>match srcK i os ρ 0 with
  |some k=>mrgE e (E'[k]?.getD .dead)|none=>e) 0 E++(.dead::E'.drop os.length)
 let L2:List Res:=mapI (fun i r=>match srcK i os ρ 0 with
  |some k=>(L'[k]?).getD zkC|none=>r) 0 L++(zkC::L'.drop os.length)
 let F:=ziL os ρ σ.hp.length;let vf:=fun id=>zxQ σ.hp (F id);have hnq:∀{k:Nat} {o:OSh},os[k]? = some o->noQ o=true:=fun {k o} ho=>bH.1 hqs o (bJ ho);have hno:∀{k:Nat} {x:AO},σo.hp[k]? = some x->noIt x=true:=fun {k x} hx=>bH.1 hni x (bJ hx)
 have hE2:∀i,i<σ.hp.length->E2[i]? = (E[i]?).map fun e=>match srcK i os ρ 0 with
  |some k=>mrgE e (E'[k]?.getD .dead)|none=>e:=fun i hi=>by
  show(mapI _ 0 E++_)[i]? = _;rw[aF (by rw[zdS,R.lE];exact hi),ycQ];simp only[aQ]
 have hL2:∀i,i<σ.hp.length->L2[i]? = (L[i]?).map fun r=>match srcK i os ρ 0 with
  |some k=>(L'[k]?).getD zkC|none=>r:=fun i hi=>by
  show(mapI _ 0 L++_)[i]? = _;rw[aF (by rw[zdS,R.lL];exact hi),ycQ];simp only[aQ]
 have hE2b:E2[σ.hp.length]? = some .dead:=by show(mapI _ 0 E++_)[_]? = _;rw[aH (by rw[zdS,R.lE];exact aJ _),zdS,R.lE,dY];rfl
 have hL2b:L2[σ.hp.length]? = some zkC:=by show(mapI _ 0 L++_)[_]? = _;rw[aH (by rw[zdS,R.lL];exact aJ _),zdS,R.lL,dY];rfl
 have hE2n:∀j,E2[σ.hp.length+1+j]? = E'[os.length+j]?:=fun j=>by show(mapI _ 0 E++_)[_]? = _;rw[aH (by rw[zdS,R.lE];omega),zdS,R.lE,show σ.hp.length+1+j-σ.hp.length=j+1 by omega,cD,bB]
 have hL2n:∀j,L2[σ.hp.length+1+j]? = L'[os.length+j]?:=fun j=>by show(mapI _ 0 L++_)[_]? = _;rw[aH (by rw[zdS,R.lL];omega),zdS,R.lL,show σ.hp.length+1+j-σ.hp.length=j+1 by omega,cD,bB]
 have one:∀{i k:Nat},srcK i os ρ 0=some k->∃o ao r0 e x r' e',os[k]? = some o/\live o=true/\ρ[k]? = some i/\i<σ.hp.length/\σ.hp[i]? = some ao/\yaW o ao=true/\L[i]? = some r0/\E[i]? = some e/\OR S E ao r0 e/\σo.hp[k]? = some x/\L'[k]? = some r'/\E'[k]? = some e'/\OR S' E' x r' e' /\
   ((∃r v s,reI o (some e) = .osl r v s/\(e' = .dead∨∃r' v',e' = .osl r' v' s/\(r'=0->r=0/\v'=v)))∨((∀r v s,reI o (some e)≠.osl r v s)/\PinI (reI o (some e)) e')):=fun {i k} hk=>by
  obtain⟨j,o,h1,h2,h3,h4⟩:=zyR hk;rw[aQ]at h1;subst h1;obtain⟨ao,h5,h6⟩:=ztS hq h2 h3 h4;have hi:i<σ.hp.length:=(aC.1 h5).1;obtain⟨r0,e,h7,h8,h9⟩:=R.obj i ao h5;have hko:k<os.length:=(aC.1 h2).1;have hkx:k<σo.hp.length:=bE hko hle;obtain⟨r',e',g1,g2,g3⟩:=R'.obj k _ (aI hkx);obtain⟨o',g4,g5⟩:=ysA E os ρ k i hlen h4;rw[h2]at g4;cases g4;rw[h8]at g5;obtain⟨e1,g6,g7⟩:=hP k _ hko g5;rw[g2]at g6;cases g6;exact⟨o,ao,r0,e,_,r',e',h2,h3,h4,hi,h5,h6,h7,h8,h9,aI hkx,g1,g2,g3,g7⟩
 have uniq:∀{k o i},os[k]? = some o->live o=true->ρ[k]? = some i->srcK i os ρ 0=some k:=fun {k o i} h1 h2 h3=>by obtain⟨k',hk'⟩:=yoI (k0:=0) h1 h2 h3;obtain⟨j,o',h4,h5,h6,h7⟩:=zyR hk';rw[aQ]at h4;subst h4;have:=yaQ hd h1 h2 h3 h5 h6 h7;subst this;exact hk'
 have hF:∀{k o i},os[k]? = some o->live o=true->ρ[k]? = some i->F k=i:=fun {k o i} h1 h2 h3=>by show ziL os ρ σ.hp.length k=i;unfold ziL;rw[zcT,zcT,h1,h3];simp only[h2,zE]
 have hlink:Link F vf E' E2:=fun k e' hk=>by
  by_cases hko:k<os.length
  ·have ho:=aI hko;have hρ:=aI (l:=ρ) (i:=k) (by omega);cases hlv:live os[k] with
   |false=>
    have:F k=σ.hp.length:=by show ziL os ρ σ.hp.length k=_;unfold ziL;rw[zcT,zcT,ho,hρ];simp only[hlv,zF]
    exact⟨.dead,by rw[this];exact hE2b,fun _ h=>(by cases h),fun _ _ _ h=>(by cases h),fun _ _ _ _ h=>(by cases h),fun _ _ _ h=>(by cases h)⟩
   |true=>
    have hs:=uniq ho hlv hρ;obtain⟨o,ao,r0,e,x,r',e1,h1,h2,h3,h4,h5,h6,h7,h8,h9,g1,g2,g3,g4,g5⟩:=one hs;rw[hk]at g3;cases g3;have hFk:=hF h1 h2 h3;refine⟨mrgE e e',by rw[hFk,hE2 _ h4,h8,bA,hs];simp only[hk,fE],fun b hb=>?_,fun r v s hb=>?_,fun g b ck es hb=>?_,fun r v bs hb=>?_⟩
    ·cases e' with
     |blk b'=>cases e<;>(cases hb;rfl)
     |osl r v s=>cases e<;>cases hb
     |mp=>cases e<;>cases hb
     |fam=>cases e<;>cases hb
     |dead=>cases e<;>cases hb
    ·cases e' with
     |blk b'=>cases e<;>cases hb
     |osl r1 v1 s1=>
      cases e with
      |osl r0' v0 s0=>
       cases hb;have hvf:vf k=r:=by
        show zxQ σ.hp (F k)=r;rw[hFk];unfold zxQ;rw[zcT,h5];cases ao with
        |osl ver t T' xs=>obtain⟨_,_,_,_,_,hh,_⟩:=h9;cases hh;rfl
        |blk=>obtain⟨_,_,_,hh,_⟩:=h9;cases hh
        |mp=>obtain⟨_,_,_,_,hh,_⟩:=h9;cases hh
        |it=>obtain⟨_,_,_,_,_,hh,_⟩:=h9;cases hh
        |is=>obtain⟨_,_,hh⟩:=h9;cases hh
        |qu=>cases o<;>first|(cases h6;done)|(cases hnq h1;done)
        |fam=>obtain⟨_,_,_,_,_,hh,_⟩:=h9;cases hh
        |famO=>obtain⟨_,_,_,_,_,_,_,hh,_⟩:=h9;cases hh
        |dead=>cases h9.2
       refine⟨dW hvf,fun _=>?_⟩;cases x with
       |osl ver t T' xs=>have:=hV _ _ _ _ _ g1;subst this;obtain⟨_,_,_,_,_,hh,_⟩:=g4;cases hh;rfl
       |blk=>obtain⟨_,_,_,hh,_⟩:=g4;cases hh
       |mp=>obtain⟨_,_,_,_,hh,_⟩:=g4;cases hh
       |it=>cases hno g1
       |is=>cases hno g1
       |qu=>cases hno g1
       |fam=>cases hno g1
       |famO=>cases hno g1
       |dead=>cases g4.2
      |_=>cases hb
     |mp=>cases e<;>cases hb
     |fam=>cases e<;>cases hb
     |dead=>cases e<;>cases hb
    ·cases e' with
     |blk b'=>cases e<;>cases hb
     |osl r v s=>cases e<;>cases hb
     |mp g1 b1 c1 es1=>cases e<;>first|(cases hb;exact⟨_,rfl⟩)|cases hb
     |fam=>cases e<;>cases hb
     |dead=>cases e<;>cases hb
    ·cases e'<;>cases e<;>cases hb
  ·have hFk:F k=σ.hp.length+1+(k-os.length):=by show ziL os ρ σ.hp.length k=_;unfold ziL;rw[zcT,bT (by omega)]
   have hvf:vf k=0:=by show zxQ σ.hp (F k)=0;unfold zxQ;rw[hFk,zcT,bT (by omega)]
   refine⟨e',by rw[hFk,hE2n,show os.length+(k-os.length)=k by omega];exact hk,fun b hb=>hb,fun r v s hb=>⟨by omega,fun h0=>?_⟩,fun g b ck es hb=>⟨g,hb⟩,?_⟩
   ·rw[hb,<-h0,hvf]
   ·have hkl:k<σo.hp.length:=by rw[<-R'.lE];exact(aC.1 hk).1
    obtain⟨r',e1,g1,g2,g3⟩:=R'.obj k _ (aI hkl);rw[hk]at g2;cases g2;exact yrQ (hno (aI hkl)) g3
 have hEE:ELe E E2:=fun i a ha=>by
  have hi:i<σ.hp.length:=by rw[<-R.lE];exact(aC.1 ha).1
  cases hs:srcK i os ρ 0 with
  |none=>exact⟨a,by rw[hE2 i hi,ha,bA,hs],a.le_refl⟩|some k=>
   obtain⟨o,ao,r0,e,x,r',e',h1,h2,h3,h4,h5,h6,h7,h8,h9,g1,g2,g3,g4,g5⟩:=one hs;have hea:a=e:=by rw[h8]at ha;exact(osi ha).symm
   rw[hea];exact⟨mrgE e e',by rw[hE2 i hi,h8,bA,hs];simp only[g3,fE],(ykB hlink h6 h9 g5 g4 (hno g1) (hnq h1) fun ver e T xs hx=>hV k ver e T xs (by rw[g1,hx])).2⟩
 have hkeys:∀b∈zcC (reL L os ρ),∃k i o r,os[k]? = some o/\live o=true/\ρ[k]? = some i/\lkR L i=some r/\r.has b:=fun b hb=>by
  obtain⟨k,r,h1,h2⟩:=zcV.1 hb;rcases yaG L os ρ k r h1 with rfl|⟨o,i,h3,h4,h5,h6⟩
  ·cases h2
  ·exact⟨k,i,o,r,h3,h4,h5,h6,h2⟩
 have src:∀i q,L2[i]? = some q->(∃k,q=zkC∨(L'[k]? = some q/\((srcK i os ρ 0=some k/\i<σ.hp.length)∨(i=σ.hp.length+1+(k-os.length)/\os.length<=k))))∨(L[i]? = some q/\srcK i os ρ 0=none/\i<σ.hp.length):=fun i q hq=>by
  by_cases hi:i<σ.hp.length
  ·rw[hL2 i hi]at hq;cases hLi:L[i]? with
   |none=>rw[hLi]at hq;cases hq
   |some r0=>
    rw[hLi,bA]at hq;cases hs:srcK i os ρ 0 with
    |none=>rw[hs]at hq;cases hq;exact .inr ⟨rfl,rfl,hi⟩
    |some k=>
     rw[hs]at hq;simp only[Option.some.injEq]at hq;cases hk:L'[k]? with
     |none=>rw[hk]at hq;exact .inl ⟨k,.inl hq.symm⟩|some q'=>rw[hk]at hq;simp only[fE]at hq;subst hq;exact .inl ⟨k,.inr ⟨hk,.inl ⟨rfl,hi⟩⟩⟩
  ·by_cases hi2:i=σ.hp.length
   ·subst hi2;rw[hL2b]at hq;cases hq;exact .inl ⟨0,.inl rfl⟩
   ·have:i=σ.hp.length+1+(i-σ.hp.length-1):=by omega
    rw[this,hL2n]at hq;exact .inl ⟨os.length+(i-σ.hp.length-1),.inr ⟨hq,.inr ⟨by omega,by omega⟩⟩⟩
 have hH:HS B S' w' L2:=by
  refine HS.back hm R.hs R'.hs (fun b hb=>?_) (fun i q hi=>?_) (fun i j q s b hi hj hb hb'=>?_)
  ·obtain⟨k,i,o,r,_,_,_,h1,h2⟩:=hkeys b hb;exact zcV.2 ⟨i,r,h1,h2⟩
  ·rw[zaX]at hi;rcases src i q hi with⟨k,rfl|⟨h1,_⟩⟩|⟨h1,h2,_⟩
   ·exact .inl rfl
   ·exact .inr (.inl ⟨k,by rw[zaX];exact h1⟩)
   ·refine .inr (.inr ⟨i,by rw[zaX];exact h1,fun b hb hm=>?_⟩);obtain⟨k,i',o,r',h3,h4,h5,h6,h7⟩:=hkeys b hm;have:=R.hs.inj i i' q r' b (by rw[zaX];exact h1) h6 hb h7;subst this;rw[uniq h3 h4 h5]at h2;cases h2
  ·rw[zaX]at hi hj;have old:∀{i:Nat} {q:Res} {b:Nat},L[i]? = some q->srcK i os ρ 0=none->q.has b->b<w.heap.size/\b∉zcC (reL L os ρ):=fun {i q b} h1 h2 h3=>by refine⟨R.hs.res_lt (by rw[zaX];exact h1) h3,fun hm=>?_⟩;obtain⟨k,i',o,r',h4,h5,h6,h7,h8⟩:=hkeys b hm;have:=R.hs.inj i i' q r' b (by rw[zaX];exact h1) h7 h3 h8;subst this;rw[uniq h4 h5 h6]at h2;cases h2
   have new:∀{k:Nat} {q:Res} {b:Nat},L'[k]? = some q->q.has b->w.heap.size<=b∨b∈zcC (reL L os ρ):=fun {k q b} h1 h2=>(R'.hs.old k q b (by rw[zaX];exact h1) h2).1.imp id fun h3=>(zqJ h3).resolve_right fun⟨_,_,o,h4,_⟩=>by have h5:=hS b o h4;rw[(R'.hs.old k q b (by rw[zaX];exact h1) h2).2]at h5;cases h5
   rcases src i q hi with⟨k,rfl|⟨h1,h2⟩⟩|⟨h1,h2,h3⟩
   ·cases hb
   ·rcases src j s hj with⟨k',rfl|⟨h4,h5⟩⟩|⟨h4,h5,h6⟩
    ·cases hb'
    ·have:=R'.hs.inj k k' q s b (by rw[zaX];exact h1) (by rw[zaX];exact h4) hb hb';subst this;rcases h2 with⟨h2,h2'⟩|⟨h2,h2'⟩
     ·obtain⟨o,_,_,_,_,_,_,g1,_,g2,_⟩:=one h2;rcases h5 with⟨h5,h5'⟩|⟨h5,h5'⟩
      ·obtain⟨_,_,_,_,_,_,_,_,_,g3,_⟩:=one h5;rw[g2]at g3;cases g3;rfl
      ·have:=(aC.1 g1).1;omega
     ·rcases h5 with⟨h5,h5'⟩|⟨h5,h5'⟩
      ·obtain⟨_,_,_,_,_,_,_,g1,_,_⟩:=one h5;have:=(aC.1 g1).1;omega
      ·omega
    ·obtain⟨k1,k2⟩:=old h4 h5 hb';rcases new h1 hb with h|h
     ·omega
     ·exact absurd h k2
   ·rcases src j s hj with⟨k',rfl|⟨h4,h5⟩⟩|⟨h4,h5,h6⟩
    ·cases hb'
    ·obtain⟨k1,k2⟩:=old h1 h2 hb;rcases new h4 hb' with h|h
     ·omega
     ·exact absurd h k2
    ·exact R.hs.inj i j q s b (by rw[zaX];exact h1) (by rw[zaX];exact h4) hb hb'
 have hlen2:(zoW F vf os ρ σo.hp σ.hp++(.dead::(σo.hp.drop os.length).map (renN F vf))).length=σ.hp.length+1+(σo.hp.length-os.length):=by unfold zoW;simp[zdS];omega
 refine⟨_,_,S',E2,L2,h,hS,hEE,⟨hH,?_,?_,fun i o ho=>?_,fun t=>(R.sl t).mono hS hEE⟩,?_,fun i hi hs=>?_⟩
 ·show L2.length=_;rw[hlen2];show(mapI _ 0 L++_).length=_;simp[zdS,R.lL,R'.lL];omega
 ·show E2.length=_;rw[hlen2];show(mapI _ 0 E++_).length=_;simp[zdS,R.lE,R'.lE];omega
 ·have ho:(zoW F vf os ρ σo.hp σ.hp++(.dead::(σo.hp.drop os.length).map (renN F vf)))[i]? = some o:=ho;by_cases hi:i<σ.hp.length
  ·rw[aF (by unfold zoW;rw[zdS];exact hi)]at ho;unfold zoW at ho;rw[ycQ,aQ]at ho;cases hs:srcK i os ρ 0 with
   |none=>
    cases hao:σ.hp[i]? with
    |none=>rw[hao]at ho;cases ho
    |some ao=>rw[hao,bA,hs]at ho;cases ho;obtain⟨r0,e0,h1,h2,h3⟩:=R.obj i ao hao;exact⟨r0,e0,by rw[hL2 i hi,h1,bA,hs],by rw[hE2 i hi,h2,bA,hs],h3.mono hS hEE⟩
   |some k=>obtain⟨o',ao,r0,e,x,r',e',h1,h2,h3,h4,h5,h6,h7,h8,h9,g1,g2,g3,g4,g5⟩:=one hs;rw[h5,bA,hs]at ho;simp only[zcT,g1]at ho;cases ho;refine⟨r',mrgE e e',by rw[hL2 i hi,h7,bA,hs];simp only[g2,fE],by rw[hE2 i hi,h8,bA,hs];simp only[g3,fE],?_⟩;exact(ykB hlink h6 h9 g5 g4 (hno g1) (hnq h1) fun ver e T xs hx=>hV k ver e T xs (by rw[g1,hx])).1
  ·by_cases hi2:i=σ.hp.length
   ·subst hi2;rw[aH (by unfold zoW;rw[zdS];exact aJ _)]at ho;unfold zoW at ho;rw[zdS,dY]at ho;cases ho;exact⟨zkC,.dead,hL2b,hE2b,rfl,rfl⟩
   ·have hi3:i=σ.hp.length+1+(i-σ.hp.length-1):=by omega
    rw[aH (by unfold zoW;rw[zdS];omega)]at ho;unfold zoW at ho;rw[zdS,show i-σ.hp.length=(i-σ.hp.length-1)+1 by omega,cD,bI,bB]at ho;cases hx:σo.hp[os.length+(i-σ.hp.length-1)]? with
    |none=>rw[hx]at ho;cases ho
    |some x=>
     rw[hx]at ho;cases ho;obtain⟨r',e',g1,g2,g3⟩:=R'.obj _ x hx;refine⟨r',e',by rw[hi3,hL2n];exact g1,by rw[hi3,hE2n];exact g2,?_⟩;cases x with
     |blk T cs=>obtain⟨b,us,h1,h2,h3⟩:=g3;exact⟨b,us,h1,h2,h3.map (f:=renC F vf) fun _ _=>zxH hlink⟩
     |osl=>exact g3|mp=>exact g3|it=>cases hno hx
     |is=>cases hno hx
     |qu=>cases hno hx
     |fam=>cases hno hx
     |famO=>cases hno hx
     |dead=>exact g3
 ·exact resT_ok (yrK hlink R'.sl nr 0 hn)
 ·rw[hL2 i (by rw[<-R.lL];exact hi)];simp only[hs];cases L[i]? <;> rfl
theorem Post2.up{S1:Mem}{E1:List EI}{v:Value}(h:Post2 n B S1 E1 m k r v w')(hS:Mem.le S S1)(hE:ELe E E1):Post2 n B S E m k r v w':=by obtain⟨x,σ',S',E',L',h1,h2,h3,h4,h5⟩:=h;exact⟨x,σ',S',E',L',h1,Mem.le_trans hS h2,hE.trans h3,h4,h5⟩
theorem ybW:∀{xs:List SV} {us:LV} (i t:Nat),A2 (VR S E) xs us->VR S E (lkS (argS i xs) t) (if i<=t then us.getD (t-i) undef else undef)
 |_,_,i,t,.nil=>trivial|x::xs,u::us,i,t,.cons a r=>by
  unfold argS lkS;cases hb:aG i t with
  |true=>have:=aB hb;subst this;simp only[zE,aJ,if_true,dY,List.getD_cons_zero];exact a|false=>
   have hne:i≠t:=fun e=>by subst e;rw[dX]at hb;cases hb
   have:=ybW (i+1) t r;simp only[zF];by_cases h:i<=t
   ·rw[zH h];rw[zH (by omega)]at this;rw[show t-i=(t-(i+1))+1 by omega,List.getD_cons_succ];exact this
   ·rw[zG h];rw[zG (by omega)]at this;exact this
theorem yaY{s:Shp}{ρ:List Nat}{σ:St}{x:zcM s.tys}(h:s.get1 ρ σ=some x):dist s.hp ρ=true/\∃q,zhU ρ σ.hp s.hp ρ=some q:=by
 unfold Shp.get1 at h;obtain⟨h1,h⟩:=zaJ h;split at h
 ·rename_i h2;exact⟨zaT h1,_,h2⟩
 ·cases h
theorem ydV{mb:Bool}(hm:MB mb B){x:Operand}{ash:List Operand}{at_:Array TypeId}{f:Nat}{xs:List SV}(R:Rel n B S E L σ m w)(hx:zoG σ x ash=some (f,xs)):∀{l:List SC},(∀c∈l,SCB P mb B f c)->zoN σ x ash xs k l=some r ->
  outcome P (Post2 n B S E m k r) ((execOp (evO n m) ⟨dst,.call ⟨.value x,ash.toArray,at_⟩,ty,pos,aft,g⟩).run P w)
 |[],_,h=>by cases h
 |c::l,hc,h=>by
  unfold zoN at h;have rest:zoN σ x ash xs k l=some r->outcome P (Post2 n B S E m k r) ((execOp (evO n m) ⟨dst,.call ⟨.value x,ash.toArray,at_⟩,ty,pos,aft,g⟩).run P w):=fun h=>ydV (at_:=at_) hm R hx (fun c' hc'=>hc c' (aS _ hc')) h;cases hb:aG xs.length c.I.sl.length with
  |false=>rw[hb]at h;exact rest h|true=>
   rw[hb]at h;have hlen:=aB hb;simp only[zE]at h;split at h
   ·rename_i f' xs' hx';obtain⟨S1,E1,L1,hS1,hE1,R1⟩:=ziN (c.I.need 0 ⟨argS 0 xs,σ.hp⟩) R;generalize hσ1:frzL σ (c.I.need 0 ⟨argS 0 xs,σ.hp⟩)=σ1 at *;split at h
    ·rename_i a ha;obtain⟨d,hd,h⟩:=bnd h;obtain⟨first,cap,us,hev,hus,hA⟩:=zlC R1 hx';obtain⟨_,_,us0,hev0,hus0,hA0⟩:=zlC R hx;have hff:f'=f:=by rw[hev0]at hev;cases hev;rfl
     have hul:us.length=c.I.sl.length:=by rw[hev0]at hev;cases hev;rw[<-hlen,hA0.len,<-hus0,<-hus]
     subst hff
     have RB:RelV B S1 E1 L1 ⟨argS 0 xs',σ1.hp⟩ (fun t=>us.getD t undef) w:=⟨R1.hs,R1.lL,R1.lE,R1.obj,fun t=>by
      have:=ybW 0 t hA
      simpa using this⟩
     have hl:=zsL σ1.hp.length (zpP σ1.hp 0 c.I.hp (idB 0 0++c.I.sl.flatMap fun p=>p.2.bindS (lkS (argS 0 xs') p.1))) c.I.hp 0;have RI:=ydC RB hl ha;obtain⟨hdist,q,hq⟩:=yaY ha;have RI':RelV ⟨S1,mayL mb S1 (reL L1 c.I.hp (c.I.rho 0 ⟨argS 0 xs',σ1.hp⟩)) w,w⟩ S1 (reE E1 c.I.hp (c.I.rho 0 ⟨argS 0 xs',σ1.hp⟩)) (reL L1 c.I.hp (c.I.rho 0 ⟨argS 0 xs',σ1.hp⟩)) (c.I.put a) (fun t=>us.getD t undef) w:=⟨HS.lendX RI.hs mb,RI.lL,RI.lE,RI.obj,RI.sl⟩;have hcok:=hc c bC;refine zeI hcok.fn hev (by simpa using hus) ((hcok.ok S1 w us _ _ a d ⟨S1,L1,Mem.le_refl _,R1.hs⟩ hul RI' hd).mono ?_);rintro e w' ⟨v,he,S',E',L',σo,V',hout,hS',hP',R',hV,hle,hv⟩;refine⟨v,he,?_⟩;rw[hout]at h;unfold yyO at h;obtain⟨hn,h⟩:=zaJ h;subst hv;exact(yjZ hm R1 hl hdist hq hS' hP' R' hV hle (zaT hn) (zaT (zaW hn)) (zaW (zaW hn)) h).two.up hS1 hE1
    ·exact rest h
   ·cases h
theorem ymJ{mb:Bool}(hm:MB mb B){x:Operand}{ash:List Operand}{at_:Array TypeId}{f:Nat}{xs:List SV}{c:SC}(R:Rel n B S E L σ m w)(hx:zoG σ x ash=some (f,xs))(hc:SCB P mb B f c)(hn:ylL (c.I.need 0 ⟨argS 0 xs,σ.hp⟩)=true)(h:zoN σ x ash xs k [c]=some r):
  outcome P (Post2L n B S E m k r (fun L2=>∀i,i<L.length->srcK i c.I.hp (c.I.rho 0 ⟨argS 0 xs,σ.hp⟩) 0=none->L2[i]? = L[i]?)) ((execOp (evO n m) ⟨dst,.call ⟨.value x,ash.toArray,at_⟩,ty,pos,aft,g⟩).run P w):=by
 unfold zoN at h;have hneed:c.I.need 0 ⟨argS 0 xs,σ.hp⟩=[]:=by
  cases hh:c.I.need 0 ⟨argS 0 xs,σ.hp⟩ with
  |nil=>rfl|cons a l=>rw[hh]at hn;cases hn
 rw[hneed]at h;simp only[frzL]at h;cases hb:aG xs.length c.I.sl.length with
 |false=>rw[hb]at h;cases h
 |true=>
  rw[hb]at h;have hlen:=aB hb;simp only[zE,hx]at h;split at h
  ·rename_i a ha;obtain⟨d,hd,h⟩:=bnd h;obtain⟨first,cap,us,hev,hus,hA⟩:=zlC R hx;have hul:us.length=c.I.sl.length:=by rw[<-hlen,hA.len]
   have RB:RelV B S E L ⟨argS 0 xs,σ.hp⟩ (fun t=>us.getD t undef) w:=⟨R.hs,R.lL,R.lE,R.obj,fun t=>by
    have:=ybW 0 t hA
    simpa using this⟩
   have hl:=zsL σ.hp.length (zpP σ.hp 0 c.I.hp (idB 0 0++c.I.sl.flatMap fun p=>p.2.bindS (lkS (argS 0 xs) p.1))) c.I.hp 0;have RI:=ydC RB hl ha;obtain⟨hdist,q,hq⟩:=yaY ha;have RI':RelV ⟨S,mayL mb S (reL L c.I.hp (c.I.rho 0 ⟨argS 0 xs,σ.hp⟩)) w,w⟩ S (reE E c.I.hp (c.I.rho 0 ⟨argS 0 xs,σ.hp⟩)) (reL L c.I.hp (c.I.rho 0 ⟨argS 0 xs,σ.hp⟩)) (c.I.put a) (fun t=>us.getD t undef) w:=⟨HS.lendX RI.hs mb,RI.lL,RI.lE,RI.obj,RI.sl⟩;refine zeI hc.fn hev (by simpa using hus) ((hc.ok S w us _ _ a d ⟨S,L,Mem.le_refl _,R.hs⟩ hul RI' hd).mono ?_);rintro e w' ⟨v,he,S',E',L',σo,V',hout,hS',hP',R',hV,hle,hv⟩;refine⟨v,he,?_⟩;rw[hout]at h;unfold yyO at h;obtain⟨hn,h⟩:=zaJ h;subst hv;exact yjZ hm R hl hdist hq hS' hP' R' hV hle (zaT hn) (zaT (zaW hn)) (zaW (zaW hn)) h
  ·cases h
theorem yfO{W:List Nat}{i:Nat}(hi:hasN W i=false):∀{os:List OSh} {ρ:List Nat} (k:Nat),ysK W os ρ=true->srcK i os ρ k=none
 |[],_,_,_=>rfl|_::_,[],_,_=>rfl|o::os,id::ids,k,h=>by
  unfold ysK at h;unfold srcK;have h1:=zaT h;rw[yfO hi (k+1) (zaW h)];cases hl:live o with
  |false=>rfl|true=>
   cases hb:aG id i with
   |false=>rfl|true=>have:=aB hb;subst this;rw[hl,hi]at h1;cases h1
theorem zvX{S2:Mem}{hq:List AO}{c:PC}{xs:List SV}{us:LV}{a:zcM (c.ash.flatMap Sh.tys)}(hS:Mem.le S S2)(hQ:ztP S S2 E hq)(h:ygR c hq xs=some a)(hA:A2 (VR S E) xs us):A2 (VR S2 []) (putL c.ash (zhN _ a)).1 us:=by
 unfold ygR at h;split at h
 ·rename_i p hp;obtain⟨h1,h2⟩:=ysD (E':=[]) (ρ:=[]) hS hQ (fun k e' hk=>by simp at hk) rfl ⟨fun i r e T xs hh=>by simp at hh,fun i r T f ks hh=>by simp at hh,fun i r e T xs hh=>by simp at hh⟩ hp hA;have:=yhW [] h1 h;rw[this];have h3:=(h2 []).1
  rwa[cC]at h3
 ·cases h
theorem yoR{x:Operand}{ash:List Operand}{at_:Array TypeId}(hΓ:CTok P Γ B)(R:Rel n B S E L σ m w)(h:ytZ Γ σ x ash k=some r):
  outcome P (Post2 n B S E m k r) ((execOp (evO n m) ⟨dst,.call ⟨.value x,ash.toArray,at_⟩,ty,pos,aft,g⟩).run P w):=by
 unfold ytZ at h;split at h
 ·rename_i f xs hx;have sc:zoN σ x ash xs k (scAt Γ.sc f)=some r->outcome P (Post2 n B S E m k r) ((execOp (evO n m) ⟨dst,.call ⟨.value x,ash.toArray,at_⟩,ty,pos,aft,g⟩).run P w):=fun h=>ydV (dst:=dst) (g:=g) (ty:=ty) (pos:=pos) (aft:=aft) (at_:=at_) hΓ.mb R hx (fun c hc=>hΓ.sc f c hc) h;split at h
  ·rename_i c hc;have hc':=hΓ.pc _ _ hc;obtain⟨_,_,us0,hev0,hus0,hA0⟩:=zlC R hx;cases hs:c.rts.any zqV with
   |true=>
    rw[hs]at h;simp only[zE]at h;obtain⟨S1,E1,L1,h1,h2,R1⟩:=ziN (xs.flatMap owns) R;split at h
    ·rename_i f' xs' hx';split at h
     ·rename_i a ha;obtain⟨y,hy,h⟩:=bnd h;obtain⟨first,cap,us,hev,hus,hA⟩:=zlC R1 hx';have hA2:=zvX (Mem.le_refl S1) zeH ha hA;refine zeI hc'.fn hev0 (by simpa using hus0) ?_;have:us=us0:=by rw[hev0]at hev;cases hev;rw[<-hus0,<-hus]
      subst this;exact(hc'.ok S1 w us a y ⟨S1,L1,Mem.le_refl _,R1.hs⟩ R1.hs.sub hA2 hy).mono fun e w' ⟨hx,v,he,hr⟩=>⟨v,he,_,_,gr S1 w w',E1,L1,h,Mem.le_trans h1 (yiC R1.hs.sub),h2,R1.call hx,zwB hr.1 hr.2⟩
     ·exact sc h
    ·cases h
   |false=>
    rw[hs]at h;simp only[zF]at h;split at h
    ·rename_i a ha;obtain⟨y,hy,h⟩:=bnd h;have hA2:=zvX (leOn S w) R.own_ok ha hA0;refine zeI hc'.fn hev0 (by simpa using hus0) ?_;exact(hc'.ok (ztE S w) w us0 a y ⟨S,L,leOn S w,R.hs⟩ (zxS R.hs.sub) hA2 hy).mono fun e w' ⟨hx,v,he,hr⟩=>⟨v,he,_,_,gr S w w',E,L,h,yiC R.hs.sub,ELe.refl E,R.call hx,zwB (yeO hs hr.1) hr.2⟩
    ·exact sc h
  ·exact sc h
 ·cases h
theorem TIok.cells{f:TI}(h:TIok P T f)(hs:f.agg=true∨f.sz=1):(zV f).cells=(f.z.map zc).toArray:=by
 unfold zV;cases ha:f.agg with
 |true=>rfl|false=>
  rcases hs with hs|hs
  ·rw[ha]at hs;cases hs
  ·have hl:=h.zl;rw[hs]at hl
   match hz:f.z,hl with
   |[x],_=>have:=h.z;rw[hz]at this;simp only[cO,List.all_nil,Bool.and_true]at this;exact cells_one (zc_ok (S:=fun _=>none) (E:=[]) this).one
theorem yaS{e:TI}{E':TypeId}(hT:P.underlying T=some (.slice E'))(h:TIok P E' e)(hs:slOk e=true):TSn P T E' (zV e) (e.z.map zc) e.nb e.sz:=by
 unfold slOk at hs;obtain⟨i,h1,h2,h3,h4⟩:=h.i;have h5:=zaT (zaT hs);rw[zhR]at h5;refine⟨hT,⟨i,h1,h2,h3,h4⟩,h.cells ?_,by rw[bL];exact h.zl,zC h5,aR (zaW (zaT hs))⟩;have h6:=zaW hs;cases ha:e.agg with
 |true=>exact .inl rfl|false=>rw[ha]at h6;exact .inr (aB h6)
theorem VC.ones:∀{l:List SV} {us:LV},A2 (VC S E) l us->∀u∈us,u.oneCell'=true
 |_,_,.nil,_,h=>by cases h
 |_,_,.cons a t,u,h=>by
  rcases aT.1 h with rfl|h
  ·exact a.one
  ·exact VC.ones t u h
theorem yyU{f:TI}{a x:Operand}{id off:Nat}{B':TypeId}{cs:List SV}{sv:SV}(hT:TIok P T f)(R:Rel n B S E L σ m w)(ha:VR S E (.ptr id off) (evO n m a))(hx:VR S E sv (evO n m x))(hc:atN σ.hp id=some (.blk B' cs)) (hb:(aG (cellL sv).length f.sz&&bM (off+f.sz) cs.length&&notu sv)=true) (h:k .undef ⟨σ.sl,setN σ.hp id (.blk B' (layS cs off (cellL sv)))⟩=some r):
  outcome P (Post2 n B S E m k r) ((execOp (evO n m) ⟨dst,.store T a x,ty,pos,aft,g⟩).run P w):=by
 obtain⟨r0,e0,h1,h2,b,us,rfl,rfl,h3⟩:=R.objN hc;obtain⟨b1,hu,e1,h4,h5⟩:=ha;rw[h2]at h4;cases h4;cases h5 _ rfl;obtain⟨h6,h7⟩:=zqM (hx.b (zaW hb));have h8:=aB (zaT (zaT hb));have h9:=aR (zaW (zaT hb));obtain⟨w',h10,h11⟩:=zbS (g:=g) (ty:=ty) (pos:=pos) (aft:=aft) (P:=P) hT.tsz R.hs hu h1 rfl h7 (by rw[<-h6.len,h8]) (VC.ones h6) (by rw[<-h3.len,eV];exact h9);have h10':(execOp (evO n m) ⟨dst,.store T a x,ty,pos,aft,g⟩).run P w = .ok .skip w':=h10;rw[h10'];exact⟨_,_,S,E,_,h,Mem.le_refl _,ELe.refl _,R.upd1 h2 h11 ⟨b,_,rfl,rfl,zuP off h3 h6⟩,trivial⟩
theorem yaF{t:Ty}{u:Value}{y:den t}(h:rep1 t S u y):rep t S u.cells.toList y:=by
 unfold rep1 at h;split at h
 ·have:=cells_one ((rpD t).one h u (by simp));rw[show u.cells=[u].toArray from this];exact h
 ·obtain⟨cs,rfl,h⟩:=h;simpa[Value.cells]using h
theorem yuJ{f:TI}{a x:Operand}{id ver:Nat}{i:Int}{e:Ty}{E':TypeId}{xs rs':List (den e)}{sv:SV}{y:den e}(hT:TIok P T f)(R:Rel n B S E L σ m w)(ha:VR S E (.ep id ver i 0) (evO n m a))(hx:VR S E sv (evO n m x))(hc:atN σ.hp id=some (.osl ver e E' xs)) (hs:f.sz=tsz e) (hy:ofSV [] e sv=some y) (hr:setL xs i y=some rs') (h:k .undef ⟨σ.sl,setN σ.hp id (.osl ver e E' rs')⟩=some r):
  outcome P (Post2 n B S E m k r) ((execOp (evO n m) ⟨dst,.store T a x,ty,pos,aft,g⟩).run P w):=by
 obtain⟨r0,e0,h1,h2,v,v',cs,rs,rfl,rfl,h3,hsm⟩:=R.objN hc;obtain⟨_,e1,h4,h5⟩:=ha;rw[h2]at h4;cases h4;obtain⟨b,oo,n',c,hv,hu⟩:=(h5 _ _ _ rfl).2 rfl;obtain⟨_,hi,_⟩:=zlB hr;have hvv:=hsm.eq hi;subst hvv;subst hv;obtain rfl:oo=0:=by obtain⟨_,_,_,hz,_⟩:=zzW R.hs h1 hi;injection hz with hz;injection hz with hz;injection hz
 have h6:=znL (Mem.le_refl S) zeH hy hx;have hts:TSz P T (tsz e):=by rw[<-hs];exact hT.tsz
 obtain⟨w',h7,cs',h8,h9⟩:=ydB (g:=g) (ty:=ty) (pos:=pos) (aft:=aft) hts (zgX e) R.hs h1 h3 (by rw[hu,cQ]) (rfl:evO n m x=_) (by simp[zmN]) (yaF h6) hr;have h7':(execOp (evO n m) ⟨dst,.store T a x,ty,pos,aft,g⟩).run P w = .ok .skip w':=h7;rw[h7'];exact⟨_,_,S,E,_,h,Mem.le_refl _,ELe.refl _,R.upd1 h2 h8 ⟨_,_,cs',rs,rfl,rfl,h9,.inl rfl⟩,trivial⟩
theorem yxI{cs l:LV}{p sz off:Nat}(h1:p+sz<=cs.length)(h2:off+l.length<=sz):lay cs (p+off) l=lay cs p (lay (piece cs p sz) off l):=by
 apply aX;intro j;have hl:(lay (piece cs p sz) off l).length=sz:=by rw[zcL];exact zfO h1
 have hp:(piece cs p sz).length=sz:=zfO h1;rw[zcY,zcY,hl,zcY,hp];by_cases hj:p<=j/\j<p+sz
 ·rw[zH (show p<=j/\j<p+sz/\j<cs.length by omega)];by_cases hk:p+off<=j/\j<p+off+l.length
  ·rw[zH (by omega),zH (by omega)];congr 1;omega
  ·rw[zG (by omega),zG (by omega),zaL,List.getElem?_take_of_lt (by omega),bB];congr 1;omega
 ·rw[zG (by omega),zG (by omega)]
theorem yyM{sz b k M N c0 z p:Nat}{cs rs l:LV}{T T':TypeId}{v:Value}{e:Operand->Value}{x y:Operand}(ts:TSz P T z)(H:HS B S w L)(hk:lkR L k=some (.osl (sl b 0 M c0) N sz cs rs T'))(hp:e x = .pointer (some ⟨b,p,none⟩))(hi:p+z<=N*sz)(hy:e y=v)(hv:zmN v l) (hlen:l.length=z) (hone:∀u∈l,u.oneCell'=true):∃w',(execOp e ⟨none,.store T x y,ty,pos,aft,g⟩).run P w = .ok .skip w'/\HS B S w' (stR L k (.osl (sl b 0 M c0) N sz (lay cs p l) rs T'))/\cs.length=N*sz:=by
 rcases H.own k _ hk with⟨h,_⟩|⟨b',c',fz,hv',h1,h2,h3,h4,h5⟩
 ·cases h
 ·injection hv' with e1 e2 e3;injection e1 with e1;injection e1 with e1 _ _;subst e1;have e2:=e2.symm;subst e2;subst e3;obtain⟨w',he,hb,hs,g4,g5,g6,g7⟩:=zlY (o:=p) ts hv h4 h5 hlen hone (by rw[aE];omega);have hlay:lay (cs++rs) p l=lay cs p l++rs:=by
   apply aX;intro j;rw[zcY];by_cases hj:p<=j/\j<p+l.length
   ·rw[zH ⟨hj.1,hj.2,by rw[aE];omega⟩,aF (by rw[zcL];omega),zcY,zH ⟨hj.1,hj.2,by omega⟩]
   ·rw[zG (by omega)];by_cases hj2:j<cs.length
    ·rw[aF hj2,aF (by rw[zcL];omega),zcY,zG (by omega)]
    ·rw[aH (by omega),aH (by rw[zcL];omega),zcL]
  refine⟨w',?_,H.upd hk (by omega) g4 g5 g6 (fun i _ hne=>g7 i fun e=>hne (by rw[e];rfl)) (.inr ⟨b,c0,fz,rfl,h1,by rw[zcL];exact h2,?_,by rw[<-hlay];exact hb,?_⟩) fun b' hb'=>.inl hb',h2⟩
  ·simp only[execOp,hp,hy,Sem.run_bind,he,Result.andThen,Sem.run_pure]
  ·rw[aE,zcL,<-aE];exact h3
  ·rw[aE,zcL,<-aE];exact h5
theorem yuV{f:TI}{a x:Operand}{id ver off:Nat}{i:Int}{e:Ty}{E':TypeId}{xs rs':List (den e)}{sv:SV}{x0 y:den e}(hT:TIok P T f)(R:Rel n B S E L σ m w)(ha:VR S E (.ep id ver i off) (evO n m a))(hx:VR S E sv (evO n m x))(hc:atN σ.hp id=some (.osl ver e E' xs)) (hb:(aG (cellL sv).length f.sz&&bM (off+f.sz) (tsz e)&&notu sv)=true) (hi:idx xs i=some x0) (hy:zdR [] e (layS (cellsOf e x0) off (cellL sv))=some y) (hr:setL xs i y=some rs') (h:k .undef ⟨σ.sl,setN σ.hp id (.osl ver e E' rs')⟩=some r):
  outcome P (Post2 n B S E m k r) ((execOp (evO n m) ⟨dst,.store T a x,ty,pos,aft,g⟩).run P w):=by
 obtain⟨r0,e0,h1,h2,v,v',cs,rs,rfl,rfl,h3,hsm⟩:=R.objN hc;obtain⟨_,e1,h4,h5⟩:=ha;rw[h2]at h4;cases h4;obtain⟨b,oo,n',c,hv,hu⟩:=(h5 _ _ _ rfl).2 rfl;obtain⟨_,hlt,hset⟩:=zlB hr;have hvv:=hsm.eq hlt;subst hvv;subst hv;obtain rfl:oo=0:=by obtain⟨_,_,_,hz,_⟩:=zzW R.hs h1 hlt;injection hz with hz;injection hz with hz;injection hz
 obtain⟨h6,h7⟩:=zqM (hx.b (zaW hb));have h8:=aB (zaT (zaT hb));have h9:=aR (zaW (zaT hb));have hrs:Rp.sz (den e)=tsz e:=zgX e;have hcl:cs.length=xs.length*tsz e:=by rw[<-hrs];exact h3.len
 have hm:i.toNat*tsz e+tsz e<=xs.length*tsz e:=by have:=cE (tsz e) (show i.toNat+1<=xs.length by omega);rw[bD,cR]at this;exact this
 obtain⟨hi1,hi2⟩:=zaP hi;have hge:=h3.get hi2;rw[hrs]at hge;have hel:rep e S (piece cs (i.toNat*tsz e) (tsz e)) x0:=hge;obtain⟨w',h10,h11,_⟩:=yyM (g:=g) (ty:=ty) (pos:=pos) (aft:=aft) (P:=P) (p:=i.toNat*tsz e+off) hT.tsz R.hs h1 (by rw[hu,aQ]) (by omega) (rfl:evO n m x=_) h7 (by rw[<-h6.len,h8]) (VC.ones h6);have h10':(execOp (evO n m) ⟨dst,.store T a x,ty,pos,aft,g⟩).run P w = .ok .skip w':=h10;rw[h10'];have hrep:=zjA (Mem.le_refl S) (zeH (E:=E)) e hy (zuP off (zgL (E:=E) e hel) h6);have h12:=yoD h3 (show Rp.rep S _ y from hrep) hr hrs;rw[<-yxI (by omega) (by rw[<-h6.len,h8];omega)]at h12;have hl2:rs'.length=xs.length:=by rw[<-hset,List.length_set]
 rw[<-hl2]at h11;exact⟨_,_,S,E,_,h,Mem.le_refl _,ELe.refl _,R.upd1 h2 h11 ⟨_,_,_,rs,rfl,rfl,h12,.inl rfl⟩,trivial⟩
theorem yoU{f:TI}{a x:Operand}{sv:SV}(hJ:NoJ B.S0)(hT:TIok P T f)(R:Rel n B S E L σ m w)(ha:VR S E .jp (evO n m a))(hx:VR S E sv (evO n m x)) (hb:(aG f.sz 1&&(aG (cellL sv).length 1&&notu sv))=true) (h:k .undef σ=some r):
  outcome P (Post2 n B S E m k r) ((execOp (evO n m) ⟨dst,.store T a x,ty,pos,aft,g⟩).run P w):=by
 obtain⟨b,o,z,T0,hu,hS,ho⟩:=ha;obtain⟨h6,h7⟩:=zqM (hx.b (zaW (zaW hb)));have h8:=aB (zaT (zaW hb));have hts:TSz P T 1:=by rw[<-aB (zaT hb)];exact hT.tsz
 obtain⟨c,T',hw,hc⟩:=R.hs.sub _ _ hS;obtain⟨cs,rfl⟩:∃cs:LV,c=cs.toArray:=⟨c.toList,by simp⟩;have hcl:cs.length=z:=by simpa using hc
 obtain⟨w',he,g1,g2,g4,g5,g6,g7⟩:=zlY (o:=o) hts h7 hw (.inl rfl) (by rw[<-h6.len,h8]) (VC.ones h6) (by omega);have h10:(execOp (evO n m) ⟨dst,.store T a x,ty,pos,aft,g⟩).run P w = .ok .skip w':=by simp only[execOp,hu,Sem.run_bind,he,Result.andThen,Sem.run_pure]
 rw[h10];exact⟨_,_,S,E,_,h,Mem.le_refl _,ELe.refl _,R.to (R.hs.jset hJ hS (by simpa[zcL]using hcl) g1 (by omega) g4 g5 g6 g7),trivial⟩
theorem ygV{T':TypeId}{b:Nat}{us:LV}{cs:List SV}{w':World}(R:Rel n B S E L σ m w)(H:HS B S w' (.blk b us T'::L))(hl:A2 (VC S E) cs us)(h:k (.ptr σ.hp.length 0) ⟨σ.sl,σ.hp++[.blk T' cs]⟩=some r):
  Post2F n B S E L [] m k r (.pointer (some ⟨b,0,none⟩)) w':=
 ⟨_,_,S,E++[.blk b],_,h,Mem.le_refl _,ELe.push E _,R.snoc (e:=.blk b) (o:=.blk T' cs) H ⟨b,us,rfl,rfl,hl.imp fun _ _=>VC.mono (Mem.le_refl _) (ELe.push E _)⟩,
  ⟨b,rfl,.blk b,(by rw[<-R.lE];simp:(E++[EI.blk b])[σ.hp.length]? = some (EI.blk b)),fun b' hb=>by cases hb;rfl⟩,fun i _ hi=>zvW hi⟩
theorem RL.u8s_of{l:Bs}:@RL (den (.i .u8)) (rpD (.i .u8)) S (u8s l) l:=by
 have:∀{l:Bs} {cs:LV},RL S cs l->@RL (den (.i .u8)) (rpD (.i .u8)) S cs l:=fun {l}=>by
  induction l with
  |nil=>intro cs h;exact h|cons x l ih=>intro cs h;obtain⟨c,d,e1,e2,e3⟩:=h;exact⟨c,d,e1,e2,ih e3⟩
 exact this (RL.of_u8s l)
theorem ybR{α:Type}{ys r:List α}(h:app [] ys=some r):r=ys:=(zcQ h).2.symm
theorem src_ok(hτ:TEok P τ)(R:Rel n B S E L σ m w){T T':TypeId}{e:Ty}{y:SV}{ys:List (den e)}{u:Value}(hu:VR S E y u)(h:srcL τ σ.hp T T' e y=some ys):(T=T'/\∃cs,RL S cs ys/\∀w',HS B S w' L->SlW w' u ys.length (tsz e) cs)∨(P.underlying T'=some .string/\∃(l:Bs) (he:Ty.i .u8=e),u=str l/\ys=ziC (by rw[he]:Ty.sl (.i .u8)=Ty.sl e) (show Bs from l)):=by
 unfold srcL at h;cases hb:aG T T' with
 |true=>rw[hb]at h;exact .inl ⟨aB hb,zsS R hu h⟩|false=>
  rw[hb]at h;simp only[]at h;split at h
  ·rename_i z1 z2 z3 z4 hT;split at h
   ·rename_i l;split at h
    ·rename_i hh _;cases h;exact .inr ⟨(hτ _ _ hT).str rfl,l,hh,vS hu,rfl⟩
    ·cases h
   ·cases h
  ·cases h
theorem zwK{e:Ty}{E':TypeId}{v:Value}{xs:List (den e)}{cs rs:LV}{w':World}(R:Rel n B S E L σ m w)(H:HS B S w' (.osl v xs.length (tsz e) cs rs E'::L))(hl:RL S cs xs)(h:k (.own σ.hp.length 0) ⟨σ.sl,σ.hp++[.osl 0 e E' xs]⟩=some r):Post2F n B S E L [] m k r v w':=
 ⟨_,_,S,E++[.osl 0 v (tsz e)],_,h,Mem.le_refl _,ELe.push E _,R.snoc (e:=.osl 0 v (tsz e)) (o:=.osl 0 e E' xs) H ⟨v,v,cs,rs,rfl,rfl,hl,.inl rfl⟩,⟨by
  rcases H.own 0 _ rfl with⟨hv,_⟩|⟨_,_,_,hv,_⟩<;>rw[hv]<;>rfl,.osl 0 v (tsz e),(by rw[<-R.lE];simp:(E++[EI.osl 0 v (tsz e)])[σ.hp.length]? = some (EI.osl 0 v (tsz e))),fun r' v' s' hq=>by cases hq;exact⟨aJ _,fun _=>rfl⟩⟩,fun i _ hi=>zvW hi⟩
theorem zrV{T E:TypeId}{z v2:Value}{zl ncs:LV}{nb sz M ty:Nat}{a:Option Addr}(hT:TSn P T E z zl nb sz)(H:HS B S w L)(hr:SlW w v2 M sz ncs)(h1:∀u∈ncs,u.oneCell'=true)(hb:M<=68719476736):∃w' v' rs',(Builtin.append_ #[T,T] ty #[.slice a 0 0,v2]).run P w = .ok v' w'/\((M=0/\v' = .slice a 0 0/\w'=w)∨HS B S w' (.osl v' M sz ncs rs' E::L)):=by
 obtain⟨i,hi1,hi2,hi3,hi4⟩:=hT.info;have hsmall:=hT.small;have hbound:M*nb<=140737488355328:=by
  calc M*nb<=68719476736*2048:=dE hb hsmall
   _=140737488355328:=by decide
 obtain⟨hf1,hf2⟩:=hr.first (P:=P);by_cases hM:M=0
 ·subst hM;have hncs:=hr.len;have hn:ncs=[]:=aU (by omega);subst hn;refine⟨w,.slice a 0 0,[],?_,.inl ⟨rfl,rfl,rfl⟩⟩;cases a with
  |none=>simp[Builtin.append_,Go.underlying,hT.und,sizeOf,typeInfo,hi1,hi3,hf1,hf2]|some a=>simp[Builtin.append_,Go.underlying,hT.und,sizeOf,typeInfo,hi1,hi3,hf1,hf2,storeCells]
 ·cases a with
  |none=>obtain⟨w',v',rs',h2,h3⟩:=zqQ (ty:=ty) (N:=0) (k:=0) hT (H.nilOwn sz E) rfl hr h1 (by omega);rw[aQ,cF]at h3;exact⟨w',v',rs',h2,.inr h3⟩
  |some a=>
   rcases hr with⟨_,h,_⟩|⟨b2,o2,c2,cs2,T2,fz2,rfl,hc2,hb2,ho2,hp2⟩
   ·exact absurd h hM
   ·have hncs:ncs.length=M*sz:=by rw[<-hp2];exact zfO ho2
    have hnews:∀j u,ncs[j]? = some u->w.cell? ((⟨b2,o2,none⟩:Addr).add j)=some u:=fun j u hj=>by have hjl:=(aC.1 hj).1;rw[zbW,zdH hb2];rw[<-hp2,zaL,bK,zH (by omega),bB]at hj;exact hj
    have hfit:=growslice_fits (bytes:=nb) (need:=0+M) (old:=0) (by omega) (by rw[aQ];exact hbound);have hrun:=run_append_grow (P:=P) w T ty E i z hT.und hi1 hi2 a 0 0 [] (by simp) (fun j u hj=>by simp at hj) ⟨b2,o2,none⟩ M c2 ncs (by rw[hi3];exact hncs) hnews (by omega) (by omega) (by rw[hi4];exact hfit);have hge:=grownCap_ge w (0+M) 0 E;generalize hG:grownCap w (0+M) 0 E=G at hrun hge;have hzl:∀n,(Builtin.zeroCells z.cells n).toList.length=n*sz:=fun n=>by rw[zkM _ _ hT.cells,hT.len]
    have hZl:=hzl (G-(0+M));generalize hZ:Builtin.zeroCells z.cells (G-(0+M))=Z at hrun hZl;have hcells:([]:LV).toArray++ncs.toArray++Z=(ncs++Z.toList).toArray:=by apply dS;simp
    rw[hcells]at hrun;refine⟨_,_,Z.toList,hrun,.inr ?_⟩;refine H.push (Ext.trans (Ext.drew w) (Ext.alloc w.drew _)) (.inr ⟨w.heap.size,G,(0,0),by rw[aQ],by omega,hncs,?_,zaR w.drew _,.inl rfl⟩) fun b hb=>?_
    ·refine dW (Eq.symm ?_);simp only[aE,hZl,hncs,<-bD];congr 1;omega
    ·cases hb;exact aJ _
theorem zmD{x y:Operand}{T T':TypeId}{v:Value}(h:(Builtin.append_ #[T,T'] ty #[evO n m x,evO n m y]).run P w = .ok v w'):(execOp (evO n m) ⟨dst,.call ⟨.builtin .append,#[x,y],#[T,T']⟩,ty,pos,aft,g⟩).run P w = .ok (.value v) w':=by simp[execOp,resolve,invoke,builtin,h]
theorem ygG{T E T2:TypeId}{z:Value}{zl:LV}{nb ty:Nat}{l:Bs}{a:Option Addr}(hT:TSn P T E z zl nb 1)(h2:P.underlying T2=some .string)(H:HS B S w L)(hb:l.length<=68719476736):∃w' v' rs',(Builtin.append_ #[T,T2] ty #[.slice a 0 0,str l]).run P w = .ok v' w'/\((l=[]/\v' = .slice a 0 0/\w'=w)∨HS B S w' (.osl v' l.length 1 (u8s l) rs' E::L)):=by
 cases a with
 |none=>obtain⟨w',v',rs',h3,h4⟩:=zrJ (ty:=ty) (N:=0) (k:=0) (l:=l) hT h2 (H.nilOwn 1 E) rfl (by omega);rw[aQ,cF]at h4;exact⟨w',v',rs',h3,.inr h4⟩
 |some a=>
  obtain⟨i,hi1,hi2,hi3,hi4⟩:=hT.info;have hsmall:=hT.small;have hbound:(0+l.length)*nb<=140737488355328:=by
   rw[aQ]
   calc l.length*nb<=68719476736*2048:=dE hb hsmall
    _=140737488355328:=by decide
  have hsz:(⟨l.toArray⟩:ByteArray).size=l.length:=zjZ l;have hmap:(Array.map (fun b:UInt8=>Value.int IntKind.u8 (b.toNat:Int)) (⟨l.toArray⟩:ByteArray).data)=(u8s l).toArray:=by simp[u8s]
  have hfst:(Builtin.firstCells 1 l.length (str l)).run P w = .ok (u8s l).toArray w:=by
   have hx:(⟨l.toArray⟩:ByteArray).extract 0 l.length=⟨l.toArray⟩:=by rw[zjG];simp
   simp only[Builtin.firstCells,hx,Sem.run_pure];rw[<-hmap]
  have hlen:(Builtin.lenOf (str l)).run P w = .ok l.length w:=by simp[Builtin.lenOf,hsz]
  by_cases hM:l.length=0
  ·have hn:l=[]:=aU hM;subst hn;have h5:=hlen;have h6:=hfst;simp only[aV]at h5 h6;exact⟨w,.slice (some a) 0 0,[],by simp[Builtin.append_,Go.underlying,hT.und,h2,sizeOf,typeInfo,hi1,hi3,h5,h6,storeCells,u8s],.inl ⟨rfl,rfl,rfl⟩⟩
  ·have hfit:=growslice_fits (bytes:=nb) (need:=0+l.length) (old:=0) (by omega) hbound;have hrun:=Lib.run_append_grow_string (P:=P) w T T2 ty E i z hT.und h2 hi1 hi2 a 0 0 [] (by simp) (fun j u hj=>by simp at hj) ⟨l.toArray⟩ (by rw[hsz];omega) (by rw[hsz];omega) (by rw[hi4,hsz];exact hfit);rw[hsz]at hrun;have hge:=grownCap_ge w (0+l.length) 0 E;generalize hG:grownCap w (0+l.length) 0 E=G at hrun hge;have hzl:∀n,(Builtin.zeroCells z.cells n).toList.length=n:=fun n=>by rw[zkM _ _ hT.cells,hT.len,bY]
   have hZl:=hzl (G-(0+l.length));generalize hZ:Builtin.zeroCells z.cells (G-(0+l.length))=Z at hrun hZl;have hsc:Lib.strCells ⟨l.toArray⟩=u8s l:=by simp[Lib.strCells,u8s]
   rw[hsc]at hrun;have hcells:([]:LV).toArray++(u8s l).toArray++Z=(u8s l++Z.toList).toArray:=by apply dS;simp
   rw[hcells]at hrun;refine⟨_,_,Z.toList,hrun,.inr ?_⟩;refine H.push (Ext.trans (Ext.drew w) (Ext.alloc w.drew _)) (.inr ⟨w.heap.size,G,(0,0),by rw[aQ],by omega,by rw[zaY,bY],?_,zaR w.drew _,.inl rfl⟩) fun b hb=>?_
   ·simp only[aE,hZl,zaY];omega
   ·cases hb;exact aJ _
theorem zrS{f:TI}{e:Ty}{T E':TypeId}(hT:P.underlying T=some (.slice E'))(hE:TIok P E' f)(hs:slOk f=true)(hz:f.sz=tsz e):TSn P T E' (zV f) (f.z.map zc) f.nb (tsz e):=by rw[<-hz];exact yaS hT hE hs
theorem HS.putAt{q:Res}{i:Nat}(H:HS B S w (q::rmR L i))(hi:i<L.length):HS B S w (stR L i q):=by
 have key:∀j s,lkR (stR L i q) j=some s->∃j',lkR (q::rmR L i) j'=some s/\((j=i/\j'=0)∨(j≠i/\j'=(if j<i then j else j-1)+1)):=fun j s h=>by
  by_cases hj:j=i
  ·subst hj;rw[zaX,zmC,aL hi]at h;exact⟨0,h,.inl ⟨rfl,rfl⟩⟩
  ·rw[zcK hj]at h;refine⟨_,?_,.inr ⟨hj,rfl⟩⟩;show lkR (rmR L i) _=some s;rw[zwX];by_cases h2:j<i
   ·rw[zH h2,zH h2];exact h
   ·rw[zG h2,zG (by omega),show j-1+1=j by omega];exact h
 refine⟨H.fr,H.sub,H.keep,fun j s h=>?_,fun j s b h hb=>?_,fun j j2 s s2 b h h2 hb hb2=>?_⟩
 ·obtain⟨j',h1,_⟩:=key j s h;exact H.own j' s h1
 ·obtain⟨j',h1,_⟩:=key j s h;exact H.old j' s b h1 hb
 ·obtain⟨j',h1,h3⟩:=key j s h;obtain⟨j2',h4,h5⟩:=key j2 s2 h2;have:=H.inj j' j2' s s2 b h1 h4 hb hb2;subst this;rcases h3 with⟨h3,h3'⟩|⟨h3,h3'⟩<;>rcases h5 with⟨h5,h5'⟩|⟨h5,h5'⟩
  ·omega
  ·omega
  ·omega
  ·split at h3'<;>split at h5'<;>omega
theorem zuH{x y:Operand}{T T' E':TypeId}{f:TI}{id ver:Nat}{e:Ty}{xs ys r':List (den e)}{sy:SV}(hτ:TEok P τ)(R:Rel n B S E L σ m w)(hT:P.underlying T=some (.slice E'))(hE:TIok P E' f)(hs:slOk f=true)(hz:f.sz=tsz e)(hx:VR S E (.own id ver) (evO n m x))(hy:VR S E sy (evO n m y))(hc:atN σ.hp id=some (.osl ver e E' xs))(hys:srcL τ σ.hp T T' e sy=some ys)(ha:app xs ys=some r') (h:k (.own id (ver+1)) ⟨σ.sl,setN σ.hp id (.osl (ver+1) e E' r')⟩=some r):outcome P (Post2F n B S E L [id] m k r) ((execOp (evO n m) ⟨dst,.call ⟨.builtin .append,#[x,y],#[T,T']⟩,ty,pos,aft,g⟩).run P w):=by
 obtain⟨r0,e0,h1,h2,v,v',cs,rs,rfl,rfl,h3,hsm⟩:=R.objN hc;obtain⟨h4,e1,h5,h6⟩:=hx;rw[h2]at h5;cases h5;have hv:=(h6 _ _ _ rfl).2 rfl;have hTn:=zrS hT hE hs hz;obtain⟨hb,hr⟩:=zcQ ha;have hid:id<E.length:=(aC.1 h2).1
 have fin:∀{w':World} {u:Value} {cs' rs':LV},(Builtin.append_ #[T,T'] ty #[evO n m x,evO n m y]).run P w = .ok u w'->HS B S w' (stR L id (.osl u r'.length (tsz e) cs' rs' E'))->RL S cs' r'->outcome P (Post2F n B S E L [id] m k r) ((execOp (evO n m) ⟨dst,.call ⟨.builtin .append,#[x,y],#[T,T']⟩,ty,pos,aft,g⟩).run P w):=fun {w' u cs' rs'} hrun H hl=>by
  rw[zmD hrun];have hone:u.oneCell'=true:=by have hlk:lkR (stR L id (.osl u r'.length (tsz e) cs' rs' E')) id=some (.osl u r'.length (tsz e) cs' rs' E'):=ziU h1;rcases H.own id _ hlk with⟨hv,_⟩|⟨_,_,_,hv,_⟩<;>rw[hv]<;>rfl
  refine⟨_,_,S,_,_,h,Mem.le_refl _,ELe.set h2 (.inr (.inr ⟨ver+1,u,rfl,by omega⟩)),R.upd h2 (.inr (.inr ⟨ver+1,u,rfl,by omega⟩)) (Mem.le_refl _) H ⟨u,u,cs',rs',rfl,rfl,hl,.inl rfl⟩,⟨hone,.osl (ver+1) u (tsz e),by rw[aL hid],fun r1 v1 s1 hq=>by cases hq;exact⟨aJ _,fun _=>rfl⟩⟩,fun j hj _=>zcK fun e=>ycL hj (by omega)⟩
 rcases src_ok hτ R hy hys with⟨rfl,ds,hl2,hw⟩|⟨hu2,l,he,hu,hys'⟩
 ·have hlen:r'.length=xs.length+ys.length:=by rw[<-hr,aE]
  rcases hsm with rfl|⟨rfl,h0,_,ad,rfl⟩
  ·obtain⟨w',u,rs',hrun,H⟩:=zqQ (ty:=ty) hTn R.hs h1 (hw w R.hs) hl2.one hb;refine fin (by rw[hv];exact hrun) (by rw[hlen];exact H) ?_;rw[<-hr];exact h3.append hl2
  ·have hx0:xs=[]:=aU h0;subst hx0;have hr':r'=ys:=by rw[<-hr];rfl
   subst hr';have hcs:cs=[]:=h3;subst hcs;obtain⟨w',u,rs',hrun,hcase⟩:=zrV (ty:=ty) (a:=ad) hTn (R.hs.rm id) (hw w R.hs) hl2.one (by simpa using hb);rcases hcase with⟨hM,rfl,rfl⟩|H
   ·have hr0:r'=[]:=aU hM;subst hr0;rw[zmD (by rw[hv];exact hrun)];refine⟨_,_,S,_,_,h,Mem.le_refl _,ELe.set h2 (.inr (.inr ⟨ver+1,.slice ad 0 0,rfl,by omega⟩)),R.upd (r':=.osl (.slice none 0 0) 0 (tsz e) [] rs E') h2 (.inr (.inr ⟨ver+1,.slice ad 0 0,rfl,by omega⟩)) (Mem.le_refl _) ?_ ⟨.slice none 0 0,.slice ad 0 0,[],rs,rfl,rfl,rfl,.inr ⟨rfl,rfl,by assumption,ad,rfl⟩⟩,⟨rfl,.osl (ver+1) (.slice ad 0 0) (tsz e),by rw[aL hid],fun r1 v1 s1 hq=>by cases hq;exact⟨aJ _,fun _=>rfl⟩⟩,fun j hj _=>zcK fun e=>ycL hj (by omega)⟩;have:stR L id (.osl (.slice none 0 0) 0 (tsz e) [] rs E')=L:=by
     rw[zmC];rw[zaX]at h1;apply aX;intro j;by_cases hj:id=j
     ·subst hj;rw[aL (aC.1 h1).1,h1];rfl
     ·rw[aM hj]
    rw[this];exact R.hs
   ·refine fin (by rw[hv];exact hrun) (HS.putAt H ?_) hl2;rw[zaX]at h1;exact(aC.1 h1).1
 ·subst he;have hys':ys=(show Bs from l):=hys';have hTn1:TSn P T E' (zV f) (f.z.map zc) f.nb 1:=hTn;have hlen:r'.length=xs.length+l.length:=by rw[<-hr,aE,hys'];rfl
  have hb:xs.length+l.length<=68719476736:=by rw[hys']at hb;exact hb
  rcases hsm with rfl|⟨rfl,h0,_,ad,rfl⟩
  ·have hrl:RL S (cs++u8s l) r':=by rw[<-hr,hys'];exact h3.append RL.u8s_of
   obtain⟨w',u,rs',hrun,H⟩:=zrJ (ty:=ty) (T2:=T') (l:=l) hTn1 hu2 R.hs h1 hb;refine fin (cs':=cs++u8s l) (rs':=rs') (by rw[hv,hu];exact hrun) (by rw[hlen];exact H) hrl
  ·have hx0:xs=[]:=aU h0;subst hx0;have hr':r'=(show Bs from l):=by rw[<-hr,hys'];rfl
   have hcs:cs=[]:=h3;subst hcs;obtain⟨w',u,rs',hrun,hcase⟩:=ygG (ty:=ty) (a:=ad) (T2:=T') (l:=l) hTn1 hu2 (R.hs.rm id) (by simpa using hb);rcases hcase with⟨rfl,rfl,rfl⟩|H
   ·rw[zmD (by rw[hv,hu];exact hrun)];subst hr';refine⟨_,_,S,_,_,h,Mem.le_refl _,ELe.set h2 (.inr (.inr ⟨ver+1,.slice ad 0 0,rfl,by omega⟩)),R.upd (r':=.osl (.slice none 0 0) 0 1 [] rs E') h2 (.inr (.inr ⟨ver+1,.slice ad 0 0,rfl,by omega⟩)) (Mem.le_refl _) ?_ ⟨.slice none 0 0,.slice ad 0 0,[],rs,rfl,rfl,rfl,.inr ⟨rfl,rfl,by assumption,ad,rfl⟩⟩,⟨rfl,.osl (ver+1) (.slice ad 0 0) 1,by rw[aL hid];rfl,fun r1 v1 s1 hq=>by cases hq;exact⟨aJ _,fun _=>rfl⟩⟩,fun j hj _=>zcK fun e=>ycL hj (by omega)⟩;have:stR L id (.osl (.slice none 0 0) 0 1 [] rs E')=L:=by
     rw[zmC];rw[zaX]at h1;apply aX;intro j;by_cases hj:id=j
     ·subst hj;rw[aL (aC.1 h1).1,h1];rfl
     ·rw[aM hj]
    rw[this];exact R.hs
   ·refine fin (cs':=u8s l) (rs':=rs') (by rw[hv,hu];exact hrun) (HS.putAt (by rw[hr'];exact H) ?_) (by rw[hr'];exact RL.u8s_of);rw[zaX]at h1;exact(aC.1 h1).1
theorem RelV.grow{V:Nat->Value}(R:RelV B S E L σ V w)(H:HS B S' w' L)(hS:Mem.le S S'):RelV B S' E L σ V w':=
 ⟨H,R.lL,R.lE,fun i o h=>by
  obtain⟨r,e,h1,h2,h3⟩:=R.obj i o h
  exact⟨r,e,h1,h2,h3.mono hS (ELe.refl E)⟩,fun t=>(R.sl t).mono hS (ELe.refl E)⟩
theorem RelV.run{V:Nat->Value}(R:RelV B S E L σ V w)(H:HS B S w' L):RelV B S E L σ V w':=R.grow H (Mem.le_refl S)
theorem yoV{x y:Operand}{T E':TypeId}{f:TI}{e:Ty}{xs ys r':List (den e)}{sy:SV}(_hτ:TEok P τ)(R:Rel n B S E L σ m w)(hT:P.underlying T=some (.slice E'))(hE:TIok P E' f)(hs:slOk f=true)(hz:f.sz=tsz e)(hx:VR S E (.cl e xs) (evO n m x))(hy:VR S E sy (evO n m y))(hys:zhC σ.hp (.sl e) sy=some ys)(ha:app xs ys=some r') (h:k (.v (.sl e) r') σ=some r):outcome P (Post2F n B S E L [] m k r) ((execOp (evO n m) ⟨dst,.call ⟨.builtin .append,#[x,y],#[T,T]⟩,ty,pos,aft,g⟩).run P w):=by
 have hTn:=zrS hT hE hs hz;obtain⟨hb,hr⟩:=zcQ ha;obtain⟨ds,hl2,hw⟩:=zsS R hy hys;have hw:=hw w R.hs;obtain⟨hrd,ad,hu⟩:=hx;have fin:∀{w':World} {u:Value} {S':Mem},(Builtin.append_ #[T,T] ty #[evO n m x,evO n m y]).run P w = .ok u w'->Mem.le S S'->HS B S' w' L->@RdS (den e) (rpD e) S' u r'->outcome P (Post2F n B S E L [] m k r) ((execOp (evO n m) ⟨dst,.call ⟨.builtin .append,#[x,y],#[T,T]⟩,ty,pos,aft,g⟩).run P w):=fun {w' u S'} hrun hS H hl=>by rw[zmD hrun];exact⟨_,_,S',E,L,h,hS,ELe.refl E,R.grow H hS,⟨u,rfl,hl⟩,fun _ _ _=>rfl⟩
 by_cases hM:ys.length=0
 ·have hy0:ys=[]:=aU hM;subst hy0;rw[cC]at hr;subst hr;have hrun:(Builtin.append_ #[T,T] ty #[evO n m x,evO n m y]).run P w = .ok (evO n m x) w:=by
   obtain⟨i,hi1,hi2,hi3,hi4⟩:=hTn.info;obtain⟨hf1,hf2⟩:=hw.first (P:=P);have hds:ds=[]:=aU (by rw[hl2.len];simp);subst hds;simp only[aV]at hf1 hf2;rw[hu];cases ad with
   |none=>simp[Builtin.append_,Go.underlying,hTn.und,sizeOf,typeInfo,hi1,hi3,hf1,hf2]|some a=>simp[Builtin.append_,Go.underlying,hTn.und,sizeOf,typeInfo,hi1,hi3,hf1,hf2,storeCells]
  exact fin hrun (Mem.le_refl S) R.hs hrd
 ·have hlen:r'.length=xs.length+ys.length:=by rw[<-hr,aE]
  obtain⟨cs,k1,k2⟩:=hrd;rcases k1 with⟨⟨a0,k1⟩,k3,k4⟩|⟨b',o,c,ds',T',fz,k1,k3,k4,k5,k6⟩
  ·have hx0:xs=[]:=aU k3;subst hx0;have hr':r'=ys:=by rw[<-hr];rfl
   subst hr';obtain⟨w',u,rs',hrun,hcase⟩:=zrV (ty:=ty) (a:=a0) hTn R.hs hw hl2.one (by simpa using hb);rcases hcase with⟨h0,_⟩|H
   ·exact absurd h0 hM
   ·obtain⟨S',hS,hrd',H'⟩:=HS.fixX (k:=0) H rfl hl2 (zgX e);exact fin (by rw[k1];exact hrun) hS H' hrd'
  ·have hc:c=xs.length:=by rw[hu]at k1;simp only[sl]at k1;injection k1 with e1 e2 e3;exact e3.symm
   subst hc;rcases hw with⟨_,h0,_⟩|⟨b2,o2,c2,cs2,T2,fz2,hv2,hc2,hb2,ho2,hp2⟩
   ·exact absurd h0 hM
   ·have hrs:Rp.sz (den e)=tsz e:=zgX e;rw[hrs]at k5 k6;have hncs:ds.length=ys.length*tsz e:=by rw[<-hp2];exact zfO ho2
    have holen:cs.length=xs.length*tsz e:=by rw[<-k6];exact zfO k5
    have hh:=R.hs.sub _ _ k4;have holds:∀j u,cs[j]? = some u->w.cell? ((⟨b',o,none⟩:Addr).add j)=some u:=fun j u hj=>by have hjl:=(aC.1 hj).1;rw[zbW,zdH hh];rw[<-k6,zaL,bK,zH (by omega),bB]at hj;exact hj
    have hnews:∀j u,ds[j]? = some u->w.cell? ((⟨b2,o2,none⟩:Addr).add j)=some u:=fun j u hj=>by have hjl:=(aC.1 hj).1;rw[zbW,zdH hb2];rw[<-hp2,zaL,bK,zH (by omega),bB]at hj;exact hj
    obtain⟨i,hi1,hi2,hi3,hi4⟩:=hTn.info;have hsmall:=hTn.small;have hbound:(xs.length+ys.length)*f.nb<=140737488355328:=by
     calc (xs.length+ys.length)*f.nb<=68719476736*2048:=dE hb hsmall
      _=140737488355328:=by decide
    have hfit:=growslice_fits (bytes:=f.nb) (need:=xs.length+ys.length) (old:=xs.length) (by omega) hbound;have hrun:=run_append_grow (P:=P) w T ty E' i (zV f) hTn.und hi1 hi2 ⟨b',o,none⟩ xs.length xs.length cs (by rw[hi3];exact holen) holds ⟨b2,o2,none⟩ ys.length c2 ds (by rw[hi3];exact hncs) hnews (by omega) (by omega) (by rw[hi4];exact hfit);have hge:=grownCap_ge w (xs.length+ys.length) xs.length E';generalize hG:grownCap w (xs.length+ys.length) xs.length E'=G at hrun hge;have hzl:∀n,(Builtin.zeroCells (zV f).cells n).toList.length=n*tsz e:=fun n=>by rw[zkM _ _ hTn.cells,hTn.len]
    have hZl:=hzl (G-(xs.length+ys.length));generalize hZ:Builtin.zeroCells (zV f).cells (G-(xs.length+ys.length))=Z at hrun hZl;have hcells:cs.toArray++ds.toArray++Z=((cs++ds)++Z.toList).toArray:=by apply dS;simp
    rw[hcells]at hrun;have H:HS B S (w.drew.alloc (.cells ((cs++ds)++Z.toList).toArray E')) (.osl (.slice (some ⟨w.heap.size,0,none⟩) (xs.length+ys.length) G) r'.length (tsz e) (cs++ds) Z.toList E'::L):=by
     refine R.hs.push (Ext.trans (Ext.drew w) (Ext.alloc w.drew _)) (.inr ⟨w.heap.size,G,(0,0),by rw[hlen],by omega,?_,?_,zaR w.drew _,.inl rfl⟩) fun b hb=>?_
     ·rw[aE,holen,hncs,hlen,bD]
     ·refine dW (Eq.symm ?_);simp only[aE,hZl,hncs,holen,<-bD];congr 1;omega
     ·cases hb;exact aJ _
    obtain⟨S',hS,hrd',H'⟩:=HS.fixX (k:=0) H rfl (by rw[<-hr];exact k2.append hl2) (zgX e);exact fin (by rw[k1,hv2];exact hrun) hS H' hrd'
theorem yrB(sz:Nat):∀(n k i:Nat),i<n->lkp ((cZ k n).map fun i=>(i*sz,sz)) i=some ((k+i)*sz,sz)
 |0,_,_,h=>by omega
 |n+1,k,0,_=>by simp[eK,lkp]
 |n+1,k,i+1,h=>by simp only[eK,bS,lkp];rw[yrB sz n (k+1) i (by omega),show k+1+i=k+(i+1) by omega]
theorem ysE:∀(pre l c:LV),lay (pre++l) pre.length c=pre++lay l 0 c
 |[],_,_=>rfl|x::pre,l,c=>by
  cases c with
  |nil=>cases l<;>rfl
  |cons y c=>simp only[bN,aN,lay];rw[ysE pre l (y::c)]
theorem ykE:∀(a c r:LV),a.length=c.length->lay (a++r) 0 c=c++r
 |[],[],r,_=>by cases r<;>rfl
 |[],_::_,_,h=>by simp at h
 |_::_,[],_,h=>by simp at h
 |x::a,y::c,r,h=>by simp only[bN,lay];rw[ykE a c r (by simpa using h)]
theorem ysS(R:Rel n B S E L σ m w){e:Ty}{sz:Nat}(hz:sz=tsz e):∀{ps:List (Nat×Operand)} {i:Nat} {ys:List (den e)} {pre:LV} {zl:LV} {N:Nat},bslL σ e i ps=some ys->pre.length=i*sz->zl.length=sz->i+ps.length=N->∃us,znA ((cZ 0 N).map fun i=>(i*sz,sz)) (pre++(aO ps.length zl).flatten) (zmB (evO n m) ps)=some (pre++us)/\RL S us ys/\ys.length=ps.length
 |[],i,ys,pre,zl,N,h,hp,hzl,hN=>by cases h;exact⟨[],by simp[zmB,znA],rfl,rfl⟩
 |(j,x)::ps,i,ys,pre,zl,N,h,hp,hzl,hN=>by
  unfold bslL at h;cases hb:aG i j with
  |false=>rw[hb]at h;cases h
  |true=>
   rw[hb]at h;have hij:=aB hb;subst hij;simp only[zE]at h;split at h
   ·rename_i sv hsv;split at h
    ·rename_i y ys' hy hys;cases h;have h1:=yaF (znL (Mem.le_refl S) zeH hy (zbM R hsv));have hcl:(evO n m x).cells.toList.length=sz:=by rw[(rpD e).len h1,zgX,hz]
     obtain⟨us,h2,h3,h4⟩:=ysS R hz (pre:=pre++(evO n m x).cells.toList) (i:=i+1) (zl:=zl) (N:=N) hys (by rw[aE,hp,hcl,bD,cR]) hzl (by simp only[aN]at hN;omega);refine⟨(evO n m x).cells.toList++us,?_,⟨_,_,rfl,h1,h3⟩,by simp[h4]⟩;have hlk:=yrB sz N 0 i (by simp only[aN]at hN;omega);rw[aQ]at hlk;have hfl:(aO (ps.length+1) zl).flatten=zl++(aO ps.length zl).flatten:=by rw[List.replicate_succ,List.flatten_cons]
     have hlay:lay (pre++(aO (ps.length+1) zl).flatten) (i*sz) (evO n m x).cells.toList=(pre++(evO n m x).cells.toList)++(aO ps.length zl).flatten:=by rw[<-hp,ysE,hfl,ykE _ _ _ (by rw[hzl,hcl]),bG]
     simp only[zmB,znA,hlk,aN];have hb1:aG (evO n m x).cells.toList.length sz=true:=by rw[hcl];exact dX sz
     have hb2:bM (i*sz+sz) (pre++(aO (ps.length+1) zl).flatten).length=true:=by rw[eV,aE,hfl,aE,hp,hzl];omega
     rw[hb1,hb2];simp only[Bool.and_self,zE];rw[hlay,h2,bG]
    ·cases h
   ·cases h
theorem ydN{T E':TypeId}{f:TI}{N:Nat}{ps:List (Nat×Operand)}{ys:List (den f.ty)}(R:Rel n B S E L σ m w)(hT:P.underlying T=some (.slice E'))(hE:TIok P E' f)(hs:slOk f=true)(hz:f.sz=tsz f.ty)(hN:N=ps.length)(hb:N*f.sz<=65536)(hy:bslL σ f.ty 0 ps=some ys) (h:k (.own σ.hp.length 0) ⟨σ.sl,σ.hp++[.osl 0 f.ty E' ys]⟩=some r):outcome P (Post2F n B S E L [] m k r) ((execOp (evO n m) ⟨dst,.buildSlice T N ps.toArray,ty,pos,aft,g⟩).run P w):=by subst hN;have hTn:=zrS hT hE hs hz;obtain⟨us,h1,h2,h3⟩:=ysS R hz (pre:=[]) (i:=0) (zl:=f.z.map zc) (N:=ps.length) hy (by simp) (by rw[bL,hE.zl]) (by simp);simp only[cF]at h1;rw[hz]at h1;obtain⟨w',v,hrun,H⟩:=zqG (dst:=dst) (ty:=ty) (pos:=pos) (aft:=aft) (g:=g) hTn R.hs rfl h1 (by rw[eV,<-hz];omega) (by rw[h2.len,h3];congr 1;exact zgX f.ty);rw[hrun];rw[<-h3]at H;exact zwK R H h2 h
theorem mr_new{K V:Ty}:MR S K V [] []:=⟨⟨[],.nil,.nil⟩,.nil,.nil⟩
theorem ymZ{T Kt Vt:TypeId}{a c:Ty}(R:Rel n B S E L σ m w)(h:k (.mpr σ.hp.length) ⟨σ.sl,σ.hp++[.mp 0 a c []]⟩=some r):outcome P (Post2 n B S E m k r) ((execOp (evO n m) ⟨dst,.makeMap T none,ty,pos,aft,g⟩).run P w):=by
 have hrun:(execOp (evO n m) ⟨dst,.makeMap T none,ty,pos,aft,g⟩).run P w = .ok (.value (.map (some w.heap.size))) (w.alloc (.map #[] 0)):=by simp[execOp,Instr.makeMap]
 rw[hrun];have H:HS B S (w.alloc (.map #[] 0)) (.obj w.heap.size (.map #[] 0)::L):=R.hs.push (Ext.alloc w _) (zaR w _) fun b hb=>by cases hb;exact aJ _
 exact⟨_,_,S,E++[.mp 0 w.heap.size 0 []],_,h,Mem.le_refl _,ELe.push E _,R.snoc (e:=.mp 0 w.heap.size 0 []) (o:=.mp 0 a c []) H ⟨w.heap.size,[],0,rfl,rfl,mr_new,fun en he=>by cases he⟩,
  ⟨rfl,.mp 0 w.heap.size 0 [],by rw[<-R.lE];simp,fun g b ck es hq=>by cases hq;rfl⟩⟩
theorem A2.mem_r{α γ:Type}{R:α->γ->Prop}:∀{l:List α} {m:List γ},A2 R l m->∀b∈m,∃a∈l,R a b
 |_,_,.nil,b,h=>by cases h
 |_,_,.cons a t,b,h=>by
  rcases aT.1 h with rfl|h
  ·exact⟨_,bC,a⟩
  ·obtain⟨x,h1,h2⟩:=A2.mem_r t b h;exact⟨x,aS _ h1,h2⟩
theorem yzV{T Kt Vt:TypeId}{kt:TI}{x:Operand}{id gn:Nat}{K V:Ty}{es:List (den K×den V)}(_hτ:TEok P τ)(R:Rel n B S E L σ m w)(hT:P.underlying T=some (.map Kt Vt))(hx:VR S E (.mpr id) (evO n m x))(hc:atN σ.hp id=some (.mp gn K V es))(hb:kTd τ kt.td K=true) (h:k (.ptr σ.hp.length 0) ⟨σ.sl,σ.hp++[.it id gn K none (es.map Prod.fst)]⟩=some r):outcome P (Post2 n B S E m k r) ((execOp (evO n m) ⟨dst,.range T x,ty,pos,aft,g⟩).run P w):=by
 have hK0:=kOk_of hb;obtain⟨r0,e0,g1,g2,bb,ents,ck,rfl,rfl,g3,g4⟩:=R.objN hc;obtain⟨_,e0,h8,h9⟩:=hx;rw[g2]at h8;cases h8;have hm:=h9 _ _ _ _ rfl;have hh:w.heap[bb]? = some (.map ents.toArray ck):=R.hs.own id _ g1;have hrun:(execOp (evO n m) ⟨dst,.range T x,ty,pos,aft,g⟩).run P w = .ok (.value (.pointer (some ⟨w.heap.size,0,none⟩))) (w.alloc (.mapIter (some bb) ck #[] ck)):=by simp only[execOp,hm,Sem.run_bind,run_range_map w T Kt Vt bb ents.toArray ck hT hh,Result.andThen_ok,Sem.run_pure]
 rw[hrun];have H:HS B S (w.alloc (.mapIter (some bb) ck #[] ck)) (.obj w.heap.size (.mapIter (some bb) ck #[] ck)::L):=R.hs.push (Ext.alloc w _) (zaR w _) fun b hb=>by cases hb;exact aJ _
 obtain⟨l,hl,hA⟩:=g3.perm
 refine⟨_,_,S,E++[.blk w.heap.size],_,h,Mem.le_refl _,ELe.push E _,R.snoc (e:=.blk w.heap.size) (o:=.it id gn K none (es.map Prod.fst)) H ⟨w.heap.size,bb,ck,#[],rfl,rfl,hK0,.mp gn bb ck ents,?_,fun g' b ck' es' he=>?_⟩,
  ⟨w.heap.size,rfl,.blk w.heap.size,by rw[<-R.lE];simp,fun b' hb'=>by cases hb';rfl⟩⟩
 ·rw[aF (aC.1 g2).1];exact g2
 ·cases he;refine⟨aJ _,fun _=>⟨rfl,rfl,fun en hen=>⟨⟨fun h=>by simp at h,fun h=>?_⟩,fun c hcc=>by cases hcc⟩⟩⟩;obtain⟨p,hp,hpe⟩:=A2.mem_r hA en hen;exact absurd (zsY hK0 hpe.1) (h p.1 (eH.2 ⟨p,hl.mem_iff.1 hp,rfl⟩))
section
variable {K V:Ty}
theorem yhN(hK:kOk K=true)(k:den K):∀n,Instr.sameBits (n+1) (kv K k) (kv K k)=true:=fun n=>by
 cases K with
 |i q=>simp[Instr.sameBits,kv]|s=>
  have key:∀l:Bs,((⟨l.toArray⟩:ByteArray)==⟨l.toArray⟩)=true:=fun l=>by rw[ba_eq];simp
  exact key k
 |pr a c=>
  cases a<;>cases c<;>first|(cases hK;done)|skip
  have key:∀l:Bs,((⟨l.toArray⟩:ByteArray)==⟨l.toArray⟩)=true:=fun l=>by rw[ba_eq];simp
  have k2:∀x y:Bs,Instr.sameBits (n+1) (.agg [str x,str y].toArray) (.agg [str x,str y].toArray)=true:=fun x y=>by simp[Instr.sameBits];exact⟨key x,key y⟩
  exact k2 (show Bs×Bs from k).1 (show Bs×Bs from k).2
 |_=>cases hK
theorem ynB{T Kt Vt:TypeId}{b ck:Nat}{ents:List MapEntry}{k:den K}{v:Value}{o:Option (Nat×Value)}(hu:P.underlying T=some (.map Kt Vt))(hK:KeyP P Kt K)(hh:w.heap[b]? = some (.map ents.toArray ck))(hf:∀w,(Instr.findKey Kt (kv K k) ents).run P w = .ok o w) (hkey:∀i u,o=some (i,u)->∃en,ents[i]? = some en/\en.key=kv K k):(Instr.mapUpdate T (.map (some b)) (kv K k) v).run P w = .ok () { w with heap:=w.heap.setIfInBounds b (match o with
    |some (i,_)=>.map (ents.toArray.modify i fun e=>{ e with key:=kv K k,val:=v }) ck|none=>.map (ents.toArray.push { key:=kv K k,val:=v,born:=ck }) (ck+1)) }:=by
 have hg:(getObj b).run P w = .ok (.map ents.toArray ck) w:=zqD hh;have hset:∀o':Obj,(setObj b o').run P w = .ok () { w with heap:=w.heap.setIfInBounds b o' }:=fun o'=>by simp[setObj,Sem.run,hh]
 have hc:=hK.ck false k w;have hff:=hf w;cases o with
 |none=>simp[Instr.mapUpdate,Go.underlying,hu,hg,hc,hff,hset]|some p=>
  obtain⟨i,u⟩:=p;obtain⟨en,h1,h2⟩:=hkey i u rfl;have hs:(Instr.keyThatStays (((ents.toArray[i]?).map (·.key)).getD (kv K k)) (kv K k)).run P w = .ok (kv K k) w:=by
   have:((ents.toArray[i]?).map (·.key)).getD (kv K k)=kv K k:=by simp[h1,h2]
   rw[this];unfold Instr.keyThatStays;rw[zH (yhN hK.ok k 9999)];simp
  have hs':(Instr.keyThatStays ((Option.map (fun x=>x.key) ents[i]?).getD (kv K k)) (kv K k)).run P w = .ok (kv K k) w:=by simpa using hs
  simp[Instr.mapUpdate,Go.underlying,hu,hg,hc,hff,hs',hset]
theorem ynH{T Kt Vt:TypeId}{b ck:Nat}{ents:List MapEntry}{k:den K}{o:Option (Nat×Value)}{T2:TypeId}(hu:P.underlying T=some (.map Kt Vt))(hK:KeyP P Kt K)(hh:w.heap[b]? = some (.map ents.toArray ck))(hf:∀w,(Instr.findKey Kt (kv K k) ents).run P w = .ok o w):(Builtin.delete_ #[T,T2] ty #[.map (some b),kv K k]).run P w = .ok (.tuple #[]) { w with heap:=w.heap.setIfInBounds b (match o with
    |some (i,_)=>.map (ents.toArray.eraseIdxIfInBounds i) ck|none=>.map ents.toArray ck) }:=by
 have hg:(getObj b).run P w = .ok (.map ents.toArray ck) w:=zqD hh;have hset:∀o':Obj,(setObj b o').run P w = .ok () { w with heap:=w.heap.setIfInBounds b o' }:=fun o'=>by simp[setObj,Sem.run,hh]
 have hc:=hK.ck ents.isEmpty k w;have hff:=hf w;cases o with
 |none=>simp[Builtin.delete_,Go.underlying,hu,hg,hc,hff,hset]|some p=>obtain⟨i,u⟩:=p;simp[Builtin.delete_,Go.underlying,hu,hg,hc,hff,hset]
variable {γ:Type}
theorem zuF(hK:kOk K=true){p q:den K×γ}(h:keq K p.1 q.1=false):keq K q.1 p.1=false:=(zkY hK).2 fun e=>(zkY hK).1 h e.symm
theorem ycT(hK:kOk K=true){k:den K}{v:γ}:∀{es:List (den K×γ)},es.Pairwise (fun p q=>keq K p.1 q.1=false)->mrep (keq K) es k v=es.map fun q=>bif keq K q.1 k then(k,v)else q
 |[],_=>rfl|q::es,h=>by
  obtain⟨h1,h2⟩:=dR.1 h;unfold mrep;cases hq:keq K q.1 k with
  |true=>
   have e:=(zhO hK).1 hq;simp only[zE,bS,hq];congr 1;symm
   conv=>rhs;rw[<-List.map_id es]
   refine iB fun p hp=>?_;have:=h1 p hp;rw[e]at this;rw[zuF (p:=(k,v)) (q:=p) hK this];rfl
  |false=>simp only[zF,bS,hq];rw[ycT hK h2]
theorem yvP(hK:kOk K=true){k:den K}{v:γ}:∀{l:List (den K×γ)} {j:Nat} {p:den K×γ},l.Pairwise (fun p q=>keq K p.1 q.1=false)->l[j]? = some p->p.1=k->l.set j (k,v)=l.map fun q=>bif keq K q.1 k then(k,v)else q
 |[],_,_,_,h,_=>by simp at h
 |q::l,0,p,h,hp,e=>by
  obtain⟨h1,h2⟩:=dR.1 h;simp at hp;subst hp;rw[List.set_cons_zero,bS,(zhO hK).2 e];congr 1;symm
  conv=>rhs;rw[<-List.map_id l]
  refine iB fun p hp=>?_;have:=h1 p hp;rw[e]at this;rw[zuF (p:=(k,v)) (q:=p) hK this];rfl
 |q::l,j+1,p,h,hp,e=>by
  obtain⟨h1,h2⟩:=dR.1 h;have hp':l[j]? = some p:=by simpa using hp
  rw[List.set_cons_succ,bS,yvP hK h2 hp' e];have:=h1 p (bJ hp');rw[e]at this;rw[this];rfl
theorem A2.set{α δ:Type}{R:α->δ->Prop}{a:α}{b:δ}(h:R a b):∀{l:List α} {m:List δ} (j:Nat),A2 R l m->A2 R (l.set j a) (m.set j b)
 |_,_,_,.nil=>.nil|_,_,0,.cons _ t=>.cons h t|_,_,j+1,.cons x t=>.cons x (A2.set h j t)
theorem A2.erase{α δ:Type}{R:α->δ->Prop}:∀{l:List α} {m:List δ} (j:Nat),A2 R l m->A2 R (l.eraseIdx j) (m.eraseIdx j)
 |_,_,_,.nil=>.nil|_,_,0,.cons _ t=>t|_,_,j+1,.cons x t=>.cons x (A2.erase j t)
theorem zyQ(lt:den K->den K->Bool)(k:den K)(v:γ):∀es:List (den K×γ),(mins lt es k v).Perm ((k,v)::es)
 |[]=>.refl _|q::es=>by
  unfold mins;cases lt q.1 k with
  |true=>exact((zyQ lt k v es).cons q).trans (.swap _ _ _)|false=>exact .refl _
theorem yfB(hK:kOk K=true){k:den K}:∀{es:List (den K×γ)},mhas (keq K) es k=false->mdel (keq K) es k=es
 |[],_=>rfl|q::es,h=>by unfold mhas at h;rw[Bool.or_eq_false_iff]at h;unfold mdel;rw[h.1,zF,yfB hK h.2]
theorem yfG(hK:kOk K=true){k:den K}:∀{es:List (den K×γ)} {p:den K×γ},es.Pairwise (fun p q=>keq K p.1 q.1=false)->p∈es->p.1=k->(p::mdel (keq K) es k).Perm es
 |[],_,_,h,_=>by cases h
 |q::es,p,h,hp,e=>by
  obtain⟨h1,h2⟩:=dR.1 h;unfold mdel;rcases aT.1 hp with rfl|hp
  ·rw[(zhO hK).2 e];exact .refl _
  ·have:=h1 p hp;rw[e]at this;rw[this];exact(List.Perm.swap _ _ _).trans ((yfG hK h2 hp e).cons q)
theorem yjB:∀{es:List (den K×γ)} {k:den K},(mdel (keq K) es k).Sublist es
 |[],_=>.slnil|q::es,k=>by
  unfold mdel;cases keq K q.1 k with
  |true=>exact .cons _ (List.Sublist.refl _)|false=>exact .cons_cons _ yjB
theorem zzX{α:Type}:∀{l:List α} {j:Nat} {p:α},l[j]? = some p->(p::l.eraseIdx j).Perm l
 |[],_,_,h=>by simp at h
 |x::l,0,p,h=>by simp at h;subst h;exact .refl _
 |x::l,j+1,p,h=>(List.Perm.swap _ _ _).trans ((zzX (by simpa using h)).cons x)
theorem MR.rep(hK:kOk K=true){es l:List (den K×den V)}{ents:List MapEntry}{k:den K}{v:den V}{u:Value}{j:Nat}{p:den K×den V}{en:MapEntry}(hl:l.Perm es)(hA:A2 (fun p en=>rep1 K S en.key p.1/\rep1 V S en.val p.2) l ents)(hne:es.Pairwise fun p q=>keq K p.1 q.1=false)(hnd:(ents.map (·.born)).Nodup) (h1:l[j]? = some p) (h2:ents[j]? = some en) (h3:p.1=k) (hv:rep1 V S u v):MR S K V (mrep (keq K) es k v) (ents.set j { en with key:=kv K k,val:=u })/\Fewer ents (ents.set j { en with key:=kv K k,val:=u }):=by
 have hln:l.Pairwise fun p q=>keq K p.1 q.1=false:=(hl.pairwise_iff fun {a b} h=>zuF hK h).2 hne;refine⟨⟨⟨l.set j (k,v),?_,hA.set ⟨of_kv hK,hv⟩ j⟩,?_,?_⟩,fun en' he=>?_⟩
 ·rw[yvP hK hln h1 h3,ycT hK hne];exact hl.map _
 ·rw[ycT hK hne,List.pairwise_map];refine hne.imp fun {a b} h=>?_
  have key:∀q:den K×den V,(bif keq K q.1 k then(k,v)else q).1=q.1:=fun q=>by
   cases hq:keq K q.1 k with
   |true=>exact((zhO hK).1 hq).symm|false=>rfl
  rw[key,key];exact h
 ·rw[List.map_set];have:(ents.map (·.born)).set j en.born=ents.map (·.born):=by
   apply aX;intro i;by_cases hij:j=i
   ·subst hij;have hlt:=(aC.1 h2).1;rw[aL (by simpa using hlt),bI,h2];rfl
   ·rw[aM hij]
  rw[this];exact hnd
 ·rcases List.mem_or_eq_of_mem_set he with he|rfl
  ·exact⟨en',he,rfl,rfl⟩
  ·obtain⟨en2,h4,h5⟩:=hA.at (n:=j) (a:=p) (by rw[zcT];exact h1);rw[h2]at h4;cases h4;exact⟨en,bJ h2,by rw[zsY hK h5.1,h3],rfl⟩
end
theorem HS.setMap{id b ck ck':Nat}{ents ents':List MapEntry}(H:HS B S w L)(hk:lkR L id=some (.obj b (.map ents.toArray ck))):HS B S { w with heap:=w.heap.setIfInBounds b (.map ents'.toArray ck') } (stR L id (.obj b (.map ents'.toArray ck'))):=by
 have hb:=H.own id _ hk;have hlt:b<w.heap.size:=lt_of_heap hb;refine H.upd hk (by simp) rfl rfl rfl (fun i hi hne=>?_) ?_ fun b' hb'=>.inl hb'
 ·have:i≠b:=fun e=>hne (by rw[e];rfl);simp[Ne.symm this]
 ·show(w.heap.setIfInBounds b _)[b]? = _;simp[hlt]
theorem zdJ{R1 R2:Value->World->Prop}{x:Result Next}(h:outcome P R1 x)(hR:∀v w,R1 v w->R2 v w):outcome P R2 x:=by
 cases x with
 |ok nx w=>
  cases nx with
  |value v=>exact hR _ _ h|skip=>exact hR _ _ h|enter f args=>refine Calls.mono (show Calls P f args w _ from h) fun e w' hp=>?_;cases e<;>first|exact hR _ w' hp|exact hp
  |row row args=>exact Rows.mono h hR|_=>exact h
 |halt=>exact h
theorem yfL{T Kt Vt:TypeId}{kt:TI}{a b c:Operand}{id gn:Nat}{K V:Ty}{es:List (den K×den V)}{xk xv:SV}{key:den K}{v:den V}{keep:Bool}(hτ:TEok P τ)(R:Rel n B S E L σ m w)(hT:P.underlying T=some (.map Kt Vt))(hk:tyAt τ Kt=some kt)(hx:VR S E (.mpr id) (evO n m a))(hy:VR S E xk (evO n m b))(hz:VR S E xv (evO n m c))(hc:atN σ.hp id=some (.mp gn K V es)) (hkey:ofSV [] K xk=some key) (hv:ofSV [] V xv=some v) (hb:kTd τ kt.td K=true) (h:(bif keep then Option.bind (chk (mhas (keq K) es key)) fun _=>k .undef ⟨σ.sl,setN σ.hp id (.mp gn K V (mrep (keq K) es key v))⟩
   else k .undef ⟨σ.sl,setN σ.hp id (.mp (gn+1) K V (mset (keq K) (klt K) es key v))⟩)=some r):
  outcome P (Post2 n B S E m k r) ((execOp (evO n m) ⟨dst,.mapUpdate T a b c,ty,pos,aft,g⟩).run P w):=by
 have hK:=ygK hτ hk hb;have hK0:=hK.ok;obtain⟨r0,e0,g1,g2,bb,ents,ck,rfl,rfl,g3,g4⟩:=R.objN hc;obtain⟨_,e0,h8,h9⟩:=hx;rw[g2]at h8;cases h8;have hm:=h9 _ _ _ _ rfl;have hkv:evO n m b=kv K key:=zsY hK0 (znL (Mem.le_refl S) zeH hkey hy);have hvv:rep1 V S (evO n m c) v:=znL (Mem.le_refl S) zeH hv hz;obtain⟨l,hl,hA⟩:=g3.perm;obtain⟨o,hf,hfd⟩:=find_ok hK key hA;obtain⟨h5,_⟩:=MR.fnd hK0 hl g3.ne hA hfd (evO n m c) v hvv;have hh:=R.hs.own id _ g1
 have hrun:=ynB (v:=evO n m c) hT hK hh hf (fun i u ho=>by
  subst ho;cases hfd with
  | @yes j p en q1 q2 q3=>
   simp only[aQ];obtain⟨en',q4,q5⟩:=hA.at (n:=j) (a:=p) (by rw[zcT];exact q1);rw[q2]at q4;cases q4
   exact⟨en,q2,by rw[zsY hK0 q5.1,q3]⟩)
 have fin:∀{g' ck':Nat} {ents':List MapEntry} {es':List (den K×den V)},(Instr.mapUpdate T (.map (some bb)) (kv K key) (evO n m c)).run P w = .ok () { w with heap:=w.heap.setIfInBounds bb (.map ents'.toArray ck') }->MR S K V es' ents'->(∀en∈ents',en.born<ck')->(EI.mp gn bb ck ents).le (.mp g' bb ck' ents')->k .undef ⟨σ.sl,setN σ.hp id (.mp g' K V es')⟩=some r->outcome P (Post2 n B S E m k r) ((execOp (evO n m) ⟨dst,.mapUpdate T a b c,ty,pos,aft,g⟩).run P w):=fun {g' ck' ents' es'} hr hMR hbn hle hk'=>by
  have hr':(execOp (evO n m) ⟨dst,.mapUpdate T a b c,ty,pos,aft,g⟩).run P w = .ok .skip { w with heap:=w.heap.setIfInBounds bb (.map ents'.toArray ck') }:=by simp[execOp,hm,hkv,hr]
  rw[hr'];exact⟨.undef,_,S,_,_,hk',Mem.le_refl _,ELe.set g2 hle,R.upd g2 hle (Mem.le_refl _) (HS.setMap R.hs g1) ⟨bb,ents',ck',rfl,rfl,hMR,hbn⟩,trivial⟩
 cases hfd with
 |no hno=>
  have hh0:mhas (keq K) es key=false:=h5;cases keep with
  |true=>obtain⟨_,hck,_⟩:=bnd h;rw[hh0]at hck;cases hck
  |false=>
   have h:k .undef ⟨σ.sl,setN σ.hp id (.mp (gn+1) K V (mset (keq K) (klt K) es key v))⟩=some r:=h;have hms:mset (keq K) (klt K) es key v=mins (klt K) es key v:=by unfold mset;rw[hh0];rfl
   rw[hms]at h;have hnk:∀q∈es,keq K q.1 key=false:=fun q hq=>(zkY hK0).2 (hno q (hl.mem_iff.2 hq));refine fin (ck':=ck+1) (ents':=ents++[{ key:=kv K key,val:=evO n m c,born:=ck }]) (by rw[hrun];simp) ⟨⟨l++[(key,v)],?_,hA.app (.cons ⟨of_kv hK0,hvv⟩ .nil)⟩,?_,?_⟩ (fun en he=>?_) (.inr ⟨_,_,_,rfl,.inl (by omega)⟩) h
   ·exact(List.perm_append_singleton (key,v) l).trans ((hl.cons _).trans (zyQ _ _ _ _).symm)
   ·refine((zyQ (klt K) key v es).pairwise_iff fun {a b} h=>zuF hK0 h).2 ?_;exact dR.2 ⟨fun q hq=>zuF (p:=q) (q:=(key,v)) hK0 (hnk q hq),g3.ne⟩
   ·rw[List.map_append,List.nodup_append];refine⟨g3.nd,by simp,fun x hx y hy=>?_⟩;obtain⟨en,he,rfl⟩:=eH.1 hx;have:=g4 en he;simp at hy;subst hy;exact Nat.ne_of_lt this
   ·rcases List.mem_append.1 he with he|he
    ·exact Nat.lt_succ_of_lt (g4 en he)
    ·simp at he;subst he;exact Nat.lt_succ_self ck
 | @yes j p en q1 q2 q3=>
  have hh1:mhas (keq K) es key=true:=h5;simp only[aQ]at hrun;obtain⟨hMR,hFew⟩:=MR.rep hK0 hl hA g3.ne g3.nd q1 q2 q3 hvv;have hrun':(Instr.mapUpdate T (.map (some bb)) (kv K key) (evO n m c)).run P w = .ok () { w with heap:=w.heap.setIfInBounds bb (.map (ents.set j { en with key:=kv K key,val:=evO n m c }).toArray ck) }:=by
   rw[hrun];congr 3
   have:ents.toArray.modify j (fun e=>{ e with key:=kv K key,val:=evO n m c })=(ents.set j { en with key:=kv K key,val:=evO n m c }).toArray:=by
    apply dS;apply aX;intro i;simp only[Array.toList_modify];rw[List.getElem?_modify,List.getElem?_set];by_cases hij:j=i
    ·subst hij;simp[q2];have:=(aC.1 q2).1;omega
    ·simp[hij]
   rw[this]
  have hbn:∀en'∈ents.set j { en with key:=kv K key,val:=evO n m c },en'.born<ck:=fun en' he=>by obtain⟨e2,k1,_,k2⟩:=hFew en' he;rw[<-k2];exact g4 e2 k1
  cases keep with
  |true=>obtain⟨_,_,h⟩:=bnd h;exact fin hrun' hMR hbn (.inr ⟨_,_,_,rfl,.inr ⟨rfl,rfl,hFew⟩⟩) h
  |false=>
   have h:k .undef ⟨σ.sl,setN σ.hp id (.mp (gn+1) K V (mset (keq K) (klt K) es key v))⟩=some r:=h;have hms:mset (keq K) (klt K) es key v=mrep (keq K) es key v:=by unfold mset;rw[hh1];rfl
   rw[hms]at h;exact fin hrun' hMR hbn (.inr ⟨_,_,_,rfl,.inl (by omega)⟩) h
theorem yqZ{T T2 Kt Vt:TypeId}{kt:TI}{a b:Operand}{id gn:Nat}{K V:Ty}{es:List (den K×den V)}{xk:SV}{key:den K}(hτ:TEok P τ)(R:Rel n B S E L σ m w)(hT:P.underlying T=some (.map Kt Vt))(hk:tyAt τ Kt=some kt)(hx:VR S E (.mpr id) (evO n m a))(hy:VR S E xk (evO n m b))(hc:atN σ.hp id=some (.mp gn K V es)) (hkey:ofSV [] K xk=some key) (hb:kTd τ kt.td K=true) (h:k (.tup []) ⟨σ.sl,setN σ.hp id (.mp gn K V (mdel (keq K) es key))⟩=some r):
  outcome P (Post2 n B S E m k r) ((execOp (evO n m) ⟨dst,.call ⟨.builtin .delete,#[a,b],#[T,T2]⟩,ty,pos,aft,g⟩).run P w):=by
 have hK:=ygK hτ hk hb;have hK0:=hK.ok;obtain⟨r0,e0,g1,g2,bb,ents,ck,rfl,rfl,g3,g4⟩:=R.objN hc;obtain⟨_,e0,h8,h9⟩:=hx;rw[g2]at h8;cases h8;have hm:=h9 _ _ _ _ rfl;have hkv:evO n m b=kv K key:=zsY hK0 (znL (Mem.le_refl S) zeH hkey hy);obtain⟨l,hl,hA⟩:=g3.perm;obtain⟨o,hf,hfd⟩:=find_ok hK key hA;have hh:=R.hs.own id _ g1;have hrun:=ynH (ty:=ty) (T2:=T2) hT hK hh hf
 have fin:∀{ents':List MapEntry} {es':List (den K×den V)},(Builtin.delete_ #[T,T2] ty #[.map (some bb),kv K key]).run P w = .ok (.tuple #[]) { w with heap:=w.heap.setIfInBounds bb (.map ents'.toArray ck) }->MR S K V es' ents'->Fewer ents ents'->k (.tup []) ⟨σ.sl,setN σ.hp id (.mp gn K V es')⟩=some r->outcome P (Post2 n B S E m k r) ((execOp (evO n m) ⟨dst,.call ⟨.builtin .delete,#[a,b],#[T,T2]⟩,ty,pos,aft,g⟩).run P w):=fun {ents' es'} hr hMR hF hk'=>by
  have hr':(execOp (evO n m) ⟨dst,.call ⟨.builtin .delete,#[a,b],#[T,T2]⟩,ty,pos,aft,g⟩).run P w = .ok (.value (.tuple #[])) { w with heap:=w.heap.setIfInBounds bb (.map ents'.toArray ck) }:=by simp[execOp,resolve,invoke,builtin,hm,hkv,hr]
  rw[hr'];have hle:(EI.mp gn bb ck ents).le (.mp gn bb ck ents'):=.inr ⟨_,_,_,rfl,.inr ⟨rfl,rfl,hF⟩⟩;exact⟨.tup [],_,S,_,_,hk',Mem.le_refl _,ELe.set g2 hle,R.upd g2 hle (Mem.le_refl _) (HS.setMap R.hs g1) ⟨bb,ents',ck,rfl,rfl,hMR,fun en he=>by obtain⟨e2,k1,_,k2⟩:=hF en he;rw[<-k2];exact g4 e2 k1⟩,⟨[],rfl,.nil⟩⟩
 cases hfd with
 |no hno=>
  have hh0:mhas (keq K) es key=false:=by rw[<-Bool.not_eq_true,zvZ hK0];rintro⟨p,hp,e⟩;exact hno p (hl.mem_iff.2 hp) e
  rw[yfB hK0 hh0]at h;exact fin hrun g3 (Fewer.refl _) h
 | @yes j p en q1 q2 q3=>
  simp only[aQ]at hrun;have hpe:p∈es:=hl.mem_iff.1 (bJ q1);refine fin (ents':=ents.eraseIdx j) ?_ ⟨⟨l.eraseIdx j,?_,hA.erase j⟩,?_,?_⟩ (fun en' he=>⟨en',(iZ ents j).subset he,rfl,rfl⟩) h
  ·rw[hrun];have hlt:=(aC.1 q2).1;congr 3;simp[Array.eraseIdxIfInBounds,hlt]
  ·exact(List.perm_cons p).1 ((zzX q1).trans (hl.trans (yfG hK0 g3.ne hpe q3).symm))
  ·exact g3.ne.sublist yjB
  ·exact g3.nd.sublist ((iZ ents j).map _)
theorem yhV{T E:TypeId}{z v2:Value}{zl ncs ps cs rs:LV}{nb sz n M p b q c c' k ty:Nat}(hT:TSn P T E z zl nb sz)(H:HS B S w L)(hk:lkR L k=some (.osl (sl b 0 (p+n) c) (p+n) sz (ps++cs) rs E))(hps:ps.length=p*sz)(hn:n<=c')(hq:(q=p*sz/\c=p+c')∨c'=0)(hr:SlW w v2 M sz ncs)(h1:∀u∈ncs,u.oneCell'=true)(hb:n+M<=68719476736):∃w' b2 q2 c2,(Builtin.append_ #[T,T] ty #[sl b q n c',v2]).run P w = .ok (sl b2 q2 (n+M) c2) w'/\n+M<=c2/\∃p2 c3 ps2 rs2,HS B S w' (stR L k (.osl (sl b2 0 (p2+(n+M)) c3) (p2+(n+M)) sz (ps2++(cs++ncs)) rs2 E))/\ps2.length=p2*sz/\((q2=p2*sz/\c3=p2+c2)∨c2=0):=by
 obtain⟨i,hi1,hi2,hi3,hi4⟩:=hT.info;have hpos:=hT.pos;have hsmall:=hT.small;have hbound:(n+M)*nb<=140737488355328:=by
  calc (n+M)*nb<=68719476736*2048:=dE hb hsmall
   _=140737488355328:=by decide
 obtain⟨hf1,hf2⟩:=hr.first (P:=P);have hncs:=hr.len;have hzl:∀n,(Builtin.zeroCells z.cells n).toList.length=n*sz:=fun n=>by rw[zkM _ _ hT.cells,hT.len]
 rcases H.own k _ hk with⟨h,_⟩|⟨b0,c0,fz,hv,g1,g2,g3,g4,g5⟩
 ·cases h
 ·injection hv with e1 e2 e3;injection e1 with e1;injection e1 with e1 _ _;subst e1;subst e3;have hcl:cs.length=n*sz:=by rw[aE,hps,bD]at g2;omega
  by_cases hroom:n+M<=c'
  ·by_cases hc0:c'=0
   ·obtain rfl:M=0:=by omega
    obtain rfl:n=0:=by omega
    have hn0:ncs=[]:=aU (by omega);subst hn0;refine⟨w,b,q,c',?_,hroom,p,c,ps,rs,?_,hps,.inr hc0⟩
    ·simp[Builtin.append_,Go.underlying,hT.und,sizeOf,typeInfo,hi1,hi3,hf1,hf2,sl,hc0,storeCells]
    ·rw[cC,aQ];refine H.upd hk (aJ _) rfl rfl rfl (fun _ _ _=>rfl) (.inr ⟨b,c,fz,rfl,g1,g2,g3,g4,g5⟩) fun b' hb'=>.inl hb'
   ·obtain⟨rfl,rfl⟩:q=p*sz/\c=p+c':=by
     rcases hq with hq|hq
     ·exact hq
     ·exact absurd hq hc0
    have hcap:p*sz+(n*sz+M*sz)<=(p+c')*sz:=by rw[<-bD,<-bD];exact cE sz (by omega)
    obtain⟨w',he,hb',hs,q4,q5,q6,q7⟩:=zdY (P:=P) (b:=b) (o:=p*sz+n*sz) ncs 0 w (ps++cs++rs) h1 g4 g5 (by omega);have hlay:lay (ps++cs++rs) (p*sz+n*sz+0) ncs=ps++(cs++ncs)++rs.drop ncs.length:=by
     have g3':=g3;rw[aE]at g3';have hpc:(ps++cs).length=p*sz+n*sz:=by rw[aE,hps,hcl]
     rw[cQ,<-hpc,<-bG ps cs ncs];generalize ps++cs=A at hpc g3' ⊢;apply aX;intro j;rw[zcY,bG A ncs];by_cases hj:j<A.length
     ·rw[zG (by omega),aF (by omega),aF (by omega)]
     ·by_cases hj2:j<A.length+ncs.length
      ·rw[zH ⟨by omega,hj2,by simp only[aE]at g3' hpc hj hj2 ⊢;omega⟩,aH (by omega),aF (by omega)]
      ·rw[zG (by omega),aH (by omega),aH (by omega),aH (by omega),bB];congr 1;omega
    rw[hlay]at hb';have hll:(ps++(cs++ncs)++rs.drop ncs.length).length=(ps++cs++rs).length:=by rw[aE]at g3;simp only[aE,bO]at g3 ⊢;omega
    refine⟨w',b,p*sz,c',?_,hroom,p,p+c',ps,rs.drop ncs.length,?_,hps,.inl ⟨rfl,rfl⟩⟩
    ·simp[Builtin.append_,Go.underlying,hT.und,sizeOf,typeInfo,hi1,hi3,hf1,hf2,hroom,sl,zbW,he]
    ·refine H.upd hk (by omega) q4 q5 q6 (fun j _ hne=>q7 j fun e=>hne (by rw[e];rfl)) (.inr ⟨b,p+c',fz,rfl,by omega,?_,by rw[hll];exact g3,hb',by rw[hll];exact g5⟩) fun b' hb'=>.inl hb';rw[aE,aE,hps,hcl,hncs];simp only[bD]
  ·rcases hr with⟨_,h,_⟩|⟨b2,o2,c2,cs2,T2,fz2,rfl,hc2,hb2,ho2,hp2⟩
   ·omega
   ·have hnews:∀j u,ncs[j]? = some u->w.cell? ((⟨b2,o2,none⟩:Addr).add j)=some u:=fun j u hj=>by have hjl:=(aC.1 hj).1;rw[zbW,zdH hb2];rw[<-hp2,zaL,bK,zH (by omega),bB]at hj;exact hj
    have holds:∀j u,cs[j]? = some u->w.cell? ((⟨b,q,none⟩:Addr).add j)=some u:=fun j u hj=>by
     have hjl:=(aC.1 hj).1;have hn0:n≠0:=fun e=>by rw[e,eI]at hcl;omega
     obtain⟨rfl,rfl⟩:q=p*sz/\c=p+c':=by
      rcases hq with hq|hq
      ·exact hq
      ·omega
     rw[zbW,zdH g4,bG,<-hps,aH (by omega),Nat.add_sub_cancel_left,aF hjl];exact hj
    have hfit:=growslice_fits (bytes:=nb) (dU hroom) hbound;have hrun:=run_append_grow (P:=P) w T ty E i z hT.und hi1 hi2 ⟨b,q,none⟩ n c' cs (by rw[hi3];exact hcl) holds ⟨b2,o2,none⟩ M c2 ncs (by rw[hi3];exact hncs) hnews (dU hroom) (by omega) (by rw[hi4];exact hfit);have hge:=grownCap_ge w (n+M) c' E;generalize hG:grownCap w (n+M) c' E=G at hrun hge;have hZl:=hzl (G-(n+M));generalize hZ:Builtin.zeroCells z.cells (G-(n+M))=Z at hrun hZl;have hcells:cs.toArray++ncs.toArray++Z=(cs++ncs++Z.toList).toArray:=by apply dS;simp
    rw[hcells]at hrun;refine⟨_,w.heap.size,0,G,hrun,hge,0,G,[],Z.toList,?_,by simp,.inl ⟨by rw[eI],by rw[aQ]⟩⟩;rw[aQ,cF];refine H.upd hk (by simp) rfl rfl rfl (fun j hj _=>?_) (.inr ⟨w.heap.size,G,(0,0),rfl,hge,?_,?_,?_,.inl rfl⟩) fun b hb=>?_
    ·exact(Ext.trans (Ext.drew w) (Ext.alloc w.drew _)).block j hj
    ·rw[aE,hcl,hncs,bD]
    ·refine dW (Eq.symm ?_);simp only[aE,hZl,hcl,hncs,<-bD];congr 1;omega
    ·exact zaR w.drew _
    ·cases hb;exact .inr (aJ _)
theorem yoB{x y:Operand}{T E':TypeId}{f:TI}{id ver:Nat}{e:Ty}{xs ys r':List (den e)}{sy:SV}(R:Rel n B S E L σ m w)(hT:P.underlying T=some (.slice E'))(hE:TIok P E' f)(hs:slOk f=true)(hz:f.sz=tsz e)(hx:VR S E (.own id ver) (evO n m x))(hy:VR S E sy (evO n m y))(hc:atN σ.hp id=some (.qu ver e E' xs))(hys:zhC σ.hp (.sl e) sy=some ys)(ha:app xs ys=some r') (h:k (.own id (ver+1)) ⟨σ.sl,setN σ.hp id (.qu (ver+1) e E' r')⟩=some r):outcome P (Post2F n B S E L [id] m k r) ((execOp (evO n m) ⟨dst,.call ⟨.builtin .append,#[x,y],#[T,T]⟩,ty,pos,aft,g⟩).run P w):=by
 obtain⟨r0,e0,h1,h2,b,c,p,ps,cs,rs,q,c',rfl,rfl,g1,g2,g3,g4⟩:=R.objN hc;obtain⟨h4,e1,h5,h6⟩:=hx;rw[h2]at h5;cases h5;have hv:=(h6 _ _ _ rfl).2 rfl;have hTn:=zrS hT hE hs hz;obtain⟨hb,hr⟩:=zcQ ha;have hid:id<E.length:=(aC.1 h2).1;obtain⟨ds,hl2,hw⟩:=zsS R hy hys;have hlen:r'.length=xs.length+ys.length:=by rw[<-hr,aE]
 obtain⟨w',b2,q2,c2,hrun,k1,p2,c3,ps2,rs2,H,k2,k3⟩:=yhV (ty:=ty) hTn R.hs h1 g1 g3 g4 (hw w R.hs) hl2.one hb;rw[zmD (by rw[hv];exact hrun)];rw[<-hlen]at H k1 hrun ⊢;refine⟨_,_,S,_,_,h,Mem.le_refl _,ELe.set h2 (.inr (.inr ⟨ver+1,sl b2 q2 r'.length c2,rfl,by omega⟩)),R.upd h2 (.inr (.inr ⟨ver+1,sl b2 q2 r'.length c2,rfl,by omega⟩)) (Mem.le_refl _) H ⟨b2,c3,p2,ps2,cs++ds,rs2,q2,c2,rfl,rfl,k2,?_,k1,k3⟩,⟨rfl,.osl (ver+1) (sl b2 q2 r'.length c2) (tsz e),by rw[aL hid],fun r1 v1 s1 hq=>by cases hq;exact⟨aJ _,fun _=>rfl⟩⟩,fun j hj _=>zcK fun e=>ycL hj (by omega)⟩;rw[<-hr];exact g2.append hl2
theorem ywQ{x lo:Operand}{E' E2:TypeId}{f:TI}{id ver:Nat}{a:Int}{q0:IntKind}{e:Ty}{xs r':List (den e)}(R:Rel n B S E L σ m w)(hT:P.underlying T=some (.slice E'))(hE:TIok P E' f)(hz:f.sz=tsz e)(hx:VR S E (.own id ver) (evO n m x))(hlo:evO n m lo = .int q0 a)(hc:atN σ.hp id=some (.qu ver e E2 xs))(ha:subL xs a=some r') (h:k (.own id (ver+1)) ⟨σ.sl,setN σ.hp id (.qu (ver+1) e E2 r')⟩=some r):outcome P (Post2 n B S E m k r) ((execOp (evO n m) ⟨dst,.slice T x (some lo) none none,ty,pos,aft,g⟩).run P w):=by
 obtain⟨r0,e0,h1,h2,b,c,p,ps,cs,rs,q,c',rfl,rfl,g1,g2,g3,g4⟩:=R.objN hc;obtain⟨h4,e1,h5,h6⟩:=hx;rw[h2]at h5;cases h5;have hv:=(h6 _ _ _ rfl).2 rfl;have hts:∀w,(sizeOf E').run P w = .ok (tsz e) w:=fun w=>by rw[<-hz];exact hE.tsz w
 obtain⟨k1,k2,k3⟩:=zfR ha;have hid:id<E.length:=(aC.1 h2).1;generalize hj:a.toNat=j at k1 k2 k3;have hcl:cs.length=xs.length*tsz e:=by have:=g2.len;rw[zgX]at this;exact this
 have hlen:r'.length=xs.length-j:=by rw[<-k3,bO]
 have hrun:(execOp (evO n m) ⟨dst,.slice T x (some lo) none none,ty,pos,aft,g⟩).run P w = .ok (.value (sl b (if c'=j then q else q+j*tsz e) r'.length (c'-j))) w:=by
  rw[hlen];by_cases hcj:c'=j
  ·simp[execOp,Instr.sliceAt,Go.underlying,hT,Instr.slice,Instr.sliceBounds,hv,hlo,sl,zbB k1 k2,hts w,hcj]
  ·simp[execOp,Instr.sliceAt,Go.underlying,hT,Instr.slice,Instr.sliceBounds,hv,hlo,sl,zbB k1 k2,hts w,hcj,zbW]
 rw[hrun];have hsplit:ps++cs=(ps++cs.take (j*tsz e))++cs.drop (j*tsz e):=by rw[bG,List.take_append_drop]
 have hjl:j*tsz e<=cs.length:=by rw[hcl];exact cE _ k2
 have hsum:p+xs.length=(p+j)+r'.length:=by omega
 have H:HS B S w (stR L id (.osl (sl b 0 ((p+j)+r'.length) c) ((p+j)+r'.length) (tsz e) ((ps++cs.take (j*tsz e))++cs.drop (j*tsz e)) rs E2)):=by rw[<-hsum,<-hsplit];exact R.hs.upd h1 (aJ _) rfl rfl rfl (fun _ _ _=>rfl) (R.hs.own id _ h1) fun b' hb'=>.inl hb'
 refine⟨_,_,S,_,_,h,Mem.le_refl _,ELe.set h2 (.inr (.inr ⟨ver+1,_,rfl,by omega⟩)),R.upd h2 (.inr (.inr ⟨ver+1,_,rfl,by omega⟩)) (Mem.le_refl _) H ⟨b,c,p+j,ps++cs.take (j*tsz e),cs.drop (j*tsz e),rs,if c'=j then q else q+j*tsz e,c'-j,rfl,rfl,?_,?_,by omega,?_⟩,⟨rfl,.osl (ver+1) _ (tsz e),by rw[aL hid],fun r1 v1 s1 hq=>by cases hq;exact⟨aJ _,fun _=>rfl⟩⟩⟩
 ·rw[aE,List.length_take,g1,bD];omega
 ·rw[<-k3];have:=RL.drop j g2;rw[show Rp.sz (den e)=tsz e from zgX e]at this;exact this
 ·by_cases hcj:c'=j
  ·right;omega
  ·left;rw[zG hcj];rcases g4 with⟨rfl,rfl⟩|g4
   ·exact⟨by rw[bD],by omega⟩
   ·omega
theorem ygC{x y:Operand}{T T':TypeId}(hτ:TEok P τ)(R:Rel n B S E L σ m w)(h:op2b τ Γ σ (.call ⟨.builtin .append,⟨[x,y]⟩,⟨[T,T']⟩⟩) k=some r):
  outcome P (Post2F n B S E L (ynO σ x) m k r) ((execOp (evO n m) ⟨dst,.call ⟨.builtin .append,⟨[x,y]⟩,⟨[T,T']⟩⟩,ty,pos,aft,g⟩).run P w):=by
 simp only[op2b]at h;split at h
 ·rename_i E' z1 z2 z3 z4 sx sy hT hx hy;have hu:=(hτ _ _ hT).sl rfl;have hy':=zbM R hy;split at h
  ·rename_i f hf;have hE:=hτ _ _ hf;obtain⟨hs,hq⟩:=zaJ h;clear h;have h:=hq;clear hq;have hx':=zbM R hx;split at h
   ·rename_i id ver;split at h
    ·rename_i ver' e E2 xs hc;obtain⟨hb,hq⟩:=zaJ h;clear h;have h:=hq;clear hq;have e1:=aB (zaT (zaT hb));have e2:=aB (zaW (zaT hb));have e3:=aB (zaW hb);subst e1;subst e2;split at h
     ·rename_i ys hys;obtain⟨r',ha,hq⟩:=bnd h;clear h;have h:=hq;clear hq;have hT':ynO σ x=[id]:=by unfold ynO;rw[hx]
      rw[hT'];exact zuH hτ R hu hE hs e3 hx' hy' hc hys ha h
     ·cases h
    ·rename_i ver' e E2 xs hc;obtain⟨hb,hq⟩:=zaJ h;clear h;have h:=hq;clear hq;have e1:=aB (zaT (zaT (zaT hb)));have e2:=aB (zaW (zaT (zaT hb)));have e3:=aB (zaW (zaT hb));have e4:=aB (zaW hb);subst e1;subst e2;subst e4;split at h
     ·rename_i ys hys;obtain⟨r',ha,hq⟩:=bnd h;clear h;have h:=hq;clear hq;have hT':ynO σ x=[id]:=by unfold ynO;rw[hx]
      rw[hT'];exact yoB R hu hE hs e3 hx' hy' hc hys ha h
     ·cases h
    ·cases h
   ·obtain⟨hb,hq⟩:=zaJ h;clear h;have h:=hq;clear hq;have e3:=aB hb;split at h
    ·rename_i ys hys;obtain⟨r',ha,hq⟩:=bnd h;clear h;have h:=hq;clear hq;have:=ybR ha;subst this;have hTn:=zrS hu hE hs e3;have hxv:evO n m x = .slice none 0 0:=hx';rcases src_ok hτ R hy' hys with⟨rfl,ds,hl2,hw⟩|⟨hu2,l,he,huu,hys'⟩
     ·obtain⟨w',v',rs',hrun,H⟩:=zqQ (ty:=ty) (N:=0) (k:=0) hTn (R.hs.nilOwn (tsz f.ty) E') rfl (hw w R.hs) hl2.one (by have:=(zcQ ha).1;simpa using this);rw[zmD (by rw[hxv];exact hrun)];rw[aQ,cF]at H;exact(zwK R H hl2 h).sub fun _ _ _=>rfl
     ·have hsz:tsz f.ty=1:=by rw[<-he];rfl
      rw[hsz]at hTn;have hb2:=(zcQ ha).1;have key:∀{e:Ty} (he:Ty.i .u8=e) {ys:List (den e)},ys=ziC (by rw[he]:Ty.sl (.i .u8)=Ty.sl e) (show Bs from l)->ys.length=l.length/\RL S (u8s l) ys:=fun {e} he {ys} h=>by subst he;subst h;exact⟨rfl,RL.u8s_of⟩
      obtain⟨k1,k2⟩:=key he hys';obtain⟨w',v',rs',hrun,H⟩:=zrJ (ty:=ty) (N:=0) (k:=0) (l:=l) hTn hu2 (R.hs.nilOwn 1 E') rfl (by rw[<-k1];simpa using hb2);rw[zmD (by rw[hxv,huu];exact hrun)];rw[aQ,cF,<-k1]at H;exact(zwK R (by rw[hsz];exact H) k2 h).sub fun _ _ _=>rfl
    ·cases h
   ·obtain⟨hb,hq⟩:=zaJ h;clear h;have h:=hq;clear hq;have e3:=aB (zaT hb);have e4:=aB (zaW hb);subst e4;split at h
    ·rename_i ys hys;obtain⟨r',ha,hq⟩:=bnd h;clear h;have h:=hq;clear hq;have:=ybR ha;subst this;have hTn:=zrS hu hE hs e3;obtain⟨hSl,ad,hxv⟩:=hx';obtain⟨ds,hl2,hw⟩:=zsS R hy' hys;obtain⟨w',v',rs',hrun,hcase⟩:=zrV (ty:=ty) (a:=ad) hTn R.hs (hw w R.hs) hl2.one (by have:=(zcQ ha).1;simpa using this);rw[zmD (by rw[hxv];exact hrun)];rcases hcase with⟨h0,rfl,rfl⟩|H
     ·have hr0:r'=[]:=aU h0;subst hr0;have H:HS B S w' (.osl (.slice none 0 0) 0 (tsz f.ty) [] [] E'::L):=R.hs.nilOwn _ _;exact⟨_,_,S,E++[.osl 0 (.slice ad 0 0) (tsz f.ty)],_,h,Mem.le_refl _,ELe.push E _,R.snoc (e:=.osl 0 (.slice ad 0 0) (tsz f.ty)) (o:=.osl 0 f.ty E' []) H ⟨.slice none 0 0,.slice ad 0 0,[],[],rfl,rfl,rfl,.inr ⟨rfl,rfl,by rw[<-hxv];exact hSl,ad,rfl⟩⟩,⟨rfl,.osl 0 (.slice ad 0 0) (tsz f.ty),by rw[<-R.lE];simp,fun r' v' s' hq=>by cases hq;exact⟨aJ _,fun _=>rfl⟩⟩,fun i _ hi=>zvW hi⟩
     ·exact(zwK R H hl2 h).sub fun _ _ _=>rfl
    ·cases h
   ·rename_i e xs;obtain⟨hb,hq⟩:=zaJ h;clear h;have h:=hq;clear hq;have e3:=aB (zaT hb);have e4:=aB (zaW hb);subst e4;split at h
    ·rename_i ys hys;obtain⟨r',ha,hq⟩:=bnd h;clear h;have h:=hq;clear hq;exact zdJ (yoV hτ R hu hE hs e3 hx' hy' hys ha h) fun _ _ hp=>hp.sub fun _ _ _=>rfl
    ·cases h
   ·cases h
  ·cases h
 ·cases h
theorem xdR{o:Op}(hτ:TEok P τ)(_hΓ:CTok P Γ B)(R:Rel n B S E L σ m w)(h:op2b τ Γ σ o k=some r):
  outcome P (Post2 n B S E m k r) ((execOp (evO n m) ⟨dst,o,ty,pos,aft,g⟩).run P w):=by
 unfold op2b at h;split at h
 ·rename_i x y T T';exact zdJ (ygC (Γ:=Γ) hτ R (by unfold op2b;exact h)) fun _ _ hp=>hp.two
 ·rename_i T N ps;split at h
  ·rename_i E' z1 z2 z3 z4 hT;split at h
   ·rename_i f hf;obtain⟨hb,hq⟩:=zaJ h;clear h;have h:=hq;clear hq;split at h
    ·rename_i ys hys;obtain⟨ps⟩:=ps;obtain⟨S1,E1,L1,hS1,hE1,R1⟩:=ziN (zkA σ (ps.map (·.2))) R;have:=ydN (dst:=dst) (g:=g) (ty:=ty) (pos:=pos) (aft:=aft) R1 ((hτ _ _ hT).sl rfl) (hτ _ _ hf) (zaT (zaT (zaT hb))) (aB (zaW (zaT (zaT hb)))) (aB (zaW (zaT hb))) (aR (zaW hb)) hys h;exact zdJ this fun v w' hp=>Post2.up hp.two hS1 hE1
    ·cases h
   ·cases h
  ·cases h
 ·rename_i T x lo hi;split at h
  ·rename_i id ver hx;split at h
   ·rename_i ver' e E2 xs hc;split at h
    ·rename_i a f hlo hf;obtain⟨hb,hq⟩:=zaJ h;clear h;have h:=hq;clear hq;have e1:=aB (zaT hb);have e3:=aB (zaW hb);subst e1;obtain⟨r',ha,hq⟩:=bnd h;clear h;have h:=hq;clear hq;obtain⟨E3,hu,hE⟩:=zpR hτ hf;rcases zmI R hlo with⟨_,hh⟩|⟨x1,q1,c1,rfl,hh,e4⟩
     ·cases hh
     ·cases hh;exact ywQ R hu hE e3 (zbM R hx) e4 hc ha h
    ·cases h
   ·obtain⟨S1,E1,L1,hS1,hE1,R1⟩:=yuX R id;split at h
    ·exact zdJ ((op1r_ok hτ R1 h).two R1) fun v w' hp=>Post2.up hp hS1 hE1
    ·exact zdJ ((ybB hτ R1 h).two R1) fun v w' hp=>Post2.up hp hS1 hE1
  ·exact(ybB hτ R h).two R
 ·rename_i T;split at h
  ·split at h
   ·exact ymZ (Kt:=0) (Vt:=0) R h
   ·cases h
  ·cases h
 ·rename_i x;split at h
  ·rename_i i hx;split at h
   ·rename_i l p hc;obtain⟨r0,e0,g1,g2,b,rfl,rfl⟩:=R.objN hc;obtain⟨b',hv,e1,h8,h9⟩:=zbM R hx;rw[g2]at h8;cases h8;have:=h9 _ rfl;subst this;obtain⟨w',hrun,H⟩:=a_nextT (P:=P) (dst:=dst) (ty:=ty) (pos:=pos) (aft:=aft) (g:=g) R.hs hv g1;rw[hrun];have R1:=R.upd1 (o':=.is l (nxP l p)) g2 H ⟨b,rfl,rfl⟩;cases hp:decide (p<l.length) with
    |true=>rw[hp]at h;refine⟨_,_,S,_,_,h,Mem.le_refl _,ELe.refl _,R1,⟨[.bool true,.int .i64 (p:Int),.int .i32 (nxR l p)],by unfold nxV;rw[hp];rfl,.cons (show rep .b S [.bool true] true from rfl) (.cons (show rep (.i .i64) S [.int .i64 (p:Int)] (p:Int)from rfl) (.cons (show rep (.i .i32) S [.int .i32 (nxR l p)] (nxR l p)from rfl) .nil))⟩⟩|false=>rw[hp]at h;refine⟨_,_,S,_,_,h,Mem.le_refl _,ELe.refl _,R1,⟨[.bool false],by unfold nxV;rw[hp];rfl,.cons (show rep .b S [.bool false] false from rfl) .nil⟩⟩
   ·cases h
  ·cases h
 ·rename_i T x;split at h
  ·rename_i z1 z2 z3 z4 l hT hx;obtain⟨w',b,hrun,H⟩:=yxF (P:=P) (dst:=dst) (ty:=ty) (pos:=pos) (aft:=aft) (g:=g) R.hs ((hτ _ _ hT).str rfl) (vS (zbM R hx));rw[hrun];exact⟨_,_,S,E++[.blk b],_,h,Mem.le_refl _,ELe.push E _,R.snoc (e:=.blk b) (o:=.is l 0) H ⟨b,rfl,rfl⟩,⟨b,rfl,.blk b,by rw[<-R.lE];simp,fun b' hb'=>by cases hb';rfl⟩⟩
  ·rename_i Kt Vt z1 z2 z3 z4 id hT hx;split at h
   ·rename_i kt gn K V es hk hc;obtain⟨hb,h⟩:=zaJ h;exact yzV hτ R ((hτ _ _ hT).map rfl) (zbM R hx) hc hb h
   ·cases h
  ·cases h
 ·rename_i T mm x y;split at h
  ·rename_i Kt Vt z1 z2 z3 z4 hT;split at h
   ·rename_i kt id xk xv hk h1 h2 h3;obtain⟨S1,E1,L1,hS1,hE1,R1⟩:=ziN (zkA σ [y]) R;split at h
    ·rename_i gn K V es hc;split at h
     ·rename_i key v hkey hv;obtain⟨hb,hq⟩:=zaJ h;clear h;have h:=hq;clear hq;have hx1:=(zbM R h1).mono hS1 hE1;have hx2:=(zbM R h2).mono hS1 hE1;exact zdJ (yfL hτ R1 ((hτ _ _ hT).map rfl) hk hx1 hx2 (zbM R1 h3) hc hkey hv hb h) fun v w' hp=>Post2.up hp hS1 hE1
     ·cases h
    ·cases h
   ·cases h
  ·cases h
 ·rename_i T mm x y;split at h
  ·rename_i Kt Vt z1 z2 z3 z4 hT;split at h
   ·rename_i kt id xk xv hk h1 h2 h3;obtain⟨S1,E1,L1,hS1,hE1,R1⟩:=ziN (zkA σ [y]) R;split at h
    ·rename_i gn K V es hc;split at h
     ·rename_i key v hkey hv;obtain⟨hb,hq⟩:=zaJ h;clear h;have h:=hq;clear hq;have hx1:=(zbM R h1).mono hS1 hE1;have hx2:=(zbM R h2).mono hS1 hE1;refine zdJ (?_:outcome P (Post2 n B S1 E1 m k r) ((execOp (evO n m) ⟨dst,.mapUpdate T mm x y,ty,pos,aft,g⟩).run P w)) fun v w' hp=>Post2.up hp hS1 hE1;exact(yfL hτ R1 ((hτ _ _ hT).map rfl) hk hx1 hx2 (zbM R1 h3) hc hkey hv hb h)
     ·cases h
    ·cases h
   ·cases h
  ·cases h
 ·rename_i mm x T T2;split at h
  ·rename_i Kt Vt z1 z2 z3 z4 hT;split at h
   ·rename_i kt id xk hk h1 h2;split at h
    ·rename_i gn K V es hc;split at h
     ·rename_i key hkey;obtain⟨hb,hq⟩:=zaJ h;clear h;have h:=hq;clear hq;exact yqZ hτ R ((hτ _ _ hT).map rfl) hk (zbM R h1) (zbM R h2) hc hkey hb h
     ·cases h
    ·cases h
   ·cases h
  ·cases h
 ·rename_i T D x;split at h
  ·rename_i z1 z2 z3 z4 E' y1 y2 y3 y4 hT hD;split at h
   ·rename_i x1 x2 x3 x4 l hE hx;obtain⟨hb,hq⟩:=zaJ h;clear h;have h:=hq;clear hq;obtain⟨w',v,hrun,rs,H⟩:=yiL (dst:=dst) (ty:=ty) (pos:=pos) (aft:=aft) (g:=g) ((hτ _ _ hT).str rfl) ((hτ _ _ hD).sl rfl) ((hτ _ _ hE).int rfl) R.hs (vS (zbM R hx)) (aB hb);rw[hrun];exact(zwK (e:=.i .u8) (xs:=(show List (den (.i .u8))from l)) R H RL.u8s_of h).two
   ·cases h
  ·exact(ykR hτ R h).two R
 ·exact(ykR hτ R h).two R
theorem yjR{o:Op}(hτ:TEok P τ)(hΓ:CTok P Γ B)(R:Rel n B S E L σ m w)(h:op2 τ Γ σ o T k=some r):
  outcome P (Post2 n B S E m k r) ((execOp (evO n m) ⟨dst,o,ty,pos,aft,g⟩).run P w):=by
 unfold op2 at h;split at h
 ·rename_i x ash at_;obtain⟨ash⟩:=ash;exact yoR (ash:=ash) hΓ R h
 ·rename_i T' nn cc;split at h
  ·rename_i E' z1 z2 z3 z4 q a1 q' a2 hT h1 h2;split at h
   ·rename_i e he;split at h
    ·rename_i z hz;obtain⟨hs,h⟩:=zaJ h;obtain⟨_,hk,h⟩:=bnd h;obtain⟨xs,hm,h⟩:=bnd h;have hk:=zcP hk;have hU:=(hτ _ _ hT).sl rfl;have hE:=hτ _ _ he;have hz':=zjA (Mem.le_refl S) (zeH (E:=E)) e.ty hz (zvF hE.z);have hsz:tsz e.ty=e.sz:=by rw[<-zgX,<-(rpD e.ty).len hz',bL,hE.zl]
     obtain⟨w',v,h3,cs,rs,h4,h5⟩:=a_makeX (dst:=dst) (ty:=ty) (pos:=pos) (aft:=aft) (g:=g) (yaS hU hE hs) (by rw[zgX];exact hsz) R.hs (vI (zbM R h1)) (vI (zbM R h2)) hz' hm (zC (zaT hk)) (zC (zaW hk));rw[h3];rw[<-hsz]at h4
     exact⟨_,_,S,E++[.osl 0 v (tsz e.ty)],_,h,Mem.le_refl _,ELe.push E _,R.snoc (e:=.osl 0 v (tsz e.ty)) (o:=.osl 0 e.ty E' xs) h4 ⟨v,v,cs,rs,rfl,rfl,h5,.inl rfl⟩,⟨by
      rcases h4.own 0 _ rfl with⟨hv,_⟩|⟨_,_,_,hv,_⟩<;>rw[hv]<;>rfl,.osl 0 v (tsz e.ty),(by rw[<-R.lE];simp:(E++[EI.osl 0 v (tsz e.ty)])[σ.hp.length]? = some (EI.osl 0 v (tsz e.ty))),fun r' v' s' hq=>by cases hq;exact⟨aJ _,fun _=>rfl⟩⟩⟩
    ·cases h
   ·cases h
  ·cases h
 ·rename_i T' a x;split at h
  ·rename_i f id off sv hT ha hx;split at h
   ·rename_i B' cs hc;obtain⟨hb,h⟩:=zaJ h;exact yyU (hτ _ _ hT) R (zbM R ha) (zbM R hx) hc hb h
   ·cases h
  ·rename_i f sv hT ha hx;obtain⟨hb,h⟩:=zaJ h;exact yoU (hΓ.nj (zaT hb)) (hτ _ _ hT) R (zbM R ha) (zbM R hx) (zaW hb) h
  ·rename_i f id ver i sv hT ha hx;split at h
   ·rename_i ver' e E' xs hc;obtain⟨hb,h⟩:=zaJ h;have hv:=aB (zaT hb);subst hv;split at h
    ·rename_i y hy;obtain⟨rs',hr,h⟩:=bnd h;exact yuJ (hτ _ _ hT) R (zbM R ha) (zbM R hx) hc (aB (zaW hb)) hy hr h
    ·cases h
   ·cases h
  ·rename_i f id ver i off sv _ hT ha hx;split at h
   ·rename_i ver' e E' xs hc;obtain⟨hb,h⟩:=zaJ h;have hv:=aB (zaT hb);subst hv;obtain⟨x0,hi,h⟩:=bnd h;split at h
    ·rename_i y hy;obtain⟨rs',hr,h⟩:=bnd h;exact yuV (hτ _ _ hT) R (zbM R ha) (zbM R hx) hc (zaW hb) hi hy hr h
    ·cases h
   ·cases h
  ·cases h
 ·rename_i T';split at h
  ·rename_i f hT;obtain⟨hb,h⟩:=zaJ h;have hF:=hτ _ _ hT;have hcs:(zV f).cells.toList=f.z.map zc:=by
    rw[hF.cells (by
     cases ha:f.agg with
     |true=>exact .inl rfl|false=>rw[ha]at hb;exact .inr (aB hb))]
   obtain⟨w',b,h1,h2⟩:=zdQ (dst:=dst) (ty:=ty) (pos:=pos) (aft:=aft) (g:=g) (e:=evO n m) R.hs hF.zero hcs;rw[h1];exact(ygV R h2 (zvF hF.z) h).two
  ·cases h
 ·rename_i T' x;split at h
  ·rename_i f sv hT hx;obtain⟨hb,h⟩:=zaJ h;obtain⟨h6,h7⟩:=zqM ((zbM R hx).b (zaW hb));have:∃w' b,(execOp (evO n m) ⟨dst,.box T' x,ty,pos,aft,g⟩).run P w = .ok (.value (.pointer (some ⟨b,0,none⟩))) w'/\HS B S w' (.blk b (evO n m x).cells.toList T'::L):=by refine⟨w.alloc (.cells (evO n m x).cells.toList.toArray T'),w.heap.size,?_,R.hs.push (Ext.alloc w _) (zaR w _) fun b hb=>by cases hb;exact aJ _⟩;simp[execOp,ygN]
   obtain⟨w',b,h8,h9⟩:=this;rw[h8];exact(ygV R h9 h6 h).two
  ·cases h
 ·exact xdR hτ hΓ R h
end
end Go.Proofs.YtmbcolbbekbccaaGreat.Am
