/- Parts of one proof. Conditions: as each theorem says. -/
import Derived.Test.YtopanhneegpgcaaGreatDoorQlE
open Bool renaming or_eq_true->bY
open List renaming append_assoc->aU,cons_append->bG,getElem?_append_left->aH,getElem?_append_right->aJ,getElem?_eq_getElem->aO,getElem?_eq_some_iff->aD,getElem?_map->dQ,getElem?_set_ne->bN,getElem?_set_self->bB
open Nat renaming beq->aG,beq_refl->fB,eq_of_beq_eq_true->aB,le_refl->aI,zero_le->aZ
namespace Go.Proofs.YtopanhneegpgcaaGreatDoor.Am
open Go Go.RowKit
theorem HS.snoc{B:Bas}{S:Mem}{w:World}{L:List Res}{r:Res}(H:HS B S w (r::L)):HS B S w (L++[r]):=by
 have key:∀k q,lkR (L++[r]) k=some q->∃j,lkR (r::L) j=some q/\(k<L.length/\j=k+1∨k=L.length/\j=0):=fun k q h=>by
  rw[zbZ]at h;by_cases hk:k<L.length
  ·rw[aH hk]at h;exact⟨k+1,by rw[zbZ];simpa using h,.inl ⟨hk,rfl⟩⟩
  ·rw[aJ (by omega)]at h;have hk2:k-L.length=0:=by have:=(aD.1 h).1;simp at this;omega
   rw[hk2]at h;exact⟨0,by rw[zbZ];simpa using h,.inr ⟨by omega,rfl⟩⟩
 refine⟨H.fr,H.sub,H.keep,fun k q h=>?_,fun k q b h hb=>?_,fun i j q s b hi hj hq hs=>?_⟩
 ·obtain⟨j,h1,_⟩:=key k q h;exact H.own j q h1
 ·obtain⟨j,h1,_⟩:=key k q h;exact H.old j q b h1 hb
 ·obtain⟨i',h1,h2⟩:=key i q hi;obtain⟨j',h3,h4⟩:=key j s hj;have:=H.inj i' j' q s b h1 h3 hq hs;omega
theorem zsJ{α:Type}:∀(l:List α) (n:Nat) (a:α),setN l n a=l.set n a
 |[],n,a=>by cases n<;>rfl
 |_::_,0,_=>rfl|x::l,n+1,a=>by rw[setN,zsJ l n a];rfl
theorem zvL:∀(l:List Res) (n:Nat) (a:Res),stR l n a=l.set n a
 |[],n,a=>by cases n<;>rfl
 |_::_,0,_=>rfl|x::l,n+1,a=>by rw[stR,zvL l n a];rfl
section
variable {n:Nat}{B:Bas}{S S':Mem}{E:List EI}{L:List Res}{σ:St}{m:FM}{w w':World}
theorem Rel.snoc(R:Rel n B S E L σ m w){r:Res}{e:EI}{o:AO}(H:HS B S w' (r::L))(h:OR S (E++[e]) o r e):Rel n B S (E++[e]) (L++[r]) ⟨σ.sl,σ.hp++[o]⟩ m w':=by
 refine⟨HS.snoc H,by simp[R.lL],by simp[R.lE],fun i o' ho=>?_,fun t=>(R.sl t).mono (Mem.le_refl _) (ELe.push E [e])⟩;by_cases hi:i<σ.hp.length
 ·have ho':σ.hp[i]? = some o':=by rw[<-aH (l₂:=[o]) hi];exact ho
  obtain⟨r',e',h1,h2,h3⟩:=R.obj i o' ho';exact⟨r',e',by rw[aH (by rw[R.lL];exact hi)];exact h1,by rw[aH (by rw[R.lE];exact hi)];exact h2,h3.mono (Mem.le_refl _) (ELe.push E [e])⟩
 ·have ho2:(σ.hp++[o])[i]? = some o':=ho;have hi2:i=σ.hp.length:=by have:=(aD.1 ho2).1;simp at this;omega
  subst hi2;rw[aJ (aI _)]at ho2;simp at ho2;subst ho2;exact⟨r,e,by rw[<-R.lL];simp,by rw[<-R.lE];simp,h⟩
theorem ELe.set{E:List EI}{i:Nat}{e e':EI}(h:E[i]? = some e)(hl:e.le e'):ELe E (E.set i e'):=fun j a ha=>by
 by_cases hj:i=j
 ·subst hj;rw[h]at ha;cases ha;exact⟨e',by rw[bB (aD.1 h).1],hl⟩
 ·exact⟨a,by rw[bN hj];exact ha,a.le_refl⟩
theorem Rel.upd(R:Rel n B S E L σ m w){i:Nat}{r':Res}{e e':EI}{o':AO}(he:E[i]? = some e)(hl:e.le e')(hS:Mem.le S S')(H:HS B S' w' (stR L i r'))(h:OR S' (E.set i e') o' r' e'):
  Rel n B S' (E.set i e') (stR L i r') ⟨σ.sl,setN σ.hp i o'⟩ m w':=by
 have hE:=ELe.set he hl;have hi:i<σ.hp.length:=by rw[<-R.lE];exact(aD.1 he).1
 refine⟨H,by simp[zvL,zsJ,R.lL],by simp[zsJ,R.lE],fun j o ho=>?_,fun t=>(R.sl t).mono hS hE⟩;have ho:(σ.hp.set i o')[j]? = some o:=by rw[<-zsJ];exact ho
 by_cases hj:i=j
 ·subst hj;rw[bB hi]at ho;cases ho;exact⟨r',e',by rw[zvL,bB (by rw[R.lL];exact hi)],by rw[bB (by rw[R.lE];exact hi)],h⟩
 ·rw[bN hj]at ho;obtain⟨r2,e2,h1,h2,h3⟩:=R.obj j o ho;exact⟨r2,e2,by rw[zvL,bN hj];exact h1,by rw[bN hj];exact h2,h3.mono hS hE⟩
theorem yvR{E:List EI}{i:Nat}{e:EI}(h:E[i]? = some e):E.set i e=E:=by
 apply List.ext_getElem?;intro j;by_cases hj:i=j
 ·subst hj;rw[bB (aD.1 h).1,h]
 ·rw[bN hj]
theorem Rel.upd1(R:Rel n B S E L σ m w){i:Nat}{r':Res}{e:EI}{o':AO}(he:E[i]? = some e)(H:HS B S w' (stR L i r'))(h:OR S E o' r' e):
  Rel n B S E (stR L i r') ⟨σ.sl,setN σ.hp i o'⟩ m w':=by
 have:=R.upd he e.le_refl (Mem.le_refl S) H (by rw[yvR he];exact h)
 rwa[yvR he]at this
end
theorem HS.kill{B:Bas}{S:Mem}{w:World}{L:List Res}{k:Nat}(H:HS B S w (rmR L k)):HS B S w (stR L k (.osl (.slice none 0 0) 0 0 [] [] 0)):=by
 have key:∀i q,lkR (stR L k (.osl (.slice none 0 0) 0 0 [] [] 0)) i=some q->i=k/\q = .osl (.slice none 0 0) 0 0 [] [] 0∨i≠k/\lkR (rmR L k) (if i<k then i else i-1)=some q:=fun i q h=>by
  by_cases hi:i=k
  ·subst hi;rw[zbZ,zvL]at h;have hlt:i<L.length:=by simpa using (aD.1 h).1
   rw[bB hlt]at h;exact .inl ⟨rfl,(osi h).symm⟩
  ·rw[zdU hi]at h;refine .inr ⟨hi,?_⟩;rw[yhL];by_cases h2:i<k
   ·rw[zI h2,zI h2];exact h
   ·rw[zH h2,zH (by omega),show i-1+1=i by omega];exact h
 refine⟨H.fr,H.sub,H.keep,fun i q h=>?_,fun i q b h hb=>?_,fun i j q s b hi hj hq hs=>?_⟩
 ·rcases key i q h with⟨rfl,rfl⟩|⟨_,h1⟩
  ·exact .inl ⟨rfl,rfl,rfl,rfl⟩
  ·exact H.own _ q h1
 ·rcases key i q h with⟨rfl,rfl⟩|⟨_,h1⟩
  ·cases hb
  ·exact H.old _ q b h1 hb
 ·rcases key i q hi with⟨rfl,rfl⟩|⟨h0,h1⟩
  ·cases hq
  ·rcases key j s hj with⟨rfl,rfl⟩|⟨h2,h3⟩
   ·cases hs
   ·have:=H.inj _ _ q s b h1 h3 hq hs;split at this<;>split at this<;>omega
section
variable {n:Nat}{B:Bas}{S S':Mem}{E E':List EI}{L:List Res}{σ:St}{m:FM}{w w':World}
theorem yhC{id ver:Nat}{e:Ty}{xs:List (den e)}{v:Value}(hS:Mem.le S S')(hE:ELe E E')(h0:E[id]? = some (.osl ver v (tsz e)))(hv:rep (.sl e) S' [v] xs){x:SV}{u:Value}(h:VC S E x u):VC S' E' (frzC id ver e xs x) u:=by
 have h':=h.mono hS hE;unfold frzC;split
 ·rename_i i wv;cases hb:aG i id&&aG wv ver with
  |false=>exact h'|true=>have h1:=aB (zbH hb);have h2:=aB (zbR hb);subst h1;subst h2;obtain⟨_,e1,h4,h5⟩:=h;rw[h0]at h4;cases h4;rw[(h5 _ _ _ rfl).2 rfl];exact hv
 ·exact h'
theorem A2.map{α γ δ:Type}{R:α->γ->Prop}{R':δ->γ->Prop}{f:α->δ}(hf:∀a b,R a b->R' (f a) b):∀{l m},A2 R l m->A2 R' (l.map f) m
 |_,_,.nil=>.nil|_,_,.cons a t=>.cons (hf _ _ a) (A2.map hf t)
theorem xeX{id ver:Nat}{e:Ty}{xs:List (den e)}{x:SV}(h:noag x=true):noag (frzC id ver e xs x)=true:=by
 unfold frzC;split
 ·cases aG _ _&&aG _ _<;>rfl
 ·exact h
theorem frzS_ok{id ver:Nat}{e:Ty}{xs:List (den e)}{v:Value}(hS:Mem.le S S')(hE:ELe E E')(h0:E[id]? = some (.osl ver v (tsz e)))(hv:rep (.sl e) S' [v] xs){x:SV}{u:Value}(h:VR S E x u):VR S' E' (frzS id ver e xs x) u:=by
 unfold frzS;split
 ·obtain⟨us,hu,h⟩:=h;exact⟨us,hu,h.map (f:=frzC id ver e xs) fun _ _=>yhC hS hE h0 hv⟩
 ·obtain⟨us,hu,h⟩:=h;refine⟨us,hu,h.map fun a b hab=>?_⟩;cases a with
  |ag l=>obtain⟨ws,hw,hab⟩:=hab;exact⟨ws,hw,hab.map (f:=frzC id ver e xs) fun _ _=>yhC hS hE h0 hv⟩
  |_=>exact VA.of (yhC hS hE h0 hv hab.b) (xeX rfl)
 ·rename_i h1 h2;by_cases hx:x = .undef
  ·subst hx;trivial
  by_cases hx2:x = .skp
  ·subst hx2;exact h
  ·have hn:noag x=true:=by cases x<;>first|rfl|exact absurd rfl (h1 _)
   have hu:notu x=true:=by cases x<;>first|rfl|exact absurd rfl hx|exact absurd rfl hx2|exact absurd rfl (h2 _)
   exact VR.ofC (yhC hS hE h0 hv ((h.b hu).b hn))
theorem xcF{f:SV->SV}(hf:f .undef = .undef):∀(l:List (Nat×SV)) (t:Nat),lkS (l.map fun p=>(p.1,f p.2)) t=f (lkS l t)
 |[],_=>hf.symm|(d,x)::l,t=>by
  simp only[List.map_cons,lkS];cases aG d t with
  |true=>rfl|false=>exact xcF hf l t
theorem Same.rd{e:Ty}{xs:List (den e)}{v v':Value}(h:Same S v v' xs.length)(hS:Mem.le S S')(hr:@RdS (den e) (rpD e) S' v xs):@RdS (den e) (rpD e) S' v' xs:=by
 rcases h with rfl|⟨_,h0,h,_⟩
 ·exact hr
 ·have:xs=[]:=List.eq_nil_of_length_eq_zero h0;subst this;refine⟨[],?_,rfl⟩;rcases h with⟨h,_,_⟩|⟨b,o,c,ds,T,fz,h1,h2,h3,h4,_⟩
  ·exact .inl ⟨h,rfl,rfl⟩
  ·exact .inr ⟨b,o,c,ds,T,fz,h1,h2,hS _ _ h3,by simp only[List.length_nil];omega,by simp[piece]⟩
theorem RelV.objN{V:Nat->Value}(R:RelV B S E L σ V w){i:Nat}{o:AO}(h:atN σ.hp i=some o):∃r e,lkR L i=some r/\E[i]? = some e/\OR S E o r e:=by rw[zfR]at h;obtain⟨r,e,h1,h2,h3⟩:=R.obj i o h;exact⟨r,e,by rw[zbZ];exact h1,h2,h3⟩
theorem xeA{V:Nat->Value}(R:RelV B S E L σ V w)(id:Nat):∃S' E' L',Mem.le S S'/\ELe E E'/\RelV B S' E' L' (frz σ id) V w/\∀i,id≠i->lkR L' i=lkR L i:=by
 unfold frz;split
 ·rename_i ver e T xs hc;obtain⟨r0,e0,h1,h2,v,v',cs,rs,rfl,rfl,h3,hsm⟩:=R.objN hc;obtain⟨S',hle,hrd,H⟩:=HS.fixX R.hs h1 h3 (zpS e);have hE:ELe E (E.set id .dead):=ELe.set h2 (.inr (.inl rfl));have hv:rep (.sl e) S' [v'] xs:=⟨v',rfl,hsm.rd hle hrd⟩;refine⟨S',E.set id .dead,stR L id (.osl (.slice none 0 0) 0 0 [] [] 0),hle,hE,⟨HS.kill H,?_,?_,fun i o ho=>?_,fun t=>?_⟩,fun i hi=>zdU (Ne.symm hi)⟩
  ·simp[zvL,zsJ,R.lL]
  ·simp[zsJ,R.lE]
  ·have hi:id<σ.hp.length:=by rw[<-R.lE];exact(aD.1 h2).1
   simp only[dQ,zsJ]at ho;by_cases hj:id=i
   ·subst hj;rw[bB hi]at ho;cases ho;exact⟨_,_,by rw[zvL,bB (by rw[R.lL];exact hi)],by rw[bB (by rw[R.lE];exact hi)],rfl,rfl⟩
   ·rw[bN hj]at ho;cases hq:σ.hp[i]? with
    |none=>rw[hq]at ho;cases ho
    |some q=>
     rw[hq]at ho;cases ho;obtain⟨r2,e2,k1,k2,k3⟩:=R.obj i q hq;refine⟨r2,e2,by rw[zvL,bN hj];exact k1,by rw[bN hj];exact k2,?_⟩;cases q with
     |blk T' cs'=>obtain⟨b,us,e1,e2',k4⟩:=k3;exact⟨b,us,e1,e2',k4.map (f:=frzC id ver e xs) fun _ _=>yhC hle hE h2 hv⟩
     |osl=>exact k3.mono hle hE|mp=>exact k3.mono hle hE|it=>exact k3.mono hle hE|is=>exact k3|qu=>exact OR.mono hle hE k3|fam=>exact OR.mono hle hE k3|famO=>exact OR.mono hle hE k3|dead=>exact k3
  ·show VR S' _ (lkS (σ.sl.map fun p=>(p.1,frzS id ver e xs p.2)) t) _;rw[xcF rfl];exact frzS_ok hle hE h2 hv (R.sl t)
 ·exact⟨S,E,L,Mem.le_refl _,ELe.refl _,R,fun _ _=>rfl⟩
theorem ytH{V:Nat->Value}(R:RelV B S E L σ V w)(id:Nat):∃S' E' L',Mem.le S S'/\ELe E E'/\RelV B S' E' L' (frz σ id) V w:=by obtain⟨S',E',L',h1,h2,h3,_⟩:=xeA R id;exact⟨S',E',L',h1,h2,h3⟩
theorem ymK{V:Nat->Value}:∀(l:List Nat) {σ:St} {S:Mem} {E:List EI} {L:List Res} (_:RelV B S E L σ V w),∃S' E' L',Mem.le S S'/\ELe E E'/\RelV B S' E' L' (frzL σ l) V w/\∀i,hasN l i=false->lkR L' i=lkR L i
 |[],_,S,E,L,R=>⟨S,E,L,Mem.le_refl _,ELe.refl _,R,fun _ _=>rfl⟩|i::l,_,_,_,_,R=>by obtain⟨S1,E1,L1,h1,h2,R1,h5⟩:=xeA R i;obtain⟨S2,E2,L2,h3,h4,R2,h6⟩:=ymK l R1;refine⟨S2,E2,L2,Mem.le_trans h1 h3,h2.trans h4,R2,fun j hj=>?_⟩;simp only[hasN,Bool.or_eq_false_iff]at hj;rw[h6 j hj.2,h5 j fun e=>by subst e;rw[fB]at hj;cases hj.1]
theorem zlN{V:Nat->Value}:∀(l:List Nat) {σ:St} {S:Mem} {E:List EI} {L:List Res} (_:RelV B S E L σ V w),∃S' E' L',Mem.le S S'/\ELe E E'/\RelV B S' E' L' (frzL σ l) V w
 |[],_,S,E,L,R=>⟨S,E,L,Mem.le_refl _,ELe.refl _,R⟩|i::l,_,_,_,_,R=>by obtain⟨S1,E1,L1,h1,h2,R1⟩:=ytH R i;obtain⟨S2,E2,L2,h3,h4,R2⟩:=zlN l R1;exact⟨S2,E2,L2,Mem.le_trans h1 h3,h2.trans h4,R2⟩
end
theorem zhB:∀t:Ty,∃h,tyEq t t=some ⟨h⟩
 |.i k=>by cases k<;>exact⟨rfl,rfl⟩
 |.b=>⟨rfl,rfl⟩|.s=>⟨rfl,rfl⟩|.un=>⟨rfl,rfl⟩|.er=>⟨rfl,rfl⟩|.mp a c=>by obtain⟨h,he⟩:=zhB a;obtain⟨h2,he2⟩:=zhB c;exact⟨rfl,by simp only[tyEq,he,he2]⟩
 |.sl e=>by obtain⟨h,he⟩:=zhB e;exact⟨rfl,by simp only[tyEq,he]⟩
 |.pr a c=>by obtain⟨h,he⟩:=zhB a;obtain⟨h2,he2⟩:=zhB c;exact⟨rfl,by simp only[tyEq,he,he2]⟩
theorem ydJ:∀(t:Ty) (x:den t),(cellsOf t x).length=tsz t
 |.i _,_=>rfl|.b,_=>rfl|.s,_=>rfl|.er,_=>rfl|.mp _ _,_=>rfl|.sl _,_=>rfl|.un,_=>rfl|.pr a c,x=>by rw[cellsOf,List.length_append,ydJ a,ydJ c];rfl
theorem zxE(hp:List AO)(t:Ty)(x:den t):znV hp t (.v t x)=some x:=by obtain⟨h,he⟩:=zhB t;simp only[znV,he];rfl
theorem ydZ(hp:List AO):∀(t:Ty) (x:den t),zjV hp t (cellsOf t x)=some x
 |.i _,x=>zxE hp _ x|.b,x=>zxE hp _ x|.s,x=>zxE hp _ x|.er,x=>zxE hp _ x|.mp _ _,x=>zxE hp _ x|.sl _,x=>zxE hp _ x|.un,_=>rfl|.pr a c,x=>by
  have h1:(cellsOf a x.1++cellsOf c x.2).take (tsz a)=cellsOf a x.1:=by rw[<-ydJ a x.1,List.take_left]
  have h2:(cellsOf a x.1++cellsOf c x.2).drop (tsz a)=cellsOf c x.2:=by rw[<-ydJ a x.1,List.drop_left]
  simp only[cellsOf,zjV,h1,h2,ydZ hp a,ydZ hp c];rfl
theorem yrW(hp:List AO)(t:Ty)(x:den t):ofSV hp t (svOf t x)=some x:=by
 unfold svOf;cases ho:one t with
 |true=>show(bif one t then znV hp t (.v t x)else none)=_;rw[ho];exact zxE hp t x
 |false=>show(bif one t then none else zjV hp t (cellsOf t x))=_;rw[ho];exact ydZ hp t x
inductive Can:List Ty->List SV->Prop
 |nil:Can [] []
 |cons {t l xs} (y:den t):Can l xs->Can (t::l) (svOf t y::xs)
theorem Can.app:∀{l m xs ys},Can l xs->Can m ys->Can (l++m) (xs++ys)
 |_,_,_,_,.nil,h=>h|_,_,_,_,.cons y t,h=>.cons y (Can.app t h)
theorem yrU(hp:List AO):∀{l:List Ty} {xs:List SV} {x:zfB l},Can l xs->ylS hp l xs=some x->zvW l x=xs
 |[],_,_,.nil,_=>rfl|[t],_,_,.cons y .nil,h=>by have h:ofSV hp t (svOf t y)=some _:=h;rw[yrW]at h;cases h;rfl
 |t::t'::l,_,_,.cons y (.cons y' r),h=>by
  simp only[ylS,yrW]at h;split at h
  ·rename_i x1 x2 h1 h2;cases h1;cases h;have:=yrU hp (.cons y' r) h2;show svOf t y::zvW (t'::l) x2=_;rw[this]
  ·cases h
def REi(e e':EI):Prop:=e'=e∨(∃r v s,e = .osl r v s/\e' = .osl 0 v s)∨(∃g b ck es g',e = .mp g b ck es/\e' = .mp g' b ck es)∨∃r v bs,e = .fam r v bs/\e' = .fam 0 v bs
structure HpE (hp:List AO) (E:List EI):Prop where
 osl:∀(i r:Nat) e T (xs:List (den e)),hp[i]? = some (.osl r e T xs)->∃v s,E[i]? = some (.osl r v s)
 fam:∀(i r:Nat) T f (ks:List (den (fT f))),hp[i]? = some (.fam r T f ks)->∃v bs,E[i]? = some (.fam r v bs)
 qu:∀(i r:Nat) e T (xs:List (den e)),hp[i]? = some (.qu r e T xs)->∃v s,E[i]? = some (.osl r v s)
theorem HpE.of{S:Mem}{hp:List AO}{E:List EI}{L:List Res}(h:∀(i:Nat) o,hp[i]? = some o->∃r e,L[i]? = some r/\E[i]? = some e/\OR S E o r e):HpE hp E:=
 ⟨fun i r e T xs ho=>by
  obtain⟨r0,e0,k1,k2,v,v',cs,rs,_,k3,_⟩:=h i _ ho;rw[k3]at k2;exact⟨_,_,k2⟩,
 fun i r T f ks ho=>by obtain⟨r0,e0,k1,k2,v,rs,ms,bs,_,k3,_⟩:=h i _ ho;rw[k3]at k2;exact⟨_,_,k2⟩,
 fun i r e T xs ho=>by
  obtain⟨r0,e0,k1,k2,b,c,p,ps,cs,rs,q,c',_,k3,_⟩:=h i _ ho
  rw[k3]at k2;exact⟨_,_,k2⟩⟩
def RE(ρ:List Nat)(E E':List EI):Prop:=∀(k:Nat) (e':EI),E'[k]? = some e'->e' = .dead∨∃id e,ρ[k]? = some id/\E[id]? = some e/\REi e e'
section
variable {S S2:Mem}{E E':List EI}{ρ:List Nat}{hp hq:List AO}
theorem ymY{a:Sh}{x:SV}{p:List SV}(h:a.getB ρ hp hq x=some p):nofn x=true/\noag x=true/\notu x=true:=by
 cases x with
 |fn=>cases a<;>first|(cases h;done)|(rename_i t;simp only[Sh.getB]at h;cases t<;>cases h)
 |ag=>cases a<;>first|(cases h;done)|(rename_i t;simp only[Sh.getB]at h;cases t<;>cases h)
 |undef=>cases a<;>first|(cases h;done)|(rename_i t;simp only[Sh.getB]at h;cases t<;>cases h)
 |skp=>cases a<;>first|(cases h;done)|(rename_i t;simp only[Sh.getB]at h;cases t<;>cases h)
 |tup=>cases a<;>first|(cases h;done)|(rename_i t;simp only[Sh.getB]at h;cases t<;>cases h)
 |_=>exact⟨rfl,rfl,rfl⟩
theorem xdC(hS:Mem.le S S2)(hQ:yeF S S2 E hq)(hR:RE ρ E E')(hN:E'.length=ρ.length)(hO:HpE hp E){a:Sh}{x:SV}{u:Value}{p:List SV}(h:a.getB ρ hp hq x=some p)(hx:VB S E x u):
  Can a.tysB p/\∀rest,VB S2 E' (a.putB (p++rest)).1 u/\(a.putB (p++rest)).2=rest/\noag (a.putB (p++rest)).1=true/\nofn (a.putB (p++rest)).1=true:=by
 have ex:∀{k id:Nat},atN ρ k=some id->∃e',E'[k]? = some e'/\(e' = .dead∨∃e,E[id]? = some e/\REi e e'):=fun {k id} hk=>by
  rw[zfR]at hk;have hlt:k<E'.length:=by rw[hN];exact(aD.1 hk).1
  refine⟨E'[k],aO hlt,?_⟩;rcases hR k _ (aO hlt)with h|⟨id',e,h1,h2,h3⟩
  ·exact .inl h
  ·rw[hk]at h1;cases h1;exact .inr ⟨e,h2,h3⟩
 have hr:∀{t:Ty} {y:den t} {cs:LV} {b o:Nat},CellAt S2 b o cs->rep t S2 cs y->u = .pointer (some ⟨b,o,none⟩)->p=[svOf t y]->Can (Sh.hr t).tysB p/\∀rest,VB S2 E' ((Sh.hr t).putB (p++rest)).1 u/\((Sh.hr t).putB (p++rest)).2=rest/\noag ((Sh.hr t).putB (p++rest)).1=true/\nofn ((Sh.hr t).putB (p++rest)).1=true:=fun {t y cs b o} h1 h2 h3 h4=>by
  subst h4;refine⟨.cons y .nil,fun rest=>?_⟩;have e1:(Sh.hr t).putB ([svOf t y]++rest)=(.rp t y 0,rest):=by simp only[bG,List.nil_append,Sh.putB,yrW]
  rw[e1];exact⟨⟨b,o,cs,h3,h1,h2⟩,rfl,rfl,rfl⟩
 cases a with
 |h t=>
  simp only[Sh.getB]at h;cases ho:one t with
  |false=>rw[ho]at h;cases h
  |true=>
   rw[ho]at h;simp only[zE]at h;split at h
   ·rename_i y hy;cases h;have e1:svOf t y = .v t y:=by unfold svOf;rw[ho];rfl
    refine⟨by rw[<-e1];exact .cons y .nil,fun rest=>⟨?_,rfl,rfl,rfl⟩⟩;exact(zrM hS hQ hy hx.c:rep t S2 [u] y)
   ·cases h
 |kn k c=>
  cases x with
  |v t y=>
   cases t with
   |i k'=>
    simp only[Sh.getB]at h;split at h
    ·rename_i hk _;obtain⟨hk⟩:=hk;subst hk;obtain⟨hb,h⟩:=zaG h;cases h;have h1:=zC (zbH hb);have h2:=zC (zbR hb);refine⟨.nil,fun rest=>⟨?_,rfl,rfl,rfl⟩⟩;have hx:[u]=[Value.int k' (toI k' y)]:=hx;show [u]=[Value.int k' (toI k' (ofI k' c))];rw[hx,h1,h2]
    ·cases h
   |_=>cases h
  |_=>cases h
 |own k=>
  cases x with
  |own id ver=>
   simp only[Sh.getB]at h;split at h
   ·rename_i id' ver' e T xs hk hc;cases hb:aG id' id&&aG ver ver' with
    |false=>rw[hb]at h;cases h
    |true=>
     rw[hb]at h;cases h;have h1:=aB (zbH hb);have h2:=aB (zbR hb);subst h1;subst h2;refine⟨.nil,fun rest=>⟨?_,rfl,rfl,rfl⟩⟩;obtain⟨h4,e1,h5,h6⟩:=hx;rw[zfR]at hc;obtain⟨v,s,h7⟩:=hO.osl _ _ _ _ _ hc;rw[h7]at h5;cases h5;obtain⟨e',h8,h9⟩:=ex hk;refine⟨h4,e',h8,fun r' v' s' hq=>⟨aZ _,fun _=>?_⟩⟩;subst hq;rcases h9 with h9|⟨e2,h9,h10⟩
     ·cases h9
     ·rw[h7]at h9;cases h9;rcases h10 with h10|⟨_,_,_,h11,h10⟩|⟨_,_,_,_,_,h11,_⟩|⟨_,_,_,h11,_⟩
      ·cases h10;exact(h6 _ _ _ rfl).2 rfl
      ·cases h11;cases h10;exact(h6 _ _ _ rfl).2 rfl
      ·cases h11
      ·cases h11
   ·rename_i id' ver' e T xs hk hc;cases hb:aG id' id&&aG ver ver' with
    |false=>rw[hb]at h;cases h
    |true=>
     rw[hb]at h;cases h;have h1:=aB (zbH hb);have h2:=aB (zbR hb);subst h1;subst h2;refine⟨.nil,fun rest=>⟨?_,rfl,rfl,rfl⟩⟩;obtain⟨h4,e1,h5,h6⟩:=hx;rw[zfR]at hc;obtain⟨v,s,h7⟩:=hO.qu _ _ _ _ _ hc;rw[h7]at h5;cases h5;obtain⟨e',h8,h9⟩:=ex hk;refine⟨h4,e',h8,fun r' v' s' hq=>⟨aZ _,fun _=>?_⟩⟩;subst hq;rcases h9 with h9|⟨e2,h9,h10⟩
     ·cases h9
     ·rw[h7]at h9;cases h9;rcases h10 with h10|⟨_,_,_,h11,h10⟩|⟨_,_,_,_,_,h11,_⟩|⟨_,_,_,h11,_⟩
      ·cases h10;exact(h6 _ _ _ rfl).2 rfl
      ·cases h11;cases h10;exact(h6 _ _ _ rfl).2 rfl
      ·cases h11
      ·cases h11
   ·cases h
  |_=>cases h
 |ptr k off=>
  cases x with
  |ptr id off'=>
   simp only[Sh.getB]at h;split at h
   ·rename_i id' hk;cases hb:aG id' id&&aG off off' with
    |false=>rw[hb]at h;cases h
    |true=>
     rw[hb]at h;cases h;have h1:=aB (zbH hb);have h2:=aB (zbR hb);subst h1;subst h2;refine⟨.nil,fun rest=>⟨?_,rfl,rfl,rfl⟩⟩;obtain⟨b0,h4,e1,h5,h6⟩:=hx;obtain⟨e',h8,h9⟩:=ex hk;refine⟨b0,h4,e',h8,fun b hb=>?_⟩;subst hb;rcases h9 with h9|⟨e2,h9,h10⟩
     ·cases h9
     ·rw[h5]at h9;cases h9;rcases h10 with h10|⟨_,_,_,_,h10⟩|⟨_,_,_,_,_,_,h10⟩|⟨_,_,_,_,h10⟩
      ·exact h6 _ h10.symm
      ·cases h10
      ·cases h10
      ·cases h10
   ·cases h
  |_=>cases h
 |mpr k=>
  cases x with
  |mpr id=>
   simp only[Sh.getB]at h;split at h
   ·rename_i id' hk;cases hb:aG id' id with
    |false=>rw[hb]at h;cases h
    |true=>
     rw[hb]at h;cases h;have h1:=aB hb;subst h1;refine⟨.nil,fun rest=>⟨?_,rfl,rfl,rfl⟩⟩;obtain⟨h4,e1,h5,h6⟩:=hx;obtain⟨e',h8,h9⟩:=ex hk;refine⟨h4,e',h8,fun g b ck es hb=>?_⟩;subst hb;rcases h9 with h9|⟨e2,h9,h10⟩
     ·cases h9
     ·rw[h5]at h9;cases h9;rcases h10 with h10|⟨_,_,_,_,h10⟩|⟨g1,b1,c1,es1,_,h11,h10⟩|⟨_,_,_,_,h10⟩
      ·exact h6 _ _ _ _ h10.symm
      ·cases h10
      ·cases h10;exact h6 _ _ _ _ h11
      ·cases h10
   ·cases h
  |_=>cases h
 |fs k=>
  cases x with
  |fs id ver=>
   simp only[Sh.getB]at h;split at h
   ·rename_i id' ver' T f ks hk hc;cases hb:aG id' id&&aG ver ver' with
    |false=>rw[hb]at h;cases h
    |true=>
     rw[hb]at h;cases h;have h1:=aB (zbH hb);have h2:=aB (zbR hb);subst h1;subst h2;refine⟨.nil,fun rest=>⟨?_,rfl,rfl,rfl⟩⟩;obtain⟨h4,e1,h5,h6⟩:=hx;rw[zfR]at hc;obtain⟨v,s,h7⟩:=hO.fam _ _ _ _ _ hc;rw[h7]at h5;cases h5;obtain⟨e',h8,h9⟩:=ex hk;refine⟨h4,e',h8,fun r' v' s' hq=>⟨aZ _,fun _=>?_⟩⟩;subst hq;rcases h9 with h9|⟨e2,h9,h10⟩
     ·cases h9
     ·rw[h7]at h9;cases h9;rcases h10 with h10|⟨_,_,_,h11,_⟩|⟨_,_,_,_,_,h11,_⟩|⟨_,_,_,h11,h10⟩
      ·cases h10;exact(h6 _ _ _ rfl).2 rfl
      ·cases h11
      ·cases h11
      ·cases h11;cases h10;exact(h6 _ _ _ rfl).2 rfl
   ·cases h
  |_=>cases h
 |nilp=>
  cases x with
  |nilp=>cases h;exact⟨.nil,fun rest=>⟨hx,rfl,rfl,rfl⟩⟩
  |_=>cases h
 |nils=>
  cases x with
  |nils=>cases h;exact⟨.nil,fun rest=>⟨hx,rfl,rfl,rfl⟩⟩
  |_=>cases h
 |hc e=>
  cases x with
  |cl e' xs=>
   simp only[Sh.getB]at h;split at h
   ·rename_i hh _;cases h;subst hh;refine⟨.cons (t:=.sl e') (show den (.sl e')from xs) .nil,fun rest=>?_⟩;obtain⟨h7,h8⟩:=zhB e';have e1:(Sh.hc e').putB ([svOf (.sl e') (show den (.sl e')from xs)]++rest)=(.cl e' xs,rest):=by show(Sh.hc e').putB (.v (.sl e') xs::rest)=_;simp only[Sh.putB,h8];rfl
    have e2:([SV.v (.sl e') (zmW (by rfl:Ty.sl e'=Ty.sl e') xs)]++rest)=[svOf (.sl e') (show den (.sl e')from xs)]++rest:=rfl;show VB S2 E' ((Sh.hc e').putB ([svOf (.sl e') (show den (.sl e')from xs)]++rest)).1 u/\_=rest/\noag ((Sh.hc e').putB ([svOf (.sl e') (show den (.sl e')from xs)]++rest)).1=true/\nofn ((Sh.hc e').putB ([svOf (.sl e') (show den (.sl e')from xs)]++rest)).1=true;rw[e1];exact⟨⟨hx.1.mono hS,hx.2⟩,rfl,rfl,rfl⟩
   ·cases h
  |_=>cases h
 |hr t=>
  cases x with
  |rp t' y off=>
   cases off with
   |zero=>
    simp only[Sh.getB]at h;split at h
    ·rename_i hh _;cases h;subst hh;obtain⟨b,o,us,h1,h2,h3⟩:=hx;exact hr (y:=y) (h2.mono hS) ((rpD t').mono h3 hS) h1 rfl
    ·cases h
   |succ=>cases h
  |ptr id off=>
   cases off with
   |zero=>
    simp only[Sh.getB]at h;split at h
    ·rename_i T cs hc;split at h
     ·rename_i y hy;cases h;obtain⟨b,us,h1,h2,h3⟩:=hQ.blk id T cs u hc hx;exact hr h2 (ztK hS hQ t hy h3) h1 rfl
     ·cases h
    ·cases h
   |succ=>cases h
  |_=>cases h
 |fn=>cases h
 |ag l=>cases h
theorem ynB(hS:Mem.le S S2)(hQ:yeF S S2 E hq)(hR:RE ρ E E')(hN:E'.length=ρ.length)(hO:HpE hp E):∀{l:List Sh} {xs:List SV} {us:LV} {p:List SV},xdL ρ hp hq l xs=some p->A2 (VA (VB S E)) xs us ->
  Can (l.flatMap Sh.tysB) p/\∀rest,A2 (VA (VB S2 E')) (yjZ l (p++rest)).1 us/\(yjZ l (p++rest)).2=rest
 |[],[],us,p,h,hx=>by cases h;cases hx;exact⟨.nil,fun rest=>⟨.nil,rfl⟩⟩
 |[],_::_,_,_,h,_=>by cases h
 |_::_,[],_,_,h,_=>by cases h
 |a::l,x::xs,us,p,h,hx=>by
  cases hx with
  |cons h1 h2=>
   unfold xdL at h;split at h
   ·rename_i p1 q1 h3 h4;cases h;obtain⟨h5,h6⟩:=xdC hS hQ hR hN hO h3 (h1.b (ymY h3).2.1);obtain⟨h7,h8⟩:=ynB hS hQ hR hN hO h4 h2;refine⟨h5.app h7,fun rest=>?_⟩;obtain⟨h9,h10,h13,_⟩:=h6 (q1++rest);obtain⟨h11,h12⟩:=h8 rest;rw[aU];simp only[yjZ,h10];exact⟨.cons (VA.of h9 h13) h11,h12⟩
   ·cases h
theorem yyX(hS:Mem.le S S2)(hQ:yeF S S2 E hq)(hR:RE ρ E E')(hN:E'.length=ρ.length)(hO:HpE hp E){a:Sh}{x:SV}{u:Value}{p:List SV}(h:a.getC ρ hp hq x=some p)(hx:VC S E x u):
  Can a.tysC p/\∀rest,VC S2 E' (a.putC (p++rest)).1 u/\(a.putC (p++rest)).2=rest:=by
 have base:∀{a:Sh},a.getB ρ hp hq x=some p->a.tysC=a.tysB->(∀l,a.putC l=a.putB l)->Can a.tysC p/\∀rest,VC S2 E' (a.putC (p++rest)).1 u/\(a.putC (p++rest)).2=rest:=fun {a} h e1 e2=>by obtain⟨h1,h2⟩:=xdC hS hQ hR hN hO h (hx.b (ymY h).1);rw[e1];exact⟨h1,fun rest=>by rw[e2];exact⟨(h2 rest).1.c,(h2 rest).2.1⟩⟩
 cases a with
 |fn f la lc=>
  cases x with
  |fn f' a' c'=>
   simp only[Sh.getC]at h;cases hb:aG f f' with
   |false=>rw[hb]at h;cases h
   |true=>
    rw[hb]at h;have:=aB hb;subst this;simp only[zE]at h;split at h
    ·rename_i p1 q1 h3 h4;cases h;obtain⟨us,ws,hu,h5,h6⟩:=hx;obtain⟨k1,k2⟩:=ynB hS hQ hR hN hO h3 h5;obtain⟨k3,k4⟩:=ynB hS hQ hR hN hO h4 h6;refine⟨k1.app k3,fun rest=>?_⟩;obtain⟨k5,k6⟩:=k2 (q1++rest);obtain⟨k7,k8⟩:=k4 rest;rw[aU];simp only[Sh.putC,k6];exact⟨⟨us,ws,hu,k5,k7⟩,k8⟩
    ·cases h
  |_=>cases h
 |_=>exact base h rfl fun _=>rfl
theorem ymP(hS:Mem.le S S2)(hQ:yeF S S2 E hq)(hR:RE ρ E E')(hN:E'.length=ρ.length)(hO:HpE hp E):∀{l:List Sh} {xs:List SV} {us:LV} {p:List SV},xeR ρ hp hq l xs=some p->A2 (VC S E) xs us ->
  Can (l.flatMap Sh.tysC) p/\∀rest,A2 (VC S2 E') (yjG l (p++rest)).1 us/\(yjG l (p++rest)).2=rest
 |[],[],us,p,h,hx=>by cases h;cases hx;exact⟨.nil,fun rest=>⟨.nil,rfl⟩⟩
 |[],_::_,_,_,h,_=>by cases h
 |_::_,[],_,_,h,_=>by cases h
 |a::l,x::xs,us,p,h,hx=>by
  cases hx with
  |cons h1 h2=>
   unfold xeR at h;split at h
   ·rename_i p1 q1 h3 h4;cases h;obtain⟨h5,h6⟩:=yyX hS hQ hR hN hO h3 h1;obtain⟨h7,h8⟩:=ymP hS hQ hR hN hO h4 h2;refine⟨h5.app h7,fun rest=>?_⟩;obtain⟨h9,h10⟩:=h6 (q1++rest);obtain⟨h11,h12⟩:=h8 rest;rw[aU];simp only[yjG,h10];exact⟨.cons h9 h11,h12⟩
   ·cases h
theorem yoZ{a:Sh}{x:SV}{p:List SV}(h:a.getC ρ hp hq x=some p):notu x=true/\noag x=true:=by
 have base:∀(a:Sh),a.getB ρ hp hq x=some p->notu x=true/\noag x=true:=fun a h=>⟨(ymY h).2.2,(ymY h).2.1⟩;cases a with
 |fn=>cases x<;>first|exact⟨rfl,rfl⟩|cases h
 |h t=>exact base (.h t) h|own i=>exact base (.own i) h|ptr i o=>exact base (.ptr i o) h|nilp=>exact base .nilp h|nils=>exact base .nils h|mpr i=>exact base (.mpr i) h|hc e=>exact base (.hc e) h|hr t=>exact base (.hr t) h|fs i=>exact base (.fs i) h|kn k c=>exact base (.kn k c) h|ag l=>exact base (.ag l) h
theorem get_ok(hS:Mem.le S S2)(hQ:yeF S S2 E hq)(hR:RE ρ E E')(hN:E'.length=ρ.length)(hO:HpE hp E){a:Sh}{x:SV}{u:Value}{p:List SV}(h:a.get ρ hp hq x=some p)(hx:VR S E x u):
  Can a.tys p/\∀rest,VR S2 E' (a.put (p++rest)).1 u/\(a.put (p++rest)).2=rest:=by
 have base:∀{a:Sh},a.getC ρ hp hq x=some p->a.tys=a.tysC->(∀l,a.put l=a.putC l)->Can a.tys p/\∀rest,VR S2 E' (a.put (p++rest)).1 u/\(a.put (p++rest)).2=rest:=fun {a} h e1 e2=>by obtain⟨h1,h2⟩:=yyX hS hQ hR hN hO h ((hx.b (yoZ h).1).b (yoZ h).2);rw[e1];exact⟨h1,fun rest=>by rw[e2];exact⟨VR.ofC (h2 rest).1,(h2 rest).2⟩⟩
 cases a with
 |h t=>
  simp only[Sh.get]at h;split at h
  ·rename_i y hy;cases h;refine⟨.cons y .nil,fun rest=>⟨?_,rfl⟩⟩;exact VR.of (zuK (zzL hS hQ hy hx))
  ·cases h
 |ag l=>
  cases x with
  |ag xs=>obtain⟨us,hu,hx⟩:=hx;obtain⟨h1,h2⟩:=ymP hS hQ hR hN hO h hx;exact⟨h1,fun rest=>⟨⟨us,hu,(h2 rest).1⟩,(h2 rest).2⟩⟩
  |_=>cases h
 |_=>exact base h rfl fun _=>rfl
theorem xcM(hS:Mem.le S S2)(hQ:yeF S S2 E hq)(hR:RE ρ E E')(hN:E'.length=ρ.length)(hO:HpE hp E):∀{l:List Sh} {xs:List SV} {us:LV} {p:List SV},getL ρ hp hq l xs=some p->A2 (VR S E) xs us ->
  Can (l.flatMap Sh.tys) p/\∀rest,A2 (VR S2 E') (putL l (p++rest)).1 us/\(putL l (p++rest)).2=rest
 |[],[],us,p,h,hx=>by cases h;cases hx;exact⟨.nil,fun rest=>⟨.nil,rfl⟩⟩
 |[],_::_,_,_,h,_=>by cases h
 |_::_,[],_,_,h,_=>by cases h
 |a::l,x::xs,us,p,h,hx=>by
  cases hx with
  |cons h1 h2=>
   unfold getL at h;split at h
   ·rename_i p1 q1 h3 h4;cases h;obtain⟨h5,h6⟩:=get_ok hS hQ hR hN hO h3 h1;obtain⟨h7,h8⟩:=xcM hS hQ hR hN hO h4 h2;refine⟨h5.app h7,fun rest=>?_⟩;obtain⟨h9,h10⟩:=h6 (q1++rest);obtain⟨h11,h12⟩:=h8 rest;rw[aU];simp only[putL,h10];exact⟨.cons h9 h11,h12⟩
   ·cases h
end
def ybA:Res:=.osl (.slice none 0 0) 0 0 [] [] 0
def reL(L:List Res):List OSh->List Nat->List Res
 |o::os,id::ids=>(bif live o then(match lkR L id with
  |some r=>r|none=>ybA)else ybA)::reL L os ids
 |_,_=>[]
def reI:OSh->Option EI->EI
 |.dead,_=>.dead|_,none=>.dead|.osl _ _,some (.osl _ v s)=>.osl 0 v s|.qu _ _,some (.osl _ v s)=>.osl 0 v s|.mp kp _ _,some (.mp _ b ck es)=>.mp (bif kp then 0 else 1) b ck es|.fam _ _,some (.fam _ v bs)=>.fam 0 v bs|_,some e=>e
def reE(E:List EI):List OSh->List Nat->List EI
 |o::os,id::ids=>reI o E[id]? :: reE E os ids|_,_=>[]
theorem reE_ok(E:List EI):∀(os:List OSh) (ids:List Nat),RE ids E (reE E os ids)
 |[],_,i,e',h=>by cases i<;>cases h
 |_::_,[],i,e',h=>by cases i<;>cases h
 |o::os,id::ids,0,e',h=>by
  cases h;cases hE:E[id]? with
  |none=>left;cases o<;>rfl
  |some e=>
   cases o with
   |dead=>exact .inl rfl|blk=>exact .inr ⟨id,e,rfl,hE,.inl rfl⟩|it=>exact .inr ⟨id,e,rfl,hE,.inl rfl⟩|is=>exact .inr ⟨id,e,rfl,hE,.inl rfl⟩|osl=>
    cases e with
    |osl r v s=>exact .inr ⟨id,_,rfl,hE,.inr (.inl ⟨r,v,s,rfl,rfl⟩)⟩|_=>exact .inr ⟨id,_,rfl,hE,.inl rfl⟩
   |qu=>
    cases e with
    |osl r v s=>exact .inr ⟨id,_,rfl,hE,.inr (.inl ⟨r,v,s,rfl,rfl⟩)⟩|_=>exact .inr ⟨id,_,rfl,hE,.inl rfl⟩
   |mp=>
    cases e with
    |mp g b ck es=>exact .inr ⟨id,_,rfl,hE,.inr (.inr (.inl ⟨g,b,ck,es,_,rfl,rfl⟩))⟩|_=>exact .inr ⟨id,_,rfl,hE,.inl rfl⟩
   |fam=>
    cases e with
    |fam r v bs=>exact .inr ⟨id,_,rfl,hE,.inr (.inr (.inr ⟨r,v,bs,rfl,rfl⟩))⟩|_=>exact .inr ⟨id,_,rfl,hE,.inl rfl⟩
 |o::os,id::ids,k+1,e',h=>by
  have h:(reE E os ids)[k]? = some e':=by simpa[reE]using h
  rcases reE_ok E os ids k e' h with h1|⟨id',e,h1,h2,h3⟩
  ·exact .inl h1
  ·exact .inr ⟨id',e,by simpa using h1,h2,h3⟩
theorem xdK(E:List EI):∀(os:List OSh) (ids:List Nat) {k:Nat} {kp:Bool} {K V:Ty} {g b ck:Nat} {es:List MapEntry},os[k]? = some (.mp kp K V)->(reE E os ids)[k]? = some (.mp g b ck es)->g=bif kp then 0 else 1
 |[],_,_,_,_,_,_,_,_,_,h,_=>by simp at h
 |_::_,[],_,_,_,_,_,_,_,_,_,h=>by simp[reE]at h
 |o::os,id::ids,0,_,_,_,_,_,_,_,h,h2=>by
  simp at h;subst h;simp only[reE,List.getElem?_cons_zero,Option.some.injEq]at h2;cases hE:E[id]? with
  |none=>rw[hE]at h2;cases h2
  |some e=>rw[hE]at h2;cases e<;>cases h2;rfl
 |o::os,id::ids,k+1,_,_,_,_,_,_,_,h,h2=>xdK E os ids (k:=k) (by simpa using h) (by simpa[reE]using h2)
theorem xbU(E:List EI):∀(os:List OSh) (ids:List Nat),os.length=ids.length->(reE E os ids).length=ids.length
 |[],[],_=>rfl|_::os,_::ids,h=>by simp[reE,xbU E os ids (by simpa using h)]
theorem ykC(L:List Res):∀(os:List OSh) (ids:List Nat) (k:Nat) (q:Res),lkR (reL L os ids) k=some q->q=ybA∨∃o id,os[k]? = some o/\live o=true/\ids[k]? = some id/\lkR L id=some q
 |[],_,k,q,h=>by simp[reL,lkR]at h
 |o::os,[],k,q,h=>by simp[reL,lkR]at h
 |o::os,id::ids,0,q,h=>by
  simp only[reL,lkR]at h;cases hl:live o with
  |false=>rw[hl]at h;cases h;exact .inl rfl
  |true=>
   rw[hl]at h;simp only[zE,Option.some.injEq]at h;cases hL:lkR L id with
   |none=>rw[hL]at h;exact .inl h.symm|some r=>rw[hL]at h;subst h;exact .inr ⟨o,id,rfl,hl,rfl,hL⟩
 |o::os,id::ids,k+1,q,h=>by
  simp only[reL,lkR]at h;rcases ykC L os ids k q h with h1|⟨o',id',h1,h2,h3,h4⟩
  ·exact .inl h1
  ·exact .inr ⟨o',id',by simpa using h1,h2,by simpa using h3,h4⟩
theorem yeG{id:Nat}:∀{os:List OSh} {ids:List Nat} {k:Nat} {o:OSh},os[k]? = some o->live o=true->ids[k]? = some id->ygW id os ids=true
 |[],_,k,_,h,_,_=>by simp at h
 |_::_,[],k,_,_,_,h=>by simp at h
 |o::os,i::ids,0,_,h1,h2,h3=>by simp at h1 h3;subst h1;subst h3;simp[ygW,h2]
 |o::os,i::ids,k+1,_,h1,h2,h3=>by simp only[ygW,bY];exact .inr (yeG (by simpa using h1) h2 (by simpa using h3))
theorem yrI:∀{os:List OSh} {ids:List Nat} {k k':Nat} {o o':OSh} {id:Nat},dist os ids=true->os[k]? = some o->live o=true->ids[k]? = some id->os[k']? = some o'->live o'=true->ids[k']? = some id->k=k'
 |[],_,k,_,_,_,_,_,h,_,_,_,_,_=>by simp at h
 |_::_,[],k,_,_,_,_,_,_,_,h,_,_,_=>by simp at h
 |o::os,i::ids,k,k',o1,o2,id,hd,h1,h2,h3,h4,h5,h6=>by
  simp only[dist,Bool.and_eq_true,bY,Bool.not_eq_true']at hd;cases k with
  |zero=>
   simp at h1 h3;subst h1;subst h3;cases k' with
   |zero=>rfl|succ k'=>
    rcases hd.1 with h|h
    ·rw[h2]at h;cases h
    ·rw[yeG (by simpa using h4) h5 (by simpa using h6)]at h;cases h
  |succ k=>
   cases k' with
   |zero=>
    simp at h4 h6;subst h4;subst h6;rcases hd.1 with h|h
    ·rw[h5]at h;cases h
    ·rw[yeG (by simpa using h1) h2 (by simpa using h3)]at h;cases h
   |succ k'=>exact congrArg (· + 1) (yrI hd.2 (by simpa using h1) h2 (by simpa using h3) (by simpa using h4) h5 (by simpa using h6))
theorem HS.re{B:Bas}{S:Mem}{w:World}{L:List Res}(H:HS B S w L){os:List OSh}{ids:List Nat}(hd:dist os ids=true):HS B S w (reL L os ids):=by
 refine⟨H.fr,H.sub,H.keep,fun i q h=>?_,fun i q b h hb=>?_,fun i j q s b hi hj hq hs=>?_⟩
 ·rcases ykC L os ids i q h with rfl|⟨_,id,_,_,_,h⟩
  ·exact .inl ⟨rfl,rfl,rfl,rfl⟩
  ·exact H.own id q h
 ·rcases ykC L os ids i q h with rfl|⟨_,id,_,_,_,h⟩
  ·cases hb
  ·exact H.old id q b h hb
 ·rcases ykC L os ids i q hi with rfl|⟨o1,id1,g1,g2,g3,g4⟩
  ·cases hq
  ·rcases ykC L os ids j s hj with rfl|⟨o2,id2,g5,g6,g7,g8⟩
   ·cases hs
   ·have:=H.inj id1 id2 q s b g4 g8 hq hs;subst this;exact yrI hd g1 g2 g3 g5 g6 g7
inductive OL (S:Mem) (E:List EI):List AO->List Res->List EI->Prop
 |nil:OL S E [] [] []
 |cons {o r e os rs es}:OR S E o r e->OL S E os rs es->OL S E (o::os) (r::rs) (e::es)
section
variable {n:Nat}{B:Bas}{S:Mem}{E E':List EI}{L:List Res}{σ:St}{m:FM}{V:Nat->Value}{w:World}{ρ:List Nat}{hp:List AO}
theorem OL.len:∀{os:List AO} {rs:List Res} {es:List EI},OL S E os rs es->rs.length=os.length/\es.length=os.length
 |_,_,_,.nil=>⟨rfl,rfl⟩|_,_,_,.cons _ t=>by obtain⟨h1,h2⟩:=OL.len t;exact⟨by simp[h1],by simp[h2]⟩
theorem OL.at:∀{os:List AO} {rs:List Res} {es:List EI},OL S E os rs es->∀(i:Nat) o,os[i]? = some o->∃r e,rs[i]? = some r/\es[i]? = some e/\OR S E o r e
 |_,_,_,.nil,i,o,h=>by cases i<;>cases h
 |_,_,_,.cons a t,0,o,h=>by cases h;exact⟨_,_,rfl,rfl,a⟩
 |_,_,_,.cons a t,i+1,o,h=>by obtain⟨r,e,h1,h2,h3⟩:=OL.at t i o (by simpa using h);exact⟨r,e,by simpa using h1,by simpa using h2,h3⟩
theorem ztD{all:List OSh}(hG:∀(k:Nat) kp K V,all[k]? = some (.mp kp K V)->∀g b ck es,E'[k]? = some (.mp g b ck es)->g=bif kp then 0 else 1)(hR:RE ρ E E')(hN:E'.length=ρ.length)(hO:HpE hp E) (ho:∀(i:Nat) o,hp[i]? = some o->∃r e,L[i]? = some r/\E[i]? = some e/\OR S E o r e):∀{os:List OSh} {ids:List Nat} {q:List SV},zoG ρ hp os ids=some q->itOk all os=true->os.length=ids.length ->
  Can (os.flatMap OSh.tys) q/\∀rest,OL S E' (ziJ os (q++rest)) (reL L os ids) (reE E os ids)
 |[],ids,_,h,_,hl=>by
  cases h
  have:ids=[]:=by cases ids with
   |nil=>rfl|cons=>simp at hl
  subst this;exact⟨.nil,fun _=>by simp[ziJ,reL,reE];exact .nil⟩
 |o::os,[],_,_,_,hl=>by simp at hl
 |o::os,id::ids,q,h,hi,hl=>by
  have hl':os.length=ids.length:=by simpa using hl
  cases o with
  |dead=>simp only[zoG]at h;obtain⟨h2,h3⟩:=ztD hG hR hN hO ho h hi hl';exact⟨h2,fun rest=>.cons ⟨rfl,rfl⟩ (h3 rest)⟩
  |blk T l=>
   simp only[zoG]at h;split at h
   ·rename_i T' cs hc;cases hb:aG T T' with
    |false=>rw[hb]at h;cases h
    |true=>
     rw[hb]at h;have hT:=aB hb;subst hT;simp only[zE]at h;split at h
     ·rename_i p1 q1 h4 h5;cases h;rw[zfR]at hc;obtain⟨r,e,k1,k2,b,us,rfl,rfl,h6⟩:=ho id _ hc;obtain⟨h2,h3⟩:=ztD hG hR hN hO ho h5 hi hl';obtain⟨h7,h8⟩:=ymP (Mem.le_refl S) zkG hR hN hO h4 h6;refine⟨h7.app h2,fun rest=>?_⟩;obtain⟨h9,h10⟩:=h8 (q1++rest);rw[aU];simp only[ziJ,h10,reL,reE,zbZ,k1,k2,live,zE,reI];exact .cons ⟨b,us,rfl,rfl,h9⟩ (h3 rest)
     ·cases h
   ·cases h
  |osl e T=>
   simp only[zoG]at h;split at h
   ·rename_i r e' T' ys hc;cases hb:aG T T' with
    |false=>rw[hb]at h;cases h
    |true=>
     rw[hb]at h;have hT:=aB hb;subst hT;simp only[zE]at h;split at h
     ·rename_i hh q1 h4 h5;cases h;subst hh;rw[zfR]at hc;obtain⟨r1,e1,k1,k2,v,v',cs,rs,rfl,rfl,h6⟩:=ho id _ hc;obtain⟨h2,h3⟩:=ztD hG hR hN hO ho h5 hi hl';refine⟨Can.cons (t:=.sl e') (show den (.sl e')from ys) h2,fun rest=>?_⟩;obtain⟨h7,h8⟩:=zhB e';simp only[bG,ziJ,h8,reL,reE,zbZ,k1,k2,live,zE,reI];exact .cons ⟨v,v',cs,rs,rfl,rfl,h6⟩ (h3 rest)
     ·cases h
   ·cases h
  |qu e T=>
   simp only[zoG]at h;split at h
   ·rename_i r e' T' ys hc;cases hb:aG T T' with
    |false=>rw[hb]at h;cases h
    |true=>
     rw[hb]at h;have hT:=aB hb;subst hT;simp only[zE]at h;split at h
     ·rename_i hh q1 h4 h5;cases h;subst hh;rw[zfR]at hc;obtain⟨r1,e1,k1,k2,b,c,p,ps,cs,rs,qq,c',rfl,rfl,h6⟩:=ho id _ hc;obtain⟨h2,h3⟩:=ztD hG hR hN hO ho h5 hi hl';refine⟨Can.cons (t:=.sl e') (show den (.sl e')from ys) h2,fun rest=>?_⟩;obtain⟨h7,h8⟩:=zhB e';simp only[bG,ziJ,h8,reL,reE,zbZ,k1,k2,live,zE,reI];exact .cons ⟨b,c,p,ps,cs,rs,qq,c',rfl,rfl,h6⟩ (h3 rest)
     ·cases h
   ·cases h
  |mp kp K V=>
   simp only[zoG]at h;split at h
   ·rename_i g K' V' es hc;split at h
    ·rename_i hh q1 h4 h5;cases h;cases hh;rw[zfR]at hc;obtain⟨r1,e1,k1,k2,b,ents,ck,rfl,rfl,h6,h7⟩:=ho id _ hc;obtain⟨h2,h3⟩:=ztD hG hR hN hO ho h5 hi hl';refine⟨Can.cons (t:=.mp _ _) (show den (.mp _ _)from es) h2,fun rest=>?_⟩;obtain⟨h8,h9⟩:=zhB (.mp K V);simp only[bG,ziJ,h9,reL,reE,zbZ,k1,k2,live,zE,reI];exact .cons ⟨b,ents,ck,rfl,rfl,h6,h7⟩ (h3 rest)
    ·cases h
   ·cases h
  |is=>
   simp only[zoG]at h;split at h
   ·rename_i l p q1 hc h5;cases h;rw[zfR]at hc;obtain⟨r1,e1,k1,k2,b,rfl,rfl⟩:=ho id _ hc;obtain⟨h2,h3⟩:=ztD hG hR hN hO ho h5 hi hl';refine⟨Can.cons (t:=.s) l (Can.cons (t:=.i .i64) (p:Int) h2),fun rest=>?_⟩;simp only[bG,ziJ,reL,reE,zbZ,k1,k2,live,zE,reI];exact .cons ⟨b,rfl,rfl⟩ (h3 rest)
   ·cases h
  |fam T f=>
   simp only[zoG]at h;split at h
   ·rename_i r T' f' ks hc;cases hb:aG T T' with
    |false=>rw[hb]at h;cases h
    |true=>
     rw[hb]at h;have hT:=aB hb;subst hT;simp only[zE]at h;split at h
     ·rename_i hh q1 h4 h5;cases h;subst hh;rw[zfR]at hc;obtain⟨r1,e1,k1,k2,v,rs,ms,bs,rfl,rfl,h6⟩:=ho id _ hc;obtain⟨h2,h3⟩:=ztD hG hR hN hO ho h5 hi hl';refine⟨Can.cons (t:=.sl (fT f')) (show den (.sl (fT f'))from ks) h2,fun rest=>?_⟩;obtain⟨h7,h8⟩:=zhB (fT f');simp only[bG,ziJ,h8,reL,reE,zbZ,k1,k2,live,zE,reI];exact .cons ⟨v,rs,ms,bs,rfl,rfl,h6⟩ (h3 rest)
     ·cases h
   ·cases h
  |it j kp K=>
   simp only[itOk]at hi;split at hi
   ·rename_i kp' K0 V0 hj;have hkp:kp'=kp:=by cases kp<;>cases kp'<;>first|rfl|cases zbH hi
    subst hkp;replace hi:=zbR hi;simp only[zoG]at h;split at h
    ·rename_i mid g K' cur ks mid' hc hm;split at h
     ·rename_i g' K1 V1 es1 hm1;obtain⟨hb,hq⟩:=zaG h;clear h;have h1:=aB (zbH hb);have h2:=aB (zbR hb);subst h1;subst h2;split at hq
      ·rename_i hh q1 h4 h5;cases hq;subst hh;rw[zfR]at hc hm hm1 hj;obtain⟨r1,e1,k1,k2,b,mb,ck,seen,rfl,rfl,hK,e2,k3,k4⟩:=ho id _ hc;obtain⟨r3,e3,_,k5,b3,ents,ck3,rfl,rfl,_,_⟩:=ho mid _ hm1;rw[k5]at k3;cases k3;obtain⟨_,k6⟩:=k4 _ _ _ _ rfl;obtain⟨h2,h3⟩:=ztD hG hR hN hO ho h5 hi hl';refine⟨Can.cons (t:=.sl K') (show den (.sl K')from ks) h2,fun rest=>?_⟩;obtain⟨h8,h9⟩:=zhB K';simp only[bG,ziJ,h9,reL,reE,zbZ,k1,k2,live,zE,reI];refine .cons ⟨b,mb,ck,seen,rfl,rfl,hK,?_⟩ (h3 rest);have hjl:j<E'.length:=by rw[hN];exact(aD.1 hm).1
       refine⟨E'[j],aO hjl,fun g2 b2 c2 es2 he=>?_⟩;have hEj:=aO hjl;rw[he]at hEj;have hg2:=hG j _ _ _ hj _ _ _ _ hEj;subst hg2;refine⟨aI _,fun _=>?_⟩;rcases hR j _ hEj with h|⟨id',e',r1,r2,r3⟩
       ·cases h
       ·rw[hm]at r1;cases r1;rw[k5]at r2;cases r2;obtain⟨q1,q2,q3⟩:=k6 rfl;have q4:b2=b3/\c2=ck3/\es2=ents:=by
         rcases r3 with r3|⟨_,_,_,r3,_⟩|⟨_,_,_,_,_,r3,r4⟩|⟨_,_,_,r3,_⟩
         ·cases r3;exact⟨rfl,rfl,rfl⟩
         ·cases r3
         ·cases r3;cases r4;exact⟨rfl,rfl,rfl⟩
         ·cases r3
        obtain⟨rfl,rfl,rfl⟩:=q4;exact⟨q1,q2,fun en hen=>⟨(q3 en hen).1,fun c hcc=>by cases hcc⟩⟩
      ·cases hq
     ·cases h
    ·cases h
   ·cases hi
theorem ywE(hR:RE ρ E E')(hN:E'.length=ρ.length)(hO:HpE σ.hp E)(hs:∀t,VR S E (lkS σ.sl t) (V t)):∀{s:List (Nat×Sh)} {p:List SV},getSl ρ σ s=some p ->
  Can (s.flatMap fun p=>p.2.tys) p/\∀rest,(∀t,VR S E' (lkS (ysT s (p++rest)).1 t) (V t))/\(ysT s (p++rest)).2=rest
 |[],p,h=>by cases h;exact⟨.nil,fun rest=>⟨fun t=>trivial,rfl⟩⟩
 |(d,a)::s,p,h=>by
  unfold getSl at h;split at h
  ·rename_i p1 q1 h1 h2;cases h;obtain⟨h3,h4⟩:=get_ok (Mem.le_refl S) zkG hR hN hO h1 (hs d);obtain⟨h5,h6⟩:=ywE hR hN hO hs h2;refine⟨h3.app h5,fun rest=>?_⟩;obtain⟨h7,h8⟩:=h4 (q1++rest);obtain⟨h9,h10⟩:=h6 rest;rw[aU];simp only[ysT,h8];refine⟨fun t=>?_,h10⟩;unfold lkS;cases ht:aG d t with
   |true=>rw[<-aB ht];exact h7|false=>exact h9 t
  ·cases h
theorem ygI(k:Nat)(b:List (Nat×Nat)):∀(os:List OSh) (i:Nat),os.length=(rhoL k b i os).length
 |[],_=>rfl|_::os,i=>by simp[rhoL,ygI k b os (i+1)]
theorem ysL(R:RelV B S E L σ V w){s:Shp}{ρ:List Nat}{x:zfB s.tys}(hl:s.hp.length=ρ.length)(h:s.get1 ρ σ=some x):RelV B S (reE E s.hp ρ) (reL L s.hp ρ) (s.put x) V w:=by
 unfold Shp.get1 at h;obtain⟨hd,h⟩:=zaG h;have hit:=zbR hd;replace hd:=zbH hd;split at h
 ·rename_i p q h1 h2;have hO:HpE σ.hp E:=.of R.obj;have hR:=reE_ok E s.hp ρ;have hN:=xbU E s.hp ρ hl;obtain⟨h3,h4⟩:=ywE hR hN hO R.sl h1;obtain⟨h5,h6⟩:=ztD (all:=s.hp) (fun k kp K V hk g b ck es he=>xdK E s.hp ρ hk he) hR hN hO R.obj h2 hit hl;have h7:zvW s.tys x=p++q:=yrU [] (h3.app h5) h;obtain⟨h8,h9⟩:=h4 q;unfold Shp.put;rw[h7];have h10:=h6 [];rw[List.append_nil]at h10;rw[h9];exact⟨HS.re R.hs hd,h10.len.1,h10.len.2,fun i o ho=>h10.at i o ho,h8⟩
 ·cases h
def PinI(e e':EI):Prop:=e' = .dead∨e'=e∨(∃g b ck es g' ck' es',e = .mp g b ck es/\e' = .mp g' b ck' es'/\(g'=0->g=0/\ck'=ck/\Fewer es es'))∨∃r v bs r' v' bs',e = .fam r v bs/\e' = .fam r' v' bs'
theorem PinI.refl(e:EI):PinI e e:=.inr (.inl rfl)
theorem PinI.trans{a b c:EI}(h:PinI a b)(k:PinI b c):PinI a c:=by
 rcases k with rfl|rfl|⟨g,x,ck,es,g',ck',es',rfl,rfl,k⟩|⟨r,v,bs,r',v',bs',rfl,rfl⟩
 ·exact .inl rfl
 ·exact h
 ·rcases h with h|h|⟨g1,x1,c1,e1,g2,c2,e2,rfl,h,k1⟩|⟨_,_,_,_,_,_,_,h⟩
  ·cases h
  ·subst h;exact .inr (.inr (.inl ⟨_,_,_,_,_,_,_,rfl,rfl,k⟩))
  ·cases h;refine .inr (.inr (.inl ⟨_,_,_,_,_,_,_,rfl,rfl,fun h0=>?_⟩));obtain⟨h1,h2,h3⟩:=k h0;obtain⟨h4,h5,h6⟩:=k1 h1;exact⟨h4,h2.trans h5,h6.trans h3⟩
  ·cases h
 ·rcases h with h|h|⟨_,_,_,_,_,_,_,_,h,_⟩|⟨_,_,_,_,_,_,rfl,h⟩
  ·cases h
  ·subst h;exact .inr (.inr (.inr ⟨_,_,_,_,_,_,rfl,rfl⟩))
  ·cases h
  ·exact .inr (.inr (.inr ⟨_,_,_,_,_,_,rfl,rfl⟩))
def Pin(N0:Nat)(E E':List EI):Prop:=∀(k:Nat) e,k<N0->E[k]? = some e->∃e',E'[k]? = some e'/\((∃r v s,e = .osl r v s/\(e' = .dead∨∃r' v',e' = .osl r' v' s/\(r'=0->r=0/\v'=v)))∨((∀r v s,e≠.osl r v s)/\PinI e e'))
theorem Pin.refl(N0:Nat)(E:List EI):Pin N0 E E:=fun k e _ h=>⟨e,h,by
 by_cases hh:∃r v s,e = .osl r v s
 ·obtain⟨r,v,s,rfl⟩:=hh;exact .inl ⟨r,v,s,rfl,.inr ⟨r,v,rfl,fun h=>⟨h,rfl⟩⟩⟩
 ·exact .inr ⟨fun r v s h=>hh ⟨r,v,s,h⟩,.refl e⟩⟩
theorem PinI.noosl{e e':EI}(h:PinI e e')(hn:∀r v s,e≠.osl r v s):∀r v s,e'≠.osl r v s:=fun r v s h'=>by
 subst h';rcases h with h|h|⟨_,_,_,_,_,_,_,_,h,_⟩|⟨_,_,_,_,_,_,_,h⟩
 ·cases h
 ·exact hn _ _ _ h.symm
 ·cases h
 ·cases h
theorem Pin.trans{N0:Nat}{A B C:List EI}(h:Pin N0 A B)(k:Pin N0 B C):Pin N0 A C:=fun i e hi he=>by
 obtain⟨e1,h1,h2⟩:=h i e hi he;obtain⟨e2,h3,h4⟩:=k i e1 hi h1;refine⟨e2,h3,?_⟩;rcases h2 with⟨r,v,s,rfl,h2⟩|⟨hn,h2⟩
 ·refine .inl ⟨r,v,s,rfl,?_⟩;rcases h2 with rfl|⟨r1,v1,rfl,h2⟩
  ·rcases h4 with⟨_,_,_,h,_⟩|⟨_,h4⟩
   ·cases h
   ·rcases h4 with h4|h4|⟨_,_,_,_,_,_,_,h,_,_⟩|⟨_,_,_,_,_,_,h,_⟩
    ·exact .inl h4
    ·exact .inl h4
    ·cases h
    ·cases h
  ·rcases h4 with⟨r2,v2,s2,h,h4⟩|⟨hn,_⟩
   ·cases h;rcases h4 with h4|⟨r3,v3,rfl,h4⟩
    ·exact .inl h4
    ·refine .inr ⟨r3,v3,rfl,fun h0=>?_⟩;obtain⟨h5,h6⟩:=h4 h0;obtain⟨h7,h8⟩:=h2 h5;exact⟨h7,h6.trans h8⟩
   ·exact absurd rfl (hn _ _ _)
 ·refine .inr ⟨hn,?_⟩;rcases h4 with⟨r,v,s,h,_⟩|⟨_,h4⟩
  ·exact absurd h (h2.noosl hn _ _ _)
  ·exact h2.trans h4
theorem Pin.of{N0:Nat}{E E':List EI}(h:ELe E E'):Pin N0 E E':=fun k e _ he=>by
 obtain⟨e',h1,h2⟩:=h k e he;refine⟨e',h1,?_⟩;cases e with
 |blk b=>
  refine .inr ⟨fun _ _ _ h=>(by cases h),?_⟩;rcases h2 with h2|h2
  ·exact .inr (.inl h2)
  ·exact .inl h2
 |osl r v s=>
  refine .inl ⟨r,v,s,rfl,?_⟩;rcases h2 with rfl|rfl|⟨r',v',rfl,h3⟩
  ·exact .inr ⟨r,v,rfl,fun h=>⟨h,rfl⟩⟩
  ·exact .inl rfl
  ·exact .inr ⟨r',v',rfl,fun h=>by omega⟩
 |mp g b ck es=>
  refine .inr ⟨fun _ _ _ h=>(by cases h),?_⟩;rcases h2 with rfl|⟨g',ck',es',rfl,h3⟩
  ·exact .inl rfl
  ·refine .inr (.inr (.inl ⟨_,_,_,_,_,_,_,rfl,rfl,fun h0=>?_⟩));rcases h3 with h3|⟨h4,h5,h6⟩
   ·omega
   ·exact⟨by omega,h5.symm,h6⟩
 |fam r v bs=>
  refine .inr ⟨fun _ _ _ h=>(by cases h),?_⟩;rcases h2 with h2|h2|⟨r',v',bs',rfl,h3⟩
  ·exact .inr (.inl h2)
  ·exact .inl h2
  ·exact .inr (.inr (.inr ⟨_,_,_,_,_,_,rfl,rfl⟩))
 |dead=>have h2:e' = .dead:=h2;exact .inr ⟨fun _ _ _ h=>(by cases h),.inl h2⟩
theorem idB_lk:∀(n i k:Nat) (l:List (Nat×Nat)),i<=k->k<i+n->lkN (idB i n++l) k=some k
 |0,_,_,_,h1,h2=>by omega
 |n+1,i,k,l,h1,h2=>by
  simp only[idB,bG,lkN];cases hb:aG i k with
  |true=>rw[aB hb];rfl|false=>
   have:i≠k:=fun e=>by subst e;rw[fB]at hb;cases hb
   exact idB_lk n (i+1) k l (by omega) (by omega)
theorem xaF{a b:List (Nat×Nat)}{k i:Nat}(h:lkN a k=some i):lkN (a++b) k=some i:=by
 induction a with
 |nil=>cases h
 |cons p a ih=>
  obtain⟨x,y⟩:=p;simp only[bG,lkN]at h ⊢;cases hb:aG x k with
  |true=>rw[hb]at h;exact h|false=>rw[hb]at h;exact ih h
theorem zpC(hp:List AO){k i:Nat}:∀(os:List OSh) (j:Nat) (b:List (Nat×Nat)),lkN b k=some i->lkN (ybI hp j os b) k=some i
 |[],_,_,h=>h|.blk _ l::os,j,b,h=>by
  unfold ybI;refine zpC hp os (j+1) _ ?_;split
  ·split
   ·exact xaF h
   ·exact h
  ·exact h
 |.it _ _ _::os,j,b,h=>by
  unfold ybI;refine zpC hp os (j+1) _ ?_;split
  ·split
   ·exact xaF h
   ·exact h
  ·exact h
 |.is::os,j,b,h=>zpC hp os (j+1) b h|.qu _ _::os,j,b,h=>zpC hp os (j+1) b h|.osl _ _::os,j,b,h=>zpC hp os (j+1) b h|.mp _ _ _::os,j,b,h=>zpC hp os (j+1) b h|.fam _ _::os,j,b,h=>zpC hp os (j+1) b h|.dead::os,j,b,h=>zpC hp os (j+1) b h
theorem xeT(n:Nat)(b:List (Nat×Nat)):∀(os:List OSh) (j k:Nat),k<os.length->(rhoL n b j os)[k]? = some (match lkN b (j+k) with
  |some id=>id|none=>n)
 |[],_,_,h=>by simp at h
 |_::os,j,0,_=>rfl|_::os,j,k+1,h=>by have:=xeT n b os (j+1) k (by simpa using h);rw[show j+1+k=j+(k+1) by omega]at this;simpa[rhoL]using this
theorem rho_pin{N0 k:Nat}{s:Shp}(hk:k<N0)(hs:N0<=s.hp.length):(s.rho N0 σ)[k]? = some k:=by unfold Shp.rho;rw[xeT _ _ _ _ _ (by omega),zpC _ _ _ _ (idB_lk N0 0 (0+k) _ (by omega) (by omega))];simp
theorem xcS(E:List EI):∀(os:List OSh) (ids:List Nat) (k id:Nat),os.length=ids.length->ids[k]? = some id->∃o,os[k]? = some o/\(reE E os ids)[k]? = some (reI o E[id]?)
 |[],[],k,_,_,h=>by simp at h
 |o::os,id::ids,0,_,_,h=>by simp at h;subst h;exact⟨o,rfl,rfl⟩
 |o::os,id::ids,k+1,i,hl,h=>by obtain⟨o',h1,h2⟩:=xcS E os ids k i (by simpa using hl) (by simpa using h);exact⟨o',by simpa using h1,by simpa[reE]using h2⟩
theorem ywL:∀{N0:Nat} {l:List AO} {os:List OSh} {k:Nat},ybC N0 l os=true->k<N0->∀{ver:Nat} {e:Ty} {T:TypeId} {xs:List (den e)} {e':Ty} {T':TypeId},l[k]? = some (.osl ver e T xs)->os[k]? = some (.osl e' T')->ver=0
 |0,_,_,_,_,h,_,_,_,_,_,_,_,_=>by omega
 |n+1,[],_,k,_,_,_,_,_,_,_,_,h,_=>by simp at h
 |n+1,a::l,[],k,_,_,_,_,_,_,_,_,_,h=>by simp at h
 |n+1,a::l,o::os,0,h,_,ver,e,T,xs,e',T',h1,h2=>by simp at h1 h2;subst h1;subst h2;exact aB (zbH h)
 |n+1,a::l,o::os,k+1,h,hk,ver,e,T,xs,e',T',h1,h2=>by
  have h3:ybC n l os=true:=by cases a<;>cases o<;>first|exact h|exact zbR h|cases h
  exact ywL (k:=k) h3 (by omega) (by simpa using h1) (by simpa using h2)
theorem yoD:∀{N0:Nat} {l:List AO} {os:List OSh} {k:Nat} {T:TypeId} {f:List FSh},ybC N0 l os=true->k<N0->k<l.length->os[k]? = some (.fam T f)->False
 |0,_,_,_,_,_,_,h,_,_=>by omega
 |n+1,[],_,k,_,_,_,_,h,_=>by simp at h
 |n+1,a::l,[],k,_,_,_,_,_,h=>by simp at h
 |n+1,a::l,o::os,0,_,_,h,_,_,h2=>by simp at h2;subst h2;cases a<;>cases h
 |n+1,a::l,o::os,k+1,_,_,h,hk,hk2,h2=>by
  have h3:ybC n l os=true:=by cases a<;>cases o<;>first|exact h|exact zbR h|cases h
  exact yoD (k:=k) h3 (by omega) (by simpa using hk2) (by simpa using h2)
theorem yvM:∀{N0:Nat} {l:List AO} {os:List OSh} {k:Nat} {e:Ty} {T:TypeId},ybC N0 l os=true->k<N0->k<l.length->os[k]? = some (.qu e T)->False
 |0,_,_,_,_,_,_,h,_,_=>by omega
 |n+1,[],_,k,_,_,_,_,h,_=>by simp at h
 |n+1,a::l,[],k,_,_,_,_,_,h=>by simp at h
 |n+1,a::l,o::os,0,_,_,h,_,_,h2=>by simp at h2;subst h2;cases a<;>cases h
 |n+1,a::l,o::os,k+1,_,_,h,hk,hk2,h2=>by
  have h3:ybC n l os=true:=by cases a<;>cases o<;>first|exact h|exact zbR h|cases h
  exact yvM (k:=k) h3 (by omega) (by simpa using hk2) (by simpa using h2)
theorem frz_len(σ:St)(id:Nat):(frz σ id).hp.length=σ.hp.length:=by
 unfold frz;split
 ·simp[zsJ]
 ·rfl
theorem ygP:∀(l:List Nat) (σ:St),(frzL σ l).hp.length=σ.hp.length
 |[],_=>rfl|i::l,σ=>(ygP l (frz σ i)).trans (frz_len σ i)
theorem frzS_hp(σ:St)(id k:Nat){o:AO}(h:(frz σ id).hp[k]? = some o):∃o',σ.hp[k]? = some o'/\(o = .dead∨(∀ver e T (xs:List (den e)),o = .osl ver e T xs->o'=o)):=by
 unfold frz at h;split at h
 ·rename_i ver e T xs hc;simp only[dQ,zsJ]at h;cases hq:(σ.hp.set id .dead)[k]? with
  |none=>rw[hq]at h;cases h
  |some q=>
   rw[hq]at h;by_cases hj:id=k
   ·subst hj;have hi:id<σ.hp.length:=by have:=(aD.1 hq).1;simpa using this
    rw[bB hi]at hq;cases hq;cases h;exact⟨σ.hp[id],aO hi,.inl rfl⟩
   ·rw[bN hj]at hq;refine⟨q,hq,.inr fun ver' e' T' xs' ho=>?_⟩;cases h;cases q<;>first|rfl|cases ho
 ·exact⟨o,h,.inr fun _ _ _ _ _=>rfl⟩
theorem xeU:∀(l:List Nat) (σ:St) (k:Nat) {ver:Nat} {e:Ty} {T:TypeId} {xs:List (den e)},(frzL σ l).hp[k]? = some (.osl ver e T xs)->σ.hp[k]? = some (.osl ver e T xs)
 |[],_,_,_,_,_,_,h=>h|i::l,σ,k,_,_,_,_,h=>by
  have h1:=xeU l (frz σ i) k h;obtain⟨o',h2,h3⟩:=frzS_hp σ i k h1;rcases h3 with h3|h3
  ·cases h3
  ·rw[h2,h3 _ _ _ _ rfl]
theorem ywO:∀{N0:Nat} {l:List AO} {os:List OSh} {k:Nat},ybC N0 l os=true->k<N0->∀{g:Nat} {K V:Ty} {es:List (den K×den V)} {K' V':Ty},l[k]? = some (.mp g K V es)->os[k]? = some (.mp true K' V')->g=0
 |0,_,_,_,_,h,_,_,_,_,_,_,_,_=>by omega
 |n+1,[],_,k,_,_,_,_,_,_,_,_,h,_=>by simp at h
 |n+1,a::l,[],k,_,_,_,_,_,_,_,_,_,h=>by simp at h
 |n+1,a::l,o::os,0,h,_,g,K,V,es,K',V',h1,h2=>by simp at h1 h2;subst h1;subst h2;have h3:=zbH h;simp only[Bool.not_true,Bool.false_or]at h3;exact aB h3
 |n+1,a::l,o::os,k+1,h,hk,g,K,V,es,K',V',h1,h2=>by
  have h3:ybC n l os=true:=by cases a<;>cases o<;>first|exact h|exact zbR h|cases h
  exact ywO (k:=k) h3 (by omega) (by simpa using h1) (by simpa using h2)
theorem xeP:∀(l:List Nat) (σ:St) (k:Nat) {g:Nat} {K V:Ty} {es:List (den K×den V)},(frzL σ l).hp[k]? = some (.mp g K V es)->σ.hp[k]? = some (.mp g K V es)
 |[],_,_,_,_,_,_,h=>h|i::l,σ,k,g,K,V,es,h=>by
  have h1:=xeP l (frz σ i) k h;unfold frz at h1;split at h1
  ·simp only[dQ,zsJ]at h1;by_cases hj:i=k
   ·subst hj;cases hq:(σ.hp.set i .dead)[i]? with
    |none=>rw[hq]at h1;cases h1
    |some q=>
     have hi:i<σ.hp.length:=by have:=(aD.1 hq).1;simpa using this
     rw[bB hi]at h1;cases h1
   ·rw[bN hj]at h1;cases hq:σ.hp[k]? with
    |none=>rw[hq]at h1;cases h1
    |some q=>rw[hq]at h1;cases q<;>first|exact h1|cases h1
  ·exact h1
theorem ypD:∀{N0:Nat} {l:List AO} {os:List OSh} {k:Nat} {ver:Nat} {e:Ty} {T:TypeId} {xs:List (den e)} {o:OSh},ybC N0 l os=true->k<N0->l[k]? = some (.qu ver e T xs)->os[k]? = some o->False
 |0,_,_,_,_,_,_,_,_,_,h,_,_=>by omega
 |n+1,[],_,k,_,_,_,_,_,_,_,h,_=>by simp at h
 |n+1,a::l,[],k,_,_,_,_,_,_,_,_,h=>by simp at h
 |n+1,a::l,o::os,0,_,_,_,_,_,h,_,h1,_=>by simp at h1;subst h1;cases o<;>cases h
 |n+1,a::l,o::os,k+1,_,_,_,_,_,h,hk,h1,h2=>by
  have h3:ybC n l os=true:=by cases a<;>cases o<;>first|exact h|exact zbR h|cases h
  exact ypD (k:=k) h3 (by omega) (by simpa using h1) (by simpa using h2)
theorem yzP:∀(l:List Nat) (σ:St) (k:Nat) {ver:Nat} {e:Ty} {T:TypeId} {xs:List (den e)},(frzL σ l).hp[k]? = some (.qu ver e T xs)->σ.hp[k]? = some (.qu ver e T xs)
 |[],_,_,_,_,_,_,h=>h|i::l,σ,k,ver,e,T,xs,h=>by
  have h1:=yzP l (frz σ i) k h;unfold frz at h1;split at h1
  ·simp only[dQ,zsJ]at h1;by_cases hj:i=k
   ·subst hj;cases hq:(σ.hp.set i .dead)[i]? with
    |none=>rw[hq]at h1;cases h1
    |some q=>
     have hi:i<σ.hp.length:=by have:=(aD.1 hq).1;simpa using this
     rw[bB hi]at h1;cases h1
   ·rw[bN hj]at h1;cases hq:σ.hp[k]? with
    |none=>rw[hq]at h1;cases h1
    |some q=>rw[hq]at h1;cases q<;>first|exact h1|cases h1
  ·exact h1
theorem ybJ{N0:Nat}(_R:RelV B S E L σ V w)(Rf:∀l:List Nat,∃S' E' L',Mem.le S S'/\ELe E E'/\RelV B S' E' L' (frzL σ l) V w){s:Shp}{x:zfB s.tys}(h:s.get N0 σ=some x):∃S' E' L',Mem.le S S'/\Pin N0 E E'/\RelV B S' E' L' (s.put x) V w:=by
 unfold Shp.get at h;cases hb:Nat.ble N0 s.hp.length&&ybC N0 σ.hp s.hp with
 |false=>rw[hb]at h;cases h
 |true=>
 rw[hb]at h;have hb1:=Nat.le_of_ble_eq_true (zbH hb);obtain⟨S1,E1,L1,hS,hE1,R1⟩:=Rf (s.need N0 σ);have hl:=ygI σ.hp.length (ybI σ.hp 0 s.hp (idB 0 N0++s.sl.flatMap fun p=>p.2.bindS (lkS σ.sl p.1))) s.hp 0;have hg1:s.get1 (s.rho N0 σ) (frzL σ (s.need N0 σ))=some x:=h;refine⟨S1,_,_,hS,(Pin.of hE1).trans fun k e hk he=>?_,ysL R1 hl h⟩;obtain⟨o,h1,h2⟩:=xcS E1 s.hp (s.rho N0 σ) k k hl (rho_pin hk hb1);refine⟨_,h2,?_⟩;rw[he];have key:∀{e2:EI},(∀r v s,e≠.osl r v s)->PinI e e2->((∃r v s,e = .osl r v s/\(e2 = .dead∨∃r' v',e2 = .osl r' v' s/\(r'=0->r=0/\v'=v)))∨((∀r v s,e≠.osl r v s)/\PinI e e2)):=fun h1 h2=>.inr ⟨h1,h2⟩;cases o with
 |dead=>
  cases e with
  |osl r v z=>exact .inl ⟨r,v,z,rfl,.inl rfl⟩|_=>exact key (fun _ _ _ h=>by cases h) (.inl rfl)
 |blk=>
  cases e with
  |osl r v z=>exact .inl ⟨r,v,z,rfl,.inr ⟨r,v,rfl,fun h=>⟨h,rfl⟩⟩⟩|_=>exact key (fun _ _ _ h=>by cases h) (.inr (.inl rfl))
 |it=>
  cases e with
  |osl r v z=>exact .inl ⟨r,v,z,rfl,.inr ⟨r,v,rfl,fun h=>⟨h,rfl⟩⟩⟩|_=>exact key (fun _ _ _ h=>by cases h) (.inr (.inl rfl))
 |is=>
  cases e with
  |osl r v z=>exact .inl ⟨r,v,z,rfl,.inr ⟨r,v,rfl,fun h=>⟨h,rfl⟩⟩⟩|_=>exact key (fun _ _ _ h=>by cases h) (.inr (.inl rfl))
 |osl e' T'=>
  cases e with
  |osl r v z=>
   refine .inl ⟨r,v,z,rfl,.inr ⟨0,v,rfl,fun _=>⟨?_,rfl⟩⟩⟩
   -- the version is 0, by ybC
   have hlt:k<(frzL σ (s.need N0 σ)).hp.length:=by rw[<-R1.lE];exact(aD.1 he).1
   obtain⟨r1,e1,k1,k2,k3⟩:=R1.obj k _ (aO hlt);rw[he]at k2;cases k2;cases hq:(frzL σ (s.need N0 σ)).hp[k] with
   |osl ver ee TT xs=>rw[hq]at k3;obtain⟨_,_,_,_,_,h9,_⟩:=k3;cases h9;have h10:=xeU (s.need N0 σ) σ k (by rw[aO hlt,hq]);exact ywL (zbR hb) hk h10 h1
   |blk=>rw[hq]at k3;obtain⟨_,_,_,h9,_⟩:=k3;cases h9
   |mp=>rw[hq]at k3;obtain⟨_,_,_,_,h9,_⟩:=k3;cases h9
   |it=>rw[hq]at k3;obtain⟨_,_,_,_,_,h9,_⟩:=k3;cases h9
   |is=>rw[hq]at k3;obtain⟨_,_,h9⟩:=k3;cases h9
   |qu ver ee TT xs=>exact(ypD (zbR hb) hk (yzP (s.need N0 σ) σ k (by rw[aO hlt,hq])) h1).elim|fam=>rw[hq]at k3;obtain⟨_,_,_,_,_,h9,_⟩:=k3;cases h9
   |famO=>rw[hq]at k3;obtain⟨_,_,_,_,_,_,_,h9,_⟩:=k3;cases h9
   |dead=>rw[hq]at k3;cases k3.2
  |_=>exact key (fun _ _ _ h=>by cases h) (.inr (.inl rfl))
 |fam=>exact(yoD (zbR hb) hk (by rw[<-ygP (s.need N0 σ),<-R1.lE];exact(aD.1 he).1) h1).elim|qu=>exact(yvM (zbR hb) hk (by rw[<-ygP (s.need N0 σ),<-R1.lE];exact(aD.1 he).1) h1).elim|mp kp K V=>
  cases e with
  |mp g b ck es=>
   refine key (fun _ _ _ h=>by cases h) (.inr (.inr (.inl ⟨_,_,_,_,_,_,_,rfl,rfl,fun h0=>?_⟩)));refine⟨?_,rfl,Fewer.refl _⟩;cases kp with
   |false=>cases h0
   |true=>
    have hlt:k<(frzL σ (s.need N0 σ)).hp.length:=by rw[<-R1.lE];exact(aD.1 he).1
    obtain⟨r1,e1,k1,k2,k3⟩:=R1.obj k _ (aO hlt);rw[he]at k2;cases k2;cases hq:(frzL σ (s.need N0 σ)).hp[k] with
    |mp g2 K2 V2 es2=>rw[hq]at k3;obtain⟨_,_,_,_,h9,_⟩:=k3;cases h9;exact ywO (zbR hb) hk (xeP (s.need N0 σ) σ k (by rw[aO hlt,hq])) h1
    |blk=>rw[hq]at k3;obtain⟨_,_,_,h9,_⟩:=k3;cases h9
    |osl=>rw[hq]at k3;obtain⟨_,_,_,_,_,h9,_⟩:=k3;cases h9
    |it=>rw[hq]at k3;obtain⟨_,_,_,_,_,h9,_⟩:=k3;cases h9
    |is=>rw[hq]at k3;obtain⟨_,_,h9⟩:=k3;cases h9
    |qu=>rw[hq]at k3;obtain⟨_,_,_,_,_,_,_,_,_,h9,_⟩:=k3;cases h9
    |fam=>rw[hq]at k3;obtain⟨_,_,_,_,_,h9,_⟩:=k3;cases h9
    |famO=>rw[hq]at k3;obtain⟨_,_,_,_,_,_,_,h9,_⟩:=k3;cases h9
    |dead=>rw[hq]at k3;cases k3.2
  |osl r v z=>exact .inl ⟨r,v,z,rfl,.inr ⟨r,v,rfl,fun h=>⟨h,rfl⟩⟩⟩|_=>exact key (fun _ _ _ h=>by cases h) (.inr (.inl rfl))
end
end Go.Proofs.YtopanhneegpgcaaGreatDoor.Am
