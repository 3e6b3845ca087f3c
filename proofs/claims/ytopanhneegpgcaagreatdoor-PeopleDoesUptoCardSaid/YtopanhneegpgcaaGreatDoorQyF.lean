/- Parts of one proof. Conditions: as each theorem says. -/
import Derived.Test.YtopanhneegpgcaaGreatDoorQyE
open Bool renaming or_eq_true->cH
open List renaming append_assoc->aU,cons_append->bS,getElem?_append_left->aF,getElem?_append_right->aG,getElem?_eq_getElem->aH,getElem?_eq_some_iff->aC,getElem?_map->cF,getElem?_set_ne->aS,getElem?_set_self->aP
open Nat renaming beq->aJ,beq_refl->eJ,eq_of_beq_eq_true->aB,le_refl->aL,zero_le->bG
namespace Go.Proofs.YtopanhneegpgcaaGreatDoor.Am
open Go Go.RowKit
theorem HS.snoc{B:r9}{S:Mem}{w:World}{L:List Q0}{r:Q0}(H:HS B S w (r::L)):HS B S w (L++[r]):=by
 have key:∀k q,Y3 (L++[r]) k=some q->∃j,Y3 (r::L) j=some q/\(k<L.length/\j=k+1∨k=L.length/\j=0):=fun k q h=>by
  rw[N7]at h;by_cases d:k<L.length
  ·rw[aF d]at h;exact⟨k+1,by rw[N7];simpa using h,.inl ⟨d,rfl⟩⟩
  ·rw[aG (by omega)]at h;have c:k-L.length=0:=by have:=(aC.1 h).1;simp at this;omega
   rw[c]at h;exact⟨0,by rw[N7];simpa using h,.inr ⟨by omega,rfl⟩⟩
 refine⟨H.fr,H.sub,H.keep,fun k q h=>?_,fun k q b h e=>?_,fun i j q s b f g hq l=>?_⟩
 ·obtain⟨j,a,_⟩:=key k q h;exact H.own j q a
 ·obtain⟨j,a,_⟩:=key k q h;exact H.old j q b a e
 ·obtain⟨o,a,u⟩:=key i q f;obtain⟨p,t,v⟩:=key j s g;have:=H.inj o p q s b a t hq l;omega
theorem me{b:Type}:∀(l:List b) (n:Nat) (a:b),O6 l n a=l.set n a
 |[],n,a=>by cases n<;>rfl
 |_::_,0,_=>rfl|x::l,n+1,a=>by rw[O6,me l n a];rfl
theorem gp:∀(l:List Q0) (n:Nat) (a:Q0),Za l n a=l.set n a
 |[],n,a=>by cases n<;>rfl
 |_::_,0,_=>rfl|x::l,n+1,a=>by rw[Za,gp l n a];rfl
section
variable {n:Nat}{B:r9}{S S':Mem}{E:List EI}{L:List Q0}{σ:St}{m:FM}{w w':World}
theorem Rel.snoc(R:Rel n B S E L σ m w){r:Q0}{e:EI}{o:AO}(H:HS B S w' (r::L))(h:OR S (E++[e]) o r e):Rel n B S (E++[e]) (L++[r]) ⟨σ.sl,σ.hp++[o]⟩ m w':=by
 refine⟨HS.snoc H,by simp[R.lL],by simp[R.lE],fun i b g=>?_,fun t=>(R.sl t).mono (Mem.le_refl _) (V4.push E [e])⟩;by_cases c:i<σ.hp.length
 ·have d:σ.hp[i]? = some b:=by rw[<-aF (l₂:=[o]) c];exact g
  obtain⟨j,k,l,p,q⟩:=R.obj i b d;exact⟨j,k,by rw[aF (by rw[R.lL];exact c)];exact l,by rw[aF (by rw[R.lE];exact c)];exact p,q.mono (Mem.le_refl _) (V4.push E [e])⟩
 ·have a:(σ.hp++[o])[i]? = some b:=g;have f:i=σ.hp.length:=by have:=(aC.1 a).1;simp at this;omega
  subst f;rw[aG (aL _)]at a;simp at a;subst a;exact⟨r,e,by rw[<-R.lL];simp,by rw[<-R.lE];simp,h⟩
theorem V4.set{E:List EI}{i:Nat}{e e':EI}(h:E[i]? = some e)(d:e.le e'):V4 E (E.set i e'):=fun j a b=>by
 by_cases c:i=j
 ·subst c;rw[h]at b;cases b;exact⟨e',by rw[aP (aC.1 h).1],d⟩
 ·exact⟨a,by rw[aS c];exact b,a.le_refl⟩
theorem Rel.Gb(R:Rel n B S E L σ m w){i:Nat}{r':Q0}{e e':EI}{o':AO}(d:E[i]? = some e)(g:e.le e')(hS:Mem.le S S')(H:HS B S' w' (Za L i r'))(h:OR S' (E.set i e') o' r' e'):
  Rel n B S' (E.set i e') (Za L i r') ⟨σ.sl,O6 σ.hp i o'⟩ m w':=by
 have f:=V4.set d g;have c:i<σ.hp.length:=by rw[<-R.lE];exact(aC.1 d).1
 refine⟨H,by simp[gp,me,R.lL],by simp[me,R.lE],fun j o a=>?_,fun t=>(R.sl t).mono hS f⟩;have a:(σ.hp.set i o')[j]? = some o:=by rw[<-me];exact a
 by_cases b:i=j
 ·subst b;rw[aP c]at a;cases a;exact⟨r',e',by rw[gp,aP (by rw[R.lL];exact c)],by rw[aP (by rw[R.lE];exact c)],h⟩
 ·rw[aS b]at a;obtain⟨k,l,p,q,r⟩:=R.obj j o a;exact⟨k,l,by rw[gp,aS b];exact p,by rw[aS b];exact q,r.mono hS f⟩
theorem di{E:List EI}{i:Nat}{e:EI}(h:E[i]? = some e):E.set i e=E:=by
 apply List.ext_getElem?;intro j;by_cases a:i=j
 ·subst a;rw[aP (aC.1 h).1,h]
 ·rw[aS a]
theorem Rel.Ts(R:Rel n B S E L σ m w){i:Nat}{r':Q0}{e:EI}{o':AO}(a:E[i]? = some e)(H:HS B S w' (Za L i r'))(h:OR S E o' r' e):
  Rel n B S E (Za L i r') ⟨σ.sl,O6 σ.hp i o'⟩ m w':=by
 have:=R.Gb a e.le_refl (Mem.le_refl S) H (by rw[di a];exact h)
 rwa[di a]at this
end
theorem HS.kill{B:r9}{S:Mem}{w:World}{L:List Q0}{k:Nat}(H:HS B S w (Me L k)):HS B S w (Za L k (.H' (.slice none 0 0) 0 0 [] [] 0)):=by
 have key:∀i q,Y3 (Za L k (.H' (.slice none 0 0) 0 0 [] [] 0)) i=some q->i=k/\q = .H' (.slice none 0 0) 0 0 [] [] 0∨i≠k/\Y3 (Me L k) (if i<k then i else i-1)=some q:=fun i q h=>by
  by_cases a:i=k
  ·subst a;rw[N7,gp]at h;have e:i<L.length:=by simpa using (aC.1 h).1
   rw[aP e]at h;exact .inl ⟨rfl,(ka h).symm⟩
  ·rw[uo a]at h;refine .inr ⟨a,?_⟩;rw[QI];by_cases d:i<k
   ·rw[zJ d,zJ d];exact h
   ·rw[zI d,zI (by omega),show i-1+1=i by omega];exact h
 refine⟨H.fr,H.sub,H.keep,fun i q h=>?_,fun i q b h f=>?_,fun i j q s b a l hq g=>?_⟩
 ·rcases key i q h with⟨rfl,rfl⟩|⟨_,c⟩
  ·exact .inl ⟨rfl,rfl,rfl,rfl⟩
  ·exact H.own _ q c
 ·rcases key i q h with⟨rfl,rfl⟩|⟨_,c⟩
  ·cases f
  ·exact H.old _ q b c f
 ·rcases key i q a with⟨rfl,rfl⟩|⟨p,c⟩
  ·cases hq
  ·rcases key j s l with⟨rfl,rfl⟩|⟨d,o⟩
   ·cases g
   ·have:=H.inj _ _ q s b c o hq g;split at this<;>split at this<;>omega
section
variable {n:Nat}{B:r9}{S S':Mem}{E E':List EI}{L:List Q0}{σ:St}{m:FM}{w w':World}
theorem xQ{id a:Nat}{e:Ty}{xs:List (den e)}{v:Value}(hS:Mem.le S S')(f:V4 E E')(g:E[id]? = some (.H' a v (l0 e)))(j:u7 (.sl e) S' [v] xs){x:SV}{u:Value}(h:VC S E x u):VC S' E' (Yc id a e xs x) u:=by
 have b:=h.mono hS f;unfold Yc;split
 ·rename_i i k;cases c:aJ i id&&aJ k a with
  |false=>exact b|true=>have l:=aB (Z3 c);have o:=aB (Y4 c);subst l;subst o;obtain⟨_,q,d,p⟩:=h;rw[g]at d;cases d;rw[(p _ _ _ rfl).2 rfl];exact j
 ·exact b
theorem A2.map{c γ d:Type}{R:c->γ->Prop}{e:d->γ->Prop}{f:c->d}(hf:∀a b,R a b->e (f a) b):∀{l m},A2 R l m->A2 e (l.map f) m
 |_,_,.nil=>.nil|_,_,.cons a t=>.cons (hf _ _ a) (A2.map hf t)
theorem Vs{id a:Nat}{e:Ty}{xs:List (den e)}{x:SV}(h:oa x=true):oa (Yc id a e xs x)=true:=by
 unfold Yc;split
 ·cases aJ _ _&&aJ _ _<;>rfl
 ·exact h
theorem wD{id c:Nat}{e:Ty}{xs:List (den e)}{v:Value}(hS:Mem.le S S')(j:V4 E E')(k:E[id]? = some (.H' c v (l0 e)))(o:u7 (.sl e) S' [v] xs){x:SV}{u:Value}(h:VR S E x u):VR S' E' (KC id c e xs x) u:=by
 unfold KC;split
 ·obtain⟨p,g,h⟩:=h;exact⟨p,g,h.map (f:=Yc id c e xs) fun _ _=>xQ hS j k o⟩
 ·obtain⟨p,g,h⟩:=h;refine⟨p,g,h.map fun a b d=>?_⟩;cases a with
  |ag l=>obtain⟨ws,r,d⟩:=d;exact⟨ws,r,d.map (f:=Yc id c e xs) fun _ _=>xQ hS j k o⟩
  |_=>exact VA.of (xQ hS j k o d.b) (Vs rfl)
 ·rename_i s t;by_cases q:x = .undef
  ·subst q;trivial
  by_cases i:x = .eh
  ·subst i;exact h
  ·have y:oa x=true:=by cases x<;>first|rfl|exact absurd rfl (s _)
   have g:Ib x=true:=by cases x<;>first|rfl|exact absurd rfl q|exact absurd rfl i|exact absurd rfl (t _)
   exact VR.ig (xQ hS j k o ((h.b g).b y))
theorem jp{f:SV->SV}(hf:f .undef = .undef):∀(l:List (Nat×SV)) (t:Nat),z7 (l.map fun p=>(p.1,f p.2)) t=f (z7 l t)
 |[],_=>hf.symm|(d,x)::l,t=>by
  simp only[List.map_cons,z7];cases aJ d t with
  |true=>rfl|false=>exact jp hf l t
theorem dc.rd{e:Ty}{xs:List (den e)}{v v':Value}(h:dc S v v' xs.length)(hS:Mem.le S S')(a:@x8 (den e) (Q9 e) S' v xs):@x8 (den e) (Q9 e) S' v' xs:=by
 rcases h with rfl|⟨_,d,h,_⟩
 ·exact a
 ·have:xs=[]:=List.eq_nil_of_length_eq_zero d;subst this;refine⟨[],?_,rfl⟩;rcases h with⟨h,_,_⟩|⟨b,o,c,f,T,g,i,j,k,l,_⟩
  ·exact .inl ⟨h,rfl,rfl⟩
  ·exact .inr ⟨b,o,c,f,T,g,i,j,hS _ _ k,by simp only[List.length_nil];omega,by simp[piece]⟩
theorem l3.P6{V:Nat->Value}(R:l3 B S E L σ V w){i:Nat}{o:AO}(h:V5 σ.hp i=some o):∃r e,Y3 L i=some r/\E[i]? = some e/\OR S E o r e:=by rw[Fa]at h;obtain⟨r,e,a,b,c⟩:=R.obj i o h;exact⟨r,e,by rw[N7];exact a,b,c⟩
theorem lp{V:Nat->Value}(R:l3 B S E L σ V w)(id:Nat):∃S' E' y,Mem.le S S'/\V4 E E'/\l3 B S' E' y (Lh σ id) V w/\∀i,id≠i->Y3 y i=Y3 L i:=by
 unfold Lh;split
 ·rename_i h e T r A;obtain⟨P,Q,C,k,v,v',U,W,rfl,rfl,D,s⟩:=R.P6 A;obtain⟨S',a,u,H⟩:=HS.yZ R.hs C D (gd e);have c:V4 E (E.set id .dead):=V4.set k (.inr (.inl rfl));have z:u7 (.sl e) S' [v'] r:=⟨v',rfl,s.rd a u⟩;refine⟨S',E.set id .dead,Za L id (.H' (.slice none 0 0) 0 0 [] [] 0),a,c,⟨HS.kill H,?_,?_,fun i o g=>?_,fun t=>?_⟩,fun i j=>uo (Ne.symm j)⟩
  ·simp[gp,me,R.lL]
  ·simp[me,R.lE]
  ·have j:id<σ.hp.length:=by rw[<-R.lE];exact(aC.1 k).1
   simp only[cF,me]at g;by_cases l:id=i
   ·subst l;rw[aP j]at g;cases g;exact⟨_,_,by rw[gp,aP (by rw[R.lL];exact j)],by rw[aP (by rw[R.lE];exact j)],rfl,rfl⟩
   ·rw[aS l]at g;cases hq:σ.hp[i]? with
    |none=>rw[hq]at g;cases g
    |some q=>
     rw[hq]at g;cases g;obtain⟨F,G,I,J,d⟩:=R.obj i q hq;refine⟨F,G,by rw[gp,aS l];exact I,by rw[aS l];exact J,?_⟩;cases q with
     |N' X K=>obtain⟨b,M,N,x,O⟩:=d;exact⟨b,M,N,x,O.map (f:=Yc id h e r) fun _ _=>xQ a c k z⟩
     |H'=>exact d.mono a c|mp=>exact d.mono a c|it=>exact d.mono a c|is=>exact d|qu=>exact OR.mono a c d|U4=>exact OR.mono a c d|wa=>exact OR.mono a c d|dead=>exact d
  ·show VR S' _ (z7 (σ.sl.map fun p=>(p.1,KC id h e r p.2)) t) _;rw[jp rfl];exact wD a c k z (R.sl t)
 ·exact⟨S,E,L,Mem.le_refl _,V4.refl _,R,fun _ _=>rfl⟩
theorem yQ{V:Nat->Value}(R:l3 B S E L σ V w)(id:Nat):∃S' E' a,Mem.le S S'/\V4 E E'/\l3 B S' E' a (Lh σ id) V w:=by obtain⟨S',E',a,b,c,d,_⟩:=lp R id;exact⟨S',E',a,b,c,d⟩
theorem KU{V:Nat->Value}:∀(l:List Nat) {σ:St} {S:Mem} {E:List EI} {L:List Q0} (_:l3 B S E L σ V w),∃S' E' b,Mem.le S S'/\V4 E E'/\l3 B S' E' b (x5 σ l) V w/\∀i,j0 l i=false->Y3 b i=Y3 L i
 |[],_,S,E,L,R=>⟨S,E,L,Mem.le_refl _,V4.refl _,R,fun _ _=>rfl⟩|i::l,_,_,_,_,R=>by obtain⟨s,t,u,c,d,f,g⟩:=lp R i;obtain⟨S2,h,k,o,p,q,r⟩:=KU l f;refine⟨S2,h,k,Mem.le_trans c o,d.trans p,q,fun j a=>?_⟩;simp only[j0,Bool.or_eq_false_iff]at a;rw[r j a.2,g j fun e=>by subst e;rw[eJ]at a;cases a.1]
theorem fh{V:Nat->Value}:∀(l:List Nat) {σ:St} {S:Mem} {E:List EI} {L:List Q0} (_:l3 B S E L σ V w),∃S' E' a,Mem.le S S'/\V4 E E'/\l3 B S' E' a (x5 σ l) V w
 |[],_,S,E,L,R=>⟨S,E,L,Mem.le_refl _,V4.refl _,R⟩|i::l,_,_,_,_,R=>by obtain⟨k,o,p,b,c,d⟩:=yQ R i;obtain⟨S2,e,f,g,h,j⟩:=fh l d;exact⟨S2,e,f,Mem.le_trans b g,c.trans h,j⟩
end
theorem ei:∀t:Ty,∃h,P7 t t=some ⟨h⟩
 |.i k=>by cases k<;>exact⟨rfl,rfl⟩
 |.b=>⟨rfl,rfl⟩|.s=>⟨rfl,rfl⟩|.un=>⟨rfl,rfl⟩|.er=>⟨rfl,rfl⟩|.mp a c=>by obtain⟨h,f⟩:=ei a;obtain⟨g,d⟩:=ei c;exact⟨rfl,by simp only[P7,f,d]⟩
 |.sl e=>by obtain⟨h,f⟩:=ei e;exact⟨rfl,by simp only[P7,f]⟩
 |.pr a c=>by obtain⟨h,f⟩:=ei a;obtain⟨g,d⟩:=ei c;exact⟨rfl,by simp only[P7,f,d]⟩
theorem LU:∀(t:Ty) (x:den t),(cellsOf t x).length=l0 t
 |.i _,_=>rfl|.b,_=>rfl|.s,_=>rfl|.er,_=>rfl|.mp _ _,_=>rfl|.sl _,_=>rfl|.un,_=>rfl|.pr a c,x=>by rw[cellsOf,List.length_append,LU a,LU c];rfl
theorem YJ(hp:List AO)(t:Ty)(x:den t):Tf hp t (.v t x)=some x:=by obtain⟨h,a⟩:=ei t;simp only[Tf,a];rfl
theorem XZ(hp:List AO):∀(t:Ty) (x:den t),Uf hp t (cellsOf t x)=some x
 |.i _,x=>YJ hp _ x|.b,x=>YJ hp _ x|.s,x=>YJ hp _ x|.er,x=>YJ hp _ x|.mp _ _,x=>YJ hp _ x|.sl _,x=>YJ hp _ x|.un,_=>rfl|.pr a c,x=>by
  have d:(cellsOf a x.1++cellsOf c x.2).take (l0 a)=cellsOf a x.1:=by rw[<-LU a x.1,List.take_left]
  have e:(cellsOf a x.1++cellsOf c x.2).drop (l0 a)=cellsOf c x.2:=by rw[<-LU a x.1,List.drop_left]
  simp only[cellsOf,Uf,d,e,XZ hp a,XZ hp c];rfl
theorem qg(hp:List AO)(t:Ty)(x:den t):Ea hp t (W6 t x)=some x:=by
 unfold W6;cases a:one t with
 |true=>show(bif one t then Tf hp t (.v t x)else none)=_;rw[a];exact YJ hp t x
 |false=>show(bif one t then none else Uf hp t (cellsOf t x))=_;rw[a];exact XZ hp t x
inductive Can:List Ty->List SV->Prop
 |nil:Can [] []
 |cons {t l xs} (y:den t):Can l xs->Can (t::l) (W6 t y::xs)
theorem Can.X0:∀{l m xs ys},Can l xs->Can m ys->Can (l++m) (xs++ys)
 |_,_,_,_,.nil,h=>h|_,_,_,_,.cons y t,h=>.cons y (Can.X0 t h)
theorem YZ(hp:List AO):∀{l:List Ty} {xs:List SV} {x:b8 l},Can l xs->JC hp l xs=some x->rc l x=xs
 |[],_,_,.nil,_=>rfl|[t],_,_,.cons y .nil,h=>by have h:Ea hp t (W6 t y)=some _:=h;rw[qg]at h;cases h;rfl
 |t::a::l,_,_,.cons y (.cons b r),h=>by
  simp only[JC,qg]at h;split at h
  ·rename_i f c d e;cases d;cases h;have:=YZ hp (.cons b r) e;show W6 t y::rc (a::l) c=_;rw[this]
  ·cases h
def REi(e e':EI):Prop:=e'=e∨(∃r v s,e = .H' r v s/\e' = .H' 0 v s)∨(∃g b ck a d,e = .mp g b ck a/\e' = .mp d b ck a)∨∃r v c,e = .U4 r v c/\e' = .U4 0 v c
structure Qw (hp:List AO) (E:List EI):Prop where
 H':∀(i r:Nat) e T (xs:List (den e)),hp[i]? = some (.H' r e T xs)->∃v s,E[i]? = some (.H' r v s)
 U4:∀(i r:Nat) T f (ks:List (den (fT f))),hp[i]? = some (.U4 r T f ks)->∃v bs,E[i]? = some (.U4 r v bs)
 qu:∀(i r:Nat) e T (xs:List (den e)),hp[i]? = some (.qu r e T xs)->∃v s,E[i]? = some (.H' r v s)
theorem Qw.of{S:Mem}{hp:List AO}{E:List EI}{L:List Q0}(h:∀(i:Nat) o,hp[i]? = some o->∃r e,L[i]? = some r/\E[i]? = some e/\OR S E o r e):Qw hp E:=
 ⟨fun i r e T t d=>by
  obtain⟨j,k,l,a,v,v',u,s,_,g,_⟩:=h i _ d;rw[g]at a;exact⟨_,_,a⟩,
 fun i r T f x d=>by obtain⟨j,k,l,a,v,s,y,z,_,g,_⟩:=h i _ d;rw[g]at a;exact⟨_,_,a⟩,
 fun i r e T t d=>by
  obtain⟨j,k,l,a,b,c,p,A,u,s,q,C,_,g,_⟩:=h i _ d
  rw[g]at a;exact⟨_,_,a⟩⟩
def RE(ρ:List Nat)(E E':List EI):Prop:=∀(k:Nat) (a:EI),E'[k]? = some a->a = .dead∨∃id e,ρ[k]? = some id/\E[id]? = some e/\REi e a
section
variable {S S2:Mem}{E E':List EI}{ρ:List Nat}{hp hq:List AO}
theorem MU{a:Sh}{x:SV}{p:List SV}(h:a.xa ρ hp hq x=some p):Xf x=true/\oa x=true/\Ib x=true:=by
 cases x with
 |fn=>cases a<;>first|(cases h;done)|(rename_i t;simp only[Sh.xa]at h;cases t<;>cases h)
 |ag=>cases a<;>first|(cases h;done)|(rename_i t;simp only[Sh.xa]at h;cases t<;>cases h)
 |undef=>cases a<;>first|(cases h;done)|(rename_i t;simp only[Sh.xa]at h;cases t<;>cases h)
 |eh=>cases a<;>first|(cases h;done)|(rename_i t;simp only[Sh.xa]at h;cases t<;>cases h)
 |Bb=>cases a<;>first|(cases h;done)|(rename_i t;simp only[Sh.xa]at h;cases t<;>cases h)
 |_=>exact⟨rfl,rfl,rfl⟩
theorem np(hS:Mem.le S S2)(hQ:Ns S S2 E hq)(hR:RE ρ E E')(hN:E'.length=ρ.length)(hO:Qw hp E){a:Sh}{x:SV}{u:Value}{p:List SV}(h:a.xa ρ hp hq x=some p)(H:VB S E x u):
  Can a.fl p/\∀rest,VB S2 E' (a.S9 (p++rest)).1 u/\(a.S9 (p++rest)).2=rest/\oa (a.S9 (p++rest)).1=true/\Xf (a.S9 (p++rest)).1=true:=by
 have ex:∀{k id:Nat},V5 ρ k=some id->∃q,E'[k]? = some q/\(q = .dead∨∃e,E[id]? = some e/\REi e q):=fun {k id} D=>by
  rw[Fa]at D;have X:k<E'.length:=by rw[hN];exact(aC.1 D).1
  refine⟨E'[k],aH X,?_⟩;rcases hR k _ (aH X)with h|⟨A,e,C,F,U⟩
  ·exact .inl h
  ·rw[D]at C;cases C;exact .inr ⟨e,F,U⟩
 have hr:∀{t:Ty} {y:den t} {W:LV} {b o:Nat},e9 S2 b o W->u7 t S2 W y->u = .pointer (some ⟨b,o,none⟩)->p=[W6 t y]->Can (Sh.hr t).fl p/\∀rest,VB S2 E' ((Sh.hr t).S9 (p++rest)).1 u/\((Sh.hr t).S9 (p++rest)).2=rest/\oa ((Sh.hr t).S9 (p++rest)).1=true/\Xf ((Sh.hr t).S9 (p++rest)).1=true:=fun {t y W b o} C F U K=>by
  subst K;refine⟨.cons y .nil,fun rest=>?_⟩;have P:(Sh.hr t).S9 ([W6 t y]++rest)=(.rp t y 0,rest):=by simp only[bS,List.nil_append,Sh.S9,qg]
  rw[P];exact⟨⟨b,o,W,U,C,F⟩,rfl,rfl,rfl⟩
 cases a with
 |h t=>
  simp only[Sh.xa]at h;cases ho:one t with
  |false=>rw[ho]at h;cases h
  |true=>
   rw[ho]at h;simp only[zF]at h;split at h
   ·rename_i y hy;cases h;have P:W6 t y = .v t y:=by unfold W6;rw[ho];rfl
    refine⟨by rw[<-P];exact .cons y .nil,fun rest=>⟨?_,rfl,rfl,rfl⟩⟩;exact(RG hS hQ hy H.c:u7 t S2 [u] y)
   ·cases h
 |kn k c=>
  cases x with
  |v t y=>
   cases t with
   |i Y=>
    simp only[Sh.xa]at h;split at h
    ·rename_i D _;obtain⟨D⟩:=D;subst D;obtain⟨z,h⟩:=r7 h;cases h;have C:=zD (Z3 z);have F:=zD (Y4 z);refine⟨.nil,fun rest=>⟨?_,rfl,rfl,rfl⟩⟩;have H:[u]=[Value.int Y (c6 Y y)]:=H;show [u]=[Value.int Y (c6 Y (Sf Y c))];rw[H,C,F]
    ·cases h
   |_=>cases h
  |_=>cases h
 |own k=>
  cases x with
  |own id Q=>
   simp only[Sh.xa]at h;split at h
   ·rename_i A G e T M D hc;cases z:aJ A id&&aJ Q G with
    |false=>rw[z]at h;cases h
    |true=>
     rw[z]at h;cases h;have C:=aB (Z3 z);have F:=aB (Y4 z);subst C;subst F;refine⟨.nil,fun rest=>⟨?_,rfl,rfl,rfl⟩⟩;obtain⟨K,P,J,I⟩:=H;rw[Fa]at hc;obtain⟨v,s,R⟩:=hO.H' _ _ _ _ _ hc;rw[R]at J;cases J;obtain⟨q,N,r⟩:=ex D;refine⟨K,q,N,fun r' v' s' hq=>⟨bG _,fun _=>?_⟩⟩;subst hq;rcases r with r|⟨Z,r,d⟩
     ·cases r
     ·rw[R]at r;cases r;rcases d with d|⟨_,_,_,j,d⟩|⟨_,_,_,_,_,j,_⟩|⟨_,_,_,j,_⟩
      ·cases d;exact(I _ _ _ rfl).2 rfl
      ·cases j;cases d;exact(I _ _ _ rfl).2 rfl
      ·cases j
      ·cases j
   ·rename_i A G e T M D hc;cases z:aJ A id&&aJ Q G with
    |false=>rw[z]at h;cases h
    |true=>
     rw[z]at h;cases h;have C:=aB (Z3 z);have F:=aB (Y4 z);subst C;subst F;refine⟨.nil,fun rest=>⟨?_,rfl,rfl,rfl⟩⟩;obtain⟨K,P,J,I⟩:=H;rw[Fa]at hc;obtain⟨v,s,R⟩:=hO.qu _ _ _ _ _ hc;rw[R]at J;cases J;obtain⟨q,N,r⟩:=ex D;refine⟨K,q,N,fun r' v' s' hq=>⟨bG _,fun _=>?_⟩⟩;subst hq;rcases r with r|⟨Z,r,d⟩
     ·cases r
     ·rw[R]at r;cases r;rcases d with d|⟨_,_,_,j,d⟩|⟨_,_,_,_,_,j,_⟩|⟨_,_,_,j,_⟩
      ·cases d;exact(I _ _ _ rfl).2 rfl
      ·cases j;cases d;exact(I _ _ _ rfl).2 rfl
      ·cases j
      ·cases j
   ·cases h
  |_=>cases h
 |ptr k O=>
  cases x with
  |ptr id off'=>
   simp only[Sh.xa]at h;split at h
   ·rename_i A D;cases z:aJ A id&&aJ O off' with
    |false=>rw[z]at h;cases h
    |true=>
     rw[z]at h;cases h;have C:=aB (Z3 z);have F:=aB (Y4 z);subst C;subst F;refine⟨.nil,fun rest=>⟨?_,rfl,rfl,rfl⟩⟩;obtain⟨b0,K,P,J,I⟩:=H;obtain⟨q,N,r⟩:=ex D;refine⟨b0,K,q,N,fun b z=>?_⟩;subst z;rcases r with r|⟨Z,r,d⟩
     ·cases r
     ·rw[J]at r;cases r;rcases d with d|⟨_,_,_,_,d⟩|⟨_,_,_,_,_,_,d⟩|⟨_,_,_,_,d⟩
      ·exact I _ d.symm
      ·cases d
      ·cases d
      ·cases d
   ·cases h
  |_=>cases h
 |mpr k=>
  cases x with
  |mpr id=>
   simp only[Sh.xa]at h;split at h
   ·rename_i A D;cases z:aJ A id with
    |false=>rw[z]at h;cases h
    |true=>
     rw[z]at h;cases h;have C:=aB z;subst C;refine⟨.nil,fun rest=>⟨?_,rfl,rfl,rfl⟩⟩;obtain⟨K,P,J,I⟩:=H;obtain⟨q,N,r⟩:=ex D;refine⟨K,q,N,fun g b ck es z=>?_⟩;subst z;rcases r with r|⟨Z,r,d⟩
     ·cases r
     ·rw[J]at r;cases r;rcases d with d|⟨_,_,_,_,d⟩|⟨g1,b1,c1,es1,_,j,d⟩|⟨_,_,_,_,d⟩
      ·exact I _ _ _ _ d.symm
      ·cases d
      ·cases d;exact I _ _ _ _ j
      ·cases d
   ·cases h
  |_=>cases h
 |fs k=>
  cases x with
  |fs id Q=>
   simp only[Sh.xa]at h;split at h
   ·rename_i A G T f ks D hc;cases z:aJ A id&&aJ Q G with
    |false=>rw[z]at h;cases h
    |true=>
     rw[z]at h;cases h;have C:=aB (Z3 z);have F:=aB (Y4 z);subst C;subst F;refine⟨.nil,fun rest=>⟨?_,rfl,rfl,rfl⟩⟩;obtain⟨K,P,J,I⟩:=H;rw[Fa]at hc;obtain⟨v,s,R⟩:=hO.U4 _ _ _ _ _ hc;rw[R]at J;cases J;obtain⟨q,N,r⟩:=ex D;refine⟨K,q,N,fun r' v' s' hq=>⟨bG _,fun _=>?_⟩⟩;subst hq;rcases r with r|⟨Z,r,d⟩
     ·cases r
     ·rw[R]at r;cases r;rcases d with d|⟨_,_,_,j,_⟩|⟨_,_,_,_,_,j,_⟩|⟨_,_,_,j,d⟩
      ·cases d;exact(I _ _ _ rfl).2 rfl
      ·cases j
      ·cases j
      ·cases j;cases d;exact(I _ _ _ rfl).2 rfl
   ·cases h
  |_=>cases h
 |v7=>
  cases x with
  |v7=>cases h;exact⟨.nil,fun rest=>⟨H,rfl,rfl,rfl⟩⟩
  |_=>cases h
 |Y'=>
  cases x with
  |Y'=>cases h;exact⟨.nil,fun rest=>⟨H,rfl,rfl,rfl⟩⟩
  |_=>cases h
 |hc e=>
  cases x with
  |cl q M=>
   simp only[Sh.xa]at h;split at h
   ·rename_i hh _;cases h;subst hh;refine⟨.cons (t:=.sl q) (show den (.sl q)from M) .nil,fun rest=>?_⟩;obtain⟨R,N⟩:=ei q;have P:(Sh.hc q).S9 ([W6 (.sl q) (show den (.sl q)from M)]++rest)=(.cl q M,rest):=by show(Sh.hc q).S9 (.v (.sl q) M::rest)=_;simp only[Sh.S9,N];rfl
    have Z:([SV.v (.sl q) (Ob (by rfl:Ty.sl q=Ty.sl q) M)]++rest)=[W6 (.sl q) (show den (.sl q)from M)]++rest:=rfl;show VB S2 E' ((Sh.hc q).S9 ([W6 (.sl q) (show den (.sl q)from M)]++rest)).1 u/\_=rest/\oa ((Sh.hc q).S9 ([W6 (.sl q) (show den (.sl q)from M)]++rest)).1=true/\Xf ((Sh.hc q).S9 ([W6 (.sl q) (show den (.sl q)from M)]++rest)).1=true;rw[P];exact⟨⟨H.1.mono hS,H.2⟩,rfl,rfl,rfl⟩
   ·cases h
  |_=>cases h
 |hr t=>
  cases x with
  |rp t' y O=>
   cases O with
   |zero=>
    simp only[Sh.xa]at h;split at h
    ·rename_i hh _;cases h;subst hh;obtain⟨b,o,us,C,F,U⟩:=H;exact hr (y:=y) (F.mono hS) ((Q9 t').mono U hS) C rfl
    ·cases h
   |succ=>cases h
  |ptr id O=>
   cases O with
   |zero=>
    simp only[Sh.xa]at h;split at h
    ·rename_i T W hc;split at h
     ·rename_i y hy;cases h;obtain⟨b,us,C,F,U⟩:=hQ.N' id T W u hc H;exact hr F (uN hS hQ t hy U) C rfl
     ·cases h
    ·cases h
   |succ=>cases h
  |_=>cases h
 |fn=>cases h
 |ag l=>cases h
theorem ZZ(hS:Mem.le S S2)(i:Ns S S2 E hq)(j:RE ρ E E')(k:E'.length=ρ.length)(o:Qw hp E):∀{l:List Sh} {xs:List SV} {us:LV} {p:List SV},Mh ρ hp hq l xs=some p->A2 (VA (VB S E)) xs us ->
  Can (l.flatMap Sh.fl) p/\∀rest,A2 (VA (VB S2 E')) (JA l (p++rest)).1 us/\(JA l (p++rest)).2=rest
 |[],[],us,p,h,c=>by cases h;cases c;exact⟨.nil,fun rest=>⟨.nil,rfl⟩⟩
 |[],_::_,_,_,h,_=>by cases h
 |_::_,[],_,_,h,_=>by cases h
 |a::l,x::xs,us,p,h,c=>by
  cases c with
  |cons r s=>
   unfold Mh at h;split at h
   ·rename_i D t q u;cases h;obtain⟨v,y⟩:=np hS i j k o q (r.b (MU q).2.1);obtain⟨z,A⟩:=ZZ hS i j k o u s;refine⟨v.X0 z,fun rest=>?_⟩;obtain⟨C,d,e,_⟩:=y (t++rest);obtain⟨f,g⟩:=A rest;rw[aU];simp only[JA,d];exact⟨.cons (VA.of C e) f,g⟩
   ·cases h
theorem qp(hS:Mem.le S S2)(e:Ns S S2 E hq)(g:RE ρ E E')(i:E'.length=ρ.length)(j:Qw hp E){a:Sh}{x:SV}{u:Value}{p:List SV}(h:a.Cs ρ hp hq x=some p)(o:VC S E x u):
  Can a.xe p/\∀rest,VC S2 E' (a.yc (p++rest)).1 u/\(a.yc (p++rest)).2=rest:=by
 have d:∀{a:Sh},a.xa ρ hp hq x=some p->a.xe=a.fl->(∀l,a.yc l=a.S9 l)->Can a.xe p/\∀rest,VC S2 E' (a.yc (p++rest)).1 u/\(a.yc (p++rest)).2=rest:=fun {a} h r s=>by obtain⟨t,q⟩:=np hS e g i j h (o.b (MU h).1);rw[r];exact⟨t,fun rest=>by rw[s];exact⟨(q rest).1.c,(q rest).2.1⟩⟩
 cases a with
 |fn f la Q=>
  cases x with
  |fn v R T=>
   simp only[Sh.Cs]at h;cases k:aJ f v with
   |false=>rw[k]at h;cases h
   |true=>
    rw[k]at h;have:=aB k;subst this;simp only[zF]at h;split at h
    ·rename_i U y z A;cases h;obtain⟨C,ws,D,F,G⟩:=o;obtain⟨H,I⟩:=ZZ hS e g i j z F;obtain⟨J,K⟩:=ZZ hS e g i j A G;refine⟨H.X0 J,fun rest=>?_⟩;obtain⟨M,N⟩:=I (y++rest);obtain⟨O,P⟩:=K rest;rw[aU];simp only[Sh.yc,N];exact⟨⟨C,ws,D,M,O⟩,P⟩
    ·cases h
  |_=>cases h
 |_=>exact d h rfl fun _=>rfl
theorem yyN(hS:Mem.le S S2)(f:Ns S S2 E hq)(g:RE ρ E E')(i:E'.length=ρ.length)(j:Qw hp E):∀{l:List Sh} {xs:List SV} {us:LV} {p:List SV},Nh ρ hp hq l xs=some p->A2 (VC S E) xs us ->
  Can (l.flatMap Sh.xe) p/\∀rest,A2 (VC S2 E') (dw l (p++rest)).1 us/\(dw l (p++rest)).2=rest
 |[],[],us,p,h,b=>by cases h;cases b;exact⟨.nil,fun rest=>⟨.nil,rfl⟩⟩
 |[],_::_,_,_,h,_=>by cases h
 |_::_,[],_,_,h,_=>by cases h
 |a::l,x::xs,us,p,h,b=>by
  cases b with
  |cons k o=>
   unfold Nh at h;split at h
   ·rename_i A q r s;cases h;obtain⟨t,u⟩:=qp hS f g i j r k;obtain⟨v,y⟩:=yyN hS f g i j s o;refine⟨t.X0 v,fun rest=>?_⟩;obtain⟨z,c⟩:=u (q++rest);obtain⟨d,e⟩:=y rest;rw[aU];simp only[dw,c];exact⟨.cons z d,e⟩
   ·cases h
theorem xcE{a:Sh}{x:SV}{p:List SV}(h:a.Cs ρ hp hq x=some p):Ib x=true/\oa x=true:=by
 have b:∀(a:Sh),a.xa ρ hp hq x=some p->Ib x=true/\oa x=true:=fun a h=>⟨(MU h).2.2,(MU h).2.1⟩;cases a with
 |fn=>cases x<;>first|exact⟨rfl,rfl⟩|cases h
 |h t=>exact b (.h t) h|own i=>exact b (.own i) h|ptr i o=>exact b (.ptr i o) h|v7=>exact b .v7 h|Y'=>exact b .Y' h|mpr i=>exact b (.mpr i) h|hc e=>exact b (.hc e) h|hr t=>exact b (.hr t) h|fs i=>exact b (.fs i) h|kn k c=>exact b (.kn k c) h|ag l=>exact b (.ag l) h
theorem Rw(hS:Mem.le S S2)(f:Ns S S2 E hq)(i:RE ρ E E')(j:E'.length=ρ.length)(k:Qw hp E){a:Sh}{x:SV}{u:Value}{p:List SV}(h:a.get ρ hp hq x=some p)(c:VR S E x u):
  Can a.o8 p/\∀rest,VR S2 E' (a.put (p++rest)).1 u/\(a.put (p++rest)).2=rest:=by
 have d:∀{a:Sh},a.Cs ρ hp hq x=some p->a.o8=a.xe->(∀l,a.put l=a.yc l)->Can a.o8 p/\∀rest,VR S2 E' (a.put (p++rest)).1 u/\(a.put (p++rest)).2=rest:=fun {a} h o q=>by obtain⟨g,e⟩:=qp hS f i j k h ((c.b (xcE h).1).b (xcE h).2);rw[o];exact⟨g,fun rest=>by rw[q];exact⟨VR.ig (e rest).1,(e rest).2⟩⟩
 cases a with
 |h t=>
  simp only[Sh.get]at h;split at h
  ·rename_i y r;cases h;refine⟨.cons y .nil,fun rest=>⟨?_,rfl⟩⟩;exact VR.of (KA (SG hS f r c))
  ·cases h
 |ag l=>
  cases x with
  |ag z=>obtain⟨s,v,c⟩:=c;obtain⟨g,e⟩:=yyN hS f i j k h c;exact⟨g,fun rest=>⟨⟨s,v,(e rest).1⟩,(e rest).2⟩⟩
  |_=>cases h
 |_=>exact d h rfl fun _=>rfl
theorem tp(hS:Mem.le S S2)(f:Ns S S2 E hq)(g:RE ρ E E')(i:E'.length=ρ.length)(j:Qw hp E):∀{l:List Sh} {xs:List SV} {us:LV} {p:List SV},LC ρ hp hq l xs=some p->A2 (VR S E) xs us ->
  Can (l.flatMap Sh.o8) p/\∀rest,A2 (VR S2 E') (Wb l (p++rest)).1 us/\(Wb l (p++rest)).2=rest
 |[],[],us,p,h,b=>by cases h;cases b;exact⟨.nil,fun rest=>⟨.nil,rfl⟩⟩
 |[],_::_,_,_,h,_=>by cases h
 |_::_,[],_,_,h,_=>by cases h
 |a::l,x::xs,us,p,h,b=>by
  cases b with
  |cons k o=>
   unfold LC at h;split at h
   ·rename_i A q r s;cases h;obtain⟨t,u⟩:=Rw hS f g i j r k;obtain⟨v,y⟩:=tp hS f g i j s o;refine⟨t.X0 v,fun rest=>?_⟩;obtain⟨z,c⟩:=u (q++rest);obtain⟨d,e⟩:=y rest;rw[aU];simp only[Wb,c];exact⟨.cons z d,e⟩
   ·cases h
end
def Bd:Q0:=.H' (.slice none 0 0) 0 0 [] [] 0
def ib(L:List Q0):List X3->List Nat->List Q0
 |o::os,id::a=>(bif live o then(match Y3 L id with
  |some r=>r|none=>Bd)else Bd)::ib L os a
 |_,_=>[]
def Dk:X3->Option EI->EI
 |.dead,_=>.dead|_,none=>.dead|.H' _ _,some (.H' _ v s)=>.H' 0 v s|.qu _ _,some (.H' _ v s)=>.H' 0 v s|.mp kp _ _,some (.mp _ b ck a)=>.mp (bif kp then 0 else 1) b ck a|.U4 _ _,some (.U4 _ v c)=>.U4 0 v c|_,some e=>e
def tc(E:List EI):List X3->List Nat->List EI
 |o::os,id::a=>Dk o E[id]? :: tc E os a|_,_=>[]
theorem Sw(E:List EI):∀(os:List X3) (ids:List Nat),RE ids E (tc E os ids)
 |[],_,i,c,h=>by cases i<;>cases h
 |_::_,[],i,c,h=>by cases i<;>cases h
 |o::os,id::ids,0,c,h=>by
  cases h;cases a:E[id]? with
  |none=>left;cases o<;>rfl
  |some e=>
   cases o with
   |dead=>exact .inl rfl|N'=>exact .inr ⟨id,e,rfl,a,.inl rfl⟩|it=>exact .inr ⟨id,e,rfl,a,.inl rfl⟩|is=>exact .inr ⟨id,e,rfl,a,.inl rfl⟩|H'=>
    cases e with
    |H' r v s=>exact .inr ⟨id,_,rfl,a,.inr (.inl ⟨r,v,s,rfl,rfl⟩)⟩|_=>exact .inr ⟨id,_,rfl,a,.inl rfl⟩
   |qu=>
    cases e with
    |H' r v s=>exact .inr ⟨id,_,rfl,a,.inr (.inl ⟨r,v,s,rfl,rfl⟩)⟩|_=>exact .inr ⟨id,_,rfl,a,.inl rfl⟩
   |mp=>
    cases e with
    |mp g b ck j=>exact .inr ⟨id,_,rfl,a,.inr (.inr (.inl ⟨g,b,ck,j,_,rfl,rfl⟩))⟩|_=>exact .inr ⟨id,_,rfl,a,.inl rfl⟩
   |U4=>
    cases e with
    |U4 r v l=>exact .inr ⟨id,_,rfl,a,.inr (.inr (.inr ⟨r,v,l,rfl,rfl⟩))⟩|_=>exact .inr ⟨id,_,rfl,a,.inl rfl⟩
 |o::os,id::ids,k+1,c,h=>by
  have h:(tc E os ids)[k]? = some c:=by simpa[tc]using h
  rcases Sw E os ids k c h with d|⟨f,e,d,p,q⟩
  ·exact .inl d
  ·exact .inr ⟨f,e,by simpa using d,p,q⟩
theorem vp(E:List EI):∀(os:List X3) (ids:List Nat) {k:Nat} {kp:Bool} {K V:Ty} {g b ck:Nat} {es:List MapEntry},os[k]? = some (.mp kp K V)->(tc E os ids)[k]? = some (.mp g b ck es)->g=bif kp then 0 else 1
 |[],_,_,_,_,_,_,_,_,_,h,_=>by simp at h
 |_::_,[],_,_,_,_,_,_,_,_,_,h=>by simp[tc]at h
 |o::os,id::ids,0,_,_,_,_,_,_,_,h,a=>by
  simp at h;subst h;simp only[tc,List.getElem?_cons_zero,Option.some.injEq]at a;cases c:E[id]? with
  |none=>rw[c]at a;cases a
  |some e=>rw[c]at a;cases e<;>cases a;rfl
 |o::os,id::ids,k+1,_,_,_,_,_,_,_,h,a=>vp E os ids (k:=k) (by simpa using h) (by simpa[tc]using a)
theorem xeH(E:List EI):∀(os:List X3) (ids:List Nat),os.length=ids.length->(tc E os ids).length=ids.length
 |[],[],_=>rfl|_::os,_::ids,h=>by simp[tc,xeH E os ids (by simpa using h)]
theorem wN(L:List Q0):∀(os:List X3) (ids:List Nat) (k:Nat) (q:Q0),Y3 (ib L os ids) k=some q->q=Bd∨∃o id,os[k]? = some o/\live o=true/\ids[k]? = some id/\Y3 L id=some q
 |[],_,k,q,h=>by simp[ib,Y3]at h
 |o::os,[],k,q,h=>by simp[ib,Y3]at h
 |o::os,id::ids,0,q,h=>by
  simp only[ib,Y3]at h;cases a:live o with
  |false=>rw[a]at h;cases h;exact .inl rfl
  |true=>
   rw[a]at h;simp only[zF,Option.some.injEq]at h;cases b:Y3 L id with
   |none=>rw[b]at h;exact .inl h.symm|some r=>rw[b]at h;subst h;exact .inr ⟨o,id,rfl,a,rfl,b⟩
 |o::os,id::ids,k+1,q,h=>by
  simp only[ib,Y3]at h;rcases wN L os ids k q h with c|⟨e,d,c,f,g,i⟩
  ·exact .inl c
  ·exact .inr ⟨e,d,by simpa using c,f,by simpa using g,i⟩
theorem ypC{id:Nat}:∀{os:List X3} {ids:List Nat} {k:Nat} {o:X3},os[k]? = some o->live o=true->ids[k]? = some id->QP id os ids=true
 |[],_,k,_,h,_,_=>by simp at h
 |_::_,[],k,_,_,_,h=>by simp at h
 |o::os,i::ids,0,_,a,c,b=>by simp at a b;subst a;subst b;simp[QP,c]
 |o::os,i::ids,k+1,_,a,c,b=>by simp only[QP,cH];exact .inr (ypC (by simpa using a) c (by simpa using b))
theorem NU:∀{os:List X3} {ids:List Nat} {k k':Nat} {o o':X3} {id:Nat},Wf os ids=true->os[k]? = some o->live o=true->ids[k]? = some id->os[k']? = some o'->live o'=true->ids[k']? = some id->k=k'
 |[],_,k,_,_,_,_,_,h,_,_,_,_,_=>by simp at h
 |_::_,[],k,_,_,_,_,_,_,_,h,_,_,_=>by simp at h
 |o::os,i::ids,k,k',j,l,id,a,b,f,c,d,g,e=>by
  simp only[Wf,Bool.and_eq_true,cH,Bool.not_eq_true']at a;cases k with
  |zero=>
   simp at b c;subst b;subst c;cases k' with
   |zero=>rfl|succ k'=>
    rcases a.1 with h|h
    ·rw[f]at h;cases h
    ·rw[ypC (by simpa using d) g (by simpa using e)]at h;cases h
  |succ k=>
   cases k' with
   |zero=>
    simp at d e;subst d;subst e;rcases a.1 with h|h
    ·rw[g]at h;cases h
    ·rw[ypC (by simpa using b) f (by simpa using c)]at h;cases h
   |succ k'=>exact congrArg (· + 1) (NU a.2 (by simpa using b) f (by simpa using c) (by simpa using d) g (by simpa using e))
theorem HS.re{B:r9}{S:Mem}{w:World}{L:List Q0}(H:HS B S w L){os:List X3}{ids:List Nat}(f:Wf os ids=true):HS B S w (ib L os ids):=by
 refine⟨H.fr,H.sub,H.keep,fun i q h=>?_,fun i q b h d=>?_,fun i j q s b g k hq e=>?_⟩
 ·rcases wN L os ids i q h with rfl|⟨_,id,_,_,_,h⟩
  ·exact .inl ⟨rfl,rfl,rfl,rfl⟩
  ·exact H.own id q h
 ·rcases wN L os ids i q h with rfl|⟨_,id,_,_,_,h⟩
  ·cases d
  ·exact H.old id q b h d
 ·rcases wN L os ids i q g with rfl|⟨y,a,l,o,p,r⟩
  ·cases hq
  ·rcases wN L os ids j s k with rfl|⟨z,c,t,u,v,x⟩
   ·cases e
   ·have:=H.inj a c q s b r x hq e;subst this;exact NU f l o p t u v
inductive OL (S:Mem) (E:List EI):List AO->List Q0->List EI->Prop
 |nil:OL S E [] [] []
 |cons {o r e os rs es}:OR S E o r e->OL S E os rs es->OL S E (o::os) (r::rs) (e::es)
section
variable {n:Nat}{B:r9}{S:Mem}{E E':List EI}{L:List Q0}{σ:St}{m:FM}{V:Nat->Value}{w:World}{ρ:List Nat}{hp:List AO}
theorem OL.len:∀{os:List AO} {rs:List Q0} {es:List EI},OL S E os rs es->rs.length=os.length/\es.length=os.length
 |_,_,_,.nil=>⟨rfl,rfl⟩|_,_,_,.cons _ t=>by obtain⟨a,b⟩:=OL.len t;exact⟨by simp[a],by simp[b]⟩
theorem OL.at:∀{os:List AO} {rs:List Q0} {es:List EI},OL S E os rs es->∀(i:Nat) o,os[i]? = some o->∃r e,rs[i]? = some r/\es[i]? = some e/\OR S E o r e
 |_,_,_,.nil,i,o,h=>by cases i<;>cases h
 |_,_,_,.cons a t,0,o,h=>by cases h;exact⟨_,_,rfl,rfl,a⟩
 |_,_,_,.cons a t,i+1,o,h=>by obtain⟨r,e,b,c,d⟩:=OL.at t i o (by simpa using h);exact⟨r,e,by simpa using b,by simpa using c,d⟩
theorem xD{all:List X3}(J:∀(k:Nat) kp K V,all[k]? = some (.mp kp K V)->∀g b ck es,E'[k]? = some (.mp g b ck es)->g=bif kp then 0 else 1)(G:RE ρ E E')(H:E'.length=ρ.length)(M:Qw hp E) (y:∀(i:Nat) o,hp[i]? = some o->∃r e,L[i]? = some r/\E[i]? = some e/\OR S E o r e):∀{os:List X3} {ids:List Nat} {q:List SV},Hb ρ hp os ids=some q->ew all os=true->os.length=ids.length ->
  Can (os.flatMap X3.o8) q/\∀rest,OL S E' (w8 os (q++rest)) (ib L os ids) (tc E os ids)
 |[],ids,_,h,_,hl=>by
  cases h
  have:ids=[]:=by cases ids with
   |nil=>rfl|cons=>simp at hl
  subst this;exact⟨.nil,fun _=>by simp[w8,ib,tc];exact .nil⟩
 |o::os,[],_,_,_,hl=>by simp at hl
 |o::os,id::ids,q,h,A,hl=>by
  have u:os.length=ids.length:=by simpa using hl
  cases o with
  |dead=>simp only[Hb]at h;obtain⟨x,z⟩:=xD J G H M y h A u;exact⟨x,fun rest=>.cons ⟨rfl,rfl⟩ (z rest)⟩
  |N' T l=>
   simp only[Hb]at h;split at h
   ·rename_i W cs a;cases d:aJ T W with
    |false=>rw[d]at h;cases h
    |true=>
     rw[d]at h;have X:=aB d;subst X;simp only[zF]at h;split at h
     ·rename_i p1 N Z C;cases h;rw[Fa]at a;obtain⟨r,e,D,F,b,us,rfl,rfl,O⟩:=y id _ a;obtain⟨x,z⟩:=xD J G H M y C A u;obtain⟨h7,P⟩:=yyN (Mem.le_refl S) Pu G H M Z O;refine⟨h7.X0 x,fun rest=>?_⟩;obtain⟨h9,h10⟩:=P (N++rest);rw[aU];simp only[w8,h10,ib,tc,N7,D,F,live,zF,Dk];exact .cons ⟨b,us,rfl,rfl,h9⟩ (z rest)
     ·cases h
   ·cases h
  |H' e T=>
   simp only[Hb]at h;split at h
   ·rename_i r R W ys a;cases d:aJ T W with
    |false=>rw[d]at h;cases h
    |true=>
     rw[d]at h;have X:=aB d;subst X;simp only[zF]at h;split at h
     ·rename_i Q N Z C;cases h;subst Q;rw[Fa]at a;obtain⟨U,e1,D,F,v,v',cs,rs,rfl,rfl,O⟩:=y id _ a;obtain⟨x,z⟩:=xD J G H M y C A u;refine⟨Can.cons (t:=.sl R) (show den (.sl R)from ys) x,fun rest=>?_⟩;obtain⟨h7,P⟩:=ei R;simp only[bS,w8,P,ib,tc,N7,D,F,live,zF,Dk];exact .cons ⟨v,v',cs,rs,rfl,rfl,O⟩ (z rest)
     ·cases h
   ·cases h
  |qu e T=>
   simp only[Hb]at h;split at h
   ·rename_i r R W ys a;cases d:aJ T W with
    |false=>rw[d]at h;cases h
    |true=>
     rw[d]at h;have X:=aB d;subst X;simp only[zF]at h;split at h
     ·rename_i Q N Z C;cases h;subst Q;rw[Fa]at a;obtain⟨U,e1,D,F,b,c,p,ps,cs,rs,qq,c',rfl,rfl,O⟩:=y id _ a;obtain⟨x,z⟩:=xD J G H M y C A u;refine⟨Can.cons (t:=.sl R) (show den (.sl R)from ys) x,fun rest=>?_⟩;obtain⟨h7,P⟩:=ei R;simp only[bS,w8,P,ib,tc,N7,D,F,live,zF,Dk];exact .cons ⟨b,c,p,ps,cs,rs,qq,c',rfl,rfl,O⟩ (z rest)
     ·cases h
   ·cases h
  |mp kp K V=>
   simp only[Hb]at h;split at h
   ·rename_i g K' V' es a;split at h
    ·rename_i Q N Z C;cases h;cases Q;rw[Fa]at a;obtain⟨U,e1,D,F,b,Q',ck,rfl,rfl,O,h7⟩:=y id _ a;obtain⟨x,z⟩:=xD J G H M y C A u;refine⟨Can.cons (t:=.mp _ _) (show den (.mp _ _)from es) x,fun rest=>?_⟩;obtain⟨P,h9⟩:=ei (.mp K V);simp only[bS,w8,h9,ib,tc,N7,D,F,live,zF,Dk];exact .cons ⟨b,Q',ck,rfl,rfl,O,h7⟩ (z rest)
    ·cases h
   ·cases h
  |is=>
   simp only[Hb]at h;split at h
   ·rename_i l p N a C;cases h;rw[Fa]at a;obtain⟨U,e1,D,F,b,rfl,rfl⟩:=y id _ a;obtain⟨x,z⟩:=xD J G H M y C A u;refine⟨Can.cons (t:=.s) l (Can.cons (t:=.i .i64) (p:Int) x),fun rest=>?_⟩;simp only[bS,w8,ib,tc,N7,D,F,live,zF,Dk];exact .cons ⟨b,rfl,rfl⟩ (z rest)
   ·cases h
  |U4 T f=>
   simp only[Hb]at h;split at h
   ·rename_i r W f' ks a;cases d:aJ T W with
    |false=>rw[d]at h;cases h
    |true=>
     rw[d]at h;have X:=aB d;subst X;simp only[zF]at h;split at h
     ·rename_i Q N Z C;cases h;subst Q;rw[Fa]at a;obtain⟨U,e1,D,F,v,rs,ms,bs,rfl,rfl,O⟩:=y id _ a;obtain⟨x,z⟩:=xD J G H M y C A u;refine⟨Can.cons (t:=.sl (fT f')) (show den (.sl (fT f'))from ks) x,fun rest=>?_⟩;obtain⟨h7,P⟩:=ei (fT f');simp only[bS,w8,P,ib,tc,N7,D,F,live,zF,Dk];exact .cons ⟨v,rs,ms,bs,rfl,rfl,O⟩ (z rest)
     ·cases h
   ·cases h
  |it j kp K=>
   simp only[ew]at A;split at A
   ·rename_i kp' K0 V0 hj;have hkp:kp'=kp:=by cases kp<;>cases kp'<;>first|rfl|cases Z3 A
    subst hkp;replace A:=Y4 A;simp only[Hb]at h;split at h
    ·rename_i mid g K' cur ks mid' a hm;split at h
     ·rename_i g' K1 V1 es1 hm1;obtain⟨d,hq⟩:=r7 h;clear h;have h1:=aB (Z3 d);have x:=aB (Y4 d);subst h1;subst x;split at hq
      ·rename_i Q N Z C;cases hq;subst Q;rw[Fa]at a hm hm1 hj;obtain⟨U,e1,D,F,b,mb,ck,seen,rfl,rfl,hK,e2,k3,k4⟩:=y id _ a;obtain⟨I,e3,_,k5,b3,Q',ck3,rfl,rfl,_,_⟩:=y mid _ hm1;rw[k5]at k3;cases k3;obtain⟨_,k6⟩:=k4 _ _ _ _ rfl;obtain⟨x,z⟩:=xD J G H M y C A u;refine⟨Can.cons (t:=.sl K') (show den (.sl K')from ks) x,fun rest=>?_⟩;obtain⟨P,h9⟩:=ei K';simp only[bS,w8,h9,ib,tc,N7,D,F,live,zF,Dk];refine .cons ⟨b,mb,ck,seen,rfl,rfl,hK,?_⟩ (z rest);have hjl:j<E'.length:=by rw[H];exact(aC.1 hm).1
       refine⟨E'[j],aH hjl,fun g2 b2 c2 es2 he=>?_⟩;have Y:=aH hjl;rw[he]at Y;have hg2:=J j _ _ _ hj _ _ _ _ Y;subst hg2;refine⟨aL _,fun _=>?_⟩;rcases G j _ Y with h|⟨id',R,U,r2,I⟩
       ·cases h
       ·rw[hm]at U;cases U;rw[k5]at r2;cases r2;obtain⟨N,q2,q3⟩:=k6 rfl;have q4:b2=b3/\c2=ck3/\es2=Q':=by
         rcases I with I|⟨_,_,_,I,_⟩|⟨_,_,_,_,_,I,r4⟩|⟨_,_,_,I,_⟩
         ·cases I;exact⟨rfl,rfl,rfl⟩
         ·cases I
         ·cases I;cases r4;exact⟨rfl,rfl,rfl⟩
         ·cases I
        obtain⟨rfl,rfl,rfl⟩:=q4;exact⟨N,q2,fun en hen=>⟨(q3 en hen).1,fun c hcc=>by cases hcc⟩⟩
      ·cases hq
     ·cases h
    ·cases h
   ·cases A
theorem fi(c:RE ρ E E')(e:E'.length=ρ.length)(f:Qw σ.hp E)(g:∀t,VR S E (z7 σ.sl t) (V t)):∀{s:List (Nat×Sh)} {p:List SV},Fo ρ σ s=some p ->
  Can (s.flatMap fun p=>p.2.o8) p/\∀rest,(∀t,VR S E' (z7 (tJ s (p++rest)).1 t) (V t))/\(tJ s (p++rest)).2=rest
 |[],p,h=>by cases h;exact⟨.nil,fun rest=>⟨fun t=>trivial,rfl⟩⟩
 |(d,a)::s,p,h=>by
  unfold Fo at h;split at h
  ·rename_i z i j k;cases h;obtain⟨l,o⟩:=Rw (Mem.le_refl S) Pu c e f j (g d);obtain⟨q,r⟩:=fi c e f g k;refine⟨l.X0 q,fun rest=>?_⟩;obtain⟨u,v⟩:=o (i++rest);obtain⟨x,b⟩:=r rest;rw[aU];simp only[tJ,v];refine⟨fun t=>?_,b⟩;unfold z7;cases y:aJ d t with
   |true=>rw[<-aB y];exact u|false=>exact x t
  ·cases h
theorem zQ(k:Nat)(b:List (Nat×Nat)):∀(os:List X3) (i:Nat),os.length=(As k b i os).length
 |[],_=>rfl|_::os,i=>by simp[As,zQ k b os (i+1)]
theorem OU(R:l3 B S E L σ V w){s:c7}{ρ:List Nat}{x:b8 s.o8}(d:s.hp.length=ρ.length)(h:s.Zc ρ σ=some x):l3 B S (tc E s.hp ρ) (ib L s.hp ρ) (s.put x) V w:=by
 unfold c7.Zc at h;obtain⟨c,h⟩:=r7 h;have hit:=Y4 c;replace c:=Z3 c;split at h
 ·rename_i p q l r;have e:Qw σ.hp E:=.of R.obj;have f:=Sw E s.hp ρ;have j:=xeH E s.hp ρ d;obtain⟨t,u⟩:=fi f j e R.sl l;obtain⟨v,y⟩:=xD (all:=s.hp) (fun k kp K V z g b ck H A=>vp E s.hp ρ z A) f j e R.obj r hit d;have C:rc s.o8 x=p++q:=YZ [] (t.X0 v) h;obtain⟨D,F⟩:=u q;unfold c7.put;rw[C];have a:=y [];rw[List.append_nil]at a;rw[F];exact⟨HS.re R.hs c,a.len.1,a.len.2,fun i o G=>a.at i o G,D⟩
 ·cases h
def Bc(e e':EI):Prop:=e' = .dead∨e'=e∨(∃g b ck f h a c,e = .mp g b ck f/\e' = .mp h b a c/\(h=0->g=0/\a=ck/\T9 f c))∨∃r v i j v' d,e = .U4 r v i/\e' = .U4 j v' d
theorem Bc.refl(e:EI):Bc e e:=.inr (.inl rfl)
theorem Bc.trans{a b c:EI}(h:Bc a b)(k:Bc b c):Bc a c:=by
 rcases k with rfl|rfl|⟨g,x,ck,u,y,d,e,rfl,rfl,k⟩|⟨r,v,z,A,v',f,rfl,rfl⟩
 ·exact .inl rfl
 ·exact h
 ·rcases h with h|h|⟨C,D,F,G,H,I,J,rfl,h,i⟩|⟨_,_,_,_,_,_,_,h⟩
  ·cases h
  ·subst h;exact .inr (.inr (.inl ⟨_,_,_,_,_,_,_,rfl,rfl,k⟩))
  ·cases h;refine .inr (.inr (.inl ⟨_,_,_,_,_,_,_,rfl,rfl,fun j=>?_⟩));obtain⟨l,o,p⟩:=k j;obtain⟨q,s,t⟩:=i l;exact⟨q,o.trans s,t.trans p⟩
  ·cases h
 ·rcases h with h|h|⟨_,_,_,_,_,_,_,_,h,_⟩|⟨_,_,_,_,_,_,rfl,h⟩
  ·cases h
  ·subst h;exact .inr (.inr (.inr ⟨_,_,_,_,_,_,rfl,rfl⟩))
  ·cases h
  ·exact .inr (.inr (.inr ⟨_,_,_,_,_,_,rfl,rfl⟩))
def l8(c:Nat)(E E':List EI):Prop:=∀(k:Nat) e,k<c->E[k]? = some e->∃a,E'[k]? = some a/\((∃r v s,e = .H' r v s/\(a = .dead∨∃b v',a = .H' b v' s/\(b=0->r=0/\v'=v)))∨((∀r v s,e≠.H' r v s)/\Bc e a))
theorem l8.refl(b:Nat)(E:List EI):l8 b E E:=fun k e _ h=>⟨e,h,by
 by_cases a:∃r v s,e = .H' r v s
 ·obtain⟨r,v,s,rfl⟩:=a;exact .inl ⟨r,v,s,rfl,.inr ⟨r,v,rfl,fun h=>⟨h,rfl⟩⟩⟩
 ·exact .inr ⟨fun r v s h=>a ⟨r,v,s,h⟩,.refl e⟩⟩
theorem Bc.AQ{e e':EI}(h:Bc e e')(a:∀r v s,e≠.H' r v s):∀r v s,e'≠.H' r v s:=fun r v s b=>by
 subst b;rcases h with h|h|⟨_,_,_,_,_,_,_,_,h,_⟩|⟨_,_,_,_,_,_,_,h⟩
 ·cases h
 ·exact a _ _ _ h.symm
 ·cases h
 ·cases h
theorem l8.trans{d:Nat}{A B C:List EI}(h:l8 d A B)(k:l8 d B C):l8 d A C:=fun i e f g=>by
 obtain⟨j,l,b⟩:=h i e f g;obtain⟨o,p,a⟩:=k i j f l;refine⟨o,p,?_⟩;rcases b with⟨r,v,s,rfl,b⟩|⟨c,b⟩
 ·refine .inl ⟨r,v,s,rfl,?_⟩;rcases b with rfl|⟨F,G,rfl,b⟩
  ·rcases a with⟨_,_,_,h,_⟩|⟨_,a⟩
   ·cases h
   ·rcases a with a|a|⟨_,_,_,_,_,_,_,h,_,_⟩|⟨_,_,_,_,_,_,h,_⟩
    ·exact .inl a
    ·exact .inl a
    ·cases h
    ·cases h
  ·rcases a with⟨H,I,J,h,a⟩|⟨c,_⟩
   ·cases h;rcases a with a|⟨q,t,rfl,a⟩
    ·exact .inl a
    ·refine .inr ⟨q,t,rfl,fun u=>?_⟩;obtain⟨x,y⟩:=a u;obtain⟨z,D⟩:=b x;exact⟨z,y.trans D⟩
   ·exact absurd rfl (c _ _ _)
 ·refine .inr ⟨c,?_⟩;rcases a with⟨r,v,s,h,_⟩|⟨_,a⟩
  ·exact absurd h (b.AQ c _ _ _)
  ·exact b.trans a
theorem l8.of{i:Nat}{E E':List EI}(h:V4 E E'):l8 i E E':=fun k e _ j=>by
 obtain⟨d,l,a⟩:=h k e j;refine⟨d,l,?_⟩;cases e with
 |N' b=>
  refine .inr ⟨fun _ _ _ h=>(by cases h),?_⟩;rcases a with a|a
  ·exact .inr (.inl a)
  ·exact .inl a
 |H' r v s=>
  refine .inl ⟨r,v,s,rfl,?_⟩;rcases a with rfl|rfl|⟨f,v',rfl,c⟩
  ·exact .inr ⟨r,v,rfl,fun h=>⟨h,rfl⟩⟩
  ·exact .inl rfl
  ·exact .inr ⟨f,v',rfl,fun h=>by omega⟩
 |mp g b ck x=>
  refine .inr ⟨fun _ _ _ h=>(by cases h),?_⟩;rcases a with rfl|⟨y,o,p,rfl,c⟩
  ·exact .inl rfl
  ·refine .inr (.inr (.inl ⟨_,_,_,_,_,_,_,rfl,rfl,fun z=>?_⟩));rcases c with c|⟨A,q,t⟩
   ·omega
   ·exact⟨by omega,q.symm,t⟩
 |U4 r v C=>
  refine .inr ⟨fun _ _ _ h=>(by cases h),?_⟩;rcases a with a|a|⟨f,v',u,rfl,c⟩
  ·exact .inr (.inl a)
  ·exact .inl a
  ·exact .inr (.inr (.inr ⟨_,_,_,_,_,_,rfl,rfl⟩))
 |dead=>have a:d = .dead:=a;exact .inr ⟨fun _ _ _ h=>(by cases h),.inl a⟩
theorem Tw:∀(n i k:Nat) (l:List (Nat×Nat)),i<=k->k<i+n->Nu (FG i n++l) k=some k
 |0,_,_,_,b,c=>by omega
 |n+1,i,k,l,b,c=>by
  simp only[FG,bS,Nu];cases a:aJ i k with
  |true=>rw[aB a];rfl|false=>
   have:i≠k:=fun e=>by subst e;rw[eJ]at a;cases a
   exact Tw n (i+1) k l (by omega) (by omega)
theorem xp{a b:List (Nat×Nat)}{k i:Nat}(h:Nu a k=some i):Nu (a++b) k=some i:=by
 induction a with
 |nil=>cases h
 |cons p a d=>
  obtain⟨x,y⟩:=p;simp only[bS,Nu]at h ⊢;cases c:aJ x k with
  |true=>rw[c]at h;exact h|false=>rw[c]at h;exact d h
theorem yD(hp:List AO){k i:Nat}:∀(os:List X3) (j:Nat) (b:List (Nat×Nat)),Nu b k=some i->Nu (cw hp j os b) k=some i
 |[],_,_,h=>h|.N' _ l::os,j,b,h=>by
  unfold cw;refine yD hp os (j+1) _ ?_;split
  ·split
   ·exact xp h
   ·exact h
  ·exact h
 |.it _ _ _::os,j,b,h=>by
  unfold cw;refine yD hp os (j+1) _ ?_;split
  ·split
   ·exact xp h
   ·exact h
  ·exact h
 |.is::os,j,b,h=>yD hp os (j+1) b h|.qu _ _::os,j,b,h=>yD hp os (j+1) b h|.H' _ _::os,j,b,h=>yD hp os (j+1) b h|.mp _ _ _::os,j,b,h=>yD hp os (j+1) b h|.U4 _ _::os,j,b,h=>yD hp os (j+1) b h|.dead::os,j,b,h=>yD hp os (j+1) b h
theorem yp(n:Nat)(b:List (Nat×Nat)):∀(os:List X3) (j k:Nat),k<os.length->(As n b j os)[k]? = some (match Nu b (j+k) with
  |some id=>id|none=>n)
 |[],_,_,h=>by simp at h
 |_::os,j,0,_=>rfl|_::os,j,k+1,h=>by have:=yp n b os (j+1) k (by simpa using h);rw[show j+1+k=j+(k+1) by omega]at this;simpa[As]using this
theorem AD{a k:Nat}{s:c7}(hk:k<a)(b:a<=s.hp.length):(s.Td a σ)[k]? = some k:=by unfold c7.Td;rw[yp _ _ _ _ _ (by omega),yD _ _ _ _ (Tw a 0 (0+k) _ (by omega) (by omega))];simp
theorem Ql(E:List EI):∀(os:List X3) (ids:List Nat) (k id:Nat),os.length=ids.length->ids[k]? = some id->∃o,os[k]? = some o/\(tc E os ids)[k]? = some (Dk o E[id]?)
 |[],[],k,_,_,h=>by simp at h
 |o::os,id::ids,0,_,_,h=>by simp at h;subst h;exact⟨o,rfl,rfl⟩
 |o::os,id::ids,k+1,i,a,h=>by obtain⟨b,c,d⟩:=Ql E os ids k i (by simpa using a) (by simpa using h);exact⟨b,by simpa using c,by simpa[tc]using d⟩
theorem gi:∀{f:Nat} {l:List AO} {os:List X3} {k:Nat},zk f l os=true->k<f->∀{b:Nat} {e:Ty} {T:TypeId} {xs:List (den e)} {e':Ty} {T':TypeId},l[k]? = some (.H' b e T xs)->os[k]? = some (.H' e' T')->b=0
 |0,_,_,_,_,h,_,_,_,_,_,_,_,_=>by omega
 |n+1,[],_,k,_,_,_,_,_,_,_,_,h,_=>by simp at h
 |n+1,a::l,[],k,_,_,_,_,_,_,_,_,_,h=>by simp at h
 |n+1,a::l,o::os,0,h,_,b,e,T,xs,e',T',c,d=>by simp at c d;subst c;subst d;exact aB (Z3 h)
 |n+1,a::l,o::os,k+1,h,i,b,e,T,xs,e',T',c,d=>by
  have g:zk n l os=true:=by cases a<;>cases o<;>first|exact h|exact Y4 h|cases h
  exact gi (k:=k) g (by omega) (by simpa using c) (by simpa using d)
theorem xdF:∀{d:Nat} {l:List AO} {os:List X3} {k:Nat} {T:TypeId} {f:List x6},zk d l os=true->k<d->k<l.length->os[k]? = some (.U4 T f)->False
 |0,_,_,_,_,_,_,h,_,_=>by omega
 |n+1,[],_,k,_,_,_,_,h,_=>by simp at h
 |n+1,a::l,[],k,_,_,_,_,_,h=>by simp at h
 |n+1,a::l,o::os,0,_,_,h,_,_,b=>by simp at b;subst b;cases a<;>cases h
 |n+1,a::l,o::os,k+1,_,_,h,g,c,b=>by
  have e:zk n l os=true:=by cases a<;>cases o<;>first|exact h|exact Y4 h|cases h
  exact xdF (k:=k) e (by omega) (by simpa using c) (by simpa using b)
theorem ii:∀{d:Nat} {l:List AO} {os:List X3} {k:Nat} {e:Ty} {T:TypeId},zk d l os=true->k<d->k<l.length->os[k]? = some (.qu e T)->False
 |0,_,_,_,_,_,_,h,_,_=>by omega
 |n+1,[],_,k,_,_,_,_,h,_=>by simp at h
 |n+1,a::l,[],k,_,_,_,_,_,h=>by simp at h
 |n+1,a::l,o::os,0,_,_,h,_,_,b=>by simp at b;subst b;cases a<;>cases h
 |n+1,a::l,o::os,k+1,_,_,h,g,c,b=>by
  have f:zk n l os=true:=by cases a<;>cases o<;>first|exact h|exact Y4 h|cases h
  exact ii (k:=k) f (by omega) (by simpa using c) (by simpa using b)
theorem BD(σ:St)(id:Nat):(Lh σ id).hp.length=σ.hp.length:=by
 unfold Lh;split
 ·simp[me]
 ·rfl
theorem PU:∀(l:List Nat) (σ:St),(x5 σ l).hp.length=σ.hp.length
 |[],_=>rfl|i::l,σ=>(PU l (Lh σ i)).trans (BD σ i)
theorem CD(σ:St)(id k:Nat){o:AO}(h:(Lh σ id).hp[k]? = some o):∃o',σ.hp[k]? = some o'/\(o = .dead∨(∀a e T (xs:List (den e)),o = .H' a e T xs->o'=o)):=by
 unfold Lh at h;split at h
 ·rename_i a e T xs i;simp only[cF,me]at h;cases hq:(σ.hp.set id .dead)[k]? with
  |none=>rw[hq]at h;cases h
  |some q=>
   rw[hq]at h;by_cases b:id=k
   ·subst b;have c:id<σ.hp.length:=by have:=(aC.1 hq).1;simpa using this
    rw[aP c]at hq;cases hq;cases h;exact⟨σ.hp[id],aH c,.inl rfl⟩
   ·rw[aS b]at hq;refine⟨q,hq,.inr fun d j l f g=>?_⟩;cases h;cases q<;>first|rfl|cases g
 ·exact⟨o,h,.inr fun _ _ _ _ _=>rfl⟩
theorem zp:∀(l:List Nat) (σ:St) (k:Nat) {a:Nat} {e:Ty} {T:TypeId} {xs:List (den e)},(x5 σ l).hp[k]? = some (.H' a e T xs)->σ.hp[k]? = some (.H' a e T xs)
 |[],_,_,_,_,_,_,h=>h|i::l,σ,k,_,_,_,_,h=>by
  have c:=zp l (Lh σ i) k h;obtain⟨f,d,b⟩:=CD σ i k c;rcases b with b|b
  ·cases b
  ·rw[d,b _ _ _ _ rfl]
theorem ji:∀{i:Nat} {l:List AO} {os:List X3} {k:Nat},zk i l os=true->k<i->∀{g:Nat} {K V:Ty} {es:List (den K×den V)} {e f:Ty},l[k]? = some (.mp g K V es)->os[k]? = some (.mp true e f)->g=0
 |0,_,_,_,_,h,_,_,_,_,_,_,_,_=>by omega
 |n+1,[],_,k,_,_,_,_,_,_,_,_,h,_=>by simp at h
 |n+1,a::l,[],k,_,_,_,_,_,_,_,_,_,h=>by simp at h
 |n+1,a::l,o::os,0,h,_,g,K,V,es,e,f,b,c=>by simp at b c;subst b;subst c;have d:=Z3 h;simp only[Bool.not_true,Bool.false_or]at d;exact aB d
 |n+1,a::l,o::os,k+1,h,j,g,K,V,es,e,f,b,c=>by
  have d:zk n l os=true:=by cases a<;>cases o<;>first|exact h|exact Y4 h|cases h
  exact ji (k:=k) d (by omega) (by simpa using b) (by simpa using c)
theorem Ap:∀(l:List Nat) (σ:St) (k:Nat) {g:Nat} {K V:Ty} {es:List (den K×den V)},(x5 σ l).hp[k]? = some (.mp g K V es)->σ.hp[k]? = some (.mp g K V es)
 |[],_,_,_,_,_,_,h=>h|i::l,σ,k,g,K,V,es,h=>by
  have a:=Ap l (Lh σ i) k h;unfold Lh at a;split at a
  ·simp only[cF,me]at a;by_cases b:i=k
   ·subst b;cases hq:(σ.hp.set i .dead)[i]? with
    |none=>rw[hq]at a;cases a
    |some q=>
     have c:i<σ.hp.length:=by have:=(aC.1 hq).1;simpa using this
     rw[aP c]at a;cases a
   ·rw[aS b]at a;cases hq:σ.hp[k]? with
    |none=>rw[hq]at a;cases a
    |some q=>rw[hq]at a;cases q<;>first|exact a|cases a
  ·exact a
theorem xbS:∀{d:Nat} {l:List AO} {os:List X3} {k:Nat} {c:Nat} {e:Ty} {T:TypeId} {xs:List (den e)} {o:X3},zk d l os=true->k<d->l[k]? = some (.qu c e T xs)->os[k]? = some o->False
 |0,_,_,_,_,_,_,_,_,_,h,_,_=>by omega
 |n+1,[],_,k,_,_,_,_,_,_,_,h,_=>by simp at h
 |n+1,a::l,[],k,_,_,_,_,_,_,_,_,h=>by simp at h
 |n+1,a::l,o::os,0,_,_,_,_,_,h,_,b,_=>by simp at b;subst b;cases o<;>cases h
 |n+1,a::l,o::os,k+1,_,_,_,_,_,h,i,b,f=>by
  have g:zk n l os=true:=by cases a<;>cases o<;>first|exact h|exact Y4 h|cases h
  exact xbS (k:=k) g (by omega) (by simpa using b) (by simpa using f)
theorem Bp:∀(l:List Nat) (σ:St) (k:Nat) {b:Nat} {e:Ty} {T:TypeId} {xs:List (den e)},(x5 σ l).hp[k]? = some (.qu b e T xs)->σ.hp[k]? = some (.qu b e T xs)
 |[],_,_,_,_,_,_,h=>h|i::l,σ,k,b,e,T,xs,h=>by
  have a:=Bp l (Lh σ i) k h;unfold Lh at a;split at a
  ·simp only[cF,me]at a;by_cases c:i=k
   ·subst c;cases hq:(σ.hp.set i .dead)[i]? with
    |none=>rw[hq]at a;cases a
    |some q=>
     have d:i<σ.hp.length:=by have:=(aC.1 hq).1;simpa using this
     rw[aP d]at a;cases a
   ·rw[aS c]at a;cases hq:σ.hp[k]? with
    |none=>rw[hq]at a;cases a
    |some q=>rw[hq]at a;cases q<;>first|exact a|cases a
  ·exact a
theorem LA{d:Nat}(_R:l3 B S E L σ V w)(N:∀l:List Nat,∃S' E' C,Mem.le S S'/\V4 E E'/\l3 B S' E' C (x5 σ l) V w){s:c7}{x:b8 s.o8}(h:s.get d σ=some x):∃S' E' C,Mem.le S S'/\l8 d E E'/\l3 B S' E' C (s.put x) V w:=by
 unfold c7.get at h;cases i:Nat.ble d s.hp.length&&zk d σ.hp s.hp with
 |false=>rw[i]at h;cases h
 |true=>
 rw[i]at h;have D:=Nat.le_of_ble_eq_true (Z3 i);obtain⟨O,P,L1,hS,F,j⟩:=N (s.need d σ);have J:=zQ σ.hp.length (cw σ.hp 0 s.hp (FG 0 d++s.sl.flatMap fun p=>p.2.V3 (z7 σ.sl p.1))) s.hp 0;have Q:s.Zc (s.Td d σ) (x5 σ (s.need d σ))=some x:=h;refine⟨O,_,_,hS,(l8.of F).trans fun k e u q=>?_,OU j J h⟩;obtain⟨o,t,G⟩:=Ql P s.hp (s.Td d σ) k k J (AD u D);refine⟨_,G,?_⟩;rw[q];have key:∀{A:EI},(∀r v s,e≠.H' r v s)->Bc e A->((∃r v s,e = .H' r v s/\(A = .dead∨∃M v',A = .H' M v' s/\(M=0->r=0/\v'=v)))∨((∀r v s,e≠.H' r v s)/\Bc e A)):=fun t G=>.inr ⟨t,G⟩;cases o with
 |dead=>
  cases e with
  |H' r v z=>exact .inl ⟨r,v,z,rfl,.inl rfl⟩|_=>exact key (fun _ _ _ h=>by cases h) (.inl rfl)
 |N'=>
  cases e with
  |H' r v z=>exact .inl ⟨r,v,z,rfl,.inr ⟨r,v,rfl,fun h=>⟨h,rfl⟩⟩⟩|_=>exact key (fun _ _ _ h=>by cases h) (.inr (.inl rfl))
 |it=>
  cases e with
  |H' r v z=>exact .inl ⟨r,v,z,rfl,.inr ⟨r,v,rfl,fun h=>⟨h,rfl⟩⟩⟩|_=>exact key (fun _ _ _ h=>by cases h) (.inr (.inl rfl))
 |is=>
  cases e with
  |H' r v z=>exact .inl ⟨r,v,z,rfl,.inr ⟨r,v,rfl,fun h=>⟨h,rfl⟩⟩⟩|_=>exact key (fun _ _ _ h=>by cases h) (.inr (.inl rfl))
 |H' e' T'=>
  cases e with
  |H' r v z=>
   refine .inl ⟨r,v,z,rfl,.inr ⟨0,v,rfl,fun _=>⟨?_,rfl⟩⟩⟩
   -- R version is 0, by zk
   have f:k<(x5 σ (s.need d σ)).hp.length:=by rw[<-j.lE];exact(aC.1 q).1
   obtain⟨T,U,W,y,a⟩:=j.obj k _ (aH f);rw[q]at y;cases y;cases hq:(x5 σ (s.need d σ)).hp[k] with
   |H' H X Y Z=>rw[hq]at a;obtain⟨_,_,_,_,_,c,_⟩:=a;cases c;have I:=zp (s.need d σ) σ k (by rw[aH f,hq]);exact gi (Y4 i) u I t
   |N'=>rw[hq]at a;obtain⟨_,_,_,c,_⟩:=a;cases c
   |mp=>rw[hq]at a;obtain⟨_,_,_,_,c,_⟩:=a;cases c
   |it=>rw[hq]at a;obtain⟨_,_,_,_,_,c,_⟩:=a;cases c
   |is=>rw[hq]at a;obtain⟨_,_,c⟩:=a;cases c
   |qu H X Y Z=>exact(xbS (Y4 i) u (Bp (s.need d σ) σ k (by rw[aH f,hq])) t).elim|U4=>rw[hq]at a;obtain⟨_,_,_,_,_,c,_⟩:=a;cases c
   |wa=>rw[hq]at a;obtain⟨_,_,_,_,_,_,_,c,_⟩:=a;cases c
   |dead=>rw[hq]at a;cases a.2
  |_=>exact key (fun _ _ _ h=>by cases h) (.inr (.inl rfl))
 |U4=>exact(xdF (Y4 i) u (by rw[<-PU (s.need d σ),<-j.lE];exact(aC.1 q).1) t).elim|qu=>exact(ii (Y4 i) u (by rw[<-PU (s.need d σ),<-j.lE];exact(aC.1 q).1) t).elim|mp kp K V=>
  cases e with
  |mp g b ck es=>
   refine key (fun _ _ _ h=>by cases h) (.inr (.inr (.inl ⟨_,_,_,_,_,_,_,rfl,rfl,fun h0=>?_⟩)));refine⟨?_,rfl,T9.refl _⟩;cases kp with
   |false=>cases h0
   |true=>
    have f:k<(x5 σ (s.need d σ)).hp.length:=by rw[<-j.lE];exact(aC.1 q).1
    obtain⟨T,U,W,y,a⟩:=j.obj k _ (aH f);rw[q]at y;cases y;cases hq:(x5 σ (s.need d σ)).hp[k] with
    |mp g2 K2 V2 es2=>rw[hq]at a;obtain⟨_,_,_,_,c,_⟩:=a;cases c;exact ji (Y4 i) u (Ap (s.need d σ) σ k (by rw[aH f,hq])) t
    |N'=>rw[hq]at a;obtain⟨_,_,_,c,_⟩:=a;cases c
    |H'=>rw[hq]at a;obtain⟨_,_,_,_,_,c,_⟩:=a;cases c
    |it=>rw[hq]at a;obtain⟨_,_,_,_,_,c,_⟩:=a;cases c
    |is=>rw[hq]at a;obtain⟨_,_,c⟩:=a;cases c
    |qu=>rw[hq]at a;obtain⟨_,_,_,_,_,_,_,_,_,c,_⟩:=a;cases c
    |U4=>rw[hq]at a;obtain⟨_,_,_,_,_,c,_⟩:=a;cases c
    |wa=>rw[hq]at a;obtain⟨_,_,_,_,_,_,_,c,_⟩:=a;cases c
    |dead=>rw[hq]at a;cases a.2
  |H' r v z=>exact .inl ⟨r,v,z,rfl,.inr ⟨r,v,rfl,fun h=>⟨h,rfl⟩⟩⟩|_=>exact key (fun _ _ _ h=>by cases h) (.inr (.inl rfl))
end
end Go.Proofs.YtopanhneegpgcaaGreatDoor.Am
